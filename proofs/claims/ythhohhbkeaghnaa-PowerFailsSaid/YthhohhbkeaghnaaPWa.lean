/- Layer 33 (power): what the functions compute. -/
import Derived.Test.YthhohhbkeaghnaaEVr1c
set_option linter.unusedSimpArgs false
set_option linter.unusedVariables false
set_option linter.unusedSectionVars false
open Go Go.Ev Go.Proofs Go.Proofs.Ythhohhbkeaghnaa
namespace S1
set_option maxRecDepth 10000

theorem spec25 (n : Int) (h : AH) : CL E0 ft0 (.fn 25) [.int .i64 n] none h = .ret (.bool (decide (n < 0) || decide (n > 1048576))) h false := by
  rw [CL_body ft25 (by simp [Try.f25]) (by decide)]
  simp only [Try.f25]
  cases hb : decide (n < 0)
  · simp (failIfUnchanged := false) (maxSteps := 1000000) (maxDischargeDepth := 5) only [go_sem, cap_eq, Nat.reduceLT, Nat.reduceLeDiff, and_self, and_true, true_and, ↓reduceIte, decide_true, decide_false, Nat.le_refl, Nat.reduceEqDiff, reduceCtorEq, Nat.zero_add, Nat.reduceAdd, Nat.reducePow, Int.reduceEq, Int.reduceLT, Int.reduceLE, Int.reduceGT, Int.reduceGE, not_true_eq_false, Nat.reduceDiv, Nat.reduceMod, Nat.lt_add_one, Nat.lt_irrefl, Nat.add_lt_add_iff_left, Nat.lt_add_right_iff_pos, List.getElem?_cons_zero, List.getElem?_cons_succ, Option.bind_some, Nat.succ_ne_zero, ne_eq, not_false_eq_true, if_false, if_true, Option.getD_some, Bool.not_true, Bool.not_false, hb, Bool.false_or]
  · simp (failIfUnchanged := false) (maxSteps := 1000000) (maxDischargeDepth := 5) only [go_sem, cap_eq, Nat.reduceLT, Nat.reduceLeDiff, and_self, and_true, true_and, ↓reduceIte, decide_true, decide_false, Nat.le_refl, Nat.reduceEqDiff, reduceCtorEq, Nat.zero_add, Nat.reduceAdd, Nat.reducePow, Int.reduceEq, Int.reduceLT, Int.reduceLE, Int.reduceGT, Int.reduceGE, not_true_eq_false, Nat.reduceDiv, Nat.reduceMod, Nat.lt_add_one, Nat.lt_irrefl, Nat.add_lt_add_iff_left, Nat.lt_add_right_iff_pos, List.getElem?_cons_zero, List.getElem?_cons_succ, Option.bind_some, Nat.succ_ne_zero, ne_eq, not_false_eq_true, if_false, if_true, Option.getD_some, Bool.not_true, Bool.not_false, hb, Bool.true_or]

theorem spec27 (n : Int) (h : AH) : CL E0 ft0 (.fn 27) [.int .i64 n] none h = .ret (.bool (decide (n > 0))) h false := by
  rw [CL_body ft27 (by simp [Try.f27]) (by decide)]
  simp only [Try.f27]
  simp (failIfUnchanged := false) (maxSteps := 1000000) (maxDischargeDepth := 5) only [go_sem, cap_eq, Nat.reduceLT, Nat.reduceLeDiff, and_self, and_true, true_and, ↓reduceIte, decide_true, decide_false, Nat.le_refl, Nat.reduceEqDiff, reduceCtorEq, Nat.zero_add, Nat.reduceAdd, Nat.reducePow, Int.reduceEq, Int.reduceLT, Int.reduceLE, Int.reduceGT, Int.reduceGE, not_true_eq_false, Nat.reduceDiv, Nat.reduceMod, Nat.lt_add_one, Nat.lt_irrefl, Nat.add_lt_add_iff_left, Nat.lt_add_right_iff_pos, List.getElem?_cons_zero, List.getElem?_cons_succ, Option.bind_some, Nat.succ_ne_zero, ne_eq, not_false_eq_true, if_false, if_true, Option.getD_some, Bool.not_true, Bool.not_false]

/-- The place of the first number that is told. -/
def firstI (p : Int → Bool) : List Int → Int → Int
  | [], _ => -1
  | x :: l, i => if p x then i else firstI p l (i + 1)

theorem spec40 (fid : FuncId) (p : Int → Bool) (a : Option Addr) (len cp : Nat) (l : List Int) (h : AH) (hi : Holds h vI64 a len l) (hl : len ≤ 9223372036854775807)
    (hp : ∀ n, CL E0 ft0 (.fn fid) [.int .i64 n] none h = .ret (.bool (p n)) h false) :
    CL E0 ft0 (.fn 40) [.slice a len cp, .func (.func fid) ⟨[]⟩ ⟨[]⟩] none h = .ret (.int .i64 (firstI p l 0)) h false := by
  refine W_body (K := fun x => x = _) ft40 (by simp [Try.f40]) (by decide) ?_
  simp only [Try.f40]
  simp (failIfUnchanged := false) (maxSteps := 1000000) (maxDischargeDepth := 5) only [go_sem, cap_eq, Nat.reduceLT, Nat.reduceLeDiff, and_self, and_true, true_and, ↓reduceIte, decide_true, decide_false, Nat.le_refl, Nat.reduceEqDiff, reduceCtorEq, Nat.zero_add, Nat.reduceAdd, Nat.reducePow, Int.reduceEq, Int.reduceLT, Int.reduceLE, Int.reduceGT, Int.reduceGE, not_true_eq_false, Nat.reduceDiv, Nat.reduceMod, Nat.lt_add_one, Nat.lt_irrefl, Nat.add_lt_add_iff_left, Nat.lt_add_right_iff_pos, List.getElem?_cons_zero, List.getElem?_cons_succ, Option.bind_some, Nat.succ_ne_zero, ne_eq, not_false_eq_true, if_false, if_true, Option.getD_some, Bool.not_true, Bool.not_false]
  refine W_loop (fun k s => ∃ (i : Nat) (r : Tr Value), k + i = len ∧ s = ⟨r, 19, [], h, false⟩ ∧ r.get 0 = some (.slice a len cp) ∧ r.get 1 = some (.func (.func fid) ⟨[]⟩ ⟨[]⟩) ∧ r.get 7 = some (.int .i64 len) ∧ r.get 8 = some (.int .i64 i) ∧ firstI p (l.drop i) i = firstI p l 0) ?_ len _ ?_
  · rintro k _ ⟨i, r, hk, rfl, h0, h1, h7, h8, hf⟩
    by_cases hlt : (i : Int) < (len : Int)
    · obtain ⟨b, off, blk, z, rfl, hbn, hb, hz, hz2⟩ := hi.at (i := i) (by omega)
      have hlen := hi.1
      have hnn : (0 : Int) ≤ (i : Int) := by omega
      have hw : IntKind.i64.wrap ((i : Int) + 1) = (i : Int) + 1 := IntWalk.i64_in _ (by omega)
      rw [List.drop_eq_getElem_cons (by omega), show l[i]'(by omega) = z by rw [List.getElem?_eq_getElem (by omega)] at hz; simpa using hz] at hf
      cases hpz : p z
      · simp (failIfUnchanged := false) (maxSteps := 1000000) (maxDischargeDepth := 5) only [go_sem, cap_eq, Nat.reduceLT, Nat.reduceLeDiff, and_self, and_true, true_and, ↓reduceIte, decide_true, decide_false, Nat.le_refl, Nat.reduceEqDiff, reduceCtorEq, Nat.zero_add, Nat.reduceAdd, Nat.reducePow, Int.reduceEq, Int.reduceLT, Int.reduceLE, Int.reduceGT, Int.reduceGE, not_true_eq_false, Nat.reduceDiv, Nat.reduceMod, Nat.lt_add_one, Nat.lt_irrefl, Nat.add_lt_add_iff_left, Nat.lt_add_right_iff_pos, List.getElem?_cons_zero, List.getElem?_cons_succ, Option.bind_some, Nat.succ_ne_zero, ne_eq, not_false_eq_true, if_false, if_true, Option.getD_some, Bool.not_true, Bool.not_false, h0, h1, h7, h8, hlt, hb, hz2, hp, hnn, hw, Int.toNat_natCast, Nat.mul_one, hpz, Bool.false_eq_true]
        refine ⟨k - 1, by omega, i + 1, _, by omega, rfl, ?_⟩
        simp only [firstI, hpz, Bool.false_eq_true, if_false] at hf
        simp (failIfUnchanged := false) (maxSteps := 1000000) (maxDischargeDepth := 5) only [go_sem, cap_eq, Nat.reduceLT, Nat.reduceLeDiff, and_self, and_true, true_and, ↓reduceIte, decide_true, decide_false, Nat.le_refl, Nat.reduceEqDiff, reduceCtorEq, Nat.zero_add, Nat.reduceAdd, Nat.reducePow, Int.reduceEq, Int.reduceLT, Int.reduceLE, Int.reduceGT, Int.reduceGE, not_true_eq_false, Nat.reduceDiv, Nat.reduceMod, Nat.lt_add_one, Nat.lt_irrefl, Nat.add_lt_add_iff_left, Nat.lt_add_right_iff_pos, List.getElem?_cons_zero, List.getElem?_cons_succ, Option.bind_some, Nat.succ_ne_zero, ne_eq, not_false_eq_true, if_false, if_true, Option.getD_some, Bool.not_true, Bool.not_false, h0, h1, h7, h8, Int.natCast_add, Int.natCast_one, hf]
      · simp (failIfUnchanged := false) (maxSteps := 1000000) (maxDischargeDepth := 5) only [go_sem, cap_eq, Nat.reduceLT, Nat.reduceLeDiff, and_self, and_true, true_and, ↓reduceIte, decide_true, decide_false, Nat.le_refl, Nat.reduceEqDiff, reduceCtorEq, Nat.zero_add, Nat.reduceAdd, Nat.reducePow, Int.reduceEq, Int.reduceLT, Int.reduceLE, Int.reduceGT, Int.reduceGE, not_true_eq_false, Nat.reduceDiv, Nat.reduceMod, Nat.lt_add_one, Nat.lt_irrefl, Nat.add_lt_add_iff_left, Nat.lt_add_right_iff_pos, List.getElem?_cons_zero, List.getElem?_cons_succ, Option.bind_some, Nat.succ_ne_zero, ne_eq, not_false_eq_true, if_false, if_true, Option.getD_some, Bool.not_true, Bool.not_false, h0, h1, h7, h8, hlt, hb, hz2, hp, hnn, hw, Int.toNat_natCast, Nat.mul_one, hpz, Bool.false_eq_true]
        simp only [firstI, hpz, if_true] at hf
        rw [← hf]
    · simp (failIfUnchanged := false) (maxSteps := 1000000) (maxDischargeDepth := 5) only [go_sem, cap_eq, Nat.reduceLT, Nat.reduceLeDiff, and_self, and_true, true_and, ↓reduceIte, decide_true, decide_false, Nat.le_refl, Nat.reduceEqDiff, reduceCtorEq, Nat.zero_add, Nat.reduceAdd, Nat.reducePow, Int.reduceEq, Int.reduceLT, Int.reduceLE, Int.reduceGT, Int.reduceGE, not_true_eq_false, Nat.reduceDiv, Nat.reduceMod, Nat.lt_add_one, Nat.lt_irrefl, Nat.add_lt_add_iff_left, Nat.lt_add_right_iff_pos, List.getElem?_cons_zero, List.getElem?_cons_succ, Option.bind_some, Nat.succ_ne_zero, ne_eq, not_false_eq_true, if_false, if_true, Option.getD_some, Bool.not_true, Bool.not_false, h0, h1, h7, h8, hlt]
      obtain rfl : i = l.length := by have := hi.1; omega
      rw [List.drop_length] at hf
      rw [← hf]; rfl
  · exact ⟨0, _, by omega, rfl, by simp (failIfUnchanged := false) (maxSteps := 1000000) (maxDischargeDepth := 5) only [go_sem, cap_eq, Nat.reduceLT, Nat.reduceLeDiff, and_self, and_true, true_and, ↓reduceIte, decide_true, decide_false, Nat.le_refl, Nat.reduceEqDiff, reduceCtorEq, Nat.zero_add, Nat.reduceAdd, Nat.reducePow, Int.reduceEq, Int.reduceLT, Int.reduceLE, Int.reduceGT, Int.reduceGE, not_true_eq_false, Nat.reduceDiv, Nat.reduceMod, Nat.lt_add_one, Nat.lt_irrefl, Nat.add_lt_add_iff_left, Nat.lt_add_right_iff_pos, List.getElem?_cons_zero, List.getElem?_cons_succ, Option.bind_some, Nat.succ_ne_zero, ne_eq, not_false_eq_true, if_false, if_true, Option.getD_some, Bool.not_true, Bool.not_false], by simp (failIfUnchanged := false) (maxSteps := 1000000) (maxDischargeDepth := 5) only [go_sem, cap_eq, Nat.reduceLT, Nat.reduceLeDiff, and_self, and_true, true_and, ↓reduceIte, decide_true, decide_false, Nat.le_refl, Nat.reduceEqDiff, reduceCtorEq, Nat.zero_add, Nat.reduceAdd, Nat.reducePow, Int.reduceEq, Int.reduceLT, Int.reduceLE, Int.reduceGT, Int.reduceGE, not_true_eq_false, Nat.reduceDiv, Nat.reduceMod, Nat.lt_add_one, Nat.lt_irrefl, Nat.add_lt_add_iff_left, Nat.lt_add_right_iff_pos, List.getElem?_cons_zero, List.getElem?_cons_succ, Option.bind_some, Nat.succ_ne_zero, ne_eq, not_false_eq_true, if_false, if_true, Option.getD_some, Bool.not_true, Bool.not_false], by simp (failIfUnchanged := false) (maxSteps := 1000000) (maxDischargeDepth := 5) only [go_sem, cap_eq, Nat.reduceLT, Nat.reduceLeDiff, and_self, and_true, true_and, ↓reduceIte, decide_true, decide_false, Nat.le_refl, Nat.reduceEqDiff, reduceCtorEq, Nat.zero_add, Nat.reduceAdd, Nat.reducePow, Int.reduceEq, Int.reduceLT, Int.reduceLE, Int.reduceGT, Int.reduceGE, not_true_eq_false, Nat.reduceDiv, Nat.reduceMod, Nat.lt_add_one, Nat.lt_irrefl, Nat.add_lt_add_iff_left, Nat.lt_add_right_iff_pos, List.getElem?_cons_zero, List.getElem?_cons_succ, Option.bind_some, Nat.succ_ne_zero, ne_eq, not_false_eq_true, if_false, if_true, Option.getD_some, Bool.not_true, Bool.not_false], by simp (failIfUnchanged := false) (maxSteps := 1000000) (maxDischargeDepth := 5) only [go_sem, cap_eq, Nat.reduceLT, Nat.reduceLeDiff, and_self, and_true, true_and, ↓reduceIte, decide_true, decide_false, Nat.le_refl, Nat.reduceEqDiff, reduceCtorEq, Nat.zero_add, Nat.reduceAdd, Nat.reducePow, Int.reduceEq, Int.reduceLT, Int.reduceLE, Int.reduceGT, Int.reduceGE, not_true_eq_false, Nat.reduceDiv, Nat.reduceMod, Nat.lt_add_one, Nat.lt_irrefl, Nat.add_lt_add_iff_left, Nat.lt_add_right_iff_pos, List.getElem?_cons_zero, List.getElem?_cons_succ, Option.bind_some, Nat.succ_ne_zero, ne_eq, not_false_eq_true, if_false, if_true, Option.getD_some, Bool.not_true, Bool.not_false]; rfl, rfl⟩

theorem firstI_ge (p : Int → Bool) : ∀ (l : List Int) (i : Int), 0 ≤ i → (firstI p l i ≥ 0 ↔ l.any p = true)
  | [], i, h => by simp [firstI]
  | x :: l, i, h => by
    unfold firstI
    cases hp : p x
    · simpa [hp] using firstI_ge p l (i + 1) (by omega)
    · simpa [hp] using h

theorem spec26 (fid : FuncId) (p : Int → Bool) (a : Option Addr) (len cp : Nat) (l : List Int) (h : AH) (hi : Holds h vI64 a len l) (hl : len ≤ 9223372036854775807)
    (hp : ∀ n, CL E0 ft0 (.fn fid) [.int .i64 n] none h = .ret (.bool (p n)) h false) :
    CL E0 ft0 (.fn 26) [.slice a len cp, .func (.func fid) ⟨[]⟩ ⟨[]⟩] none h = .ret (.bool (l.any p)) h false := by
  refine W_body (K := fun x => x = _) ft26 (by simp [Try.f26]) (by decide) ?_
  simp only [Try.f26]
  simp (failIfUnchanged := false) (maxSteps := 1000000) (maxDischargeDepth := 5) only [go_sem, cap_eq, Nat.reduceLT, Nat.reduceLeDiff, and_self, and_true, true_and, ↓reduceIte, decide_true, decide_false, Nat.le_refl, Nat.reduceEqDiff, reduceCtorEq, Nat.zero_add, Nat.reduceAdd, Nat.reducePow, Int.reduceEq, Int.reduceLT, Int.reduceLE, Int.reduceGT, Int.reduceGE, not_true_eq_false, Nat.reduceDiv, Nat.reduceMod, Nat.lt_add_one, Nat.lt_irrefl, Nat.add_lt_add_iff_left, Nat.lt_add_right_iff_pos, List.getElem?_cons_zero, List.getElem?_cons_succ, Option.bind_some, Nat.succ_ne_zero, ne_eq, not_false_eq_true, if_false, if_true, Option.getD_some, Bool.not_true, Bool.not_false, spec40 fid p a len cp l h hi hl hp, firstI_ge p l 0 (Int.le_refl _), Bool.decide_eq_true]

/-- May a supply be? -/
def rightP (l : List Int) (room on : Int) : Bool := decide ((l.length : Int) ≥ 1) && decide ((l.length : Int) ≤ 4096) && !(l.any fun n => decide (n < 0) || decide (n > 1048576)) && decide (on ≥ 1) && decide (on ≤ room) && decide (room ≤ 1048576)

theorem spec12 (a : Option Addr) (len cp : Nat) (l : List Int) (room on : Int) (h : AH) (hi : Holds h vI64 a len l) (hl : len ≤ 9223372036854775807) (hc : h.next + 10 < 1099511627776) (K : CRes → Prop) 
    (hk : ∀ v h', v = rightP l room on → h'.next = h.next + 1 → Ext h h' → K (.ret (.bool v) h' false)) : K (CL E0 ft0 (.fn 12) [.agg ⟨[.slice a len cp, .int .i64 room, .int .i64 on]⟩] none h) := by
  refine W_body ft12 (by simp [Try.f12]) (by decide) ?_
  simp only [Try.f12]
  have hc0 : h.next < 1099511627776 := by omega
  simp (failIfUnchanged := false) (maxSteps := 1000000) (maxDischargeDepth := 5) only [go_sem, cap_eq, Nat.reduceLT, Nat.reduceLeDiff, and_self, and_true, true_and, ↓reduceIte, decide_true, decide_false, Nat.le_refl, Nat.reduceEqDiff, reduceCtorEq, Nat.zero_add, Nat.reduceAdd, Nat.reducePow, Int.reduceEq, Int.reduceLT, Int.reduceLE, Int.reduceGT, Int.reduceGE, not_true_eq_false, Nat.reduceDiv, Nat.reduceMod, Nat.lt_add_one, Nat.lt_irrefl, Nat.add_lt_add_iff_left, Nat.lt_add_right_iff_pos, List.getElem?_cons_zero, List.getElem?_cons_succ, Option.bind_some, Nat.succ_ne_zero, ne_eq, not_false_eq_true, if_false, if_true, Option.getD_some, Bool.not_true, Bool.not_false, hc0]
  have hi' := fun b => (hi.new b hc0).2
  obtain rfl := hi.1
  repeat' (first | (refine ifG_two (fun hg => ?_) (fun hg => ?_) <;> (try simp only [Bool.not_eq_true', Bool.not_eq_false'] at hg) <;> simp (failIfUnchanged := false) (maxSteps := 1000000) (maxDischargeDepth := 5) only [go_sem, cap_eq, Nat.reduceLT, Nat.reduceLeDiff, and_self, and_true, true_and, ↓reduceIte, decide_true, decide_false, Nat.le_refl, Nat.reduceEqDiff, reduceCtorEq, Nat.zero_add, Nat.reduceAdd, Nat.reducePow, Int.reduceEq, Int.reduceLT, Int.reduceLE, Int.reduceGT, Int.reduceGE, not_true_eq_false, Nat.reduceDiv, Nat.reduceMod, Nat.lt_add_one, Nat.lt_irrefl, Nat.add_lt_add_iff_left, Nat.lt_add_right_iff_pos, List.getElem?_cons_zero, List.getElem?_cons_succ, Option.bind_some, Nat.succ_ne_zero, ne_eq, not_false_eq_true, if_false, if_true, Option.getD_some, Bool.not_true, Bool.not_false, hg, hc0, spec26 25 (fun n => decide (n < 0) || decide (n > 1048576)) a _ cp l _ (hi' _) hl (fun n => spec25 n _)]))
  all_goals refine hk _ _ ?_ rfl ((Ext.refl h).new _ hc0)
  all_goals unfold rightP
  all_goals simp_all only [Bool.and_true, Bool.true_and, Bool.and_false, Bool.false_and, Bool.not_true, Bool.not_false]

theorem spec13 (a : Option Addr) (len cp : Nat) (l : List Int) (room on : Int) (h : AH) (hi : Holds h vI64 a len l) (hl : len ≤ 9223372036854775807) (hc : h.next + 10 < 1099511627776) (K : CRes → Prop) 
    (hk : ∀ h', h'.next = h.next + 1 → Ext h h' → K (.ret (.bool (l.any fun n => decide (n > 0))) h' false)) : K (CL E0 ft0 (.fn 13) [.agg ⟨[.slice a len cp, .int .i64 room, .int .i64 on]⟩] none h) := by
  refine W_body ft13 (by simp [Try.f13]) (by decide) ?_
  simp only [Try.f13]
  have hc0 : h.next < 1099511627776 := by omega
  have hi' := fun b => (hi.new b hc0).2
  simp (failIfUnchanged := false) (maxSteps := 1000000) (maxDischargeDepth := 5) only [go_sem, cap_eq, Nat.reduceLT, Nat.reduceLeDiff, and_self, and_true, true_and, ↓reduceIte, decide_true, decide_false, Nat.le_refl, Nat.reduceEqDiff, reduceCtorEq, Nat.zero_add, Nat.reduceAdd, Nat.reducePow, Int.reduceEq, Int.reduceLT, Int.reduceLE, Int.reduceGT, Int.reduceGE, not_true_eq_false, Nat.reduceDiv, Nat.reduceMod, Nat.lt_add_one, Nat.lt_irrefl, Nat.add_lt_add_iff_left, Nat.lt_add_right_iff_pos, List.getElem?_cons_zero, List.getElem?_cons_succ, Option.bind_some, Nat.succ_ne_zero, ne_eq, not_false_eq_true, if_false, if_true, Option.getD_some, Bool.not_true, Bool.not_false, hc0, spec26 27 (fun n => decide (n > 0)) a _ cp l _ (hi' _) hl (fun n => spec27 n _)]
  exact hk _ rfl ((Ext.refl h).new _ hc0)

theorem rightP_iff (l : List Int) (room on : Int) : rightP l room on = true ↔ (1 ≤ l.length ∧ l.length ≤ 4096 ∧ (∀ x, x ∈ l → 0 ≤ x ∧ x ≤ 1048576) ∧ 1 ≤ on ∧ on ≤ room ∧ room ≤ 1048576) := by
  unfold rightP
  simp only [Bool.and_eq_true, decide_eq_true_eq, Bool.not_eq_true', List.any_eq_false, Bool.or_eq_true]
  constructor
  · rintro ⟨⟨⟨⟨⟨h1, h2⟩, h3⟩, h4⟩, h5⟩, h6⟩
    exact ⟨by omega, by omega, fun x hx => by have := h3 x hx; omega, h4, h5, h6⟩
  · rintro ⟨h1, h2, h3, h4, h5, h6⟩
    exact ⟨⟨⟨⟨⟨by omega, by omega⟩, fun x hx => by have := h3 x hx; omega⟩, h4⟩, h5⟩, h6⟩
theorem rightP_false {l : List Int} {room on : Int} (h : ¬ (1 ≤ l.length ∧ l.length ≤ 4096 ∧ (∀ x, x ∈ l → 0 ≤ x ∧ x ≤ 1048576) ∧ 1 ≤ on ∧ on ≤ room ∧ room ≤ 1048576)) : false = rightP l room on := by
  cases hr : rightP l room on
  · rfl
  · exact absurd ((rightP_iff l room on).1 hr) h

theorem spec11 (a : Option Addr) (len cp : Nat) (l : List Int) (room on : Int) (h : AH) (hi : Holds h vI64 a len l) (hl : len ≤ 9223372036854775807) (K : CRes → Prop)
    (hk : ∀ v, v = rightP l room on → K (.ret (.bool v) h false)) : K (CL E0 ft0 (.fn 11) [.slice a len cp, .int .i64 room, .int .i64 on] none h) := by
  refine W_body ft11 (by simp [Try.f11]) (by decide) ?_
  simp only [Try.f11]
  obtain rfl := hi.1
  simp (failIfUnchanged := false) (maxSteps := 1000000) (maxDischargeDepth := 5) only [go_sem, cap_eq, Nat.reduceLT, Nat.reduceLeDiff, and_self, and_true, true_and, ↓reduceIte, decide_true, decide_false, Nat.le_refl, Nat.reduceEqDiff, reduceCtorEq, Nat.zero_add, Nat.reduceAdd, Nat.reducePow, Int.reduceEq, Int.reduceLT, Int.reduceLE, Int.reduceGT, Int.reduceGE, not_true_eq_false, Nat.reduceDiv, Nat.reduceMod, Nat.lt_add_one, Nat.lt_irrefl, Nat.add_lt_add_iff_left, Nat.lt_add_right_iff_pos, List.getElem?_cons_zero, List.getElem?_cons_succ, Option.bind_some, Nat.succ_ne_zero, ne_eq, not_false_eq_true, if_false, if_true, Option.getD_some, Bool.not_true, Bool.not_false]
  repeat' (first | (refine ifG_two (fun hg => ?_) (fun hg => ?_) <;> (try simp only [Bool.not_eq_true', Bool.not_eq_false'] at hg) <;> simp (failIfUnchanged := false) (maxSteps := 1000000) (maxDischargeDepth := 5) only [go_sem, cap_eq, Nat.reduceLT, Nat.reduceLeDiff, and_self, and_true, true_and, ↓reduceIte, decide_true, decide_false, Nat.le_refl, Nat.reduceEqDiff, reduceCtorEq, Nat.zero_add, Nat.reduceAdd, Nat.reducePow, Int.reduceEq, Int.reduceLT, Int.reduceLE, Int.reduceGT, Int.reduceGE, not_true_eq_false, Nat.reduceDiv, Nat.reduceMod, Nat.lt_add_one, Nat.lt_irrefl, Nat.add_lt_add_iff_left, Nat.lt_add_right_iff_pos, List.getElem?_cons_zero, List.getElem?_cons_succ, Option.bind_some, Nat.succ_ne_zero, ne_eq, not_false_eq_true, if_false, if_true, Option.getD_some, Bool.not_true, Bool.not_false, hg]))
  rotate_left 1
  iterate 4 · refine hk _ (rightP_false ?_)
              rintro ⟨h1, h2, h3, h4, h5, h6⟩
              simp only [decide_eq_true_eq, decide_eq_false_iff_not] at *
              omega
  simp only [decide_eq_false_iff_not] at *
  refine wCond_dec (fun hr => ?_) (fun hr => ?_)
  · simp (failIfUnchanged := false) (maxSteps := 1000000) (maxDischargeDepth := 5) only [go_sem, cap_eq, Nat.reduceLT, Nat.reduceLeDiff, and_self, and_true, true_and, ↓reduceIte, decide_true, decide_false, Nat.le_refl, Nat.reduceEqDiff, reduceCtorEq, Nat.zero_add, Nat.reduceAdd, Nat.reducePow, Int.reduceEq, Int.reduceLT, Int.reduceLE, Int.reduceGT, Int.reduceGE, not_true_eq_false, Nat.reduceDiv, Nat.reduceMod, Nat.lt_add_one, Nat.lt_irrefl, Nat.add_lt_add_iff_left, Nat.lt_add_right_iff_pos, List.getElem?_cons_zero, List.getElem?_cons_succ, Option.bind_some, Nat.succ_ne_zero, ne_eq, not_false_eq_true, if_false, if_true, Option.getD_some, Bool.not_true, Bool.not_false]
    refine hk _ (rightP_false ?_)
    omega
  simp (failIfUnchanged := false) (maxSteps := 1000000) (maxDischargeDepth := 5) only [go_sem, cap_eq, Nat.reduceLT, Nat.reduceLeDiff, and_self, and_true, true_and, ↓reduceIte, decide_true, decide_false, Nat.le_refl, Nat.reduceEqDiff, reduceCtorEq, Nat.zero_add, Nat.reduceAdd, Nat.reducePow, Int.reduceEq, Int.reduceLT, Int.reduceLE, Int.reduceGT, Int.reduceGE, not_true_eq_false, Nat.reduceDiv, Nat.reduceMod, Nat.lt_add_one, Nat.lt_irrefl, Nat.add_lt_add_iff_left, Nat.lt_add_right_iff_pos, List.getElem?_cons_zero, List.getElem?_cons_succ, Option.bind_some, Nat.succ_ne_zero, ne_eq, not_false_eq_true, if_false, if_true, Option.getD_some, Bool.not_true, Bool.not_false]
  refine W_loop (fun k s => ∃ (i : Nat) (r : Tr Value), k + i = l.length ∧ s = ⟨r, 47, [], h, false⟩ ∧ r.get 0 = some (.slice a l.length cp) ∧ r.get 7 = some (.int .i64 i) ∧ ∀ x, x ∈ l.take i → 0 ≤ x ∧ x ≤ 1048576) ?_ l.length _ ?_
  · rintro k _ ⟨i, r, hk', rfl, h0, h7, hf⟩
    simp (failIfUnchanged := false) (maxSteps := 1000000) (maxDischargeDepth := 5) only [go_sem, cap_eq, Nat.reduceLT, Nat.reduceLeDiff, and_self, and_true, true_and, ↓reduceIte, decide_true, decide_false, Nat.le_refl, Nat.reduceEqDiff, reduceCtorEq, Nat.zero_add, Nat.reduceAdd, Nat.reducePow, Int.reduceEq, Int.reduceLT, Int.reduceLE, Int.reduceGT, Int.reduceGE, not_true_eq_false, Nat.reduceDiv, Nat.reduceMod, Nat.lt_add_one, Nat.lt_irrefl, Nat.add_lt_add_iff_left, Nat.lt_add_right_iff_pos, List.getElem?_cons_zero, List.getElem?_cons_succ, Option.bind_some, Nat.succ_ne_zero, ne_eq, not_false_eq_true, if_false, if_true, Option.getD_some, Bool.not_true, Bool.not_false, h0, h7]
    refine wCond_dec (fun hlt => ?_) (fun hlt => ?_)
    · obtain ⟨b, off, blk, z, rfl, hbn, hb, hz, hz2⟩ := hi.at (i := i) (by omega)
      have hnn : (0 : Int) ≤ (i : Int) := by omega
      have hw : IntKind.i64.wrap ((i : Int) + 1) = (i : Int) + 1 := IntWalk.i64_in _ (by omega)
      have hmem : z ∈ l := List.mem_of_getElem? hz
      simp (failIfUnchanged := false) (maxSteps := 1000000) (maxDischargeDepth := 5) only [go_sem, cap_eq, Nat.reduceLT, Nat.reduceLeDiff, and_self, and_true, true_and, ↓reduceIte, decide_true, decide_false, Nat.le_refl, Nat.reduceEqDiff, reduceCtorEq, Nat.zero_add, Nat.reduceAdd, Nat.reducePow, Int.reduceEq, Int.reduceLT, Int.reduceLE, Int.reduceGT, Int.reduceGE, not_true_eq_false, Nat.reduceDiv, Nat.reduceMod, Nat.lt_add_one, Nat.lt_irrefl, Nat.add_lt_add_iff_left, Nat.lt_add_right_iff_pos, List.getElem?_cons_zero, List.getElem?_cons_succ, Option.bind_some, Nat.succ_ne_zero, ne_eq, not_false_eq_true, if_false, if_true, Option.getD_some, Bool.not_true, Bool.not_false, h0, h7, hnn, hlt, hb, hz2, hw, Int.toNat_natCast, Nat.mul_one]
      repeat' (first | (refine ifG_two (fun hg => ?_) (fun hg => ?_) <;> (try simp only [Bool.not_eq_true', Bool.not_eq_false'] at hg) <;> simp (failIfUnchanged := false) (maxSteps := 1000000) (maxDischargeDepth := 5) only [go_sem, cap_eq, Nat.reduceLT, Nat.reduceLeDiff, and_self, and_true, true_and, ↓reduceIte, decide_true, decide_false, Nat.le_refl, Nat.reduceEqDiff, reduceCtorEq, Nat.zero_add, Nat.reduceAdd, Nat.reducePow, Int.reduceEq, Int.reduceLT, Int.reduceLE, Int.reduceGT, Int.reduceGE, not_true_eq_false, Nat.reduceDiv, Nat.reduceMod, Nat.lt_add_one, Nat.lt_irrefl, Nat.add_lt_add_iff_left, Nat.lt_add_right_iff_pos, List.getElem?_cons_zero, List.getElem?_cons_succ, Option.bind_some, Nat.succ_ne_zero, ne_eq, not_false_eq_true, if_false, if_true, Option.getD_some, Bool.not_true, Bool.not_false, hg, h0, h7, hnn, hlt, hb, hz2, hw, Int.toNat_natCast, Nat.mul_one]))
      · refine wCond_dec (fun hz3 => ?_) (fun hz3 => ?_)
        · simp (failIfUnchanged := false) (maxSteps := 1000000) (maxDischargeDepth := 5) only [go_sem, cap_eq, Nat.reduceLT, Nat.reduceLeDiff, and_self, and_true, true_and, ↓reduceIte, decide_true, decide_false, Nat.le_refl, Nat.reduceEqDiff, reduceCtorEq, Nat.zero_add, Nat.reduceAdd, Nat.reducePow, Int.reduceEq, Int.reduceLT, Int.reduceLE, Int.reduceGT, Int.reduceGE, not_true_eq_false, Nat.reduceDiv, Nat.reduceMod, Nat.lt_add_one, Nat.lt_irrefl, Nat.add_lt_add_iff_left, Nat.lt_add_right_iff_pos, List.getElem?_cons_zero, List.getElem?_cons_succ, Option.bind_some, Nat.succ_ne_zero, ne_eq, not_false_eq_true, if_false, if_true, Option.getD_some, Bool.not_true, Bool.not_false]
          refine hk _ (rightP_false ?_)
          rintro ⟨h1, h2, h3, h4⟩
          have := h3 z hmem
          omega
        · simp (failIfUnchanged := false) (maxSteps := 1000000) (maxDischargeDepth := 5) only [go_sem, cap_eq, Nat.reduceLT, Nat.reduceLeDiff, and_self, and_true, true_and, ↓reduceIte, decide_true, decide_false, Nat.le_refl, Nat.reduceEqDiff, reduceCtorEq, Nat.zero_add, Nat.reduceAdd, Nat.reducePow, Int.reduceEq, Int.reduceLT, Int.reduceLE, Int.reduceGT, Int.reduceGE, not_true_eq_false, Nat.reduceDiv, Nat.reduceMod, Nat.lt_add_one, Nat.lt_irrefl, Nat.add_lt_add_iff_left, Nat.lt_add_right_iff_pos, List.getElem?_cons_zero, List.getElem?_cons_succ, Option.bind_some, Nat.succ_ne_zero, ne_eq, not_false_eq_true, if_false, if_true, Option.getD_some, Bool.not_true, Bool.not_false, h0, h7, hw]
          refine ⟨k - 1, by omega, i + 1, _, by omega, rfl, ?_⟩
          simp (failIfUnchanged := false) (maxSteps := 1000000) (maxDischargeDepth := 5) only [go_sem, cap_eq, Nat.reduceLT, Nat.reduceLeDiff, and_self, and_true, true_and, ↓reduceIte, decide_true, decide_false, Nat.le_refl, Nat.reduceEqDiff, reduceCtorEq, Nat.zero_add, Nat.reduceAdd, Nat.reducePow, Int.reduceEq, Int.reduceLT, Int.reduceLE, Int.reduceGT, Int.reduceGE, not_true_eq_false, Nat.reduceDiv, Nat.reduceMod, Nat.lt_add_one, Nat.lt_irrefl, Nat.add_lt_add_iff_left, Nat.lt_add_right_iff_pos, List.getElem?_cons_zero, List.getElem?_cons_succ, Option.bind_some, Nat.succ_ne_zero, ne_eq, not_false_eq_true, if_false, if_true, Option.getD_some, Bool.not_true, Bool.not_false, h0, h7, Int.natCast_add, Int.natCast_one]
          simp only [decide_eq_false_iff_not] at *
          intro x hx
          rw [List.take_add_one, List.mem_append] at hx
          rcases hx with hx | hx
          · exact hf x hx
          · rw [hz] at hx
            simp only [Option.toList_some, List.mem_singleton] at hx
            omega
      · refine hk _ (rightP_false ?_)
        rintro ⟨h1, h2, h3, h4⟩
        have := h3 z hmem
        simp only [decide_eq_true_eq] at *
        omega
    · simp (failIfUnchanged := false) (maxSteps := 1000000) (maxDischargeDepth := 5) only [go_sem, cap_eq, Nat.reduceLT, Nat.reduceLeDiff, and_self, and_true, true_and, ↓reduceIte, decide_true, decide_false, Nat.le_refl, Nat.reduceEqDiff, reduceCtorEq, Nat.zero_add, Nat.reduceAdd, Nat.reducePow, Int.reduceEq, Int.reduceLT, Int.reduceLE, Int.reduceGT, Int.reduceGE, not_true_eq_false, Nat.reduceDiv, Nat.reduceMod, Nat.lt_add_one, Nat.lt_irrefl, Nat.add_lt_add_iff_left, Nat.lt_add_right_iff_pos, List.getElem?_cons_zero, List.getElem?_cons_succ, Option.bind_some, Nat.succ_ne_zero, ne_eq, not_false_eq_true, if_false, if_true, Option.getD_some, Bool.not_true, Bool.not_false]
      refine hk _ ?_
      rw [eq_comm, rightP_iff]
      have : i = l.length := by omega
      rw [this, List.take_length] at hf
      exact ⟨by omega, by omega, hf, by omega, by omega, by omega⟩
  · refine ⟨0, _, by omega, rfl, ?_⟩
    simp (failIfUnchanged := false) (maxSteps := 1000000) (maxDischargeDepth := 5) only [go_sem, cap_eq, Nat.reduceLT, Nat.reduceLeDiff, and_self, and_true, true_and, ↓reduceIte, decide_true, decide_false, Nat.le_refl, Nat.reduceEqDiff, reduceCtorEq, Nat.zero_add, Nat.reduceAdd, Nat.reducePow, Int.reduceEq, Int.reduceLT, Int.reduceLE, Int.reduceGT, Int.reduceGE, not_true_eq_false, Nat.reduceDiv, Nat.reduceMod, Nat.lt_add_one, Nat.lt_irrefl, Nat.add_lt_add_iff_left, Nat.lt_add_right_iff_pos, List.getElem?_cons_zero, List.getElem?_cons_succ, Option.bind_some, Nat.succ_ne_zero, ne_eq, not_false_eq_true, if_false, if_true, Option.getD_some, Bool.not_true, Bool.not_false]
    exact ⟨rfl, by simp⟩
end S1
