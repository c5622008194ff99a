/- Layer 33 (power): at least On instructions between two failures. -/
import Derived.Test.YthhohhbkeaghnaaPWe
set_option linter.unusedSimpArgs false
set_option linter.unusedVariables false
set_option linter.unusedSectionVars false
open Go Go.Ev Go.Proofs Go.Proofs.Ythhohhbkeaghnaa
namespace S1
set_option maxRecDepth 10000
/-- The last one, or what there was ahead. -/
def lastD : Int → List Int → Int
  | a, [] => a
  | _, x :: l => lastD x l
/-- No two are closer than lim. -/
def Gaps (lim : Int) : Int → List Int → Prop
  | _, [] => True
  | a, x :: l => x - a ≥ lim ∧ Gaps lim x l
theorem lastD_append : ∀ (l : List Int) (a x : Int), lastD a (l ++ [x]) = x
  | [], _, _ => rfl
  | y :: l, _, x => lastD_append l y x
theorem Gaps_append {lim : Int} : ∀ {l : List Int} {a x : Int}, Gaps lim a l → x - lastD a l ≥ lim → Gaps lim a (l ++ [x])
  | [], _, _, _, h => ⟨h, True.intro⟩
  | _ :: _, _, _, h, hx => ⟨h.1, Gaps_append h.2 hx⟩
theorem Gaps_le {lim : Int} (hl : 0 ≤ lim) : ∀ {l : List Int} {a : Int}, Gaps lim a l → a ≤ lastD a l
  | [], _, _ => Int.le_refl _
  | x :: l, a, h => by have := Gaps_le hl h.2; have := h.1; simp only [lastD]; omega

theorem runP_gaps {l : List Int} {room lim : Int} (hr : rightP l room lim = true) (t : Nat) :
    Gaps lim 0 (runP room lim l t).fails ∧ lastD 0 (runP room lim l t).fails ≤ (runP room lim l t).done ∧
    ((runP room lim l t).on = true → (runP room lim l t).done + (runP room lim l t).kept ≥ lastD 0 (runP room lim l t).fails + lim) ∧
    ((runP room lim l t).on = false → (runP room lim l t).done = 0 ∧ (runP room lim l t).fails = [] ∨ (runP room lim l t).done ≥ lastD 0 (runP room lim l t).fails + lim) ∧ (runP room lim l t).kept ≤ room := by
  obtain ⟨h1, h2, h3, h4, h5, h6⟩ := (rightP_iff l room lim).1 hr
  induction t with
  | zero => exact ⟨True.intro, Int.le_refl _, fun h => (by cases h), fun _ => .inl ⟨rfl, rfl⟩, by show (0 : Int) ≤ room; omega⟩
  | succ t ih =>
    obtain ⟨i1, i2, i3, i4, i5⟩ := ih
    obtain ⟨j1, j2, j3, j4, j5, j6⟩ := runP_ok hr t
    have hz : 0 ≤ l.getD (t % l.length) 0 ∧ l.getD (t % l.length) 0 ≤ 1048576 := by
      have hm : t % l.length < l.length := Nat.mod_lt _ (by omega)
      rw [List.getD_eq_getElem?_getD, List.getElem?_eq_getElem hm]
      exact h3 _ (List.getElem_mem hm)
    unfold runP
    generalize runP room lim l t = s at *
    generalize l.getD (t % l.length) 0 = z at *
    rw [tickP_eq]
    have hroom : s.kept ≤ room → s.kept ≤ (if room < s.kept + z then room else s.kept + z) := by intro h; split <;> omega
    have hkr : (if room < s.kept + z then room else s.kept + z) ≤ room := by split <;> omega
    have hk0 : 0 ≤ (if room < s.kept + z then room else s.kept + z) := by split <;> omega
    generalize (if room < s.kept + z then room else s.kept + z) = k at *
    have hge := Gaps_le (by omega) i1
    have hk1 := hroom i5
    split
    · rename_i hc
      cases hon : s.on
      · simp only [hon, Bool.false_eq_true, false_or] at hc
        have i4' := i4 hon
        by_cases hd : s.done > 0
        · have hlast : s.done ≥ lastD 0 s.fails + lim := by rcases i4' with ⟨h, _⟩ | h <;> omega
          simp only [hd, and_self, if_true, lastD_append]
          refine ⟨Gaps_append i1 (by omega), by omega, fun _ => by omega, fun h => .inr ?_, by omega⟩
          simp only [decide_eq_false_iff_not] at h
          omega
        · have hf : s.done = 0 ∧ s.fails = [] := by
            rcases i4' with h | h
            · exact h
            · omega
          simp only [hd, and_false, if_false]
          rw [hf.2, hf.1]
          simp only [lastD]
          refine ⟨True.intro, by omega, fun _ => by omega, fun h => .inr ?_, by omega⟩
          simp only [decide_eq_false_iff_not] at h
          omega
      · have i3' := i3 hon
        have j6' := j6 hon
        simp only [reduceCtorEq, false_and, if_false]
        refine ⟨i1, by omega, fun _ => by omega, fun h => .inr ?_, by omega⟩
        simp only [decide_eq_false_iff_not] at h
        omega
    · rename_i hc
      have hon : s.on = false := by
        cases hon : s.on
        · rfl
        · exact absurd (.inl hon) hc
      exact ⟨i1, i2, fun h => (by cases h), fun _ => i4 hon, hkr⟩

theorem specApart (a : Option Addr) (len cp : Nat) (l : List Int) (room lim time : Int) (h : AH) (hi : Holds h vI64 a len l) (hl : len ≤ 9223372036854775807) (hc : h.next + 20000000 < 1099511627776) :
    ∃ h', CL E0 ft0 (.fn 3) [.agg ⟨[.slice a len cp, .int .i64 room, .int .i64 lim]⟩, .int .i64 time] none h = .ret (.bool true) h' false := by
  refine W_body (K := fun x => ∃ h', x = CRes.ret (.bool true) h' false) ft3 (by simp [Try.f3]) (by decide) ?_
  simp only [Try.f3]
  have hc0 : h.next < 1099511627776 := by omega
  obtain rfl := hi.1
  simp (failIfUnchanged := false) (maxSteps := 1000000) (maxDischargeDepth := 5) only [go_sem, cap_eq, Nat.reduceLT, Nat.reduceLeDiff, and_self, and_true, true_and, ↓reduceIte, decide_true, decide_false, Nat.le_refl, Nat.reduceEqDiff, reduceCtorEq, Nat.zero_add, Nat.reduceAdd, Nat.reducePow, Int.reduceEq, Int.reduceLT, Int.reduceLE, Int.reduceGT, Int.reduceGE, not_true_eq_false, Nat.reduceDiv, Nat.reduceMod, Nat.lt_add_one, Nat.lt_irrefl, Nat.add_lt_add_iff_left, Nat.lt_add_right_iff_pos, List.getElem?_cons_zero, List.getElem?_cons_succ, Option.bind_some, Nat.succ_ne_zero, ne_eq, not_false_eq_true, if_false, if_true, Option.getD_some, Bool.not_true, Bool.not_false, hc0]
  repeat' (first | (refine ifG_two (fun hg => ?_) (fun hg => ?_) <;> (try simp only [Bool.not_eq_true', Bool.not_eq_false'] at hg) <;> simp (failIfUnchanged := false) (maxSteps := 1000000) (maxDischargeDepth := 5) only [go_sem, cap_eq, Nat.reduceLT, Nat.reduceLeDiff, and_self, and_true, true_and, ↓reduceIte, decide_true, decide_false, Nat.le_refl, Nat.reduceEqDiff, reduceCtorEq, Nat.zero_add, Nat.reduceAdd, Nat.reducePow, Int.reduceEq, Int.reduceLT, Int.reduceLE, Int.reduceGT, Int.reduceGE, not_true_eq_false, Nat.reduceDiv, Nat.reduceMod, Nat.lt_add_one, Nat.lt_irrefl, Nat.add_lt_add_iff_left, Nat.lt_add_right_iff_pos, List.getElem?_cons_zero, List.getElem?_cons_succ, Option.bind_some, Nat.succ_ne_zero, ne_eq, not_false_eq_true, if_false, if_true, Option.getD_some, Bool.not_true, Bool.not_false, hg, hc0]))
  rotate_left 1
  · exact ⟨_, rfl⟩
  refine wCond_dec (fun hT => ?_) (fun hT => ?_)
  · simp (failIfUnchanged := false) (maxSteps := 1000000) (maxDischargeDepth := 5) only [go_sem, cap_eq, Nat.reduceLT, Nat.reduceLeDiff, and_self, and_true, true_and, ↓reduceIte, decide_true, decide_false, Nat.le_refl, Nat.reduceEqDiff, reduceCtorEq, Nat.zero_add, Nat.reduceAdd, Nat.reducePow, Int.reduceEq, Int.reduceLT, Int.reduceLE, Int.reduceGT, Int.reduceGE, not_true_eq_false, Nat.reduceDiv, Nat.reduceMod, Nat.lt_add_one, Nat.lt_irrefl, Nat.add_lt_add_iff_left, Nat.lt_add_right_iff_pos, List.getElem?_cons_zero, List.getElem?_cons_succ, Option.bind_some, Nat.succ_ne_zero, ne_eq, not_false_eq_true, if_false, if_true, Option.getD_some, Bool.not_true, Bool.not_false]
    exact ⟨_, rfl⟩
  simp (failIfUnchanged := false) (maxSteps := 1000000) (maxDischargeDepth := 5) only [go_sem, cap_eq, Nat.reduceLT, Nat.reduceLeDiff, and_self, and_true, true_and, ↓reduceIte, decide_true, decide_false, Nat.le_refl, Nat.reduceEqDiff, reduceCtorEq, Nat.zero_add, Nat.reduceAdd, Nat.reducePow, Int.reduceEq, Int.reduceLT, Int.reduceLE, Int.reduceGT, Int.reduceGE, not_true_eq_false, Nat.reduceDiv, Nat.reduceMod, Nat.lt_add_one, Nat.lt_irrefl, Nat.add_lt_add_iff_left, Nat.lt_add_right_iff_pos, List.getElem?_cons_zero, List.getElem?_cons_succ, Option.bind_some, Nat.succ_ne_zero, ne_eq, not_false_eq_true, if_false, if_true, Option.getD_some, Bool.not_true, Bool.not_false, hc0]
  refine spec9 a _ cp l room lim time _ (hi.new _ hc0).2 hl (by simp (failIfUnchanged := false) (maxSteps := 1000000) (maxDischargeDepth := 5) only [go_sem, cap_eq, Nat.reduceLT, Nat.reduceLeDiff, and_self, and_true, true_and, ↓reduceIte, decide_true, decide_false, Nat.le_refl, Nat.reduceEqDiff, reduceCtorEq, Nat.zero_add, Nat.reduceAdd, Nat.reducePow, Int.reduceEq, Int.reduceLT, Int.reduceLE, Int.reduceGT, Int.reduceGE, not_true_eq_false, Nat.reduceDiv, Nat.reduceMod, Nat.lt_add_one, Nat.lt_irrefl, Nat.add_lt_add_iff_left, Nat.lt_add_right_iff_pos, List.getElem?_cons_zero, List.getElem?_cons_succ, Option.bind_some, Nat.succ_ne_zero, ne_eq, not_false_eq_true, if_false, if_true, Option.getD_some, Bool.not_true, Bool.not_false]; omega) _ (fun h1 hr e1 hn1 => ?_) fun h1 fa hr e1 hn1 O => ?_
  · simp (failIfUnchanged := false) (maxSteps := 1000000) (maxDischargeDepth := 5) only [go_sem, cap_eq, Nat.reduceLT, Nat.reduceLeDiff, and_self, and_true, true_and, ↓reduceIte, decide_true, decide_false, Nat.le_refl, Nat.reduceEqDiff, reduceCtorEq, Nat.zero_add, Nat.reduceAdd, Nat.reducePow, Int.reduceEq, Int.reduceLT, Int.reduceLE, Int.reduceGT, Int.reduceGE, not_true_eq_false, Nat.reduceDiv, Nat.reduceMod, Nat.lt_add_one, Nat.lt_irrefl, Nat.add_lt_add_iff_left, Nat.lt_add_right_iff_pos, List.getElem?_cons_zero, List.getElem?_cons_succ, Option.bind_some, Nat.succ_ne_zero, ne_eq, not_false_eq_true, if_false, if_true, Option.getD_some, Bool.not_true, Bool.not_false]
    exact ⟨_, rfl⟩
  · have hG := runP_gaps hr (ticksN time)
    have hB := runP_ok hr (ticksN time)
    have hN : ticksN time ≤ 4000000 := by unfold ticksN; split <;> omega
    have hri := (rightP_iff l room lim).1 hr
    generalize runP room lim l (ticksN time) = s at *
    have g1 : h1.b.get h.next = _ := (e1.2 h.next (by simp (failIfUnchanged := false) (maxSteps := 1000000) (maxDischargeDepth := 5) only [go_sem, cap_eq, Nat.reduceLT, Nat.reduceLeDiff, and_self, and_true, true_and, ↓reduceIte, decide_true, decide_false, Nat.le_refl, Nat.reduceEqDiff, reduceCtorEq, Nat.zero_add, Nat.reduceAdd, Nat.reducePow, Int.reduceEq, Int.reduceLT, Int.reduceLE, Int.reduceGT, Int.reduceGE, not_true_eq_false, Nat.reduceDiv, Nat.reduceMod, Nat.lt_add_one, Nat.lt_irrefl, Nat.add_lt_add_iff_left, Nat.lt_add_right_iff_pos, List.getElem?_cons_zero, List.getElem?_cons_succ, Option.bind_some, Nat.succ_ne_zero, ne_eq, not_false_eq_true, if_false, if_true, Option.getD_some, Bool.not_true, Bool.not_false])).trans (get_new_self hc0)
    simp only [new_next'] at hn1
    have hc1 : h1.next < 1099511627776 := by omega
    have H := O.holds rfl
    simp (failIfUnchanged := false) (maxSteps := 1000000) (maxDischargeDepth := 5) only [go_sem, cap_eq, Nat.reduceLT, Nat.reduceLeDiff, and_self, and_true, true_and, ↓reduceIte, decide_true, decide_false, Nat.le_refl, Nat.reduceEqDiff, reduceCtorEq, Nat.zero_add, Nat.reduceAdd, Nat.reducePow, Int.reduceEq, Int.reduceLT, Int.reduceLE, Int.reduceGT, Int.reduceGE, not_true_eq_false, Nat.reduceDiv, Nat.reduceMod, Nat.lt_add_one, Nat.lt_irrefl, Nat.add_lt_add_iff_left, Nat.lt_add_right_iff_pos, List.getElem?_cons_zero, List.getElem?_cons_succ, Option.bind_some, Nat.succ_ne_zero, ne_eq, not_false_eq_true, if_false, if_true, Option.getD_some, Bool.not_true, Bool.not_false]
    refine W_loop (fun k st => ∃ (i : Nat) (r : Tr Value) (x : Int), k + i = s.fails.length ∧ st = ⟨r, 58, [], h1, false⟩ ∧ r.get 2 = some (.pointer (some ⟨h.next, 0, none⟩)) ∧ r.get 5 = some (.slice fa s.fails.length s.fails.length) ∧ r.get 6 = some (.int .i64 s.done) ∧
      r.get 8 = some (.int .i64 x) ∧ r.get 9 = some (.int .i64 i) ∧ 0 ≤ x ∧ Gaps lim x (s.fails.drop i) ∧ lastD x (s.fails.drop i) = lastD 0 s.fails) ?_ s.fails.length _ ?_
    · rintro k _ ⟨i, r, x, hk, rfl, r2, r5, r6, r8, r9, hx, hg, hla⟩
      simp (failIfUnchanged := false) (maxSteps := 1000000) (maxDischargeDepth := 5) only [go_sem, cap_eq, Nat.reduceLT, Nat.reduceLeDiff, and_self, and_true, true_and, ↓reduceIte, decide_true, decide_false, Nat.le_refl, Nat.reduceEqDiff, reduceCtorEq, Nat.zero_add, Nat.reduceAdd, Nat.reducePow, Int.reduceEq, Int.reduceLT, Int.reduceLE, Int.reduceGT, Int.reduceGE, not_true_eq_false, Nat.reduceDiv, Nat.reduceMod, Nat.lt_add_one, Nat.lt_irrefl, Nat.add_lt_add_iff_left, Nat.lt_add_right_iff_pos, List.getElem?_cons_zero, List.getElem?_cons_succ, Option.bind_some, Nat.succ_ne_zero, ne_eq, not_false_eq_true, if_false, if_true, Option.getD_some, Bool.not_true, Bool.not_false, r2, r5, r6, r8, r9]
      refine wCond_dec (fun hlt => ?_) (fun hlt => ?_)
      · obtain ⟨b, off, blk, z, rfl, hbn, hb, hz, hz2⟩ := H.at (i := i) (by omega)
        have m2 : (0 : Int) ≤ (i : Int) := by omega
        have hd : s.fails.drop i = z :: s.fails.drop (i + 1) := by
          have hi' : i < s.fails.length := by omega
          rw [List.drop_eq_getElem_cons hi']
          rw [List.getElem?_eq_getElem hi'] at hz
          simp only [Option.some.injEq] at hz
          rw [hz]
        rw [hd] at hg hla
        have hle := Gaps_le (by omega) hg.2
        simp only [lastD] at hla
        have h1' := hg.1
        have w1 : IntKind.i64.wrap (z - x) = z - x := IntWalk.i64_in _ (by omega)
        have w2 : IntKind.i64.wrap ((i : Int) + 1) = (i : Int) + 1 := IntWalk.i64_in _ (by omega)
        have c1 : ¬ z - x < lim := by omega
        simp (failIfUnchanged := false) (maxSteps := 1000000) (maxDischargeDepth := 5) only [go_sem, cap_eq, Nat.reduceLT, Nat.reduceLeDiff, and_self, and_true, true_and, ↓reduceIte, decide_true, decide_false, Nat.le_refl, Nat.reduceEqDiff, reduceCtorEq, Nat.zero_add, Nat.reduceAdd, Nat.reducePow, Int.reduceEq, Int.reduceLT, Int.reduceLE, Int.reduceGT, Int.reduceGE, not_true_eq_false, Nat.reduceDiv, Nat.reduceMod, Nat.lt_add_one, Nat.lt_irrefl, Nat.add_lt_add_iff_left, Nat.lt_add_right_iff_pos, List.getElem?_cons_zero, List.getElem?_cons_succ, Option.bind_some, Nat.succ_ne_zero, ne_eq, not_false_eq_true, if_false, if_true, Option.getD_some, Bool.not_true, Bool.not_false]
        refine W_draw 10 [(0, 0), (1, 0), (2, 3), (3, 7), (4, 0), (5, 31), (6, 0), (7, 64), (8, 255)] (by kernel_rfl) ?_
        simp (failIfUnchanged := false) (maxSteps := 1000000) (maxDischargeDepth := 5) only [go_sem, cap_eq, Nat.reduceLT, Nat.reduceLeDiff, and_self, and_true, true_and, ↓reduceIte, decide_true, decide_false, Nat.le_refl, Nat.reduceEqDiff, reduceCtorEq, Nat.zero_add, Nat.reduceAdd, Nat.reducePow, Int.reduceEq, Int.reduceLT, Int.reduceLE, Int.reduceGT, Int.reduceGE, not_true_eq_false, Nat.reduceDiv, Nat.reduceMod, Nat.lt_add_one, Nat.lt_irrefl, Nat.add_lt_add_iff_left, Nat.lt_add_right_iff_pos, List.getElem?_cons_zero, List.getElem?_cons_succ, Option.bind_some, Nat.succ_ne_zero, ne_eq, not_false_eq_true, if_false, if_true, Option.getD_some, Bool.not_true, Bool.not_false, r2, r5, r6, r8, r9, hlt, hb, hz2, m2, Int.toNat_natCast, Nat.mul_one, w1, w2, g1, c1]
        exact ⟨k - 1, by omega, i + 1, _, z, by omega, rfl, by simp (failIfUnchanged := false) (maxSteps := 1000000) (maxDischargeDepth := 5) only [go_sem, cap_eq, Nat.reduceLT, Nat.reduceLeDiff, and_self, and_true, true_and, ↓reduceIte, decide_true, decide_false, Nat.le_refl, Nat.reduceEqDiff, reduceCtorEq, Nat.zero_add, Nat.reduceAdd, Nat.reducePow, Int.reduceEq, Int.reduceLT, Int.reduceLE, Int.reduceGT, Int.reduceGE, not_true_eq_false, Nat.reduceDiv, Nat.reduceMod, Nat.lt_add_one, Nat.lt_irrefl, Nat.add_lt_add_iff_left, Nat.lt_add_right_iff_pos, List.getElem?_cons_zero, List.getElem?_cons_succ, Option.bind_some, Nat.succ_ne_zero, ne_eq, not_false_eq_true, if_false, if_true, Option.getD_some, Bool.not_true, Bool.not_false, r2], by simp (failIfUnchanged := false) (maxSteps := 1000000) (maxDischargeDepth := 5) only [go_sem, cap_eq, Nat.reduceLT, Nat.reduceLeDiff, and_self, and_true, true_and, ↓reduceIte, decide_true, decide_false, Nat.le_refl, Nat.reduceEqDiff, reduceCtorEq, Nat.zero_add, Nat.reduceAdd, Nat.reducePow, Int.reduceEq, Int.reduceLT, Int.reduceLE, Int.reduceGT, Int.reduceGE, not_true_eq_false, Nat.reduceDiv, Nat.reduceMod, Nat.lt_add_one, Nat.lt_irrefl, Nat.add_lt_add_iff_left, Nat.lt_add_right_iff_pos, List.getElem?_cons_zero, List.getElem?_cons_succ, Option.bind_some, Nat.succ_ne_zero, ne_eq, not_false_eq_true, if_false, if_true, Option.getD_some, Bool.not_true, Bool.not_false, r5], by simp (failIfUnchanged := false) (maxSteps := 1000000) (maxDischargeDepth := 5) only [go_sem, cap_eq, Nat.reduceLT, Nat.reduceLeDiff, and_self, and_true, true_and, ↓reduceIte, decide_true, decide_false, Nat.le_refl, Nat.reduceEqDiff, reduceCtorEq, Nat.zero_add, Nat.reduceAdd, Nat.reducePow, Int.reduceEq, Int.reduceLT, Int.reduceLE, Int.reduceGT, Int.reduceGE, not_true_eq_false, Nat.reduceDiv, Nat.reduceMod, Nat.lt_add_one, Nat.lt_irrefl, Nat.add_lt_add_iff_left, Nat.lt_add_right_iff_pos, List.getElem?_cons_zero, List.getElem?_cons_succ, Option.bind_some, Nat.succ_ne_zero, ne_eq, not_false_eq_true, if_false, if_true, Option.getD_some, Bool.not_true, Bool.not_false, r6], by simp (failIfUnchanged := false) (maxSteps := 1000000) (maxDischargeDepth := 5) only [go_sem, cap_eq, Nat.reduceLT, Nat.reduceLeDiff, and_self, and_true, true_and, ↓reduceIte, decide_true, decide_false, Nat.le_refl, Nat.reduceEqDiff, reduceCtorEq, Nat.zero_add, Nat.reduceAdd, Nat.reducePow, Int.reduceEq, Int.reduceLT, Int.reduceLE, Int.reduceGT, Int.reduceGE, not_true_eq_false, Nat.reduceDiv, Nat.reduceMod, Nat.lt_add_one, Nat.lt_irrefl, Nat.add_lt_add_iff_left, Nat.lt_add_right_iff_pos, List.getElem?_cons_zero, List.getElem?_cons_succ, Option.bind_some, Nat.succ_ne_zero, ne_eq, not_false_eq_true, if_false, if_true, Option.getD_some, Bool.not_true, Bool.not_false, r8], by simp (failIfUnchanged := false) (maxSteps := 1000000) (maxDischargeDepth := 5) only [go_sem, cap_eq, Nat.reduceLT, Nat.reduceLeDiff, and_self, and_true, true_and, ↓reduceIte, decide_true, decide_false, Nat.le_refl, Nat.reduceEqDiff, reduceCtorEq, Nat.zero_add, Nat.reduceAdd, Nat.reducePow, Int.reduceEq, Int.reduceLT, Int.reduceLE, Int.reduceGT, Int.reduceGE, not_true_eq_false, Nat.reduceDiv, Nat.reduceMod, Nat.lt_add_one, Nat.lt_irrefl, Nat.add_lt_add_iff_left, Nat.lt_add_right_iff_pos, List.getElem?_cons_zero, List.getElem?_cons_succ, Option.bind_some, Nat.succ_ne_zero, ne_eq, not_false_eq_true, if_false, if_true, Option.getD_some, Bool.not_true, Bool.not_false, Int.natCast_add, Int.natCast_one], by omega, hg.2, hla⟩
      · have hil : i = s.fails.length := by omega
        rw [hil, List.drop_length] at hla
        simp only [lastD] at hla
        have c2 : s.done ≥ x := by omega
        simp (failIfUnchanged := false) (maxSteps := 1000000) (maxDischargeDepth := 5) only [go_sem, cap_eq, Nat.reduceLT, Nat.reduceLeDiff, and_self, and_true, true_and, ↓reduceIte, decide_true, decide_false, Nat.le_refl, Nat.reduceEqDiff, reduceCtorEq, Nat.zero_add, Nat.reduceAdd, Nat.reducePow, Int.reduceEq, Int.reduceLT, Int.reduceLE, Int.reduceGT, Int.reduceGE, not_true_eq_false, Nat.reduceDiv, Nat.reduceMod, Nat.lt_add_one, Nat.lt_irrefl, Nat.add_lt_add_iff_left, Nat.lt_add_right_iff_pos, List.getElem?_cons_zero, List.getElem?_cons_succ, Option.bind_some, Nat.succ_ne_zero, ne_eq, not_false_eq_true, if_false, if_true, Option.getD_some, Bool.not_true, Bool.not_false, r2, r5, r6, r8, r9, c2]
        exact ⟨_, rfl⟩
    · exact ⟨0, _, 0, by omega, rfl, by simp (failIfUnchanged := false) (maxSteps := 1000000) (maxDischargeDepth := 5) only [go_sem, cap_eq, Nat.reduceLT, Nat.reduceLeDiff, and_self, and_true, true_and, ↓reduceIte, decide_true, decide_false, Nat.le_refl, Nat.reduceEqDiff, reduceCtorEq, Nat.zero_add, Nat.reduceAdd, Nat.reducePow, Int.reduceEq, Int.reduceLT, Int.reduceLE, Int.reduceGT, Int.reduceGE, not_true_eq_false, Nat.reduceDiv, Nat.reduceMod, Nat.lt_add_one, Nat.lt_irrefl, Nat.add_lt_add_iff_left, Nat.lt_add_right_iff_pos, List.getElem?_cons_zero, List.getElem?_cons_succ, Option.bind_some, Nat.succ_ne_zero, ne_eq, not_false_eq_true, if_false, if_true, Option.getD_some, Bool.not_true, Bool.not_false], by simp (failIfUnchanged := false) (maxSteps := 1000000) (maxDischargeDepth := 5) only [go_sem, cap_eq, Nat.reduceLT, Nat.reduceLeDiff, and_self, and_true, true_and, ↓reduceIte, decide_true, decide_false, Nat.le_refl, Nat.reduceEqDiff, reduceCtorEq, Nat.zero_add, Nat.reduceAdd, Nat.reducePow, Int.reduceEq, Int.reduceLT, Int.reduceLE, Int.reduceGT, Int.reduceGE, not_true_eq_false, Nat.reduceDiv, Nat.reduceMod, Nat.lt_add_one, Nat.lt_irrefl, Nat.add_lt_add_iff_left, Nat.lt_add_right_iff_pos, List.getElem?_cons_zero, List.getElem?_cons_succ, Option.bind_some, Nat.succ_ne_zero, ne_eq, not_false_eq_true, if_false, if_true, Option.getD_some, Bool.not_true, Bool.not_false], by simp (failIfUnchanged := false) (maxSteps := 1000000) (maxDischargeDepth := 5) only [go_sem, cap_eq, Nat.reduceLT, Nat.reduceLeDiff, and_self, and_true, true_and, ↓reduceIte, decide_true, decide_false, Nat.le_refl, Nat.reduceEqDiff, reduceCtorEq, Nat.zero_add, Nat.reduceAdd, Nat.reducePow, Int.reduceEq, Int.reduceLT, Int.reduceLE, Int.reduceGT, Int.reduceGE, not_true_eq_false, Nat.reduceDiv, Nat.reduceMod, Nat.lt_add_one, Nat.lt_irrefl, Nat.add_lt_add_iff_left, Nat.lt_add_right_iff_pos, List.getElem?_cons_zero, List.getElem?_cons_succ, Option.bind_some, Nat.succ_ne_zero, ne_eq, not_false_eq_true, if_false, if_true, Option.getD_some, Bool.not_true, Bool.not_false], by simp (failIfUnchanged := false) (maxSteps := 1000000) (maxDischargeDepth := 5) only [go_sem, cap_eq, Nat.reduceLT, Nat.reduceLeDiff, and_self, and_true, true_and, ↓reduceIte, decide_true, decide_false, Nat.le_refl, Nat.reduceEqDiff, reduceCtorEq, Nat.zero_add, Nat.reduceAdd, Nat.reducePow, Int.reduceEq, Int.reduceLT, Int.reduceLE, Int.reduceGT, Int.reduceGE, not_true_eq_false, Nat.reduceDiv, Nat.reduceMod, Nat.lt_add_one, Nat.lt_irrefl, Nat.add_lt_add_iff_left, Nat.lt_add_right_iff_pos, List.getElem?_cons_zero, List.getElem?_cons_succ, Option.bind_some, Nat.succ_ne_zero, ne_eq, not_false_eq_true, if_false, if_true, Option.getD_some, Bool.not_true, Bool.not_false], by simp (failIfUnchanged := false) (maxSteps := 1000000) (maxDischargeDepth := 5) only [go_sem, cap_eq, Nat.reduceLT, Nat.reduceLeDiff, and_self, and_true, true_and, ↓reduceIte, decide_true, decide_false, Nat.le_refl, Nat.reduceEqDiff, reduceCtorEq, Nat.zero_add, Nat.reduceAdd, Nat.reducePow, Int.reduceEq, Int.reduceLT, Int.reduceLE, Int.reduceGT, Int.reduceGE, not_true_eq_false, Nat.reduceDiv, Nat.reduceMod, Nat.lt_add_one, Nat.lt_irrefl, Nat.add_lt_add_iff_left, Nat.lt_add_right_iff_pos, List.getElem?_cons_zero, List.getElem?_cons_succ, Option.bind_some, Nat.succ_ne_zero, ne_eq, not_false_eq_true, if_false, if_true, Option.getD_some, Bool.not_true, Bool.not_false]; rfl, by omega, hG.1, rfl⟩
end S1
