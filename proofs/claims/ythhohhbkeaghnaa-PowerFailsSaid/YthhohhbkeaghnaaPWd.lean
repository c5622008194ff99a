/- Layer 33 (power): the failures of a supply. -/
import Derived.Test.YthhohhbkeaghnaaPWc
set_option linter.unusedSimpArgs false
set_option linter.unusedVariables false
set_option linter.unusedSectionVars false
open Go Go.Ev Go.Proofs Go.Proofs.Ythhohhbkeaghnaa
namespace S1
set_option maxRecDepth 10000
/-- So many ticks. -/
def runP (room lim : Int) (l : List Int) : Nat → PS
  | 0 => ⟨0, false, 0, []⟩
  | t + 1 => tickP room lim (l.getD (t % l.length) 0) (runP room lim l t)

theorem tickP_eq (room lim n : Int) (s : PS) : tickP room lim n s =
    if s.on = true ∨ (if room < s.kept + n then room else s.kept + n) ≥ lim then ⟨(if room < s.kept + n then room else s.kept + n) - 1, decide ((if room < s.kept + n then room else s.kept + n) - 1 > 0), s.done + 1, if s.on = false ∧ s.done > 0 then s.fails ++ [s.done] else s.fails⟩
    else ⟨if room < s.kept + n then room else s.kept + n, false, s.done, s.fails⟩ := by
  unfold tickP midP
  simp only []
  generalize (if room < s.kept + n then room else s.kept + n) = k
  cases hs : s.on
  · by_cases hk : k ≥ lim
    · simp only [hk, endP, Bool.false_eq_true, if_false, if_true, or_true, true_and]
    · simp only [hk, endP, Bool.false_eq_true, if_false, or_self]
  · simp only [endP, if_true, true_or, reduceCtorEq, false_and, if_false]
theorem runP_ok {l : List Int} {room lim : Int} (hr : rightP l room lim = true) (t : Nat) : 0 ≤ (runP room lim l t).kept ∧ (runP room lim l t).kept ≤ 1048576 ∧ 0 ≤ (runP room lim l t).done ∧ (runP room lim l t).done ≤ t ∧ (runP room lim l t).fails.length ≤ t ∧ ((runP room lim l t).on = true → 1 ≤ (runP room lim l t).kept) := by
  obtain ⟨h1, h2, h3, h4, h5, h6⟩ := (rightP_iff l room lim).1 hr
  induction t with
  | zero => simp [runP]
  | succ t ih =>
    obtain ⟨i1, i2, i3, i4, i5, i6⟩ := ih
    have hz : 0 ≤ l.getD (t % l.length) 0 ∧ l.getD (t % l.length) 0 ≤ 1048576 := by
      have hm : t % l.length < l.length := Nat.mod_lt _ (by omega)
      rw [List.getD_eq_getElem?_getD, List.getElem?_eq_getElem hm]
      exact h3 _ (List.getElem_mem hm)
    unfold runP
    generalize runP room lim l t = s at *
    generalize l.getD (t % l.length) 0 = z at *
    rw [tickP_eq]
    have hk : 0 ≤ (if room < s.kept + z then room else s.kept + z) ∧ (if room < s.kept + z then room else s.kept + z) ≤ 1048576 := by split <;> omega
    have hk2 : s.on = true → 1 ≤ (if room < s.kept + z then room else s.kept + z) := by intro hs; have := i6 hs; split <;> omega
    generalize (if room < s.kept + z then room else s.kept + z) = k at *
    split
    · rename_i hc
      have hk1 : 1 ≤ k := by rcases hc with h | h
                             · exact hk2 h
                             · omega
      refine ⟨by simp only []; omega, by simp only []; omega, by simp only []; omega, by simp only []; omega, ?_, fun h => ?_⟩
      · simp only []
        split
        · rw [List.length_append, List.length_singleton]; omega
        · omega
      · simp only [decide_eq_true_eq] at h ⊢; omega
    · exact ⟨hk.1, hk.2, i3, by simp only []; omega, by simp only []; omega, fun h => by cases h⟩

theorem PlantAt.upd {h : AH} {b lo : Nat} {tk : Value} {room lim : Int} {s : PS} (P : PlantAt h b lo tk room lim s) {j : Nat} (hj : j ≠ b) (hj2 : j < lo) (hc : h.next < cap) (x : Blk) : PlantAt (h.upd j x) b lo tk room lim s := by
  obtain ⟨⟨c, fa, hb, c0, c1, c2, c3, c4, c5, c6, O⟩, hlt, hle⟩ := P
  exact ⟨⟨c, fa, by rw [get_upd_ne hj.symm (by omega)]; exact hb, c0, c1, c2, c3, c4, c5, c6, O.upd hj2 hle hc x⟩, hlt, hle⟩

theorem spec23 (a : Option Addr) (len cp : Nat) (time : Int) (h : AH) (hc : h.next + 10 < 1099511627776) (K : CRes → Prop)
    (hk : ∀ h', h'.next = h.next + 2 → Ext h h' → Box h' h.next (.slice a len cp) → Box h' (h.next + 1) (.int .i64 time) → K (.ret (.func (.func 39) ⟨[]⟩ ⟨[.pointer (some ⟨h.next + 1, 0, none⟩), .pointer (some ⟨h.next, 0, none⟩)]⟩) h' false)) :
    K (CL E0 ft0 (.fn 23) [.slice a len cp, .int .i64 time] none h) := by
  refine W_body ft23 (by simp [Try.f23]) (by decide) ?_
  simp only [Try.f23]
  have hc0 : h.next < 1099511627776 := by omega
  have hc1 : h.next + 1 < 1099511627776 := by omega
  simp (failIfUnchanged := false) (maxSteps := 1000000) (maxDischargeDepth := 5) only [go_sem, cap_eq, Nat.reduceLT, Nat.reduceLeDiff, and_self, and_true, true_and, ↓reduceIte, decide_true, decide_false, Nat.le_refl, Nat.reduceEqDiff, reduceCtorEq, Nat.zero_add, Nat.reduceAdd, Nat.reducePow, Int.reduceEq, Int.reduceLT, Int.reduceLE, Int.reduceGT, Int.reduceGE, not_true_eq_false, Nat.reduceDiv, Nat.reduceMod, Nat.lt_add_one, Nat.lt_irrefl, Nat.add_lt_add_iff_left, Nat.lt_add_right_iff_pos, List.getElem?_cons_zero, List.getElem?_cons_succ, Option.bind_some, Nat.succ_ne_zero, ne_eq, not_false_eq_true, if_false, if_true, Option.getD_some, Bool.not_true, Bool.not_false, hc0, hc1]
  exact hk _ rfl (((Ext.refl h).new _ hc0).new _ hc1) ((Box.made hc0).ext ((Ext.refl _).new _ hc1)) (Box.made (h := h.new _) hc1)
end S1
