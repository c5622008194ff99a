/- Part 5 of the proof: WHATEVER THE INPUT: true; the input reads as it did. -/
import Derived.Test.YthhohhbkeaghnaaT4
import Derived.Test.YthhohhbkeaghnaaT2
import Derived.Below
import Derived.WalkKit
import Derived.ProofKit
import Derived.OpenShut
import Derived.ShutString
import Derived.ChangeOld
import Derived.SizedLaws
import Derived.Carry
import Derived.Lib.SmallJoins
import Derived.Test.YthhohhbkeaghnaaT3
set_option linter.unusedSimpArgs false
set_option linter.unusedVariables false
set_option linter.unusedSectionVars false
section
/- Layer 32 (pack): Decode, walked. -/
open Go Go.Ev Go.Proofs Go.Proofs.Ythhohhbkeaghnaa PK
namespace PK
/-- What begins as an image's bytes do is read as that image. -/
theorem enc_prefix {g g' : Img} (h : g.Ok) (h' : g'.Ok) {rest : List Int} (e : g'.enc = g.enc ++ rest) : g = g' ∧ rest = [] := by
  have h1 := readP_enc h rest
  have h2 := readP_enc h' []
  rw [List.append_nil, e, h1] at h2
  simp only [Option.some.injEq, Prod.mk.injEq] at h2
  exact ⟨h2.1, h2.2⟩
theorem runsP_bytes : ∀ (m : Nat) (l : List Int), l.length ≤ m → (∀ z ∈ l, 0 ≤ z ∧ z ≤ 255) → ∀ z ∈ runsP l, 0 ≤ z ∧ z ≤ 255
  | 0, l, hm, hl => by
    have : l = [] := List.eq_nil_of_length_eq_zero (by omega)
    subst this; simp [runsP_nil]
  | m + 1, l, hm, hl => by
    by_cases hd : l = []
    · subst hd; simp [runsP_nil]
    · have hpos := List.length_pos_iff.2 hd
      cases hs : stopsP l
      · have hp := plainN_pos hs hd
        have hp2 := plainN_le 127 l
        rw [runsP_plain hd hs]
        generalize plainN 127 l = n at *
        intro z hz
        rcases List.mem_cons.1 hz with rfl | hz
        · omega
        · rcases List.mem_append.1 hz with hz | hz
          · exact hl z (List.mem_of_mem_take hz)
          · exact runsP_bytes m (l.drop n) (by rw [List.length_drop]; omega) (fun z hz => hl z (List.mem_of_mem_drop hz)) z hz
      · have hp := zerosP_stop hs
        have hz128 : zerosP l ≤ 128 := by unfold zerosP; omega
        rw [runsP_stop hd hs]
        generalize zerosP l = n at *
        intro z hz
        rcases List.mem_cons.1 hz with rfl | hz
        · omega
        · exact runsP_bytes m (l.drop n) (by rw [List.length_drop]; omega) (fun z hz => hl z (List.mem_of_mem_drop hz)) z hz
theorem num4_bytes (n : Int) : ∀ z ∈ num4 n, 0 ≤ z ∧ z ≤ 255 := by
  intro z hz
  simp only [num4, List.mem_cons, List.not_mem_nil, or_false] at hz
  rcases hz with rfl | rfl | rfl | rfl <;> omega
theorem enc_bytes {g : Img} (h : ∀ z ∈ g.dl, 0 ≤ z ∧ z ≤ 255) : ∀ z ∈ g.enc, 0 ≤ z ∧ z ≤ 255 := by
  intro z hz
  unfold Img.enc encP at hz
  rcases List.mem_append.1 hz with hz | hz
  · rcases List.mem_append.1 hz with hz | hz
    · rcases List.mem_append.1 hz with hz | hz
      · simp only [List.mem_cons, List.not_mem_nil, or_false] at hz
        rcases hz with rfl | rfl | rfl | rfl <;> omega
      · obtain ⟨x, _, hx⟩ := List.mem_flatMap.1 hz
        exact num4_bytes x z hx
    · obtain ⟨x, _, hx⟩ := List.mem_flatMap.1 hz
      exact num4_bytes x z hx
  · exact runsP_bytes _ _ (Nat.le_refl _) h z hz
def agg0 : Value := .agg ⟨[.slice none 0 0, .slice none 0 0, .int .i64 0, .int .i64 0]⟩
end PK
namespace S1
set_option maxRecDepth 10000
@[go_sem] theorem bd66 (v : Value) : aBuild E0 66 [(0, .slice none 0 0)] = some (.agg ⟨[.slice none 0 0]⟩) := by kernel_rfl
@[go_sem] theorem bd66s (b off l c : Nat) : aBuild E0 66 [(0, .slice (some ⟨b, off, none⟩) l c)] = some (.agg ⟨[.slice (some ⟨b, off, none⟩) l c]⟩) := by kernel_rfl
set_option maxHeartbeats 4000000 in
theorem spec19 (a : Option Addr) (cp : Nat) (b : List Int) (h : AH) (H : Holds h vB a b.length b) (hcp : b.length ≤ cp) (hby : ∀ z ∈ b, 0 ≤ z ∧ z ≤ 255) (hbl : b.length ≤ 9223372036854775807) (hc : h.next + 100000000 < 1099511627776) (K : CRes → Prop)
    (hbig : ∀ h', b.length > 262144 → Ext h h' → h'.next ≤ h.next + 20000000 → K (.ret (.tuple ⟨[agg0, .int .i64 2]⟩) h' false))
    (hbad : ∀ h', b.length ≤ 262144 → (¬ ∃ g : Img, g.Ok ∧ g.enc = b) → Ext h h' → h'.next ≤ h.next + 20000000 → K (.ret (.tuple ⟨[agg0, .int .i64 3]⟩) h' false))
    (hok : ∀ h' ac ad (g : Img), b.length ≤ 262144 → g.Ok → g.enc = b → Own h' vW 60 h.next ac g.cw → Own h' vB 5 h.next ad g.dl → Ext h h' → h'.next ≤ h.next + 20000000 →
      K (.ret (.tuple ⟨[.agg ⟨[.slice ac g.cw.length g.cw.length, .slice ad g.dl.length g.dl.length, .int .i64 g.limit, .int .i64 g.notes]⟩, .int .i64 0]⟩) h' false)) :
    K (CL E0 ft0 (.fn 19) [.slice a b.length cp] none h) := by
  have hc0 : h.next < 1099511627776 := by omega
  have hc1 : h.next + 1 < 1099511627776 := by omega
  refine W_body ft19 (by simp [Try.f19]) (by decide) ?_
  simp only [Try.f19]
  simp (failIfUnchanged := false) (maxSteps := 1000000) (maxDischargeDepth := 5) only [go_sem, cap_eq, Nat.reduceLT, Nat.reduceLeDiff, and_self, and_true, true_and, ↓reduceIte, decide_true, decide_false, Nat.le_refl, Nat.reduceEqDiff, reduceCtorEq, Nat.zero_add, Nat.reduceAdd, Nat.reducePow, Int.reduceEq, Int.reduceLT, Int.reduceLE, Int.reduceGT, Int.reduceGE, not_true_eq_false, Nat.reduceDiv, Nat.reduceMod, Nat.lt_add_one, Nat.lt_irrefl, Nat.add_lt_add_iff_left, Nat.lt_add_right_iff_pos, List.getElem?_cons_zero, List.getElem?_cons_succ, Option.bind_some, Nat.succ_ne_zero, ne_eq, not_false_eq_true, if_false, if_true, Option.getD_some, Bool.not_true, Bool.not_false, hc0, hc1]
  refine wCond_dec (fun hlen => ?_) (fun hlen => ?_)
  · simp (failIfUnchanged := false) (maxSteps := 1000000) (maxDischargeDepth := 5) only [go_sem, cap_eq, Nat.reduceLT, Nat.reduceLeDiff, and_self, and_true, true_and, ↓reduceIte, decide_true, decide_false, Nat.le_refl, Nat.reduceEqDiff, reduceCtorEq, Nat.zero_add, Nat.reduceAdd, Nat.reducePow, Int.reduceEq, Int.reduceLT, Int.reduceLE, Int.reduceGT, Int.reduceGE, not_true_eq_false, Nat.reduceDiv, Nat.reduceMod, Nat.lt_add_one, Nat.lt_irrefl, Nat.add_lt_add_iff_left, Nat.lt_add_right_iff_pos, List.getElem?_cons_zero, List.getElem?_cons_succ, Option.bind_some, Nat.succ_ne_zero, ne_eq, not_false_eq_true, if_false, if_true, Option.getD_some, Bool.not_true, Bool.not_false, hc0, hc1]
    refine hbig _ (by omega) (((Ext.refl h).new _ hc0).upd _ (Nat.le_refl _) hc0) (by simp (failIfUnchanged := false) (maxSteps := 1000000) (maxDischargeDepth := 5) only [go_sem, cap_eq, Nat.reduceLT, Nat.reduceLeDiff, and_self, and_true, true_and, ↓reduceIte, decide_true, decide_false, Nat.le_refl, Nat.reduceEqDiff, reduceCtorEq, Nat.zero_add, Nat.reduceAdd, Nat.reducePow, Int.reduceEq, Int.reduceLT, Int.reduceLE, Int.reduceGT, Int.reduceGE, not_true_eq_false, Nat.reduceDiv, Nat.reduceMod, Nat.lt_add_one, Nat.lt_irrefl, Nat.add_lt_add_iff_left, Nat.lt_add_right_iff_pos, List.getElem?_cons_zero, List.getElem?_cons_succ, Option.bind_some, Nat.succ_ne_zero, ne_eq, not_false_eq_true, if_false, if_true, Option.getD_some, Bool.not_true, Bool.not_false]; omega)
  · have hl : b.length ≤ 262144 := by omega
    simp (failIfUnchanged := false) (maxSteps := 1000000) (maxDischargeDepth := 5) only [go_sem, cap_eq, Nat.reduceLT, Nat.reduceLeDiff, and_self, and_true, true_and, ↓reduceIte, decide_true, decide_false, Nat.le_refl, Nat.reduceEqDiff, reduceCtorEq, Nat.zero_add, Nat.reduceAdd, Nat.reducePow, Int.reduceEq, Int.reduceLT, Int.reduceLE, Int.reduceGT, Int.reduceGE, not_true_eq_false, Nat.reduceDiv, Nat.reduceMod, Nat.lt_add_one, Nat.lt_irrefl, Nat.add_lt_add_iff_left, Nat.lt_add_right_iff_pos, List.getElem?_cons_zero, List.getElem?_cons_succ, Option.bind_some, Nat.succ_ne_zero, ne_eq, not_false_eq_true, if_false, if_true, Option.getD_some, Bool.not_true, Bool.not_false, hc0, hc1]
    have hbx : aBuild E0 66 [(0, .slice a b.length cp)] = some (.agg ⟨[.slice a b.length cp]⟩) := by
      rcases H.2.1 with rfl | ⟨x, off, rfl⟩
      · kernel_rfl
      · kernel_rfl
    simp (failIfUnchanged := false) (maxSteps := 1000000) (maxDischargeDepth := 5) only [go_sem, cap_eq, Nat.reduceLT, Nat.reduceLeDiff, and_self, and_true, true_and, ↓reduceIte, decide_true, decide_false, Nat.le_refl, Nat.reduceEqDiff, reduceCtorEq, Nat.zero_add, Nat.reduceAdd, Nat.reducePow, Int.reduceEq, Int.reduceLT, Int.reduceLE, Int.reduceGT, Int.reduceGE, not_true_eq_false, Nat.reduceDiv, Nat.reduceMod, Nat.lt_add_one, Nat.lt_irrefl, Nat.add_lt_add_iff_left, Nat.lt_add_right_iff_pos, List.getElem?_cons_zero, List.getElem?_cons_succ, Option.bind_some, Nat.succ_ne_zero, ne_eq, not_false_eq_true, if_false, if_true, Option.getD_some, Bool.not_true, Bool.not_false, hc0, hc1, hbx]
    generalize hBe : AH.new (AH.new h (.cells 4 _ 38 0 true)) (.cells 1 _ 66 0 true) = hB
    have EB : Ext h hB := by rw [← hBe]; exact ((Ext.refl h).new _ hc0).new _ (by simp (failIfUnchanged := false) (maxSteps := 1000000) (maxDischargeDepth := 5) only [go_sem, cap_eq, Nat.reduceLT, Nat.reduceLeDiff, and_self, and_true, true_and, ↓reduceIte, decide_true, decide_false, Nat.le_refl, Nat.reduceEqDiff, reduceCtorEq, Nat.zero_add, Nat.reduceAdd, Nat.reducePow, Int.reduceEq, Int.reduceLT, Int.reduceLE, Int.reduceGT, Int.reduceGE, not_true_eq_false, Nat.reduceDiv, Nat.reduceMod, Nat.lt_add_one, Nat.lt_irrefl, Nat.add_lt_add_iff_left, Nat.lt_add_right_iff_pos, List.getElem?_cons_zero, List.getElem?_cons_succ, Option.bind_some, Nat.succ_ne_zero, ne_eq, not_false_eq_true, if_false, if_true, Option.getD_some, Bool.not_true, Bool.not_false]; omega)
    have hBn : hB.next = h.next + 2 := by rw [← hBe]; rfl
    have gB : ∃ c e o w, hB.b.get h.next = some (.cells 4 c e o w) := by
      rw [← hBe]
      have q : h.next ≠ h.next + 1 := by omega
      exact ⟨_, _, _, _, by simp (failIfUnchanged := false) (maxSteps := 1000000) (maxDischargeDepth := 5) only [go_sem, cap_eq, Nat.reduceLT, Nat.reduceLeDiff, and_self, and_true, true_and, ↓reduceIte, decide_true, decide_false, Nat.le_refl, Nat.reduceEqDiff, reduceCtorEq, Nat.zero_add, Nat.reduceAdd, Nat.reducePow, Int.reduceEq, Int.reduceLT, Int.reduceLE, Int.reduceGT, Int.reduceGE, not_true_eq_false, Nat.reduceDiv, Nat.reduceMod, Nat.lt_add_one, Nat.lt_irrefl, Nat.add_lt_add_iff_left, Nat.lt_add_right_iff_pos, List.getElem?_cons_zero, List.getElem?_cons_succ, Option.bind_some, Nat.succ_ne_zero, ne_eq, not_false_eq_true, if_false, if_true, Option.getD_some, Bool.not_true, Bool.not_false, hc0, hc1, q]; rfl⟩
    have RB : Rd hB (h.next + 1) h.next b := by
      refine ⟨⟨a, cp, ⟨by omega, _, _, _, _, by rw [← hBe]; simp (failIfUnchanged := false) (maxSteps := 1000000) (maxDischargeDepth := 5) only [go_sem, cap_eq, Nat.reduceLT, Nat.reduceLeDiff, and_self, and_true, true_and, ↓reduceIte, decide_true, decide_false, Nat.le_refl, Nat.reduceEqDiff, reduceCtorEq, Nat.zero_add, Nat.reduceAdd, Nat.reducePow, Int.reduceEq, Int.reduceLT, Int.reduceLE, Int.reduceGT, Int.reduceGE, not_true_eq_false, Nat.reduceDiv, Nat.reduceMod, Nat.lt_add_one, Nat.lt_irrefl, Nat.add_lt_add_iff_left, Nat.lt_add_right_iff_pos, List.getElem?_cons_zero, List.getElem?_cons_succ, Option.bind_some, Nat.succ_ne_zero, ne_eq, not_false_eq_true, if_false, if_true, Option.getD_some, Bool.not_true, Bool.not_false, hc0, hc1]; rfl, by simp (failIfUnchanged := false) (maxSteps := 1000000) (maxDischargeDepth := 5) only [go_sem, cap_eq, Nat.reduceLT, Nat.reduceLeDiff, and_self, and_true, true_and, ↓reduceIte, decide_true, decide_false, Nat.le_refl, Nat.reduceEqDiff, reduceCtorEq, Nat.zero_add, Nat.reduceAdd, Nat.reducePow, Int.reduceEq, Int.reduceLT, Int.reduceLE, Int.reduceGT, Int.reduceGE, not_true_eq_false, Nat.reduceDiv, Nat.reduceMod, Nat.lt_add_one, Nat.lt_irrefl, Nat.add_lt_add_iff_left, Nat.lt_add_right_iff_pos, List.getElem?_cons_zero, List.getElem?_cons_succ, Option.bind_some, Nat.succ_ne_zero, ne_eq, not_false_eq_true, if_false, if_true, Option.getD_some, Bool.not_true, Bool.not_false]⟩, hcp, H.keep (h' := ⟨h.next, hB.b⟩) (Nat.le_refl _) fun x _ _ hx => EB.2 x hx⟩, by omega⟩
    clear hBe
    -- back to the caller's memory
    have ext : ∀ {hh : AH}, Fr (h.next + 1) hB hh → Ext h hh := fun F => ⟨by have := F.1; omega, fun i hi => by rw [F.2 i (by omega) (by omega), EB.2 i hi]⟩
    refine spec32 (h.next + 1) h.next b hB RB hby hl (by omega) (by omega) _ (fun h1 ac ad g r hread OC OD F1 hn1 hdl hcl => ?_) (fun h1 hread F1 hn1 => ?_)
    rotate_left
    · obtain ⟨c, e, o, w, g1⟩ := gB
      have q1 := F1.1
      have g2 := (F1.2 h.next (by omega) (by omega)).trans g1
      have hc1' : h1.next < 1099511627776 := by omega
      have hne : h.next ≠ h1.next := by omega
      simp (failIfUnchanged := false) (maxSteps := 1000000) (maxDischargeDepth := 5) only [go_sem, cap_eq, Nat.reduceLT, Nat.reduceLeDiff, and_self, and_true, true_and, ↓reduceIte, decide_true, decide_false, Nat.le_refl, Nat.reduceEqDiff, reduceCtorEq, Nat.zero_add, Nat.reduceAdd, Nat.reducePow, Int.reduceEq, Int.reduceLT, Int.reduceLE, Int.reduceGT, Int.reduceGE, not_true_eq_false, Nat.reduceDiv, Nat.reduceMod, Nat.lt_add_one, Nat.lt_irrefl, Nat.add_lt_add_iff_left, Nat.lt_add_right_iff_pos, List.getElem?_cons_zero, List.getElem?_cons_succ, Option.bind_some, Nat.succ_ne_zero, ne_eq, not_false_eq_true, if_false, if_true, Option.getD_some, Bool.not_true, Bool.not_false, hc1', g2, hne, hc0]
      refine hbad _ hl (fun ⟨g, hg, he⟩ => ?_) ?_ (by simp (failIfUnchanged := false) (maxSteps := 1000000) (maxDischargeDepth := 5) only [go_sem, cap_eq, Nat.reduceLT, Nat.reduceLeDiff, and_self, and_true, true_and, ↓reduceIte, decide_true, decide_false, Nat.le_refl, Nat.reduceEqDiff, reduceCtorEq, Nat.zero_add, Nat.reduceAdd, Nat.reducePow, Int.reduceEq, Int.reduceLT, Int.reduceLE, Int.reduceGT, Int.reduceGE, not_true_eq_false, Nat.reduceDiv, Nat.reduceMod, Nat.lt_add_one, Nat.lt_irrefl, Nat.add_lt_add_iff_left, Nat.lt_add_right_iff_pos, List.getElem?_cons_zero, List.getElem?_cons_succ, Option.bind_some, Nat.succ_ne_zero, ne_eq, not_false_eq_true, if_false, if_true, Option.getD_some, Bool.not_true, Bool.not_false]; omega)
      · have := readP_enc hg []
        rw [List.append_nil, he, hread] at this; cases this
      · refine Ext.upd (Ext.upd ((ext F1).new _ hc1') _ (by omega) hc1') _ (Nat.le_refl _) hc0
    · obtain ⟨c, e, o, w, g1⟩ := gB
      have q1 := F1.1
      have g2 := (F1.2 h.next (by omega) (by omega)).trans g1
      have hc1' : h1.next < 1099511627776 := by omega
      have hne : h.next ≠ h1.next := by omega
      have E1 := ext F1
      obtain ⟨rcw, rdl, l1, l2, l3, l4, l5⟩ := readP_range hread hby
      simp (failIfUnchanged := false) (maxSteps := 1000000) (maxDischargeDepth := 5) only [go_sem, cap_eq, Nat.reduceLT, Nat.reduceLeDiff, and_self, and_true, true_and, ↓reduceIte, decide_true, decide_false, Nat.le_refl, Nat.reduceEqDiff, reduceCtorEq, Nat.zero_add, Nat.reduceAdd, Nat.reducePow, Int.reduceEq, Int.reduceLT, Int.reduceLE, Int.reduceGT, Int.reduceGE, not_true_eq_false, Nat.reduceDiv, Nat.reduceMod, Nat.lt_add_one, Nat.lt_irrefl, Nat.add_lt_add_iff_left, Nat.lt_add_right_iff_pos, List.getElem?_cons_zero, List.getElem?_cons_succ, Option.bind_some, Nat.succ_ne_zero, ne_eq, not_false_eq_true, if_false, if_true, Option.getD_some, Bool.not_true, Bool.not_false, hc1', g2, hne, hc0]
      generalize h2e : AH.upd (h1.new (.cells 4 _ 38 0 true)) h1.next (.cells 4 _ 38 0 true) = h2
      have E12 : Ext h1 h2 := by rw [← h2e]; exact Ext.upd ((Ext.refl h1).new _ hc1') _ (Nat.le_refl _) hc1'
      have hn2 : h2.next = h1.next + 1 := by rw [← h2e]; rfl
      have I2 : ∃ c e o w, h2.b.get h1.next = some (.cells 4 c e o w) ∧ c.get 0 = some (.slice ac g.cw.length g.cw.length) ∧ c.get 1 = some (.slice ad g.dl.length g.dl.length) ∧ c.get 2 = some (.int .i64 g.limit) ∧ c.get 3 = some (.int .i64 g.notes) := by
        rw [← h2e]
        exact ⟨_, _, _, _, by simp (failIfUnchanged := false) (maxSteps := 1000000) (maxDischargeDepth := 5) only [go_sem, cap_eq, Nat.reduceLT, Nat.reduceLeDiff, and_self, and_true, true_and, ↓reduceIte, decide_true, decide_false, Nat.le_refl, Nat.reduceEqDiff, reduceCtorEq, Nat.zero_add, Nat.reduceAdd, Nat.reducePow, Int.reduceEq, Int.reduceLT, Int.reduceLE, Int.reduceGT, Int.reduceGE, not_true_eq_false, Nat.reduceDiv, Nat.reduceMod, Nat.lt_add_one, Nat.lt_irrefl, Nat.add_lt_add_iff_left, Nat.lt_add_right_iff_pos, List.getElem?_cons_zero, List.getElem?_cons_succ, Option.bind_some, Nat.succ_ne_zero, ne_eq, not_false_eq_true, if_false, if_true, Option.getD_some, Bool.not_true, Bool.not_false, hc1']; rfl, by simp (failIfUnchanged := false) (maxSteps := 1000000) (maxDischargeDepth := 5) only [go_sem, cap_eq, Nat.reduceLT, Nat.reduceLeDiff, and_self, and_true, true_and, ↓reduceIte, decide_true, decide_false, Nat.le_refl, Nat.reduceEqDiff, reduceCtorEq, Nat.zero_add, Nat.reduceAdd, Nat.reducePow, Int.reduceEq, Int.reduceLT, Int.reduceLE, Int.reduceGT, Int.reduceGE, not_true_eq_false, Nat.reduceDiv, Nat.reduceMod, Nat.lt_add_one, Nat.lt_irrefl, Nat.add_lt_add_iff_left, Nat.lt_add_right_iff_pos, List.getElem?_cons_zero, List.getElem?_cons_succ, Option.bind_some, Nat.succ_ne_zero, ne_eq, not_false_eq_true, if_false, if_true, Option.getD_some, Bool.not_true, Bool.not_false], by simp (failIfUnchanged := false) (maxSteps := 1000000) (maxDischargeDepth := 5) only [go_sem, cap_eq, Nat.reduceLT, Nat.reduceLeDiff, and_self, and_true, true_and, ↓reduceIte, decide_true, decide_false, Nat.le_refl, Nat.reduceEqDiff, reduceCtorEq, Nat.zero_add, Nat.reduceAdd, Nat.reducePow, Int.reduceEq, Int.reduceLT, Int.reduceLE, Int.reduceGT, Int.reduceGE, not_true_eq_false, Nat.reduceDiv, Nat.reduceMod, Nat.lt_add_one, Nat.lt_irrefl, Nat.add_lt_add_iff_left, Nat.lt_add_right_iff_pos, List.getElem?_cons_zero, List.getElem?_cons_succ, Option.bind_some, Nat.succ_ne_zero, ne_eq, not_false_eq_true, if_false, if_true, Option.getD_some, Bool.not_true, Bool.not_false], by simp (failIfUnchanged := false) (maxSteps := 1000000) (maxDischargeDepth := 5) only [go_sem, cap_eq, Nat.reduceLT, Nat.reduceLeDiff, and_self, and_true, true_and, ↓reduceIte, decide_true, decide_false, Nat.le_refl, Nat.reduceEqDiff, reduceCtorEq, Nat.zero_add, Nat.reduceAdd, Nat.reducePow, Int.reduceEq, Int.reduceLT, Int.reduceLE, Int.reduceGT, Int.reduceGE, not_true_eq_false, Nat.reduceDiv, Nat.reduceMod, Nat.lt_add_one, Nat.lt_irrefl, Nat.add_lt_add_iff_left, Nat.lt_add_right_iff_pos, List.getElem?_cons_zero, List.getElem?_cons_succ, Option.bind_some, Nat.succ_ne_zero, ne_eq, not_false_eq_true, if_false, if_true, Option.getD_some, Bool.not_true, Bool.not_false], by simp (failIfUnchanged := false) (maxSteps := 1000000) (maxDischargeDepth := 5) only [go_sem, cap_eq, Nat.reduceLT, Nat.reduceLeDiff, and_self, and_true, true_and, ↓reduceIte, decide_true, decide_false, Nat.le_refl, Nat.reduceEqDiff, reduceCtorEq, Nat.zero_add, Nat.reduceAdd, Nat.reducePow, Int.reduceEq, Int.reduceLT, Int.reduceLE, Int.reduceGT, Int.reduceGE, not_true_eq_false, Nat.reduceDiv, Nat.reduceMod, Nat.lt_add_one, Nat.lt_irrefl, Nat.add_lt_add_iff_left, Nat.lt_add_right_iff_pos, List.getElem?_cons_zero, List.getElem?_cons_succ, Option.bind_some, Nat.succ_ne_zero, ne_eq, not_false_eq_true, if_false, if_true, Option.getD_some, Bool.not_true, Bool.not_false]⟩
      have g3 := (E12.2 h.next (by omega)).trans g2
      clear h2e
      have E2 := E1.trans E12
      have OC2 := OC.ext E12
      have OD2 := OD.ext E12
      have noOne : ∀ g' : Img, g'.Ok → g'.enc = b → g' = g := by
        intro g' hg' he
        have := readP_enc hg' []
        rw [List.append_nil, he, hread] at this
        simp only [Option.some.injEq, Prod.mk.injEq] at this
        exact this.1.symm
      refine spec17 ac ad _ _ _ _ g.cw g.dl g.limit g.notes h2 (OC2.holds rfl) (OD2.holds rfl) (Nat.le_refl _) (by omega) (by omega) rcw rdl (by omega) (by omega) _ (fun h3 hr E3 hn3 => ?_) (fun h3 a3 hr O3 E3 hn3 => ?_)
      · have g4 := (E3.2 h.next (by omega)).trans g3
        simp (failIfUnchanged := false) (maxSteps := 1000000) (maxDischargeDepth := 5) only [go_sem, cap_eq, Nat.reduceLT, Nat.reduceLeDiff, and_self, and_true, true_and, ↓reduceIte, decide_true, decide_false, Nat.le_refl, Nat.reduceEqDiff, reduceCtorEq, Nat.zero_add, Nat.reduceAdd, Nat.reducePow, Int.reduceEq, Int.reduceLT, Int.reduceLE, Int.reduceGT, Int.reduceGE, not_true_eq_false, Nat.reduceDiv, Nat.reduceMod, Nat.lt_add_one, Nat.lt_irrefl, Nat.add_lt_add_iff_left, Nat.lt_add_right_iff_pos, List.getElem?_cons_zero, List.getElem?_cons_succ, Option.bind_some, Nat.succ_ne_zero, ne_eq, not_false_eq_true, if_false, if_true, Option.getD_some, Bool.not_true, Bool.not_false, g4, hc0]
        refine hbad _ hl (fun ⟨g', hg', he⟩ => ?_) ((E2.trans E3).upd _ (Nat.le_refl _) hc0) (by simp (failIfUnchanged := false) (maxSteps := 1000000) (maxDischargeDepth := 5) only [go_sem, cap_eq, Nat.reduceLT, Nat.reduceLeDiff, and_self, and_true, true_and, ↓reduceIte, decide_true, decide_false, Nat.le_refl, Nat.reduceEqDiff, reduceCtorEq, Nat.zero_add, Nat.reduceAdd, Nat.reducePow, Int.reduceEq, Int.reduceLT, Int.reduceLE, Int.reduceGT, Int.reduceGE, not_true_eq_false, Nat.reduceDiv, Nat.reduceMod, Nat.lt_add_one, Nat.lt_irrefl, Nat.add_lt_add_iff_left, Nat.lt_add_right_iff_pos, List.getElem?_cons_zero, List.getElem?_cons_succ, Option.bind_some, Nat.succ_ne_zero, ne_eq, not_false_eq_true, if_false, if_true, Option.getD_some, Bool.not_true, Bool.not_false]; omega)
        have := noOne g' hg' he
        subst this
        have := hg'.right
        rw [hr] at this; cases this
      · have g4 := (E3.2 h.next (by omega)).trans g3
        have hok' : g.Ok := ⟨hr, rcw, rdl⟩
        have hpt := hok'.parts
        have H3 := H.ext (E2.trans E3)
        have hbn : b ≠ [] := by intro e; rw [e] at l5; simp at l5
        have henc : g.enc ≠ [] := by intro e; unfold Img.enc encP at e; simp at e
        have hencb : ∀ z ∈ g.enc, 0 ≤ z ∧ z ≤ 255 := enc_bytes rdl
        have e33 := spec33 a3 a _ _ g.enc.length cp g.enc b h3 (O3.holds rfl) H3 henc hbn hencb hby
        have e33' : CL E0 ft0 (.fn 33) [.slice a3 (encP g.cw g.dl g.limit g.notes).length (encP g.cw g.dl g.limit g.notes).length, .slice a b.length cp] none h3 = .ret (.bool (decide (g.enc = b))) h3 false := e33
        have nt : (¬ (0 : Int) = 0) = False := by simp
        simp (failIfUnchanged := false) (maxSteps := 1000000) (maxDischargeDepth := 5) only [go_sem, cap_eq, Nat.reduceLT, Nat.reduceLeDiff, and_self, and_true, true_and, ↓reduceIte, decide_true, decide_false, Nat.le_refl, Nat.reduceEqDiff, reduceCtorEq, Nat.zero_add, Nat.reduceAdd, Nat.reducePow, Int.reduceEq, Int.reduceLT, Int.reduceLE, Int.reduceGT, Int.reduceGE, not_true_eq_false, Nat.reduceDiv, Nat.reduceMod, Nat.lt_add_one, Nat.lt_irrefl, Nat.add_lt_add_iff_left, Nat.lt_add_right_iff_pos, List.getElem?_cons_zero, List.getElem?_cons_succ, Option.bind_some, Nat.succ_ne_zero, ne_eq, not_false_eq_true, if_false, if_true, Option.getD_some, Bool.not_true, Bool.not_false, g4, hc0, e33', nt]
        by_cases he : g.enc = b
        · obtain ⟨c2, e2, o2, w2, i1, i20, i21, i22, i23⟩ := I2
          have i1' := (E3.2 h1.next (by omega)).trans i1
          simp (failIfUnchanged := false) (maxSteps := 1000000) (maxDischargeDepth := 5) only [go_sem, cap_eq, Nat.reduceLT, Nat.reduceLeDiff, and_self, and_true, true_and, ↓reduceIte, decide_true, decide_false, Nat.le_refl, Nat.reduceEqDiff, reduceCtorEq, Nat.zero_add, Nat.reduceAdd, Nat.reducePow, Int.reduceEq, Int.reduceLT, Int.reduceLE, Int.reduceGT, Int.reduceGE, not_true_eq_false, Nat.reduceDiv, Nat.reduceMod, Nat.lt_add_one, Nat.lt_irrefl, Nat.add_lt_add_iff_left, Nat.lt_add_right_iff_pos, List.getElem?_cons_zero, List.getElem?_cons_succ, Option.bind_some, Nat.succ_ne_zero, ne_eq, not_false_eq_true, if_false, if_true, Option.getD_some, Bool.not_true, Bool.not_false, he, i1', i21]
          refine spec34 ad g.dl _ _ h3 ((OD2.ext E3).holds rfl) (by intro e; rw [e] at hpt; simp at hpt) (by omega) (by omega) _ fun h4 a4 O4 E4 hn4 => ?_
          have q3 := E3.1
          have i1'' := (E4.2 h1.next (by omega)).trans i1'
          have g5 := (E4.2 h.next (by omega)).trans g4
          have hne' : h1.next ≠ h.next := by omega
          simp (failIfUnchanged := false) (maxSteps := 1000000) (maxDischargeDepth := 5) only [go_sem, cap_eq, Nat.reduceLT, Nat.reduceLeDiff, and_self, and_true, true_and, ↓reduceIte, decide_true, decide_false, Nat.le_refl, Nat.reduceEqDiff, reduceCtorEq, Nat.zero_add, Nat.reduceAdd, Nat.reducePow, Int.reduceEq, Int.reduceLT, Int.reduceLE, Int.reduceGT, Int.reduceGE, not_true_eq_false, Nat.reduceDiv, Nat.reduceMod, Nat.lt_add_one, Nat.lt_irrefl, Nat.add_lt_add_iff_left, Nat.lt_add_right_iff_pos, List.getElem?_cons_zero, List.getElem?_cons_succ, Option.bind_some, Nat.succ_ne_zero, ne_eq, not_false_eq_true, if_false, if_true, Option.getD_some, Bool.not_true, Bool.not_false, i1'', i20, i21, i22, i23, hc1', hc0, g5, hne, hne']
          have q4 := E4.1
          have hc4 : h4.next < cap := by show _ < 1099511627776; omega
          refine hok _ ac a4 g hl hok' he (Own.low (OC.keep (by simp (failIfUnchanged := false) (maxSteps := 1000000) (maxDischargeDepth := 5) only [go_sem, cap_eq, Nat.reduceLT, Nat.reduceLeDiff, and_self, and_true, true_and, ↓reduceIte, decide_true, decide_false, Nat.le_refl, Nat.reduceEqDiff, reduceCtorEq, Nat.zero_add, Nat.reduceAdd, Nat.reducePow, Int.reduceEq, Int.reduceLT, Int.reduceLE, Int.reduceGT, Int.reduceGE, not_true_eq_false, Nat.reduceDiv, Nat.reduceMod, Nat.lt_add_one, Nat.lt_irrefl, Nat.add_lt_add_iff_left, Nat.lt_add_right_iff_pos, List.getElem?_cons_zero, List.getElem?_cons_succ, Option.bind_some, Nat.succ_ne_zero, ne_eq, not_false_eq_true, if_false, if_true, Option.getD_some, Bool.not_true, Bool.not_false]; omega) fun x hx => ?_) (by omega)) (((O4.upd (by omega) (by omega) hc4 _).upd (by omega) (by simp (failIfUnchanged := false) (maxSteps := 1000000) (maxDischargeDepth := 5) only [go_sem, cap_eq, Nat.reduceLT, Nat.reduceLeDiff, and_self, and_true, true_and, ↓reduceIte, decide_true, decide_false, Nat.le_refl, Nat.reduceEqDiff, reduceCtorEq, Nat.zero_add, Nat.reduceAdd, Nat.reducePow, Int.reduceEq, Int.reduceLT, Int.reduceLE, Int.reduceGT, Int.reduceGE, not_true_eq_false, Nat.reduceDiv, Nat.reduceMod, Nat.lt_add_one, Nat.lt_irrefl, Nat.add_lt_add_iff_left, Nat.lt_add_right_iff_pos, List.getElem?_cons_zero, List.getElem?_cons_succ, Option.bind_some, Nat.succ_ne_zero, ne_eq, not_false_eq_true, if_false, if_true, Option.getD_some, Bool.not_true, Bool.not_false]; omega) (by simp (failIfUnchanged := false) (maxSteps := 1000000) (maxDischargeDepth := 5) only [go_sem, cap_eq, Nat.reduceLT, Nat.reduceLeDiff, and_self, and_true, true_and, ↓reduceIte, decide_true, decide_false, Nat.le_refl, Nat.reduceEqDiff, reduceCtorEq, Nat.zero_add, Nat.reduceAdd, Nat.reducePow, Int.reduceEq, Int.reduceLT, Int.reduceLE, Int.reduceGT, Int.reduceGE, not_true_eq_false, Nat.reduceDiv, Nat.reduceMod, Nat.lt_add_one, Nat.lt_irrefl, Nat.add_lt_add_iff_left, Nat.lt_add_right_iff_pos, List.getElem?_cons_zero, List.getElem?_cons_succ, Option.bind_some, Nat.succ_ne_zero, ne_eq, not_false_eq_true, if_false, if_true, Option.getD_some, Bool.not_true, Bool.not_false]; omega) _).low (by omega)) ((((E2.trans E3).trans E4).upd _ (by omega) hc1').upd _ (Nat.le_refl _) hc0) (by simp (failIfUnchanged := false) (maxSteps := 1000000) (maxDischargeDepth := 5) only [go_sem, cap_eq, Nat.reduceLT, Nat.reduceLeDiff, and_self, and_true, true_and, ↓reduceIte, decide_true, decide_false, Nat.le_refl, Nat.reduceEqDiff, reduceCtorEq, Nat.zero_add, Nat.reduceAdd, Nat.reducePow, Int.reduceEq, Int.reduceLT, Int.reduceLE, Int.reduceGT, Int.reduceGE, not_true_eq_false, Nat.reduceDiv, Nat.reduceMod, Nat.lt_add_one, Nat.lt_irrefl, Nat.add_lt_add_iff_left, Nat.lt_add_right_iff_pos, List.getElem?_cons_zero, List.getElem?_cons_succ, Option.bind_some, Nat.succ_ne_zero, ne_eq, not_false_eq_true, if_false, if_true, Option.getD_some, Bool.not_true, Bool.not_false]; omega)
          obtain ⟨_, ⟨e, _⟩ | ⟨y, _, _, _, e1, e3, e4, _⟩⟩ := OC
          · rw [e] at hx; cases hx
          · rw [e1] at hx; cases hx
            rw [get_upd_ne (by omega) hc0, get_upd_ne (by omega) hc1', E4.2 x (by omega), E3.2 x (by omega), E12.2 x (by omega)]
        · simp (failIfUnchanged := false) (maxSteps := 1000000) (maxDischargeDepth := 5) only [go_sem, cap_eq, Nat.reduceLT, Nat.reduceLeDiff, and_self, and_true, true_and, ↓reduceIte, decide_true, decide_false, Nat.le_refl, Nat.reduceEqDiff, reduceCtorEq, Nat.zero_add, Nat.reduceAdd, Nat.reducePow, Int.reduceEq, Int.reduceLT, Int.reduceLE, Int.reduceGT, Int.reduceGE, not_true_eq_false, Nat.reduceDiv, Nat.reduceMod, Nat.lt_add_one, Nat.lt_irrefl, Nat.add_lt_add_iff_left, Nat.lt_add_right_iff_pos, List.getElem?_cons_zero, List.getElem?_cons_succ, Option.bind_some, Nat.succ_ne_zero, ne_eq, not_false_eq_true, if_false, if_true, Option.getD_some, Bool.not_true, Bool.not_false, he, g4, hc0]
          refine hbad _ hl (fun ⟨g', hg', he'⟩ => ?_) ((E2.trans E3).upd _ (Nat.le_refl _) hc0) (by simp (failIfUnchanged := false) (maxSteps := 1000000) (maxDischargeDepth := 5) only [go_sem, cap_eq, Nat.reduceLT, Nat.reduceLeDiff, and_self, and_true, true_and, ↓reduceIte, decide_true, decide_false, Nat.le_refl, Nat.reduceEqDiff, reduceCtorEq, Nat.zero_add, Nat.reduceAdd, Nat.reducePow, Int.reduceEq, Int.reduceLT, Int.reduceLE, Int.reduceGT, Int.reduceGE, not_true_eq_false, Nat.reduceDiv, Nat.reduceMod, Nat.lt_add_one, Nat.lt_irrefl, Nat.add_lt_add_iff_left, Nat.lt_add_right_iff_pos, List.getElem?_cons_zero, List.getElem?_cons_succ, Option.bind_some, Nat.succ_ne_zero, ne_eq, not_false_eq_true, if_false, if_true, Option.getD_some, Bool.not_true, Bool.not_false]; omega)
          have := noOne g' hg' he'
          subst this
          exact he he'
end S1
end
section
/- Layer 32 (pack): the law's own parts: few, Same. -/
open Go Go.Ev Go.Proofs Go.Proofs.Ythhohhbkeaghnaa PK
namespace PK
def fewG (lc ld : Nat) : Bool := decide ((lc ≤ 300 ∨ (lc > 32768 ∧ lc ≤ 33000)) ∧ (ld ≤ 3000 ∨ (ld > 65536 ∧ ld ≤ 66000)))
end PK
namespace S1
set_option maxRecDepth 10000
set_option maxHeartbeats 1000000 in
theorem spec15 (ac ad : Option Addr) (lc cc ld cd : Nat) (limit notes : Int) (h : AH) (hc : h.next + 10 < 1099511627776) (K : CRes → Prop)
    (hk : ∀ h' v, v = fewG lc ld → Ext h h' → h'.next ≤ h.next + 1 → K (.ret (.bool v) h' false)) :
    K (CL E0 ft0 (.fn 15) [.agg ⟨[.slice ac lc cc, .slice ad ld cd, .int .i64 limit, .int .i64 notes]⟩] none h) := by
  have hc0 : h.next < 1099511627776 := by omega
  refine W_body ft15 (by simp [Try.f15]) (by decide) ?_
  simp only [Try.f15]
  simp (failIfUnchanged := false) (maxSteps := 1000000) (maxDischargeDepth := 5) only [go_sem, cap_eq, Nat.reduceLT, Nat.reduceLeDiff, and_self, and_true, true_and, ↓reduceIte, decide_true, decide_false, Nat.le_refl, Nat.reduceEqDiff, reduceCtorEq, Nat.zero_add, Nat.reduceAdd, Nat.reducePow, Int.reduceEq, Int.reduceLT, Int.reduceLE, Int.reduceGT, Int.reduceGE, not_true_eq_false, Nat.reduceDiv, Nat.reduceMod, Nat.lt_add_one, Nat.lt_irrefl, Nat.add_lt_add_iff_left, Nat.lt_add_right_iff_pos, List.getElem?_cons_zero, List.getElem?_cons_succ, Option.bind_some, Nat.succ_ne_zero, ne_eq, not_false_eq_true, if_false, if_true, Option.getD_some, Bool.not_true, Bool.not_false, hc0]
  repeat' (first | (refine ifG_two (fun hg => ?_) (fun hg => ?_) <;> (try simp only [Bool.not_eq_true', Bool.not_eq_false'] at hg) <;> simp (failIfUnchanged := false) (maxSteps := 1000000) (maxDischargeDepth := 5) only [go_sem, cap_eq, Nat.reduceLT, Nat.reduceLeDiff, and_self, and_true, true_and, ↓reduceIte, decide_true, decide_false, Nat.le_refl, Nat.reduceEqDiff, reduceCtorEq, Nat.zero_add, Nat.reduceAdd, Nat.reducePow, Int.reduceEq, Int.reduceLT, Int.reduceLE, Int.reduceGT, Int.reduceGE, not_true_eq_false, Nat.reduceDiv, Nat.reduceMod, Nat.lt_add_one, Nat.lt_irrefl, Nat.add_lt_add_iff_left, Nat.lt_add_right_iff_pos, List.getElem?_cons_zero, List.getElem?_cons_succ, Option.bind_some, Nat.succ_ne_zero, ne_eq, not_false_eq_true, if_false, if_true, Option.getD_some, Bool.not_true, Bool.not_false, hg, hc0]))
  all_goals refine hk _ _ ?_ ((Ext.refl h).new _ hc0) (by simp (failIfUnchanged := false) (maxSteps := 1000000) (maxDischargeDepth := 5) only [go_sem, cap_eq, Nat.reduceLT, Nat.reduceLeDiff, and_self, and_true, true_and, ↓reduceIte, decide_true, decide_false, Nat.le_refl, Nat.reduceEqDiff, reduceCtorEq, Nat.zero_add, Nat.reduceAdd, Nat.reducePow, Int.reduceEq, Int.reduceLT, Int.reduceLE, Int.reduceGT, Int.reduceGE, not_true_eq_false, Nat.reduceDiv, Nat.reduceMod, Nat.lt_add_one, Nat.lt_irrefl, Nat.add_lt_add_iff_left, Nat.lt_add_right_iff_pos, List.getElem?_cons_zero, List.getElem?_cons_succ, Option.bind_some, Nat.succ_ne_zero, ne_eq, not_false_eq_true, if_false, if_true, Option.getD_some, Bool.not_true, Bool.not_false])
  all_goals simp only [fewG, decide_eq_true_eq, decide_eq_false_iff_not] at *
  all_goals (first | (symm; apply decide_eq_true; omega) | (symm; apply decide_eq_false; omega) | (apply decide_eq_decide.2; omega))
/-- Two images alike. -/
theorem spec21 (a1 d1 a2 d2 : Option Addr) (c1 e1 c2 e2 : Nat) (cw dl : List Int) (limit notes : Int) (h : AH) (HC1 : Holds h vW a1 cw.length cw) (HD1 : Holds h vB d1 dl.length dl) (HC2 : Holds h vW a2 cw.length cw) (HD2 : Holds h vB d2 dl.length dl) (hne : dl ≠ []) (hcw : ∀ z ∈ cw, 0 ≤ z ∧ z < 4294967296) (hb : cw.length ≤ 100000) (hc : h.next + 10 < 1099511627776) (K : CRes → Prop)
    (hk : ∀ h', Ext h h' → h'.next ≤ h.next + 2 → K (.ret (.bool true) h' false)) :
    K (CL E0 ft0 (.fn 21) [.agg ⟨[.slice a1 cw.length c1, .slice d1 dl.length e1, .int .i64 limit, .int .i64 notes]⟩, .agg ⟨[.slice a2 cw.length c2, .slice d2 dl.length e2, .int .i64 limit, .int .i64 notes]⟩] none h) := by
  have hc0 : h.next < 1099511627776 := by omega
  have hc1 : h.next + 1 < 1099511627776 := by omega
  refine W_body ft21 (by simp [Try.f21]) (by decide) ?_
  simp only [Try.f21]
  simp (failIfUnchanged := false) (maxSteps := 1000000) (maxDischargeDepth := 5) only [go_sem, cap_eq, Nat.reduceLT, Nat.reduceLeDiff, and_self, and_true, true_and, ↓reduceIte, decide_true, decide_false, Nat.le_refl, Nat.reduceEqDiff, reduceCtorEq, Nat.zero_add, Nat.reduceAdd, Nat.reducePow, Int.reduceEq, Int.reduceLT, Int.reduceLE, Int.reduceGT, Int.reduceGE, not_true_eq_false, Nat.reduceDiv, Nat.reduceMod, Nat.lt_add_one, Nat.lt_irrefl, Nat.add_lt_add_iff_left, Nat.lt_add_right_iff_pos, List.getElem?_cons_zero, List.getElem?_cons_succ, Option.bind_some, Nat.succ_ne_zero, ne_eq, not_false_eq_true, if_false, if_true, Option.getD_some, Bool.not_true, Bool.not_false, hc0, hc1]
  generalize hBe : AH.new (AH.new h (.cells 4 _ 38 0 true)) (.cells 4 _ 38 0 true) = hB
  have EB : Ext h hB := by rw [← hBe]; exact ((Ext.refl h).new _ hc0).new _ (by simp (failIfUnchanged := false) (maxSteps := 1000000) (maxDischargeDepth := 5) only [go_sem, cap_eq, Nat.reduceLT, Nat.reduceLeDiff, and_self, and_true, true_and, ↓reduceIte, decide_true, decide_false, Nat.le_refl, Nat.reduceEqDiff, reduceCtorEq, Nat.zero_add, Nat.reduceAdd, Nat.reducePow, Int.reduceEq, Int.reduceLT, Int.reduceLE, Int.reduceGT, Int.reduceGE, not_true_eq_false, Nat.reduceDiv, Nat.reduceMod, Nat.lt_add_one, Nat.lt_irrefl, Nat.add_lt_add_iff_left, Nat.lt_add_right_iff_pos, List.getElem?_cons_zero, List.getElem?_cons_succ, Option.bind_some, Nat.succ_ne_zero, ne_eq, not_false_eq_true, if_false, if_true, Option.getD_some, Bool.not_true, Bool.not_false]; omega)
  have hBn : hB.next = h.next + 2 := by rw [← hBe]; rfl
  have q : h.next ≠ h.next + 1 := by omega
  have gA : ∃ c e o w, hB.b.get h.next = some (.cells 4 c e o w) ∧ c.get 0 = some (.slice a1 cw.length c1) ∧ c.get 1 = some (.slice d1 dl.length e1) ∧ c.get 2 = some (.int .i64 limit) ∧ c.get 3 = some (.int .i64 notes) := by
    rw [← hBe]; exact ⟨_, _, _, _, by simp (failIfUnchanged := false) (maxSteps := 1000000) (maxDischargeDepth := 5) only [go_sem, cap_eq, Nat.reduceLT, Nat.reduceLeDiff, and_self, and_true, true_and, ↓reduceIte, decide_true, decide_false, Nat.le_refl, Nat.reduceEqDiff, reduceCtorEq, Nat.zero_add, Nat.reduceAdd, Nat.reducePow, Int.reduceEq, Int.reduceLT, Int.reduceLE, Int.reduceGT, Int.reduceGE, not_true_eq_false, Nat.reduceDiv, Nat.reduceMod, Nat.lt_add_one, Nat.lt_irrefl, Nat.add_lt_add_iff_left, Nat.lt_add_right_iff_pos, List.getElem?_cons_zero, List.getElem?_cons_succ, Option.bind_some, Nat.succ_ne_zero, ne_eq, not_false_eq_true, if_false, if_true, Option.getD_some, Bool.not_true, Bool.not_false, hc0, hc1, q]; rfl, by simp (failIfUnchanged := false) (maxSteps := 1000000) (maxDischargeDepth := 5) only [go_sem, cap_eq, Nat.reduceLT, Nat.reduceLeDiff, and_self, and_true, true_and, ↓reduceIte, decide_true, decide_false, Nat.le_refl, Nat.reduceEqDiff, reduceCtorEq, Nat.zero_add, Nat.reduceAdd, Nat.reducePow, Int.reduceEq, Int.reduceLT, Int.reduceLE, Int.reduceGT, Int.reduceGE, not_true_eq_false, Nat.reduceDiv, Nat.reduceMod, Nat.lt_add_one, Nat.lt_irrefl, Nat.add_lt_add_iff_left, Nat.lt_add_right_iff_pos, List.getElem?_cons_zero, List.getElem?_cons_succ, Option.bind_some, Nat.succ_ne_zero, ne_eq, not_false_eq_true, if_false, if_true, Option.getD_some, Bool.not_true, Bool.not_false], by simp (failIfUnchanged := false) (maxSteps := 1000000) (maxDischargeDepth := 5) only [go_sem, cap_eq, Nat.reduceLT, Nat.reduceLeDiff, and_self, and_true, true_and, ↓reduceIte, decide_true, decide_false, Nat.le_refl, Nat.reduceEqDiff, reduceCtorEq, Nat.zero_add, Nat.reduceAdd, Nat.reducePow, Int.reduceEq, Int.reduceLT, Int.reduceLE, Int.reduceGT, Int.reduceGE, not_true_eq_false, Nat.reduceDiv, Nat.reduceMod, Nat.lt_add_one, Nat.lt_irrefl, Nat.add_lt_add_iff_left, Nat.lt_add_right_iff_pos, List.getElem?_cons_zero, List.getElem?_cons_succ, Option.bind_some, Nat.succ_ne_zero, ne_eq, not_false_eq_true, if_false, if_true, Option.getD_some, Bool.not_true, Bool.not_false], by simp (failIfUnchanged := false) (maxSteps := 1000000) (maxDischargeDepth := 5) only [go_sem, cap_eq, Nat.reduceLT, Nat.reduceLeDiff, and_self, and_true, true_and, ↓reduceIte, decide_true, decide_false, Nat.le_refl, Nat.reduceEqDiff, reduceCtorEq, Nat.zero_add, Nat.reduceAdd, Nat.reducePow, Int.reduceEq, Int.reduceLT, Int.reduceLE, Int.reduceGT, Int.reduceGE, not_true_eq_false, Nat.reduceDiv, Nat.reduceMod, Nat.lt_add_one, Nat.lt_irrefl, Nat.add_lt_add_iff_left, Nat.lt_add_right_iff_pos, List.getElem?_cons_zero, List.getElem?_cons_succ, Option.bind_some, Nat.succ_ne_zero, ne_eq, not_false_eq_true, if_false, if_true, Option.getD_some, Bool.not_true, Bool.not_false], by simp (failIfUnchanged := false) (maxSteps := 1000000) (maxDischargeDepth := 5) only [go_sem, cap_eq, Nat.reduceLT, Nat.reduceLeDiff, and_self, and_true, true_and, ↓reduceIte, decide_true, decide_false, Nat.le_refl, Nat.reduceEqDiff, reduceCtorEq, Nat.zero_add, Nat.reduceAdd, Nat.reducePow, Int.reduceEq, Int.reduceLT, Int.reduceLE, Int.reduceGT, Int.reduceGE, not_true_eq_false, Nat.reduceDiv, Nat.reduceMod, Nat.lt_add_one, Nat.lt_irrefl, Nat.add_lt_add_iff_left, Nat.lt_add_right_iff_pos, List.getElem?_cons_zero, List.getElem?_cons_succ, Option.bind_some, Nat.succ_ne_zero, ne_eq, not_false_eq_true, if_false, if_true, Option.getD_some, Bool.not_true, Bool.not_false]⟩
  have gB : ∃ c e o w, hB.b.get (h.next + 1) = some (.cells 4 c e o w) ∧ c.get 0 = some (.slice a2 cw.length c2) ∧ c.get 1 = some (.slice d2 dl.length e2) ∧ c.get 2 = some (.int .i64 limit) ∧ c.get 3 = some (.int .i64 notes) := by
    rw [← hBe]; exact ⟨_, _, _, _, by simp (failIfUnchanged := false) (maxSteps := 1000000) (maxDischargeDepth := 5) only [go_sem, cap_eq, Nat.reduceLT, Nat.reduceLeDiff, and_self, and_true, true_and, ↓reduceIte, decide_true, decide_false, Nat.le_refl, Nat.reduceEqDiff, reduceCtorEq, Nat.zero_add, Nat.reduceAdd, Nat.reducePow, Int.reduceEq, Int.reduceLT, Int.reduceLE, Int.reduceGT, Int.reduceGE, not_true_eq_false, Nat.reduceDiv, Nat.reduceMod, Nat.lt_add_one, Nat.lt_irrefl, Nat.add_lt_add_iff_left, Nat.lt_add_right_iff_pos, List.getElem?_cons_zero, List.getElem?_cons_succ, Option.bind_some, Nat.succ_ne_zero, ne_eq, not_false_eq_true, if_false, if_true, Option.getD_some, Bool.not_true, Bool.not_false, hc0, hc1]; rfl, by simp (failIfUnchanged := false) (maxSteps := 1000000) (maxDischargeDepth := 5) only [go_sem, cap_eq, Nat.reduceLT, Nat.reduceLeDiff, and_self, and_true, true_and, ↓reduceIte, decide_true, decide_false, Nat.le_refl, Nat.reduceEqDiff, reduceCtorEq, Nat.zero_add, Nat.reduceAdd, Nat.reducePow, Int.reduceEq, Int.reduceLT, Int.reduceLE, Int.reduceGT, Int.reduceGE, not_true_eq_false, Nat.reduceDiv, Nat.reduceMod, Nat.lt_add_one, Nat.lt_irrefl, Nat.add_lt_add_iff_left, Nat.lt_add_right_iff_pos, List.getElem?_cons_zero, List.getElem?_cons_succ, Option.bind_some, Nat.succ_ne_zero, ne_eq, not_false_eq_true, if_false, if_true, Option.getD_some, Bool.not_true, Bool.not_false], by simp (failIfUnchanged := false) (maxSteps := 1000000) (maxDischargeDepth := 5) only [go_sem, cap_eq, Nat.reduceLT, Nat.reduceLeDiff, and_self, and_true, true_and, ↓reduceIte, decide_true, decide_false, Nat.le_refl, Nat.reduceEqDiff, reduceCtorEq, Nat.zero_add, Nat.reduceAdd, Nat.reducePow, Int.reduceEq, Int.reduceLT, Int.reduceLE, Int.reduceGT, Int.reduceGE, not_true_eq_false, Nat.reduceDiv, Nat.reduceMod, Nat.lt_add_one, Nat.lt_irrefl, Nat.add_lt_add_iff_left, Nat.lt_add_right_iff_pos, List.getElem?_cons_zero, List.getElem?_cons_succ, Option.bind_some, Nat.succ_ne_zero, ne_eq, not_false_eq_true, if_false, if_true, Option.getD_some, Bool.not_true, Bool.not_false], by simp (failIfUnchanged := false) (maxSteps := 1000000) (maxDischargeDepth := 5) only [go_sem, cap_eq, Nat.reduceLT, Nat.reduceLeDiff, and_self, and_true, true_and, ↓reduceIte, decide_true, decide_false, Nat.le_refl, Nat.reduceEqDiff, reduceCtorEq, Nat.zero_add, Nat.reduceAdd, Nat.reducePow, Int.reduceEq, Int.reduceLT, Int.reduceLE, Int.reduceGT, Int.reduceGE, not_true_eq_false, Nat.reduceDiv, Nat.reduceMod, Nat.lt_add_one, Nat.lt_irrefl, Nat.add_lt_add_iff_left, Nat.lt_add_right_iff_pos, List.getElem?_cons_zero, List.getElem?_cons_succ, Option.bind_some, Nat.succ_ne_zero, ne_eq, not_false_eq_true, if_false, if_true, Option.getD_some, Bool.not_true, Bool.not_false], by simp (failIfUnchanged := false) (maxSteps := 1000000) (maxDischargeDepth := 5) only [go_sem, cap_eq, Nat.reduceLT, Nat.reduceLeDiff, and_self, and_true, true_and, ↓reduceIte, decide_true, decide_false, Nat.le_refl, Nat.reduceEqDiff, reduceCtorEq, Nat.zero_add, Nat.reduceAdd, Nat.reducePow, Int.reduceEq, Int.reduceLT, Int.reduceLE, Int.reduceGT, Int.reduceGE, not_true_eq_false, Nat.reduceDiv, Nat.reduceMod, Nat.lt_add_one, Nat.lt_irrefl, Nat.add_lt_add_iff_left, Nat.lt_add_right_iff_pos, List.getElem?_cons_zero, List.getElem?_cons_succ, Option.bind_some, Nat.succ_ne_zero, ne_eq, not_false_eq_true, if_false, if_true, Option.getD_some, Bool.not_true, Bool.not_false]⟩
  clear hBe
  obtain ⟨cA, eA, oA, wA, gA, gA0, gA1, gA2, gA3⟩ := gA
  obtain ⟨cB, eB, oB, wB, gB, gB0, gB1, gB2, gB3⟩ := gB
  simp (failIfUnchanged := false) (maxSteps := 1000000) (maxDischargeDepth := 5) only [go_sem, cap_eq, Nat.reduceLT, Nat.reduceLeDiff, and_self, and_true, true_and, ↓reduceIte, decide_true, decide_false, Nat.le_refl, Nat.reduceEqDiff, reduceCtorEq, Nat.zero_add, Nat.reduceAdd, Nat.reducePow, Int.reduceEq, Int.reduceLT, Int.reduceLE, Int.reduceGT, Int.reduceGE, not_true_eq_false, Nat.reduceDiv, Nat.reduceMod, Nat.lt_add_one, Nat.lt_irrefl, Nat.add_lt_add_iff_left, Nat.lt_add_right_iff_pos, List.getElem?_cons_zero, List.getElem?_cons_succ, Option.bind_some, Nat.succ_ne_zero, ne_eq, not_false_eq_true, if_false, if_true, Option.getD_some, Bool.not_true, Bool.not_false, conv36 (HD1.ext EB) hne, conv36 (HD2.ext EB) hne, gA, gA0, gA1, gA2, gA3, gB, gB0, gB1, gB2, gB3, beq_self_eq_true, not_true_eq_false]
  have hv1 := HC1.veq cw.length c1
  have hv2 := HC2.veq cw.length c2
  refine W_loop (fun k s => ∃ (i : Nat) (r : Tr Value), k + i = cw.length ∧ s = ⟨r, 54, [], hB, false⟩ ∧ r.get 2 = some (.pointer (some ⟨h.next, 0, none⟩)) ∧ r.get 3 = some (.pointer (some ⟨h.next + 1, 0, none⟩)) ∧ r.get 5 = some (.int .i64 i)) ?_ cw.length _ ?_
  · rintro k _ ⟨i, r, hk', rfl, r2, r3, r5⟩
    simp (failIfUnchanged := false) (maxSteps := 1000000) (maxDischargeDepth := 5) only [go_sem, cap_eq, Nat.reduceLT, Nat.reduceLeDiff, and_self, and_true, true_and, ↓reduceIte, decide_true, decide_false, Nat.le_refl, Nat.reduceEqDiff, reduceCtorEq, Nat.zero_add, Nat.reduceAdd, Nat.reducePow, Int.reduceEq, Int.reduceLT, Int.reduceLE, Int.reduceGT, Int.reduceGE, not_true_eq_false, Nat.reduceDiv, Nat.reduceMod, Nat.lt_add_one, Nat.lt_irrefl, Nat.add_lt_add_iff_left, Nat.lt_add_right_iff_pos, List.getElem?_cons_zero, List.getElem?_cons_succ, Option.bind_some, Nat.succ_ne_zero, ne_eq, not_false_eq_true, if_false, if_true, Option.getD_some, Bool.not_true, Bool.not_false, r2, r3, r5, gA, gA0]
    refine wCond_dec (fun hlt => ?_) (fun hlt => ?_)
    · have hi : i < cw.length := by omega
      obtain ⟨b1, o1, k1, z1, rfl, _, hb1, hz1, hcc1⟩ := (HC1.ext EB).at hi
      obtain ⟨b2, o2, k2, z2, rfl, _, hb2, hz2, hcc2⟩ := (HC2.ext EB).at hi
      rw [hz1] at hz2; cases hz2
      have m2 : (0 : Int) ≤ (i : Int) := by omega
      have w3 : IntKind.i64.wrap ((i : Int) + 1) = (i : Int) + 1 := IntWalk.i64_in _ (by omega)
      simp (failIfUnchanged := false) (maxSteps := 1000000) (maxDischargeDepth := 5) only [go_sem, cap_eq, Nat.reduceLT, Nat.reduceLeDiff, and_self, and_true, true_and, ↓reduceIte, decide_true, decide_false, Nat.le_refl, Nat.reduceEqDiff, reduceCtorEq, Nat.zero_add, Nat.reduceAdd, Nat.reducePow, Int.reduceEq, Int.reduceLT, Int.reduceLE, Int.reduceGT, Int.reduceGE, not_true_eq_false, Nat.reduceDiv, Nat.reduceMod, Nat.lt_add_one, Nat.lt_irrefl, Nat.add_lt_add_iff_left, Nat.lt_add_right_iff_pos, List.getElem?_cons_zero, List.getElem?_cons_succ, Option.bind_some, Nat.succ_ne_zero, ne_eq, not_false_eq_true, if_false, if_true, Option.getD_some, Bool.not_true, Bool.not_false]
      refine W_draw 6 [(0, 0), (1, 1), (2, 0), (3, 7), (4, 15), (5, 0), (6, 32), (7, 0), (8, 224), (9, 480), (10, 1023)] (by kernel_rfl) ?_
      simp (failIfUnchanged := false) (maxSteps := 1000000) (maxDischargeDepth := 5) only [go_sem, cap_eq, Nat.reduceLT, Nat.reduceLeDiff, and_self, and_true, true_and, ↓reduceIte, decide_true, decide_false, Nat.le_refl, Nat.reduceEqDiff, reduceCtorEq, Nat.zero_add, Nat.reduceAdd, Nat.reducePow, Int.reduceEq, Int.reduceLT, Int.reduceLE, Int.reduceGT, Int.reduceGE, not_true_eq_false, Nat.reduceDiv, Nat.reduceMod, Nat.lt_add_one, Nat.lt_irrefl, Nat.add_lt_add_iff_left, Nat.lt_add_right_iff_pos, List.getElem?_cons_zero, List.getElem?_cons_succ, Option.bind_some, Nat.succ_ne_zero, ne_eq, not_false_eq_true, if_false, if_true, Option.getD_some, Bool.not_true, Bool.not_false, r2, r3, r5, gA, gA0, gB, gB0, hb1, hb2, hcc1, hcc2, m2, hlt, Int.toNat_natCast, Nat.mul_one, hv1, hv2, not_true_eq_false, w3]
      exact ⟨k - 1, by omega, i + 1, _, by omega, rfl, by simp (failIfUnchanged := false) (maxSteps := 1000000) (maxDischargeDepth := 5) only [go_sem, cap_eq, Nat.reduceLT, Nat.reduceLeDiff, and_self, and_true, true_and, ↓reduceIte, decide_true, decide_false, Nat.le_refl, Nat.reduceEqDiff, reduceCtorEq, Nat.zero_add, Nat.reduceAdd, Nat.reducePow, Int.reduceEq, Int.reduceLT, Int.reduceLE, Int.reduceGT, Int.reduceGE, not_true_eq_false, Nat.reduceDiv, Nat.reduceMod, Nat.lt_add_one, Nat.lt_irrefl, Nat.add_lt_add_iff_left, Nat.lt_add_right_iff_pos, List.getElem?_cons_zero, List.getElem?_cons_succ, Option.bind_some, Nat.succ_ne_zero, ne_eq, not_false_eq_true, if_false, if_true, Option.getD_some, Bool.not_true, Bool.not_false, r2], by simp (failIfUnchanged := false) (maxSteps := 1000000) (maxDischargeDepth := 5) only [go_sem, cap_eq, Nat.reduceLT, Nat.reduceLeDiff, and_self, and_true, true_and, ↓reduceIte, decide_true, decide_false, Nat.le_refl, Nat.reduceEqDiff, reduceCtorEq, Nat.zero_add, Nat.reduceAdd, Nat.reducePow, Int.reduceEq, Int.reduceLT, Int.reduceLE, Int.reduceGT, Int.reduceGE, not_true_eq_false, Nat.reduceDiv, Nat.reduceMod, Nat.lt_add_one, Nat.lt_irrefl, Nat.add_lt_add_iff_left, Nat.lt_add_right_iff_pos, List.getElem?_cons_zero, List.getElem?_cons_succ, Option.bind_some, Nat.succ_ne_zero, ne_eq, not_false_eq_true, if_false, if_true, Option.getD_some, Bool.not_true, Bool.not_false, r3], by simp (failIfUnchanged := false) (maxSteps := 1000000) (maxDischargeDepth := 5) only [go_sem, cap_eq, Nat.reduceLT, Nat.reduceLeDiff, and_self, and_true, true_and, ↓reduceIte, decide_true, decide_false, Nat.le_refl, Nat.reduceEqDiff, reduceCtorEq, Nat.zero_add, Nat.reduceAdd, Nat.reducePow, Int.reduceEq, Int.reduceLT, Int.reduceLE, Int.reduceGT, Int.reduceGE, not_true_eq_false, Nat.reduceDiv, Nat.reduceMod, Nat.lt_add_one, Nat.lt_irrefl, Nat.add_lt_add_iff_left, Nat.lt_add_right_iff_pos, List.getElem?_cons_zero, List.getElem?_cons_succ, Option.bind_some, Nat.succ_ne_zero, ne_eq, not_false_eq_true, if_false, if_true, Option.getD_some, Bool.not_true, Bool.not_false, Int.natCast_add, Int.natCast_one]⟩
    · simp (failIfUnchanged := false) (maxSteps := 1000000) (maxDischargeDepth := 5) only [go_sem, cap_eq, Nat.reduceLT, Nat.reduceLeDiff, and_self, and_true, true_and, ↓reduceIte, decide_true, decide_false, Nat.le_refl, Nat.reduceEqDiff, reduceCtorEq, Nat.zero_add, Nat.reduceAdd, Nat.reducePow, Int.reduceEq, Int.reduceLT, Int.reduceLE, Int.reduceGT, Int.reduceGE, not_true_eq_false, Nat.reduceDiv, Nat.reduceMod, Nat.lt_add_one, Nat.lt_irrefl, Nat.add_lt_add_iff_left, Nat.lt_add_right_iff_pos, List.getElem?_cons_zero, List.getElem?_cons_succ, Option.bind_some, Nat.succ_ne_zero, ne_eq, not_false_eq_true, if_false, if_true, Option.getD_some, Bool.not_true, Bool.not_false]
      exact hk hB EB (by omega)
  · exact ⟨0, _, by omega, rfl, by simp (failIfUnchanged := false) (maxSteps := 1000000) (maxDischargeDepth := 5) only [go_sem, cap_eq, Nat.reduceLT, Nat.reduceLeDiff, and_self, and_true, true_and, ↓reduceIte, decide_true, decide_false, Nat.le_refl, Nat.reduceEqDiff, reduceCtorEq, Nat.zero_add, Nat.reduceAdd, Nat.reducePow, Int.reduceEq, Int.reduceLT, Int.reduceLE, Int.reduceGT, Int.reduceGE, not_true_eq_false, Nat.reduceDiv, Nat.reduceMod, Nat.lt_add_one, Nat.lt_irrefl, Nat.add_lt_add_iff_left, Nat.lt_add_right_iff_pos, List.getElem?_cons_zero, List.getElem?_cons_succ, Option.bind_some, Nat.succ_ne_zero, ne_eq, not_false_eq_true, if_false, if_true, Option.getD_some, Bool.not_true, Bool.not_false], by simp (failIfUnchanged := false) (maxSteps := 1000000) (maxDischargeDepth := 5) only [go_sem, cap_eq, Nat.reduceLT, Nat.reduceLeDiff, and_self, and_true, true_and, ↓reduceIte, decide_true, decide_false, Nat.le_refl, Nat.reduceEqDiff, reduceCtorEq, Nat.zero_add, Nat.reduceAdd, Nat.reducePow, Int.reduceEq, Int.reduceLT, Int.reduceLE, Int.reduceGT, Int.reduceGE, not_true_eq_false, Nat.reduceDiv, Nat.reduceMod, Nat.lt_add_one, Nat.lt_irrefl, Nat.add_lt_add_iff_left, Nat.lt_add_right_iff_pos, List.getElem?_cons_zero, List.getElem?_cons_succ, Option.bind_some, Nat.succ_ne_zero, ne_eq, not_false_eq_true, if_false, if_true, Option.getD_some, Bool.not_true, Bool.not_false], by simp (failIfUnchanged := false) (maxSteps := 1000000) (maxDischargeDepth := 5) only [go_sem, cap_eq, Nat.reduceLT, Nat.reduceLeDiff, and_self, and_true, true_and, ↓reduceIte, decide_true, decide_false, Nat.le_refl, Nat.reduceEqDiff, reduceCtorEq, Nat.zero_add, Nat.reduceAdd, Nat.reducePow, Int.reduceEq, Int.reduceLT, Int.reduceLE, Int.reduceGT, Int.reduceGE, not_true_eq_false, Nat.reduceDiv, Nat.reduceMod, Nat.lt_add_one, Nat.lt_irrefl, Nat.add_lt_add_iff_left, Nat.lt_add_right_iff_pos, List.getElem?_cons_zero, List.getElem?_cons_succ, Option.bind_some, Nat.succ_ne_zero, ne_eq, not_false_eq_true, if_false, if_true, Option.getD_some, Bool.not_true, Bool.not_false]; rfl⟩
end S1
end
section
/- Layer 32 (pack): PackWrites holds, walked. -/
open Go Go.Ev Go.Proofs Go.Proofs.Ythhohhbkeaghnaa PK
namespace S1
set_option maxRecDepth 10000
set_option maxHeartbeats 4000000 in
theorem specWrites (ac ad : Option Addr) (lc cc ld cd : Nat) (cw dl : List Int) (limit notes : Int) (h : AH) (HC : Holds h vW ac lc cw) (HD : Holds h vB ad ld dl) (hcd : ld ≤ cd) (hlc : lc ≤ 9223372036854775807) (hld : ld ≤ 9223372036854775807) (hcw : ∀ z ∈ cw, 0 ≤ z ∧ z < 4294967296) (hdl : ∀ z ∈ dl, 0 ≤ z ∧ z ≤ 255)
    (hl : -9223372036854775808 ≤ limit ∧ limit ≤ 9223372036854775807) (hc : h.next + 300000000 < 1099511627776) :
    ∃ h', CL E0 ft0 (.fn 5) [.agg ⟨[.slice ac lc cc, .slice ad ld cd, .int .i64 limit, .int .i64 notes]⟩] none h = .ret (.bool true) h' false := by
  obtain rfl := HC.1
  obtain rfl := HD.1
  have hc0 : h.next < 1099511627776 := by omega
  refine W_body (K := fun x => ∃ h', x = .ret (.bool true) h' false) ft5 (by simp [Try.f5]) (by decide) ?_
  simp only [Try.f5]
  simp (failIfUnchanged := false) (maxSteps := 1000000) (maxDischargeDepth := 5) only [go_sem, cap_eq, Nat.reduceLT, Nat.reduceLeDiff, and_self, and_true, true_and, ↓reduceIte, decide_true, decide_false, Nat.le_refl, Nat.reduceEqDiff, reduceCtorEq, Nat.zero_add, Nat.reduceAdd, Nat.reducePow, Int.reduceEq, Int.reduceLT, Int.reduceLE, Int.reduceGT, Int.reduceGE, not_true_eq_false, Nat.reduceDiv, Nat.reduceMod, Nat.lt_add_one, Nat.lt_irrefl, Nat.add_lt_add_iff_left, Nat.lt_add_right_iff_pos, List.getElem?_cons_zero, List.getElem?_cons_succ, Option.bind_some, Nat.succ_ne_zero, ne_eq, not_false_eq_true, if_false, if_true, Option.getD_some, Bool.not_true, Bool.not_false, hc0]
  generalize hBe : AH.new h (.cells 4 _ 38 0 true) = hB
  have EB : Ext h hB := by rw [← hBe]; exact (Ext.refl h).new _ hc0
  have hBn : hB.next = h.next + 1 := by rw [← hBe]; rfl
  have gB : ∃ c e o w, hB.b.get h.next = some (.cells 4 c e o w) ∧ c.get 0 = some (.slice ac cw.length cc) ∧ c.get 1 = some (.slice ad dl.length cd) ∧ c.get 2 = some (.int .i64 limit) ∧ c.get 3 = some (.int .i64 notes) := by
    rw [← hBe]; exact ⟨_, _, _, _, by simp (failIfUnchanged := false) (maxSteps := 1000000) (maxDischargeDepth := 5) only [go_sem, cap_eq, Nat.reduceLT, Nat.reduceLeDiff, and_self, and_true, true_and, ↓reduceIte, decide_true, decide_false, Nat.le_refl, Nat.reduceEqDiff, reduceCtorEq, Nat.zero_add, Nat.reduceAdd, Nat.reducePow, Int.reduceEq, Int.reduceLT, Int.reduceLE, Int.reduceGT, Int.reduceGE, not_true_eq_false, Nat.reduceDiv, Nat.reduceMod, Nat.lt_add_one, Nat.lt_irrefl, Nat.add_lt_add_iff_left, Nat.lt_add_right_iff_pos, List.getElem?_cons_zero, List.getElem?_cons_succ, Option.bind_some, Nat.succ_ne_zero, ne_eq, not_false_eq_true, if_false, if_true, Option.getD_some, Bool.not_true, Bool.not_false, hc0]; rfl, by simp (failIfUnchanged := false) (maxSteps := 1000000) (maxDischargeDepth := 5) only [go_sem, cap_eq, Nat.reduceLT, Nat.reduceLeDiff, and_self, and_true, true_and, ↓reduceIte, decide_true, decide_false, Nat.le_refl, Nat.reduceEqDiff, reduceCtorEq, Nat.zero_add, Nat.reduceAdd, Nat.reducePow, Int.reduceEq, Int.reduceLT, Int.reduceLE, Int.reduceGT, Int.reduceGE, not_true_eq_false, Nat.reduceDiv, Nat.reduceMod, Nat.lt_add_one, Nat.lt_irrefl, Nat.add_lt_add_iff_left, Nat.lt_add_right_iff_pos, List.getElem?_cons_zero, List.getElem?_cons_succ, Option.bind_some, Nat.succ_ne_zero, ne_eq, not_false_eq_true, if_false, if_true, Option.getD_some, Bool.not_true, Bool.not_false], by simp (failIfUnchanged := false) (maxSteps := 1000000) (maxDischargeDepth := 5) only [go_sem, cap_eq, Nat.reduceLT, Nat.reduceLeDiff, and_self, and_true, true_and, ↓reduceIte, decide_true, decide_false, Nat.le_refl, Nat.reduceEqDiff, reduceCtorEq, Nat.zero_add, Nat.reduceAdd, Nat.reducePow, Int.reduceEq, Int.reduceLT, Int.reduceLE, Int.reduceGT, Int.reduceGE, not_true_eq_false, Nat.reduceDiv, Nat.reduceMod, Nat.lt_add_one, Nat.lt_irrefl, Nat.add_lt_add_iff_left, Nat.lt_add_right_iff_pos, List.getElem?_cons_zero, List.getElem?_cons_succ, Option.bind_some, Nat.succ_ne_zero, ne_eq, not_false_eq_true, if_false, if_true, Option.getD_some, Bool.not_true, Bool.not_false], by simp (failIfUnchanged := false) (maxSteps := 1000000) (maxDischargeDepth := 5) only [go_sem, cap_eq, Nat.reduceLT, Nat.reduceLeDiff, and_self, and_true, true_and, ↓reduceIte, decide_true, decide_false, Nat.le_refl, Nat.reduceEqDiff, reduceCtorEq, Nat.zero_add, Nat.reduceAdd, Nat.reducePow, Int.reduceEq, Int.reduceLT, Int.reduceLE, Int.reduceGT, Int.reduceGE, not_true_eq_false, Nat.reduceDiv, Nat.reduceMod, Nat.lt_add_one, Nat.lt_irrefl, Nat.add_lt_add_iff_left, Nat.lt_add_right_iff_pos, List.getElem?_cons_zero, List.getElem?_cons_succ, Option.bind_some, Nat.succ_ne_zero, ne_eq, not_false_eq_true, if_false, if_true, Option.getD_some, Bool.not_true, Bool.not_false], by simp (failIfUnchanged := false) (maxSteps := 1000000) (maxDischargeDepth := 5) only [go_sem, cap_eq, Nat.reduceLT, Nat.reduceLeDiff, and_self, and_true, true_and, ↓reduceIte, decide_true, decide_false, Nat.le_refl, Nat.reduceEqDiff, reduceCtorEq, Nat.zero_add, Nat.reduceAdd, Nat.reducePow, Int.reduceEq, Int.reduceLT, Int.reduceLE, Int.reduceGT, Int.reduceGE, not_true_eq_false, Nat.reduceDiv, Nat.reduceMod, Nat.lt_add_one, Nat.lt_irrefl, Nat.add_lt_add_iff_left, Nat.lt_add_right_iff_pos, List.getElem?_cons_zero, List.getElem?_cons_succ, Option.bind_some, Nat.succ_ne_zero, ne_eq, not_false_eq_true, if_false, if_true, Option.getD_some, Bool.not_true, Bool.not_false]⟩
  clear hBe
  obtain ⟨c, e, o, w, g1, g20, g21, g22, g23⟩ := gB
  refine spec15 ac ad _ cc _ cd limit notes hB (by omega) _ fun h1 v hv E1 hn1 => ?_
  have g2 := (E1.2 h.next (by omega)).trans g1
  have q1 := E1.1
  cases v
  · simp (failIfUnchanged := false) (maxSteps := 1000000) (maxDischargeDepth := 5) only [go_sem, cap_eq, Nat.reduceLT, Nat.reduceLeDiff, and_self, and_true, true_and, ↓reduceIte, decide_true, decide_false, Nat.le_refl, Nat.reduceEqDiff, reduceCtorEq, Nat.zero_add, Nat.reduceAdd, Nat.reducePow, Int.reduceEq, Int.reduceLT, Int.reduceLE, Int.reduceGT, Int.reduceGE, not_true_eq_false, Nat.reduceDiv, Nat.reduceMod, Nat.lt_add_one, Nat.lt_irrefl, Nat.add_lt_add_iff_left, Nat.lt_add_right_iff_pos, List.getElem?_cons_zero, List.getElem?_cons_succ, Option.bind_some, Nat.succ_ne_zero, ne_eq, not_false_eq_true, if_false, if_true, Option.getD_some, Bool.not_true, Bool.not_false]
    exact ⟨_, rfl⟩
  have hfew : (cw.length ≤ 300 ∨ (cw.length > 32768 ∧ cw.length ≤ 33000)) ∧ (dl.length ≤ 3000 ∨ (dl.length > 65536 ∧ dl.length ≤ 66000)) := of_decide_eq_true hv.symm
  simp (failIfUnchanged := false) (maxSteps := 1000000) (maxDischargeDepth := 5) only [go_sem, cap_eq, Nat.reduceLT, Nat.reduceLeDiff, and_self, and_true, true_and, ↓reduceIte, decide_true, decide_false, Nat.le_refl, Nat.reduceEqDiff, reduceCtorEq, Nat.zero_add, Nat.reduceAdd, Nat.reducePow, Int.reduceEq, Int.reduceLT, Int.reduceLE, Int.reduceGT, Int.reduceGE, not_true_eq_false, Nat.reduceDiv, Nat.reduceMod, Nat.lt_add_one, Nat.lt_irrefl, Nat.add_lt_add_iff_left, Nat.lt_add_right_iff_pos, List.getElem?_cons_zero, List.getElem?_cons_succ, Option.bind_some, Nat.succ_ne_zero, ne_eq, not_false_eq_true, if_false, if_true, Option.getD_some, Bool.not_true, Bool.not_false, g2, g20, g21, g22, g23]
  refine spec17 ac ad _ _ _ _ cw dl limit notes h1 (HC.ext (EB.trans E1)) (HD.ext (EB.trans E1)) hcd hlc hld hcw hdl hl (by omega) _ (fun h2 hr E2 hn2 => ?_) (fun h2 a2 hr O2 E2 hn2 => ?_)
  · have g3 := (E2.2 h.next (by omega)).trans g2
    have q2 := E2.1
    simp (failIfUnchanged := false) (maxSteps := 1000000) (maxDischargeDepth := 5) only [go_sem, cap_eq, Nat.reduceLT, Nat.reduceLeDiff, and_self, and_true, true_and, ↓reduceIte, decide_true, decide_false, Nat.le_refl, Nat.reduceEqDiff, reduceCtorEq, Nat.zero_add, Nat.reduceAdd, Nat.reducePow, Int.reduceEq, Int.reduceLT, Int.reduceLE, Int.reduceGT, Int.reduceGE, not_true_eq_false, Nat.reduceDiv, Nat.reduceMod, Nat.lt_add_one, Nat.lt_irrefl, Nat.add_lt_add_iff_left, Nat.lt_add_right_iff_pos, List.getElem?_cons_zero, List.getElem?_cons_succ, Option.bind_some, Nat.succ_ne_zero, ne_eq, not_false_eq_true, if_false, if_true, Option.getD_some, Bool.not_true, Bool.not_false, g3, g20, g21, g22, g23]
    refine spec18 ac ad _ cc _ cd limit notes h2 hl (by omega) _ fun v h3 hv3 hn3 E3 => ?_
    rw [hr] at hv3; subst hv3
    simp (failIfUnchanged := false) (maxSteps := 1000000) (maxDischargeDepth := 5) only [go_sem, cap_eq, Nat.reduceLT, Nat.reduceLeDiff, and_self, and_true, true_and, ↓reduceIte, decide_true, decide_false, Nat.le_refl, Nat.reduceEqDiff, reduceCtorEq, Nat.zero_add, Nat.reduceAdd, Nat.reducePow, Int.reduceEq, Int.reduceLT, Int.reduceLE, Int.reduceGT, Int.reduceGE, not_true_eq_false, Nat.reduceDiv, Nat.reduceMod, Nat.lt_add_one, Nat.lt_irrefl, Nat.add_lt_add_iff_left, Nat.lt_add_right_iff_pos, List.getElem?_cons_zero, List.getElem?_cons_succ, Option.bind_some, Nat.succ_ne_zero, ne_eq, not_false_eq_true, if_false, if_true, Option.getD_some, Bool.not_true, Bool.not_false]
    exact ⟨_, rfl⟩
  · have g3 := (E2.2 h.next (by omega)).trans g2
    have q2 := E2.1
    simp (failIfUnchanged := false) (maxSteps := 1000000) (maxDischargeDepth := 5) only [go_sem, cap_eq, Nat.reduceLT, Nat.reduceLeDiff, and_self, and_true, true_and, ↓reduceIte, decide_true, decide_false, Nat.le_refl, Nat.reduceEqDiff, reduceCtorEq, Nat.zero_add, Nat.reduceAdd, Nat.reducePow, Int.reduceEq, Int.reduceLT, Int.reduceLE, Int.reduceGT, Int.reduceGE, not_true_eq_false, Nat.reduceDiv, Nat.reduceMod, Nat.lt_add_one, Nat.lt_irrefl, Nat.add_lt_add_iff_left, Nat.lt_add_right_iff_pos, List.getElem?_cons_zero, List.getElem?_cons_succ, Option.bind_some, Nat.succ_ne_zero, ne_eq, not_false_eq_true, if_false, if_true, Option.getD_some, Bool.not_true, Bool.not_false, g3, g20, g21, g22, g23]
    refine spec18 ac ad _ cc _ cd limit notes h2 hl (by omega) _ fun v h3 hv3 hn3 E3 => ?_
    rw [hr] at hv3; subst hv3
    have q3 := E3.1
    have g4 := (E3.2 h.next (by omega)).trans g3
    obtain ⟨g, hg⟩ : ∃ g : Img, g = ⟨cw, dl, limit, notes⟩ := ⟨_, rfl⟩
    have hgo : g.Ok := by rw [hg]; exact ⟨hr, hcw, hdl⟩
    have henc : encP cw dl limit notes = g.enc := by rw [hg]; rfl
    have hpt := hgo.parts
    have hpt' : 1 ≤ cw.length ∧ cw.length ≤ 32768 ∧ 4 ≤ dl.length ∧ dl.length ≤ 65536 := by rw [hg] at hpt; exact ⟨hpt.1, hpt.2.1, hpt.2.2.1, hpt.2.2.2.1⟩
    have hel : g.enc.length ≤ 10000 := by
      rw [← henc]
      unfold encP
      have hf : ∀ l : List Int, (l.flatMap num4).length = 4 * l.length := by
        intro l
        induction l with
        | nil => rfl
        | cons x l ih => rw [List.flatMap_cons, List.length_append, num4_length, ih, List.length_cons]; omega
      have := runsP_len dl
      simp only [List.length_append, hf, List.length_cons, List.length_nil]
      omega
    rw [henc] at O2 ⊢
    have O3 := O2.ext E3
    have hdb : ∀ z ∈ g.enc, 0 ≤ z ∧ z ≤ 255 := enc_bytes (by rw [hg]; exact hdl)
    simp (failIfUnchanged := false) (maxSteps := 1000000) (maxDischargeDepth := 5) only [go_sem, cap_eq, Nat.reduceLT, Nat.reduceLeDiff, and_self, and_true, true_and, ↓reduceIte, decide_true, decide_false, Nat.le_refl, Nat.reduceEqDiff, reduceCtorEq, Nat.zero_add, Nat.reduceAdd, Nat.reducePow, Int.reduceEq, Int.reduceLT, Int.reduceLE, Int.reduceGT, Int.reduceGE, not_true_eq_false, Nat.reduceDiv, Nat.reduceMod, Nat.lt_add_one, Nat.lt_irrefl, Nat.add_lt_add_iff_left, Nat.lt_add_right_iff_pos, List.getElem?_cons_zero, List.getElem?_cons_succ, Option.bind_some, Nat.succ_ne_zero, ne_eq, not_false_eq_true, if_false, if_true, Option.getD_some, Bool.not_true, Bool.not_false]
    refine spec19 a2 _ g.enc h3 (O3.holds rfl) (Nat.le_refl _) hdb (by omega) (by omega) _ (fun h4 hx _ _ => ?_) (fun h4 _ hx _ _ => ?_) (fun h4 ac4 ad4 g' _ hg' he' OC4 OD4 E4 hn4 => ?_)
    · omega
    · exact absurd ⟨g, hgo, rfl⟩ hx
    · have hgg : g' = g := (enc_prefix hg' hgo (rest := []) (by rw [List.append_nil]; exact he'.symm)).1
      subst hgg
      have q4 := E4.1
      have g5 := (E4.2 h.next (by omega)).trans g4
      have hc4 : h4.next < 1099511627776 := by omega
      subst hg
      have hne4 : h.next ≠ h4.next := by omega
      simp (failIfUnchanged := false) (maxSteps := 1000000) (maxDischargeDepth := 5) only [go_sem, cap_eq, Nat.reduceLT, Nat.reduceLeDiff, and_self, and_true, true_and, ↓reduceIte, decide_true, decide_false, Nat.le_refl, Nat.reduceEqDiff, reduceCtorEq, Nat.zero_add, Nat.reduceAdd, Nat.reducePow, Int.reduceEq, Int.reduceLT, Int.reduceLE, Int.reduceGT, Int.reduceGE, not_true_eq_false, Nat.reduceDiv, Nat.reduceMod, Nat.lt_add_one, Nat.lt_irrefl, Nat.add_lt_add_iff_left, Nat.lt_add_right_iff_pos, List.getElem?_cons_zero, List.getElem?_cons_succ, Option.bind_some, Nat.succ_ne_zero, ne_eq, not_false_eq_true, if_false, if_true, Option.getD_some, Bool.not_true, Bool.not_false, hc4]
      generalize h5e : AH.upd (h4.new (.cells 4 _ 38 0 true)) h4.next (.cells 4 _ 38 0 true) = h5
      have E45 : Ext h4 h5 := by rw [← h5e]; exact Ext.upd ((Ext.refl h4).new _ hc4) _ (Nat.le_refl _) hc4
      have hn5 : h5.next = h4.next + 1 := by rw [← h5e]; rfl
      have I5 : ∃ c e o w, h5.b.get h4.next = some (.cells 4 c e o w) ∧ c.get 0 = some (.slice ac4 cw.length cw.length) ∧ c.get 1 = some (.slice ad4 dl.length dl.length) ∧ c.get 2 = some (.int .i64 limit) ∧ c.get 3 = some (.int .i64 notes) := by
        rw [← h5e]
        exact ⟨_, _, _, _, by simp (failIfUnchanged := false) (maxSteps := 1000000) (maxDischargeDepth := 5) only [go_sem, cap_eq, Nat.reduceLT, Nat.reduceLeDiff, and_self, and_true, true_and, ↓reduceIte, decide_true, decide_false, Nat.le_refl, Nat.reduceEqDiff, reduceCtorEq, Nat.zero_add, Nat.reduceAdd, Nat.reducePow, Int.reduceEq, Int.reduceLT, Int.reduceLE, Int.reduceGT, Int.reduceGE, not_true_eq_false, Nat.reduceDiv, Nat.reduceMod, Nat.lt_add_one, Nat.lt_irrefl, Nat.add_lt_add_iff_left, Nat.lt_add_right_iff_pos, List.getElem?_cons_zero, List.getElem?_cons_succ, Option.bind_some, Nat.succ_ne_zero, ne_eq, not_false_eq_true, if_false, if_true, Option.getD_some, Bool.not_true, Bool.not_false, hc4]; rfl, by simp (failIfUnchanged := false) (maxSteps := 1000000) (maxDischargeDepth := 5) only [go_sem, cap_eq, Nat.reduceLT, Nat.reduceLeDiff, and_self, and_true, true_and, ↓reduceIte, decide_true, decide_false, Nat.le_refl, Nat.reduceEqDiff, reduceCtorEq, Nat.zero_add, Nat.reduceAdd, Nat.reducePow, Int.reduceEq, Int.reduceLT, Int.reduceLE, Int.reduceGT, Int.reduceGE, not_true_eq_false, Nat.reduceDiv, Nat.reduceMod, Nat.lt_add_one, Nat.lt_irrefl, Nat.add_lt_add_iff_left, Nat.lt_add_right_iff_pos, List.getElem?_cons_zero, List.getElem?_cons_succ, Option.bind_some, Nat.succ_ne_zero, ne_eq, not_false_eq_true, if_false, if_true, Option.getD_some, Bool.not_true, Bool.not_false], by simp (failIfUnchanged := false) (maxSteps := 1000000) (maxDischargeDepth := 5) only [go_sem, cap_eq, Nat.reduceLT, Nat.reduceLeDiff, and_self, and_true, true_and, ↓reduceIte, decide_true, decide_false, Nat.le_refl, Nat.reduceEqDiff, reduceCtorEq, Nat.zero_add, Nat.reduceAdd, Nat.reducePow, Int.reduceEq, Int.reduceLT, Int.reduceLE, Int.reduceGT, Int.reduceGE, not_true_eq_false, Nat.reduceDiv, Nat.reduceMod, Nat.lt_add_one, Nat.lt_irrefl, Nat.add_lt_add_iff_left, Nat.lt_add_right_iff_pos, List.getElem?_cons_zero, List.getElem?_cons_succ, Option.bind_some, Nat.succ_ne_zero, ne_eq, not_false_eq_true, if_false, if_true, Option.getD_some, Bool.not_true, Bool.not_false], by simp (failIfUnchanged := false) (maxSteps := 1000000) (maxDischargeDepth := 5) only [go_sem, cap_eq, Nat.reduceLT, Nat.reduceLeDiff, and_self, and_true, true_and, ↓reduceIte, decide_true, decide_false, Nat.le_refl, Nat.reduceEqDiff, reduceCtorEq, Nat.zero_add, Nat.reduceAdd, Nat.reducePow, Int.reduceEq, Int.reduceLT, Int.reduceLE, Int.reduceGT, Int.reduceGE, not_true_eq_false, Nat.reduceDiv, Nat.reduceMod, Nat.lt_add_one, Nat.lt_irrefl, Nat.add_lt_add_iff_left, Nat.lt_add_right_iff_pos, List.getElem?_cons_zero, List.getElem?_cons_succ, Option.bind_some, Nat.succ_ne_zero, ne_eq, not_false_eq_true, if_false, if_true, Option.getD_some, Bool.not_true, Bool.not_false], by simp (failIfUnchanged := false) (maxSteps := 1000000) (maxDischargeDepth := 5) only [go_sem, cap_eq, Nat.reduceLT, Nat.reduceLeDiff, and_self, and_true, true_and, ↓reduceIte, decide_true, decide_false, Nat.le_refl, Nat.reduceEqDiff, reduceCtorEq, Nat.zero_add, Nat.reduceAdd, Nat.reducePow, Int.reduceEq, Int.reduceLT, Int.reduceLE, Int.reduceGT, Int.reduceGE, not_true_eq_false, Nat.reduceDiv, Nat.reduceMod, Nat.lt_add_one, Nat.lt_irrefl, Nat.add_lt_add_iff_left, Nat.lt_add_right_iff_pos, List.getElem?_cons_zero, List.getElem?_cons_succ, Option.bind_some, Nat.succ_ne_zero, ne_eq, not_false_eq_true, if_false, if_true, Option.getD_some, Bool.not_true, Bool.not_false]⟩
      clear h5e
      obtain ⟨c5, e5, o5, w5, i1, i20, i21, i22, i23⟩ := I5
      have g6 := (E45.2 h.next (by omega)).trans g5
      have E05 := (((EB.trans E1).trans E2).trans E3).trans (E4.trans E45)
      refine W_draw 7 [(0, 0), (1, 1), (2, 3), (3, 7), (4, 15), (5, 31), (6, 63), (7, 127), (8, 63), (9, 319), (10, 831), (11, 2047), (12, 4095), (13, 8191), (14, 16383), (15, 32767), (16, 65535), (17, 131071), (18, 262143), (19, 262143), (20, 1048575), (21, 2097151), (22, 4194303)] (by kernel_rfl) ?_
      have hencn : Img.enc ⟨cw, dl, limit, notes⟩ ≠ [] := by intro e; unfold Img.enc encP at e; simp at e
      have OE5 := (O3.ext E4).ext E45
      have cv5 := conv36 (cp := (Img.enc ⟨cw, dl, limit, notes⟩).length) (OE5.holds rfl) hencn
      have hvE := OE5.veq (Img.enc ⟨cw, dl, limit, notes⟩).length (Img.enc ⟨cw, dl, limit, notes⟩).length
      have hvC := HC.veq cw.length cc
      have hvD := HD.veq dl.length cd
      simp (failIfUnchanged := false) (maxSteps := 1000000) (maxDischargeDepth := 5) only [go_sem, cap_eq, Nat.reduceLT, Nat.reduceLeDiff, and_self, and_true, true_and, ↓reduceIte, decide_true, decide_false, Nat.le_refl, Nat.reduceEqDiff, reduceCtorEq, Nat.zero_add, Nat.reduceAdd, Nat.reducePow, Int.reduceEq, Int.reduceLT, Int.reduceLE, Int.reduceGT, Int.reduceGE, not_true_eq_false, Nat.reduceDiv, Nat.reduceMod, Nat.lt_add_one, Nat.lt_irrefl, Nat.add_lt_add_iff_left, Nat.lt_add_right_iff_pos, List.getElem?_cons_zero, List.getElem?_cons_succ, Option.bind_some, Nat.succ_ne_zero, ne_eq, not_false_eq_true, if_false, if_true, Option.getD_some, Bool.not_true, Bool.not_false, g6, g20, g21, g22, g23, cv5, hvC, hvD]
      refine spec20 ac ad _ cc _ cd cw dl limit notes h5 (HC.ext E05) (HD.ext E05) hcw hdl hr (by omega) _ fun h6 a6 O6 E6 hn6 => ?_
      have q6 := E6.1
      have g7 := (E6.2 h.next (by omega)).trans g6
      have i2 := (E6.2 h4.next (by omega)).trans i1
      rw [henc] at O6 ⊢
      have cv6a := conv36 (cp := (Img.enc ⟨cw, dl, limit, notes⟩).length) ((OE5.ext E6).holds rfl) hencn
      have cv6b := conv36 (cp := (Img.enc ⟨cw, dl, limit, notes⟩).length) (O6.holds rfl) hencn
      simp (failIfUnchanged := false) (maxSteps := 1000000) (maxDischargeDepth := 5) only [go_sem, cap_eq, Nat.reduceLT, Nat.reduceLeDiff, and_self, and_true, true_and, ↓reduceIte, decide_true, decide_false, Nat.le_refl, Nat.reduceEqDiff, reduceCtorEq, Nat.zero_add, Nat.reduceAdd, Nat.reducePow, Int.reduceEq, Int.reduceLT, Int.reduceLE, Int.reduceGT, Int.reduceGE, not_true_eq_false, Nat.reduceDiv, Nat.reduceMod, Nat.lt_add_one, Nat.lt_irrefl, Nat.add_lt_add_iff_left, Nat.lt_add_right_iff_pos, List.getElem?_cons_zero, List.getElem?_cons_succ, Option.bind_some, Nat.succ_ne_zero, ne_eq, not_false_eq_true, if_false, if_true, Option.getD_some, Bool.not_true, Bool.not_false, g7, g20, g21, g22, g23, cv6a, cv6b, hvC, hvD, beq_self_eq_true, i2, i20, i21, i22, i23, (OC4.ext E45).veq cw.length cw.length, (OD4.ext E45).veq dl.length dl.length]
      have hdn : dl ≠ [] := by intro e; rw [e] at hpt'; simp at hpt'
      refine spec21 ac4 ad4 ac ad _ _ cc cd cw dl limit notes h6 (((OC4.ext E45).ext E6).holds rfl) (((OD4.ext E45).ext E6).holds rfl) (HC.ext (E05.trans E6)) (HD.ext (E05.trans E6)) hdn hcw (by omega) (by omega) _ fun h7 E7 hn7 => ?_
      have q7 := E7.1
      have g8 := (E7.2 h.next (by omega)).trans g7
      have i3 := (E7.2 h4.next (by omega)).trans i2
      have cv7a := conv36 (cp := (Img.enc ⟨cw, dl, limit, notes⟩).length) (((OE5.ext E6).ext E7).holds rfl) hencn
      have cv7b := conv36 (cp := (Img.enc ⟨cw, dl, limit, notes⟩).length) ((O6.ext E7).holds rfl) hencn
      simp (failIfUnchanged := false) (maxSteps := 1000000) (maxDischargeDepth := 5) only [go_sem, cap_eq, Nat.reduceLT, Nat.reduceLeDiff, and_self, and_true, true_and, ↓reduceIte, decide_true, decide_false, Nat.le_refl, Nat.reduceEqDiff, reduceCtorEq, Nat.zero_add, Nat.reduceAdd, Nat.reducePow, Int.reduceEq, Int.reduceLT, Int.reduceLE, Int.reduceGT, Int.reduceGE, not_true_eq_false, Nat.reduceDiv, Nat.reduceMod, Nat.lt_add_one, Nat.lt_irrefl, Nat.add_lt_add_iff_left, Nat.lt_add_right_iff_pos, List.getElem?_cons_zero, List.getElem?_cons_succ, Option.bind_some, Nat.succ_ne_zero, ne_eq, not_false_eq_true, if_false, if_true, Option.getD_some, Bool.not_true, Bool.not_false, g8, g20, g21, g22, g23, cv7a, cv7b, hvC, hvD, beq_self_eq_true, i3, i20, i21, i22, i23]
      exact ⟨_, rfl⟩
end S1
end
section
/- A deterministic evaluator of the model's code over a memory of its own: how a call begins, and what it leaves. -/
namespace Go.Ev
variable {E : Env} {P : Program}

/-- A memory of which nothing may be written. -/
structure Start (ρ : Rn) (h : AH) (W : World) : Prop where
  rel : WRel ρ h W
  top : Top ρ h
  ro : ∀ b blk, h.b.get b = some blk → blk.own = false
  lt : ∀ b blk, h.b.get b = some blk → b < h.next

theorem Start.nothing (W : World) : Start (fun _ => none) AH.none W :=
  ⟨wrel_none _ W, fun _ _ => rfl, fun b blk h => by simp [AH.none, Tr.get] at h, fun b blk h => by simp [AH.none, Tr.get] at h⟩

theorem Start.more {ρ : Rn} {h : AH} {W : World} (S : Start ρ h W) (hn : h.next < cap) {blk : Blk} (ho : blk.own = false) {r : Nat × Nat × Nat} (hr : BlkRel (ρ.ins h.next r) W r.1 r.2.1 r.2.2 blk) : Start (ρ.ins h.next r) (h.new blk) W := by
  have sub : Sub ρ (ρ.ins h.next r) := Rn.sub_ins (S.top _ (Nat.le_refl _))
  have get : ∀ b x, (h.new blk).b.get b = some x → (b = h.next ∧ x = blk) ∨ (b ≠ h.next ∧ h.b.get b = some x) := by
    intro b x hb
    rw [get_new_if hn] at hb
    by_cases e : b = h.next
    · rw [if_pos e] at hb; cases hb; exact .inl ⟨e, rfl⟩
    · rw [if_neg e] at hb; exact .inr ⟨e, hb⟩
  have own : ∀ b x, (h.new blk).b.get b = some x → x.own = false := by
    intro b x hb
    rcases get b x hb with ⟨_, rfl⟩ | ⟨_, h2⟩
    · exact ho
    · exact S.ro b x h2
  refine ⟨⟨fun b x hb => ?_, fun b x hb c s y hc => ?_, fun b b' x x' hb hb' ho' => ?_, fun b b' x x' hb hb' ho' => ?_⟩, fun i hi => ?_, own, fun b x hb => ?_⟩
  · rcases get b x hb with ⟨e, _⟩ | ⟨_, h2⟩
    · omega
    · exact S.rel.low b x h2
  · rcases get b x hb with ⟨e, rfl⟩ | ⟨e, h2⟩
    · subst e
      have : (c, s, y) = r := by simpa [Rn.ins] using hc.symm
      subst this
      exact hr
    · have : ρ b = some (c, s, y) := by simpa [Rn.ins, e] using hc
      exact (S.rel.blk b x h2 c s y this).mono sub
  · have := own b x hb; rw [this] at ho'; cases ho'
  · have := own b x hb; rw [this] at ho'; cases ho'
  · have hi' : h.next + 1 ≤ i := hi
    show (if i = h.next then some r else ρ i) = none
    rw [if_neg (by omega)]
    exact S.top i (by omega)
  · show b < h.next + 1
    rcases get b x hb with ⟨e, _⟩ | ⟨_, h2⟩
    · omega
    · have := S.lt b x h2; omega

/-- A number that leads nowhere. -/
theorem Start.skip {ρ : Rn} {h : AH} {W : World} (S : Start ρ h W) (hn : h.next < cap) : Start ρ (h.new .dead) W := by
  have get : ∀ b x, (h.new .dead).b.get b = some x → (b = h.next ∧ x = .dead) ∨ (b ≠ h.next ∧ h.b.get b = some x) := by
    intro b x hb
    rw [get_new_if hn] at hb
    by_cases e : b = h.next
    · rw [if_pos e] at hb; cases hb; exact .inl ⟨e, rfl⟩
    · rw [if_neg e] at hb; exact .inr ⟨e, hb⟩
  have own : ∀ b x, (h.new .dead).b.get b = some x → x.own = false := by
    intro b x hb
    rcases get b x hb with ⟨_, rfl⟩ | ⟨_, h2⟩
    · rfl
    · exact S.ro b x h2
  refine ⟨⟨fun b x hb => ?_, fun b x hb c s y hc => ?_, fun b b' x x' hb hb' ho' => ?_, fun b b' x x' hb hb' ho' => ?_⟩, fun i hi => S.top i (Nat.le_of_succ_le hi), own, fun b x hb => ?_⟩
  · rcases get b x hb with ⟨e, _⟩ | ⟨_, h2⟩
    · omega
    · exact S.rel.low b x h2
  · rcases get b x hb with ⟨e, rfl⟩ | ⟨e, h2⟩
    · exact True.intro
    · exact S.rel.blk b x h2 c s y hc
  · have := own b x hb; rw [this] at ho'; cases ho'
  · have := own b x hb; rw [this] at ho'; cases ho'
  · show b < h.next + 1
    rcases get b x hb with ⟨e, _⟩ | ⟨_, h2⟩
    · omega
    · have := S.lt b x h2; omega

/-- A slice of whole numbers that came in. -/
def Came (W : World) (k : IntKind) (a : Option Addr) (len cp : Nat) (zs : List Int) : Prop :=
  zs.length = len ∧ ((a = none ∧ len = 0 ∧ cp = 0) ∨ ∃ x, a = some x ∧ x.spot = none ∧ len ≤ cp ∧ (∃ o, W.heap[x.block]? = some o) ∧ ∀ i z, zs[i]? = some z → W.cell? (x.add i) = some (.int k z))

theorem Start.slice {ρ : Rn} {h : AH} {W : World} (S : Start ρ h W) (hn : h.next < cap) {k : IntKind} {a : Option Addr} {len cp : Nat} {zs : List Int} (C : Came W k a len cp zs) :
    ∃ ρ' h' a', Start ρ' h' W ∧ Sub ρ ρ' ∧ Ext h h' ∧ h'.next = h.next + 1 ∧ Holds h' (fun z : Int => .int k z) a' len zs ∧ ren ρ' (.slice a' len cp) = some (.slice a len cp) := by
  obtain ⟨hl, ⟨rfl, rfl, rfl⟩ | ⟨x, rfl, hs, hle, ⟨o, ho⟩, hc⟩⟩ := C
  · exact ⟨ρ, h.new .dead, none, S.skip hn, Sub.refl _, (Ext.refl h).new _ hn, rfl, ⟨hl, .inl rfl, .inl (List.eq_nil_of_length_eq_zero hl)⟩, by simp [ren]⟩
  · obtain ⟨xb, xo, xs⟩ := x
    simp only at hs
    subst hs
    refine ⟨ρ.ins h.next (xb, xo, 0), h.new (.ro len fun i => .int k (zs.getD i 0)), some ⟨h.next, 0, none⟩, S.more hn rfl ?_, Rn.sub_ins (S.top _ (Nat.le_refl _)), (Ext.refl h).new _ hn, rfl, Holds.mk' hl (Nat.lt_succ_self _) (get_new_self hn) (fun i z hz => ?_), ?_⟩
    · refine ⟨⟨rfl, o, ho⟩, fun i hi => ⟨.int k (zs.getD i 0), by simp [ren], ?_⟩⟩
      have hz : zs[i]? = some (zs.getD i 0) := by
        rw [List.getElem?_eq_getElem (by omega), List.getD_eq_getElem?_getD, List.getElem?_eq_getElem (by omega)]; rfl
      have := hc i _ hz
      unfold Addr.add at this
      by_cases h0 : i = 0
      · subst h0; simpa using this
      · simpa [h0] using this
    · have hi : i < zs.length := by
        by_cases hi : i < zs.length
        · exact hi
        · rw [List.getElem?_eq_none (by omega)] at hz; cases hz
      rw [cell_ro, if_pos (by omega), Nat.zero_add, List.getD_eq_getElem?_getD, hz]; rfl
    · simp [ren, Rn.ins]

/-- Nothing that was there has turned. -/
theorem Start.below {ρ : Rn} {h : AH} {W : World} (S : Start ρ h W) {ρ' : Rn} {h' : AH} {W' : World} (st : Step ρ h W ρ' h' W') : RowKit.Below W.heap.size W W' :=
  ⟨st.os, st.tape, st.output, st.size, fun c hc => st.keep c hc fun b blk s x hb ho _ => by rw [S.ro b blk hb] at ho; cases ho⟩

theorem calls_true (ok : Ok E P) (kn : KnownOk E P) {ft : Tr AFunc} (tab : TabOk P ft) (ng : E.ng = 0) {f : FuncId} {af : AFunc} (hf : ft.get f = some af) {ρ : Rn} {h h' : AH} {W : World} {rc : Bool} (S : Start ρ h W) {args args' : List Value} (e : CL E ft (.fn f) args none h = .ret (.bool true) h' rc) (ha : renL ρ args = some args') :
    Calls P f ⟨args'⟩ W fun e W' => e = .returned (.bool true) ∧ RowKit.Below W.heap.size W W' := by
  have C := calls_of_CL ok kn tab hf e S.rel S.top (fun g hg => by rw [ng] at hg; omega) ha
  intro cs
  obtain ⟨e, W', fr, ⟨ρ', v', h1, h2, h3⟩, h4⟩ := C cs
  simp [ren] at h2
  exact ⟨e, W', fr, ⟨by rw [h3, ← h2], S.below h1⟩, h4⟩

end Go.Ev
end
section
/- A deterministic evaluator of the model's code over a memory of its own: how arguments come in. -/
namespace Go.Ev
open Go.ChangeShapes Go.WideShapes Go.ChangeAt Go.RowKit Go.Joins
section opens
variable {H : Type} {enc : TypeId × Value → H} {W : World}
/-- A slice of whole numbers that came in, with what is known of it. -/
theorem came_ints {P : Program} {t e : TypeId} {k : IntKind} {base : Nat} {v : Value} {fuel : Nat} {y : DataW H × List MemPlace} (ht : P.underlying t = some (.slice e)) (he : P.underlying e = some (.int k)) (hc : P.cellsOf e = 1)
    (hv : Cell.okWide P W .any base t v) (h : DataW.trod enc P W 0 (fun _ => true) true fuel t [v] = some y) :
    ∃ a len cp zs, v = .slice a len cp ∧ Came W k a len cp zs ∧ len ≤ 9223372036854775807 ∧ (∀ n ∈ zs, (Lit.int k n).wf = true) := by
  rcases open_ints ht he hc h with ⟨hcs, _⟩ | ⟨x, l, c, zs, hcs, _, hl, hm, hz, hx, hcell, hwz⟩
  · simp only [List.cons.injEq, and_true] at hcs
    exact ⟨none, 0, 0, [], hcs, ⟨rfl, .inl ⟨rfl, rfl, rfl⟩⟩, by omega, fun n hn => by cases hn⟩
  · simp only [List.cons.injEq, and_true] at hcs
    subst hcs
    simp only [Cell.okWide, ht, Cell.ok] at hv
    obtain ⟨h1, h2, h3, h4, row, cells, h5, _⟩ := hv
    simp only [if_true] at hz
    have hob : ∃ o, W.heap[x.block]? = some o := by
      cases ho : W.heap[x.block]? with
      | none => simp [World.shape?, ho] at h5
      | some o => exact ⟨o, rfl⟩
    have hi : (c : Int) ≤ 9223372036854775807 := by
      have : IntKind.i64.max = 9223372036854775807 := by decide
      rw [this] at h2; exact h2
    refine ⟨some x, l, c, zs.take l, rfl, ⟨by rw [List.length_take]; omega, .inr ⟨x, rfl, h4, hl, hob, fun i z hzi => ?_⟩⟩, by omega, fun n hn => hwz n (List.mem_of_mem_take hn)⟩
    rw [List.getElem?_take] at hzi
    split at hzi
    · have hil : i < zs.length := by omega
      have := hcell i hil
      rw [List.getD_eq_getElem?_getD, hzi] at this
      exact this
    · cases hzi
end opens
/-- The cells of a struct that came in are values of their own types. -/
theorem okWide_cell {P : Program} {W : World} {base : Nat} {t : TypeId} {cs : Array Value} {fs : Array Field} {ts : List TypeId} (ht : P.underlying t = some (.struct fs)) (hts : P.cellTypes P.depth t = some ts) (h : Value.okWide P W .any base t (.agg cs)) (i : Nat) (u : TypeId) (v : Value) (hu : ts[i]? = some u) (hv : cs[i]? = some v) : Cell.okWide P W .any base u v := by
  simp only [Value.okWide, ht] at h
  obtain ⟨cs', e, hsz, ts', h1, ⟨n, h2⟩, h3⟩ := h
  cases e
  rw [hts] at h1; cases h1
  obtain ⟨u', h4, h5⟩ := h3 i v hv
  have hi : i < ts.length := (List.getElem?_eq_some_iff.1 hu).1
  rw [Nat.mod_eq_of_lt hi, hu] at h4
  cases h4
  exact h5
end Go.Ev
end
section
/- Seat r1: what every row asks. -/
open Go Go.Ev Go.Proofs Go.Proofs.Ythhohhbkeaghnaa
namespace S1
open Go.ChangeShapes Go.WideShapes Go.ChangeAt Go.RowKit Go.Joins
theorem own : ownKnob Try.prog.godebug = none := by kernel_rfl
theorem laidOut : laidOutB Try.prog = true := by kernel_rfl
end S1
end
section
/- Layer 32 (pack): the row of PackWrites. -/
open Go Go.Ev Go.Proofs Go.Proofs.Ythhohhbkeaghnaa PK
namespace S1
open Go.ChangeShapes Go.WideShapes Go.ChangeAt Go.RowKit Go.Joins
set_option linter.unusedVariables false
theorem wf_u8 {n : Int} (h : (Lit.int .u8 n).wf = true) : 0 ≤ n ∧ n ≤ 255 := by
  simp [Lit.wf, IntKind.min, IntKind.max, IntKind.signed, IntKind.bits] at h
  omega
theorem wf_u32 {n : Int} (h : (Lit.int .u32 n).wf = true) : 0 ≤ n ∧ n < 4294967296 := by
  simp [Lit.wf, IntKind.min, IntKind.max, IntKind.signed, IntKind.bits] at h
  omega
theorem wf_i64 {n : Int} (h : (Lit.int .i64 n).wf = true) : -9223372036854775808 ≤ n ∧ n ≤ 9223372036854775807 := by
  simp [Lit.wf, IntKind.min, IntKind.max, IntKind.signed, IntKind.bits] at h
  omega
theorem came_cap {W : World} {k : IntKind} {a : Option Addr} {len cp : Nat} {zs : List Int} (C : Came W k a len cp zs) : len ≤ cp := by
  obtain ⟨_, ⟨_, rfl, rfl⟩ | ⟨_, _, _, h, _⟩⟩ := C
  · exact Nat.le_refl _
  · exact h
set_option maxRecDepth 100000 in
theorem lifted5 (os : Os) (started : os.Started) (H : Type) (enc : TypeId × Value → H) :
    ReturnsInHanded {} Try.checked os 5 .any (Rows.packWritesSpec.pre6 enc Try.prog Try.f5 Rows.packWritesRow.domain false) (Rows.packWritesSpec.post enc Try.prog Try.f5 false true false false) := by
  refine returnsInHanded_of_change_sized (C := Try.checked) own started (by kernel_rfl) Try.func5
    (ChangeSpec.witness6 (enc := enc) (C := Try.checked) false ⟨#[], #[.agg #[.slice none 0 0, .slice none 0 0, .int .i64 0, .int .i64 0]], []⟩ 8 (by kernel_rfl) (by kernel_rfl) (by kernel_rfl) (by kernel_rfl)) ?_
  intro W base args ds gs before hval0 hW hcnd hsz0 _
  have hval : ∀ (j : Nat) t v, Try.f5.params[j]? = some t → args[j]? = some v → Value.okWide Try.prog W .any base t v := hval0
  have hW' := hW
  obtain ⟨p, q, hA0, hV, rfl, hfz, hnd⟩ := hW
  have hA : DataW.TrodAll enc Try.prog W 0 (fun _ => true) true Try.f5.params.toList args.toList ds p := hA0
  rw [Try.params5] at hA hval
  obtain ⟨v0, vs0, d0, ds0, p0, q0, hargs, rfl, rfl, h0, r0⟩ := trodAll_cons hA
  obtain ⟨rfl, rfl, rfl⟩ := trodAll_nil r0
  obtain rfl : args = #[v0] := by cases args; simp_all
  obtain ⟨rfl, rfl⟩ := trodVars_none hV
  have k0 := h0
  have lt0 : ∀ x ∈ p0, x.block < W.heap.size := by obtain ⟨m, hm⟩ := k0; exact DataW.trod_lt m _ _ _ hm
  have u0 := hval 0 38 v0 rfl rfl
  obtain ⟨c0, c1, c2, c3, y0, y1, y2, y3, m, rfl, rfl, rfl, hy0, hy1, hy2, hy3⟩ := open_agg4 Try.underlying38 (by kernel_rfl) (by kernel_rfl) u0 h0
  obtain ⟨a, len, cp, zs, rfl, hcame, hlen, hwf⟩ := came_ints Try.underlying35 Try.underlying60 (by kernel_rfl) (okWide_cell Try.underlying38 (ts := [35, 36, 3, 3]) (by kernel_rfl) u0 0 35 _ rfl rfl) hy0
  obtain ⟨a2, len2, cp2, zs2, rfl, hcame2, hlen2, hwf2⟩ := came_ints Try.underlying36 Try.underlying5 (by kernel_rfl) (okWide_cell Try.underlying38 (ts := [35, 36, 3, 3]) (by kernel_rfl) u0 1 36 _ rfl rfl) hy1
  obtain ⟨lim, e1, rfl, w1⟩ := DataW.trod_int Try.underlying3 hy2
  obtain ⟨notes, e2, rfl, w2⟩ := DataW.trod_int Try.underlying3 hy3
  simp only [List.cons.injEq, and_true] at e1 e2
  subst e1 e2
  obtain ⟨ρ, h, a', S, sb, ex, hn, HC, hren⟩ := (Start.nothing W).slice (by decide) hcame
  obtain ⟨ρ2, h2, a2', S2, sb2, ex2, hn2, HD, hren2⟩ := S.slice (by rw [hn]; decide) hcame2
  have hren' := ren_mono sb2 _ _ hren
  obtain ⟨h', e⟩ := specWrites a' a2' len cp len2 cp2 zs zs2 lim notes h2 (HC.ext ex2) HD (came_cap hcame2) hlen hlen2 (fun z hz => wf_u32 (hwf z hz)) (fun z hz => wf_u8 (hwf2 z hz)) (wf_i64 w1) (by rw [hn2, hn]; decide)
  refine (calls_true ok0 kn0 tab0 rfl ft5 S2 e (args' := [.agg ⟨[.slice a len cp, .slice a2 len2 cp2, .int .i64 lim, .int .i64 notes]⟩]) (by simp [renL, ren, renA, hren', hren2])).mono fun e W' ⟨he, bel⟩ => ?_
  subst he
  exact ⟨_, rfl, _, _, _, [], _, [], hW', trodAll_mk1 (shut_bool Try.underlying4 _), trodAll_cons_mk (Below.trod laidOut (by kernel_rfl) (of_decide_eq_true (by kernel_rfl)) k0 bel lt0) trodAll_mk0, rfl, bel.frame _, fun h => by cases h⟩
theorem over5 : Rows.packWritesRow.holds Try.pinned (OpenSpec.ofChange Rows.packWritesSpec) :=
  OpenClaim.holds_of_wide 5 Try.f5 rfl rfl rfl rfl rfl rfl rfl ⟨rfl, rfl, rfl, rfl, rfl⟩ rfl rfl rfl rfl rfl (by kernel_rfl) Try.func5 (by kernel_rfl)
    (of_decide_eq_true (by kernel_rfl)) (by unfold Func.isWrapper; first | (rw [if_pos (by decide +kernel)]; kernel_rfl) | (rw [if_neg (by decide +kernel)]; exact ⟨rfl, rfl⟩))
    (fun os started H enc _ => lifted5 os started H enc)
theorem proved5 : Rows.PackWritesSaid := over5
end S1
end
section
/- Layer 32 (pack): PackCuts holds, walked. -/
open Go Go.Ev Go.Proofs Go.Proofs.Ythhohhbkeaghnaa PK
namespace PK
theorem enc_len {g : Img} (h1 : g.cw.length ≤ 300) (h2 : g.dl.length ≤ 3000) : g.enc.length ≤ 10000 := by
  unfold Img.enc encP
  have hf : ∀ l : List Int, (l.flatMap num4).length = 4 * l.length := by
    intro l
    induction l with
    | nil => rfl
    | cons x l ih => rw [List.flatMap_cons, List.length_append, num4_length, ih, List.length_cons]; omega
  have := runsP_len g.dl
  simp only [List.length_append, hf, List.length_cons, List.length_nil]
  omega
/-- Where a cut is made. -/
theorem cut_at (n : Int) (L : Nat) (hL : 0 < L) (hL2 : L ≤ 10000) (hn : -9223372036854775808 ≤ n ∧ n ≤ 9223372036854775807) : ∃ k : Nat, k < L ∧ IntKind.i64.wrap (n.tmod (L : Int) + (L : Int)) = n.tmod (L : Int) + (L : Int) ∧ (n.tmod (L : Int) + (L : Int)).tmod (L : Int) = (k : Int) := by
  have h1 : n.tmod (L : Int) < (L : Int) := Int.tmod_lt_of_pos n (by omega)
  have h2 : -(L : Int) < n.tmod (L : Int) := Int.lt_tmod_of_pos n (by omega)
  have h3 : (n.tmod (L : Int) + (L : Int)).tmod (L : Int) = (n.tmod (L : Int) + (L : Int)) % (L : Int) := Int.tmod_eq_emod_of_nonneg (by omega)
  have h4 := Int.emod_nonneg (n.tmod (L : Int) + (L : Int)) (b := (L : Int)) (by omega)
  have h5 := Int.emod_lt_of_pos (n.tmod (L : Int) + (L : Int)) (b := (L : Int)) (by omega)
  refine ⟨((n.tmod (L : Int) + (L : Int)) % (L : Int)).toNat, by omega, IntWalk.i64_in _ (by omega), ?_⟩
  rw [h3]; omega
end PK
namespace S1
set_option maxRecDepth 10000
/-- Bytes that are no image's. -/
theorem spec19bad (a : Option Addr) (len cp : Nat) (b : List Int) (h : AH) (H : Holds h vB a len b) (hcp : len ≤ cp) (hby : ∀ z ∈ b, 0 ≤ z ∧ z ≤ 255) (hbl : len ≤ 200000) (hno : ∀ g : Img, g.Ok → g.enc = b → False) (hc : h.next + 100000000 < 1099511627776) (K : CRes → Prop)
    (hk : ∀ h', Ext h h' → h'.next ≤ h.next + 20000000 → K (.ret (.tuple ⟨[agg0, .int .i64 3]⟩) h' false)) :
    K (CL E0 ft0 (.fn 19) [.slice a len cp] none h) := by
  obtain rfl := H.1
  exact spec19 a cp b h H hcp hby (by omega) hc K (fun h' hx _ _ => by omega) (fun h' _ _ e hn => hk h' e hn) (fun _ _ _ g _ hg he _ _ _ _ => (hno g hg he).elim)
set_option maxHeartbeats 4000000 in
theorem specCuts (ac ad : Option Addr) (lc cc ld cd : Nat) (cw dl : List Int) (limit notes n z : Int) (h : AH) (HC : Holds h vW ac lc cw) (HD : Holds h vB ad ld dl) (hcd : ld ≤ cd) (hlc : lc ≤ 9223372036854775807) (hld : ld ≤ 9223372036854775807) (hcw : ∀ z ∈ cw, 0 ≤ z ∧ z < 4294967296) (hdl : ∀ z ∈ dl, 0 ≤ z ∧ z ≤ 255)
    (hl : -9223372036854775808 ≤ limit ∧ limit ≤ 9223372036854775807) (hn : -9223372036854775808 ≤ n ∧ n ≤ 9223372036854775807) (hz : 0 ≤ z ∧ z ≤ 255) (hc : h.next + 300000000 < 1099511627776) :
    ∃ h', CL E0 ft0 (.fn 7) [.agg ⟨[.slice ac lc cc, .slice ad ld cd, .int .i64 limit, .int .i64 notes]⟩, .int .i64 n, .int .u8 z] none h = .ret (.bool true) h' false := by
  obtain rfl := HC.1
  obtain rfl := HD.1
  have hc0 : h.next < 1099511627776 := by omega
  refine W_body (K := fun x => ∃ h', x = .ret (.bool true) h' false) ft7 (by simp [Try.f7]) (by decide) ?_
  simp only [Try.f7]
  simp (failIfUnchanged := false) (maxSteps := 1000000) (maxDischargeDepth := 5) only [go_sem, cap_eq, Nat.reduceLT, Nat.reduceLeDiff, and_self, and_true, true_and, ↓reduceIte, decide_true, decide_false, Nat.le_refl, Nat.reduceEqDiff, reduceCtorEq, Nat.zero_add, Nat.reduceAdd, Nat.reducePow, Int.reduceEq, Int.reduceLT, Int.reduceLE, Int.reduceGT, Int.reduceGE, not_true_eq_false, Nat.reduceDiv, Nat.reduceMod, Nat.lt_add_one, Nat.lt_irrefl, Nat.add_lt_add_iff_left, Nat.lt_add_right_iff_pos, List.getElem?_cons_zero, List.getElem?_cons_succ, Option.bind_some, Nat.succ_ne_zero, ne_eq, not_false_eq_true, if_false, if_true, Option.getD_some, Bool.not_true, Bool.not_false, hc0]
  generalize hBe : AH.new h (.cells 4 _ 38 0 true) = hB
  have EB : Ext h hB := by rw [← hBe]; exact (Ext.refl h).new _ hc0
  have hBn : hB.next = h.next + 1 := by rw [← hBe]; rfl
  have gB : ∃ c e o w, hB.b.get h.next = some (.cells 4 c e o w) ∧ c.get 0 = some (.slice ac cw.length cc) ∧ c.get 1 = some (.slice ad dl.length cd) ∧ c.get 2 = some (.int .i64 limit) ∧ c.get 3 = some (.int .i64 notes) := by
    rw [← hBe]; exact ⟨_, _, _, _, by simp (failIfUnchanged := false) (maxSteps := 1000000) (maxDischargeDepth := 5) only [go_sem, cap_eq, Nat.reduceLT, Nat.reduceLeDiff, and_self, and_true, true_and, ↓reduceIte, decide_true, decide_false, Nat.le_refl, Nat.reduceEqDiff, reduceCtorEq, Nat.zero_add, Nat.reduceAdd, Nat.reducePow, Int.reduceEq, Int.reduceLT, Int.reduceLE, Int.reduceGT, Int.reduceGE, not_true_eq_false, Nat.reduceDiv, Nat.reduceMod, Nat.lt_add_one, Nat.lt_irrefl, Nat.add_lt_add_iff_left, Nat.lt_add_right_iff_pos, List.getElem?_cons_zero, List.getElem?_cons_succ, Option.bind_some, Nat.succ_ne_zero, ne_eq, not_false_eq_true, if_false, if_true, Option.getD_some, Bool.not_true, Bool.not_false, hc0]; rfl, by simp (failIfUnchanged := false) (maxSteps := 1000000) (maxDischargeDepth := 5) only [go_sem, cap_eq, Nat.reduceLT, Nat.reduceLeDiff, and_self, and_true, true_and, ↓reduceIte, decide_true, decide_false, Nat.le_refl, Nat.reduceEqDiff, reduceCtorEq, Nat.zero_add, Nat.reduceAdd, Nat.reducePow, Int.reduceEq, Int.reduceLT, Int.reduceLE, Int.reduceGT, Int.reduceGE, not_true_eq_false, Nat.reduceDiv, Nat.reduceMod, Nat.lt_add_one, Nat.lt_irrefl, Nat.add_lt_add_iff_left, Nat.lt_add_right_iff_pos, List.getElem?_cons_zero, List.getElem?_cons_succ, Option.bind_some, Nat.succ_ne_zero, ne_eq, not_false_eq_true, if_false, if_true, Option.getD_some, Bool.not_true, Bool.not_false], by simp (failIfUnchanged := false) (maxSteps := 1000000) (maxDischargeDepth := 5) only [go_sem, cap_eq, Nat.reduceLT, Nat.reduceLeDiff, and_self, and_true, true_and, ↓reduceIte, decide_true, decide_false, Nat.le_refl, Nat.reduceEqDiff, reduceCtorEq, Nat.zero_add, Nat.reduceAdd, Nat.reducePow, Int.reduceEq, Int.reduceLT, Int.reduceLE, Int.reduceGT, Int.reduceGE, not_true_eq_false, Nat.reduceDiv, Nat.reduceMod, Nat.lt_add_one, Nat.lt_irrefl, Nat.add_lt_add_iff_left, Nat.lt_add_right_iff_pos, List.getElem?_cons_zero, List.getElem?_cons_succ, Option.bind_some, Nat.succ_ne_zero, ne_eq, not_false_eq_true, if_false, if_true, Option.getD_some, Bool.not_true, Bool.not_false], by simp (failIfUnchanged := false) (maxSteps := 1000000) (maxDischargeDepth := 5) only [go_sem, cap_eq, Nat.reduceLT, Nat.reduceLeDiff, and_self, and_true, true_and, ↓reduceIte, decide_true, decide_false, Nat.le_refl, Nat.reduceEqDiff, reduceCtorEq, Nat.zero_add, Nat.reduceAdd, Nat.reducePow, Int.reduceEq, Int.reduceLT, Int.reduceLE, Int.reduceGT, Int.reduceGE, not_true_eq_false, Nat.reduceDiv, Nat.reduceMod, Nat.lt_add_one, Nat.lt_irrefl, Nat.add_lt_add_iff_left, Nat.lt_add_right_iff_pos, List.getElem?_cons_zero, List.getElem?_cons_succ, Option.bind_some, Nat.succ_ne_zero, ne_eq, not_false_eq_true, if_false, if_true, Option.getD_some, Bool.not_true, Bool.not_false], by simp (failIfUnchanged := false) (maxSteps := 1000000) (maxDischargeDepth := 5) only [go_sem, cap_eq, Nat.reduceLT, Nat.reduceLeDiff, and_self, and_true, true_and, ↓reduceIte, decide_true, decide_false, Nat.le_refl, Nat.reduceEqDiff, reduceCtorEq, Nat.zero_add, Nat.reduceAdd, Nat.reducePow, Int.reduceEq, Int.reduceLT, Int.reduceLE, Int.reduceGT, Int.reduceGE, not_true_eq_false, Nat.reduceDiv, Nat.reduceMod, Nat.lt_add_one, Nat.lt_irrefl, Nat.add_lt_add_iff_left, Nat.lt_add_right_iff_pos, List.getElem?_cons_zero, List.getElem?_cons_succ, Option.bind_some, Nat.succ_ne_zero, ne_eq, not_false_eq_true, if_false, if_true, Option.getD_some, Bool.not_true, Bool.not_false]⟩
  clear hBe
  obtain ⟨c, e, o, w, g1, g20, g21, g22, g23⟩ := gB
  refine spec15 ac ad _ cc _ cd limit notes hB (by omega) _ fun h1 v hv E1 hn1 => ?_
  have g2 := (E1.2 h.next (by omega)).trans g1
  have q1 := E1.1
  cases v
  · simp (failIfUnchanged := false) (maxSteps := 1000000) (maxDischargeDepth := 5) only [go_sem, cap_eq, Nat.reduceLT, Nat.reduceLeDiff, and_self, and_true, true_and, ↓reduceIte, decide_true, decide_false, Nat.le_refl, Nat.reduceEqDiff, reduceCtorEq, Nat.zero_add, Nat.reduceAdd, Nat.reducePow, Int.reduceEq, Int.reduceLT, Int.reduceLE, Int.reduceGT, Int.reduceGE, not_true_eq_false, Nat.reduceDiv, Nat.reduceMod, Nat.lt_add_one, Nat.lt_irrefl, Nat.add_lt_add_iff_left, Nat.lt_add_right_iff_pos, List.getElem?_cons_zero, List.getElem?_cons_succ, Option.bind_some, Nat.succ_ne_zero, ne_eq, not_false_eq_true, if_false, if_true, Option.getD_some, Bool.not_true, Bool.not_false]
    exact ⟨_, rfl⟩
  have hfew : (cw.length ≤ 300 ∨ (cw.length > 32768 ∧ cw.length ≤ 33000)) ∧ (dl.length ≤ 3000 ∨ (dl.length > 65536 ∧ dl.length ≤ 66000)) := of_decide_eq_true hv.symm
  simp (failIfUnchanged := false) (maxSteps := 1000000) (maxDischargeDepth := 5) only [go_sem, cap_eq, Nat.reduceLT, Nat.reduceLeDiff, and_self, and_true, true_and, ↓reduceIte, decide_true, decide_false, Nat.le_refl, Nat.reduceEqDiff, reduceCtorEq, Nat.zero_add, Nat.reduceAdd, Nat.reducePow, Int.reduceEq, Int.reduceLT, Int.reduceLE, Int.reduceGT, Int.reduceGE, not_true_eq_false, Nat.reduceDiv, Nat.reduceMod, Nat.lt_add_one, Nat.lt_irrefl, Nat.add_lt_add_iff_left, Nat.lt_add_right_iff_pos, List.getElem?_cons_zero, List.getElem?_cons_succ, Option.bind_some, Nat.succ_ne_zero, ne_eq, not_false_eq_true, if_false, if_true, Option.getD_some, Bool.not_true, Bool.not_false, g2, g20, g21, g22, g23]
  refine spec18 ac ad _ cc _ cd limit notes h1 hl (by omega) _ fun v h2 hv2 hn2 E2 => ?_
  have g3 := (E2.2 h.next (by omega)).trans g2
  have q2 := E2.1
  cases v
  · simp (failIfUnchanged := false) (maxSteps := 1000000) (maxDischargeDepth := 5) only [go_sem, cap_eq, Nat.reduceLT, Nat.reduceLeDiff, and_self, and_true, true_and, ↓reduceIte, decide_true, decide_false, Nat.le_refl, Nat.reduceEqDiff, reduceCtorEq, Nat.zero_add, Nat.reduceAdd, Nat.reducePow, Int.reduceEq, Int.reduceLT, Int.reduceLE, Int.reduceGT, Int.reduceGE, not_true_eq_false, Nat.reduceDiv, Nat.reduceMod, Nat.lt_add_one, Nat.lt_irrefl, Nat.add_lt_add_iff_left, Nat.lt_add_right_iff_pos, List.getElem?_cons_zero, List.getElem?_cons_succ, Option.bind_some, Nat.succ_ne_zero, ne_eq, not_false_eq_true, if_false, if_true, Option.getD_some, Bool.not_true, Bool.not_false]
    exact ⟨_, rfl⟩
  have hr := hv2.symm
  simp (failIfUnchanged := false) (maxSteps := 1000000) (maxDischargeDepth := 5) only [go_sem, cap_eq, Nat.reduceLT, Nat.reduceLeDiff, and_self, and_true, true_and, ↓reduceIte, decide_true, decide_false, Nat.le_refl, Nat.reduceEqDiff, reduceCtorEq, Nat.zero_add, Nat.reduceAdd, Nat.reducePow, Int.reduceEq, Int.reduceLT, Int.reduceLE, Int.reduceGT, Int.reduceGE, not_true_eq_false, Nat.reduceDiv, Nat.reduceMod, Nat.lt_add_one, Nat.lt_irrefl, Nat.add_lt_add_iff_left, Nat.lt_add_right_iff_pos, List.getElem?_cons_zero, List.getElem?_cons_succ, Option.bind_some, Nat.succ_ne_zero, ne_eq, not_false_eq_true, if_false, if_true, Option.getD_some, Bool.not_true, Bool.not_false, g3, g20, g21, g22, g23]
  obtain ⟨g, hg⟩ : ∃ g : Img, g = ⟨cw, dl, limit, notes⟩ := ⟨_, rfl⟩
  have hgo : g.Ok := by rw [hg]; exact ⟨hr, hcw, hdl⟩
  have henc : encP cw dl limit notes = g.enc := by rw [hg]; rfl
  have hpt := hgo.parts
  have hel : g.enc.length ≤ 10000 := enc_len (by rw [hg] at hpt ⊢; simp only at hpt ⊢; omega) (by rw [hg] at hpt ⊢; simp only at hpt ⊢; omega)
  have hep : 0 < g.enc.length := by
    apply List.length_pos_iff.2
    intro e; unfold Img.enc encP at e; simp at e
  have hdb : ∀ z ∈ g.enc, 0 ≤ z ∧ z ≤ 255 := enc_bytes (by rw [hg]; exact hdl)
  refine spec17 ac ad _ _ _ _ cw dl limit notes h2 (HC.ext ((EB.trans E1).trans E2)) (HD.ext ((EB.trans E1).trans E2)) hcd hlc hld hcw hdl hl (by omega) _ (fun h3 hr' _ _ => by rw [hr] at hr'; cases hr') (fun h3 a3 _ O3 E3 hn3 => ?_)
  rw [henc] at O3 ⊢
  have q3 := E3.1
  have hnz : (((g.enc.length : Nat) : Int) = 0) = False := eq_false (by omega)
  obtain ⟨k, hk, wk, ek⟩ := cut_at n g.enc.length hep hel hn
  have hne0 : ((g.enc.length : Nat) : Int) ≠ 0 := by omega
  simp (failIfUnchanged := false) (maxSteps := 1000000) (maxDischargeDepth := 5) only [go_sem, cap_eq, Nat.reduceLT, Nat.reduceLeDiff, and_self, and_true, true_and, ↓reduceIte, decide_true, decide_false, Nat.le_refl, Nat.reduceEqDiff, reduceCtorEq, Nat.zero_add, Nat.reduceAdd, Nat.reducePow, Int.reduceEq, Int.reduceLT, Int.reduceLE, Int.reduceGT, Int.reduceGE, not_true_eq_false, Nat.reduceDiv, Nat.reduceMod, Nat.lt_add_one, Nat.lt_irrefl, Nat.add_lt_add_iff_left, Nat.lt_add_right_iff_pos, List.getElem?_cons_zero, List.getElem?_cons_succ, Option.bind_some, Nat.succ_ne_zero, ne_eq, not_false_eq_true, if_false, if_true, Option.getD_some, Bool.not_true, Bool.not_false, hnz, binInt_rem hne0, wk, ek]
  have O3h := O3.holds (n := g.enc.length) rfl
  have hc3 : h3.next < 1099511627776 := by omega
  refine slice_cps T36 O3h (Nat.le_refl _) (i := 0) (j := k) rfl bound_some (by omega) (by omega) hc3 fun h4 a4 E4 hn4 _ H4 => ?_
  rw [Nat.sub_zero, List.drop_zero] at H4
  have q4 := E4.1
  simp (failIfUnchanged := false) (maxSteps := 1000000) (maxDischargeDepth := 5) only [go_sem, cap_eq, Nat.reduceLT, Nat.reduceLeDiff, and_self, and_true, true_and, ↓reduceIte, decide_true, decide_false, Nat.le_refl, Nat.reduceEqDiff, reduceCtorEq, Nat.zero_add, Nat.reduceAdd, Nat.reducePow, Int.reduceEq, Int.reduceLT, Int.reduceLE, Int.reduceGT, Int.reduceGE, not_true_eq_false, Nat.reduceDiv, Nat.reduceMod, Nat.lt_add_one, Nat.lt_irrefl, Nat.add_lt_add_iff_left, Nat.lt_add_right_iff_pos, List.getElem?_cons_zero, List.getElem?_cons_succ, Option.bind_some, Nat.succ_ne_zero, ne_eq, not_false_eq_true, if_false, if_true, Option.getD_some, Bool.not_true, Bool.not_false]
  refine spec19bad a4 (k - 0) _ (g.enc.take k) h4 (by rw [Nat.sub_zero]; exact H4) (by omega) (fun z hz => hdb z (List.mem_of_mem_take hz)) (by omega) (fun g' hg' he => ?_) (by omega) _ fun h5 E5 hn5 => ?_
  · have e1 : g.enc = g'.enc ++ g.enc.drop k := by rw [he, List.take_append_drop]
    have := (enc_prefix hg' hgo e1).2
    rw [List.drop_eq_nil_iff] at this
    omega
  have q5 := E5.1
  have hc5 : h5.next < 1099511627776 := by omega
  simp (failIfUnchanged := false) (maxSteps := 1000000) (maxDischargeDepth := 5) only [go_sem, cap_eq, Nat.reduceLT, Nat.reduceLeDiff, and_self, and_true, true_and, ↓reduceIte, decide_true, decide_false, Nat.le_refl, Nat.reduceEqDiff, reduceCtorEq, Nat.zero_add, Nat.reduceAdd, Nat.reducePow, Int.reduceEq, Int.reduceLT, Int.reduceLE, Int.reduceGT, Int.reduceGE, not_true_eq_false, Nat.reduceDiv, Nat.reduceMod, Nat.lt_add_one, Nat.lt_irrefl, Nat.add_lt_add_iff_left, Nat.lt_add_right_iff_pos, List.getElem?_cons_zero, List.getElem?_cons_succ, Option.bind_some, Nat.succ_ne_zero, ne_eq, not_false_eq_true, if_false, if_true, Option.getD_some, Bool.not_true, Bool.not_false, hc5, agg0]
  generalize h6e : AH.upd (h5.new (.cells 4 _ 38 0 true)) h5.next (.cells 4 _ 38 0 true) = h6
  have E56 : Ext h5 h6 := by rw [← h6e]; exact Ext.upd ((Ext.refl h5).new _ hc5) _ (Nat.le_refl _) hc5
  have hn6 : h6.next = h5.next + 1 := by rw [← h6e]; rfl
  clear h6e
  rw [← hn6]
  have hc6 : h6.next < 1099511627776 := by omega
  have O6 := ((O3.ext E4).ext E5).ext E56
  simp (failIfUnchanged := false) (maxSteps := 1000000) (maxDischargeDepth := 5) only [go_sem, cap_eq, Nat.reduceLT, Nat.reduceLeDiff, and_self, and_true, true_and, ↓reduceIte, decide_true, decide_false, Nat.le_refl, Nat.reduceEqDiff, reduceCtorEq, Nat.zero_add, Nat.reduceAdd, Nat.reducePow, Int.reduceEq, Int.reduceLT, Int.reduceLE, Int.reduceGT, Int.reduceGE, not_true_eq_false, Nat.reduceDiv, Nat.reduceMod, Nat.lt_add_one, Nat.lt_irrefl, Nat.add_lt_add_iff_left, Nat.lt_add_right_iff_pos, List.getElem?_cons_zero, List.getElem?_cons_succ, Option.bind_some, Nat.succ_ne_zero, ne_eq, not_false_eq_true, if_false, if_true, Option.getD_some, Bool.not_true, Bool.not_false, hc6]
  have En := (Ext.refl h6).new (.cells 0 (putCells .nil 0 []) 5 0 true) hc6
  have H7 := (O6.holds (n := g.enc.length) rfl).ext En
  have O7 : Own (h6.new (.cells 0 (putCells .nil 0 []) 5 0 true)) vB 5 h6.next (some ⟨h6.next, 0, none⟩) ([] : List Int) := OwnC.fresh (n := 0) (cs := []) rfl (Nat.le_refl _) hc6 (by decide) rfl
  refine app_many T36 (f := vB) (l := []) (n := 0) (x := .slice a3 g.enc.length g.enc.length) (xs := g.enc) rfl (by have := H7.first (Nat.le_refl _) g.enc.length g.enc.length; rwa [List.take_of_length_le (Nat.le_refl _)] at this) rfl (fun _ => rfl) rfl (by omega) (by omega) (by simp (failIfUnchanged := false) (maxSteps := 1000000) (maxDischargeDepth := 5) only [go_sem, cap_eq, Nat.reduceLT, Nat.reduceLeDiff, and_self, and_true, true_and, ↓reduceIte, decide_true, decide_false, Nat.le_refl, Nat.reduceEqDiff, reduceCtorEq, Nat.zero_add, Nat.reduceAdd, Nat.reducePow, Int.reduceEq, Int.reduceLT, Int.reduceLE, Int.reduceGT, Int.reduceGE, not_true_eq_false, Nat.reduceDiv, Nat.reduceMod, Nat.lt_add_one, Nat.lt_irrefl, Nat.add_lt_add_iff_left, Nat.lt_add_right_iff_pos, List.getElem?_cons_zero, List.getElem?_cons_succ, Option.bind_some, Nat.succ_ne_zero, ne_eq, not_false_eq_true, if_false, if_true, Option.getD_some, Bool.not_true, Bool.not_false]; omega) O7 (by simp (failIfUnchanged := false) (maxSteps := 1000000) (maxDischargeDepth := 5) only [go_sem, cap_eq, Nat.reduceLT, Nat.reduceLeDiff, and_self, and_true, true_and, ↓reduceIte, decide_true, decide_false, Nat.le_refl, Nat.reduceEqDiff, reduceCtorEq, Nat.zero_add, Nat.reduceAdd, Nat.reducePow, Int.reduceEq, Int.reduceLT, Int.reduceLE, Int.reduceGT, Int.reduceGE, not_true_eq_false, Nat.reduceDiv, Nat.reduceMod, Nat.lt_add_one, Nat.lt_irrefl, Nat.add_lt_add_iff_left, Nat.lt_add_right_iff_pos, List.getElem?_cons_zero, List.getElem?_cons_succ, Option.bind_some, Nat.succ_ne_zero, ne_eq, not_false_eq_true, if_false, if_true, Option.getD_some, Bool.not_true, Bool.not_false]; omega) fun h8 a8 O8 hn8 hn8' hfr8 => ?_
  simp only [new_next'] at hn8 hn8' hfr8
  rw [List.nil_append] at O8
  have hc8 : h8.next < 1099511627776 := by omega
  simp (failIfUnchanged := false) (maxSteps := 1000000) (maxDischargeDepth := 5) only [go_sem, cap_eq, Nat.reduceLT, Nat.reduceLeDiff, and_self, and_true, true_and, ↓reduceIte, decide_true, decide_false, Nat.le_refl, Nat.reduceEqDiff, reduceCtorEq, Nat.zero_add, Nat.reduceAdd, Nat.reducePow, Int.reduceEq, Int.reduceLT, Int.reduceLE, Int.reduceGT, Int.reduceGE, not_true_eq_false, Nat.reduceDiv, Nat.reduceMod, Nat.lt_add_one, Nat.lt_irrefl, Nat.add_lt_add_iff_left, Nat.lt_add_right_iff_pos, List.getElem?_cons_zero, List.getElem?_cons_succ, Option.bind_some, Nat.succ_ne_zero, ne_eq, not_false_eq_true, if_false, if_true, Option.getD_some, Bool.not_true, Bool.not_false, hc8]
  refine app_new T36 (f := vB) (l := g.enc) (lo := h6.next) (x := z) rfl rfl rfl (by omega) (by omega) (by omega) O8 (by omega) fun h9 O9 hn9 hfr9 => ?_
  have e4 : g.enc.length + 1 = (g.enc ++ [z]).length := by rw [List.length_append]; rfl
  simp (failIfUnchanged := false) (maxSteps := 1000000) (maxDischargeDepth := 5) only [go_sem, cap_eq, Nat.reduceLT, Nat.reduceLeDiff, and_self, and_true, true_and, ↓reduceIte, decide_true, decide_false, Nat.le_refl, Nat.reduceEqDiff, reduceCtorEq, Nat.zero_add, Nat.reduceAdd, Nat.reducePow, Int.reduceEq, Int.reduceLT, Int.reduceLE, Int.reduceGT, Int.reduceGE, not_true_eq_false, Nat.reduceDiv, Nat.reduceMod, Nat.lt_add_one, Nat.lt_irrefl, Nat.add_lt_add_iff_left, Nat.lt_add_right_iff_pos, List.getElem?_cons_zero, List.getElem?_cons_succ, Option.bind_some, Nat.succ_ne_zero, ne_eq, not_false_eq_true, if_false, if_true, Option.getD_some, Bool.not_true, Bool.not_false]
  refine spec19bad _ (g.enc.length + 1) _ (g.enc ++ [z]) h9 (O9.holds e4.symm) (Nat.le_refl _) (fun x hx => ?_) (by omega) (fun g' hg' he => ?_) (by omega) _ fun hx Ex hnx => ?_
  · rcases List.mem_append.1 hx with hx | hx
    · exact hdb x hx
    · have : x = z := by simpa using hx
      rw [this]; exact hz
  · have := (enc_prefix hgo hg' he).2
    cases this
  have hcx : hx.next < 1099511627776 := by omega
  simp (failIfUnchanged := false) (maxSteps := 1000000) (maxDischargeDepth := 5) only [go_sem, cap_eq, Nat.reduceLT, Nat.reduceLeDiff, and_self, and_true, true_and, ↓reduceIte, decide_true, decide_false, Nat.le_refl, Nat.reduceEqDiff, reduceCtorEq, Nat.zero_add, Nat.reduceAdd, Nat.reducePow, Int.reduceEq, Int.reduceLT, Int.reduceLE, Int.reduceGT, Int.reduceGE, not_true_eq_false, Nat.reduceDiv, Nat.reduceMod, Nat.lt_add_one, Nat.lt_irrefl, Nat.add_lt_add_iff_left, Nat.lt_add_right_iff_pos, List.getElem?_cons_zero, List.getElem?_cons_succ, Option.bind_some, Nat.succ_ne_zero, ne_eq, not_false_eq_true, if_false, if_true, Option.getD_some, Bool.not_true, Bool.not_false, hcx, agg0]
  exact ⟨_, rfl⟩
end S1
end
section
/- Layer 32 (pack): the row of PackCuts. -/
open Go Go.Ev Go.Proofs Go.Proofs.Ythhohhbkeaghnaa PK
namespace S1
open Go.ChangeShapes Go.WideShapes Go.ChangeAt Go.RowKit Go.Joins
set_option linter.unusedVariables false
set_option maxRecDepth 100000 in
theorem lifted7 (os : Os) (started : os.Started) (H : Type) (enc : TypeId × Value → H) :
    ReturnsInHanded {} Try.checked os 7 .any (Rows.packCutsSpec.pre6 enc Try.prog Try.f7 Rows.packCutsRow.domain false) (Rows.packCutsSpec.post enc Try.prog Try.f7 false true false false) := by
  refine returnsInHanded_of_change_sized (C := Try.checked) own started (by kernel_rfl) Try.func7
    (ChangeSpec.witness6 (enc := enc) (C := Try.checked) false ⟨#[], #[.agg #[.slice none 0 0, .slice none 0 0, .int .i64 0, .int .i64 0], .int .i64 0, .int .u8 0], []⟩ 8 (by kernel_rfl) (by kernel_rfl) (by kernel_rfl) (by kernel_rfl)) ?_
  intro W base args ds gs before hval0 hW hcnd hsz0 _
  have hval : ∀ (j : Nat) t v, Try.f7.params[j]? = some t → args[j]? = some v → Value.okWide Try.prog W .any base t v := hval0
  have hW' := hW
  obtain ⟨p, q, hA0, hV, rfl, hfz, hnd⟩ := hW
  have hA : DataW.TrodAll enc Try.prog W 0 (fun _ => true) true Try.f7.params.toList args.toList ds p := hA0
  rw [Try.params7] at hA hval
  obtain ⟨v0, vs0, d0, ds0, p0, q0, hargs, rfl, rfl, h0, r0⟩ := trodAll_cons hA
  obtain ⟨v1, vs1, d1, ds1, p1, q1, rfl, rfl, rfl, h1, r1⟩ := trodAll_cons r0
  obtain ⟨v2, vs2, d2, ds2, p2, q2, rfl, rfl, rfl, h2, r2⟩ := trodAll_cons r1
  obtain ⟨rfl, rfl, rfl⟩ := trodAll_nil r2
  obtain rfl : args = #[v0, v1, v2] := by cases args; simp_all
  obtain ⟨rfl, rfl⟩ := trodVars_none hV
  have k0 := h0
  have lt0 : ∀ x ∈ p0, x.block < W.heap.size := by obtain ⟨m, hm⟩ := k0; exact DataW.trod_lt m _ _ _ hm
  have u0 := hval 0 38 v0 rfl rfl
  obtain ⟨c0, c1, c2, c3, y0, y1, y2, y3, m, rfl, rfl, rfl, hy0, hy1, hy2, hy3⟩ := open_agg4 Try.underlying38 (by kernel_rfl) (by kernel_rfl) u0 h0
  obtain ⟨a, len, cp, zs, rfl, hcame, hlen, hwf⟩ := came_ints Try.underlying35 Try.underlying60 (by kernel_rfl) (okWide_cell Try.underlying38 (ts := [35, 36, 3, 3]) (by kernel_rfl) u0 0 35 _ rfl rfl) hy0
  obtain ⟨a2, len2, cp2, zs2, rfl, hcame2, hlen2, hwf2⟩ := came_ints Try.underlying36 Try.underlying5 (by kernel_rfl) (okWide_cell Try.underlying38 (ts := [35, 36, 3, 3]) (by kernel_rfl) u0 1 36 _ rfl rfl) hy1
  obtain ⟨lim, e1, rfl, w1⟩ := DataW.trod_int Try.underlying3 hy2
  obtain ⟨notes, e2, rfl, w2⟩ := DataW.trod_int Try.underlying3 hy3
  simp only [List.cons.injEq, and_true] at e1 e2
  subst e1 e2
  obtain ⟨n, rfl, rfl, rfl, w3⟩ := open_int Try.underlying3 (hval 1 3 v1 rfl rfl) h1
  obtain ⟨z, rfl, rfl, rfl, w4⟩ := open_int Try.underlying5 (hval 2 5 v2 rfl rfl) h2
  obtain ⟨ρ, h, a', S, sb, ex, hn, HC, hren⟩ := (Start.nothing W).slice (by decide) hcame
  obtain ⟨ρ2, hB, a2', S2, sb2, ex2, hn2, HD, hren2⟩ := S.slice (by rw [hn]; decide) hcame2
  have hren' := ren_mono sb2 _ _ hren
  obtain ⟨h', e⟩ := specCuts a' a2' len cp len2 cp2 zs zs2 lim notes n z hB (HC.ext ex2) HD (came_cap hcame2) hlen hlen2 (fun z hz => wf_u32 (hwf z hz)) (fun z hz => wf_u8 (hwf2 z hz)) (wf_i64 w1) (wf_i64 w3) (wf_u8 w4) (by rw [hn2, hn]; decide)
  refine (calls_true ok0 kn0 tab0 rfl ft7 S2 e (args' := [.agg ⟨[.slice a len cp, .slice a2 len2 cp2, .int .i64 lim, .int .i64 notes]⟩, .int .i64 n, .int .u8 z]) (by simp [renL, ren, renA, hren', hren2])).mono fun e W' ⟨he, bel⟩ => ?_
  subst he
  exact ⟨_, rfl, _, _, _, [], _, [], hW', trodAll_mk1 (shut_bool Try.underlying4 _), trodAll_cons_mk (Below.trod laidOut (by kernel_rfl) (of_decide_eq_true (by kernel_rfl)) k0 bel lt0) (trodAll_cons_mk (shut_int Try.underlying3 w3) (trodAll_cons_mk (shut_int Try.underlying5 w4) trodAll_mk0)), rfl, bel.frame _, fun h => by cases h⟩
theorem over7 : Rows.packCutsRow.holds Try.pinned (OpenSpec.ofChange Rows.packCutsSpec) :=
  OpenClaim.holds_of_wide 7 Try.f7 rfl rfl rfl rfl rfl rfl rfl ⟨rfl, rfl, rfl, rfl, rfl⟩ rfl rfl rfl rfl rfl (by kernel_rfl) Try.func7 (by kernel_rfl)
    (of_decide_eq_true (by kernel_rfl)) (by unfold Func.isWrapper; first | (rw [if_pos (by decide +kernel)]; kernel_rfl) | (rw [if_neg (by decide +kernel)]; exact ⟨rfl, rfl⟩))
    (fun os started H enc _ => lifted7 os started H enc)
theorem proved7 : Rows.PackCutsSaid := over7
end S1
end
section
/- Layer 32 (pack): the reference's Decode, walked: a number at a place. -/
open Go Go.Ev Go.Proofs Go.Proofs.Ythhohhbkeaghnaa PK
namespace S1
set_option maxRecDepth 10000
theorem drop_four {b : List Int} {i : Nat} (h : i + 4 ≤ b.length) : ∃ z0 z1 z2 z3 r, b.drop i = z0 :: z1 :: z2 :: z3 :: r ∧ b[i]? = some z0 ∧ b[i + 1]? = some z1 ∧ b[i + 2]? = some z2 ∧ b[i + 3]? = some z3 := by
  obtain ⟨z0, z1, z2, z3, r, e⟩ := four (b := b.drop i) (by rw [List.length_drop]; omega)
  have g : ∀ j, b[i + j]? = (b.drop i)[j]? := fun j => by rw [List.getElem?_drop]
  exact ⟨z0, z1, z2, z3, r, e, by have := g 0; rw [e] at this; exact this, by rw [g 1, e]; rfl, by rw [g 2, e]; rfl, by rw [g 3, e]; rfl⟩
set_option maxHeartbeats 1000000 in
theorem spec38 (a : Option Addr) (len cp i : Nat) (b : List Int) (h : AH) (H : Holds h vB a len b) (hby : ∀ z ∈ b, 0 ≤ z ∧ z ≤ 255) (hi : i + 4 ≤ len) (hl : len ≤ 1000000) : CL E0 ft0 (.fn 38) [.slice a len cp, .int .i64 i] none h = .ret (.int .i64 (le4 (b.drop i))) h false := by
  obtain rfl := H.1
  obtain ⟨z0, z1, z2, z3, r, e, hz0, hz1, hz2, hz3⟩ := drop_four hi
  have i0 := hby z0 (List.mem_of_getElem? hz0)
  have i1 := hby z1 (List.mem_of_getElem? hz1)
  have i2 := hby z2 (List.mem_of_getElem? hz2)
  have i3 := hby z3 (List.mem_of_getElem? hz3)
  obtain ⟨bk, off, blk, rfl, hbn, hb, hcc⟩ := Holds.all H (by omega)
  have c0 := hcc i z0 hz0
  have c1 := hcc (i + 1) z1 hz1
  have c2 := hcc (i + 2) z2 hz2
  have c3 := hcc (i + 3) z3 hz3
  refine W_body (K := fun x => x = _) ft38 (by simp [Try.f38]) (by decide) ?_
  simp only [Try.f38]
  simp (failIfUnchanged := false) (maxSteps := 1000000) (maxDischargeDepth := 5) only [go_sem, cap_eq, Nat.reduceLT, Nat.reduceLeDiff, and_self, and_true, true_and, ↓reduceIte, decide_true, decide_false, Nat.le_refl, Nat.reduceEqDiff, reduceCtorEq, Nat.zero_add, Nat.reduceAdd, Nat.reducePow, Int.reduceEq, Int.reduceLT, Int.reduceLE, Int.reduceGT, Int.reduceGE, not_true_eq_false, Nat.reduceDiv, Nat.reduceMod, Nat.lt_add_one, Nat.lt_irrefl, Nat.add_lt_add_iff_left, Nat.lt_add_right_iff_pos, List.getElem?_cons_zero, List.getElem?_cons_succ, Option.bind_some, Nat.succ_ne_zero, ne_eq, not_false_eq_true, if_false, if_true, Option.getD_some, Bool.not_true, Bool.not_false]
  refine W_draw 1 [(0, 0), (1, 0), (2, 3), (3, 7), (4, 15), (5, 0), (6, 0), (7, 64), (8, 224), (9, 480), (10, 992), (11, 2016), (12, 4095), (13, 0), (14, 0), (15, 16384), (16, 57344), (17, 122880), (18, 253952), (19, 516096), (20, 1048575), (21, 0), (22, 0), (23, 4194304), (24, 14680064), (25, 31457280), (26, 65011712), (27, 132120576), (28, 268435455), (29, 536870911)] (by kernel_rfl) ?_
  have w1 : IntKind.i64.wrap ((i : Int) + 1) = (i : Int) + 1 := IntWalk.i64_in _ (by omega)
  have w2 : IntKind.i64.wrap ((i : Int) + 2) = (i : Int) + 2 := IntWalk.i64_in _ (by omega)
  have w3 : IntKind.i64.wrap ((i : Int) + 3) = (i : Int) + 3 := IntWalk.i64_in _ (by omega)
  have v0 : IntKind.i64.wrap z0 = z0 := IntWalk.i64_in _ (by omega)
  have v1 : IntKind.i64.wrap z1 = z1 := IntWalk.i64_in _ (by omega)
  have v2 : IntKind.i64.wrap z2 = z2 := IntWalk.i64_in _ (by omega)
  have v3 : IntKind.i64.wrap z3 = z3 := IntWalk.i64_in _ (by omega)
  have u1 : IntKind.i64.wrap (256 * z1) = 256 * z1 := IntWalk.i64_in _ (by omega)
  have u2 : IntKind.i64.wrap (65536 * z2) = 65536 * z2 := IntWalk.i64_in _ (by omega)
  have u3 : IntKind.i64.wrap (16777216 * z3) = 16777216 * z3 := IntWalk.i64_in _ (by omega)
  have s1 : IntKind.i64.wrap (z0 + 256 * z1) = z0 + 256 * z1 := IntWalk.i64_in _ (by omega)
  have s2 : IntKind.i64.wrap (z0 + 256 * z1 + 65536 * z2) = z0 + 256 * z1 + 65536 * z2 := IntWalk.i64_in _ (by omega)
  have s3 : IntKind.i64.wrap (z0 + 256 * z1 + 65536 * z2 + 16777216 * z3) = z0 + 256 * z1 + 65536 * z2 + 16777216 * z3 := IntWalk.i64_in _ (by omega)
  have m0 : (0 : Int) ≤ (i : Int) := by omega
  have m1 : (0 : Int) ≤ (i : Int) + 1 := by omega
  have m2 : (0 : Int) ≤ (i : Int) + 2 := by omega
  have m3 : (0 : Int) ≤ (i : Int) + 3 := by omega
  have l0 : (i : Int) < (b.length : Int) := by omega
  have l1 : (i : Int) + 1 < (b.length : Int) := by omega
  have l2 : (i : Int) + 2 < (b.length : Int) := by omega
  have l3 : (i : Int) + 3 < (b.length : Int) := by omega
  have t0 : ((i : Int)).toNat = i := by omega
  have t1 : ((i : Int) + 1).toNat = i + 1 := by omega
  have t2 : ((i : Int) + 2).toNat = i + 2 := by omega
  have t3 : ((i : Int) + 3).toNat = i + 3 := by omega
  simp (failIfUnchanged := false) (maxSteps := 1000000) (maxDischargeDepth := 5) only [go_sem, cap_eq, Nat.reduceLT, Nat.reduceLeDiff, and_self, and_true, true_and, ↓reduceIte, decide_true, decide_false, Nat.le_refl, Nat.reduceEqDiff, reduceCtorEq, Nat.zero_add, Nat.reduceAdd, Nat.reducePow, Int.reduceEq, Int.reduceLT, Int.reduceLE, Int.reduceGT, Int.reduceGE, not_true_eq_false, Nat.reduceDiv, Nat.reduceMod, Nat.lt_add_one, Nat.lt_irrefl, Nat.add_lt_add_iff_left, Nat.lt_add_right_iff_pos, List.getElem?_cons_zero, List.getElem?_cons_succ, Option.bind_some, Nat.succ_ne_zero, ne_eq, not_false_eq_true, if_false, if_true, Option.getD_some, Bool.not_true, Bool.not_false, hb, c0, c1, c2, c3, w1, w2, w3, v0, v1, v2, v3, u1, u2, u3, s1, s2, s3, m0, m1, m2, m3, l0, l1, l2, l3, t0, t1, t2, t3, Nat.mul_one]
  rw [e]
  rfl
end S1
end
section
/- Layer 32 (pack): the reference's Decode, in plain Lean. -/
namespace PK
/-- The numbers at a head. -/
def hN (b : List Int) (i : Nat) : Nat := (le4 (b.drop i)).toNat
def refImg (b : List Int) : Img := ⟨(List.range (hN b 4)).map fun i => le4 (b.drop (20 + 4 * i)), refData b.length (hN b 8) [] (b.drop (20 + 4 * hN b 4)), 268435456 + (hN b 12 : Int), (hN b 16 : Int)⟩
/-- What the reference asks of a head. -/
def headOk (b : List Int) : Prop := 20 ≤ b.length ∧ hN b 4 ≤ 32768 ∧ hN b 8 ≤ 65536 ∧ 20 + 4 * hN b 4 ≤ b.length ∧ hN b 12 ≤ 65536 ∧ hN b 16 ≤ 64
theorem le4_code : ∀ {cw : List Int} {i : Nat} {z : Int} (r : List Int), (∀ z ∈ cw, 0 ≤ z ∧ z < 4294967296) → cw[i]? = some z → le4 ((cw.flatMap num4 ++ r).drop (4 * i)) = z
  | [], i, z, r, _, h => by simp at h
  | x :: cw, 0, z, r, hc, h => by
    simp at h; subst h
    rw [List.flatMap_cons, List.append_assoc, Nat.mul_zero, List.drop_zero, le4_num4 (hc x List.mem_cons_self)]
  | x :: cw, i + 1, z, r, hc, h => by
    rw [List.flatMap_cons, List.append_assoc, show 4 * (i + 1) = 4 + 4 * i by omega, ← List.drop_drop]
    have : (num4 x ++ (cw.flatMap num4 ++ r)).drop 4 = cw.flatMap num4 ++ r := rfl
    rw [this]
    exact le4_code r (fun z hz => hc z (List.mem_cons_of_mem _ hz)) (by simpa using h)
theorem flat_len : ∀ l : List Int, (l.flatMap num4).length = 4 * l.length
  | [] => rfl
  | x :: l => by rw [List.flatMap_cons, List.length_append, num4_length, flat_len l, List.length_cons]; omega
/-- What has been written is read by the reference as it was. -/
theorem refImg_enc {g : Img} (h : g.Ok) : headOk g.enc ∧ refImg g.enc = g := by
  obtain ⟨h1, h2, h3, h4, h5, h6, h7, h8⟩ := h.parts
  have e : g.enc = [82, 83, 72, 1] ++ (num4 (g.cw.length : Nat) ++ (num4 (g.dl.length : Nat) ++ (num4 (g.limit - 268435456) ++ (num4 g.notes ++ (g.cw.flatMap num4 ++ runsP g.dl))))) := by
    unfold Img.enc encP
    simp only [List.flatMap_cons, List.flatMap_nil, List.append_nil, List.append_assoc]
  generalize g.enc = b at *
  have d4 : b.drop 4 = num4 (g.cw.length : Nat) ++ (num4 (g.dl.length : Nat) ++ (num4 (g.limit - 268435456) ++ (num4 g.notes ++ (g.cw.flatMap num4 ++ runsP g.dl)))) := by rw [e]; rfl
  have d8 : b.drop 8 = num4 (g.dl.length : Nat) ++ (num4 (g.limit - 268435456) ++ (num4 g.notes ++ (g.cw.flatMap num4 ++ runsP g.dl))) := by rw [e]; rfl
  have d12 : b.drop 12 = num4 (g.limit - 268435456) ++ (num4 g.notes ++ (g.cw.flatMap num4 ++ runsP g.dl)) := by rw [e]; rfl
  have d16 : b.drop 16 = num4 g.notes ++ (g.cw.flatMap num4 ++ runsP g.dl) := by rw [e]; rfl
  have d20 : b.drop 20 = g.cw.flatMap num4 ++ runsP g.dl := by rw [e]; rfl
  have n4 : hN b 4 = g.cw.length := by unfold hN; rw [d4, le4_num4 (by omega)]; omega
  have n8 : hN b 8 = g.dl.length := by unfold hN; rw [d8, le4_num4 (by omega)]; omega
  have n12 : hN b 12 = (g.limit - 268435456).toNat := by unfold hN; rw [d12, le4_num4 (by omega)]
  have n16 : hN b 16 = g.notes.toNat := by unfold hN; rw [d16, le4_num4 (by omega)]
  have hbl : b.length = 20 + 4 * g.cw.length + (runsP g.dl).length := by
    have h20 : 20 ≤ b.length := by rw [e]; simp [num4_length]; omega
    have := congrArg List.length d20
    rw [List.length_drop, List.length_append, flat_len] at this
    omega
  refine ⟨⟨by omega, by omega, by omega, by omega, by omega, by omega⟩, ?_⟩
  have hcw : (List.range (hN b 4)).map (fun i => le4 (b.drop (20 + 4 * i))) = g.cw := by
    rw [n4]
    apply List.ext_getElem?
    intro i
    rw [List.getElem?_map]
    by_cases hi : i < g.cw.length
    · rw [List.getElem?_range hi, List.getElem?_eq_getElem hi]
      simp only [Option.map_some, Option.some.injEq]
      rw [← List.drop_drop, d20]
      exact le4_code _ h.cw (List.getElem?_eq_getElem hi)
    · rw [List.getElem?_eq_none (by simp; omega), List.getElem?_eq_none (by omega)]; rfl
  have hdl : refData b.length (hN b 8) [] (b.drop (20 + 4 * hN b 4)) = g.dl := by
    rw [n4, n8, ← List.drop_drop, d20, List.drop_append_of_le_length (by rw [flat_len]; omega), List.drop_eq_nil_of_le (by rw [flat_len]; omega), List.nil_append]
    have := refData_all g.dl.length g.dl [] [] b.length g.dl.length (Nat.le_refl _) (by simp) (by omega)
    rw [List.append_nil] at this
    rw [this]; rfl
  unfold refImg
  rw [hcw, hdl, n12, n16]
  have e1 : 268435456 + (((g.limit - 268435456).toNat : Nat) : Int) = g.limit := by omega
  have e2 : ((g.notes.toNat : Nat) : Int) = g.notes := by omega
  rw [e1, e2]
end PK
end
