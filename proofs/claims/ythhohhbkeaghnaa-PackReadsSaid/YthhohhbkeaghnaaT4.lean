/- Part 4 of the proof: WHATEVER THE INPUT: true; the input reads as it did. -/
import Derived.Test.YthhohhbkeaghnaaT3
set_option linter.unusedSimpArgs false
set_option linter.unusedVariables false
set_option linter.unusedSectionVars false
section
/- Layer 32 (pack): the reference's Encode, walked. -/
open Go Go.Ev Go.Proofs Go.Proofs.Ythhohhbkeaghnaa PK
namespace S1
set_option maxRecDepth 10000
set_option maxHeartbeats 2000000 in
theorem spec20 (ac ad : Option Addr) (lc cc ld cd : Nat) (cw dl : List Int) (limit notes : Int) (h : AH) (HC : Holds h vW ac lc cw) (HD : Holds h vB ad ld dl) (hcw : ∀ z ∈ cw, 0 ≤ z ∧ z < 4294967296) (hdl : ∀ z ∈ dl, 0 ≤ z ∧ z ≤ 255)
    (hr : rightG lc ld limit notes = true) (hc : h.next + 3000000 < 1099511627776) (K : CRes → Prop)
    (hk : ∀ h' a', Own h' vB 5 (h.next + 1) a' (encP cw dl limit notes) → Ext h h' → h'.next ≤ h.next + 100 + 9 * lc + 20 * ld → K (.ret (.slice a' (encP cw dl limit notes).length (encP cw dl limit notes).length) h' false)) :
    K (CL E0 ft0 (.fn 20) [.agg ⟨[.slice ac lc cc, .slice ad ld cd, .int .i64 limit, .int .i64 notes]⟩] none h) := by
  refine W_body ft20 (by simp [Try.f20]) (by decide) ?_
  simp only [Try.f20]
  have hc0 : h.next < 1099511627776 := by omega
  have hc1 : h.next + 1 < 1099511627776 := by omega
  obtain rfl := HC.1
  obtain rfl := HD.1
  have hr' : 1 ≤ cw.length ∧ cw.length ≤ 32768 ∧ 4 ≤ dl.length ∧ dl.length ≤ 65536 ∧ 268435456 ≤ limit ∧ limit - 268435456 ≤ dl.length ∧ 0 ≤ notes ∧ notes ≤ 64 := of_decide_eq_true hr
  have w1 : IntKind.i64.wrap (limit - 268435456) = limit - 268435456 := IntWalk.i64_in _ (by omega)
  -- one number more
  have one : ∀ (hh : AH) (a : Option Addr) (o : List Int) (n : Int) (K : CRes → Prop), Own hh vB 5 (h.next + 1) a o → 0 ≤ n ∧ n < 4294967296 → h.next + 1 ≤ hh.next → hh.next + 100 < 1099511627776 → o.length < 900000000 →
      (∀ h' a', Own h' vB 5 (h.next + 1) a' (o ++ num4 n) → hh.next ≤ h'.next → h'.next ≤ hh.next + 9 → (∀ j, j < h.next + 1 → h'.b.get j = hh.b.get j) → K (.ret (.slice a' (o.length + 4) (o.length + 4)) h' false)) →
      ∀ h1, Own h1 vB 5 hh.next (some ⟨hh.next, 0, none⟩) (num4 n) → h1.next = hh.next + 1 → Ext hh h1 → K (CL E0 ft0 (.fn 35) [.slice a o.length o.length, .slice (some ⟨hh.next, 0, none⟩) 4 4] none h1) := by
    intro hh a o n K O hn hlo hcap hol hK h1 O1 hn1 e1
    refine spec35 (h.next + 1) a _ o (num4 n) 4 4 h1 (O.ext e1) (by omega) (O1.holds rfl) (fun b off hb b' hb' => ?_) (by rw [num4_length]; omega) (by rw [num4_length]; omega) K fun h' a' O' g1 g2 g3 => ?_
    · cases hb
      have := Own.lt O b' hb'
      omega
    · rw [num4_length] at g2
      rw [List.length_append, num4_length]
      exact hK h' a' O' (by omega) (by omega) fun j hj => by rw [g3 j (by omega) (O.off hj), e1.2 j (by omega)]
  simp (failIfUnchanged := false) (maxSteps := 1000000) (maxDischargeDepth := 5) only [go_sem, cap_eq, Nat.reduceLT, Nat.reduceLeDiff, and_self, and_true, true_and, ↓reduceIte, decide_true, decide_false, Nat.le_refl, Nat.reduceEqDiff, reduceCtorEq, Nat.zero_add, Nat.reduceAdd, Nat.reducePow, Int.reduceEq, Int.reduceLT, Int.reduceLE, Int.reduceGT, Int.reduceGE, not_true_eq_false, Nat.reduceDiv, Nat.reduceMod, Nat.lt_add_one, Nat.lt_irrefl, Nat.add_lt_add_iff_left, Nat.lt_add_right_iff_pos, List.getElem?_cons_zero, List.getElem?_cons_succ, Option.bind_some, Nat.succ_ne_zero, ne_eq, not_false_eq_true, if_false, if_true, Option.getD_some, Bool.not_true, Bool.not_false, hc0, hc1]
  obtain ⟨hz, hhz⟩ : ∃ hz, hz = (h.new (Blk.cells 4 ((((Tr.nil.put 0 (.slice ac cw.length cc)).put 1 (.slice ad dl.length cd)).put 2 (.int .i64 limit)).put 3 (.int .i64 notes)) 38 0 true)).new (.cells 4 (putCells .nil 0 ([82, 83, 72, 1].map vB)) 5 0 true) := ⟨_, rfl⟩
  have O0 : Own hz vB 5 (h.next + 1) (some ⟨h.next + 1, 0, none⟩) [82, 83, 72, 1] := by
    rw [hhz]
    exact OwnC.fresh (h := h.new _) (n := 4) (cs := [82, 83, 72, 1].map vB) rfl (Nat.le_refl _) hc1 (by decide) rfl
  have hnz : hz.next = h.next + 2 := by rw [hhz]; rfl
  have Ez : Ext h hz := by rw [hhz]; exact ((Ext.refl h).new _ hc0).new _ hc1
  have gz : hz.b.get h.next = some (Blk.cells 4 ((((Tr.nil.put 0 (.slice ac cw.length cc)).put 1 (.slice ad dl.length cd)).put 2 (.int .i64 limit)).put 3 (.int .i64 notes)) 38 0 true) := by
    rw [hhz]; simp (failIfUnchanged := false) (maxSteps := 1000000) (maxDischargeDepth := 5) only [go_sem, cap_eq, Nat.reduceLT, Nat.reduceLeDiff, and_self, and_true, true_and, ↓reduceIte, decide_true, decide_false, Nat.le_refl, Nat.reduceEqDiff, reduceCtorEq, Nat.zero_add, Nat.reduceAdd, Nat.reducePow, Int.reduceEq, Int.reduceLT, Int.reduceLE, Int.reduceGT, Int.reduceGE, not_true_eq_false, Nat.reduceDiv, Nat.reduceMod, Nat.lt_add_one, Nat.lt_irrefl, Nat.add_lt_add_iff_left, Nat.lt_add_right_iff_pos, List.getElem?_cons_zero, List.getElem?_cons_succ, Option.bind_some, Nat.succ_ne_zero, ne_eq, not_false_eq_true, if_false, if_true, Option.getD_some, Bool.not_true, Bool.not_false, hc0, hc1]
  have key : (AH.new (AH.new h (Blk.cells 4 ((((Tr.nil.put 0 (.slice ac cw.length cc)).put 1 (.slice ad dl.length cd)).put 2 (.int .i64 limit)).put 3 (.int .i64 notes)) 38 0 true)) (Blk.cells 4 ((((Tr.nil.put 0 (.int .u8 82)).put 1 (.int .u8 83)).put 2 (.int .u8 72)).put 3 (.int .u8 1)) 5 0 true)) = hz := hhz.symm
  rw [key]
  clear hhz key
  refine spec36 _ hz (by omega) (by omega) _ fun h1 O1 hn1 e1 => ?_
  simp (failIfUnchanged := false) (maxSteps := 1000000) (maxDischargeDepth := 5) only [go_sem, cap_eq, Nat.reduceLT, Nat.reduceLeDiff, and_self, and_true, true_and, ↓reduceIte, decide_true, decide_false, Nat.le_refl, Nat.reduceEqDiff, reduceCtorEq, Nat.zero_add, Nat.reduceAdd, Nat.reducePow, Int.reduceEq, Int.reduceLT, Int.reduceLE, Int.reduceGT, Int.reduceGE, not_true_eq_false, Nat.reduceDiv, Nat.reduceMod, Nat.lt_add_one, Nat.lt_irrefl, Nat.add_lt_add_iff_left, Nat.lt_add_right_iff_pos, List.getElem?_cons_zero, List.getElem?_cons_succ, Option.bind_some, Nat.succ_ne_zero, ne_eq, not_false_eq_true, if_false, if_true, Option.getD_some, Bool.not_true, Bool.not_false]
  refine one hz _ _ _ _ O0 (by omega) (by omega) (by omega) (by decide) (fun h2 a2 O2 b1 b2 k2 => ?_) h1 O1 hn1 e1
  have g2 : h2.b.get h.next = _ := (k2 _ (by omega)).trans gz
  simp (failIfUnchanged := false) (maxSteps := 1000000) (maxDischargeDepth := 5) only [go_sem, cap_eq, Nat.reduceLT, Nat.reduceLeDiff, and_self, and_true, true_and, ↓reduceIte, decide_true, decide_false, Nat.le_refl, Nat.reduceEqDiff, reduceCtorEq, Nat.zero_add, Nat.reduceAdd, Nat.reducePow, Int.reduceEq, Int.reduceLT, Int.reduceLE, Int.reduceGT, Int.reduceGE, not_true_eq_false, Nat.reduceDiv, Nat.reduceMod, Nat.lt_add_one, Nat.lt_irrefl, Nat.add_lt_add_iff_left, Nat.lt_add_right_iff_pos, List.getElem?_cons_zero, List.getElem?_cons_succ, Option.bind_some, Nat.succ_ne_zero, ne_eq, not_false_eq_true, if_false, if_true, Option.getD_some, Bool.not_true, Bool.not_false, g2]
  refine spec36 _ h2 (by omega) (by omega) _ fun h3 O3 hn3 e3 => ?_
  simp (failIfUnchanged := false) (maxSteps := 1000000) (maxDischargeDepth := 5) only [go_sem, cap_eq, Nat.reduceLT, Nat.reduceLeDiff, and_self, and_true, true_and, ↓reduceIte, decide_true, decide_false, Nat.le_refl, Nat.reduceEqDiff, reduceCtorEq, Nat.zero_add, Nat.reduceAdd, Nat.reducePow, Int.reduceEq, Int.reduceLT, Int.reduceLE, Int.reduceGT, Int.reduceGE, not_true_eq_false, Nat.reduceDiv, Nat.reduceMod, Nat.lt_add_one, Nat.lt_irrefl, Nat.add_lt_add_iff_left, Nat.lt_add_right_iff_pos, List.getElem?_cons_zero, List.getElem?_cons_succ, Option.bind_some, Nat.succ_ne_zero, ne_eq, not_false_eq_true, if_false, if_true, Option.getD_some, Bool.not_true, Bool.not_false]
  refine one h2 _ _ _ _ O2 (by omega) (by omega) (by omega) (by simp only [List.length_append, num4_length, List.length_cons, List.length_nil]; omega) (fun h4 a4 O4 b3 b4 k4 => ?_) h3 O3 hn3 e3
  have g4 : h4.b.get h.next = _ := (k4 _ (by omega)).trans g2
  simp (failIfUnchanged := false) (maxSteps := 1000000) (maxDischargeDepth := 5) only [go_sem, cap_eq, Nat.reduceLT, Nat.reduceLeDiff, and_self, and_true, true_and, ↓reduceIte, decide_true, decide_false, Nat.le_refl, Nat.reduceEqDiff, reduceCtorEq, Nat.zero_add, Nat.reduceAdd, Nat.reducePow, Int.reduceEq, Int.reduceLT, Int.reduceLE, Int.reduceGT, Int.reduceGE, not_true_eq_false, Nat.reduceDiv, Nat.reduceMod, Nat.lt_add_one, Nat.lt_irrefl, Nat.add_lt_add_iff_left, Nat.lt_add_right_iff_pos, List.getElem?_cons_zero, List.getElem?_cons_succ, Option.bind_some, Nat.succ_ne_zero, ne_eq, not_false_eq_true, if_false, if_true, Option.getD_some, Bool.not_true, Bool.not_false, g4, w1]
  refine spec36 _ h4 (by omega) (by omega) _ fun h5 O5 hn5 e5 => ?_
  simp (failIfUnchanged := false) (maxSteps := 1000000) (maxDischargeDepth := 5) only [go_sem, cap_eq, Nat.reduceLT, Nat.reduceLeDiff, and_self, and_true, true_and, ↓reduceIte, decide_true, decide_false, Nat.le_refl, Nat.reduceEqDiff, reduceCtorEq, Nat.zero_add, Nat.reduceAdd, Nat.reducePow, Int.reduceEq, Int.reduceLT, Int.reduceLE, Int.reduceGT, Int.reduceGE, not_true_eq_false, Nat.reduceDiv, Nat.reduceMod, Nat.lt_add_one, Nat.lt_irrefl, Nat.add_lt_add_iff_left, Nat.lt_add_right_iff_pos, List.getElem?_cons_zero, List.getElem?_cons_succ, Option.bind_some, Nat.succ_ne_zero, ne_eq, not_false_eq_true, if_false, if_true, Option.getD_some, Bool.not_true, Bool.not_false]
  refine one h4 _ _ _ _ O4 (by omega) (by omega) (by omega) (by simp only [List.length_append, num4_length, List.length_cons, List.length_nil]; omega) (fun h6 a6 O6 b5 b6 k6 => ?_) h5 O5 hn5 e5
  have g6 : h6.b.get h.next = _ := (k6 _ (by omega)).trans g4
  simp (failIfUnchanged := false) (maxSteps := 1000000) (maxDischargeDepth := 5) only [go_sem, cap_eq, Nat.reduceLT, Nat.reduceLeDiff, and_self, and_true, true_and, ↓reduceIte, decide_true, decide_false, Nat.le_refl, Nat.reduceEqDiff, reduceCtorEq, Nat.zero_add, Nat.reduceAdd, Nat.reducePow, Int.reduceEq, Int.reduceLT, Int.reduceLE, Int.reduceGT, Int.reduceGE, not_true_eq_false, Nat.reduceDiv, Nat.reduceMod, Nat.lt_add_one, Nat.lt_irrefl, Nat.add_lt_add_iff_left, Nat.lt_add_right_iff_pos, List.getElem?_cons_zero, List.getElem?_cons_succ, Option.bind_some, Nat.succ_ne_zero, ne_eq, not_false_eq_true, if_false, if_true, Option.getD_some, Bool.not_true, Bool.not_false, g6]
  refine spec36 _ h6 (by omega) (by omega) _ fun h7 O7 hn7 e7 => ?_
  simp (failIfUnchanged := false) (maxSteps := 1000000) (maxDischargeDepth := 5) only [go_sem, cap_eq, Nat.reduceLT, Nat.reduceLeDiff, and_self, and_true, true_and, ↓reduceIte, decide_true, decide_false, Nat.le_refl, Nat.reduceEqDiff, reduceCtorEq, Nat.zero_add, Nat.reduceAdd, Nat.reducePow, Int.reduceEq, Int.reduceLT, Int.reduceLE, Int.reduceGT, Int.reduceGE, not_true_eq_false, Nat.reduceDiv, Nat.reduceMod, Nat.lt_add_one, Nat.lt_irrefl, Nat.add_lt_add_iff_left, Nat.lt_add_right_iff_pos, List.getElem?_cons_zero, List.getElem?_cons_succ, Option.bind_some, Nat.succ_ne_zero, ne_eq, not_false_eq_true, if_false, if_true, Option.getD_some, Bool.not_true, Bool.not_false]
  refine one h6 _ _ _ _ O6 (by omega) (by omega) (by omega) (by simp only [List.length_append, num4_length, List.length_cons, List.length_nil]; omega) (fun h8 a8 O8 b7 b8 k8 => ?_) h7 O7 hn7 e7
  have g8 : h8.b.get h.next = _ := (k8 _ (by omega)).trans g6
  obtain ⟨hd, hhd⟩ : ∃ hd, hd = [82, 83, 72, 1] ++ num4 (cw.length : Nat) ++ num4 (dl.length : Nat) ++ num4 (limit - 268435456) ++ num4 notes := ⟨_, rfl⟩
  have hdl4 : ([82, 83, 72, 1] ++ num4 (cw.length : Nat) ++ num4 (dl.length : Nat) ++ num4 (limit - 268435456)).length + 4 = hd.length := by rw [hhd]; rfl
  have hd20 : hd.length = 20 := by rw [hhd]; rfl
  rw [← hhd] at O8
  rw [hdl4]
  have E8 : Ext h h8 := ⟨by omega, fun j hj => by rw [k8 j (by omega), k6 j (by omega), k4 j (by omega), k2 j (by omega), Ez.2 j hj]⟩
  have henc : encP cw dl limit notes = hd ++ cw.flatMap num4 ++ runsP dl := by
    unfold encP
    rw [hhd]
    simp only [List.flatMap_cons, List.flatMap_nil, List.append_nil, List.append_assoc]
  simp (failIfUnchanged := false) (maxSteps := 1000000) (maxDischargeDepth := 5) only [go_sem, cap_eq, Nat.reduceLT, Nat.reduceLeDiff, and_self, and_true, true_and, ↓reduceIte, decide_true, decide_false, Nat.le_refl, Nat.reduceEqDiff, reduceCtorEq, Nat.zero_add, Nat.reduceAdd, Nat.reducePow, Int.reduceEq, Int.reduceLT, Int.reduceLE, Int.reduceGT, Int.reduceGE, not_true_eq_false, Nat.reduceDiv, Nat.reduceMod, Nat.lt_add_one, Nat.lt_irrefl, Nat.add_lt_add_iff_left, Nat.lt_add_right_iff_pos, List.getElem?_cons_zero, List.getElem?_cons_succ, Option.bind_some, Nat.succ_ne_zero, ne_eq, not_false_eq_true, if_false, if_true, Option.getD_some, Bool.not_true, Bool.not_false]
  refine W_cutB (fun st => ∃ (r : Tr Value) (hh : AH) (a : Option Addr), st = ⟨r, 50, [], hh, false⟩ ∧ r.get 1 = some (.pointer (some ⟨h.next, 0, none⟩)) ∧ r.get 3 = some (.slice a (hd ++ cw.flatMap num4).length (hd ++ cw.flatMap num4).length) ∧ Own hh vB 5 (h.next + 1) a (hd ++ cw.flatMap num4) ∧ Ext h hh ∧ h8.next ≤ hh.next ∧ hh.next ≤ h8.next + 9 * cw.length ∧ hh.b.get h.next = h8.b.get h.next) ?_ ?_
  · refine W_loop (fun k st => ∃ (i : Nat) (r : Tr Value) (hh : AH) (a : Option Addr) (o : List Int), k + i = cw.length ∧ st = ⟨r, 50, [], hh, false⟩ ∧ r.get 1 = some (.pointer (some ⟨h.next, 0, none⟩)) ∧ r.get 3 = some (.slice a o.length o.length) ∧ r.get 4 = some (.int .i64 i) ∧ o = hd ++ (cw.take i).flatMap num4 ∧ o.length = 20 + 4 * i ∧ Own hh vB 5 (h.next + 1) a o ∧ Ext h hh ∧ h8.next ≤ hh.next ∧ hh.next ≤ h8.next + 9 * i ∧ hh.b.get h.next = h8.b.get h.next) ?_ cw.length _ ?_
    · rintro k _ ⟨i, r, hh, a, o, hk', rfl, r1, r3, r4, ho, hol, O, E, n1, n2, gg⟩
      rw [g8] at gg
      simp (failIfUnchanged := false) (maxSteps := 1000000) (maxDischargeDepth := 5) only [go_sem, cap_eq, Nat.reduceLT, Nat.reduceLeDiff, and_self, and_true, true_and, ↓reduceIte, decide_true, decide_false, Nat.le_refl, Nat.reduceEqDiff, reduceCtorEq, Nat.zero_add, Nat.reduceAdd, Nat.reducePow, Int.reduceEq, Int.reduceLT, Int.reduceLE, Int.reduceGT, Int.reduceGE, not_true_eq_false, Nat.reduceDiv, Nat.reduceMod, Nat.lt_add_one, Nat.lt_irrefl, Nat.add_lt_add_iff_left, Nat.lt_add_right_iff_pos, List.getElem?_cons_zero, List.getElem?_cons_succ, Option.bind_some, Nat.succ_ne_zero, ne_eq, not_false_eq_true, if_false, if_true, Option.getD_some, Bool.not_true, Bool.not_false, r1, r3, r4, gg]
      refine wCond_dec (fun hlt => ?_) (fun hlt => ?_)
      · have HC' := HC.ext E
        obtain ⟨b, off, blk, z, rfl, hbn, hb, hz', hz2⟩ := HC'.at (i := i) (by omega)
        have hzr := hcw z (List.mem_of_getElem? hz')
        have m2 : (0 : Int) ≤ (i : Int) := by omega
        have w3 : IntKind.i64.wrap ((i : Int) + 1) = (i : Int) + 1 := IntWalk.i64_in _ (by omega)
        have w4 : IntKind.i64.wrap z = z := IntWalk.i64_in _ (by omega)
        simp (failIfUnchanged := false) (maxSteps := 1000000) (maxDischargeDepth := 5) only [go_sem, cap_eq, Nat.reduceLT, Nat.reduceLeDiff, and_self, and_true, true_and, ↓reduceIte, decide_true, decide_false, Nat.le_refl, Nat.reduceEqDiff, reduceCtorEq, Nat.zero_add, Nat.reduceAdd, Nat.reducePow, Int.reduceEq, Int.reduceLT, Int.reduceLE, Int.reduceGT, Int.reduceGE, not_true_eq_false, Nat.reduceDiv, Nat.reduceMod, Nat.lt_add_one, Nat.lt_irrefl, Nat.add_lt_add_iff_left, Nat.lt_add_right_iff_pos, List.getElem?_cons_zero, List.getElem?_cons_succ, Option.bind_some, Nat.succ_ne_zero, ne_eq, not_false_eq_true, if_false, if_true, Option.getD_some, Bool.not_true, Bool.not_false, r1, r3, r4, gg, hb, hz2, m2, hlt, w4, Int.toNat_natCast, Nat.mul_one]
        refine spec36 _ hh hzr (by omega) _ fun x1 P1 m1 f1 => ?_
        simp (failIfUnchanged := false) (maxSteps := 1000000) (maxDischargeDepth := 5) only [go_sem, cap_eq, Nat.reduceLT, Nat.reduceLeDiff, and_self, and_true, true_and, ↓reduceIte, decide_true, decide_false, Nat.le_refl, Nat.reduceEqDiff, reduceCtorEq, Nat.zero_add, Nat.reduceAdd, Nat.reducePow, Int.reduceEq, Int.reduceLT, Int.reduceLE, Int.reduceGT, Int.reduceGE, not_true_eq_false, Nat.reduceDiv, Nat.reduceMod, Nat.lt_add_one, Nat.lt_irrefl, Nat.add_lt_add_iff_left, Nat.lt_add_right_iff_pos, List.getElem?_cons_zero, List.getElem?_cons_succ, Option.bind_some, Nat.succ_ne_zero, ne_eq, not_false_eq_true, if_false, if_true, Option.getD_some, Bool.not_true, Bool.not_false]
        refine one hh a o z _ O hzr (by omega) (by omega) (by omega) (fun x2 a2 P2 m3 m4 k9 => ?_) x1 P1 m1 f1
        have e4 : o.length + 4 = (o ++ num4 z).length := by rw [List.length_append, num4_length]
        simp (failIfUnchanged := false) (maxSteps := 1000000) (maxDischargeDepth := 5) only [go_sem, cap_eq, Nat.reduceLT, Nat.reduceLeDiff, and_self, and_true, true_and, ↓reduceIte, decide_true, decide_false, Nat.le_refl, Nat.reduceEqDiff, reduceCtorEq, Nat.zero_add, Nat.reduceAdd, Nat.reducePow, Int.reduceEq, Int.reduceLT, Int.reduceLE, Int.reduceGT, Int.reduceGE, not_true_eq_false, Nat.reduceDiv, Nat.reduceMod, Nat.lt_add_one, Nat.lt_irrefl, Nat.add_lt_add_iff_left, Nat.lt_add_right_iff_pos, List.getElem?_cons_zero, List.getElem?_cons_succ, Option.bind_some, Nat.succ_ne_zero, ne_eq, not_false_eq_true, if_false, if_true, Option.getD_some, Bool.not_true, Bool.not_false, r4, w3]
        rw [e4]
        refine ⟨k - 1, by omega, i + 1, _, x2, a2, o ++ num4 z, by omega, rfl, by simp (failIfUnchanged := false) (maxSteps := 1000000) (maxDischargeDepth := 5) only [go_sem, cap_eq, Nat.reduceLT, Nat.reduceLeDiff, and_self, and_true, true_and, ↓reduceIte, decide_true, decide_false, Nat.le_refl, Nat.reduceEqDiff, reduceCtorEq, Nat.zero_add, Nat.reduceAdd, Nat.reducePow, Int.reduceEq, Int.reduceLT, Int.reduceLE, Int.reduceGT, Int.reduceGE, not_true_eq_false, Nat.reduceDiv, Nat.reduceMod, Nat.lt_add_one, Nat.lt_irrefl, Nat.add_lt_add_iff_left, Nat.lt_add_right_iff_pos, List.getElem?_cons_zero, List.getElem?_cons_succ, Option.bind_some, Nat.succ_ne_zero, ne_eq, not_false_eq_true, if_false, if_true, Option.getD_some, Bool.not_true, Bool.not_false, r1], by simp (failIfUnchanged := false) (maxSteps := 1000000) (maxDischargeDepth := 5) only [go_sem, cap_eq, Nat.reduceLT, Nat.reduceLeDiff, and_self, and_true, true_and, ↓reduceIte, decide_true, decide_false, Nat.le_refl, Nat.reduceEqDiff, reduceCtorEq, Nat.zero_add, Nat.reduceAdd, Nat.reducePow, Int.reduceEq, Int.reduceLT, Int.reduceLE, Int.reduceGT, Int.reduceGE, not_true_eq_false, Nat.reduceDiv, Nat.reduceMod, Nat.lt_add_one, Nat.lt_irrefl, Nat.add_lt_add_iff_left, Nat.lt_add_right_iff_pos, List.getElem?_cons_zero, List.getElem?_cons_succ, Option.bind_some, Nat.succ_ne_zero, ne_eq, not_false_eq_true, if_false, if_true, Option.getD_some, Bool.not_true, Bool.not_false], by simp (failIfUnchanged := false) (maxSteps := 1000000) (maxDischargeDepth := 5) only [go_sem, cap_eq, Nat.reduceLT, Nat.reduceLeDiff, and_self, and_true, true_and, ↓reduceIte, decide_true, decide_false, Nat.le_refl, Nat.reduceEqDiff, reduceCtorEq, Nat.zero_add, Nat.reduceAdd, Nat.reducePow, Int.reduceEq, Int.reduceLT, Int.reduceLE, Int.reduceGT, Int.reduceGE, not_true_eq_false, Nat.reduceDiv, Nat.reduceMod, Nat.lt_add_one, Nat.lt_irrefl, Nat.add_lt_add_iff_left, Nat.lt_add_right_iff_pos, List.getElem?_cons_zero, List.getElem?_cons_succ, Option.bind_some, Nat.succ_ne_zero, ne_eq, not_false_eq_true, if_false, if_true, Option.getD_some, Bool.not_true, Bool.not_false, Int.natCast_add, Int.natCast_one], ?_, by omega, P2, ⟨by omega, fun j hj => by rw [k9 j (by omega), E.2 j hj]⟩, by omega, by omega, by rw [k9 _ (by omega), gg, g8]⟩
        rw [ho, List.take_add_one, hz', List.flatMap_append, List.append_assoc]; simp
      · have hil : i = cw.length := by omega
        rw [hil, List.take_length] at ho
        subst ho
        simp (failIfUnchanged := false) (maxSteps := 1000000) (maxDischargeDepth := 5) only [go_sem, cap_eq, Nat.reduceLT, Nat.reduceLeDiff, and_self, and_true, true_and, ↓reduceIte, decide_true, decide_false, Nat.le_refl, Nat.reduceEqDiff, reduceCtorEq, Nat.zero_add, Nat.reduceAdd, Nat.reducePow, Int.reduceEq, Int.reduceLT, Int.reduceLE, Int.reduceGT, Int.reduceGE, not_true_eq_false, Nat.reduceDiv, Nat.reduceMod, Nat.lt_add_one, Nat.lt_irrefl, Nat.add_lt_add_iff_left, Nat.lt_add_right_iff_pos, List.getElem?_cons_zero, List.getElem?_cons_succ, Option.bind_some, Nat.succ_ne_zero, ne_eq, not_false_eq_true, if_false, if_true, Option.getD_some, Bool.not_true, Bool.not_false]
        exact ⟨_, hh, a, rfl, by simp (failIfUnchanged := false) (maxSteps := 1000000) (maxDischargeDepth := 5) only [go_sem, cap_eq, Nat.reduceLT, Nat.reduceLeDiff, and_self, and_true, true_and, ↓reduceIte, decide_true, decide_false, Nat.le_refl, Nat.reduceEqDiff, reduceCtorEq, Nat.zero_add, Nat.reduceAdd, Nat.reducePow, Int.reduceEq, Int.reduceLT, Int.reduceLE, Int.reduceGT, Int.reduceGE, not_true_eq_false, Nat.reduceDiv, Nat.reduceMod, Nat.lt_add_one, Nat.lt_irrefl, Nat.add_lt_add_iff_left, Nat.lt_add_right_iff_pos, List.getElem?_cons_zero, List.getElem?_cons_succ, Option.bind_some, Nat.succ_ne_zero, ne_eq, not_false_eq_true, if_false, if_true, Option.getD_some, Bool.not_true, Bool.not_false, r1], by simp (failIfUnchanged := false) (maxSteps := 1000000) (maxDischargeDepth := 5) only [go_sem, cap_eq, Nat.reduceLT, Nat.reduceLeDiff, and_self, and_true, true_and, ↓reduceIte, decide_true, decide_false, Nat.le_refl, Nat.reduceEqDiff, reduceCtorEq, Nat.zero_add, Nat.reduceAdd, Nat.reducePow, Int.reduceEq, Int.reduceLT, Int.reduceLE, Int.reduceGT, Int.reduceGE, not_true_eq_false, Nat.reduceDiv, Nat.reduceMod, Nat.lt_add_one, Nat.lt_irrefl, Nat.add_lt_add_iff_left, Nat.lt_add_right_iff_pos, List.getElem?_cons_zero, List.getElem?_cons_succ, Option.bind_some, Nat.succ_ne_zero, ne_eq, not_false_eq_true, if_false, if_true, Option.getD_some, Bool.not_true, Bool.not_false, r3], O, E, n1, by omega, by rw [gg, g8]⟩
    · exact ⟨0, _, h8, a8, hd, by omega, rfl, by simp (failIfUnchanged := false) (maxSteps := 1000000) (maxDischargeDepth := 5) only [go_sem, cap_eq, Nat.reduceLT, Nat.reduceLeDiff, and_self, and_true, true_and, ↓reduceIte, decide_true, decide_false, Nat.le_refl, Nat.reduceEqDiff, reduceCtorEq, Nat.zero_add, Nat.reduceAdd, Nat.reducePow, Int.reduceEq, Int.reduceLT, Int.reduceLE, Int.reduceGT, Int.reduceGE, not_true_eq_false, Nat.reduceDiv, Nat.reduceMod, Nat.lt_add_one, Nat.lt_irrefl, Nat.add_lt_add_iff_left, Nat.lt_add_right_iff_pos, List.getElem?_cons_zero, List.getElem?_cons_succ, Option.bind_some, Nat.succ_ne_zero, ne_eq, not_false_eq_true, if_false, if_true, Option.getD_some, Bool.not_true, Bool.not_false], by simp (failIfUnchanged := false) (maxSteps := 1000000) (maxDischargeDepth := 5) only [go_sem, cap_eq, Nat.reduceLT, Nat.reduceLeDiff, and_self, and_true, true_and, ↓reduceIte, decide_true, decide_false, Nat.le_refl, Nat.reduceEqDiff, reduceCtorEq, Nat.zero_add, Nat.reduceAdd, Nat.reducePow, Int.reduceEq, Int.reduceLT, Int.reduceLE, Int.reduceGT, Int.reduceGE, not_true_eq_false, Nat.reduceDiv, Nat.reduceMod, Nat.lt_add_one, Nat.lt_irrefl, Nat.add_lt_add_iff_left, Nat.lt_add_right_iff_pos, List.getElem?_cons_zero, List.getElem?_cons_succ, Option.bind_some, Nat.succ_ne_zero, ne_eq, not_false_eq_true, if_false, if_true, Option.getD_some, Bool.not_true, Bool.not_false], by simp (failIfUnchanged := false) (maxSteps := 1000000) (maxDischargeDepth := 5) only [go_sem, cap_eq, Nat.reduceLT, Nat.reduceLeDiff, and_self, and_true, true_and, ↓reduceIte, decide_true, decide_false, Nat.le_refl, Nat.reduceEqDiff, reduceCtorEq, Nat.zero_add, Nat.reduceAdd, Nat.reducePow, Int.reduceEq, Int.reduceLT, Int.reduceLE, Int.reduceGT, Int.reduceGE, not_true_eq_false, Nat.reduceDiv, Nat.reduceMod, Nat.lt_add_one, Nat.lt_irrefl, Nat.add_lt_add_iff_left, Nat.lt_add_right_iff_pos, List.getElem?_cons_zero, List.getElem?_cons_succ, Option.bind_some, Nat.succ_ne_zero, ne_eq, not_false_eq_true, if_false, if_true, Option.getD_some, Bool.not_true, Bool.not_false] <;> rfl, by simp, by omega, O8, E8, Nat.le_refl _, by omega, rfl⟩
  · rintro _ ⟨r, hh, a, rfl, r1, r3, O, E, n1, n2, gg⟩
    rw [g8] at gg
    have hfl : (hd ++ cw.flatMap num4).length = 20 + 4 * cw.length := by
      have : ∀ l : List Int, (l.flatMap num4).length = 4 * l.length := by
        intro l
        induction l with
        | nil => rfl
        | cons x l ih => rw [List.flatMap_cons, List.length_append, num4_length, ih, List.length_cons]; omega
      rw [List.length_append, this]; omega
    simp (failIfUnchanged := false) (maxSteps := 1000000) (maxDischargeDepth := 5) only [go_sem, cap_eq, Nat.reduceLT, Nat.reduceLeDiff, and_self, and_true, true_and, ↓reduceIte, decide_true, decide_false, Nat.le_refl, Nat.reduceEqDiff, reduceCtorEq, Nat.zero_add, Nat.reduceAdd, Nat.reducePow, Int.reduceEq, Int.reduceLT, Int.reduceLE, Int.reduceGT, Int.reduceGE, not_true_eq_false, Nat.reduceDiv, Nat.reduceMod, Nat.lt_add_one, Nat.lt_irrefl, Nat.add_lt_add_iff_left, Nat.lt_add_right_iff_pos, List.getElem?_cons_zero, List.getElem?_cons_succ, Option.bind_some, Nat.succ_ne_zero, ne_eq, not_false_eq_true, if_false, if_true, Option.getD_some, Bool.not_true, Bool.not_false, r1, r3, gg]
    refine spec37 ad _ cd dl hh (HD.ext E) hdl (by omega) (by omega) _ fun x1 a1 P1 m1 m2 f1 => ?_
    have hrl : (runsP dl).length ≤ 2 * dl.length := runsP_len dl
    simp (failIfUnchanged := false) (maxSteps := 1000000) (maxDischargeDepth := 5) only [go_sem, cap_eq, Nat.reduceLT, Nat.reduceLeDiff, and_self, and_true, true_and, ↓reduceIte, decide_true, decide_false, Nat.le_refl, Nat.reduceEqDiff, reduceCtorEq, Nat.zero_add, Nat.reduceAdd, Nat.reducePow, Int.reduceEq, Int.reduceLT, Int.reduceLE, Int.reduceGT, Int.reduceGE, not_true_eq_false, Nat.reduceDiv, Nat.reduceMod, Nat.lt_add_one, Nat.lt_irrefl, Nat.add_lt_add_iff_left, Nat.lt_add_right_iff_pos, List.getElem?_cons_zero, List.getElem?_cons_succ, Option.bind_some, Nat.succ_ne_zero, ne_eq, not_false_eq_true, if_false, if_true, Option.getD_some, Bool.not_true, Bool.not_false]
    refine spec35 (h.next + 1) a a1 _ (runsP dl) _ (runsP dl).length x1 (O.ext f1) (by omega) (P1.holds rfl) (fun b off hb b' hb' => ?_) (by omega) (by omega) _ fun x2 a2 P2 m3 m4 k9 => ?_
    · subst hb
      have h1 := Own.lt O b' hb'
      have h2 : hh.next ≤ b := by
        obtain ⟨_, ⟨e, _⟩ | ⟨b2, c, o, w, e, e3, _⟩⟩ := P1
        · cases e
        · cases e; exact e3
      omega
    · rw [← henc] at P2 ⊢
      simp (failIfUnchanged := false) (maxSteps := 1000000) (maxDischargeDepth := 5) only [go_sem, cap_eq, Nat.reduceLT, Nat.reduceLeDiff, and_self, and_true, true_and, ↓reduceIte, decide_true, decide_false, Nat.le_refl, Nat.reduceEqDiff, reduceCtorEq, Nat.zero_add, Nat.reduceAdd, Nat.reducePow, Int.reduceEq, Int.reduceLT, Int.reduceLE, Int.reduceGT, Int.reduceGE, not_true_eq_false, Nat.reduceDiv, Nat.reduceMod, Nat.lt_add_one, Nat.lt_irrefl, Nat.add_lt_add_iff_left, Nat.lt_add_right_iff_pos, List.getElem?_cons_zero, List.getElem?_cons_succ, Option.bind_some, Nat.succ_ne_zero, ne_eq, not_false_eq_true, if_false, if_true, Option.getD_some, Bool.not_true, Bool.not_false]
      exact hk x2 a2 P2 ⟨by omega, fun j hj => by rw [k9 j (by omega) (O.off (by omega)), f1.2 j (by omega), E.2 j hj]⟩ (by omega)
end S1
end
section
/- Layer 32 (pack): reading bytes, in plain Lean: what has been written is read as it was. -/
namespace PK
def le4 (b : List Int) : Int := b.getD 0 0 + 256 * b.getD 1 0 + 65536 * b.getD 2 0 + 16777216 * b.getD 3 0
def numP (b : List Int) : Option (Int × List Int) := if b.length < 4 then none else some (le4 b, b.drop 4)
def mostP (m : Int) (b : List Int) : Option (Int × List Int) :=
  match numP b with
  | none => none
  | some (n, r) => if n > m then none else some (n, r)
def codeP : Nat → List Int → Option (List Int × List Int)
  | 0, b => some ([], b)
  | k + 1, b => match numP b with
    | none => none
    | some (n, r) => match codeP k r with
      | none => none
      | some (l, r') => some (n :: l, r')
def dataP : Nat → Nat → List Int → List Int → Option (List Int × List Int)
  | 0, _, _, _ => none
  | k + 1, size, out, b =>
    if size ≤ out.length then some (out, b) else
    match b with
    | [] => none
    | n :: r =>
      if n > 127 then
        (if r = [] ∧ (out ++ List.replicate (n - 127).toNat 0).length < size then none else dataP k size (out ++ List.replicate (n - 127).toNat 0) r)
      else if n > (r.length : Int) then none
      else (if r.drop n.toNat = [] ∧ (out ++ r.take n.toNat).length < size then none else dataP k size (out ++ r.take n.toNat) (r.drop n.toNat))
/-- An image. -/
structure Img where
  cw : List Int
  dl : List Int
  limit : Int
  notes : Int
def readP (b : List Int) : Option (Img × List Int) :=
  if b.length < 4 then none else
  match mostP 32768 (b.drop 4) with
  | none => none
  | some (code, r1) => match mostP 65536 r1 with
    | none => none
    | some (data, r2) => match mostP 65536 r2 with
      | none => none
      | some (lim, r3) => match mostP 64 r3 with
        | none => none
        | some (notes, r4) => match codeP code.toNat r4 with
          | none => none
          | some (cw, r5) => match dataP (r5.length + 1) data.toNat [] r5 with
            | none => none
            | some (dl, r6) => some (⟨cw, dl, lim + 268435456, notes⟩, r6)
/-- What the reference makes of runs. -/
def refData : Nat → Nat → List Int → List Int → List Int
  | 0, _, out, _ => out
  | k + 1, size, out, b =>
    if size ≤ out.length then out else
    match b with
    | [] => out
    | n :: r => if n > 127 then refData k size (out ++ List.replicate (n - 127).toNat 0) r
      else refData k size (out ++ r.take n.toNat) (r.drop n.toNat)

def Img.enc (g : Img) : List Int := encP g.cw g.dl g.limit g.notes
/-- It may be written. -/
structure Img.Ok (g : Img) : Prop where
  right : S1.rightG g.cw.length g.dl.length g.limit g.notes = true
  cw : ∀ z ∈ g.cw, 0 ≤ z ∧ z < 4294967296
  dl : ∀ z ∈ g.dl, 0 ≤ z ∧ z ≤ 255

theorem le4_num4 {n : Int} (h : 0 ≤ n ∧ n < 4294967296) (r : List Int) : le4 (num4 n ++ r) = n := by
  show n % 256 + 256 * (n / 256 % 256) + 65536 * (n / 65536 % 256) + 16777216 * (n / 16777216 % 256) = n
  omega
theorem numP_num4 {n : Int} (h : 0 ≤ n ∧ n < 4294967296) (r : List Int) : numP (num4 n ++ r) = some (n, r) := by
  unfold numP
  rw [if_neg (by simp [num4]), le4_num4 h]; rfl
theorem mostP_num4 {n m : Int} (h : 0 ≤ n ∧ n < 4294967296) (hm : n ≤ m) (r : List Int) : mostP m (num4 n ++ r) = some (n, r) := by
  unfold mostP
  rw [numP_num4 h]
  simp only []
  rw [if_neg (by omega)]
theorem codeP_all : ∀ (l : List Int) (r : List Int), (∀ z ∈ l, 0 ≤ z ∧ z < 4294967296) → codeP l.length (l.flatMap num4 ++ r) = some (l, r)
  | [], r, _ => rfl
  | x :: l, r, h => by
    rw [List.flatMap_cons, List.append_assoc, List.length_cons]
    unfold codeP
    rw [numP_num4 (h x List.mem_cons_self)]
    simp only []
    rw [codeP_all l r fun z hz => h z (List.mem_cons_of_mem _ hz)]
theorem take_lead : ∀ (l : List Int) (n : Nat), n ≤ lead l → l.take n = List.replicate n 0
  | _, 0, _ => rfl
  | [], n + 1, h => by simp [lead] at h
  | x :: l, n + 1, h => by
    unfold lead at h
    split at h
    · rename_i hx
      rw [List.take_succ_cons, List.replicate_succ, hx, take_lead l n (by omega)]
    · omega
theorem runsP_ne {b : List Int} (h : b ≠ []) : runsP b ≠ [] := by
  cases hs : stopsP b
  · rw [runsP_plain h hs]; simp
  · rw [runsP_stop h hs]; simp
theorem dataP_all : ∀ (m : Nat) (d : List Int) (out rest : List Int) (k size : Nat), d.length ≤ m → size = out.length + d.length → (runsP d).length < k → dataP k size out (runsP d ++ rest) = some (out ++ d, rest) := by
  intro m
  induction m with
  | zero =>
    intro d out rest k size hm hs hk
    have hd : d = [] := List.eq_nil_of_length_eq_zero (by omega)
    subst hd
    obtain ⟨k, rfl⟩ : ∃ k', k = k' + 1 := ⟨k - 1, by omega⟩
    unfold dataP
    rw [if_pos (by simp at hs; omega), runsP_nil, List.append_nil]; rfl
  | succ m ih =>
    intro d out rest k size hm hs hk
    obtain ⟨k, rfl⟩ : ∃ k', k = k' + 1 := ⟨k - 1, by omega⟩
    by_cases hd : d = []
    · subst hd
      unfold dataP
      rw [if_pos (by simp at hs; omega), runsP_nil, List.append_nil]; rfl
    · have hpos : 0 < d.length := List.length_pos_iff.2 hd
      cases hst : stopsP d
      · have hp := plainN_pos hst hd
        have hp2 := plainN_le 127 d
        have hrl := congrArg List.length (runsP_plain hd hst)
        rw [List.length_cons, List.length_append] at hrl
        rw [runsP_plain hd hst]
        generalize plainN 127 d = n at *
        unfold dataP
        rw [if_neg (by omega)]
        simp only [List.cons_append]
        have hlen : ((d.take n ++ runsP (d.drop n)) ++ rest).length ≥ n := by simp only [List.length_append, List.length_take]; omega
        rw [if_neg (by omega), if_neg (by omega)]
        have e1 : (((n : Nat) : Int)).toNat = n := Int.toNat_natCast n
        have e2 : ((d.take n ++ runsP (d.drop n)) ++ rest).take n = d.take n := by
          rw [List.append_assoc, List.take_append_of_le_length (by rw [List.length_take]; omega), List.take_take, Nat.min_self]
        have e3 : ((d.take n ++ runsP (d.drop n)) ++ rest).drop n = runsP (d.drop n) ++ rest := by
          rw [List.append_assoc, List.drop_append_of_le_length (by rw [List.length_take]; omega)]
          rw [List.drop_eq_nil_of_le (by rw [List.length_take]; omega)]; rfl
        rw [e1, e2, e3]
        have hl : (out ++ d.take n).length = out.length + n := by rw [List.length_append, List.length_take]; omega
        rw [if_neg ?_]
        · rw [ih (d.drop n) (out ++ d.take n) rest k size (by rw [List.length_drop]; omega) (by rw [hl, List.length_drop]; omega) (by omega)]
          rw [List.append_assoc, List.take_append_drop]
        · rintro ⟨h1, h2⟩
          rw [List.append_eq_nil_iff] at h1
          have : d.drop n = [] := by
            by_cases hdn : d.drop n = []
            · exact hdn
            · exact absurd h1.1 (runsP_ne hdn)
          rw [List.drop_eq_nil_iff] at this
          omega
      · have hp := zerosP_stop hst
        have hp2 := zerosP_le d
        have hz : zerosP d ≤ lead d := by unfold zerosP; omega
        have hrl := congrArg List.length (runsP_stop hd hst)
        rw [List.length_cons] at hrl
        rw [runsP_stop hd hst]
        generalize zerosP d = n at *
        have ht := take_lead d n hz
        unfold dataP
        rw [if_neg (by omega)]
        simp only [List.cons_append]
        rw [if_pos (by omega)]
        have e1 : ((((127 + n : Nat) : Nat) : Int) - 127).toNat = n := by omega
        rw [e1, ← ht]
        have hl : (out ++ d.take n).length = out.length + n := by rw [List.length_append, List.length_take]; omega
        rw [if_neg ?_]
        · rw [ih (d.drop n) (out ++ d.take n) rest k size (by rw [List.length_drop]; omega) (by rw [hl, List.length_drop]; omega) (by omega)]
          rw [List.append_assoc, List.take_append_drop]
        · rintro ⟨h1, h2⟩
          rw [List.append_eq_nil_iff] at h1
          have : d.drop n = [] := by
            by_cases hdn : d.drop n = []
            · exact hdn
            · exact absurd h1.1 (runsP_ne hdn)
          rw [List.drop_eq_nil_iff] at this
          omega
theorem refData_all : ∀ (m : Nat) (d : List Int) (out rest : List Int) (k size : Nat), d.length ≤ m → size = out.length + d.length → (runsP d).length ≤ k → refData k size out (runsP d ++ rest) = out ++ d := by
  intro m
  induction m with
  | zero =>
    intro d out rest k size hm hs hk
    have hd : d = [] := List.eq_nil_of_length_eq_zero (by omega)
    subst hd
    cases k with
    | zero => simp [refData]
    | succ k => unfold refData; rw [if_pos (by simp at hs; omega)]; simp
  | succ m ih =>
    intro d out rest k size hm hs hk
    by_cases hd : d = []
    · subst hd
      cases k with
      | zero => simp [refData]
      | succ k => unfold refData; rw [if_pos (by simp at hs; omega)]; simp
    · have hpos : 0 < d.length := List.length_pos_iff.2 hd
      have hne := List.length_pos_iff.2 (runsP_ne hd)
      obtain ⟨k, rfl⟩ : ∃ k', k = k' + 1 := ⟨k - 1, by omega⟩
      cases hst : stopsP d
      · have hp := plainN_pos hst hd
        have hp2 := plainN_le 127 d
        have hrl := congrArg List.length (runsP_plain hd hst)
        rw [List.length_cons, List.length_append] at hrl
        rw [runsP_plain hd hst]
        generalize plainN 127 d = n at *
        unfold refData
        rw [if_neg (by omega)]
        simp only [List.cons_append]
        rw [if_neg (by omega)]
        have e1 : (((n : Nat) : Int)).toNat = n := Int.toNat_natCast n
        have e2 : ((d.take n ++ runsP (d.drop n)) ++ rest).take n = d.take n := by
          rw [List.append_assoc, List.take_append_of_le_length (by rw [List.length_take]; omega), List.take_take, Nat.min_self]
        have e3 : ((d.take n ++ runsP (d.drop n)) ++ rest).drop n = runsP (d.drop n) ++ rest := by
          rw [List.append_assoc, List.drop_append_of_le_length (by rw [List.length_take]; omega)]
          rw [List.drop_eq_nil_of_le (by rw [List.length_take]; omega)]; rfl
        rw [e1, e2, e3]
        have hl : (out ++ d.take n).length = out.length + n := by rw [List.length_append, List.length_take]; omega
        rw [ih (d.drop n) (out ++ d.take n) rest k size (by rw [List.length_drop]; omega) (by rw [hl, List.length_drop]; omega) (by omega)]
        rw [List.append_assoc, List.take_append_drop]
      · have hp := zerosP_stop hst
        have hp2 := zerosP_le d
        have hz : zerosP d ≤ lead d := by unfold zerosP; omega
        have hrl := congrArg List.length (runsP_stop hd hst)
        rw [List.length_cons] at hrl
        rw [runsP_stop hd hst]
        generalize zerosP d = n at *
        have ht := take_lead d n hz
        unfold refData
        rw [if_neg (by omega)]
        simp only [List.cons_append]
        rw [if_pos (by omega)]
        have e1 : ((((127 + n : Nat) : Nat) : Int) - 127).toNat = n := by omega
        rw [e1, ← ht]
        have hl : (out ++ d.take n).length = out.length + n := by rw [List.length_append, List.length_take]; omega
        rw [ih (d.drop n) (out ++ d.take n) rest k size (by rw [List.length_drop]; omega) (by rw [hl, List.length_drop]; omega) (by omega)]
        rw [List.append_assoc, List.take_append_drop]

theorem Img.Ok.parts {g : Img} (h : g.Ok) : 1 ≤ g.cw.length ∧ g.cw.length ≤ 32768 ∧ 4 ≤ g.dl.length ∧ g.dl.length ≤ 65536 ∧ 268435456 ≤ g.limit ∧ g.limit - 268435456 ≤ g.dl.length ∧ 0 ≤ g.notes ∧ g.notes ≤ 64 := of_decide_eq_true h.right

/-- What has been written is read as it was, and no more is read. -/
theorem readP_enc {g : Img} (h : g.Ok) (rest : List Int) : readP (g.enc ++ rest) = some (g, rest) := by
  obtain ⟨h1, h2, h3, h4, h5, h6, h7, h8⟩ := h.parts
  have e : g.enc ++ rest = [82, 83, 72, 1] ++ (num4 (g.cw.length : Nat) ++ (num4 (g.dl.length : Nat) ++ (num4 (g.limit - 268435456) ++ (num4 g.notes ++ (g.cw.flatMap num4 ++ (runsP g.dl ++ rest)))))) := by
    unfold Img.enc encP
    simp only [List.flatMap_cons, List.flatMap_nil, List.append_nil, List.append_assoc]
  rw [e]
  unfold readP
  rw [if_neg (by simp)]
  simp only [List.cons_append, List.nil_append, List.drop_succ_cons, List.drop_zero]
  rw [mostP_num4 (by omega) (by omega)]
  simp only []
  rw [mostP_num4 (by omega) (by omega)]
  simp only []
  rw [mostP_num4 (by omega) (by omega)]
  simp only []
  rw [mostP_num4 (by omega) (by omega)]
  simp only [Int.toNat_natCast]
  rw [codeP_all _ _ h.cw]
  simp only []
  rw [dataP_all g.dl.length g.dl [] rest _ _ (Nat.le_refl _) (by simp) (by rw [List.length_append]; omega)]
  simp only [List.nil_append]
  rw [show g.limit - 268435456 + 268435456 = g.limit by omega]
end PK
end
section
/- Layer 32 (pack): the reader, walked: taking bytes, numbers. -/
open Go Go.Ev Go.Proofs Go.Proofs.Ythhohhbkeaghnaa PK
namespace Go.Ev
section
variable {E : Env} {ft : Tr AFunc} {c : Ctx} {s : St} {C : CallS} {dst : Option Tmp} {ty : TypeId} {pos : String} {after : Array Edge} {g : Option (Nat × Bool)}
/-- What is thrown. -/
def panV : Value → St → OpR
  | .iface t v, s => .pan (.iface t v) s
  | _, _ => .fail
@[go_sem] theorem panV_iface {t : TypeId} {v : Value} : panV (.iface t v) s = .pan (.iface t v) s := rfl
@[go_sem] theorem op_panic (x : Operand) : evOp E C c ⟨dst, .panic x, ty, pos, after, g⟩ s = oOp (evalO E.ng s.r x) fun x => panV x s := by
  show (oOp (evalO E.ng s.r x) fun x => match x with | .iface t v => OpR.pan (.iface t v) s | _ => .fail) = _
  congr 1; funext x; unfold panV; cases x <;> rfl
/-- A call that is put off. -/
def defV (f : Value) (vs : List Value) (s : St) : OpR :=
  match f with
  | .func (.func g) ⟨first⟩ cp => .val undef' { s with d := { target := .fn (.func g) cp, args := ⟨first ++ vs⟩ } :: s.d }
  | _ => .fail
@[go_sem] theorem defV_fn {f : FuncId} {first vs : List Value} {cp : Array Value} {r : Tr Value} {n : Nat} {d : List Deferred} {h : AH} {rc : Bool} : defV (.func (.func f) ⟨first⟩ cp) vs ⟨r, n, d, h, rc⟩ = .val undef' ⟨r, n, { target := .fn (.func f) cp, args := ⟨first ++ vs⟩ } :: d, h, rc⟩ := rfl
@[go_sem] theorem op_defer {p : Option Value} (f : Operand) (args : Array Operand) (ats : Array TypeId) : evOp E C ⟨none, p⟩ ⟨dst, .defer ⟨.value f, args, ats⟩, ty, pos, after, g⟩ s = oOp (evalO E.ng s.r f) fun f => oOp (valsV (evalO E.ng s.r) args.toList) fun vs => defV f vs s := by
  show (oOp (evalO E.ng s.r f) fun f => oOp (valsV (evalO E.ng s.r) args.toList) fun vs => match f with | .func (.func g) ⟨first⟩ cp => OpR.val undef' { s with d := { target := .fn (.func g) cp, args := ⟨first ++ vs⟩ } :: s.d } | _ => .fail) = _
  rfl
@[go_sem] theorem op_recover_none (args : Array Operand) (ats : Array TypeId) : evOp E C ⟨none, none⟩ ⟨dst, .call ⟨.builtin .recover, args, ats⟩, ty, pos, after, g⟩ s = .val .nilIface s := rfl
@[go_sem] theorem op_recover_some {v : Value} {r : Tr Value} {n : Nat} {d : List Deferred} {h : AH} (args : Array Operand) (ats : Array TypeId) : evOp E C ⟨none, some v⟩ ⟨dst, .call ⟨.builtin .recover, args, ats⟩, ty, pos, after, g⟩ ⟨r, n, d, h, false⟩ = .val v ⟨r, n, d, h, true⟩ := rfl
@[go_sem ↓] theorem kBody_pan {K : CRes → Prop} {res : List ResultVar} {r : Tr Value} {n : Nat} {h : AH} {v : Value} : kBody E ft res K (.pan v ⟨r, n, [], h, false⟩) = K (.pan v h) := by
  show K (leaveL E ft res r false (some v) [] h) = _
  rw [leaveL_pan]; rfl
end
end Go.Ev
namespace PK
/-- A reader: what it has still to read. -/
structure Rd (h : AH) (br lb : Nat) (b : List Int) : Prop where
  box : ∃ a cp, Box h br (.slice a b.length cp) ∧ b.length ≤ cp ∧ Holds ⟨lb, h.b⟩ vB a b.length b
  low : lb ≤ br
/-- Nothing but br has changed. -/
def Fr (br : Nat) (h h' : AH) : Prop := h.next ≤ h'.next ∧ ∀ i, i < h.next → i ≠ br → h'.b.get i = h.b.get i
theorem Fr.refl (br : Nat) (h : AH) : Fr br h h := ⟨Nat.le_refl _, fun _ _ _ => rfl⟩
theorem Fr.trans {br : Nat} {a b c : AH} (h1 : Fr br a b) (h2 : Fr br b c) : Fr br a c := ⟨Nat.le_trans h1.1 h2.1, fun i hi hb => by rw [h2.2 i (Nat.lt_of_lt_of_le hi h1.1) hb, h1.2 i hi hb]⟩
theorem Fr.ofExt {br : Nat} {h h' : AH} (e : Ext h h') : Fr br h h' := ⟨e.1, fun i hi _ => e.2 i hi⟩
theorem Rd.keep {h h' : AH} {br lb : Nat} {b : List Int} (R : Rd h br lb b) (h1 : h.next ≤ h'.next) (h2 : ∀ i, i < h.next → (i = br ∨ i < lb) → h'.b.get i = h.b.get i) : Rd h' br lb b := by
  obtain ⟨⟨a, cp, B, g1, g2⟩, low⟩ := R
  have hbr := B.1
  refine ⟨⟨a, cp, B.keep h1 (h2 br B.1 (.inl rfl)), g1, g2.keep (Nat.le_refl _) fun b off _ hb => ?_⟩, low⟩
  have hb' : b < lb := hb
  exact h2 b (by omega) (.inr hb')
theorem Rd.ext {h h' : AH} {br lb : Nat} {b : List Int} (R : Rd h br lb b) (e : Ext h h') : Rd h' br lb b := R.keep e.1 fun i hi _ => e.2 i hi
end PK
namespace S1
set_option maxRecDepth 10000
@[go_sem] theorem bd82 : aBuild E0 82 [] = some (.agg ⟨[]⟩) := by kernel_rfl
theorem ti82 : (oget (tInfo E0 82) fun i => ifaceV 82 i.und (.agg ⟨[]⟩)) = some (.iface 82 (.agg ⟨[]⟩)) := by kernel_rfl
@[go_sem] theorem mi82 {h : AH} : (oget (tInfo E0 82) fun i => oget (ifaceV 82 i.und (.agg ⟨[]⟩)) fun v => some (v, h)) = some (.iface 82 (.agg ⟨[]⟩), h) := by
  have := ti82
  cases hx : tInfo E0 82 with
  | none => rw [hx] at this; cases this
  | some i => rw [hx] at this; simp only [oget] at this ⊢; rw [this]
/-- What the reader throws. -/
def bad : Value := .iface 82 (.agg ⟨[]⟩)
set_option maxHeartbeats 1000000 in
theorem spec43 (br lb : Nat) (n : Int) (b : List Int) (h : AH) (R : Rd h br lb b) (hb : b.length ≤ 1000000) (hc : h.next + 10 < 1099511627776) (K : CRes → Prop)
    (hk : ∀ h' a' cp', 0 ≤ n → n ≤ b.length → Rd h' br lb (b.drop n.toNat) → Holds ⟨lb, h'.b⟩ vB a' n.toNat (b.take n.toNat) → n.toNat ≤ cp' → Fr br h h' → h'.next ≤ h.next + 2 → K (.ret (.slice a' n.toNat cp') h' false))
    (hp : ¬ (0 ≤ n ∧ n ≤ b.length) → K (.pan bad h)) :
    K (CL E0 ft0 (.fn 43) [.pointer (some ⟨br, 0, none⟩), .int .i64 n] none h) := by
  obtain ⟨⟨a, cp, ⟨hbr, c, e, o, w, g1, g2⟩, hcp, H⟩, low⟩ := R
  refine W_body ft43 (by simp [Try.f43]) (by decide) ?_
  simp only [Try.f43]
  have hc0 : h.next < 1099511627776 := by omega
  have hbrc : br < 1099511627776 := by omega
  simp (failIfUnchanged := false) (maxSteps := 1000000) (maxDischargeDepth := 5) only [go_sem, cap_eq, Nat.reduceLT, Nat.reduceLeDiff, and_self, and_true, true_and, ↓reduceIte, decide_true, decide_false, Nat.le_refl, Nat.reduceEqDiff, reduceCtorEq, Nat.zero_add, Nat.reduceAdd, Nat.reducePow, Int.reduceEq, Int.reduceLT, Int.reduceLE, Int.reduceGT, Int.reduceGE, not_true_eq_false, Nat.reduceDiv, Nat.reduceMod, Nat.lt_add_one, Nat.lt_irrefl, Nat.add_lt_add_iff_left, Nat.lt_add_right_iff_pos, List.getElem?_cons_zero, List.getElem?_cons_succ, Option.bind_some, Nat.succ_ne_zero, ne_eq, not_false_eq_true, if_false, if_true, Option.getD_some, Bool.not_true, Bool.not_false, g1, g2]
  refine ifG_two (fun hg => ?_) (fun hg => ?_)
  · have hn0 : ¬ n < 0 := by simpa using hg
    simp (failIfUnchanged := false) (maxSteps := 1000000) (maxDischargeDepth := 5) only [go_sem, cap_eq, Nat.reduceLT, Nat.reduceLeDiff, and_self, and_true, true_and, ↓reduceIte, decide_true, decide_false, Nat.le_refl, Nat.reduceEqDiff, reduceCtorEq, Nat.zero_add, Nat.reduceAdd, Nat.reducePow, Int.reduceEq, Int.reduceLT, Int.reduceLE, Int.reduceGT, Int.reduceGE, not_true_eq_false, Nat.reduceDiv, Nat.reduceMod, Nat.lt_add_one, Nat.lt_irrefl, Nat.add_lt_add_iff_left, Nat.lt_add_right_iff_pos, List.getElem?_cons_zero, List.getElem?_cons_succ, Option.bind_some, Nat.succ_ne_zero, ne_eq, not_false_eq_true, if_false, if_true, Option.getD_some, Bool.not_true, Bool.not_false, hn0, g1, g2]
    refine wCond_dec (fun hgt => ?_) (fun hgt => ?_)
    · simp (failIfUnchanged := false) (maxSteps := 1000000) (maxDischargeDepth := 5) only [go_sem, cap_eq, Nat.reduceLT, Nat.reduceLeDiff, and_self, and_true, true_and, ↓reduceIte, decide_true, decide_false, Nat.le_refl, Nat.reduceEqDiff, reduceCtorEq, Nat.zero_add, Nat.reduceAdd, Nat.reducePow, Int.reduceEq, Int.reduceLT, Int.reduceLE, Int.reduceGT, Int.reduceGE, not_true_eq_false, Nat.reduceDiv, Nat.reduceMod, Nat.lt_add_one, Nat.lt_irrefl, Nat.add_lt_add_iff_left, Nat.lt_add_right_iff_pos, List.getElem?_cons_zero, List.getElem?_cons_succ, Option.bind_some, Nat.succ_ne_zero, ne_eq, not_false_eq_true, if_false, if_true, Option.getD_some, Bool.not_true, Bool.not_false]
      exact hp (by omega)
    · obtain ⟨m, rfl⟩ : ∃ m : Nat, n = (m : Int) := ⟨n.toNat, by omega⟩
      have hm : m ≤ b.length := by omega
      simp (failIfUnchanged := false) (maxSteps := 1000000) (maxDischargeDepth := 5) only [go_sem, cap_eq, Nat.reduceLT, Nat.reduceLeDiff, and_self, and_true, true_and, ↓reduceIte, decide_true, decide_false, Nat.le_refl, Nat.reduceEqDiff, reduceCtorEq, Nat.zero_add, Nat.reduceAdd, Nat.reducePow, Int.reduceEq, Int.reduceLT, Int.reduceLE, Int.reduceGT, Int.reduceGE, not_true_eq_false, Nat.reduceDiv, Nat.reduceMod, Nat.lt_add_one, Nat.lt_irrefl, Nat.add_lt_add_iff_left, Nat.lt_add_right_iff_pos, List.getElem?_cons_zero, List.getElem?_cons_succ, Option.bind_some, Nat.succ_ne_zero, ne_eq, not_false_eq_true, if_false, if_true, Option.getD_some, Bool.not_true, Bool.not_false, g1, g2]
      refine slice_lo T36 H (by omega) hcp (i := 0) (j := m) rfl bound_some (by omega) hm hc0 fun h1 a1 e1 hn1 _ H1 _ => ?_
      have g3 := (e1.2 br hbr).trans g1
      have e11 := e1.1
      have hc1 : h1.next < 1099511627776 := by omega
      simp (failIfUnchanged := false) (maxSteps := 1000000) (maxDischargeDepth := 5) only [go_sem, cap_eq, Nat.reduceLT, Nat.reduceLeDiff, and_self, and_true, true_and, ↓reduceIte, decide_true, decide_false, Nat.le_refl, Nat.reduceEqDiff, reduceCtorEq, Nat.zero_add, Nat.reduceAdd, Nat.reducePow, Int.reduceEq, Int.reduceLT, Int.reduceLE, Int.reduceGT, Int.reduceGE, not_true_eq_false, Nat.reduceDiv, Nat.reduceMod, Nat.lt_add_one, Nat.lt_irrefl, Nat.add_lt_add_iff_left, Nat.lt_add_right_iff_pos, List.getElem?_cons_zero, List.getElem?_cons_succ, Option.bind_some, Nat.succ_ne_zero, ne_eq, not_false_eq_true, if_false, if_true, Option.getD_some, Bool.not_true, Bool.not_false, g3, g2]
      have H' : Holds ⟨lb, h1.b⟩ vB a b.length b := H.keep (h' := ⟨lb, h1.b⟩) (Nat.le_refl _) fun x _ _ hx => e1.2 x (by have hx' : x < lb := hx; omega)
      refine slice_lo T36 H' (by omega) hcp (i := m) (j := b.length) bound_some rfl hm (Nat.le_refl _) hc1 fun h2 a2 e2 hn2 _ H2 _ => ?_
      have g4 := (e2.2 br (by omega)).trans g3
      have e21 := e2.1
      have hlen : (b.drop m).length = b.length - m := List.length_drop
      simp (failIfUnchanged := false) (maxSteps := 1000000) (maxDischargeDepth := 5) only [go_sem, cap_eq, Nat.reduceLT, Nat.reduceLeDiff, and_self, and_true, true_and, ↓reduceIte, decide_true, decide_false, Nat.le_refl, Nat.reduceEqDiff, reduceCtorEq, Nat.zero_add, Nat.reduceAdd, Nat.reducePow, Int.reduceEq, Int.reduceLT, Int.reduceLE, Int.reduceGT, Int.reduceGE, not_true_eq_false, Nat.reduceDiv, Nat.reduceMod, Nat.lt_add_one, Nat.lt_irrefl, Nat.add_lt_add_iff_left, Nat.lt_add_right_iff_pos, List.getElem?_cons_zero, List.getElem?_cons_succ, Option.bind_some, Nat.succ_ne_zero, ne_eq, not_false_eq_true, if_false, if_true, Option.getD_some, Bool.not_true, Bool.not_false, g4, hbrc]
      have e1' := e1.2
      have e2' := e2.2
      have hk' := hk (h2.upd br (.cells 1 (putCells c 0 [.slice a2 (b.length - m) (cp - m)]) e o w)) a1 cp (by omega) (by omega)
      rw [Int.toNat_natCast] at hk'
      rw [Nat.sub_zero, List.drop_zero] at H1
      have hk0 : ∀ (v : Value), Value.slice a1 (m - 0) (cp - 0) = v → v = .slice a1 m cp := by intro v hv; rw [← hv]; rfl
      refine hk' ⟨⟨a2, cp - m, ⟨by rw [upd_next]; omega, _, _, _, _, get_upd_self hbrc, ?_⟩, by omega, ?_⟩, low⟩ (H1.keep (h' := ⟨lb, _⟩) (Nat.le_refl _) fun x _ _ hx => ?_) (by omega) ⟨by rw [upd_next]; omega, fun i hi hib => ?_⟩ (by rw [upd_next]; omega)
      · rw [hlen]; simp (failIfUnchanged := false) (maxSteps := 1000000) (maxDischargeDepth := 5) only [go_sem, cap_eq, Nat.reduceLT, Nat.reduceLeDiff, and_self, and_true, true_and, ↓reduceIte, decide_true, decide_false, Nat.le_refl, Nat.reduceEqDiff, reduceCtorEq, Nat.zero_add, Nat.reduceAdd, Nat.reducePow, Int.reduceEq, Int.reduceLT, Int.reduceLE, Int.reduceGT, Int.reduceGE, not_true_eq_false, Nat.reduceDiv, Nat.reduceMod, Nat.lt_add_one, Nat.lt_irrefl, Nat.add_lt_add_iff_left, Nat.lt_add_right_iff_pos, List.getElem?_cons_zero, List.getElem?_cons_succ, Option.bind_some, Nat.succ_ne_zero, ne_eq, not_false_eq_true, if_false, if_true, Option.getD_some, Bool.not_true, Bool.not_false]
      · rw [hlen]
        rw [List.take_of_length_le (by omega)] at H2
        exact H2.keep (h' := ⟨lb, _⟩) (Nat.le_refl _) fun x _ _ hx => get_upd_ne (by have hx' : x < lb := hx; omega) hbrc
      · have hx' : x < lb := hx
        show (h2.upd br _).b.get x = h1.b.get x
        rw [get_upd_ne (by omega) hbrc, e2' x (by omega)]
      · rw [get_upd_ne hib hbrc, e2' i (by omega), e1' i hi]
  · have hn0 : n < 0 := by simpa using hg
    simp (failIfUnchanged := false) (maxSteps := 1000000) (maxDischargeDepth := 5) only [go_sem, cap_eq, Nat.reduceLT, Nat.reduceLeDiff, and_self, and_true, true_and, ↓reduceIte, decide_true, decide_false, Nat.le_refl, Nat.reduceEqDiff, reduceCtorEq, Nat.zero_add, Nat.reduceAdd, Nat.reducePow, Int.reduceEq, Int.reduceLT, Int.reduceLE, Int.reduceGT, Int.reduceGE, not_true_eq_false, Nat.reduceDiv, Nat.reduceMod, Nat.lt_add_one, Nat.lt_irrefl, Nat.add_lt_add_iff_left, Nat.lt_add_right_iff_pos, List.getElem?_cons_zero, List.getElem?_cons_succ, Option.bind_some, Nat.succ_ne_zero, ne_eq, not_false_eq_true, if_false, if_true, Option.getD_some, Bool.not_true, Bool.not_false, hn0]
    exact hp (by omega)
end S1
end
section
/- Layer 32 (pack): the reader, walked: numbers. -/
open Go Go.Ev Go.Proofs Go.Proofs.Ythhohhbkeaghnaa PK
namespace S1
set_option maxRecDepth 10000
theorem four {b : List Int} (h : 4 ≤ b.length) : ∃ z0 z1 z2 z3 r, b = z0 :: z1 :: z2 :: z3 :: r := by
  match b, h with
  | z0 :: z1 :: z2 :: z3 :: r, _ => exact ⟨z0, z1, z2, z3, r, rfl⟩
theorem Holds.all {α : Type} {f : α → Value} {h : AH} {a : Option Addr} {len : Nat} {l : List α} (H : Holds h f a len l) (hl : 0 < l.length) : ∃ b off blk, a = some ⟨b, off, none⟩ ∧ b < h.next ∧ h.b.get b = some blk ∧ ∀ i x, l[i]? = some x → blk.cell (off + i) = some (f x) := by
  obtain ⟨_, _, rfl | ⟨b, off, blk, e1, e2, e3, e4⟩⟩ := H
  · simp at hl
  · exact ⟨b, off, blk, e1, e2, e3, e4⟩
theorem orN (k a c : Nat) (ha : a < 2 ^ k) : a ||| (c * 2 ^ k) = a + c * 2 ^ k := by
  have := Nat.two_pow_add_eq_or_of_lt ha c
  rw [Nat.or_comm, Nat.mul_comm c, ← this, Nat.add_comm]
theorem orI (k : Nat) (a c : Nat) (ha : a < 2 ^ k) (hk : c * 2 ^ k < 2 ^ 40) (hk2 : k ≤ 40) : IntKind.i64.wrap ((BitVec.ofInt 64 (a : Int) ||| BitVec.ofInt 64 ((c * 2 ^ k : Nat) : Int)).toNat : Int) = ((a + c * 2 ^ k : Nat) : Int) := by
  have h1 : 2 ^ k ≤ 2 ^ 40 := Nat.pow_le_pow_right (by omega) hk2
  have e : (BitVec.ofInt 64 (a : Int) ||| BitVec.ofInt 64 ((c * 2 ^ k : Nat) : Int)).toNat = a + c * 2 ^ k := by
    rw [BitVec.toNat_or, BitVec.ofInt_natCast, BitVec.ofInt_natCast, BitVec.toNat_ofNat, BitVec.toNat_ofNat]
    rw [Nat.mod_eq_of_lt (by omega), Nat.mod_eq_of_lt (by omega), orN k a c ha]
  rw [e]
  exact IntWalk.i64_in _ (by omega)
theorem shN (j : Int) (k : Nat) (c : Nat) (e : min j.toNat 64 = k) (hk : c * 2 ^ k < 2 ^ 40) : IntKind.i64.wrap ((c : Int) * 2 ^ min j.toNat 64) = ((c * 2 ^ k : Nat) : Int) := by
  rw [e]
  have : (c : Int) * 2 ^ k = ((c * 2 ^ k : Nat) : Int) := by simp
  rw [this]
  exact IntWalk.i64_in _ (by omega)
theorem or4 (z0 z1 z2 z3 : Int) (i0 : 0 ≤ z0 ∧ z0 ≤ 255) (i1 : 0 ≤ z1 ∧ z1 ≤ 255) (i2 : 0 ≤ z2 ∧ z2 ≤ 255) (i3 : 0 ≤ z3 ∧ z3 ≤ 255) :
    IntKind.i64.wrap (((BitVec.ofInt 64 (IntKind.i64.wrap (((BitVec.ofInt 64 (IntKind.i64.wrap (((BitVec.ofInt 64 z0 ||| BitVec.ofInt 64 (IntKind.i64.wrap (z1 * 2 ^ min (Int.toNat 8) 64))).toNat : Nat) : Int)) ||| BitVec.ofInt 64 (IntKind.i64.wrap (z2 * 2 ^ min (Int.toNat 16) 64))).toNat : Nat) : Int)) ||| BitVec.ofInt 64 (IntKind.i64.wrap (z3 * 2 ^ min (Int.toNat 24) 64))).toNat : Nat) : Int) = z0 + 256 * z1 + 65536 * z2 + 16777216 * z3 := by
  obtain ⟨n0, rfl⟩ : ∃ n : Nat, z0 = (n : Int) := ⟨z0.toNat, by omega⟩
  obtain ⟨n1, rfl⟩ : ∃ n : Nat, z1 = (n : Int) := ⟨z1.toNat, by omega⟩
  obtain ⟨n2, rfl⟩ : ∃ n : Nat, z2 = (n : Int) := ⟨z2.toNat, by omega⟩
  obtain ⟨n3, rfl⟩ : ∃ n : Nat, z3 = (n : Int) := ⟨z3.toNat, by omega⟩
  rw [shN 8 8 n1 rfl (by omega), shN 16 16 n2 rfl (by omega), shN 24 24 n3 rfl (by omega)]
  have o1 := orI 8 n0 n1 (by omega) (by omega) (by omega)
  have o2 := orI 16 (n0 + n1 * 2 ^ 8) n2 (by omega) (by omega) (by omega)
  have o3 := orI 24 (n0 + n1 * 2 ^ 8 + n2 * 2 ^ 16) n3 (by omega) (by omega) (by omega)
  rw [o1, o2, o3]
  omega
set_option maxHeartbeats 1000000 in
theorem spec45 (br lb : Nat) (b : List Int) (h : AH) (R : Rd h br lb b) (hby : ∀ z ∈ b, 0 ≤ z ∧ z ≤ 255) (hb : b.length ≤ 1000000) (hlb : lb ≤ h.next) (hc : h.next + 10 < 1099511627776) (K : CRes → Prop)
    (hk : ∀ h', 4 ≤ b.length → Rd h' br lb (b.drop 4) → Fr br h h' → h'.next ≤ h.next + 2 → K (.ret (.int .i64 (le4 b)) h' false))
    (hp : b.length < 4 → K (.pan bad h)) :
    K (CL E0 ft0 (.fn 45) [.pointer (some ⟨br, 0, none⟩)] none h) := by
  refine W_body ft45 (by simp [Try.f45]) (by decide) ?_
  simp only [Try.f45]
  simp (failIfUnchanged := false) (maxSteps := 1000000) (maxDischargeDepth := 5) only [go_sem, cap_eq, Nat.reduceLT, Nat.reduceLeDiff, and_self, and_true, true_and, ↓reduceIte, decide_true, decide_false, Nat.le_refl, Nat.reduceEqDiff, reduceCtorEq, Nat.zero_add, Nat.reduceAdd, Nat.reducePow, Int.reduceEq, Int.reduceLT, Int.reduceLE, Int.reduceGT, Int.reduceGE, not_true_eq_false, Nat.reduceDiv, Nat.reduceMod, Nat.lt_add_one, Nat.lt_irrefl, Nat.add_lt_add_iff_left, Nat.lt_add_right_iff_pos, List.getElem?_cons_zero, List.getElem?_cons_succ, Option.bind_some, Nat.succ_ne_zero, ne_eq, not_false_eq_true, if_false, if_true, Option.getD_some, Bool.not_true, Bool.not_false]
  refine spec43 br lb 4 b h R hb hc _ (fun h1 a1 cp1 hn0 hn R1 H1 hcp1 F1 hn1 => ?_) (fun hn => ?_)
  · rw [show (4 : Int).toNat = 4 from rfl] at *
    simp (failIfUnchanged := false) (maxSteps := 1000000) (maxDischargeDepth := 5) only [go_sem, cap_eq, Nat.reduceLT, Nat.reduceLeDiff, and_self, and_true, true_and, ↓reduceIte, decide_true, decide_false, Nat.le_refl, Nat.reduceEqDiff, reduceCtorEq, Nat.zero_add, Nat.reduceAdd, Nat.reducePow, Int.reduceEq, Int.reduceLT, Int.reduceLE, Int.reduceGT, Int.reduceGE, not_true_eq_false, Nat.reduceDiv, Nat.reduceMod, Nat.lt_add_one, Nat.lt_irrefl, Nat.add_lt_add_iff_left, Nat.lt_add_right_iff_pos, List.getElem?_cons_zero, List.getElem?_cons_succ, Option.bind_some, Nat.succ_ne_zero, ne_eq, not_false_eq_true, if_false, if_true, Option.getD_some, Bool.not_true, Bool.not_false]
    obtain ⟨z0, z1, z2, z3, rr, rfl⟩ := four (b := b) (by omega)
    have i0 := hby z0 (by simp)
    have i1 := hby z1 (by simp)
    have i2 := hby z2 (by simp)
    have i3 := hby z3 (by simp)
    obtain ⟨bk, off, blk, rfl, hbn, hb0, hcc⟩ := Holds.all H1 (by simp)
    have c0 := hcc 0 z0 (by simp)
    have c1 := hcc 1 z1 (by simp)
    have c2 := hcc 2 z2 (by simp)
    have c3 := hcc 3 z3 (by simp)
    refine W_draw 2 [(0, 0), (1, 1), (2, 3), (3, 7), (4, 0), (5, 16), (6, 48), (7, 112), (8, 240), (9, 511), (10, 0), (11, 1024), (12, 3072), (13, 7168), (14, 15360), (15, 32767), (16, 0), (17, 65536), (18, 196608), (19, 458752), (20, 983040), (21, 2097151), (22, 4194303)] (by kernel_rfl) ?_
    have w0 : IntKind.i64.wrap z0 = z0 := IntWalk.i64_in _ (by omega)
    have w1 : IntKind.i64.wrap z1 = z1 := IntWalk.i64_in _ (by omega)
    have w2 : IntKind.i64.wrap z2 = z2 := IntWalk.i64_in _ (by omega)
    have w3 : IntKind.i64.wrap z3 = z3 := IntWalk.i64_in _ (by omega)
    have m0 : (0 : Int) < ((4 : Nat) : Int) := by decide
    have m1 : (1 : Int) < ((4 : Nat) : Int) := by decide
    have m2 : (2 : Int) < ((4 : Nat) : Int) := by decide
    have m3 : (3 : Int) < ((4 : Nat) : Int) := by decide
    have t0 : Int.toNat 0 = 0 := by decide
    have t1 : Int.toNat 1 = 1 := by decide
    have t2 : Int.toNat 2 = 2 := by decide
    have t3 : Int.toNat 3 = 3 := by decide
    rw [Nat.add_zero] at c0
    simp (failIfUnchanged := false) (maxSteps := 1000000) (maxDischargeDepth := 5) only [go_sem, cap_eq, Nat.reduceLT, Nat.reduceLeDiff, and_self, and_true, true_and, ↓reduceIte, decide_true, decide_false, Nat.le_refl, Nat.reduceEqDiff, reduceCtorEq, Nat.zero_add, Nat.reduceAdd, Nat.reducePow, Int.reduceEq, Int.reduceLT, Int.reduceLE, Int.reduceGT, Int.reduceGE, not_true_eq_false, Nat.reduceDiv, Nat.reduceMod, Nat.lt_add_one, Nat.lt_irrefl, Nat.add_lt_add_iff_left, Nat.lt_add_right_iff_pos, List.getElem?_cons_zero, List.getElem?_cons_succ, Option.bind_some, Nat.succ_ne_zero, ne_eq, not_false_eq_true, if_false, if_true, Option.getD_some, Bool.not_true, Bool.not_false, hb0, c0, c1, c2, c3, w0, w1, w2, w3, m0, m1, m2, m3, t0, t1, t2, t3, Nat.one_mul, Nat.mul_one, Nat.add_zero]
    have hk' := hk h1 (by simp) R1 F1 hn1
    rw [show le4 (z0 :: z1 :: z2 :: z3 :: rr) = _ from (or4 z0 z1 z2 z3 i0 i1 i2 i3).symm] at hk'
    exact hk'
  · simp (failIfUnchanged := false) (maxSteps := 1000000) (maxDischargeDepth := 5) only [go_sem, cap_eq, Nat.reduceLT, Nat.reduceLeDiff, and_self, and_true, true_and, ↓reduceIte, decide_true, decide_false, Nat.le_refl, Nat.reduceEqDiff, reduceCtorEq, Nat.zero_add, Nat.reduceAdd, Nat.reducePow, Int.reduceEq, Int.reduceLT, Int.reduceLE, Int.reduceGT, Int.reduceGE, not_true_eq_false, Nat.reduceDiv, Nat.reduceMod, Nat.lt_add_one, Nat.lt_irrefl, Nat.add_lt_add_iff_left, Nat.lt_add_right_iff_pos, List.getElem?_cons_zero, List.getElem?_cons_succ, Option.bind_some, Nat.succ_ne_zero, ne_eq, not_false_eq_true, if_false, if_true, Option.getD_some, Bool.not_true, Bool.not_false]
    exact hp (by omega)
end S1
end
section
/- Layer 32 (pack): the reader, walked: numbers that may not be too big; data. -/
open Go Go.Ev Go.Proofs Go.Proofs.Ythhohhbkeaghnaa PK
namespace S1
set_option maxRecDepth 10000
set_option maxHeartbeats 1000000 in
theorem spec44 (br lb : Nat) (m : Int) (b : List Int) (h : AH) (R : Rd h br lb b) (hby : ∀ z ∈ b, 0 ≤ z ∧ z ≤ 255) (hb : b.length ≤ 1000000) (hlb : lb ≤ h.next) (hc : h.next + 10 < 1099511627776) (K : CRes → Prop)
    (hk : ∀ h' n r, mostP m b = some (n, r) → Rd h' br lb r → Fr br h h' → h'.next ≤ h.next + 2 → K (.ret (.int .i64 n) h' false))
    (hp : ∀ h', mostP m b = none → Fr br h h' → h'.next ≤ h.next + 2 → K (.pan bad h')) :
    K (CL E0 ft0 (.fn 44) [.pointer (some ⟨br, 0, none⟩), .int .i64 m] none h) := by
  refine W_body ft44 (by simp [Try.f44]) (by decide) ?_
  simp only [Try.f44]
  simp (failIfUnchanged := false) (maxSteps := 1000000) (maxDischargeDepth := 5) only [go_sem, cap_eq, Nat.reduceLT, Nat.reduceLeDiff, and_self, and_true, true_and, ↓reduceIte, decide_true, decide_false, Nat.le_refl, Nat.reduceEqDiff, reduceCtorEq, Nat.zero_add, Nat.reduceAdd, Nat.reducePow, Int.reduceEq, Int.reduceLT, Int.reduceLE, Int.reduceGT, Int.reduceGE, not_true_eq_false, Nat.reduceDiv, Nat.reduceMod, Nat.lt_add_one, Nat.lt_irrefl, Nat.add_lt_add_iff_left, Nat.lt_add_right_iff_pos, List.getElem?_cons_zero, List.getElem?_cons_succ, Option.bind_some, Nat.succ_ne_zero, ne_eq, not_false_eq_true, if_false, if_true, Option.getD_some, Bool.not_true, Bool.not_false]
  refine spec45 br lb b h R hby hb hlb hc _ (fun h1 hn R1 F1 hn1 => ?_) (fun hn => ?_)
  · have hnum : numP b = some (le4 b, b.drop 4) := by unfold numP; rw [if_neg (by omega)]
    simp (failIfUnchanged := false) (maxSteps := 1000000) (maxDischargeDepth := 5) only [go_sem, cap_eq, Nat.reduceLT, Nat.reduceLeDiff, and_self, and_true, true_and, ↓reduceIte, decide_true, decide_false, Nat.le_refl, Nat.reduceEqDiff, reduceCtorEq, Nat.zero_add, Nat.reduceAdd, Nat.reducePow, Int.reduceEq, Int.reduceLT, Int.reduceLE, Int.reduceGT, Int.reduceGE, not_true_eq_false, Nat.reduceDiv, Nat.reduceMod, Nat.lt_add_one, Nat.lt_irrefl, Nat.add_lt_add_iff_left, Nat.lt_add_right_iff_pos, List.getElem?_cons_zero, List.getElem?_cons_succ, Option.bind_some, Nat.succ_ne_zero, ne_eq, not_false_eq_true, if_false, if_true, Option.getD_some, Bool.not_true, Bool.not_false]
    refine wCond_dec (fun hgt => ?_) (fun hgt => ?_)
    · simp (failIfUnchanged := false) (maxSteps := 1000000) (maxDischargeDepth := 5) only [go_sem, cap_eq, Nat.reduceLT, Nat.reduceLeDiff, and_self, and_true, true_and, ↓reduceIte, decide_true, decide_false, Nat.le_refl, Nat.reduceEqDiff, reduceCtorEq, Nat.zero_add, Nat.reduceAdd, Nat.reducePow, Int.reduceEq, Int.reduceLT, Int.reduceLE, Int.reduceGT, Int.reduceGE, not_true_eq_false, Nat.reduceDiv, Nat.reduceMod, Nat.lt_add_one, Nat.lt_irrefl, Nat.add_lt_add_iff_left, Nat.lt_add_right_iff_pos, List.getElem?_cons_zero, List.getElem?_cons_succ, Option.bind_some, Nat.succ_ne_zero, ne_eq, not_false_eq_true, if_false, if_true, Option.getD_some, Bool.not_true, Bool.not_false]
      exact hp h1 (by unfold mostP; rw [hnum]; simp only []; rw [if_pos hgt]) F1 hn1
    · simp (failIfUnchanged := false) (maxSteps := 1000000) (maxDischargeDepth := 5) only [go_sem, cap_eq, Nat.reduceLT, Nat.reduceLeDiff, and_self, and_true, true_and, ↓reduceIte, decide_true, decide_false, Nat.le_refl, Nat.reduceEqDiff, reduceCtorEq, Nat.zero_add, Nat.reduceAdd, Nat.reducePow, Int.reduceEq, Int.reduceLT, Int.reduceLE, Int.reduceGT, Int.reduceGE, not_true_eq_false, Nat.reduceDiv, Nat.reduceMod, Nat.lt_add_one, Nat.lt_irrefl, Nat.add_lt_add_iff_left, Nat.lt_add_right_iff_pos, List.getElem?_cons_zero, List.getElem?_cons_succ, Option.bind_some, Nat.succ_ne_zero, ne_eq, not_false_eq_true, if_false, if_true, Option.getD_some, Bool.not_true, Bool.not_false]
      exact hk h1 _ _ (by unfold mostP; rw [hnum]; simp only []; rw [if_neg hgt]) R1 F1 hn1
  · have hnum : numP b = none := by unfold numP; rw [if_pos (by omega)]
    simp (failIfUnchanged := false) (maxSteps := 1000000) (maxDischargeDepth := 5) only [go_sem, cap_eq, Nat.reduceLT, Nat.reduceLeDiff, and_self, and_true, true_and, ↓reduceIte, decide_true, decide_false, Nat.le_refl, Nat.reduceEqDiff, reduceCtorEq, Nat.zero_add, Nat.reduceAdd, Nat.reducePow, Int.reduceEq, Int.reduceLT, Int.reduceLE, Int.reduceGT, Int.reduceGE, not_true_eq_false, Nat.reduceDiv, Nat.reduceMod, Nat.lt_add_one, Nat.lt_irrefl, Nat.add_lt_add_iff_left, Nat.lt_add_right_iff_pos, List.getElem?_cons_zero, List.getElem?_cons_succ, Option.bind_some, Nat.succ_ne_zero, ne_eq, not_false_eq_true, if_false, if_true, Option.getD_some, Bool.not_true, Bool.not_false]
    exact hp h (by unfold mostP; rw [hnum]) (Fr.refl _ _) (by omega)

theorem repl_one (v : Value) : ∀ m, repl [v] m = List.replicate m v
  | 0 => rfl
  | m + 1 => by unfold repl; rw [repl_one v m]; rfl
theorem app_zero36 {h : AH} {lo : Nat} {a : Option Addr} {l : List Int} (m : Nat) (hm : 0 < m) (hm2 : m ≤ 1000) (hb : l.length ≤ 1000000) (hc : h.next < 1099511627776) (O : Own h vB 5 lo a l) (hlo : lo ≤ h.next) :
    ∃ h', aAppend E0 36 (some 3) (.slice a l.length l.length) (.int .i64 (m : Int)) h = some (.slice (some ⟨h.next, 0, none⟩) (l.length + m) (l.length + m), h') ∧ Own h' vB 5 lo (some ⟨h.next, 0, none⟩) (l ++ List.replicate m 0) ∧ h'.next = h.next + 1 ∧ (∀ i, i < h.next → (∀ b, a = some ⟨b, 0, none⟩ → i ≠ b) → h'.b.get i = h.b.get i) := by
  have hN : ∀ ei, tInfo E0 5 = some ei → ei.size = 1 → ei.bytes = 1 → (∃ v, ei.zero = some v ∧ v.cells.toList = [.int .u8 0]) → aNew E0 ei (some 3) (.int .i64 (m : Int)) h = some (m, (List.replicate m 0).map vB) := by
    intro ei he hs hby hz
    obtain ⟨_, _, _, h3⟩ := st22
    obtain ⟨v, hv, hvc⟩ := hz
    unfold aNew
    simp only [Option.bind_some, h3, hv, hvc, hs, hby]
    have q1 : decide ((0 : Int) ≤ (m : Int)) = true := by simp
    have q2 : decide ((m : Int) < 4294967296) = true := by simp; omega
    have q3 : Nat.blt (((m : Int).toNat) * 1) 4294967296 = true := by rw [Int.toNat_natCast]; exact Nat.ble_eq_true_of_le (by omega)
    have q4 : ([Value.int .u8 0] : List Value).length.beq 1 = true := rfl
    rw [q1, q2, q3, q4, repl_one, Int.toNat_natCast]
    simp [vB]
  obtain ⟨h', h1, h2, h3, h4⟩ := append_own T36 hN hm (by simp) (by simp [List.all_eq_true, vB]; exact .inr rfl) (by omega) (by omega) (lt_cap_of hc) O hlo
  refine ⟨h', h1, ?_, h3, h4⟩
  unfold Own
  rw [List.length_append, List.length_replicate, List.map_append]
  exact h2
end S1
end
section
/- Layer 32 (pack): the reader, walked: data. -/
open Go Go.Ev Go.Proofs Go.Proofs.Ythhohhbkeaghnaa PK
namespace Go.Ev
theorem wCond_cutB {E : Env} {ft : Tr AFunc} {c : Ctx} {s : St} {K : Out → Prop} (M : St → Prop) {id : Nat} {a b b' : Code} {v : Option Value} (h1 : wCond E ft c a b s (kBlk id (kMid M K)) v) (h2 : ∀ s, M s → W E ft c b' s K) : wCond E ft c a b s (kBlk id (kSeq E ft c b' K)) v :=
  wCond_mono (fun _ ho => kBlk_mono (fun _ ho => kSeq_cut M ho h2) ho) h1
end Go.Ev
namespace S1
set_option maxRecDepth 10000
set_option maxHeartbeats 2000000 in
theorem spec46 (br lb size : Nat) (b : List Int) (h : AH) (R : Rd h br lb b) (hsz : size ≤ 65536) (hby : ∀ z ∈ b, 0 ≤ z ∧ z ≤ 255) (hb : b.length ≤ 1000000) (hlb : lb ≤ h.next) (hc : h.next + 10 * b.length + 20 < 1099511627776) (K : CRes → Prop)
    (hk : ∀ h' a d r, dataP (b.length + 1) size [] b = some (d, r) → Own h' vB 5 h.next a d → Rd h' br lb r → Fr br h h' → h'.next ≤ h.next + 10 * b.length + 20 → d.length ≤ 66000 → K (.ret (.slice a d.length d.length) h' false))
    (hp : ∀ h', dataP (b.length + 1) size [] b = none → Fr br h h' → h'.next ≤ h.next + 10 * b.length + 20 → K (.pan bad h')) :
    K (CL E0 ft0 (.fn 46) [.pointer (some ⟨br, 0, none⟩), .int .i64 size] none h) := by
  have hbr : br < h.next := by obtain ⟨⟨_, _, B, _⟩, _⟩ := R; exact B.1
  refine W_body ft46 (by simp [Try.f46]) (by decide) ?_
  simp only [Try.f46]
  simp (failIfUnchanged := false) (maxSteps := 1000000) (maxDischargeDepth := 5) only [go_sem, cap_eq, Nat.reduceLT, Nat.reduceLeDiff, and_self, and_true, true_and, ↓reduceIte, decide_true, decide_false, Nat.le_refl, Nat.reduceEqDiff, reduceCtorEq, Nat.zero_add, Nat.reduceAdd, Nat.reducePow, Int.reduceEq, Int.reduceLT, Int.reduceLE, Int.reduceGT, Int.reduceGE, not_true_eq_false, Nat.reduceDiv, Nat.reduceMod, Nat.lt_add_one, Nat.lt_irrefl, Nat.add_lt_add_iff_left, Nat.lt_add_right_iff_pos, List.getElem?_cons_zero, List.getElem?_cons_succ, Option.bind_some, Nat.succ_ne_zero, ne_eq, not_false_eq_true, if_false, if_true, Option.getD_some, Bool.not_true, Bool.not_false]
  refine W_loop (fun k s => ∃ (rg : Tr Value) (hh : AH) (a : Option Addr) (o rd : List Int), s = ⟨rg, 43, [], hh, false⟩ ∧ rg.get 0 = some (.pointer (some ⟨br, 0, none⟩)) ∧ rg.get 1 = some (.int .i64 size) ∧ rg.get 5 = some (.slice a o.length o.length) ∧
    Own hh vB 5 h.next a o ∧ Rd hh br lb rd ∧ dataP k size o rd = dataP (b.length + 1) size [] b ∧ rd.length < k ∧ (∀ z ∈ rd, 0 ≤ z ∧ z ≤ 255) ∧ Fr br h hh ∧ hh.next + 8 * k ≤ h.next + 8 * (b.length + 1) ∧ o.length ≤ 66000 ∧ rd.length ≤ b.length) ?_ (b.length + 1) _ ?_
  · rintro k _ ⟨rg, hh, a, o, rd, rfl, r0, r1, r5, O, R1, hD, hlt, hby1, F1, hnx, hol, hrdb⟩
    obtain ⟨k, rfl⟩ : ∃ k', k = k' + 1 := ⟨k - 1, by omega⟩
    have hn1 := F1.1
    have hc1 : hh.next < 1099511627776 := by omega
    simp (failIfUnchanged := false) (maxSteps := 1000000) (maxDischargeDepth := 5) only [go_sem, cap_eq, Nat.reduceLT, Nat.reduceLeDiff, and_self, and_true, true_and, ↓reduceIte, decide_true, decide_false, Nat.le_refl, Nat.reduceEqDiff, reduceCtorEq, Nat.zero_add, Nat.reduceAdd, Nat.reducePow, Int.reduceEq, Int.reduceLT, Int.reduceLE, Int.reduceGT, Int.reduceGE, not_true_eq_false, Nat.reduceDiv, Nat.reduceMod, Nat.lt_add_one, Nat.lt_irrefl, Nat.add_lt_add_iff_left, Nat.lt_add_right_iff_pos, List.getElem?_cons_zero, List.getElem?_cons_succ, Option.bind_some, Nat.succ_ne_zero, ne_eq, not_false_eq_true, if_false, if_true, Option.getD_some, Bool.not_true, Bool.not_false, r0, r1, r5]
    refine wCond_dec (fun hlen => ?_) (fun hlen => ?_)
    · have hlen' : o.length < size := by omega
      simp (failIfUnchanged := false) (maxSteps := 1000000) (maxDischargeDepth := 5) only [go_sem, cap_eq, Nat.reduceLT, Nat.reduceLeDiff, and_self, and_true, true_and, ↓reduceIte, decide_true, decide_false, Nat.le_refl, Nat.reduceEqDiff, reduceCtorEq, Nat.zero_add, Nat.reduceAdd, Nat.reducePow, Int.reduceEq, Int.reduceLT, Int.reduceLE, Int.reduceGT, Int.reduceGE, not_true_eq_false, Nat.reduceDiv, Nat.reduceMod, Nat.lt_add_one, Nat.lt_irrefl, Nat.add_lt_add_iff_left, Nat.lt_add_right_iff_pos, List.getElem?_cons_zero, List.getElem?_cons_succ, Option.bind_some, Nat.succ_ne_zero, ne_eq, not_false_eq_true, if_false, if_true, Option.getD_some, Bool.not_true, Bool.not_false, r0]
      refine spec43 br lb 1 rd hh R1 (by omega) (by omega) _ (fun h2 a2 cp2 hq0 hq R2 H2 hcp2 F2 hn2 => ?_) (fun hq => ?_)
      · rw [show (1 : Int).toNat = 1 from rfl] at *
        obtain ⟨n, rr, rfl⟩ : ∃ n rr, rd = n :: rr := by
          cases rd with
          | nil => simp at hq
          | cons n rr => exact ⟨n, rr, rfl⟩
        have hz := hby1 n List.mem_cons_self
        obtain ⟨bk, off, blk, rfl, hbn, hb0, hcc⟩ := Holds.all H2 (by simp)
        have c0 := hcc 0 n (by simp)
        rw [Nat.add_zero] at c0
        have hb0' : h2.b.get bk = some blk := hb0
        have w0 : IntKind.i64.wrap n = n := IntWalk.i64_in _ (by omega)
        have m0 : (0 : Int) < ((1 : Nat) : Int) := by decide
        have t0 : Int.toNat 0 = 0 := by decide
        simp (failIfUnchanged := false) (maxSteps := 1000000) (maxDischargeDepth := 5) only [go_sem, cap_eq, Nat.reduceLT, Nat.reduceLeDiff, and_self, and_true, true_and, ↓reduceIte, decide_true, decide_false, Nat.le_refl, Nat.reduceEqDiff, reduceCtorEq, Nat.zero_add, Nat.reduceAdd, Nat.reducePow, Int.reduceEq, Int.reduceLT, Int.reduceLE, Int.reduceGT, Int.reduceGE, not_true_eq_false, Nat.reduceDiv, Nat.reduceMod, Nat.lt_add_one, Nat.lt_irrefl, Nat.add_lt_add_iff_left, Nat.lt_add_right_iff_pos, List.getElem?_cons_zero, List.getElem?_cons_succ, Option.bind_some, Nat.succ_ne_zero, ne_eq, not_false_eq_true, if_false, if_true, Option.getD_some, Bool.not_true, Bool.not_false, hb0', c0, w0, m0, t0, Nat.mul_one, Nat.add_zero]
        have hn2' := F2.1
        have F12 := F1.trans F2
        have hby2 : ∀ z ∈ rr, 0 ≤ z ∧ z ≤ 255 := fun z hz => hby1 z (List.mem_cons_of_mem _ hz)
        have R2' : Rd h2 br lb rr := R2
        have O2 : Own h2 vB 5 h.next a o := O.keep hn2' fun x hx => F2.2 x (by
          obtain ⟨_, ⟨e, _⟩ | ⟨_, _, _, _, e1, _, e4, _⟩⟩ := O
          · rw [e] at hx; cases hx
          · rw [e1] at hx; cases hx; exact e4) (fun e => O.off hbr x hx e.symm)
        have hrl : rr.length + 1 = (n :: rr).length := rfl
        refine wCond_cutB (fun st => ∃ (rg' : Tr Value) (h' : AH) (a' : Option Addr) (o' rd' : List Int), st = ⟨rg', 43, [], h', false⟩ ∧ rg'.get 0 = some (.pointer (some ⟨br, 0, none⟩)) ∧ rg'.get 1 = some (.int .i64 size) ∧ rg'.get 5 = some (.slice a' o'.length o'.length) ∧
          Own h' vB 5 h.next a' o' ∧ Rd h' br lb rd' ∧ dataP (k + 1) size o (n :: rr) = (if rd' = [] ∧ o'.length < size then none else dataP k size o' rd') ∧ rd'.length < k ∧ (∀ z ∈ rd', 0 ≤ z ∧ z ≤ 255) ∧ Fr br h h' ∧ h'.next + 8 * k ≤ h.next + 8 * (b.length + 1) ∧ o'.length ≤ 66000 ∧ rd'.length ≤ b.length) ?_ ?_
        · refine wCond_dec (fun hbig => ?_) (fun hbig => ?_)
          · obtain ⟨m, hm⟩ : ∃ m : Nat, n - 127 = (m : Int) := ⟨(n - 127).toNat, by omega⟩
            have w1 : IntKind.i64.wrap (n - 127) = (m : Int) := (IntWalk.i64_in _ (by omega)).trans hm
            have hc2 : h2.next < 1099511627776 := by omega
            obtain ⟨h3, e3, O3, hn3, hfr3⟩ := app_zero36 m (by omega) (by omega) (by omega) hc2 O2 (by omega)
            simp (failIfUnchanged := false) (maxSteps := 1000000) (maxDischargeDepth := 5) only [go_sem, cap_eq, Nat.reduceLT, Nat.reduceLeDiff, and_self, and_true, true_and, ↓reduceIte, decide_true, decide_false, Nat.le_refl, Nat.reduceEqDiff, reduceCtorEq, Nat.zero_add, Nat.reduceAdd, Nat.reducePow, Int.reduceEq, Int.reduceLT, Int.reduceLE, Int.reduceGT, Int.reduceGE, not_true_eq_false, Nat.reduceDiv, Nat.reduceMod, Nat.lt_add_one, Nat.lt_irrefl, Nat.add_lt_add_iff_left, Nat.lt_add_right_iff_pos, List.getElem?_cons_zero, List.getElem?_cons_succ, Option.bind_some, Nat.succ_ne_zero, ne_eq, not_false_eq_true, if_false, if_true, Option.getD_some, Bool.not_true, Bool.not_false, r5]
            rw [w1, e3]
            simp (failIfUnchanged := false) (maxSteps := 1000000) (maxDischargeDepth := 5) only [go_sem, cap_eq, Nat.reduceLT, Nat.reduceLeDiff, and_self, and_true, true_and, ↓reduceIte, decide_true, decide_false, Nat.le_refl, Nat.reduceEqDiff, reduceCtorEq, Nat.zero_add, Nat.reduceAdd, Nat.reducePow, Int.reduceEq, Int.reduceLT, Int.reduceLE, Int.reduceGT, Int.reduceGE, not_true_eq_false, Nat.reduceDiv, Nat.reduceMod, Nat.lt_add_one, Nat.lt_irrefl, Nat.add_lt_add_iff_left, Nat.lt_add_right_iff_pos, List.getElem?_cons_zero, List.getElem?_cons_succ, Option.bind_some, Nat.succ_ne_zero, ne_eq, not_false_eq_true, if_false, if_true, Option.getD_some, Bool.not_true, Bool.not_false]
            have e4 : o.length + m = (o ++ List.replicate m (0 : Int)).length := by simp
            rw [e4]
            refine ⟨_, h3, _, o ++ List.replicate m 0, rr, rfl, by simp (failIfUnchanged := false) (maxSteps := 1000000) (maxDischargeDepth := 5) only [go_sem, cap_eq, Nat.reduceLT, Nat.reduceLeDiff, and_self, and_true, true_and, ↓reduceIte, decide_true, decide_false, Nat.le_refl, Nat.reduceEqDiff, reduceCtorEq, Nat.zero_add, Nat.reduceAdd, Nat.reducePow, Int.reduceEq, Int.reduceLT, Int.reduceLE, Int.reduceGT, Int.reduceGE, not_true_eq_false, Nat.reduceDiv, Nat.reduceMod, Nat.lt_add_one, Nat.lt_irrefl, Nat.add_lt_add_iff_left, Nat.lt_add_right_iff_pos, List.getElem?_cons_zero, List.getElem?_cons_succ, Option.bind_some, Nat.succ_ne_zero, ne_eq, not_false_eq_true, if_false, if_true, Option.getD_some, Bool.not_true, Bool.not_false, r0], by simp (failIfUnchanged := false) (maxSteps := 1000000) (maxDischargeDepth := 5) only [go_sem, cap_eq, Nat.reduceLT, Nat.reduceLeDiff, and_self, and_true, true_and, ↓reduceIte, decide_true, decide_false, Nat.le_refl, Nat.reduceEqDiff, reduceCtorEq, Nat.zero_add, Nat.reduceAdd, Nat.reducePow, Int.reduceEq, Int.reduceLT, Int.reduceLE, Int.reduceGT, Int.reduceGE, not_true_eq_false, Nat.reduceDiv, Nat.reduceMod, Nat.lt_add_one, Nat.lt_irrefl, Nat.add_lt_add_iff_left, Nat.lt_add_right_iff_pos, List.getElem?_cons_zero, List.getElem?_cons_succ, Option.bind_some, Nat.succ_ne_zero, ne_eq, not_false_eq_true, if_false, if_true, Option.getD_some, Bool.not_true, Bool.not_false, r1], by simp (failIfUnchanged := false) (maxSteps := 1000000) (maxDischargeDepth := 5) only [go_sem, cap_eq, Nat.reduceLT, Nat.reduceLeDiff, and_self, and_true, true_and, ↓reduceIte, decide_true, decide_false, Nat.le_refl, Nat.reduceEqDiff, reduceCtorEq, Nat.zero_add, Nat.reduceAdd, Nat.reducePow, Int.reduceEq, Int.reduceLT, Int.reduceLE, Int.reduceGT, Int.reduceGE, not_true_eq_false, Nat.reduceDiv, Nat.reduceMod, Nat.lt_add_one, Nat.lt_irrefl, Nat.add_lt_add_iff_left, Nat.lt_add_right_iff_pos, List.getElem?_cons_zero, List.getElem?_cons_succ, Option.bind_some, Nat.succ_ne_zero, ne_eq, not_false_eq_true, if_false, if_true, Option.getD_some, Bool.not_true, Bool.not_false], O3, R2'.keep (by omega) fun i hi hor => hfr3 i hi (fun x hx => O2.off (b := i) (by have := R.low; omega) x hx), ?_, by omega, hby2, ⟨by omega, fun i hi hib => ?_⟩, by omega, by rw [← e4]; omega, by omega⟩
            · conv => lhs; unfold dataP
              rw [if_neg (by omega)]
              simp only []
              rw [if_pos hbig, show (n - 127).toNat = m by omega]
            · rw [hfr3 i (by omega) (O2.off hi), F12.2 i hi hib]
          · simp (failIfUnchanged := false) (maxSteps := 1000000) (maxDischargeDepth := 5) only [go_sem, cap_eq, Nat.reduceLT, Nat.reduceLeDiff, and_self, and_true, true_and, ↓reduceIte, decide_true, decide_false, Nat.le_refl, Nat.reduceEqDiff, reduceCtorEq, Nat.zero_add, Nat.reduceAdd, Nat.reducePow, Int.reduceEq, Int.reduceLT, Int.reduceLE, Int.reduceGT, Int.reduceGE, not_true_eq_false, Nat.reduceDiv, Nat.reduceMod, Nat.lt_add_one, Nat.lt_irrefl, Nat.add_lt_add_iff_left, Nat.lt_add_right_iff_pos, List.getElem?_cons_zero, List.getElem?_cons_succ, Option.bind_some, Nat.succ_ne_zero, ne_eq, not_false_eq_true, if_false, if_true, Option.getD_some, Bool.not_true, Bool.not_false, r0, r5]
            refine spec43 br lb n rr h2 R2' (by omega) (by omega) _ (fun h3 a3 cp3 hq0 hq R3 H3 hcp3 F3 hn3 => ?_) (fun hq => ?_)
            · have F123 := F12.trans F3
              have hn3' := F3.1
              have hnn : n.toNat = n := by omega
              obtain ⟨m, rfl⟩ : ∃ m : Nat, n = (m : Int) := ⟨n.toNat, by omega⟩
              rw [Int.toNat_natCast] at *
              have O3 : Own h3 vB 5 h.next a o := O2.keep hn3' fun x hx => F3.2 x (by
                obtain ⟨_, ⟨e, _⟩ | ⟨_, _, _, _, e1, _, e4, _⟩⟩ := O2
                · rw [e] at hx; cases hx
                · rw [e1] at hx; cases hx; exact e4) (fun e => O.off hbr x hx e.symm)
              have hc3 : h3.next < 1099511627776 := by omega
              have hmr : m ≤ rr.length := by omega
              have htl : (rr.take m).length = m := by rw [List.length_take]; omega
              have H3' : Holds h3 vB a3 m (rr.take m) := H3.keep (h' := h3) (by show lb ≤ h3.next; omega) fun _ _ _ _ => rfl
              simp (failIfUnchanged := false) (maxSteps := 1000000) (maxDischargeDepth := 5) only [go_sem, cap_eq, Nat.reduceLT, Nat.reduceLeDiff, and_self, and_true, true_and, ↓reduceIte, decide_true, decide_false, Nat.le_refl, Nat.reduceEqDiff, reduceCtorEq, Nat.zero_add, Nat.reduceAdd, Nat.reducePow, Int.reduceEq, Int.reduceLT, Int.reduceLE, Int.reduceGT, Int.reduceGE, not_true_eq_false, Nat.reduceDiv, Nat.reduceMod, Nat.lt_add_one, Nat.lt_irrefl, Nat.add_lt_add_iff_left, Nat.lt_add_right_iff_pos, List.getElem?_cons_zero, List.getElem?_cons_succ, Option.bind_some, Nat.succ_ne_zero, ne_eq, not_false_eq_true, if_false, if_true, Option.getD_some, Bool.not_true, Bool.not_false]
              refine app_many T36 (f := vB) (x := .slice a3 m cp3) (xs := rr.take m) rfl (by have := H3'.first (Nat.le_refl m) m cp3; rwa [List.take_of_length_le (by omega)] at this) htl (fun _ => rfl) rfl (by omega) (by omega) hc3 O3 (by omega) fun h4 a4 O4 hn4 hn4' hfr4 => ?_
              simp (failIfUnchanged := false) (maxSteps := 1000000) (maxDischargeDepth := 5) only [go_sem, cap_eq, Nat.reduceLT, Nat.reduceLeDiff, and_self, and_true, true_and, ↓reduceIte, decide_true, decide_false, Nat.le_refl, Nat.reduceEqDiff, reduceCtorEq, Nat.zero_add, Nat.reduceAdd, Nat.reducePow, Int.reduceEq, Int.reduceLT, Int.reduceLE, Int.reduceGT, Int.reduceGE, not_true_eq_false, Nat.reduceDiv, Nat.reduceMod, Nat.lt_add_one, Nat.lt_irrefl, Nat.add_lt_add_iff_left, Nat.lt_add_right_iff_pos, List.getElem?_cons_zero, List.getElem?_cons_succ, Option.bind_some, Nat.succ_ne_zero, ne_eq, not_false_eq_true, if_false, if_true, Option.getD_some, Bool.not_true, Bool.not_false]
              have e4 : o.length + m = (o ++ rr.take m).length := by rw [List.length_append, htl]
              rw [e4]
              refine ⟨_, h4, a4, o ++ rr.take m, rr.drop m, rfl, by simp (failIfUnchanged := false) (maxSteps := 1000000) (maxDischargeDepth := 5) only [go_sem, cap_eq, Nat.reduceLT, Nat.reduceLeDiff, and_self, and_true, true_and, ↓reduceIte, decide_true, decide_false, Nat.le_refl, Nat.reduceEqDiff, reduceCtorEq, Nat.zero_add, Nat.reduceAdd, Nat.reducePow, Int.reduceEq, Int.reduceLT, Int.reduceLE, Int.reduceGT, Int.reduceGE, not_true_eq_false, Nat.reduceDiv, Nat.reduceMod, Nat.lt_add_one, Nat.lt_irrefl, Nat.add_lt_add_iff_left, Nat.lt_add_right_iff_pos, List.getElem?_cons_zero, List.getElem?_cons_succ, Option.bind_some, Nat.succ_ne_zero, ne_eq, not_false_eq_true, if_false, if_true, Option.getD_some, Bool.not_true, Bool.not_false, r0], by simp (failIfUnchanged := false) (maxSteps := 1000000) (maxDischargeDepth := 5) only [go_sem, cap_eq, Nat.reduceLT, Nat.reduceLeDiff, and_self, and_true, true_and, ↓reduceIte, decide_true, decide_false, Nat.le_refl, Nat.reduceEqDiff, reduceCtorEq, Nat.zero_add, Nat.reduceAdd, Nat.reducePow, Int.reduceEq, Int.reduceLT, Int.reduceLE, Int.reduceGT, Int.reduceGE, not_true_eq_false, Nat.reduceDiv, Nat.reduceMod, Nat.lt_add_one, Nat.lt_irrefl, Nat.add_lt_add_iff_left, Nat.lt_add_right_iff_pos, List.getElem?_cons_zero, List.getElem?_cons_succ, Option.bind_some, Nat.succ_ne_zero, ne_eq, not_false_eq_true, if_false, if_true, Option.getD_some, Bool.not_true, Bool.not_false, r1], by simp (failIfUnchanged := false) (maxSteps := 1000000) (maxDischargeDepth := 5) only [go_sem, cap_eq, Nat.reduceLT, Nat.reduceLeDiff, and_self, and_true, true_and, ↓reduceIte, decide_true, decide_false, Nat.le_refl, Nat.reduceEqDiff, reduceCtorEq, Nat.zero_add, Nat.reduceAdd, Nat.reducePow, Int.reduceEq, Int.reduceLT, Int.reduceLE, Int.reduceGT, Int.reduceGE, not_true_eq_false, Nat.reduceDiv, Nat.reduceMod, Nat.lt_add_one, Nat.lt_irrefl, Nat.add_lt_add_iff_left, Nat.lt_add_right_iff_pos, List.getElem?_cons_zero, List.getElem?_cons_succ, Option.bind_some, Nat.succ_ne_zero, ne_eq, not_false_eq_true, if_false, if_true, Option.getD_some, Bool.not_true, Bool.not_false], O4, R3.keep (by omega) fun i hi hor => hfr4 i hi (fun x hx => O3.off (b := i) (by have := R.low; omega) x hx), ?_, by rw [List.length_drop]; omega, fun z hz => hby2 z (List.mem_of_mem_drop hz), ⟨by omega, fun i hi hib => ?_⟩, by omega, by rw [← e4]; omega, by rw [List.length_drop]; omega⟩
              · conv => lhs; unfold dataP
                rw [if_neg (by omega)]
                simp only []
                rw [if_neg hbig, if_neg (by omega), Int.toNat_natCast]
              · rw [hfr4 i (by omega) (O3.off hi), F123.2 i hi hib]
            · simp (failIfUnchanged := false) (maxSteps := 1000000) (maxDischargeDepth := 5) only [go_sem, cap_eq, Nat.reduceLT, Nat.reduceLeDiff, and_self, and_true, true_and, ↓reduceIte, decide_true, decide_false, Nat.le_refl, Nat.reduceEqDiff, reduceCtorEq, Nat.zero_add, Nat.reduceAdd, Nat.reducePow, Int.reduceEq, Int.reduceLT, Int.reduceLE, Int.reduceGT, Int.reduceGE, not_true_eq_false, Nat.reduceDiv, Nat.reduceMod, Nat.lt_add_one, Nat.lt_irrefl, Nat.add_lt_add_iff_left, Nat.lt_add_right_iff_pos, List.getElem?_cons_zero, List.getElem?_cons_succ, Option.bind_some, Nat.succ_ne_zero, ne_eq, not_false_eq_true, if_false, if_true, Option.getD_some, Bool.not_true, Bool.not_false]
              refine hp h2 ?_ F12 (by omega)
              rw [← hD]; unfold dataP; rw [if_neg (by omega)]
              simp only []
              rw [if_neg hbig, if_pos (by omega)]
        · rintro _ ⟨rg', h', a', o', rd', rfl, r0, r1, r5, O, R1, hD', hlt, hby1, F1, hnx, hol, hrdb⟩
          rw [hD'] at hD
          obtain ⟨⟨ar, cpr, ⟨hbr', c, e, oo, w, g1, g2⟩, hcpr, HR⟩, low⟩ := R1
          have R1 : Rd h' br lb rd' := ⟨⟨ar, cpr, ⟨hbr', c, e, oo, w, g1, g2⟩, hcpr, HR⟩, low⟩
          simp (failIfUnchanged := false) (maxSteps := 1000000) (maxDischargeDepth := 5) only [go_sem, cap_eq, Nat.reduceLT, Nat.reduceLeDiff, and_self, and_true, true_and, ↓reduceIte, decide_true, decide_false, Nat.le_refl, Nat.reduceEqDiff, reduceCtorEq, Nat.zero_add, Nat.reduceAdd, Nat.reducePow, Int.reduceEq, Int.reduceLT, Int.reduceLE, Int.reduceGT, Int.reduceGE, not_true_eq_false, Nat.reduceDiv, Nat.reduceMod, Nat.lt_add_one, Nat.lt_irrefl, Nat.add_lt_add_iff_left, Nat.lt_add_right_iff_pos, List.getElem?_cons_zero, List.getElem?_cons_succ, Option.bind_some, Nat.succ_ne_zero, ne_eq, not_false_eq_true, if_false, if_true, Option.getD_some, Bool.not_true, Bool.not_false, r0, r1, r5, g1, g2]
          refine ifG_two (fun hg => ?_) (fun hg => ?_)
          · have hr0 : rd' = [] := List.eq_nil_of_length_eq_zero (by have := of_decide_eq_true hg; omega)
            simp (failIfUnchanged := false) (maxSteps := 1000000) (maxDischargeDepth := 5) only [go_sem, cap_eq, Nat.reduceLT, Nat.reduceLeDiff, and_self, and_true, true_and, ↓reduceIte, decide_true, decide_false, Nat.le_refl, Nat.reduceEqDiff, reduceCtorEq, Nat.zero_add, Nat.reduceAdd, Nat.reducePow, Int.reduceEq, Int.reduceLT, Int.reduceLE, Int.reduceGT, Int.reduceGE, not_true_eq_false, Nat.reduceDiv, Nat.reduceMod, Nat.lt_add_one, Nat.lt_irrefl, Nat.add_lt_add_iff_left, Nat.lt_add_right_iff_pos, List.getElem?_cons_zero, List.getElem?_cons_succ, Option.bind_some, Nat.succ_ne_zero, ne_eq, not_false_eq_true, if_false, if_true, Option.getD_some, Bool.not_true, Bool.not_false, r1, r5, hg]
            refine wCond_dec (fun hlen2 => ?_) (fun hlen2 => ?_)
            · simp (failIfUnchanged := false) (maxSteps := 1000000) (maxDischargeDepth := 5) only [go_sem, cap_eq, Nat.reduceLT, Nat.reduceLeDiff, and_self, and_true, true_and, ↓reduceIte, decide_true, decide_false, Nat.le_refl, Nat.reduceEqDiff, reduceCtorEq, Nat.zero_add, Nat.reduceAdd, Nat.reducePow, Int.reduceEq, Int.reduceLT, Int.reduceLE, Int.reduceGT, Int.reduceGE, not_true_eq_false, Nat.reduceDiv, Nat.reduceMod, Nat.lt_add_one, Nat.lt_irrefl, Nat.add_lt_add_iff_left, Nat.lt_add_right_iff_pos, List.getElem?_cons_zero, List.getElem?_cons_succ, Option.bind_some, Nat.succ_ne_zero, ne_eq, not_false_eq_true, if_false, if_true, Option.getD_some, Bool.not_true, Bool.not_false]
              refine hp h' ?_ F1 (by omega)
              rw [← hD, if_pos ⟨hr0, by omega⟩]
            · simp (failIfUnchanged := false) (maxSteps := 1000000) (maxDischargeDepth := 5) only [go_sem, cap_eq, Nat.reduceLT, Nat.reduceLeDiff, and_self, and_true, true_and, ↓reduceIte, decide_true, decide_false, Nat.le_refl, Nat.reduceEqDiff, reduceCtorEq, Nat.zero_add, Nat.reduceAdd, Nat.reducePow, Int.reduceEq, Int.reduceLT, Int.reduceLE, Int.reduceGT, Int.reduceGE, not_true_eq_false, Nat.reduceDiv, Nat.reduceMod, Nat.lt_add_one, Nat.lt_irrefl, Nat.add_lt_add_iff_left, Nat.lt_add_right_iff_pos, List.getElem?_cons_zero, List.getElem?_cons_succ, Option.bind_some, Nat.succ_ne_zero, ne_eq, not_false_eq_true, if_false, if_true, Option.getD_some, Bool.not_true, Bool.not_false]
              rw [if_neg (fun e => by have := e.2; omega)] at hD
              exact ⟨k, by omega, _, h', a', o', rd', rfl, by simp (failIfUnchanged := false) (maxSteps := 1000000) (maxDischargeDepth := 5) only [go_sem, cap_eq, Nat.reduceLT, Nat.reduceLeDiff, and_self, and_true, true_and, ↓reduceIte, decide_true, decide_false, Nat.le_refl, Nat.reduceEqDiff, reduceCtorEq, Nat.zero_add, Nat.reduceAdd, Nat.reducePow, Int.reduceEq, Int.reduceLT, Int.reduceLE, Int.reduceGT, Int.reduceGE, not_true_eq_false, Nat.reduceDiv, Nat.reduceMod, Nat.lt_add_one, Nat.lt_irrefl, Nat.add_lt_add_iff_left, Nat.lt_add_right_iff_pos, List.getElem?_cons_zero, List.getElem?_cons_succ, Option.bind_some, Nat.succ_ne_zero, ne_eq, not_false_eq_true, if_false, if_true, Option.getD_some, Bool.not_true, Bool.not_false, r0], by simp (failIfUnchanged := false) (maxSteps := 1000000) (maxDischargeDepth := 5) only [go_sem, cap_eq, Nat.reduceLT, Nat.reduceLeDiff, and_self, and_true, true_and, ↓reduceIte, decide_true, decide_false, Nat.le_refl, Nat.reduceEqDiff, reduceCtorEq, Nat.zero_add, Nat.reduceAdd, Nat.reducePow, Int.reduceEq, Int.reduceLT, Int.reduceLE, Int.reduceGT, Int.reduceGE, not_true_eq_false, Nat.reduceDiv, Nat.reduceMod, Nat.lt_add_one, Nat.lt_irrefl, Nat.add_lt_add_iff_left, Nat.lt_add_right_iff_pos, List.getElem?_cons_zero, List.getElem?_cons_succ, Option.bind_some, Nat.succ_ne_zero, ne_eq, not_false_eq_true, if_false, if_true, Option.getD_some, Bool.not_true, Bool.not_false, r1], by simp (failIfUnchanged := false) (maxSteps := 1000000) (maxDischargeDepth := 5) only [go_sem, cap_eq, Nat.reduceLT, Nat.reduceLeDiff, and_self, and_true, true_and, ↓reduceIte, decide_true, decide_false, Nat.le_refl, Nat.reduceEqDiff, reduceCtorEq, Nat.zero_add, Nat.reduceAdd, Nat.reducePow, Int.reduceEq, Int.reduceLT, Int.reduceLE, Int.reduceGT, Int.reduceGE, not_true_eq_false, Nat.reduceDiv, Nat.reduceMod, Nat.lt_add_one, Nat.lt_irrefl, Nat.add_lt_add_iff_left, Nat.lt_add_right_iff_pos, List.getElem?_cons_zero, List.getElem?_cons_succ, Option.bind_some, Nat.succ_ne_zero, ne_eq, not_false_eq_true, if_false, if_true, Option.getD_some, Bool.not_true, Bool.not_false, r5], O, R1, hD, hlt, hby1, F1, hnx, hol, hrdb⟩
          · have hr0 : rd' ≠ [] := by
              have := of_decide_eq_false hg
              intro e; rw [e] at this; exact this rfl
            simp (failIfUnchanged := false) (maxSteps := 1000000) (maxDischargeDepth := 5) only [go_sem, cap_eq, Nat.reduceLT, Nat.reduceLeDiff, and_self, and_true, true_and, ↓reduceIte, decide_true, decide_false, Nat.le_refl, Nat.reduceEqDiff, reduceCtorEq, Nat.zero_add, Nat.reduceAdd, Nat.reducePow, Int.reduceEq, Int.reduceLT, Int.reduceLE, Int.reduceGT, Int.reduceGE, not_true_eq_false, Nat.reduceDiv, Nat.reduceMod, Nat.lt_add_one, Nat.lt_irrefl, Nat.add_lt_add_iff_left, Nat.lt_add_right_iff_pos, List.getElem?_cons_zero, List.getElem?_cons_succ, Option.bind_some, Nat.succ_ne_zero, ne_eq, not_false_eq_true, if_false, if_true, Option.getD_some, Bool.not_true, Bool.not_false, r1, r5, hg]
            rw [if_neg (fun e => hr0 e.1)] at hD
            exact ⟨k, by omega, _, h', a', o', rd', rfl, by simp (failIfUnchanged := false) (maxSteps := 1000000) (maxDischargeDepth := 5) only [go_sem, cap_eq, Nat.reduceLT, Nat.reduceLeDiff, and_self, and_true, true_and, ↓reduceIte, decide_true, decide_false, Nat.le_refl, Nat.reduceEqDiff, reduceCtorEq, Nat.zero_add, Nat.reduceAdd, Nat.reducePow, Int.reduceEq, Int.reduceLT, Int.reduceLE, Int.reduceGT, Int.reduceGE, not_true_eq_false, Nat.reduceDiv, Nat.reduceMod, Nat.lt_add_one, Nat.lt_irrefl, Nat.add_lt_add_iff_left, Nat.lt_add_right_iff_pos, List.getElem?_cons_zero, List.getElem?_cons_succ, Option.bind_some, Nat.succ_ne_zero, ne_eq, not_false_eq_true, if_false, if_true, Option.getD_some, Bool.not_true, Bool.not_false, r0], by simp (failIfUnchanged := false) (maxSteps := 1000000) (maxDischargeDepth := 5) only [go_sem, cap_eq, Nat.reduceLT, Nat.reduceLeDiff, and_self, and_true, true_and, ↓reduceIte, decide_true, decide_false, Nat.le_refl, Nat.reduceEqDiff, reduceCtorEq, Nat.zero_add, Nat.reduceAdd, Nat.reducePow, Int.reduceEq, Int.reduceLT, Int.reduceLE, Int.reduceGT, Int.reduceGE, not_true_eq_false, Nat.reduceDiv, Nat.reduceMod, Nat.lt_add_one, Nat.lt_irrefl, Nat.add_lt_add_iff_left, Nat.lt_add_right_iff_pos, List.getElem?_cons_zero, List.getElem?_cons_succ, Option.bind_some, Nat.succ_ne_zero, ne_eq, not_false_eq_true, if_false, if_true, Option.getD_some, Bool.not_true, Bool.not_false, r1], by simp (failIfUnchanged := false) (maxSteps := 1000000) (maxDischargeDepth := 5) only [go_sem, cap_eq, Nat.reduceLT, Nat.reduceLeDiff, and_self, and_true, true_and, ↓reduceIte, decide_true, decide_false, Nat.le_refl, Nat.reduceEqDiff, reduceCtorEq, Nat.zero_add, Nat.reduceAdd, Nat.reducePow, Int.reduceEq, Int.reduceLT, Int.reduceLE, Int.reduceGT, Int.reduceGE, not_true_eq_false, Nat.reduceDiv, Nat.reduceMod, Nat.lt_add_one, Nat.lt_irrefl, Nat.add_lt_add_iff_left, Nat.lt_add_right_iff_pos, List.getElem?_cons_zero, List.getElem?_cons_succ, Option.bind_some, Nat.succ_ne_zero, ne_eq, not_false_eq_true, if_false, if_true, Option.getD_some, Bool.not_true, Bool.not_false, r5], O, R1, hD, hlt, hby1, F1, hnx, hol, hrdb⟩
      · simp (failIfUnchanged := false) (maxSteps := 1000000) (maxDischargeDepth := 5) only [go_sem, cap_eq, Nat.reduceLT, Nat.reduceLeDiff, and_self, and_true, true_and, ↓reduceIte, decide_true, decide_false, Nat.le_refl, Nat.reduceEqDiff, reduceCtorEq, Nat.zero_add, Nat.reduceAdd, Nat.reducePow, Int.reduceEq, Int.reduceLT, Int.reduceLE, Int.reduceGT, Int.reduceGE, not_true_eq_false, Nat.reduceDiv, Nat.reduceMod, Nat.lt_add_one, Nat.lt_irrefl, Nat.add_lt_add_iff_left, Nat.lt_add_right_iff_pos, List.getElem?_cons_zero, List.getElem?_cons_succ, Option.bind_some, Nat.succ_ne_zero, ne_eq, not_false_eq_true, if_false, if_true, Option.getD_some, Bool.not_true, Bool.not_false]
        have : rd = [] := List.eq_nil_of_length_eq_zero (by omega)
        subst this
        refine hp hh ?_ F1 (by omega)
        rw [← hD]; unfold dataP; rw [if_neg (by omega)]
    · simp (failIfUnchanged := false) (maxSteps := 1000000) (maxDischargeDepth := 5) only [go_sem, cap_eq, Nat.reduceLT, Nat.reduceLeDiff, and_self, and_true, true_and, ↓reduceIte, decide_true, decide_false, Nat.le_refl, Nat.reduceEqDiff, reduceCtorEq, Nat.zero_add, Nat.reduceAdd, Nat.reducePow, Int.reduceEq, Int.reduceLT, Int.reduceLE, Int.reduceGT, Int.reduceGE, not_true_eq_false, Nat.reduceDiv, Nat.reduceMod, Nat.lt_add_one, Nat.lt_irrefl, Nat.add_lt_add_iff_left, Nat.lt_add_right_iff_pos, List.getElem?_cons_zero, List.getElem?_cons_succ, Option.bind_some, Nat.succ_ne_zero, ne_eq, not_false_eq_true, if_false, if_true, Option.getD_some, Bool.not_true, Bool.not_false, r5]
      refine hk hh a o rd ?_ O R1 F1 (by omega) hol
      rw [← hD]; unfold dataP; rw [if_pos (by omega)]
  · exact ⟨_, h, none, [], b, rfl, by simp (failIfUnchanged := false) (maxSteps := 1000000) (maxDischargeDepth := 5) only [go_sem, cap_eq, Nat.reduceLT, Nat.reduceLeDiff, and_self, and_true, true_and, ↓reduceIte, decide_true, decide_false, Nat.le_refl, Nat.reduceEqDiff, reduceCtorEq, Nat.zero_add, Nat.reduceAdd, Nat.reducePow, Int.reduceEq, Int.reduceLT, Int.reduceLE, Int.reduceGT, Int.reduceGE, not_true_eq_false, Nat.reduceDiv, Nat.reduceMod, Nat.lt_add_one, Nat.lt_irrefl, Nat.add_lt_add_iff_left, Nat.lt_add_right_iff_pos, List.getElem?_cons_zero, List.getElem?_cons_succ, Option.bind_some, Nat.succ_ne_zero, ne_eq, not_false_eq_true, if_false, if_true, Option.getD_some, Bool.not_true, Bool.not_false], by simp (failIfUnchanged := false) (maxSteps := 1000000) (maxDischargeDepth := 5) only [go_sem, cap_eq, Nat.reduceLT, Nat.reduceLeDiff, and_self, and_true, true_and, ↓reduceIte, decide_true, decide_false, Nat.le_refl, Nat.reduceEqDiff, reduceCtorEq, Nat.zero_add, Nat.reduceAdd, Nat.reducePow, Int.reduceEq, Int.reduceLT, Int.reduceLE, Int.reduceGT, Int.reduceGE, not_true_eq_false, Nat.reduceDiv, Nat.reduceMod, Nat.lt_add_one, Nat.lt_irrefl, Nat.add_lt_add_iff_left, Nat.lt_add_right_iff_pos, List.getElem?_cons_zero, List.getElem?_cons_succ, Option.bind_some, Nat.succ_ne_zero, ne_eq, not_false_eq_true, if_false, if_true, Option.getD_some, Bool.not_true, Bool.not_false], by simp (failIfUnchanged := false) (maxSteps := 1000000) (maxDischargeDepth := 5) only [go_sem, cap_eq, Nat.reduceLT, Nat.reduceLeDiff, and_self, and_true, true_and, ↓reduceIte, decide_true, decide_false, Nat.le_refl, Nat.reduceEqDiff, reduceCtorEq, Nat.zero_add, Nat.reduceAdd, Nat.reducePow, Int.reduceEq, Int.reduceLT, Int.reduceLE, Int.reduceGT, Int.reduceGE, not_true_eq_false, Nat.reduceDiv, Nat.reduceMod, Nat.lt_add_one, Nat.lt_irrefl, Nat.add_lt_add_iff_left, Nat.lt_add_right_iff_pos, List.getElem?_cons_zero, List.getElem?_cons_succ, Option.bind_some, Nat.succ_ne_zero, ne_eq, not_false_eq_true, if_false, if_true, Option.getD_some, Bool.not_true, Bool.not_false] <;> rfl, OwnC.nil _ _ _ _, R, rfl, by omega, hby, Fr.refl _ _, by omega, by simp, by omega⟩
end S1
end
section
/- Layer 32 (pack): the reader, walked: what is done at the end, whether or not the bytes were bad. -/
open Go Go.Ev Go.Proofs Go.Proofs.Ythhohhbkeaghnaa PK
namespace Go.Ev
theorem Tr.get_del_ne {α : Type} : ∀ (f : Nat) (t : Tr α) (n m : Nat), n + 1 < 2 ^ f → m ≠ n → (Tr.del f t n).get m = t.get m
  | 0, t, n, m, h, _ => by simp at h
  | f + 1, .nil, n, m, h, _ => rfl
  | f + 1, .node u l r, n, m, h, hne => by
    have hp : 2 ^ (f + 1) = 2 * 2 ^ f := by rw [Nat.pow_succ]; omega
    rw [Tr.del]
    by_cases hn : n = 0
    · subst hn
      have hm0 : m.beq 0 = false := beqF hne
      simp only [Nat.beq_refl, cond_true, Tr.get, hm0, cond_false]
    · have hn0 : n.beq 0 = false := beqF hn
      simp only [hn0, cond_false]
      by_cases hm : m = 0
      · subst hm
        cases (Nat.mod n 2).beq 1 <;> rfl
      · have hm0 : m.beq 0 = false := beqF hm
        by_cases hodd : n % 2 = 1
        · have h1 : (Nat.mod n 2).beq 1 = true := beqT hodd
          simp only [h1, cond_true, Tr.get, hm0, cond_false]
          by_cases hmo : m % 2 = 1
          · have h2 : (Nat.mod m 2).beq 1 = true := beqT hmo
            simp only [h2, cond_true]
            exact Tr.get_del_ne f l (Nat.div n 2) (Nat.div m 2) (by show n / 2 + 1 < _; omega) (by show ¬ m / 2 = n / 2; omega)
          · have h2 : (Nat.mod m 2).beq 1 = false := beqF hmo
            simp only [h2, cond_false]
        · have h1 : (Nat.mod n 2).beq 1 = false := beqF hodd
          simp only [h1, cond_false, Tr.get, hm0]
          by_cases hmo : m % 2 = 1
          · have h2 : (Nat.mod m 2).beq 1 = true := beqT hmo
            simp only [h2, cond_true]
          · have h2 : (Nat.mod m 2).beq 1 = false := beqF hmo
            simp only [h2, cond_false]
            exact Tr.get_del_ne f r (Nat.sub (Nat.div n 2) 1) (Nat.sub (Nat.div m 2) 1) (by show n / 2 - 1 + 1 < _; omega) (by show ¬ m / 2 - 1 = n / 2 - 1; omega)
def dropOk (t : Nat) (l : List Oper) : Bool := l.all fun o => isStrict o || (match o.dst with
  | none => true
  | some d => !(d.beq t) && Nat.blt d cap)
theorem dropD_get {t : Nat} {r : Tr Value} : ∀ {l : List Oper}, dropOk t l = true → (dropD l r).get t = r.get t
  | [], _ => rfl
  | o :: l, h => by
    unfold dropOk at h
    rw [List.all_cons, Bool.and_eq_true, Bool.or_eq_true] at h
    have ih := dropD_get (t := t) (r := r) (l := l) h.2
    rw [dropD]
    cases hs : isStrict o with
    | true => exact ih
    | false =>
      rw [cond_false]
      rw [hs] at h
      cases hd : o.dst with
      | none => exact ih
      | some d =>
        have h1 := h.1
        simp only [hd, Bool.false_eq_true, false_or, Bool.and_eq_true, Bool.not_eq_true'] at h1
        have hlt : d < 1099511627776 := of_blt h1.2
        show (Tr.del 41 (dropD l r) d).get t = _
        rw [Tr.get_del_ne 41 _ d t (Nat.lt_trans (Nat.succ_lt_succ hlt) (by decide)) (fun e => of_beqF h1.1 e.symm)]
        exact ih
end Go.Ev
namespace S1
set_option maxRecDepth 10000
@[go_sem] theorem bd38 : aBuild E0 38 [] = some (.agg ⟨[.slice none 0 0, .slice none 0 0, .int .i64 0, .int .i64 0]⟩) := by kernel_rfl
@[go_sem] theorem ne20 (t : TypeId) (v : Value) (cn : Bool) (h : AH) : aBin E0 .neq 20 cn (.iface t v) .nilIface h = some (.bool true) := by kernel_rfl
@[go_sem] theorem ne20n (h : AH) : aBin E0 .neq 20 true .nilIface .nilIface h = some (.bool false) := by kernel_rfl
theorem spec42n (x y : Value) (h : AH) : CL E0 ft0 (.fn 42) [x, y] none h = .ret (.tuple ⟨[]⟩) h false := by
  refine W_body (K := fun x => x = _) ft42 (by simp [Try.f42]) (by decide) ?_
  simp only [Try.f42]
  simp (failIfUnchanged := false) (maxSteps := 1000000) (maxDischargeDepth := 5) only [go_sem, cap_eq, Nat.reduceLT, Nat.reduceLeDiff, and_self, and_true, true_and, ↓reduceIte, decide_true, decide_false, Nat.le_refl, Nat.reduceEqDiff, reduceCtorEq, Nat.zero_add, Nat.reduceAdd, Nat.reducePow, Int.reduceEq, Int.reduceLT, Int.reduceLE, Int.reduceGT, Int.reduceGE, not_true_eq_false, Nat.reduceDiv, Nat.reduceMod, Nat.lt_add_one, Nat.lt_irrefl, Nat.add_lt_add_iff_left, Nat.lt_add_right_iff_pos, List.getElem?_cons_zero, List.getElem?_cons_succ, Option.bind_some, Nat.succ_ne_zero, ne_eq, not_false_eq_true, if_false, if_true, Option.getD_some, Bool.not_true, Bool.not_false, Bool.or_true]
theorem spec42p (b2 b3 : Nat) (v : Value) (h : AH) (c2 c3 : Tr Value) (e2 e3 : TypeId) (o2 o3 : Nat) (w2 w3 : Bool) (h2 : h.b.get b2 = some (.cells 4 c2 e2 o2 w2)) (h3 : h.b.get b3 = some (.cells 1 c3 e3 o3 w3)) (hne : b3 ≠ b2) (hb2 : b2 < 1099511627776) (hb3 : b3 < 1099511627776) :
    CL E0 ft0 (.fn 42) [.pointer (some ⟨b2, 0, none⟩), .pointer (some ⟨b3, 0, none⟩)] (some bad) h = .ret (.tuple ⟨[]⟩) ((h.upd b2 (.cells 4 (putCells c2 0 [.slice none 0 0, .slice none 0 0, .int .i64 0, .int .i64 0]) e2 o2 w2)).upd b3 (.cells 1 (putCells c3 0 [.bool false]) e3 o3 w3)) true := by
  refine W_body (K := fun x => x = _) ft42 (by simp [Try.f42]) (by decide) ?_
  simp only [Try.f42, bad]
  simp (failIfUnchanged := false) (maxSteps := 1000000) (maxDischargeDepth := 5) only [go_sem, cap_eq, Nat.reduceLT, Nat.reduceLeDiff, and_self, and_true, true_and, ↓reduceIte, decide_true, decide_false, Nat.le_refl, Nat.reduceEqDiff, reduceCtorEq, Nat.zero_add, Nat.reduceAdd, Nat.reducePow, Int.reduceEq, Int.reduceLT, Int.reduceLE, Int.reduceGT, Int.reduceGE, not_true_eq_false, Nat.reduceDiv, Nat.reduceMod, Nat.lt_add_one, Nat.lt_irrefl, Nat.add_lt_add_iff_left, Nat.lt_add_right_iff_pos, List.getElem?_cons_zero, List.getElem?_cons_succ, Option.bind_some, Nat.succ_ne_zero, ne_eq, not_false_eq_true, if_false, if_true, Option.getD_some, Bool.not_true, Bool.not_false, h2, h3, hne, hb2, hb3]
/-- The call that read puts off. -/
def later (b2 b3 : Nat) : Deferred := { target := .fn (.func 42) ⟨[.pointer (some ⟨b2, 0, none⟩), .pointer (some ⟨b3, 0, none⟩)]⟩, args := ⟨[]⟩ }
theorem body32_pan (r : Tr Value) (n b2 b3 : Nat) (h : AH) (c2 c3 : Tr Value) (e2 e3 : TypeId) (o2 o3 : Nat) (w2 w3 : Bool) (r2 : r.get 2 = some (.pointer (some ⟨b2, 0, none⟩))) (r3 : r.get 3 = some (.pointer (some ⟨b3, 0, none⟩))) (h2 : h.b.get b2 = some (.cells 4 c2 e2 o2 w2)) (h3 : h.b.get b3 = some (.cells 1 c3 e3 o3 w3)) (hne : b3 ≠ b2) (hb2 : b2 < 1099511627776) (hb3 : b3 < 1099511627776) {K : CRes → Prop}
    (hK : ∀ h', h'.next = h.next → (∀ i, i ≠ b2 → i ≠ b3 → h'.b.get i = h.b.get i) → K (.ret (.tuple ⟨[.agg ⟨[.slice none 0 0, .slice none 0 0, .int .i64 0, .int .i64 0]⟩, .bool false]⟩) h' false)) :
    kBody E0 ft0 [.cell 2 38, .cell 3 4] K (.pan bad ⟨r, n, [later b2 b3], h, false⟩) := by
  show K (leaveL E0 ft0 _ r false (some bad) [later b2 b3] h)
  rw [leaveL_cons]
  simp only [later]
  rw [show (⟨[]⟩ : Array Value).toList ++ [Value.pointer (some ⟨b2, 0, none⟩), .pointer (some ⟨b3, 0, none⟩)] = [Value.pointer (some ⟨b2, 0, none⟩), .pointer (some ⟨b3, 0, none⟩)] from rfl, spec42p b2 b3 bad h c2 c3 e2 e3 o2 o3 w2 w3 h2 h3 hne hb2 hb3]
  simp only [cond_true]
  rw [leaveL_nil]
  have hne' : b2 ≠ b3 := fun e => hne e.symm
  simp (failIfUnchanged := false) (maxSteps := 1000000) (maxDischargeDepth := 5) only [go_sem, cap_eq, Nat.reduceLT, Nat.reduceLeDiff, and_self, and_true, true_and, ↓reduceIte, decide_true, decide_false, Nat.le_refl, Nat.reduceEqDiff, reduceCtorEq, Nat.zero_add, Nat.reduceAdd, Nat.reducePow, Int.reduceEq, Int.reduceLT, Int.reduceLE, Int.reduceGT, Int.reduceGE, not_true_eq_false, Nat.reduceDiv, Nat.reduceMod, Nat.lt_add_one, Nat.lt_irrefl, Nat.add_lt_add_iff_left, Nat.lt_add_right_iff_pos, List.getElem?_cons_zero, List.getElem?_cons_succ, Option.bind_some, Nat.succ_ne_zero, ne_eq, not_false_eq_true, if_false, if_true, Option.getD_some, Bool.not_true, Bool.not_false, r2, r3, hb2, hb3, hne']
  refine hK _ (by simp (failIfUnchanged := false) (maxSteps := 1000000) (maxDischargeDepth := 5) only [go_sem, cap_eq, Nat.reduceLT, Nat.reduceLeDiff, and_self, and_true, true_and, ↓reduceIte, decide_true, decide_false, Nat.le_refl, Nat.reduceEqDiff, reduceCtorEq, Nat.zero_add, Nat.reduceAdd, Nat.reducePow, Int.reduceEq, Int.reduceLT, Int.reduceLE, Int.reduceGT, Int.reduceGE, not_true_eq_false, Nat.reduceDiv, Nat.reduceMod, Nat.lt_add_one, Nat.lt_irrefl, Nat.add_lt_add_iff_left, Nat.lt_add_right_iff_pos, List.getElem?_cons_zero, List.getElem?_cons_succ, Option.bind_some, Nat.succ_ne_zero, ne_eq, not_false_eq_true, if_false, if_true, Option.getD_some, Bool.not_true, Bool.not_false]) fun i hi2 hi3 => by rw [get_upd_ne hi3 hb3, get_upd_ne hi2 hb2]
theorem body32_ret (r : Tr Value) (n b2 b3 : Nat) (h : AH) (v : Value) (t : Bool) (r2 : r.get 2 = some (.pointer (some ⟨b2, 0, none⟩))) (r3 : r.get 3 = some (.pointer (some ⟨b3, 0, none⟩))) (h2 : aLoad E0 38 (.pointer (some ⟨b2, 0, none⟩)) h = some v) (h3 : aLoad E0 4 (.pointer (some ⟨b3, 0, none⟩)) h = some (.bool t)) {K : CRes → Prop}
    (hK : K (.ret (.tuple ⟨[v, .bool t]⟩) h false)) :
    kBody E0 ft0 [.cell 2 38, .cell 3 4] K (.ret ⟨r, n, [later b2 b3], h, false⟩) := by
  show K (leaveL E0 ft0 _ r false none [later b2 b3] h)
  rw [leaveL_cons]
  simp only [later]
  rw [show (⟨[]⟩ : Array Value).toList ++ [Value.pointer (some ⟨b2, 0, none⟩), .pointer (some ⟨b3, 0, none⟩)] = [Value.pointer (some ⟨b2, 0, none⟩), .pointer (some ⟨b3, 0, none⟩)] from rfl, spec42n]
  simp only [cond_false]
  rw [leaveL_nil]
  simp only [resultsV, r2, r3, h2, h3, oget, oneOf]
  exact hK
theorem st35 : ∃ i, tInfo E0 35 = some i ∧ i.und = .slice 60 ∧ tInfo E0 60 = some ⟨.int .u32, 1, 4, some (.int .u32 0), none⟩ := by
  have h : (oget (tInfo E0 35) fun i => some i.und) = some (.slice 60) := by kernel_rfl
  have h3 : tInfo E0 60 = some ⟨.int .u32, 1, 4, some (.int .u32 0), none⟩ := by kernel_rfl
  cases hx : tInfo E0 35 with
  | none => rw [hx] at h; cases h
  | some i => rw [hx] at h; exact ⟨i, rfl, by simpa [oget] using h, h3⟩
theorem T35 : SliceT E0 35 60 1 4 [.int .u32 0] := by
  obtain ⟨i, h1, h2, h3⟩ := st35
  exact ⟨⟨i, h1, h2⟩, ⟨_, h3, rfl, rfl, _, rfl, rfl⟩, by decide, rfl, rfl⟩
@[go_sem] theorem bs35_1 (x : Int) (h : AH) : aBuildSlice E0 35 1 [(0, .int .u32 x)] h = bif Nat.blt h.next cap && true then some (.slice (some ⟨h.next, 0, none⟩) 1 1, h.new (.cells 1 (putCells .nil 0 [.int .u32 x]) 60 0 true)) else none := by kernel_rfl
end S1
end
section
/- Layer 32 (pack): the reader, walked: the whole. -/
open Go Go.Ev Go.Proofs Go.Proofs.Ythhohhbkeaghnaa PK
namespace PK
/-- What read makes: an image in block b2, and whether all went well. -/
structure Im (h : AH) (b2 : Nat) (v0 v1 v2 v3 : Value) : Prop where
  a : ∃ c e o w, h.b.get b2 = some (.cells 4 c e o w) ∧ c.get 0 = some v0 ∧ c.get 1 = some v1 ∧ c.get 2 = some v2 ∧ c.get 3 = some v3
  b : ∃ c e o w, h.b.get (b2 + 1) = some (.cells 1 c e o w)
  lt : b2 + 1 < h.next
theorem Im.keep {h h' : AH} {b2 : Nat} {v0 v1 v2 v3 : Value} (I : Im h b2 v0 v1 v2 v3) (h1 : h.next ≤ h'.next) (h2 : h'.b.get b2 = h.b.get b2) (h3 : h'.b.get (b2 + 1) = h.b.get (b2 + 1)) : Im h' b2 v0 v1 v2 v3 := by
  obtain ⟨⟨c, e, o, w, g1, g2⟩, ⟨c', e', o', w', g3⟩, lt⟩ := I
  exact ⟨⟨c, e, o, w, h2.trans g1, g2⟩, ⟨c', e', o', w', h3.trans g3⟩, by omega⟩
theorem Im.fr {h h' : AH} {br b2 : Nat} {v0 v1 v2 v3 : Value} (I : Im h b2 v0 v1 v2 v3) (F : Fr br h h') (hbr : br < b2) : Im h' b2 v0 v1 v2 v3 :=
  I.keep F.1 (F.2 b2 (by have := I.lt; omega) (by omega)) (F.2 (b2 + 1) I.lt (by omega))
theorem Im.upd {h : AH} {b2 : Nat} {v0 v1 v2 v3 u0 u1 u2 u3 : Value} {c' : Tr Value} {e : TypeId} {o : Nat} {w : Bool} (I : Im h b2 v0 v1 v2 v3) (hb : b2 < 1099511627776) (h0 : c'.get 0 = some u0) (h1 : c'.get 1 = some u1) (h2 : c'.get 2 = some u2) (h3 : c'.get 3 = some u3) : Im (h.upd b2 (.cells 4 c' e o w)) b2 u0 u1 u2 u3 := by
  obtain ⟨⟨_, _, _, _, g1, g2⟩, ⟨c2, e2, o2, w2, g3⟩, lt⟩ := I
  exact ⟨⟨c', e, o, w, get_upd_self hb, h0, h1, h2, h3⟩, ⟨c2, e2, o2, w2, by rw [get_upd_ne (by omega) hb]; exact g3⟩, by rw [upd_next]; exact lt⟩
theorem Fr.upd {br b2 : Nat} {h h' : AH} {x : Blk} (F : Fr br h h') (hb : h.next ≤ b2) (hc : b2 < 1099511627776) : Fr br h (h'.upd b2 x) := ⟨by rw [upd_next]; exact F.1, fun i hi hib => by rw [get_upd_ne (by omega) hc, F.2 i hi hib]⟩
theorem Rd.upd {br lb b2 : Nat} {h : AH} {x : Blk} {b : List Int} (R : Rd h br lb b) (hb : br < b2) (hc : b2 < 1099511627776) : Rd (h.upd b2 x) br lb b := R.keep (by rw [upd_next]; omega) fun i _ hor => get_upd_ne (by have := R.low; omega) hc
theorem codeP_num {k : Nat} {b r : List Int} {n : Int} (h : numP b = some (n, r)) : codeP (k + 1) b = (codeP k r).map fun p => (n :: p.1, p.2) := by
  conv => lhs; unfold codeP
  rw [h]
  simp only []
  cases codeP k r with
  | none => rfl
  | some p => rfl
theorem byte_at {b : List Int} (hby : ∀ z ∈ b, 0 ≤ z ∧ z ≤ 255) (i : Nat) : 0 ≤ b.getD i 0 ∧ b.getD i 0 ≤ 255 := by
  rw [List.getD_eq_getElem?_getD]
  by_cases hi : i < b.length
  · rw [List.getElem?_eq_getElem hi]; exact hby _ (List.getElem_mem hi)
  · rw [List.getElem?_eq_none (by omega)]; exact ⟨Int.le_refl _, by show (0 : Int) ≤ 255; omega⟩
theorem le4_range {b : List Int} (hby : ∀ z ∈ b, 0 ≤ z ∧ z ≤ 255) : 0 ≤ le4 b ∧ le4 b < 4294967296 := by
  have h0 := byte_at hby 0
  have h1 := byte_at hby 1
  have h2 := byte_at hby 2
  have h3 := byte_at hby 3
  unfold le4
  omega
theorem mostP_some {m n : Int} {b r : List Int} (h : mostP m b = some (n, r)) : n ≤ m ∧ r = b.drop 4 ∧ n = le4 b ∧ 4 ≤ b.length := by
  unfold mostP numP at h
  by_cases hl : b.length < 4
  · rw [if_pos hl] at h; cases h
  · rw [if_neg hl] at h
    simp only [] at h
    by_cases hg : le4 b > m
    · rw [if_pos hg] at h; cases h
    · rw [if_neg hg] at h
      cases h
      exact ⟨by omega, rfl, rfl, by omega⟩
end PK
namespace S1
set_option maxRecDepth 10000
set_option maxHeartbeats 4000000 in
theorem spec32 (br lb : Nat) (b : List Int) (h : AH) (R : Rd h br lb b) (hby : ∀ z ∈ b, 0 ≤ z ∧ z ≤ 255) (hb : b.length ≤ 262144) (hlb : lb ≤ h.next) (hc : h.next + 10000000 < 1099511627776) (K : CRes → Prop)
    (hk : ∀ h' ac ad g r, readP b = some (g, r) → Own h' vW 60 h.next ac g.cw → Own h' vB 5 h.next ad g.dl → Fr br h h' → h'.next ≤ h.next + 9000000 → g.dl.length ≤ 66000 → g.cw.length ≤ 32768 →
      K (.ret (.tuple ⟨[.agg ⟨[.slice ac g.cw.length g.cw.length, .slice ad g.dl.length g.dl.length, .int .i64 g.limit, .int .i64 g.notes]⟩, .bool true]⟩) h' false))
    (hp : ∀ h', readP b = none → Fr br h h' → h'.next ≤ h.next + 9000000 → K (.ret (.tuple ⟨[.agg ⟨[.slice none 0 0, .slice none 0 0, .int .i64 0, .int .i64 0]⟩, .bool false]⟩) h' false)) :
    K (CL E0 ft0 (.fn 32) [.pointer (some ⟨br, 0, none⟩)] none h) := by
  have hbr : br < h.next := by obtain ⟨⟨_, _, B, _⟩, _⟩ := R; exact B.1
  have hc0 : h.next < 1099511627776 := by omega
  have hc1 : h.next + 1 < 1099511627776 := by omega
  -- what comes of bad bytes
  have bads : ∀ (r : Tr Value) (hh : AH) (v0 v1 v2 v3 : Value), readP b = none → r.get 2 = some (.pointer (some ⟨h.next, 0, none⟩)) → r.get 3 = some (.pointer (some ⟨h.next + 1, 0, none⟩)) → Im hh h.next v0 v1 v2 v3 → Fr br h hh → hh.next ≤ h.next + 9000000 →
      kBody E0 ft0 [.cell 2 38, .cell 3 4] K (.pan bad ⟨r, 37, [later h.next (h.next + 1)], hh, false⟩) := by
    intro r hh v0 v1 v2 v3 hr r2 r3 I F hn
    obtain ⟨⟨c, e, o, w, g1, g2⟩, ⟨c', e', o', w', g3⟩, lt⟩ := I
    refine body32_pan r 37 h.next (h.next + 1) hh c c' e e' o o' w w' r2 r3 g1 g3 (by omega) hc0 hc1 fun h' h1 h2 => ?_
    exact hp h' hr ⟨by have := F.1; omega, fun i hi hib => by rw [h2 i (by omega) (by omega), F.2 i hi hib]⟩ (by omega)
  refine W_body ft32 (by simp [Try.f32]) (by decide) ?_
  simp only [Try.f32]
  simp (failIfUnchanged := false) (maxSteps := 1000000) (maxDischargeDepth := 5) only [go_sem, cap_eq, Nat.reduceLT, Nat.reduceLeDiff, and_self, and_true, true_and, ↓reduceIte, decide_true, decide_false, Nat.le_refl, Nat.reduceEqDiff, reduceCtorEq, Nat.zero_add, Nat.reduceAdd, Nat.reducePow, Int.reduceEq, Int.reduceLT, Int.reduceLE, Int.reduceGT, Int.reduceGE, not_true_eq_false, Nat.reduceDiv, Nat.reduceMod, Nat.lt_add_one, Nat.lt_irrefl, Nat.add_lt_add_iff_left, Nat.lt_add_right_iff_pos, List.getElem?_cons_zero, List.getElem?_cons_succ, Option.bind_some, Nat.succ_ne_zero, ne_eq, not_false_eq_true, if_false, if_true, Option.getD_some, Bool.not_true, Bool.not_false, hc0, hc1]
  generalize hBe : AH.new (AH.new h (.cells 4 _ 38 0 true)) (.cells 1 _ 4 0 true) = hB
  have EB : Ext h hB := by rw [← hBe]; exact ((Ext.refl h).new _ hc0).new _ (by simp (failIfUnchanged := false) (maxSteps := 1000000) (maxDischargeDepth := 5) only [go_sem, cap_eq, Nat.reduceLT, Nat.reduceLeDiff, and_self, and_true, true_and, ↓reduceIte, decide_true, decide_false, Nat.le_refl, Nat.reduceEqDiff, reduceCtorEq, Nat.zero_add, Nat.reduceAdd, Nat.reducePow, Int.reduceEq, Int.reduceLT, Int.reduceLE, Int.reduceGT, Int.reduceGE, not_true_eq_false, Nat.reduceDiv, Nat.reduceMod, Nat.lt_add_one, Nat.lt_irrefl, Nat.add_lt_add_iff_left, Nat.lt_add_right_iff_pos, List.getElem?_cons_zero, List.getElem?_cons_succ, Option.bind_some, Nat.succ_ne_zero, ne_eq, not_false_eq_true, if_false, if_true, Option.getD_some, Bool.not_true, Bool.not_false]; omega)
  have hBn : hB.next = h.next + 2 := by rw [← hBe]; rfl
  have IB : Im hB h.next (.slice none 0 0) (.slice none 0 0) (.int .i64 0) (.int .i64 0) := by
    rw [← hBe]
    have q : h.next ≠ h.next + 1 := by omega
    refine ⟨⟨_, _, _, _, by simp (failIfUnchanged := false) (maxSteps := 1000000) (maxDischargeDepth := 5) only [go_sem, cap_eq, Nat.reduceLT, Nat.reduceLeDiff, and_self, and_true, true_and, ↓reduceIte, decide_true, decide_false, Nat.le_refl, Nat.reduceEqDiff, reduceCtorEq, Nat.zero_add, Nat.reduceAdd, Nat.reducePow, Int.reduceEq, Int.reduceLT, Int.reduceLE, Int.reduceGT, Int.reduceGE, not_true_eq_false, Nat.reduceDiv, Nat.reduceMod, Nat.lt_add_one, Nat.lt_irrefl, Nat.add_lt_add_iff_left, Nat.lt_add_right_iff_pos, List.getElem?_cons_zero, List.getElem?_cons_succ, Option.bind_some, Nat.succ_ne_zero, ne_eq, not_false_eq_true, if_false, if_true, Option.getD_some, Bool.not_true, Bool.not_false, hc0, hc1, q]; rfl, by simp (failIfUnchanged := false) (maxSteps := 1000000) (maxDischargeDepth := 5) only [go_sem, cap_eq, Nat.reduceLT, Nat.reduceLeDiff, and_self, and_true, true_and, ↓reduceIte, decide_true, decide_false, Nat.le_refl, Nat.reduceEqDiff, reduceCtorEq, Nat.zero_add, Nat.reduceAdd, Nat.reducePow, Int.reduceEq, Int.reduceLT, Int.reduceLE, Int.reduceGT, Int.reduceGE, not_true_eq_false, Nat.reduceDiv, Nat.reduceMod, Nat.lt_add_one, Nat.lt_irrefl, Nat.add_lt_add_iff_left, Nat.lt_add_right_iff_pos, List.getElem?_cons_zero, List.getElem?_cons_succ, Option.bind_some, Nat.succ_ne_zero, ne_eq, not_false_eq_true, if_false, if_true, Option.getD_some, Bool.not_true, Bool.not_false], by simp (failIfUnchanged := false) (maxSteps := 1000000) (maxDischargeDepth := 5) only [go_sem, cap_eq, Nat.reduceLT, Nat.reduceLeDiff, and_self, and_true, true_and, ↓reduceIte, decide_true, decide_false, Nat.le_refl, Nat.reduceEqDiff, reduceCtorEq, Nat.zero_add, Nat.reduceAdd, Nat.reducePow, Int.reduceEq, Int.reduceLT, Int.reduceLE, Int.reduceGT, Int.reduceGE, not_true_eq_false, Nat.reduceDiv, Nat.reduceMod, Nat.lt_add_one, Nat.lt_irrefl, Nat.add_lt_add_iff_left, Nat.lt_add_right_iff_pos, List.getElem?_cons_zero, List.getElem?_cons_succ, Option.bind_some, Nat.succ_ne_zero, ne_eq, not_false_eq_true, if_false, if_true, Option.getD_some, Bool.not_true, Bool.not_false], by simp (failIfUnchanged := false) (maxSteps := 1000000) (maxDischargeDepth := 5) only [go_sem, cap_eq, Nat.reduceLT, Nat.reduceLeDiff, and_self, and_true, true_and, ↓reduceIte, decide_true, decide_false, Nat.le_refl, Nat.reduceEqDiff, reduceCtorEq, Nat.zero_add, Nat.reduceAdd, Nat.reducePow, Int.reduceEq, Int.reduceLT, Int.reduceLE, Int.reduceGT, Int.reduceGE, not_true_eq_false, Nat.reduceDiv, Nat.reduceMod, Nat.lt_add_one, Nat.lt_irrefl, Nat.add_lt_add_iff_left, Nat.lt_add_right_iff_pos, List.getElem?_cons_zero, List.getElem?_cons_succ, Option.bind_some, Nat.succ_ne_zero, ne_eq, not_false_eq_true, if_false, if_true, Option.getD_some, Bool.not_true, Bool.not_false], by simp (failIfUnchanged := false) (maxSteps := 1000000) (maxDischargeDepth := 5) only [go_sem, cap_eq, Nat.reduceLT, Nat.reduceLeDiff, and_self, and_true, true_and, ↓reduceIte, decide_true, decide_false, Nat.le_refl, Nat.reduceEqDiff, reduceCtorEq, Nat.zero_add, Nat.reduceAdd, Nat.reducePow, Int.reduceEq, Int.reduceLT, Int.reduceLE, Int.reduceGT, Int.reduceGE, not_true_eq_false, Nat.reduceDiv, Nat.reduceMod, Nat.lt_add_one, Nat.lt_irrefl, Nat.add_lt_add_iff_left, Nat.lt_add_right_iff_pos, List.getElem?_cons_zero, List.getElem?_cons_succ, Option.bind_some, Nat.succ_ne_zero, ne_eq, not_false_eq_true, if_false, if_true, Option.getD_some, Bool.not_true, Bool.not_false]⟩, ⟨_, _, _, _, by simp (failIfUnchanged := false) (maxSteps := 1000000) (maxDischargeDepth := 5) only [go_sem, cap_eq, Nat.reduceLT, Nat.reduceLeDiff, and_self, and_true, true_and, ↓reduceIte, decide_true, decide_false, Nat.le_refl, Nat.reduceEqDiff, reduceCtorEq, Nat.zero_add, Nat.reduceAdd, Nat.reducePow, Int.reduceEq, Int.reduceLT, Int.reduceLE, Int.reduceGT, Int.reduceGE, not_true_eq_false, Nat.reduceDiv, Nat.reduceMod, Nat.lt_add_one, Nat.lt_irrefl, Nat.add_lt_add_iff_left, Nat.lt_add_right_iff_pos, List.getElem?_cons_zero, List.getElem?_cons_succ, Option.bind_some, Nat.succ_ne_zero, ne_eq, not_false_eq_true, if_false, if_true, Option.getD_some, Bool.not_true, Bool.not_false, hc0, hc1]; rfl⟩, by simp (failIfUnchanged := false) (maxSteps := 1000000) (maxDischargeDepth := 5) only [go_sem, cap_eq, Nat.reduceLT, Nat.reduceLeDiff, and_self, and_true, true_and, ↓reduceIte, decide_true, decide_false, Nat.le_refl, Nat.reduceEqDiff, reduceCtorEq, Nat.zero_add, Nat.reduceAdd, Nat.reducePow, Int.reduceEq, Int.reduceLT, Int.reduceLE, Int.reduceGT, Int.reduceGE, not_true_eq_false, Nat.reduceDiv, Nat.reduceMod, Nat.lt_add_one, Nat.lt_irrefl, Nat.add_lt_add_iff_left, Nat.lt_add_right_iff_pos, List.getElem?_cons_zero, List.getElem?_cons_succ, Option.bind_some, Nat.succ_ne_zero, ne_eq, not_false_eq_true, if_false, if_true, Option.getD_some, Bool.not_true, Bool.not_false]⟩
  have FB : Fr br h hB := Fr.ofExt EB
  clear hBe
  refine spec43 br lb 4 b hB (R.ext EB) (by omega) (by omega) _ (fun h1 a1 cp1 hq0 hq R1 H1 hcp1 F1 hn1 => ?_) (fun hq => ?_)
  rotate_left
  · simp (failIfUnchanged := false) (maxSteps := 1000000) (maxDischargeDepth := 5) only [go_sem, cap_eq, Nat.reduceLT, Nat.reduceLeDiff, and_self, and_true, true_and, ↓reduceIte, decide_true, decide_false, Nat.le_refl, Nat.reduceEqDiff, reduceCtorEq, Nat.zero_add, Nat.reduceAdd, Nat.reducePow, Int.reduceEq, Int.reduceLT, Int.reduceLE, Int.reduceGT, Int.reduceGE, not_true_eq_false, Nat.reduceDiv, Nat.reduceMod, Nat.lt_add_one, Nat.lt_irrefl, Nat.add_lt_add_iff_left, Nat.lt_add_right_iff_pos, List.getElem?_cons_zero, List.getElem?_cons_succ, Option.bind_some, Nat.succ_ne_zero, ne_eq, not_false_eq_true, if_false, if_true, Option.getD_some, Bool.not_true, Bool.not_false]
    exact bads _ hB _ _ _ _ (by unfold readP; rw [if_pos (by omega)]) (by simp (failIfUnchanged := false) (maxSteps := 1000000) (maxDischargeDepth := 5) only [go_sem, cap_eq, Nat.reduceLT, Nat.reduceLeDiff, and_self, and_true, true_and, ↓reduceIte, decide_true, decide_false, Nat.le_refl, Nat.reduceEqDiff, reduceCtorEq, Nat.zero_add, Nat.reduceAdd, Nat.reducePow, Int.reduceEq, Int.reduceLT, Int.reduceLE, Int.reduceGT, Int.reduceGE, not_true_eq_false, Nat.reduceDiv, Nat.reduceMod, Nat.lt_add_one, Nat.lt_irrefl, Nat.add_lt_add_iff_left, Nat.lt_add_right_iff_pos, List.getElem?_cons_zero, List.getElem?_cons_succ, Option.bind_some, Nat.succ_ne_zero, ne_eq, not_false_eq_true, if_false, if_true, Option.getD_some, Bool.not_true, Bool.not_false]) (by simp (failIfUnchanged := false) (maxSteps := 1000000) (maxDischargeDepth := 5) only [go_sem, cap_eq, Nat.reduceLT, Nat.reduceLeDiff, and_self, and_true, true_and, ↓reduceIte, decide_true, decide_false, Nat.le_refl, Nat.reduceEqDiff, reduceCtorEq, Nat.zero_add, Nat.reduceAdd, Nat.reducePow, Int.reduceEq, Int.reduceLT, Int.reduceLE, Int.reduceGT, Int.reduceGE, not_true_eq_false, Nat.reduceDiv, Nat.reduceMod, Nat.lt_add_one, Nat.lt_irrefl, Nat.add_lt_add_iff_left, Nat.lt_add_right_iff_pos, List.getElem?_cons_zero, List.getElem?_cons_succ, Option.bind_some, Nat.succ_ne_zero, ne_eq, not_false_eq_true, if_false, if_true, Option.getD_some, Bool.not_true, Bool.not_false]) IB FB (by omega)
  rw [show (4 : Int).toNat = 4 from rfl] at *
  have F1' := FB.trans F1
  have I1 := IB.fr F1 hbr
  have hby1 : ∀ z ∈ b.drop 4, 0 ≤ z ∧ z ≤ 255 := fun z hz => hby z (List.mem_of_mem_drop hz)
  have hl1 : (b.drop 4).length ≤ b.length := by rw [List.length_drop]; omega
  simp (failIfUnchanged := false) (maxSteps := 1000000) (maxDischargeDepth := 5) only [go_sem, cap_eq, Nat.reduceLT, Nat.reduceLeDiff, and_self, and_true, true_and, ↓reduceIte, decide_true, decide_false, Nat.le_refl, Nat.reduceEqDiff, reduceCtorEq, Nat.zero_add, Nat.reduceAdd, Nat.reducePow, Int.reduceEq, Int.reduceLT, Int.reduceLE, Int.reduceGT, Int.reduceGE, not_true_eq_false, Nat.reduceDiv, Nat.reduceMod, Nat.lt_add_one, Nat.lt_irrefl, Nat.add_lt_add_iff_left, Nat.lt_add_right_iff_pos, List.getElem?_cons_zero, List.getElem?_cons_succ, Option.bind_some, Nat.succ_ne_zero, ne_eq, not_false_eq_true, if_false, if_true, Option.getD_some, Bool.not_true, Bool.not_false]
  refine spec44 br lb 32768 (b.drop 4) h1 R1 hby1 (by omega) (by have := F1'.1; omega) (by omega) _ (fun h2 code r1 e2 R2 F2 hn2 => ?_) (fun h2 e2 F2 hn2 => ?_)
  rotate_left
  · simp (failIfUnchanged := false) (maxSteps := 1000000) (maxDischargeDepth := 5) only [go_sem, cap_eq, Nat.reduceLT, Nat.reduceLeDiff, and_self, and_true, true_and, ↓reduceIte, decide_true, decide_false, Nat.le_refl, Nat.reduceEqDiff, reduceCtorEq, Nat.zero_add, Nat.reduceAdd, Nat.reducePow, Int.reduceEq, Int.reduceLT, Int.reduceLE, Int.reduceGT, Int.reduceGE, not_true_eq_false, Nat.reduceDiv, Nat.reduceMod, Nat.lt_add_one, Nat.lt_irrefl, Nat.add_lt_add_iff_left, Nat.lt_add_right_iff_pos, List.getElem?_cons_zero, List.getElem?_cons_succ, Option.bind_some, Nat.succ_ne_zero, ne_eq, not_false_eq_true, if_false, if_true, Option.getD_some, Bool.not_true, Bool.not_false]
    exact bads _ h2 _ _ _ _ (by unfold readP; rw [if_neg (by omega), e2]) (by simp (failIfUnchanged := false) (maxSteps := 1000000) (maxDischargeDepth := 5) only [go_sem, cap_eq, Nat.reduceLT, Nat.reduceLeDiff, and_self, and_true, true_and, ↓reduceIte, decide_true, decide_false, Nat.le_refl, Nat.reduceEqDiff, reduceCtorEq, Nat.zero_add, Nat.reduceAdd, Nat.reducePow, Int.reduceEq, Int.reduceLT, Int.reduceLE, Int.reduceGT, Int.reduceGE, not_true_eq_false, Nat.reduceDiv, Nat.reduceMod, Nat.lt_add_one, Nat.lt_irrefl, Nat.add_lt_add_iff_left, Nat.lt_add_right_iff_pos, List.getElem?_cons_zero, List.getElem?_cons_succ, Option.bind_some, Nat.succ_ne_zero, ne_eq, not_false_eq_true, if_false, if_true, Option.getD_some, Bool.not_true, Bool.not_false]) (by simp (failIfUnchanged := false) (maxSteps := 1000000) (maxDischargeDepth := 5) only [go_sem, cap_eq, Nat.reduceLT, Nat.reduceLeDiff, and_self, and_true, true_and, ↓reduceIte, decide_true, decide_false, Nat.le_refl, Nat.reduceEqDiff, reduceCtorEq, Nat.zero_add, Nat.reduceAdd, Nat.reducePow, Int.reduceEq, Int.reduceLT, Int.reduceLE, Int.reduceGT, Int.reduceGE, not_true_eq_false, Nat.reduceDiv, Nat.reduceMod, Nat.lt_add_one, Nat.lt_irrefl, Nat.add_lt_add_iff_left, Nat.lt_add_right_iff_pos, List.getElem?_cons_zero, List.getElem?_cons_succ, Option.bind_some, Nat.succ_ne_zero, ne_eq, not_false_eq_true, if_false, if_true, Option.getD_some, Bool.not_true, Bool.not_false]) (I1.fr F2 hbr) (F1'.trans F2) (by omega)
  have F2' := F1'.trans F2
  have I2 := I1.fr F2 hbr
  obtain ⟨q2a, q2b, q2c, q2d⟩ := mostP_some e2
  have q2e := le4_range hby1
  have hby2 : ∀ z ∈ r1, 0 ≤ z ∧ z ≤ 255 := fun z hz => hby1 z (List.mem_of_mem_drop (q2b ▸ hz))
  have hl2 : r1.length ≤ b.length := by rw [q2b, List.length_drop]; omega
  simp (failIfUnchanged := false) (maxSteps := 1000000) (maxDischargeDepth := 5) only [go_sem, cap_eq, Nat.reduceLT, Nat.reduceLeDiff, and_self, and_true, true_and, ↓reduceIte, decide_true, decide_false, Nat.le_refl, Nat.reduceEqDiff, reduceCtorEq, Nat.zero_add, Nat.reduceAdd, Nat.reducePow, Int.reduceEq, Int.reduceLT, Int.reduceLE, Int.reduceGT, Int.reduceGE, not_true_eq_false, Nat.reduceDiv, Nat.reduceMod, Nat.lt_add_one, Nat.lt_irrefl, Nat.add_lt_add_iff_left, Nat.lt_add_right_iff_pos, List.getElem?_cons_zero, List.getElem?_cons_succ, Option.bind_some, Nat.succ_ne_zero, ne_eq, not_false_eq_true, if_false, if_true, Option.getD_some, Bool.not_true, Bool.not_false]
  refine spec44 br lb 65536 r1 h2 R2 hby2 (by omega) (by have := F2'.1; omega) (by omega) _ (fun h3 data r2 e3 R3 F3 hn3 => ?_) (fun h3 e3 F3 hn3 => ?_)
  rotate_left
  · simp (failIfUnchanged := false) (maxSteps := 1000000) (maxDischargeDepth := 5) only [go_sem, cap_eq, Nat.reduceLT, Nat.reduceLeDiff, and_self, and_true, true_and, ↓reduceIte, decide_true, decide_false, Nat.le_refl, Nat.reduceEqDiff, reduceCtorEq, Nat.zero_add, Nat.reduceAdd, Nat.reducePow, Int.reduceEq, Int.reduceLT, Int.reduceLE, Int.reduceGT, Int.reduceGE, not_true_eq_false, Nat.reduceDiv, Nat.reduceMod, Nat.lt_add_one, Nat.lt_irrefl, Nat.add_lt_add_iff_left, Nat.lt_add_right_iff_pos, List.getElem?_cons_zero, List.getElem?_cons_succ, Option.bind_some, Nat.succ_ne_zero, ne_eq, not_false_eq_true, if_false, if_true, Option.getD_some, Bool.not_true, Bool.not_false]
    exact bads _ h3 _ _ _ _ (by unfold readP; rw [if_neg (by omega), e2]; simp only [e3]) (by simp (failIfUnchanged := false) (maxSteps := 1000000) (maxDischargeDepth := 5) only [go_sem, cap_eq, Nat.reduceLT, Nat.reduceLeDiff, and_self, and_true, true_and, ↓reduceIte, decide_true, decide_false, Nat.le_refl, Nat.reduceEqDiff, reduceCtorEq, Nat.zero_add, Nat.reduceAdd, Nat.reducePow, Int.reduceEq, Int.reduceLT, Int.reduceLE, Int.reduceGT, Int.reduceGE, not_true_eq_false, Nat.reduceDiv, Nat.reduceMod, Nat.lt_add_one, Nat.lt_irrefl, Nat.add_lt_add_iff_left, Nat.lt_add_right_iff_pos, List.getElem?_cons_zero, List.getElem?_cons_succ, Option.bind_some, Nat.succ_ne_zero, ne_eq, not_false_eq_true, if_false, if_true, Option.getD_some, Bool.not_true, Bool.not_false]) (by simp (failIfUnchanged := false) (maxSteps := 1000000) (maxDischargeDepth := 5) only [go_sem, cap_eq, Nat.reduceLT, Nat.reduceLeDiff, and_self, and_true, true_and, ↓reduceIte, decide_true, decide_false, Nat.le_refl, Nat.reduceEqDiff, reduceCtorEq, Nat.zero_add, Nat.reduceAdd, Nat.reducePow, Int.reduceEq, Int.reduceLT, Int.reduceLE, Int.reduceGT, Int.reduceGE, not_true_eq_false, Nat.reduceDiv, Nat.reduceMod, Nat.lt_add_one, Nat.lt_irrefl, Nat.add_lt_add_iff_left, Nat.lt_add_right_iff_pos, List.getElem?_cons_zero, List.getElem?_cons_succ, Option.bind_some, Nat.succ_ne_zero, ne_eq, not_false_eq_true, if_false, if_true, Option.getD_some, Bool.not_true, Bool.not_false]) (I2.fr F3 hbr) (F2'.trans F3) (by omega)
  have F3' := F2'.trans F3
  have I3 := I2.fr F3 hbr
  obtain ⟨q3a, q3b, q3c, q3d⟩ := mostP_some e3
  have q3e := le4_range hby2
  have hby3 : ∀ z ∈ r2, 0 ≤ z ∧ z ≤ 255 := fun z hz => hby2 z (List.mem_of_mem_drop (q3b ▸ hz))
  have hl3 : r2.length ≤ b.length := by rw [q3b, List.length_drop]; omega
  simp (failIfUnchanged := false) (maxSteps := 1000000) (maxDischargeDepth := 5) only [go_sem, cap_eq, Nat.reduceLT, Nat.reduceLeDiff, and_self, and_true, true_and, ↓reduceIte, decide_true, decide_false, Nat.le_refl, Nat.reduceEqDiff, reduceCtorEq, Nat.zero_add, Nat.reduceAdd, Nat.reducePow, Int.reduceEq, Int.reduceLT, Int.reduceLE, Int.reduceGT, Int.reduceGE, not_true_eq_false, Nat.reduceDiv, Nat.reduceMod, Nat.lt_add_one, Nat.lt_irrefl, Nat.add_lt_add_iff_left, Nat.lt_add_right_iff_pos, List.getElem?_cons_zero, List.getElem?_cons_succ, Option.bind_some, Nat.succ_ne_zero, ne_eq, not_false_eq_true, if_false, if_true, Option.getD_some, Bool.not_true, Bool.not_false]
  refine spec44 br lb 65536 r2 h3 R3 hby3 (by omega) (by have := F3'.1; omega) (by omega) _ (fun h4 lim r3 e4 R4 F4 hn4 => ?_) (fun h4 e4 F4 hn4 => ?_)
  rotate_left
  · simp (failIfUnchanged := false) (maxSteps := 1000000) (maxDischargeDepth := 5) only [go_sem, cap_eq, Nat.reduceLT, Nat.reduceLeDiff, and_self, and_true, true_and, ↓reduceIte, decide_true, decide_false, Nat.le_refl, Nat.reduceEqDiff, reduceCtorEq, Nat.zero_add, Nat.reduceAdd, Nat.reducePow, Int.reduceEq, Int.reduceLT, Int.reduceLE, Int.reduceGT, Int.reduceGE, not_true_eq_false, Nat.reduceDiv, Nat.reduceMod, Nat.lt_add_one, Nat.lt_irrefl, Nat.add_lt_add_iff_left, Nat.lt_add_right_iff_pos, List.getElem?_cons_zero, List.getElem?_cons_succ, Option.bind_some, Nat.succ_ne_zero, ne_eq, not_false_eq_true, if_false, if_true, Option.getD_some, Bool.not_true, Bool.not_false]
    exact bads _ h4 _ _ _ _ (by unfold readP; rw [if_neg (by omega), e2]; simp only [e3, e4]) (by simp (failIfUnchanged := false) (maxSteps := 1000000) (maxDischargeDepth := 5) only [go_sem, cap_eq, Nat.reduceLT, Nat.reduceLeDiff, and_self, and_true, true_and, ↓reduceIte, decide_true, decide_false, Nat.le_refl, Nat.reduceEqDiff, reduceCtorEq, Nat.zero_add, Nat.reduceAdd, Nat.reducePow, Int.reduceEq, Int.reduceLT, Int.reduceLE, Int.reduceGT, Int.reduceGE, not_true_eq_false, Nat.reduceDiv, Nat.reduceMod, Nat.lt_add_one, Nat.lt_irrefl, Nat.add_lt_add_iff_left, Nat.lt_add_right_iff_pos, List.getElem?_cons_zero, List.getElem?_cons_succ, Option.bind_some, Nat.succ_ne_zero, ne_eq, not_false_eq_true, if_false, if_true, Option.getD_some, Bool.not_true, Bool.not_false]) (by simp (failIfUnchanged := false) (maxSteps := 1000000) (maxDischargeDepth := 5) only [go_sem, cap_eq, Nat.reduceLT, Nat.reduceLeDiff, and_self, and_true, true_and, ↓reduceIte, decide_true, decide_false, Nat.le_refl, Nat.reduceEqDiff, reduceCtorEq, Nat.zero_add, Nat.reduceAdd, Nat.reducePow, Int.reduceEq, Int.reduceLT, Int.reduceLE, Int.reduceGT, Int.reduceGE, not_true_eq_false, Nat.reduceDiv, Nat.reduceMod, Nat.lt_add_one, Nat.lt_irrefl, Nat.add_lt_add_iff_left, Nat.lt_add_right_iff_pos, List.getElem?_cons_zero, List.getElem?_cons_succ, Option.bind_some, Nat.succ_ne_zero, ne_eq, not_false_eq_true, if_false, if_true, Option.getD_some, Bool.not_true, Bool.not_false]) (I3.fr F4 hbr) (F3'.trans F4) (by omega)
  have F4' := F3'.trans F4
  have I4 := I3.fr F4 hbr
  obtain ⟨q4a, q4b, q4c, q4d⟩ := mostP_some e4
  have q4e := le4_range hby3
  have hby4 : ∀ z ∈ r3, 0 ≤ z ∧ z ≤ 255 := fun z hz => hby3 z (List.mem_of_mem_drop (q4b ▸ hz))
  have hl4 : r3.length ≤ b.length := by rw [q4b, List.length_drop]; omega
  have w4 : IntKind.i64.wrap (lim + 268435456) = lim + 268435456 := IntWalk.i64_in _ (by omega)
  obtain ⟨⟨ci, ei, oi, wi, g1, g20, g21, g22, g23⟩, bi, lti⟩ := I4
  have I4 : Im h4 h.next (.slice none 0 0) (.slice none 0 0) (.int .i64 0) (.int .i64 0) := ⟨⟨ci, ei, oi, wi, g1, g20, g21, g22, g23⟩, bi, lti⟩
  simp (failIfUnchanged := false) (maxSteps := 1000000) (maxDischargeDepth := 5) only [go_sem, cap_eq, Nat.reduceLT, Nat.reduceLeDiff, and_self, and_true, true_and, ↓reduceIte, decide_true, decide_false, Nat.le_refl, Nat.reduceEqDiff, reduceCtorEq, Nat.zero_add, Nat.reduceAdd, Nat.reducePow, Int.reduceEq, Int.reduceLT, Int.reduceLE, Int.reduceGT, Int.reduceGE, not_true_eq_false, Nat.reduceDiv, Nat.reduceMod, Nat.lt_add_one, Nat.lt_irrefl, Nat.add_lt_add_iff_left, Nat.lt_add_right_iff_pos, List.getElem?_cons_zero, List.getElem?_cons_succ, Option.bind_some, Nat.succ_ne_zero, ne_eq, not_false_eq_true, if_false, if_true, Option.getD_some, Bool.not_true, Bool.not_false, w4, g1, hc0]
  generalize h5e : AH.upd h4 h.next (.cells 4 _ ei oi wi) = h5
  have I5 : Im h5 h.next (.slice none 0 0) (.slice none 0 0) (.int .i64 (lim + 268435456)) (.int .i64 0) := by
    rw [← h5e]; exact I4.upd hc0 (by simp (failIfUnchanged := false) (maxSteps := 1000000) (maxDischargeDepth := 5) only [go_sem, cap_eq, Nat.reduceLT, Nat.reduceLeDiff, and_self, and_true, true_and, ↓reduceIte, decide_true, decide_false, Nat.le_refl, Nat.reduceEqDiff, reduceCtorEq, Nat.zero_add, Nat.reduceAdd, Nat.reducePow, Int.reduceEq, Int.reduceLT, Int.reduceLE, Int.reduceGT, Int.reduceGE, not_true_eq_false, Nat.reduceDiv, Nat.reduceMod, Nat.lt_add_one, Nat.lt_irrefl, Nat.add_lt_add_iff_left, Nat.lt_add_right_iff_pos, List.getElem?_cons_zero, List.getElem?_cons_succ, Option.bind_some, Nat.succ_ne_zero, ne_eq, not_false_eq_true, if_false, if_true, Option.getD_some, Bool.not_true, Bool.not_false, g20]) (by simp (failIfUnchanged := false) (maxSteps := 1000000) (maxDischargeDepth := 5) only [go_sem, cap_eq, Nat.reduceLT, Nat.reduceLeDiff, and_self, and_true, true_and, ↓reduceIte, decide_true, decide_false, Nat.le_refl, Nat.reduceEqDiff, reduceCtorEq, Nat.zero_add, Nat.reduceAdd, Nat.reducePow, Int.reduceEq, Int.reduceLT, Int.reduceLE, Int.reduceGT, Int.reduceGE, not_true_eq_false, Nat.reduceDiv, Nat.reduceMod, Nat.lt_add_one, Nat.lt_irrefl, Nat.add_lt_add_iff_left, Nat.lt_add_right_iff_pos, List.getElem?_cons_zero, List.getElem?_cons_succ, Option.bind_some, Nat.succ_ne_zero, ne_eq, not_false_eq_true, if_false, if_true, Option.getD_some, Bool.not_true, Bool.not_false, g21]) (by simp (failIfUnchanged := false) (maxSteps := 1000000) (maxDischargeDepth := 5) only [go_sem, cap_eq, Nat.reduceLT, Nat.reduceLeDiff, and_self, and_true, true_and, ↓reduceIte, decide_true, decide_false, Nat.le_refl, Nat.reduceEqDiff, reduceCtorEq, Nat.zero_add, Nat.reduceAdd, Nat.reducePow, Int.reduceEq, Int.reduceLT, Int.reduceLE, Int.reduceGT, Int.reduceGE, not_true_eq_false, Nat.reduceDiv, Nat.reduceMod, Nat.lt_add_one, Nat.lt_irrefl, Nat.add_lt_add_iff_left, Nat.lt_add_right_iff_pos, List.getElem?_cons_zero, List.getElem?_cons_succ, Option.bind_some, Nat.succ_ne_zero, ne_eq, not_false_eq_true, if_false, if_true, Option.getD_some, Bool.not_true, Bool.not_false]) (by simp (failIfUnchanged := false) (maxSteps := 1000000) (maxDischargeDepth := 5) only [go_sem, cap_eq, Nat.reduceLT, Nat.reduceLeDiff, and_self, and_true, true_and, ↓reduceIte, decide_true, decide_false, Nat.le_refl, Nat.reduceEqDiff, reduceCtorEq, Nat.zero_add, Nat.reduceAdd, Nat.reducePow, Int.reduceEq, Int.reduceLT, Int.reduceLE, Int.reduceGT, Int.reduceGE, not_true_eq_false, Nat.reduceDiv, Nat.reduceMod, Nat.lt_add_one, Nat.lt_irrefl, Nat.add_lt_add_iff_left, Nat.lt_add_right_iff_pos, List.getElem?_cons_zero, List.getElem?_cons_succ, Option.bind_some, Nat.succ_ne_zero, ne_eq, not_false_eq_true, if_false, if_true, Option.getD_some, Bool.not_true, Bool.not_false, g23])
  have F5' : Fr br h h5 := by rw [← h5e]; exact F4'.upd (Nat.le_refl _) hc0
  have R5 : Rd h5 br lb r3 := by rw [← h5e]; exact R4.upd hbr hc0
  have hn5 : h5.next = h4.next := by rw [← h5e, upd_next]
  clear h5e
  refine spec44 br lb 64 r3 h5 R5 hby4 (by omega) (by have := F5'.1; omega) (by omega) _ (fun h6 notes r4 e6 R6 F6 hn6 => ?_) (fun h6 e6 F6 hn6 => ?_)
  rotate_left
  · simp (failIfUnchanged := false) (maxSteps := 1000000) (maxDischargeDepth := 5) only [go_sem, cap_eq, Nat.reduceLT, Nat.reduceLeDiff, and_self, and_true, true_and, ↓reduceIte, decide_true, decide_false, Nat.le_refl, Nat.reduceEqDiff, reduceCtorEq, Nat.zero_add, Nat.reduceAdd, Nat.reducePow, Int.reduceEq, Int.reduceLT, Int.reduceLE, Int.reduceGT, Int.reduceGE, not_true_eq_false, Nat.reduceDiv, Nat.reduceMod, Nat.lt_add_one, Nat.lt_irrefl, Nat.add_lt_add_iff_left, Nat.lt_add_right_iff_pos, List.getElem?_cons_zero, List.getElem?_cons_succ, Option.bind_some, Nat.succ_ne_zero, ne_eq, not_false_eq_true, if_false, if_true, Option.getD_some, Bool.not_true, Bool.not_false]
    exact bads _ h6 _ _ _ _ (by unfold readP; rw [if_neg (by omega), e2]; simp only [e3, e4, e6]) (by simp (failIfUnchanged := false) (maxSteps := 1000000) (maxDischargeDepth := 5) only [go_sem, cap_eq, Nat.reduceLT, Nat.reduceLeDiff, and_self, and_true, true_and, ↓reduceIte, decide_true, decide_false, Nat.le_refl, Nat.reduceEqDiff, reduceCtorEq, Nat.zero_add, Nat.reduceAdd, Nat.reducePow, Int.reduceEq, Int.reduceLT, Int.reduceLE, Int.reduceGT, Int.reduceGE, not_true_eq_false, Nat.reduceDiv, Nat.reduceMod, Nat.lt_add_one, Nat.lt_irrefl, Nat.add_lt_add_iff_left, Nat.lt_add_right_iff_pos, List.getElem?_cons_zero, List.getElem?_cons_succ, Option.bind_some, Nat.succ_ne_zero, ne_eq, not_false_eq_true, if_false, if_true, Option.getD_some, Bool.not_true, Bool.not_false]) (by simp (failIfUnchanged := false) (maxSteps := 1000000) (maxDischargeDepth := 5) only [go_sem, cap_eq, Nat.reduceLT, Nat.reduceLeDiff, and_self, and_true, true_and, ↓reduceIte, decide_true, decide_false, Nat.le_refl, Nat.reduceEqDiff, reduceCtorEq, Nat.zero_add, Nat.reduceAdd, Nat.reducePow, Int.reduceEq, Int.reduceLT, Int.reduceLE, Int.reduceGT, Int.reduceGE, not_true_eq_false, Nat.reduceDiv, Nat.reduceMod, Nat.lt_add_one, Nat.lt_irrefl, Nat.add_lt_add_iff_left, Nat.lt_add_right_iff_pos, List.getElem?_cons_zero, List.getElem?_cons_succ, Option.bind_some, Nat.succ_ne_zero, ne_eq, not_false_eq_true, if_false, if_true, Option.getD_some, Bool.not_true, Bool.not_false]) (I5.fr F6 hbr) (F5'.trans F6) (by omega)
  have F6' := F5'.trans F6
  have I6 := I5.fr F6 hbr
  obtain ⟨q6a, q6b, q6c, q6d⟩ := mostP_some e6
  have q6e := le4_range hby4
  have hby6 : ∀ z ∈ r4, 0 ≤ z ∧ z ≤ 255 := fun z hz => hby4 z (List.mem_of_mem_drop (q6b ▸ hz))
  have hl6 : r4.length ≤ b.length := by rw [q6b, List.length_drop]; omega
  obtain ⟨⟨ci', ei', oi', wi', g1', g20', g21', g22', g23'⟩, bi', lti'⟩ := I6
  have I6 : Im h6 h.next (.slice none 0 0) (.slice none 0 0) (.int .i64 (lim + 268435456)) (.int .i64 0) := ⟨⟨ci', ei', oi', wi', g1', g20', g21', g22', g23'⟩, bi', lti'⟩
  simp (failIfUnchanged := false) (maxSteps := 1000000) (maxDischargeDepth := 5) only [go_sem, cap_eq, Nat.reduceLT, Nat.reduceLeDiff, and_self, and_true, true_and, ↓reduceIte, decide_true, decide_false, Nat.le_refl, Nat.reduceEqDiff, reduceCtorEq, Nat.zero_add, Nat.reduceAdd, Nat.reducePow, Int.reduceEq, Int.reduceLT, Int.reduceLE, Int.reduceGT, Int.reduceGE, not_true_eq_false, Nat.reduceDiv, Nat.reduceMod, Nat.lt_add_one, Nat.lt_irrefl, Nat.add_lt_add_iff_left, Nat.lt_add_right_iff_pos, List.getElem?_cons_zero, List.getElem?_cons_succ, Option.bind_some, Nat.succ_ne_zero, ne_eq, not_false_eq_true, if_false, if_true, Option.getD_some, Bool.not_true, Bool.not_false, g1', hc0]
  generalize h7e : AH.upd h6 h.next (.cells 4 _ ei' oi' wi') = h7
  have I7 : Im h7 h.next (.slice none 0 0) (.slice none 0 0) (.int .i64 (lim + 268435456)) (.int .i64 notes) := by
    rw [← h7e]; exact I6.upd hc0 (by simp (failIfUnchanged := false) (maxSteps := 1000000) (maxDischargeDepth := 5) only [go_sem, cap_eq, Nat.reduceLT, Nat.reduceLeDiff, and_self, and_true, true_and, ↓reduceIte, decide_true, decide_false, Nat.le_refl, Nat.reduceEqDiff, reduceCtorEq, Nat.zero_add, Nat.reduceAdd, Nat.reducePow, Int.reduceEq, Int.reduceLT, Int.reduceLE, Int.reduceGT, Int.reduceGE, not_true_eq_false, Nat.reduceDiv, Nat.reduceMod, Nat.lt_add_one, Nat.lt_irrefl, Nat.add_lt_add_iff_left, Nat.lt_add_right_iff_pos, List.getElem?_cons_zero, List.getElem?_cons_succ, Option.bind_some, Nat.succ_ne_zero, ne_eq, not_false_eq_true, if_false, if_true, Option.getD_some, Bool.not_true, Bool.not_false, g20']) (by simp (failIfUnchanged := false) (maxSteps := 1000000) (maxDischargeDepth := 5) only [go_sem, cap_eq, Nat.reduceLT, Nat.reduceLeDiff, and_self, and_true, true_and, ↓reduceIte, decide_true, decide_false, Nat.le_refl, Nat.reduceEqDiff, reduceCtorEq, Nat.zero_add, Nat.reduceAdd, Nat.reducePow, Int.reduceEq, Int.reduceLT, Int.reduceLE, Int.reduceGT, Int.reduceGE, not_true_eq_false, Nat.reduceDiv, Nat.reduceMod, Nat.lt_add_one, Nat.lt_irrefl, Nat.add_lt_add_iff_left, Nat.lt_add_right_iff_pos, List.getElem?_cons_zero, List.getElem?_cons_succ, Option.bind_some, Nat.succ_ne_zero, ne_eq, not_false_eq_true, if_false, if_true, Option.getD_some, Bool.not_true, Bool.not_false, g21']) (by simp (failIfUnchanged := false) (maxSteps := 1000000) (maxDischargeDepth := 5) only [go_sem, cap_eq, Nat.reduceLT, Nat.reduceLeDiff, and_self, and_true, true_and, ↓reduceIte, decide_true, decide_false, Nat.le_refl, Nat.reduceEqDiff, reduceCtorEq, Nat.zero_add, Nat.reduceAdd, Nat.reducePow, Int.reduceEq, Int.reduceLT, Int.reduceLE, Int.reduceGT, Int.reduceGE, not_true_eq_false, Nat.reduceDiv, Nat.reduceMod, Nat.lt_add_one, Nat.lt_irrefl, Nat.add_lt_add_iff_left, Nat.lt_add_right_iff_pos, List.getElem?_cons_zero, List.getElem?_cons_succ, Option.bind_some, Nat.succ_ne_zero, ne_eq, not_false_eq_true, if_false, if_true, Option.getD_some, Bool.not_true, Bool.not_false, g22']) (by simp (failIfUnchanged := false) (maxSteps := 1000000) (maxDischargeDepth := 5) only [go_sem, cap_eq, Nat.reduceLT, Nat.reduceLeDiff, and_self, and_true, true_and, ↓reduceIte, decide_true, decide_false, Nat.le_refl, Nat.reduceEqDiff, reduceCtorEq, Nat.zero_add, Nat.reduceAdd, Nat.reducePow, Int.reduceEq, Int.reduceLT, Int.reduceLE, Int.reduceGT, Int.reduceGE, not_true_eq_false, Nat.reduceDiv, Nat.reduceMod, Nat.lt_add_one, Nat.lt_irrefl, Nat.add_lt_add_iff_left, Nat.lt_add_right_iff_pos, List.getElem?_cons_zero, List.getElem?_cons_succ, Option.bind_some, Nat.succ_ne_zero, ne_eq, not_false_eq_true, if_false, if_true, Option.getD_some, Bool.not_true, Bool.not_false])
  have F7' : Fr br h h7 := by rw [← h7e]; exact F6'.upd (Nat.le_refl _) hc0
  have R7 : Rd h7 br lb r4 := by rw [← h7e]; exact R6.upd hbr hc0
  have hn7 : h7.next = h6.next := by rw [← h7e, upd_next]
  clear h7e
  obtain ⟨nc, hnc⟩ : ∃ nc : Nat, code = (nc : Int) := ⟨code.toNat, by omega⟩
  obtain ⟨nd, hnd⟩ : ∃ nd : Nat, data = (nd : Int) := ⟨data.toNat, by omega⟩
  subst hnc hnd
  have hn7b : h7.next ≤ h.next + 20 := by omega
  refine W_cutB (fun st => ∃ (rg : Tr Value) (hh : AH) (ac : Option Addr) (cw rd : List Int), st = ⟨rg, 37, [later h.next (h.next + 1)], hh, false⟩ ∧ rg.get 0 = some (.pointer (some ⟨br, 0, none⟩)) ∧ rg.get 2 = some (.pointer (some ⟨h.next, 0, none⟩)) ∧ rg.get 3 = some (.pointer (some ⟨h.next + 1, 0, none⟩)) ∧ rg.get 5 = some (.int .i64 nd) ∧
    codeP nc r4 = some (cw, rd) ∧ Im hh h.next (.slice ac cw.length cw.length) (.slice none 0 0) (.int .i64 (lim + 268435456)) (.int .i64 notes) ∧ Own hh vW 60 (h.next + 2) ac cw ∧ Fr br h hh ∧ Rd hh br lb rd ∧ (∀ z ∈ rd, 0 ≤ z ∧ z ≤ 255) ∧ rd.length ≤ b.length ∧ cw.length = nc ∧ hh.next ≤ h.next + 20 + 6 * 32768) ?_ ?_
  · refine W_loop (fun k s => ∃ (i : Nat) (rg : Tr Value) (hh : AH) (ac : Option Addr) (cw rd : List Int), k + i = nc ∧ s = ⟨rg, 37, [later h.next (h.next + 1)], hh, false⟩ ∧ rg.get 0 = some (.pointer (some ⟨br, 0, none⟩)) ∧ rg.get 2 = some (.pointer (some ⟨h.next, 0, none⟩)) ∧ rg.get 3 = some (.pointer (some ⟨h.next + 1, 0, none⟩)) ∧ rg.get 5 = some (.int .i64 nd) ∧
      rg.get 20 = some (.int .i64 nc) ∧ rg.get 21 = some (.int .i64 i) ∧ (codeP nc r4 = (codeP k rd).map fun p => (cw ++ p.1, p.2)) ∧ Im hh h.next (.slice ac cw.length cw.length) (.slice none 0 0) (.int .i64 (lim + 268435456)) (.int .i64 notes) ∧ Own hh vW 60 (h.next + 2) ac cw ∧ Fr br h hh ∧ Rd hh br lb rd ∧ (∀ z ∈ rd, 0 ≤ z ∧ z ≤ 255) ∧ rd.length ≤ b.length ∧ cw.length = i ∧ hh.next ≤ h.next + 20 + 6 * i) ?_ nc _ ?_
    · rintro k _ ⟨i, rg, hh, ac, cw, rd, hki, rfl, s0, s2, s3, s5, s20, s21, hcode, I8, O8, F8, R8, hby8, hl8, hcl, hn8⟩
      obtain ⟨⟨c, e, o, w, g1, g20, g21, g22, g23⟩, bb, lt8⟩ := I8
      have I8 : Im hh h.next (.slice ac cw.length cw.length) (.slice none 0 0) (.int .i64 (lim + 268435456)) (.int .i64 notes) := ⟨⟨c, e, o, w, g1, g20, g21, g22, g23⟩, bb, lt8⟩
      simp (failIfUnchanged := false) (maxSteps := 1000000) (maxDischargeDepth := 5) only [go_sem, cap_eq, Nat.reduceLT, Nat.reduceLeDiff, and_self, and_true, true_and, ↓reduceIte, decide_true, decide_false, Nat.le_refl, Nat.reduceEqDiff, reduceCtorEq, Nat.zero_add, Nat.reduceAdd, Nat.reducePow, Int.reduceEq, Int.reduceLT, Int.reduceLE, Int.reduceGT, Int.reduceGE, not_true_eq_false, Nat.reduceDiv, Nat.reduceMod, Nat.lt_add_one, Nat.lt_irrefl, Nat.add_lt_add_iff_left, Nat.lt_add_right_iff_pos, List.getElem?_cons_zero, List.getElem?_cons_succ, Option.bind_some, Nat.succ_ne_zero, ne_eq, not_false_eq_true, if_false, if_true, Option.getD_some, Bool.not_true, Bool.not_false, s20, s21]
      refine wCond_dec (fun hlt => ?_) (fun hlt => ?_)
      · obtain ⟨k, rfl⟩ : ∃ k', k = k' + 1 := ⟨k - 1, by omega⟩
        simp (failIfUnchanged := false) (maxSteps := 1000000) (maxDischargeDepth := 5) only [go_sem, cap_eq, Nat.reduceLT, Nat.reduceLeDiff, and_self, and_true, true_and, ↓reduceIte, decide_true, decide_false, Nat.le_refl, Nat.reduceEqDiff, reduceCtorEq, Nat.zero_add, Nat.reduceAdd, Nat.reducePow, Int.reduceEq, Int.reduceLT, Int.reduceLE, Int.reduceGT, Int.reduceGE, not_true_eq_false, Nat.reduceDiv, Nat.reduceMod, Nat.lt_add_one, Nat.lt_irrefl, Nat.add_lt_add_iff_left, Nat.lt_add_right_iff_pos, List.getElem?_cons_zero, List.getElem?_cons_succ, Option.bind_some, Nat.succ_ne_zero, ne_eq, not_false_eq_true, if_false, if_true, Option.getD_some, Bool.not_true, Bool.not_false]
        refine W_draw 8 [(0, 0), (1, 1), (2, 0), (3, 4), (4, 12), (5, 28), (6, 63), (7, 127), (8, 255)] (by kernel_rfl) ?_
        have hv8 := O8.veq cw.length cw.length
        simp (failIfUnchanged := false) (maxSteps := 1000000) (maxDischargeDepth := 5) only [go_sem, cap_eq, Nat.reduceLT, Nat.reduceLeDiff, and_self, and_true, true_and, ↓reduceIte, decide_true, decide_false, Nat.le_refl, Nat.reduceEqDiff, reduceCtorEq, Nat.zero_add, Nat.reduceAdd, Nat.reducePow, Int.reduceEq, Int.reduceLT, Int.reduceLE, Int.reduceGT, Int.reduceGE, not_true_eq_false, Nat.reduceDiv, Nat.reduceMod, Nat.lt_add_one, Nat.lt_irrefl, Nat.add_lt_add_iff_left, Nat.lt_add_right_iff_pos, List.getElem?_cons_zero, List.getElem?_cons_succ, Option.bind_some, Nat.succ_ne_zero, ne_eq, not_false_eq_true, if_false, if_true, Option.getD_some, Bool.not_true, Bool.not_false, s0, s2, g1, g20, hv8]
        refine spec45 br lb rd hh R8 hby8 (by omega) (by have := F8.1; omega) (by omega) _ (fun h9 hq9 R9 F9 hn9 => ?_) (fun hq9 => ?_)
        · have hc9 : h9.next < 1099511627776 := by omega
          have g9 := (F9.2 h.next (by omega) (by omega)).trans g1
          have rng := le4_range hby8
          have wu : IntKind.u32.wrap (le4 rd) = le4 rd := IntWalk.u32_in _ (by omega)
          simp (failIfUnchanged := false) (maxSteps := 1000000) (maxDischargeDepth := 5) only [go_sem, cap_eq, Nat.reduceLT, Nat.reduceLeDiff, and_self, and_true, true_and, ↓reduceIte, decide_true, decide_false, Nat.le_refl, Nat.reduceEqDiff, reduceCtorEq, Nat.zero_add, Nat.reduceAdd, Nat.reducePow, Int.reduceEq, Int.reduceLT, Int.reduceLE, Int.reduceGT, Int.reduceGE, not_true_eq_false, Nat.reduceDiv, Nat.reduceMod, Nat.lt_add_one, Nat.lt_irrefl, Nat.add_lt_add_iff_left, Nat.lt_add_right_iff_pos, List.getElem?_cons_zero, List.getElem?_cons_succ, Option.bind_some, Nat.succ_ne_zero, ne_eq, not_false_eq_true, if_false, if_true, Option.getD_some, Bool.not_true, Bool.not_false]
          rw [wu]
          have lt9 := F9.1
          have hnx : h.next ≠ h9.next := by omega
          have O9 : Own h9 vW 60 (h.next + 2) ac cw := O8.keep F9.1 fun x hx => F9.2 x (by
            obtain ⟨_, ⟨e, _⟩ | ⟨_, _, _, _, e1, _, e4, _⟩⟩ := O8
            · rw [e] at hx; cases hx
            · rw [e1] at hx; cases hx; exact e4) (fun e => O8.off (b := br) (by omega) x hx e.symm)
          simp (failIfUnchanged := false) (maxSteps := 1000000) (maxDischargeDepth := 5) only [go_sem, cap_eq, Nat.reduceLT, Nat.reduceLeDiff, and_self, and_true, true_and, ↓reduceIte, decide_true, decide_false, Nat.le_refl, Nat.reduceEqDiff, reduceCtorEq, Nat.zero_add, Nat.reduceAdd, Nat.reducePow, Int.reduceEq, Int.reduceLT, Int.reduceLE, Int.reduceGT, Int.reduceGE, not_true_eq_false, Nat.reduceDiv, Nat.reduceMod, Nat.lt_add_one, Nat.lt_irrefl, Nat.add_lt_add_iff_left, Nat.lt_add_right_iff_pos, List.getElem?_cons_zero, List.getElem?_cons_succ, Option.bind_some, Nat.succ_ne_zero, ne_eq, not_false_eq_true, if_false, if_true, Option.getD_some, Bool.not_true, Bool.not_false, hc9, g9, g20, hv8, s2, wu, hnx]
          refine app_new T35 (f := vW) (l := cw) (lo := h.next + 2) (x := le4 rd) rfl rfl rfl (by omega) (by omega) (by omega) O9 (by omega) fun hA OA hnA hfrA => ?_
          have gA : hA.b.get h.next = some (.cells 4 c e o w) := (hfrA h.next (by omega) (O9.off (by omega))).trans g9
          have w3 : IntKind.i64.wrap ((i : Int) + 1) = (i : Int) + 1 := IntWalk.i64_in _ (by omega)
          simp (failIfUnchanged := false) (maxSteps := 1000000) (maxDischargeDepth := 5) only [go_sem, cap_eq, Nat.reduceLT, Nat.reduceLeDiff, and_self, and_true, true_and, ↓reduceIte, decide_true, decide_false, Nat.le_refl, Nat.reduceEqDiff, reduceCtorEq, Nat.zero_add, Nat.reduceAdd, Nat.reducePow, Int.reduceEq, Int.reduceLT, Int.reduceLE, Int.reduceGT, Int.reduceGE, not_true_eq_false, Nat.reduceDiv, Nat.reduceMod, Nat.lt_add_one, Nat.lt_irrefl, Nat.add_lt_add_iff_left, Nat.lt_add_right_iff_pos, List.getElem?_cons_zero, List.getElem?_cons_succ, Option.bind_some, Nat.succ_ne_zero, ne_eq, not_false_eq_true, if_false, if_true, Option.getD_some, Bool.not_true, Bool.not_false, gA, hc0, s2, s21, w3]
          have e4 : cw.length + 1 = (cw ++ [le4 rd]).length := by rw [List.length_append]; rfl
          rw [e4]
          have IA : Im hA h.next (.slice ac cw.length cw.length) (.slice none 0 0) (.int .i64 (lim + 268435456)) (.int .i64 notes) :=
            (I8.fr F9 hbr).keep (by omega) (hfrA h.next (by omega) (O9.off (by omega))) (hfrA (h.next + 1) (by omega) (O9.off (by omega)))
          have FA : Fr br h hA := ⟨by omega, fun x hx hxb => by rw [hfrA x (by omega) (O9.off (by omega)), F9.2 x (by omega) hxb, F8.2 x hx hxb]⟩
          have RA : Rd hA br lb (rd.drop 4) := R9.keep (by omega) fun x hx hor => hfrA x hx (O9.off (by omega))
          have hnum : numP rd = some (le4 rd, rd.drop 4) := by unfold numP; rw [if_neg (by omega)]
          refine ⟨k, by omega, i + 1, _, _, some ⟨h9.next + 1, 0, none⟩, cw ++ [le4 rd], rd.drop 4, by omega, rfl, by simp (failIfUnchanged := false) (maxSteps := 1000000) (maxDischargeDepth := 5) only [go_sem, cap_eq, Nat.reduceLT, Nat.reduceLeDiff, and_self, and_true, true_and, ↓reduceIte, decide_true, decide_false, Nat.le_refl, Nat.reduceEqDiff, reduceCtorEq, Nat.zero_add, Nat.reduceAdd, Nat.reducePow, Int.reduceEq, Int.reduceLT, Int.reduceLE, Int.reduceGT, Int.reduceGE, not_true_eq_false, Nat.reduceDiv, Nat.reduceMod, Nat.lt_add_one, Nat.lt_irrefl, Nat.add_lt_add_iff_left, Nat.lt_add_right_iff_pos, List.getElem?_cons_zero, List.getElem?_cons_succ, Option.bind_some, Nat.succ_ne_zero, ne_eq, not_false_eq_true, if_false, if_true, Option.getD_some, Bool.not_true, Bool.not_false, s0], by simp (failIfUnchanged := false) (maxSteps := 1000000) (maxDischargeDepth := 5) only [go_sem, cap_eq, Nat.reduceLT, Nat.reduceLeDiff, and_self, and_true, true_and, ↓reduceIte, decide_true, decide_false, Nat.le_refl, Nat.reduceEqDiff, reduceCtorEq, Nat.zero_add, Nat.reduceAdd, Nat.reducePow, Int.reduceEq, Int.reduceLT, Int.reduceLE, Int.reduceGT, Int.reduceGE, not_true_eq_false, Nat.reduceDiv, Nat.reduceMod, Nat.lt_add_one, Nat.lt_irrefl, Nat.add_lt_add_iff_left, Nat.lt_add_right_iff_pos, List.getElem?_cons_zero, List.getElem?_cons_succ, Option.bind_some, Nat.succ_ne_zero, ne_eq, not_false_eq_true, if_false, if_true, Option.getD_some, Bool.not_true, Bool.not_false, s2], by simp (failIfUnchanged := false) (maxSteps := 1000000) (maxDischargeDepth := 5) only [go_sem, cap_eq, Nat.reduceLT, Nat.reduceLeDiff, and_self, and_true, true_and, ↓reduceIte, decide_true, decide_false, Nat.le_refl, Nat.reduceEqDiff, reduceCtorEq, Nat.zero_add, Nat.reduceAdd, Nat.reducePow, Int.reduceEq, Int.reduceLT, Int.reduceLE, Int.reduceGT, Int.reduceGE, not_true_eq_false, Nat.reduceDiv, Nat.reduceMod, Nat.lt_add_one, Nat.lt_irrefl, Nat.add_lt_add_iff_left, Nat.lt_add_right_iff_pos, List.getElem?_cons_zero, List.getElem?_cons_succ, Option.bind_some, Nat.succ_ne_zero, ne_eq, not_false_eq_true, if_false, if_true, Option.getD_some, Bool.not_true, Bool.not_false, s3], by simp (failIfUnchanged := false) (maxSteps := 1000000) (maxDischargeDepth := 5) only [go_sem, cap_eq, Nat.reduceLT, Nat.reduceLeDiff, and_self, and_true, true_and, ↓reduceIte, decide_true, decide_false, Nat.le_refl, Nat.reduceEqDiff, reduceCtorEq, Nat.zero_add, Nat.reduceAdd, Nat.reducePow, Int.reduceEq, Int.reduceLT, Int.reduceLE, Int.reduceGT, Int.reduceGE, not_true_eq_false, Nat.reduceDiv, Nat.reduceMod, Nat.lt_add_one, Nat.lt_irrefl, Nat.add_lt_add_iff_left, Nat.lt_add_right_iff_pos, List.getElem?_cons_zero, List.getElem?_cons_succ, Option.bind_some, Nat.succ_ne_zero, ne_eq, not_false_eq_true, if_false, if_true, Option.getD_some, Bool.not_true, Bool.not_false, s5], by simp (failIfUnchanged := false) (maxSteps := 1000000) (maxDischargeDepth := 5) only [go_sem, cap_eq, Nat.reduceLT, Nat.reduceLeDiff, and_self, and_true, true_and, ↓reduceIte, decide_true, decide_false, Nat.le_refl, Nat.reduceEqDiff, reduceCtorEq, Nat.zero_add, Nat.reduceAdd, Nat.reducePow, Int.reduceEq, Int.reduceLT, Int.reduceLE, Int.reduceGT, Int.reduceGE, not_true_eq_false, Nat.reduceDiv, Nat.reduceMod, Nat.lt_add_one, Nat.lt_irrefl, Nat.add_lt_add_iff_left, Nat.lt_add_right_iff_pos, List.getElem?_cons_zero, List.getElem?_cons_succ, Option.bind_some, Nat.succ_ne_zero, ne_eq, not_false_eq_true, if_false, if_true, Option.getD_some, Bool.not_true, Bool.not_false, s20], by simp (failIfUnchanged := false) (maxSteps := 1000000) (maxDischargeDepth := 5) only [go_sem, cap_eq, Nat.reduceLT, Nat.reduceLeDiff, and_self, and_true, true_and, ↓reduceIte, decide_true, decide_false, Nat.le_refl, Nat.reduceEqDiff, reduceCtorEq, Nat.zero_add, Nat.reduceAdd, Nat.reducePow, Int.reduceEq, Int.reduceLT, Int.reduceLE, Int.reduceGT, Int.reduceGE, not_true_eq_false, Nat.reduceDiv, Nat.reduceMod, Nat.lt_add_one, Nat.lt_irrefl, Nat.add_lt_add_iff_left, Nat.lt_add_right_iff_pos, List.getElem?_cons_zero, List.getElem?_cons_succ, Option.bind_some, Nat.succ_ne_zero, ne_eq, not_false_eq_true, if_false, if_true, Option.getD_some, Bool.not_true, Bool.not_false, Int.natCast_add, Int.natCast_one], ?_, IA.upd hc0 (by simp (failIfUnchanged := false) (maxSteps := 1000000) (maxDischargeDepth := 5) only [go_sem, cap_eq, Nat.reduceLT, Nat.reduceLeDiff, and_self, and_true, true_and, ↓reduceIte, decide_true, decide_false, Nat.le_refl, Nat.reduceEqDiff, reduceCtorEq, Nat.zero_add, Nat.reduceAdd, Nat.reducePow, Int.reduceEq, Int.reduceLT, Int.reduceLE, Int.reduceGT, Int.reduceGE, not_true_eq_false, Nat.reduceDiv, Nat.reduceMod, Nat.lt_add_one, Nat.lt_irrefl, Nat.add_lt_add_iff_left, Nat.lt_add_right_iff_pos, List.getElem?_cons_zero, List.getElem?_cons_succ, Option.bind_some, Nat.succ_ne_zero, ne_eq, not_false_eq_true, if_false, if_true, Option.getD_some, Bool.not_true, Bool.not_false]) (by simp (failIfUnchanged := false) (maxSteps := 1000000) (maxDischargeDepth := 5) only [go_sem, cap_eq, Nat.reduceLT, Nat.reduceLeDiff, and_self, and_true, true_and, ↓reduceIte, decide_true, decide_false, Nat.le_refl, Nat.reduceEqDiff, reduceCtorEq, Nat.zero_add, Nat.reduceAdd, Nat.reducePow, Int.reduceEq, Int.reduceLT, Int.reduceLE, Int.reduceGT, Int.reduceGE, not_true_eq_false, Nat.reduceDiv, Nat.reduceMod, Nat.lt_add_one, Nat.lt_irrefl, Nat.add_lt_add_iff_left, Nat.lt_add_right_iff_pos, List.getElem?_cons_zero, List.getElem?_cons_succ, Option.bind_some, Nat.succ_ne_zero, ne_eq, not_false_eq_true, if_false, if_true, Option.getD_some, Bool.not_true, Bool.not_false, g21]) (by simp (failIfUnchanged := false) (maxSteps := 1000000) (maxDischargeDepth := 5) only [go_sem, cap_eq, Nat.reduceLT, Nat.reduceLeDiff, and_self, and_true, true_and, ↓reduceIte, decide_true, decide_false, Nat.le_refl, Nat.reduceEqDiff, reduceCtorEq, Nat.zero_add, Nat.reduceAdd, Nat.reducePow, Int.reduceEq, Int.reduceLT, Int.reduceLE, Int.reduceGT, Int.reduceGE, not_true_eq_false, Nat.reduceDiv, Nat.reduceMod, Nat.lt_add_one, Nat.lt_irrefl, Nat.add_lt_add_iff_left, Nat.lt_add_right_iff_pos, List.getElem?_cons_zero, List.getElem?_cons_succ, Option.bind_some, Nat.succ_ne_zero, ne_eq, not_false_eq_true, if_false, if_true, Option.getD_some, Bool.not_true, Bool.not_false, g22]) (by simp (failIfUnchanged := false) (maxSteps := 1000000) (maxDischargeDepth := 5) only [go_sem, cap_eq, Nat.reduceLT, Nat.reduceLeDiff, and_self, and_true, true_and, ↓reduceIte, decide_true, decide_false, Nat.le_refl, Nat.reduceEqDiff, reduceCtorEq, Nat.zero_add, Nat.reduceAdd, Nat.reducePow, Int.reduceEq, Int.reduceLT, Int.reduceLE, Int.reduceGT, Int.reduceGE, not_true_eq_false, Nat.reduceDiv, Nat.reduceMod, Nat.lt_add_one, Nat.lt_irrefl, Nat.add_lt_add_iff_left, Nat.lt_add_right_iff_pos, List.getElem?_cons_zero, List.getElem?_cons_succ, Option.bind_some, Nat.succ_ne_zero, ne_eq, not_false_eq_true, if_false, if_true, Option.getD_some, Bool.not_true, Bool.not_false, g23]), OA.upd (by omega) (by omega) (by show _ < 1099511627776; omega) _, FA.upd (Nat.le_refl _) hc0, RA.upd hbr hc0, fun z hz => hby8 z (List.mem_of_mem_drop hz), by rw [List.length_drop]; omega, by rw [← e4]; omega, by rw [upd_next]; omega⟩
          rw [hcode, codeP_num hnum]
          cases codeP k (rd.drop 4) with
          | none => rfl
          | some p => simp [List.append_assoc]
        · simp (failIfUnchanged := false) (maxSteps := 1000000) (maxDischargeDepth := 5) only [go_sem, cap_eq, Nat.reduceLT, Nat.reduceLeDiff, and_self, and_true, true_and, ↓reduceIte, decide_true, decide_false, Nat.le_refl, Nat.reduceEqDiff, reduceCtorEq, Nat.zero_add, Nat.reduceAdd, Nat.reducePow, Int.reduceEq, Int.reduceLT, Int.reduceLE, Int.reduceGT, Int.reduceGE, not_true_eq_false, Nat.reduceDiv, Nat.reduceMod, Nat.lt_add_one, Nat.lt_irrefl, Nat.add_lt_add_iff_left, Nat.lt_add_right_iff_pos, List.getElem?_cons_zero, List.getElem?_cons_succ, Option.bind_some, Nat.succ_ne_zero, ne_eq, not_false_eq_true, if_false, if_true, Option.getD_some, Bool.not_true, Bool.not_false]
          have hnum : numP rd = none := by unfold numP; rw [if_pos (by omega)]
          refine bads _ hh _ _ _ _ ?_ (by rw [dropD_get (by kernel_rfl)]; simp (failIfUnchanged := false) (maxSteps := 1000000) (maxDischargeDepth := 5) only [go_sem, cap_eq, Nat.reduceLT, Nat.reduceLeDiff, and_self, and_true, true_and, ↓reduceIte, decide_true, decide_false, Nat.le_refl, Nat.reduceEqDiff, reduceCtorEq, Nat.zero_add, Nat.reduceAdd, Nat.reducePow, Int.reduceEq, Int.reduceLT, Int.reduceLE, Int.reduceGT, Int.reduceGE, not_true_eq_false, Nat.reduceDiv, Nat.reduceMod, Nat.lt_add_one, Nat.lt_irrefl, Nat.add_lt_add_iff_left, Nat.lt_add_right_iff_pos, List.getElem?_cons_zero, List.getElem?_cons_succ, Option.bind_some, Nat.succ_ne_zero, ne_eq, not_false_eq_true, if_false, if_true, Option.getD_some, Bool.not_true, Bool.not_false, s2]) (by rw [dropD_get (by kernel_rfl)]; simp (failIfUnchanged := false) (maxSteps := 1000000) (maxDischargeDepth := 5) only [go_sem, cap_eq, Nat.reduceLT, Nat.reduceLeDiff, and_self, and_true, true_and, ↓reduceIte, decide_true, decide_false, Nat.le_refl, Nat.reduceEqDiff, reduceCtorEq, Nat.zero_add, Nat.reduceAdd, Nat.reducePow, Int.reduceEq, Int.reduceLT, Int.reduceLE, Int.reduceGT, Int.reduceGE, not_true_eq_false, Nat.reduceDiv, Nat.reduceMod, Nat.lt_add_one, Nat.lt_irrefl, Nat.add_lt_add_iff_left, Nat.lt_add_right_iff_pos, List.getElem?_cons_zero, List.getElem?_cons_succ, Option.bind_some, Nat.succ_ne_zero, ne_eq, not_false_eq_true, if_false, if_true, Option.getD_some, Bool.not_true, Bool.not_false, s3]) I8 F8 (by omega)
          unfold readP; rw [if_neg (by omega), e2]; simp only [e3, e4, e6, Int.toNat_natCast]
          rw [hcode]; unfold codeP; rw [hnum]; rfl
      · have hk0 : k = 0 := by omega
        subst hk0
        simp (failIfUnchanged := false) (maxSteps := 1000000) (maxDischargeDepth := 5) only [go_sem, cap_eq, Nat.reduceLT, Nat.reduceLeDiff, and_self, and_true, true_and, ↓reduceIte, decide_true, decide_false, Nat.le_refl, Nat.reduceEqDiff, reduceCtorEq, Nat.zero_add, Nat.reduceAdd, Nat.reducePow, Int.reduceEq, Int.reduceLT, Int.reduceLE, Int.reduceGT, Int.reduceGE, not_true_eq_false, Nat.reduceDiv, Nat.reduceMod, Nat.lt_add_one, Nat.lt_irrefl, Nat.add_lt_add_iff_left, Nat.lt_add_right_iff_pos, List.getElem?_cons_zero, List.getElem?_cons_succ, Option.bind_some, Nat.succ_ne_zero, ne_eq, not_false_eq_true, if_false, if_true, Option.getD_some, Bool.not_true, Bool.not_false]
        refine ⟨_, hh, ac, cw, rd, rfl, by simp (failIfUnchanged := false) (maxSteps := 1000000) (maxDischargeDepth := 5) only [go_sem, cap_eq, Nat.reduceLT, Nat.reduceLeDiff, and_self, and_true, true_and, ↓reduceIte, decide_true, decide_false, Nat.le_refl, Nat.reduceEqDiff, reduceCtorEq, Nat.zero_add, Nat.reduceAdd, Nat.reducePow, Int.reduceEq, Int.reduceLT, Int.reduceLE, Int.reduceGT, Int.reduceGE, not_true_eq_false, Nat.reduceDiv, Nat.reduceMod, Nat.lt_add_one, Nat.lt_irrefl, Nat.add_lt_add_iff_left, Nat.lt_add_right_iff_pos, List.getElem?_cons_zero, List.getElem?_cons_succ, Option.bind_some, Nat.succ_ne_zero, ne_eq, not_false_eq_true, if_false, if_true, Option.getD_some, Bool.not_true, Bool.not_false, s0], by simp (failIfUnchanged := false) (maxSteps := 1000000) (maxDischargeDepth := 5) only [go_sem, cap_eq, Nat.reduceLT, Nat.reduceLeDiff, and_self, and_true, true_and, ↓reduceIte, decide_true, decide_false, Nat.le_refl, Nat.reduceEqDiff, reduceCtorEq, Nat.zero_add, Nat.reduceAdd, Nat.reducePow, Int.reduceEq, Int.reduceLT, Int.reduceLE, Int.reduceGT, Int.reduceGE, not_true_eq_false, Nat.reduceDiv, Nat.reduceMod, Nat.lt_add_one, Nat.lt_irrefl, Nat.add_lt_add_iff_left, Nat.lt_add_right_iff_pos, List.getElem?_cons_zero, List.getElem?_cons_succ, Option.bind_some, Nat.succ_ne_zero, ne_eq, not_false_eq_true, if_false, if_true, Option.getD_some, Bool.not_true, Bool.not_false, s2], by simp (failIfUnchanged := false) (maxSteps := 1000000) (maxDischargeDepth := 5) only [go_sem, cap_eq, Nat.reduceLT, Nat.reduceLeDiff, and_self, and_true, true_and, ↓reduceIte, decide_true, decide_false, Nat.le_refl, Nat.reduceEqDiff, reduceCtorEq, Nat.zero_add, Nat.reduceAdd, Nat.reducePow, Int.reduceEq, Int.reduceLT, Int.reduceLE, Int.reduceGT, Int.reduceGE, not_true_eq_false, Nat.reduceDiv, Nat.reduceMod, Nat.lt_add_one, Nat.lt_irrefl, Nat.add_lt_add_iff_left, Nat.lt_add_right_iff_pos, List.getElem?_cons_zero, List.getElem?_cons_succ, Option.bind_some, Nat.succ_ne_zero, ne_eq, not_false_eq_true, if_false, if_true, Option.getD_some, Bool.not_true, Bool.not_false, s3], by simp (failIfUnchanged := false) (maxSteps := 1000000) (maxDischargeDepth := 5) only [go_sem, cap_eq, Nat.reduceLT, Nat.reduceLeDiff, and_self, and_true, true_and, ↓reduceIte, decide_true, decide_false, Nat.le_refl, Nat.reduceEqDiff, reduceCtorEq, Nat.zero_add, Nat.reduceAdd, Nat.reducePow, Int.reduceEq, Int.reduceLT, Int.reduceLE, Int.reduceGT, Int.reduceGE, not_true_eq_false, Nat.reduceDiv, Nat.reduceMod, Nat.lt_add_one, Nat.lt_irrefl, Nat.add_lt_add_iff_left, Nat.lt_add_right_iff_pos, List.getElem?_cons_zero, List.getElem?_cons_succ, Option.bind_some, Nat.succ_ne_zero, ne_eq, not_false_eq_true, if_false, if_true, Option.getD_some, Bool.not_true, Bool.not_false, s5], ?_, I8, O8, F8, R8, hby8, hl8, by omega, by omega⟩
        rw [hcode]; simp [codeP]
    · exact ⟨0, _, h7, none, [], r4, by omega, rfl, by simp (failIfUnchanged := false) (maxSteps := 1000000) (maxDischargeDepth := 5) only [go_sem, cap_eq, Nat.reduceLT, Nat.reduceLeDiff, and_self, and_true, true_and, ↓reduceIte, decide_true, decide_false, Nat.le_refl, Nat.reduceEqDiff, reduceCtorEq, Nat.zero_add, Nat.reduceAdd, Nat.reducePow, Int.reduceEq, Int.reduceLT, Int.reduceLE, Int.reduceGT, Int.reduceGE, not_true_eq_false, Nat.reduceDiv, Nat.reduceMod, Nat.lt_add_one, Nat.lt_irrefl, Nat.add_lt_add_iff_left, Nat.lt_add_right_iff_pos, List.getElem?_cons_zero, List.getElem?_cons_succ, Option.bind_some, Nat.succ_ne_zero, ne_eq, not_false_eq_true, if_false, if_true, Option.getD_some, Bool.not_true, Bool.not_false], by simp (failIfUnchanged := false) (maxSteps := 1000000) (maxDischargeDepth := 5) only [go_sem, cap_eq, Nat.reduceLT, Nat.reduceLeDiff, and_self, and_true, true_and, ↓reduceIte, decide_true, decide_false, Nat.le_refl, Nat.reduceEqDiff, reduceCtorEq, Nat.zero_add, Nat.reduceAdd, Nat.reducePow, Int.reduceEq, Int.reduceLT, Int.reduceLE, Int.reduceGT, Int.reduceGE, not_true_eq_false, Nat.reduceDiv, Nat.reduceMod, Nat.lt_add_one, Nat.lt_irrefl, Nat.add_lt_add_iff_left, Nat.lt_add_right_iff_pos, List.getElem?_cons_zero, List.getElem?_cons_succ, Option.bind_some, Nat.succ_ne_zero, ne_eq, not_false_eq_true, if_false, if_true, Option.getD_some, Bool.not_true, Bool.not_false], by simp (failIfUnchanged := false) (maxSteps := 1000000) (maxDischargeDepth := 5) only [go_sem, cap_eq, Nat.reduceLT, Nat.reduceLeDiff, and_self, and_true, true_and, ↓reduceIte, decide_true, decide_false, Nat.le_refl, Nat.reduceEqDiff, reduceCtorEq, Nat.zero_add, Nat.reduceAdd, Nat.reducePow, Int.reduceEq, Int.reduceLT, Int.reduceLE, Int.reduceGT, Int.reduceGE, not_true_eq_false, Nat.reduceDiv, Nat.reduceMod, Nat.lt_add_one, Nat.lt_irrefl, Nat.add_lt_add_iff_left, Nat.lt_add_right_iff_pos, List.getElem?_cons_zero, List.getElem?_cons_succ, Option.bind_some, Nat.succ_ne_zero, ne_eq, not_false_eq_true, if_false, if_true, Option.getD_some, Bool.not_true, Bool.not_false], by simp (failIfUnchanged := false) (maxSteps := 1000000) (maxDischargeDepth := 5) only [go_sem, cap_eq, Nat.reduceLT, Nat.reduceLeDiff, and_self, and_true, true_and, ↓reduceIte, decide_true, decide_false, Nat.le_refl, Nat.reduceEqDiff, reduceCtorEq, Nat.zero_add, Nat.reduceAdd, Nat.reducePow, Int.reduceEq, Int.reduceLT, Int.reduceLE, Int.reduceGT, Int.reduceGE, not_true_eq_false, Nat.reduceDiv, Nat.reduceMod, Nat.lt_add_one, Nat.lt_irrefl, Nat.add_lt_add_iff_left, Nat.lt_add_right_iff_pos, List.getElem?_cons_zero, List.getElem?_cons_succ, Option.bind_some, Nat.succ_ne_zero, ne_eq, not_false_eq_true, if_false, if_true, Option.getD_some, Bool.not_true, Bool.not_false], by simp (failIfUnchanged := false) (maxSteps := 1000000) (maxDischargeDepth := 5) only [go_sem, cap_eq, Nat.reduceLT, Nat.reduceLeDiff, and_self, and_true, true_and, ↓reduceIte, decide_true, decide_false, Nat.le_refl, Nat.reduceEqDiff, reduceCtorEq, Nat.zero_add, Nat.reduceAdd, Nat.reducePow, Int.reduceEq, Int.reduceLT, Int.reduceLE, Int.reduceGT, Int.reduceGE, not_true_eq_false, Nat.reduceDiv, Nat.reduceMod, Nat.lt_add_one, Nat.lt_irrefl, Nat.add_lt_add_iff_left, Nat.lt_add_right_iff_pos, List.getElem?_cons_zero, List.getElem?_cons_succ, Option.bind_some, Nat.succ_ne_zero, ne_eq, not_false_eq_true, if_false, if_true, Option.getD_some, Bool.not_true, Bool.not_false], by simp (failIfUnchanged := false) (maxSteps := 1000000) (maxDischargeDepth := 5) only [go_sem, cap_eq, Nat.reduceLT, Nat.reduceLeDiff, and_self, and_true, true_and, ↓reduceIte, decide_true, decide_false, Nat.le_refl, Nat.reduceEqDiff, reduceCtorEq, Nat.zero_add, Nat.reduceAdd, Nat.reducePow, Int.reduceEq, Int.reduceLT, Int.reduceLE, Int.reduceGT, Int.reduceGE, not_true_eq_false, Nat.reduceDiv, Nat.reduceMod, Nat.lt_add_one, Nat.lt_irrefl, Nat.add_lt_add_iff_left, Nat.lt_add_right_iff_pos, List.getElem?_cons_zero, List.getElem?_cons_succ, Option.bind_some, Nat.succ_ne_zero, ne_eq, not_false_eq_true, if_false, if_true, Option.getD_some, Bool.not_true, Bool.not_false] <;> rfl, by simp, I7, OwnC.nil _ _ _ _, F7', R7, hby6, hl6, rfl, by omega⟩
  · rintro _ ⟨rg, hh, ac, cw, rd, rfl, s0, s2, s3, s5, hcode, I8, O8, F8, R8, hby8, hl8, hcl, hn8⟩
    have hfr8 := F8.1
    simp (failIfUnchanged := false) (maxSteps := 1000000) (maxDischargeDepth := 5) only [go_sem, cap_eq, Nat.reduceLT, Nat.reduceLeDiff, and_self, and_true, true_and, ↓reduceIte, decide_true, decide_false, Nat.le_refl, Nat.reduceEqDiff, reduceCtorEq, Nat.zero_add, Nat.reduceAdd, Nat.reducePow, Int.reduceEq, Int.reduceLT, Int.reduceLE, Int.reduceGT, Int.reduceGE, not_true_eq_false, Nat.reduceDiv, Nat.reduceMod, Nat.lt_add_one, Nat.lt_irrefl, Nat.add_lt_add_iff_left, Nat.lt_add_right_iff_pos, List.getElem?_cons_zero, List.getElem?_cons_succ, Option.bind_some, Nat.succ_ne_zero, ne_eq, not_false_eq_true, if_false, if_true, Option.getD_some, Bool.not_true, Bool.not_false, s0, s5]
    refine spec46 br lb nd rd hh R8 (by omega) hby8 (by omega) (by omega) (by omega) _ (fun h9 ad dl r9 hdata O9 R9 F9 hn9 hdl => ?_) (fun h9 hdata F9 hn9 => ?_)
    · have I9 := I8.fr F9 hbr
      have OC : Own h9 vW 60 (h.next + 2) ac cw := O8.keep F9.1 fun x hx => F9.2 x (by
        obtain ⟨_, ⟨e, _⟩ | ⟨_, _, _, _, e1, _, e4, _⟩⟩ := O8
        · rw [e] at hx; cases hx
        · rw [e1] at hx; cases hx; exact e4) (fun e => O8.off (b := br) (by omega) x hx e.symm)
      obtain ⟨⟨c, e, o, w, g1, g20, g21, g22, g23⟩, ⟨c3, e3', o3, w3, g3⟩, lt9⟩ := I9
      have hne1 : h.next + 1 ≠ h.next := by omega
      have hne2 : h.next ≠ h.next + 1 := by omega
      simp (failIfUnchanged := false) (maxSteps := 1000000) (maxDischargeDepth := 5) only [go_sem, cap_eq, Nat.reduceLT, Nat.reduceLeDiff, and_self, and_true, true_and, ↓reduceIte, decide_true, decide_false, Nat.le_refl, Nat.reduceEqDiff, reduceCtorEq, Nat.zero_add, Nat.reduceAdd, Nat.reducePow, Int.reduceEq, Int.reduceLT, Int.reduceLE, Int.reduceGT, Int.reduceGE, not_true_eq_false, Nat.reduceDiv, Nat.reduceMod, Nat.lt_add_one, Nat.lt_irrefl, Nat.add_lt_add_iff_left, Nat.lt_add_right_iff_pos, List.getElem?_cons_zero, List.getElem?_cons_succ, Option.bind_some, Nat.succ_ne_zero, ne_eq, not_false_eq_true, if_false, if_true, Option.getD_some, Bool.not_true, Bool.not_false, s2, s3, g1, g20, g21, g22, g23, g3, hc0, hc1, hne1, hne2]
      have q91 := F9.1
      have q92 := I8.lt
      have hread : readP b = some (⟨cw, dl, lim + 268435456, notes⟩, r9) := by
        unfold readP; rw [if_neg (by omega), e2]; simp only [e3, e4, e6, Int.toNat_natCast, hcode, hdata]
      refine body32_ret _ 37 h.next (h.next + 1) _ (.agg ⟨[.slice ac cw.length cw.length, .slice ad dl.length dl.length, .int .i64 (lim + 268435456), .int .i64 notes]⟩) true (by simp (failIfUnchanged := false) (maxSteps := 1000000) (maxDischargeDepth := 5) only [go_sem, cap_eq, Nat.reduceLT, Nat.reduceLeDiff, and_self, and_true, true_and, ↓reduceIte, decide_true, decide_false, Nat.le_refl, Nat.reduceEqDiff, reduceCtorEq, Nat.zero_add, Nat.reduceAdd, Nat.reducePow, Int.reduceEq, Int.reduceLT, Int.reduceLE, Int.reduceGT, Int.reduceGE, not_true_eq_false, Nat.reduceDiv, Nat.reduceMod, Nat.lt_add_one, Nat.lt_irrefl, Nat.add_lt_add_iff_left, Nat.lt_add_right_iff_pos, List.getElem?_cons_zero, List.getElem?_cons_succ, Option.bind_some, Nat.succ_ne_zero, ne_eq, not_false_eq_true, if_false, if_true, Option.getD_some, Bool.not_true, Bool.not_false, s2]) (by simp (failIfUnchanged := false) (maxSteps := 1000000) (maxDischargeDepth := 5) only [go_sem, cap_eq, Nat.reduceLT, Nat.reduceLeDiff, and_self, and_true, true_and, ↓reduceIte, decide_true, decide_false, Nat.le_refl, Nat.reduceEqDiff, reduceCtorEq, Nat.zero_add, Nat.reduceAdd, Nat.reducePow, Int.reduceEq, Int.reduceLT, Int.reduceLE, Int.reduceGT, Int.reduceGE, not_true_eq_false, Nat.reduceDiv, Nat.reduceMod, Nat.lt_add_one, Nat.lt_irrefl, Nat.add_lt_add_iff_left, Nat.lt_add_right_iff_pos, List.getElem?_cons_zero, List.getElem?_cons_succ, Option.bind_some, Nat.succ_ne_zero, ne_eq, not_false_eq_true, if_false, if_true, Option.getD_some, Bool.not_true, Bool.not_false, s3]) (by simp (failIfUnchanged := false) (maxSteps := 1000000) (maxDischargeDepth := 5) only [go_sem, cap_eq, Nat.reduceLT, Nat.reduceLeDiff, and_self, and_true, true_and, ↓reduceIte, decide_true, decide_false, Nat.le_refl, Nat.reduceEqDiff, reduceCtorEq, Nat.zero_add, Nat.reduceAdd, Nat.reducePow, Int.reduceEq, Int.reduceLT, Int.reduceLE, Int.reduceGT, Int.reduceGE, not_true_eq_false, Nat.reduceDiv, Nat.reduceMod, Nat.lt_add_one, Nat.lt_irrefl, Nat.add_lt_add_iff_left, Nat.lt_add_right_iff_pos, List.getElem?_cons_zero, List.getElem?_cons_succ, Option.bind_some, Nat.succ_ne_zero, ne_eq, not_false_eq_true, if_false, if_true, Option.getD_some, Bool.not_true, Bool.not_false, hc0, hc1, hne1, hne2]) (by simp (failIfUnchanged := false) (maxSteps := 1000000) (maxDischargeDepth := 5) only [go_sem, cap_eq, Nat.reduceLT, Nat.reduceLeDiff, and_self, and_true, true_and, ↓reduceIte, decide_true, decide_false, Nat.le_refl, Nat.reduceEqDiff, reduceCtorEq, Nat.zero_add, Nat.reduceAdd, Nat.reducePow, Int.reduceEq, Int.reduceLT, Int.reduceLE, Int.reduceGT, Int.reduceGE, not_true_eq_false, Nat.reduceDiv, Nat.reduceMod, Nat.lt_add_one, Nat.lt_irrefl, Nat.add_lt_add_iff_left, Nat.lt_add_right_iff_pos, List.getElem?_cons_zero, List.getElem?_cons_succ, Option.bind_some, Nat.succ_ne_zero, ne_eq, not_false_eq_true, if_false, if_true, Option.getD_some, Bool.not_true, Bool.not_false, hc0, hc1, hne1, hne2]) ?_
      refine hk _ ac ad ⟨cw, dl, lim + 268435456, notes⟩ r9 hread ?_ ?_ ?_ (by simp only [upd_next]; omega) hdl (by show cw.length ≤ 32768; omega)
      · have q : h.next + 2 ≤ h9.next := by omega
        have hc9 : h9.next < cap := by show _ < 1099511627776; omega
        exact (((OC.upd (by omega) q hc9 _).upd (by omega) (by simp only [upd_next]; exact q) (by simp only [upd_next]; exact hc9) _).upd (by omega) (by simp only [upd_next]; exact q) (by simp only [upd_next]; exact hc9) _).low (by omega)
      · have q : hh.next ≤ h9.next := by omega
        have hc9 : h9.next < cap := by show _ < 1099511627776; omega
        exact (((O9.upd (by omega) q hc9 _).upd (by omega) (by simp only [upd_next]; exact q) (by simp only [upd_next]; exact hc9) _).upd (by omega) (by simp only [upd_next]; exact q) (by simp only [upd_next]; exact hc9) _).low (by omega)
      · exact (((F8.trans F9).upd (Nat.le_refl _) hc0).upd (Nat.le_refl _) hc0).upd (by omega) hc1
    · simp (failIfUnchanged := false) (maxSteps := 1000000) (maxDischargeDepth := 5) only [go_sem, cap_eq, Nat.reduceLT, Nat.reduceLeDiff, and_self, and_true, true_and, ↓reduceIte, decide_true, decide_false, Nat.le_refl, Nat.reduceEqDiff, reduceCtorEq, Nat.zero_add, Nat.reduceAdd, Nat.reducePow, Int.reduceEq, Int.reduceLT, Int.reduceLE, Int.reduceGT, Int.reduceGE, not_true_eq_false, Nat.reduceDiv, Nat.reduceMod, Nat.lt_add_one, Nat.lt_irrefl, Nat.add_lt_add_iff_left, Nat.lt_add_right_iff_pos, List.getElem?_cons_zero, List.getElem?_cons_succ, Option.bind_some, Nat.succ_ne_zero, ne_eq, not_false_eq_true, if_false, if_true, Option.getD_some, Bool.not_true, Bool.not_false]
      refine bads _ h9 _ _ _ _ ?_ (by simp (failIfUnchanged := false) (maxSteps := 1000000) (maxDischargeDepth := 5) only [go_sem, cap_eq, Nat.reduceLT, Nat.reduceLeDiff, and_self, and_true, true_and, ↓reduceIte, decide_true, decide_false, Nat.le_refl, Nat.reduceEqDiff, reduceCtorEq, Nat.zero_add, Nat.reduceAdd, Nat.reducePow, Int.reduceEq, Int.reduceLT, Int.reduceLE, Int.reduceGT, Int.reduceGE, not_true_eq_false, Nat.reduceDiv, Nat.reduceMod, Nat.lt_add_one, Nat.lt_irrefl, Nat.add_lt_add_iff_left, Nat.lt_add_right_iff_pos, List.getElem?_cons_zero, List.getElem?_cons_succ, Option.bind_some, Nat.succ_ne_zero, ne_eq, not_false_eq_true, if_false, if_true, Option.getD_some, Bool.not_true, Bool.not_false, s2]) (by simp (failIfUnchanged := false) (maxSteps := 1000000) (maxDischargeDepth := 5) only [go_sem, cap_eq, Nat.reduceLT, Nat.reduceLeDiff, and_self, and_true, true_and, ↓reduceIte, decide_true, decide_false, Nat.le_refl, Nat.reduceEqDiff, reduceCtorEq, Nat.zero_add, Nat.reduceAdd, Nat.reducePow, Int.reduceEq, Int.reduceLT, Int.reduceLE, Int.reduceGT, Int.reduceGE, not_true_eq_false, Nat.reduceDiv, Nat.reduceMod, Nat.lt_add_one, Nat.lt_irrefl, Nat.add_lt_add_iff_left, Nat.lt_add_right_iff_pos, List.getElem?_cons_zero, List.getElem?_cons_succ, Option.bind_some, Nat.succ_ne_zero, ne_eq, not_false_eq_true, if_false, if_true, Option.getD_some, Bool.not_true, Bool.not_false, s3]) (I8.fr F9 hbr) (F8.trans F9) (by omega)
      unfold readP; rw [if_neg (by omega), e2]; simp only [e3, e4, e6, Int.toNat_natCast, hcode, hdata]
end S1
end
section
/- Layer 32 (pack): bytes as texts; bytes.Equal, bytes.Clone; what is read lies in its bounds. -/
open Go Go.Ev Go.Proofs Go.Proofs.Ythhohhbkeaghnaa PK
namespace PK
def strL (l : List Int) : List UInt8 := l.map fun z => UInt8.ofNat z.toNat
theorem strL_inj : ∀ {l l' : List Int}, (∀ z ∈ l, 0 ≤ z ∧ z ≤ 255) → (∀ z ∈ l', 0 ≤ z ∧ z ≤ 255) → strL l = strL l' → l = l'
  | [], [], _, _, _ => rfl
  | [], _ :: _, _, _, h => by simp [strL] at h
  | _ :: _, [], _, _, h => by simp [strL] at h
  | x :: l, y :: l', h1, h2, h => by
    simp only [strL, List.map_cons, List.cons.injEq] at h
    have hx := h1 x List.mem_cons_self
    have hy := h2 y List.mem_cons_self
    have e := congrArg UInt8.toNat h.1
    rw [UInt8.toNat_ofNat', UInt8.toNat_ofNat'] at e
    have exy : x = y := by omega
    rw [exy, strL_inj (fun z hz => h1 z (List.mem_cons_of_mem _ hz)) (fun z hz => h2 z (List.mem_cons_of_mem _ hz)) h.2]
theorem strL_beq {l l' : List Int} (h1 : ∀ z ∈ l, 0 ≤ z ∧ z ≤ 255) (h2 : ∀ z ∈ l', 0 ≤ z ∧ z ≤ 255) : (strL l == strL l') = decide (l = l') := by
  by_cases h : l = l'
  · subst h; simp
  · have : strL l ≠ strL l' := fun e => h (strL_inj h1 h2 e)
    simp [h, this]
theorem bytesV_vB : ∀ l : List Int, bytesV (l.map vB) = some (strL l)
  | [] => rfl
  | x :: l => by
    show oget (bytesV (l.map vB)) _ = _
    rw [bytesV_vB l]; rfl
theorem codeP_range : ∀ {k : Nat} {b : List Int} {cw r : List Int}, codeP k b = some (cw, r) → (∀ z ∈ b, 0 ≤ z ∧ z ≤ 255) → (∀ z ∈ cw, 0 ≤ z ∧ z < 4294967296) ∧ (∀ z ∈ r, 0 ≤ z ∧ z ≤ 255)
  | 0, b, cw, r, h, hb => by cases h; exact ⟨by simp, hb⟩
  | k + 1, b, cw, r, h, hb => by
    cases hn : numP b with
    | none => unfold codeP at h; rw [hn] at h; cases h
    | some p =>
      obtain ⟨n, r1⟩ := p
      rw [codeP_num hn] at h
      cases hc : codeP k r1 with
      | none => rw [hc] at h; cases h
      | some q =>
        obtain ⟨l, r2⟩ := q
        rw [hc] at h
        cases h
        have hn' : n = le4 b ∧ r1 = b.drop 4 := by
          unfold numP at hn
          by_cases hl : b.length < 4
          · rw [if_pos hl] at hn; cases hn
          · rw [if_neg hl] at hn; cases hn; exact ⟨rfl, rfl⟩
        have hb1 : ∀ z ∈ r1, 0 ≤ z ∧ z ≤ 255 := fun z hz => hb z (List.mem_of_mem_drop (hn'.2 ▸ hz))
        obtain ⟨g1, g2⟩ := codeP_range hc hb1
        refine ⟨fun z hz => ?_, g2⟩
        rcases List.mem_cons.1 hz with e | hz
        · rw [e, hn'.1]; exact le4_range hb
        · exact g1 z hz
theorem dataP_range : ∀ {k size : Nat} {o b d r : List Int}, dataP k size o b = some (d, r) → (∀ z ∈ b, 0 ≤ z ∧ z ≤ 255) → (∀ z ∈ o, 0 ≤ z ∧ z ≤ 255) → (∀ z ∈ d, 0 ≤ z ∧ z ≤ 255)
  | 0, size, o, b, d, r, h, hb, ho => by cases h
  | k + 1, size, o, b, d, r, h, hb, ho => by
    unfold dataP at h
    by_cases h1 : size ≤ o.length
    · rw [if_pos h1] at h; cases h; exact ho
    · rw [if_neg h1] at h
      cases b with
      | nil => cases h
      | cons n rr =>
        have hbr : ∀ z ∈ rr, 0 ≤ z ∧ z ≤ 255 := fun z hz => hb z (List.mem_cons_of_mem _ hz)
        simp only [] at h
        by_cases h2 : n > 127
        · rw [if_pos h2] at h
          by_cases h3 : rr = [] ∧ (o ++ List.replicate (n - 127).toNat 0).length < size
          · rw [if_pos h3] at h; cases h
          · rw [if_neg h3] at h
            refine dataP_range h hbr fun z hz => ?_
            rcases List.mem_append.1 hz with hz | hz
            · exact ho z hz
            · rw [List.eq_of_mem_replicate hz]; omega
        · rw [if_neg h2] at h
          by_cases h4 : n > (rr.length : Int)
          · rw [if_pos h4] at h; cases h
          · rw [if_neg h4] at h
            by_cases h3 : rr.drop n.toNat = [] ∧ (o ++ rr.take n.toNat).length < size
            · rw [if_pos h3] at h; cases h
            · rw [if_neg h3] at h
              refine dataP_range h (fun z hz => hbr z (List.mem_of_mem_drop hz)) fun z hz => ?_
              rcases List.mem_append.1 hz with hz | hz
              · exact ho z hz
              · exact hbr z (List.mem_of_mem_take hz)
theorem readP_range {b r : List Int} {g : Img} (h : readP b = some (g, r)) (hb : ∀ z ∈ b, 0 ≤ z ∧ z ≤ 255) : (∀ z ∈ g.cw, 0 ≤ z ∧ z < 4294967296) ∧ (∀ z ∈ g.dl, 0 ≤ z ∧ z ≤ 255) ∧ 268435456 ≤ g.limit ∧ g.limit ≤ 268435456 + 65536 ∧ 0 ≤ g.notes ∧ g.notes ≤ 64 ∧ 4 ≤ b.length := by
  unfold readP at h
  by_cases hl : b.length < 4
  · rw [if_pos hl] at h; cases h
  rw [if_neg hl] at h
  have hb0 : ∀ z ∈ b.drop 4, 0 ≤ z ∧ z ≤ 255 := fun z hz => hb z (List.mem_of_mem_drop hz)
  split at h
  · cases h
  rename_i code r1 e1
  split at h
  · cases h
  rename_i data r2 e2
  split at h
  · cases h
  rename_i lim r3 e3
  split at h
  · cases h
  rename_i notes r4 e4
  split at h
  · cases h
  rename_i cw r5 e5
  split at h
  · cases h
  rename_i dl r6 e6
  cases h
  obtain ⟨a1, a2, a3, a4⟩ := mostP_some e1
  have hb1 : ∀ z ∈ r1, 0 ≤ z ∧ z ≤ 255 := fun z hz => hb0 z (List.mem_of_mem_drop (a2 ▸ hz))
  obtain ⟨b1, b2, b3, b4⟩ := mostP_some e2
  have hb2 : ∀ z ∈ r2, 0 ≤ z ∧ z ≤ 255 := fun z hz => hb1 z (List.mem_of_mem_drop (b2 ▸ hz))
  obtain ⟨c1, c2, c3, c4⟩ := mostP_some e3
  have hb3 : ∀ z ∈ r3, 0 ≤ z ∧ z ≤ 255 := fun z hz => hb2 z (List.mem_of_mem_drop (c2 ▸ hz))
  obtain ⟨d1, d2, d3, d4⟩ := mostP_some e4
  have hb4 : ∀ z ∈ r4, 0 ≤ z ∧ z ≤ 255 := fun z hz => hb3 z (List.mem_of_mem_drop (d2 ▸ hz))
  obtain ⟨f1, f2⟩ := codeP_range e5 hb4
  have f3 := dataP_range e6 f2 (by simp)
  have q3 := le4_range hb2
  have q4 := le4_range hb3
  exact ⟨f1, f3, by show _ ≤ lim + _; omega, by show lim + _ ≤ _; omega, by show 0 ≤ notes; omega, d1, by omega⟩
end PK
namespace S1
set_option maxRecDepth 10000
theorem cv_36_9 (b off len cp : Nat) (h : AH) : aConvert E0 36 9 (.slice (some ⟨b, off, none⟩) len cp) h = oget (h.b.get b) fun blk => oget (getCells blk.cell off len) fun vs => oget (bytesV vs) fun bs => some (.string ⟨⟨bs⟩⟩, h) := by kernel_rfl
@[go_sem] theorem cv_36_9n (len cp : Nat) (h : AH) : aConvert E0 36 9 (.slice none len cp) h = some (.string ⟨⟨[]⟩⟩, h) := by kernel_rfl
theorem conv36 {a : Option Addr} {len cp : Nat} {l : List Int} {h : AH} (H : Holds h vB a len l) (hne : l ≠ []) : aConvert E0 36 9 (.slice a len cp) h = some (.string ⟨⟨strL l⟩⟩, h) := by
  obtain ⟨h1, _, h3 | ⟨b, off, blk, rfl, hb, hg, hc⟩⟩ := id H
  · exact absurd h3 hne
  · have hf := H.first (Nat.le_refl len) len cp
    rw [aFirst_some, hg, oget_some', Nat.mul_one, List.take_of_length_le (by omega)] at hf
    have hz : Nat.beq len 0 = false := beqF (by have := List.length_pos_iff.2 hne; omega)
    rw [hz, cond_false] at hf
    rw [cv_36_9, hg, oget_some', hf, oget_some', bytesV_vB, oget_some']
@[go_sem] theorem eq9 (s t : ByteArray) (cn : Bool) (h : AH) : aBin E0 .eql 9 cn (.string s) (.string t) h = some (.bool (s.data.toList == t.data.toList)) := by simp [aBin, binStr]
@[go_sem] theorem ne9 (s t : ByteArray) (cn : Bool) (h : AH) : aBin E0 .neq 9 cn (.string s) (.string t) h = some (.bool (!(s.data.toList == t.data.toList))) := by simp [aBin, binStr]
theorem spec33 (a a' : Option Addr) (len len' cp cp' : Nat) (l l' : List Int) (h : AH) (H : Holds h vB a len l) (H' : Holds h vB a' len' l') (h1 : l ≠ []) (h2 : l' ≠ []) (b1 : ∀ z ∈ l, 0 ≤ z ∧ z ≤ 255) (b2 : ∀ z ∈ l', 0 ≤ z ∧ z ≤ 255) :
    CL E0 ft0 (.fn 33) [.slice a len cp, .slice a' len' cp'] none h = .ret (.bool (decide (l = l'))) h false := by
  refine W_body (K := fun x => x = _) ft33 (by simp [Try.f33]) (by decide) ?_
  simp only [Try.f33]
  simp (failIfUnchanged := false) (maxSteps := 1000000) (maxDischargeDepth := 5) only [go_sem, cap_eq, Nat.reduceLT, Nat.reduceLeDiff, and_self, and_true, true_and, ↓reduceIte, decide_true, decide_false, Nat.le_refl, Nat.reduceEqDiff, reduceCtorEq, Nat.zero_add, Nat.reduceAdd, Nat.reducePow, Int.reduceEq, Int.reduceLT, Int.reduceLE, Int.reduceGT, Int.reduceGE, not_true_eq_false, Nat.reduceDiv, Nat.reduceMod, Nat.lt_add_one, Nat.lt_irrefl, Nat.add_lt_add_iff_left, Nat.lt_add_right_iff_pos, List.getElem?_cons_zero, List.getElem?_cons_succ, Option.bind_some, Nat.succ_ne_zero, ne_eq, not_false_eq_true, if_false, if_true, Option.getD_some, Bool.not_true, Bool.not_false, conv36 H h1, conv36 H' h2]
  rw [strL_beq b1 b2]
@[go_sem] theorem eq36 (b off l c l' c' : Nat) (cn : Bool) (h : AH) : aBin E0 .eql 36 cn (.slice (some ⟨b, off, none⟩) l c) (.slice none l' c') h = some (.bool false) := by kernel_rfl
theorem spec34 (a : Option Addr) (l : List Int) (len cp : Nat) (h : AH) (H : Holds h vB a len l) (hne : l ≠ []) (hb : l.length ≤ 1000000) (hc : h.next + 10 < 1099511627776) (K : CRes → Prop)
    (hk : ∀ h' a', Own h' vB 5 h.next a' l → Ext h h' → h'.next ≤ h.next + 3 → K (.ret (.slice a' len len) h' false)) :
    K (CL E0 ft0 (.fn 34) [.slice a len cp] none h) := by
  have hc0 : h.next < 1099511627776 := by omega
  obtain ⟨h1, _, h3 | ⟨b, off, blk, rfl, hb', hg, hcc⟩⟩ := id H
  · exact absurd h3 hne
  subst h1
  refine W_body ft34 (by simp [Try.f34]) (by decide) ?_
  simp only [Try.f34]
  simp (failIfUnchanged := false) (maxSteps := 1000000) (maxDischargeDepth := 5) only [go_sem, cap_eq, Nat.reduceLT, Nat.reduceLeDiff, and_self, and_true, true_and, ↓reduceIte, decide_true, decide_false, Nat.le_refl, Nat.reduceEqDiff, reduceCtorEq, Nat.zero_add, Nat.reduceAdd, Nat.reducePow, Int.reduceEq, Int.reduceLT, Int.reduceLE, Int.reduceGT, Int.reduceGE, not_true_eq_false, Nat.reduceDiv, Nat.reduceMod, Nat.lt_add_one, Nat.lt_irrefl, Nat.add_lt_add_iff_left, Nat.lt_add_right_iff_pos, List.getElem?_cons_zero, List.getElem?_cons_succ, Option.bind_some, Nat.succ_ne_zero, ne_eq, not_false_eq_true, if_false, if_true, Option.getD_some, Bool.not_true, Bool.not_false, hc0]
  have En := (Ext.refl h).new (.cells 0 (putCells .nil 0 []) 5 0 true) hc0
  have H' := H.ext En
  have O : Own (h.new (.cells 0 (putCells .nil 0 []) 5 0 true)) vB 5 h.next (some ⟨h.next, 0, none⟩) ([] : List Int) := OwnC.fresh (n := 0) (cs := []) rfl (Nat.le_refl _) hc0 (by decide) rfl
  refine app_many T36 (f := vB) (l := []) (n := 0) (x := .slice (some ⟨b, off, none⟩) l.length cp) (xs := l) rfl (by have := H'.first (Nat.le_refl _) l.length cp; rwa [List.take_of_length_le (Nat.le_refl _)] at this) rfl (fun _ => rfl) rfl (by omega) (by omega) (by simp (failIfUnchanged := false) (maxSteps := 1000000) (maxDischargeDepth := 5) only [go_sem, cap_eq, Nat.reduceLT, Nat.reduceLeDiff, and_self, and_true, true_and, ↓reduceIte, decide_true, decide_false, Nat.le_refl, Nat.reduceEqDiff, reduceCtorEq, Nat.zero_add, Nat.reduceAdd, Nat.reducePow, Int.reduceEq, Int.reduceLT, Int.reduceLE, Int.reduceGT, Int.reduceGE, not_true_eq_false, Nat.reduceDiv, Nat.reduceMod, Nat.lt_add_one, Nat.lt_irrefl, Nat.add_lt_add_iff_left, Nat.lt_add_right_iff_pos, List.getElem?_cons_zero, List.getElem?_cons_succ, Option.bind_some, Nat.succ_ne_zero, ne_eq, not_false_eq_true, if_false, if_true, Option.getD_some, Bool.not_true, Bool.not_false]; omega) O (by simp (failIfUnchanged := false) (maxSteps := 1000000) (maxDischargeDepth := 5) only [go_sem, cap_eq, Nat.reduceLT, Nat.reduceLeDiff, and_self, and_true, true_and, ↓reduceIte, decide_true, decide_false, Nat.le_refl, Nat.reduceEqDiff, reduceCtorEq, Nat.zero_add, Nat.reduceAdd, Nat.reducePow, Int.reduceEq, Int.reduceLT, Int.reduceLE, Int.reduceGT, Int.reduceGE, not_true_eq_false, Nat.reduceDiv, Nat.reduceMod, Nat.lt_add_one, Nat.lt_irrefl, Nat.add_lt_add_iff_left, Nat.lt_add_right_iff_pos, List.getElem?_cons_zero, List.getElem?_cons_succ, Option.bind_some, Nat.succ_ne_zero, ne_eq, not_false_eq_true, if_false, if_true, Option.getD_some, Bool.not_true, Bool.not_false]; omega) fun h4 a4 O4 hn4 hn4' hfr4 => ?_
  simp only [new_next'] at hn4 hn4' hfr4
  simp (failIfUnchanged := false) (maxSteps := 1000000) (maxDischargeDepth := 5) only [go_sem, cap_eq, Nat.reduceLT, Nat.reduceLeDiff, and_self, and_true, true_and, ↓reduceIte, decide_true, decide_false, Nat.le_refl, Nat.reduceEqDiff, reduceCtorEq, Nat.zero_add, Nat.reduceAdd, Nat.reducePow, Int.reduceEq, Int.reduceLT, Int.reduceLE, Int.reduceGT, Int.reduceGE, not_true_eq_false, Nat.reduceDiv, Nat.reduceMod, Nat.lt_add_one, Nat.lt_irrefl, Nat.add_lt_add_iff_left, Nat.lt_add_right_iff_pos, List.getElem?_cons_zero, List.getElem?_cons_succ, Option.bind_some, Nat.succ_ne_zero, ne_eq, not_false_eq_true, if_false, if_true, Option.getD_some, Bool.not_true, Bool.not_false]
  refine hk h4 a4 (by simpa using O4) ⟨by omega, fun i hi => ?_⟩ (by omega)
  rw [hfr4 i (by omega) (fun x hx => by cases hx; show i ≠ h.next; omega), get_new_ne hi hc0]
end S1
end
