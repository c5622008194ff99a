/- A deterministic evaluator of the model's code over a memory of its own: copy, make, literals, conversions. -/
import Derived.Test.YthhohhbkeaghnaaEVg
set_option linter.unusedSimpArgs false
set_option linter.unusedVariables false
set_option linter.unusedSectionVars false
namespace Go.Ev
variable {E : Env} {P : Program}

theorem aCopy_sound (ok : Ok E P) {ρ : Rn} {h h' : AH} {w : World} (hr : WRel ρ h w) {dt : TypeId} {d d' s s' v : Value} (hd : ren ρ d = some d') (hs : ren ρ s = some s') {ats : Array TypeId} {ty : TypeId} (h0 : ats[0]? = some dt)
    (e : aCopy E dt d s h = some (v, h')) : Good P ρ h w (Builtin.copy_ ats ty #[d', s']) v h' := by
  unfold aCopy at e
  rw [oget_some] at e; obtain ⟨i, hi, e⟩ := e
  split at e
  · rename_i el base dl cp hu
    rw [oget_some] at e; obtain ⟨ei, hei, e⟩ := e
    rw [oget_some] at e; obtain ⟨sl, hsl, e⟩ := e
    simp only at e
    rw [oget_some] at e; obtain ⟨vs, hvs, e⟩ := e
    have hn : (bif Nat.ble sl dl then sl else dl) = Nat.min sl dl := by
      cases hb : Nat.ble sl dl with
      | true => have := of_ble hb; simp [Nat.min_eq_left this]
      | false =>
        have : ¬ sl ≤ dl := fun hh => by rw [Nat.ble_eq_true_of_le hh] at hb; cases hb
        simp [Nat.min_eq_right (Nat.le_of_not_le this)]
    rw [hn] at e hvs
    obtain ⟨vs', h1, h2⟩ := aFirst_sound (P := P) hr hs hvs
    have run : ∀ base' cp', (Builtin.copy_ ats ty #[.slice base' dl cp', s']).run P w = (match base' with
        | some a => ((storeCells a vs').run P w).andThen fun _ w => .ok (.int .i64 (Nat.min sl dl)) w
        | none => .ok (.int .i64 (Nat.min sl dl)) w) := by
      intro base' cp'
      unfold Builtin.copy_
      simp only [h0, List.getElem?_toArray, List.getElem?_cons_zero, List.getElem?_cons_succ, Sem.run_bind, ok.run_underlying hi, hu, Result.andThen_ok, lenV_sound hs hsl, ok.run_sizeOf hei, h2, Sem.run_pure]
      cases base' <;> simp [goInt]
    cases hl : vs.length.beq 0 with
    | true =>
      simp only [hl, cond_true, Option.some.injEq, Prod.mk.injEq] at e
      obtain ⟨rfl, rfl⟩ := e
      have hvs0 : vs = [] := List.eq_nil_of_length_eq_zero (of_beq hl)
      subst hvs0
      rw [renL_nil.1 h1] at run
      refine Good.same hr (v' := .int .i64 (Nat.min sl dl)) (by simp [ren]) ?_
      rcases base with _ | ⟨b, o, _ | _⟩
      · simp [ren] at hd; subst hd; rw [run]
      · obtain ⟨c, sh, x0, _, rfl⟩ := ren_slice hd; rw [run]; simp [storeCells]
      · simp [ren] at hd
    | false =>
      simp only [hl, cond_false] at e
      split at e
      · rename_i b off
        rw [oget_some] at e; obtain ⟨h1', hw, e⟩ := e
        cases e
        obtain ⟨c, sh, x0, hρ, rfl⟩ := ren_slice hd
        have hbcap : b < cap := by
          unfold aWrite at hw
          split at hw
          · rename_i hblk; exact hr.low b _ hblk
          · cases hw
        obtain ⟨w', g1, g2⟩ := aWrite_sound (P := P) hr h1 hρ hbcap hw
        refine ⟨ρ, w', .int .i64 (Nat.min sl dl), g2, by simp [ren], ?_⟩
        rw [run]; simp only [g1]; rfl
      · cases e
  · cases e

theorem aMakeSlice_sound (ok : Ok E P) {ρ : Rn} {h h' : AH} {w : World} (hr : WRel ρ h w) {t : TypeId} {l l' c c' v : Value} (hl : ren ρ l = some l') (hc : ren ρ c = some c')
    (e : aMakeSlice E t l c h = some (v, h')) (room : Room ρ h.next h'.next) : Good P ρ h w (Instr.makeSlice t l' c') v h' := by
  unfold aMakeSlice at e
  rw [oget_some] at e; obtain ⟨i, hi, e⟩ := e
  split at e
  · rename_i el kl l kc c hu
    rw [oget_some] at e; obtain ⟨ei, hei, e⟩ := e
    rw [oget_some] at e; obtain ⟨z, hz, e⟩ := e
    rw [bif_some] at e
    obtain ⟨hcnd, e⟩ := e
    simp only [Bool.and_eq_true, decide_eq_true_eq] at hcnd
    obtain ⟨⟨⟨⟨⟨⟨⟨c1, c2⟩, c3⟩, c4⟩, c5⟩, c6⟩, c7⟩, c8⟩ := hcnd
    have c4 := of_blt c4
    have c5 := of_beq c5
    have c7 := of_blt c7
    have c8 := of_blt c8
    cases e
    simp [ren] at hl hc; subst hl; subst hc
    have hn : ρ h.next = none := room _ (Nat.le_refl _) (Nat.lt_succ_self _)
    rw [Array.length_toList] at c5
    have hzr := ren_cells (ok.zero hei hz ρ)
    obtain ⟨info, hinfo, _, hbytes, _⟩ := ok.run_typeInfo hei w
    have htoo : ∀ m : Int, 0 ≤ m → m ≤ c → (decide (m < 0) || decide ((ei.bytes : Int) * m > 2 ^ 48)) = false := by
      intro m h0 h1
      have hm : (ei.bytes : Int) * m ≤ (ei.bytes : Int) * (c.toNat : Int) := Int.mul_le_mul_of_nonneg_left (by omega) (Int.natCast_nonneg _)
      rw [← Int.natCast_mul, Nat.mul_comm] at hm
      simp only [Bool.or_eq_false_iff, decide_eq_false_iff_not]
      constructor
      · omega
      · omega
    have hlen : (repl z.cells.toList c.toNat).length = c.toNat * ei.size := by rw [repl_length, Array.length_toList, c5]
    refine ⟨_, _, .slice (some ⟨w.heap.size, 0, none⟩) l.toNat c.toNat, Step.newCells hr (renL_repl hzr c.toNat) c7 hn [] 0 0 (by simp) (fun _ => rfl) el (w' := { w with heap := w.heap.push (.cells ⟨repl z.cells.toList c.toNat⟩ el (0, 0)) }) (by simp) rfl rfl rfl hlen.symm _ (fun j hj => putNil_get (by omega) j (by omega)), by simp [ren, ins_self], ?_⟩
    have hwl : IntKind.i64.wrap l = l := wrap_small c1 (by omega)
    have hwc : IntKind.i64.wrap c = c := wrap_small (by omega) c3
    have hasl : (asInt (.int kl l)).run P w = .ok l w := rfl
    have hasc : (asInt (.int kc c)).run P w = .ok c w := rfl
    unfold Instr.makeSlice
    simp only [Sem.run_bind, ok.run_underlying hi, hu, Result.andThen_ok, hasl, hasc, hinfo, hbytes, hwl, hwc, htoo c (by omega) (Int.le_refl _), Bool.false_or, show decide (l < 0) = false from by simpa using c1, show decide (l > c) = false from by simpa using c2, Bool.false_eq_true, if_false, run_askRoom, ok.run_sizeOf hei]
    by_cases hz0 : c.toNat * ei.size = 0
    · have hnil : repl z.cells.toList c.toNat = [] := List.eq_nil_of_length_eq_zero (by rw [hlen]; exact hz0)
      simp only [hz0, if_true, Sem.run_bind, Sem.run_pure, Result.andThen_ok, run_newRow, hnil]
      have : (Array.range 0).map (fun i => (#[] : Array Value)[i % (#[] : Array Value).size]!) = ⟨[]⟩ := by simp
      rw [this]
    · simp only [hz0, if_false, Sem.run_bind, ok.run_zero hei hz, Result.andThen_ok, Sem.run_pure, run_newRow]
      rw [range_repl z.cells c.toNat (c.toNat * ei.size) (by rw [c5])]
  · cases e

/-! ### Literals -/
def PartsRel (ρ : Rn) : List (Nat × Value) → List (Nat × Value) → Prop
  | [], [] => True
  | (i, v) :: l, (j, u) :: m => i = j ∧ ren ρ v = some u ∧ PartsRel ρ l m
  | _, _ => False

theorem splice (cells : Array Value) (vs : List Value) (off : Nat) (h : off + vs.length ≤ cells.size) :
    (vs.zipIdx 0).foldl (fun cs (x : Value × Nat) => cs.setIfInBounds (off + x.2) x.1) cells = ⟨cells.toList.take off ++ vs ++ cells.toList.drop (off + vs.length)⟩ := by
  obtain ⟨g1, g2⟩ := Great.foldl_set off vs 0 cells
  apply Array.ext'
  apply List.ext_getElem?
  intro k
  rw [Array.getElem?_toList, g2 k]
  simp only [Nat.add_zero]
  by_cases h1 : k < off
  · rw [if_neg (by omega), List.append_assoc, List.getElem?_append_left (by simp; omega), List.getElem?_take, if_pos h1, Array.getElem?_toList]
  · by_cases h2 : k < off + vs.length
    · rw [if_pos (by omega), List.append_assoc, List.getElem?_append_right (by simp; omega), List.getElem?_append_left (by simp; omega)]
      congr 1
      simp; omega
    · rw [if_neg (by omega), List.append_assoc, List.getElem?_append_right (by simp; omega), List.getElem?_append_right (by simp; omega), List.getElem?_drop]
      rw [Array.getElem?_toList]
      congr 1
      simp; omega

theorem fillV_sound {ρ : Rn} {place : Nat → Option (Nat × Nat)} : ∀ {parts parts' : List (Nat × Value)} {cells cells' cs : List Value}, PartsRel ρ parts parts' → renL ρ cells = some cells' → fillV place cells parts = some cs →
    ∃ cs', renL ρ cs = some cs' ∧ Instr.fill place ⟨cells'⟩ parts' = some ⟨cs'⟩
  | [], [], cells, cells', cs, _, hc, e => by simp [fillV] at e; subst e; exact ⟨cells', hc, rfl⟩
  | [], _ :: _, _, _, _, hp, _, _ => hp.elim
  | _ :: _, [], _, _, _, hp, _, _ => hp.elim
  | (i, v) :: l, (j, u) :: m, cells, cells', cs, hp, hc, e => by
    obtain ⟨rfl, hv, hp⟩ := hp
    simp only [fillV] at e
    cases hpl : place i with
    | none => simp [hpl] at e
    | some os =>
      obtain ⟨off, size⟩ := os
      simp only [hpl, bif_some, Bool.and_eq_true] at e
      obtain ⟨⟨h1, h2⟩, e⟩ := e
      have h1 := of_beq h1
      have h2 := of_ble h2
      have hvc := ren_cells hv
      have hvl := renL_length hvc
      have hcl := renL_length hc
      obtain ⟨cs', r1, r2⟩ := fillV_sound hp (renL_append (renL_append (renL_take off hc) hvc) (renL_drop (off + size) hc)) e
      refine ⟨cs', r1, ?_⟩
      simp only [Instr.fill, hpl]
      have hus : u.cells.size = size := by rw [← Array.length_toList, hvl, h1]
      rw [if_neg (by simp [hus]; omega)]
      have : u.cells.zipIdx.foldl (fun cs (x : Value × Nat) => cs.setIfInBounds (off + x.2) x.1) (⟨cells'⟩ : Array Value) = ⟨cells'.take off ++ u.cells.toList ++ cells'.drop (off + size)⟩ := by
        rw [← Array.foldl_toList, Array.toList_zipIdx]
        rw [splice ⟨cells'⟩ u.cells.toList off (by simp [hus]; omega)]
        simp [hus]
      rw [← r2]
      exact congrArg (fun a => Instr.fill place a m) this

theorem packed_fill {size : Nat} : ∀ {parts : List (Nat × Value)} {k : Nat} {cs pre mid : List Value}, packed size k parts = some cs → pre.length = k * size → mid.length = parts.length * size →
    fillV (fun i => some (i * size, size)) (pre ++ mid) parts = some (pre ++ cs)
  | [], k, cs, pre, mid, e, h1, h2 => by
    simp [packed] at e; subst e
    have : mid = [] := List.eq_nil_of_length_eq_zero (by simpa using h2)
    subst this
    rfl
  | (i, v) :: l, k, cs, pre, mid, e, h1, h2 => by
    simp only [packed, bif_some, Bool.and_eq_true] at e
    obtain ⟨⟨hi, hs⟩, e⟩ := e
    rw [oget_some] at e; obtain ⟨rest, hr, e⟩ := e
    cases e
    have hi := of_beq hi
    have hs' := of_beq hs
    subst hi
    have h2' : mid.length = l.length * size + size := by rw [h2, List.length_cons, Nat.add_mul, Nat.one_mul]
    simp only [fillV]
    rw [hs, show Nat.ble (i * size + size) (pre ++ mid).length = true from Nat.ble_eq_true_of_le (by simp; omega)]
    simp only [Bool.and_self, cond_true]
    have a1 : (pre ++ mid).take (i * size) = pre := by rw [← h1]; simp
    have a2 : (pre ++ mid).drop (i * size + size) = mid.drop size := by rw [← h1, List.drop_append]; simp
    rw [a1, a2]
    have := packed_fill (pre := pre ++ v.cells.toList) (mid := mid.drop size) hr (by simp only [List.length_append]; rw [hs', h1, Nat.add_mul, Nat.one_mul]) (by simp; omega)
    rw [this, List.append_assoc]

theorem placesL_run (ok : Ok E P) (w : World) : ∀ {fs : List Field} {pl : List (Nat × Nat)}, placesL E fs = some pl → (fs.mapM fun f => (do pure (f.offset, ← sizeOf f.type) : Sem (Nat × Nat))).run P w = .ok pl w
  | [], pl, e => by simp [placesL] at e; subst e; simp
  | f :: fs, pl, e => by
    simp only [placesL] at e
    rw [oget_some] at e; obtain ⟨fi, hfi, e⟩ := e
    rw [oget_some] at e; obtain ⟨l, hl, e⟩ := e
    cases e
    have := placesL_run ok w hl
    simp only [List.mapM_cons, Sem.run_bind, ok.run_sizeOf hfi, Result.andThen_ok, Sem.run_pure, this]

theorem aBuild_sound (ok : Ok E P) {ρ : Rn} {w : World} {t : TypeId} {parts parts' : List (Nat × Value)} {v : Value} (hp : PartsRel ρ parts parts') (e : aBuild E t parts = some v) :
    ∃ v', ren ρ v = some v' ∧ (Instr.build t ⟨parts'⟩).run P w = .ok v' w := by
  unfold aBuild at e
  rw [oget_some] at e; obtain ⟨i, hi, e⟩ := e
  rw [oget_some] at e; obtain ⟨z, hz, e⟩ := e
  have hzr := ren_cells (ok.zero hi hz ρ)
  have arr : ∀ n el ei cs, i.und = .array n el → tInfo E el = some ei → fillV (fun i => some (i * ei.size, ei.size)) z.cells.toList parts = some cs →
      ∃ v', ren ρ (.agg ⟨cs⟩) = some v' ∧ (Instr.build t ⟨parts'⟩).run P w = .ok v' w := by
    intro n el ei cs hu hei hf
    obtain ⟨cs', h1, h2⟩ := fillV_sound hp hzr hf
    refine ⟨_, ren_agg.2 ⟨cs', h1, rfl⟩, ?_⟩
    unfold Instr.build
    simp only [Sem.run_bind, ok.run_zero hi hz, Result.andThen_ok, ok.run_underlying hi, hu, ok.run_sizeOf hei]
    have h2' : Instr.fill (fun i => some (i * ei.size, ei.size)) z.cells parts' = some ⟨cs'⟩ := by simpa using h2
    simp [h2']
  split at e
  · rename_i fs hu
    rw [oget_some] at e; obtain ⟨pl, hpl, e⟩ := e
    rw [oget_some] at e; obtain ⟨cs, hf, e⟩ := e
    cases e
    obtain ⟨cs', h1, h2⟩ := fillV_sound hp hzr hf
    refine ⟨_, ren_agg.2 ⟨cs', h1, rfl⟩, ?_⟩
    have hm := placesL_run ok w hpl
    unfold Instr.build
    simp only [Sem.run_bind, ok.run_zero hi hz, Result.andThen_ok, ok.run_underlying hi, hu, Array.mapM_eq_mapM_toList, Sem.run_map, hm]
    have h2' : Instr.fill (fun x => (pl.toArray : Array (Nat × Nat))[x]?) z.cells parts' = some ⟨cs'⟩ := by simpa using h2
    simp only [h2', Sem.run_pure]
  · rename_i n el hu
    rw [oget_some] at e; obtain ⟨ei, hei, e⟩ := e
    cases hc : (parts.length.beq n && z.cells.toList.length.beq (n * ei.size)) with
    | true =>
      simp only [hc, cond_true] at e
      simp only [Bool.and_eq_true] at hc
      split at e
      · rename_i cs hpk
        cases e
        refine arr n el ei cs hu hei ?_
        have := packed_fill (pre := []) (mid := z.cells.toList) hpk (by simp) (by rw [of_beq hc.2, of_beq hc.1])
        simpa using this
      · rw [oget_some] at e; obtain ⟨cs, hf, e⟩ := e
        cases e
        exact arr n el ei cs hu hei hf
    | false =>
      simp only [hc, cond_false] at e
      rw [oget_some] at e; obtain ⟨cs, hf, e⟩ := e
      cases e
      exact arr n el ei cs hu hei hf
  · cases e

theorem aBuildSlice_sound (ok : Ok E P) {ρ : Rn} {h h' : AH} {w : World} (hr : WRel ρ h w) {t : TypeId} {len : Nat} {parts parts' : List (Nat × Value)} {v : Value} (hp : PartsRel ρ parts parts') (e : aBuildSlice E t len parts h = some (v, h')) (room : Room ρ h.next h'.next) :
    Good P ρ h w (Instr.buildSlice t len ⟨parts'⟩) v h' := by
  unfold aBuildSlice at e
  rw [oget_some] at e; obtain ⟨i, hi, e⟩ := e
  split at e
  · rename_i el hu
    rw [oget_some] at e; obtain ⟨ei, hei, e⟩ := e
    rw [oget_some] at e; obtain ⟨z, hz, e⟩ := e
    rw [bif_some] at e
    obtain ⟨hc, e⟩ := e
    simp only [Bool.and_eq_true] at hc
    have c1 := of_beq hc.1
    have c2 := of_blt hc.2
    rw [Array.length_toList] at c1
    have hzr := ren_cells (ok.zero hei hz ρ)
    rw [oget_some] at e; obtain ⟨cs, hcs, e⟩ := e
    rw [bif_some] at e
    obtain ⟨hc2, e⟩ := e
    simp only [Bool.and_eq_true] at hc2
    cases e
    have hf : fillV (fun i => some (i * ei.size, ei.size)) (repl z.cells.toList len) parts = some cs := by
      split at hcs
      · rename_i cs0 hpk
        cases hcs
        cases hlen : parts.length.beq len with
        | false => simp [hlen] at hpk
        | true =>
          simp only [hlen, cond_true] at hpk
          have := packed_fill (pre := []) (mid := repl z.cells.toList len) hpk (by simp) (by rw [repl_length, Array.length_toList, c1, of_beq hlen])
          simpa using this
      · exact hcs
    obtain ⟨cs', h1, h2⟩ := fillV_sound hp (renL_repl hzr len) hf
    have hn : ρ h.next = none := room _ (Nat.le_refl _) (Nat.lt_succ_self _)
    refine ⟨_, _, .slice (some ⟨w.heap.size, 0, none⟩) len len, Step.newCells hr h1 (of_blt hc2.1.2) hn [] 0 0 (by simp) (fun _ => rfl) el (w' := { w with heap := w.heap.push (.cells ⟨cs'⟩ el (0, 0)) }) (by simp) rfl rfl rfl rfl _ (putNil_get (of_blt hc2.2)), by simp [ren, ins_self], ?_⟩
    unfold Instr.buildSlice
    simp only [Sem.run_bind, ok.run_underlying hi, hu, Result.andThen_ok, ok.run_sizeOf hei, show ¬ len * ei.size > 2 ^ 24 by omega, if_false]
    have harr : (Array.range (len * ei.size)).map (fun i => z.cells[i % z.cells.size]!) = ⟨repl z.cells.toList len⟩ := range_repl z.cells len _ (by rw [c1])
    by_cases h0 : len * ei.size = 0
    · have hnil : repl z.cells.toList len = [] := List.eq_nil_of_length_eq_zero (by rw [repl_length, Array.length_toList, c1]; exact h0)
      rw [hnil] at h2
      have harr0 : (Array.range 0).map (fun i => (#[] : Array Value)[i % (#[] : Array Value).size]!) = ⟨[]⟩ := by simp
      simp only [h0, if_true, Sem.run_bind, Sem.run_pure, Result.andThen_ok, harr0, h2, run_newRow]
    · simp only [h0, if_false, Sem.run_bind, ok.run_zero hei hz, Result.andThen_ok, Sem.run_pure, harr, h2, run_newRow]
  · cases e

end Go.Ev
