/- A deterministic evaluator of the model's code over a memory of its own: its operations are the model's, one by one. -/
import Derived.Test.YthhohhbkeaghnaaEVd
import Derived.Great.FillDense
import Derived.Laws.Append
set_option linter.unusedSimpArgs false
set_option linter.unusedVariables false
set_option linter.unusedSectionVars false
namespace Go.Ev
variable {E : Env} {P : Program}

/-- What a computation of the model comes to, seen from here. -/
def Good (P : Program) (ρ : Rn) (h : AH) (w : World) (s : Sem Value) (v : Value) (h' : AH) : Prop :=
  ∃ ρ' w' v', Step ρ h w ρ' h' w' ∧ ren ρ' v = some v' ∧ s.run P w = .ok v' w'

theorem Good.same {ρ : Rn} {h : AH} {w : World} {s : Sem Value} {v v' : Value} (hr : WRel ρ h w) (hv : ren ρ v = some v') (hs : s.run P w = .ok v' w) : Good P ρ h w s v h :=
  ⟨ρ, w, v', Step.refl hr, hv, hs⟩

mutual
theorem plainZ_ren (ρ : Rn) : ∀ (v : Value), plainZ v = true → ren ρ v = some v
  | .bool _, _ => by simp [ren]
  | .int _ _, _ => by simp [ren]
  | .float _ _, h => by simp [plainZ] at h
  | .complex _ _ _, h => by simp [plainZ] at h
  | .string _, _ => by simp [ren]
  | .pointer none, _ => by simp [ren]
  | .pointer (some _), h => by simp [plainZ] at h
  | .slice none _ _, _ => by simp [ren]
  | .slice (some _) _ _, h => by simp [plainZ] at h
  | .map none, _ => by simp [ren]
  | .map (some _), h => by simp [plainZ] at h
  | .chan _, h => by simp [plainZ] at h
  | .func _ _ _, h => by simp [plainZ] at h
  | .nilFunc, _ => by simp [ren]
  | .iface t v, h => by simp [plainZ] at h; simp [ren, plainZ_ren ρ v h]
  | .nilIface, _ => by simp [ren]
  | .agg a, h => by simp [plainZ] at h; simp [ren, plainA_ren ρ a h]
  | .tuple _, h => by simp [plainZ] at h
theorem plainA_ren (ρ : Rn) : ∀ (a : Array Value), plainA a = true → renA ρ a = some a
  | ⟨l⟩, h => by simp [plainA] at h; simp [renA, plainL_ren ρ l h]
theorem plainL_ren (ρ : Rn) : ∀ (l : List Value), plainL l = true → renL ρ l = some l
  | [], _ => by simp [renL]
  | v :: l, h => by simp [plainL] at h; simp [renL, plainZ_ren ρ v h.1, plainL_ren ρ l h.2]
end

theorem Ok.zero (ok : Ok E P) {t : TypeId} {i : TInfo} {z : Value} (h : tInfo E t = some i) (hz : i.zero = some z) (ρ : Rn) : ren ρ z = some z := by
  obtain ⟨_, info, _, _, _, h4, _⟩ := ok.und h
  exact plainZ_ren ρ z (h4 z hz).2

theorem ins_self (ρ : Rn) (b : Nat) (r : Nat × Nat × Nat) : (ρ.ins b r) b = some r := by simp [Rn.ins]

/-- A new row of cells. -/
theorem Step.newCells {ρ : Rn} {h : AH} {w : World} (hr : WRel ρ h w) {cs cs' : List Value} (hv : renL ρ cs = some cs') (hcap : h.next < cap) (hn : ρ h.next = none)
    (ex : List Value) (opn x : Nat) (hx : ex.length = x * opn) (h0 : opn = 0 → x = 0) (t : TypeId) {w' : World} (hw : w'.heap = w.heap.push (.cells ⟨cs' ++ ex⟩ t (0, 0))) (q1 : w'.os = w.os) (q2 : w'.tape = w.tape) (q3 : w'.output = w.output)
    {n : Nat} (hnl : n = cs.length) (tr : Tr Value) (htr : ∀ i, i < n → tr.get i = cs[i]?) (wh : Bool := true) :
    Step ρ h w (ρ.ins h.next (w.heap.size, 0, x)) (h.new (.cells n tr t opn wh)) w' := by
  subst hnl
  have hsub : Sub ρ (ρ.ins h.next (w.heap.size, 0, x)) := Rn.sub_ins hn
  have hl := renL_length hv
  refine Step.new hr hn hcap rfl ?_ (by simp [hw]) (fun _ => Nat.le_refl _) (fun k hk => by simp [hw, Array.getElem?_push, Nat.ne_of_lt hk]) q1 q2 q3
  refine ⟨⟨cs' ++ ex⟩, 0, 0, by simp [hw], by simp [hl, hx], h0, fun i hi => ?_, by simp, by simp⟩
  obtain ⟨u', e1, e2⟩ := renL_get hv i cs[i] (List.getElem?_eq_getElem hi)
  refine ⟨cs[i], u', ?_, ren_mono hsub _ _ e1, ?_⟩
  · rw [htr i hi]
    simp [List.getElem?_eq_getElem hi]
  · simp only [Nat.zero_add, List.getElem?_toArray]
    rw [List.getElem?_append_left (by omega)]
    exact e2

theorem putNil_get {cs : List Value} (hl : cs.length < cap) (i : Nat) (hi : i < cs.length) : (putCells .nil 0 cs).get i = cs[i]? := by
  rw [putCells_get _ _ _ _ (by omega), if_pos (by omega)]
  simp

theorem run_newRow (t : TypeId) (cs : Array Value) (w : World) : (newRow t cs).run P w = .ok ⟨w.heap.size, 0, none⟩ { w with heap := w.heap.push (.cells cs t (0, 0)) } := by
  simp [newRow]

theorem aNewCells_sound {ρ : Rn} {h h' : AH} {w : World} (hr : WRel ρ h w) {cs cs' : List Value} (hv : renL ρ cs = some cs') {t : TypeId} {v : Value} (e : aNewCells h cs t = some (v, h')) (room : Room ρ h.next h'.next) :
    Good P ρ h w (do pure (.pointer (some (← newRow t ⟨cs'⟩)))) v h' := by
  unfold aNewCells at e
  rw [bif_some] at e
  obtain ⟨hc, e⟩ := e
  simp only [Bool.and_eq_true] at hc
  cases e
  have hn : ρ h.next = none := room _ (Nat.le_refl _) (Nat.lt_succ_self _)
  refine ⟨_, _, .pointer (some ⟨w.heap.size, 0, none⟩), Step.newCells hr hv (of_blt hc.1.2) hn [] 0 0 (by simp) (fun _ => rfl) t (w' := { w with heap := w.heap.push (.cells ⟨cs'⟩ t (0, 0)) }) (by simp) rfl rfl rfl rfl _ (putNil_get (of_blt hc.2)), ?_, ?_⟩
  · simp [ren, Rn.addr, ins_self]
  · simp [run_newRow]

theorem aAlloc_sound (ok : Ok E P) {ρ : Rn} {h h' : AH} {w : World} (hr : WRel ρ h w) {t : TypeId} {v : Value} (e : aAlloc E t h = some (v, h')) (room : Room ρ h.next h'.next) :
    Good P ρ h w (Instr.alloc t true (.tuple #[])) v h' := by
  unfold aAlloc at e
  rw [oget_some] at e; obtain ⟨i, hi, e⟩ := e
  rw [oget_some] at e; obtain ⟨z, hz, e⟩ := e
  have hzr := ren_cells (ok.zero hi hz ρ)
  obtain ⟨ρ', w', v', h1, h2, h3⟩ := aNewCells_sound (P := P) hr hzr e room
  refine ⟨ρ', w', v', h1, h2, ?_⟩
  simp only [Instr.alloc, Sem.run_bind, ok.run_zero hi hz, Result.andThen_ok, newVar] at h3 ⊢
  exact h3

theorem aBox_sound {ρ : Rn} {h h' : AH} {w : World} (hr : WRel ρ h w) {t : TypeId} {x x' v : Value} (hx : ren ρ x = some x') (e : aNewCells h x.cells.toList t = some (v, h')) (room : Room ρ h.next h'.next) :
    Good P ρ h w (Instr.box t x') v h' := by
  have := aNewCells_sound (P := P) hr (ren_cells hx) e room
  exact this

/-! ### Parts of structs and arrays -/
theorem partV_sound (ok : Ok E P) {ρ : Rn} {w : World} {t : TypeId} {cs cs' : List Value} {off : Nat} {v : Value} (hc : renL ρ cs = some cs') (e : partV E t cs off = some v) :
    ∃ v', ren ρ v = some v' ∧ (part t ⟨cs'⟩ off).run P w = .ok v' w := by
  unfold partV at e
  rw [oget_some] at e; obtain ⟨i, hi, e⟩ := e
  cases hag : isAggD i.und with
  | true =>
    rw [hag] at e
    simp only [cond_true, bif_some, Option.some.injEq] at e
    obtain ⟨hle, e⟩ := e
    subst e
    refine ⟨.agg ⟨(cs'.drop off).take i.size⟩, ren_agg.2 ⟨_, renL_take _ (renL_drop _ hc), rfl⟩, ?_⟩
    simp only [part, Sem.run_bind, ok.run_isAgg hi, hag, Result.andThen_ok, if_true, ok.run_sizeOf hi, Sem.run_pure]
    congr 2
    apply Array.ext'
    simp [List.extract_eq_take_drop]
  | false =>
    rw [hag] at e
    simp only [cond_false] at e
    obtain ⟨v', h1, h2⟩ := renL_get hc _ _ e
    refine ⟨v', h1, ?_⟩
    simp only [part, Sem.run_bind, ok.run_isAgg hi, hag, Result.andThen_ok, Bool.false_eq_true, if_false]
    simp [h2]

theorem aField_sound (ok : Ok E P) {ρ : Rn} {w : World} {t : TypeId} {x x' v : Value} {f : Nat} (hx : ren ρ x = some x') (e : aField E t x f = some v) :
    ∃ v', ren ρ v = some v' ∧ (Instr.field t x' f).run P w = .ok v' w := by
  unfold aField at e
  rw [oget_some] at e; obtain ⟨i, hi, e⟩ := e
  split at e
  · rename_i fs cs hu
    rw [oget_some] at e; obtain ⟨fd, hf, e⟩ := e
    obtain ⟨cs', hc, rfl⟩ := ren_agg.1 hx
    obtain ⟨v', h1, h2⟩ := partV_sound ok (w := w) hc e
    refine ⟨v', h1, ?_⟩
    rw [Array.getElem?_toList] at hf
    simp only [Instr.field, Sem.run_bind, ok.run_underlying hi, hu, Result.andThen_ok, hf, asAgg, Sem.run_pure, h2]
  · cases e

theorem aFieldAddr_sound (ok : Ok E P) {ρ : Rn} {w : World} {t : TypeId} {x x' v : Value} {f : Nat} (hx : ren ρ x = some x') (e : aFieldAddr E t x f = some v) :
    ∃ v', ren ρ v = some v' ∧ (Instr.fieldAt t x' f).run P w = .ok v' w := by
  unfold aFieldAddr at e
  rw [oget_some] at e; obtain ⟨i, hi, e⟩ := e
  split at e
  · rename_i fs b off hu
    rw [oget_some] at e; obtain ⟨fd, hf, e⟩ := e
    rw [oget_some] at e; obtain ⟨fi, hfi, e⟩ := e
    cases hz : fi.size.beq 0 with
    | true => simp [hz] at e
    | false =>
      simp [hz] at e
      subst e
      obtain ⟨c, s, x, hρ, rfl⟩ := ren_ptr hx
      refine ⟨.pointer (some ⟨c, s + off + fd.offset, none⟩), by simp [ren, Rn.addr, hρ, Nat.add_assoc], ?_⟩
      rw [Array.getElem?_toList] at hf
      simp only [Instr.fieldAt, Sem.run_bind, ok.run_underlying hi, hu, Result.andThen_ok, hf, Instr.sureAddr, Sem.run_pure, fieldPlace, ok.run_sizeOf hfi, of_beqF hz, if_false, addr_add]
  · cases e

theorem aIndexAddr_sound (ok : Ok E P) {ρ : Rn} {w : World} {t : TypeId} {x x' ix ix' v : Value} (hx : ren ρ x = some x') (hix : ren ρ ix = some ix') (e : aIndexAddr E t x ix = some v) :
    ∃ v', ren ρ v = some v' ∧ (Instr.indexAt t x' ix').run P w = .ok v' w := by
  unfold aIndexAddr at e
  rw [oget_some] at e; obtain ⟨i, hi, e⟩ := e
  split at e
  · rename_i el b off len cp k j hu
    rw [oget_some] at e; obtain ⟨ei, hei, e⟩ := e
    simp only [bif_some, Bool.and_eq_true, decide_eq_true_eq, Option.some.injEq] at e
    obtain ⟨⟨h0, h1⟩, e⟩ := e
    subst e
    obtain ⟨c, s, x, hρ, rfl⟩ := ren_slice hx
    simp [ren] at hix; subst hix
    refine ⟨.pointer (some ⟨c, s + off + j.toNat * ei.size, none⟩), by simp [ren, Rn.addr, hρ, Nat.add_assoc], ?_⟩
    simp only [Instr.indexAt, asIntOf, Sem.run_bind, Sem.run_pure, Result.andThen_ok, ok.run_underlying hi, hu, h0, h1, and_self, if_true, ok.run_sizeOf hei, addr_add]
  · rename_i len el b off k j hu
    rw [oget_some] at e; obtain ⟨ei, hei, e⟩ := e
    simp only [bif_some, Bool.and_eq_true, decide_eq_true_eq, Option.some.injEq] at e
    obtain ⟨⟨h0, h1⟩, e⟩ := e
    subst e
    obtain ⟨c, s, x, hρ, rfl⟩ := ren_ptr hx
    simp [ren] at hix; subst hix
    refine ⟨.pointer (some ⟨c, s + off + j.toNat * ei.size, none⟩), by simp [ren, Rn.addr, hρ, Nat.add_assoc], ?_⟩
    simp only [Instr.indexAt, asIntOf, Sem.run_bind, Sem.run_pure, Result.andThen_ok, ok.run_underlying hi, hu, Instr.sureAddr, h0, h1, and_self, if_true, ok.run_sizeOf hei, addr_add]
  · cases e

theorem aIndex_sound (ok : Ok E P) {ρ : Rn} {w : World} {t : TypeId} {x x' ix ix' v : Value} (hx : ren ρ x = some x') (hix : ren ρ ix = some ix') (e : aIndex E t x ix = some v) :
    ∃ v', ren ρ v = some v' ∧ (Instr.index t x' ix').run P w = .ok v' w := by
  unfold aIndex at e
  rw [oget_some] at e; obtain ⟨i, hi, e⟩ := e
  split at e
  · rename_i len el cs k j hu
    rw [oget_some] at e; obtain ⟨ei, hei, e⟩ := e
    simp only [bif_some, Bool.and_eq_true, decide_eq_true_eq] at e
    obtain ⟨⟨h0, h1⟩, e⟩ := e
    obtain ⟨cs', hc, rfl⟩ := ren_agg.1 hx
    simp [ren] at hix; subst hix
    obtain ⟨v', g1, g2⟩ := partV_sound ok (w := w) hc e
    refine ⟨v', g1, ?_⟩
    simp only [Instr.index, asIntOf, Sem.run_bind, Sem.run_pure, Result.andThen_ok, ok.run_underlying hi, hu, h0, h1, and_self, if_true, ok.run_sizeOf hei, g2]
  · rename_i s k j hu
    simp only [bif_some, decide_eq_true_eq] at e
    obtain ⟨h0, e⟩ := e
    simp [ren] at hx hix; subst hx; subst hix
    split at e
    · rename_i b hb
      cases e
      refine ⟨.int .u8 b.toNat, by simp [ren], ?_⟩
      have hb' : s[j.toNat]? = some b := by
        rw [← hb]
        by_cases hlt : j.toNat < s.size
        · rw [getElem?_pos s j.toNat hlt, List.getElem?_eq_getElem (by simpa using hlt)]
          rfl
        · rw [getElem?_neg s j.toNat hlt, List.getElem?_eq_none (by simpa using Nat.le_of_not_lt hlt)]
      simp only [Instr.index, asIntOf, Sem.run_bind, Sem.run_pure, Result.andThen_ok, ok.run_underlying hi, hu, h0, if_true, hb']
    · cases e
  · cases e

end Go.Ev
