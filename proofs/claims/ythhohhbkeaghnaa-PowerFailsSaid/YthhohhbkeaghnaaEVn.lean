/- A deterministic evaluator of the model's code over a memory of its own: every operation is the model's. -/
import Derived.Test.YthhohhbkeaghnaaEVm
set_option linter.unusedSimpArgs false
set_option linter.unusedVariables false
set_option linter.unusedSectionVars false
namespace Go.Ev
variable {E : Env} {P : Program}

theorem aTypeAssert_sound (ok : Ok E P) {ρ : Rn} {w : World} {x x' v : Value} {xt t : TypeId} {b : Bool} (hx : ren ρ x = some x') (e : aTypeAssert E x t b = some v) :
    ∃ v', ren ρ v = some v' ∧ (Instr.typeAssert x' xt t b).run P w = .ok v' w := by
  unfold aTypeAssert at e
  rw [oget_some] at e; obtain ⟨i, hi, e⟩ := e
  have hun := ok.run_underlying hi w
  have zer : ∀ z, i.zero = some z → ren ρ (.tuple ⟨[z, .bool false]⟩) = some (.tuple ⟨[z, .bool false]⟩) := fun z hz => ren_tuple.2 ⟨[z, .bool false], by simp [renL, ren, ok.zero hi hz ρ], rfl⟩
  split at e
  · cases e
  · rename_i d u hni
    simp [ren] at hx
    obtain ⟨u', hu', rfl⟩ := hx
    cases hd : d.beq t with
    | true =>
      have hd := of_beq hd
      subst hd
      simp only [beqT rfl, cond_true, Option.some.injEq] at e
      subst e
      cases b with
      | true =>
        refine ⟨_, ren_tuple.2 ⟨[u', .bool true], by simp [renL, ren, hu'], rfl⟩, ?_⟩
        unfold Instr.typeAssert
        simp only [Sem.run_bind, hun, Result.andThen_ok]
        cases hu : i.und with
        | interface ms => exact (hni ms hu).elim
        | _ => simp
      | false =>
        refine ⟨u', hu', ?_⟩
        unfold Instr.typeAssert
        simp only [Sem.run_bind, hun, Result.andThen_ok]
        cases hu : i.und with
        | interface ms => exact (hni ms hu).elim
        | _ => simp
    | false =>
      have hd' := of_beqF hd
      simp only [hd, cond_false] at e
      cases b with
      | false => simp at e
      | true =>
        simp only [cond_true] at e
        rw [oget_some] at e; obtain ⟨z, hz, e⟩ := e
        cases e
        refine ⟨_, zer z hz, ?_⟩
        unfold Instr.typeAssert
        simp only [Sem.run_bind, hun, Result.andThen_ok]
        cases hu : i.und with
        | interface ms => exact (hni ms hu).elim
        | _ => simp [hd', ok.run_zero hi hz]
  · rename_i hni
    simp [ren] at hx; subst hx
    cases b with
    | false => simp at e
    | true =>
      simp only [cond_true] at e
      rw [oget_some] at e; obtain ⟨z, hz, e⟩ := e
      cases e
      refine ⟨_, zer z hz, ?_⟩
      unfold Instr.typeAssert
      simp only [Sem.run_bind, hun, Result.andThen_ok]
      cases hu : i.und with
      | interface ms => exact (hni ms hu).elim
      | _ => simp [ok.run_zero hi hz]
  · cases e

/-- The operands here and in the model. -/
def OpRel (ρ : Rn) (f : Operand → Option Value) (g : Operand → Value) : Prop := ∀ x v, f x = some v → ren ρ v = some (g x)

theorem valsV_rel {ρ : Rn} {f : Operand → Option Value} {g : Operand → Value} (ho : OpRel ρ f g) : ∀ {l : List Operand} {vs : List Value}, valsV f l = some vs → renL ρ vs = some (l.map g)
  | [], vs, e => by simp [valsV] at e; subst e; simp [renL]
  | x :: l, vs, e => by
    simp only [valsV] at e
    rw [oget_some] at e; obtain ⟨v, hv, e⟩ := e
    rw [oget_some] at e; obtain ⟨us, hus, e⟩ := e
    cases e
    exact renL_cons.2 ⟨g x, l.map g, ho x v hv, valsV_rel ho hus, rfl⟩

theorem partsV_rel {ρ : Rn} {f : Operand → Option Value} {g : Operand → Value} (ho : OpRel ρ f g) : ∀ {l : List (Nat × Operand)} {ps : List (Nat × Value)}, partsV f l = some ps → PartsRel ρ ps (l.map fun x => (x.1, g x.2))
  | [], ps, e => by simp [partsV] at e; subst e; trivial
  | (i, x) :: l, ps, e => by
    simp only [partsV] at e
    rw [oget_some] at e; obtain ⟨v, hv, e⟩ := e
    rw [oget_some] at e; obtain ⟨us, hus, e⟩ := e
    cases e
    exact ⟨rfl, ho x v hv, partsV_rel ho hus⟩

theorem relO_of {ρ : Rn} {f : Operand → Option Value} {g : Operand → Value} (ho : OpRel ρ f g) {lo : Option Operand} {r : Option Value} (e : (match lo with | none => some none | some v => oget (f v) fun v => some (some v)) = some r) : RelO ρ r (lo.map g) := by
  cases lo with
  | none => simp at e; subst e; trivial
  | some x =>
    rw [oget_some] at e; obtain ⟨v, hv, e⟩ := e
    cases e
    exact ho x v hv

/-- What an operation comes to: a value, or nothing. -/
def GoodOp (P : Program) (ρ : Rn) (h : AH) (w : World) (s : Sem Next) (v : Value) (h' : AH) : Prop :=
  ∃ ρ' w' v', Step ρ h w ρ' h' w' ∧ ren ρ' v = some v' ∧ (s.run P w = .ok (.value v') w' ∨ (s.run P w = .ok .skip w' ∧ v' = undef))

theorem GoodN.op {ρ : Rn} {h h' : AH} {w : World} {s : Sem Next} {v : Value} (g : GoodN P ρ h w s v h') : GoodOp P ρ h w s v h' :=
  let ⟨ρ', w', v', a, b, c⟩ := g
  ⟨ρ', w', v', a, b, .inl c⟩

theorem Good.op {ρ : Rn} {h h' : AH} {w : World} {s : Sem Value} {v : Value} (g : Good P ρ h w s v h') : GoodOp P ρ h w (do pure (.value (← s))) v h' := (Good.next g).op

theorem ren_undef (ρ : Rn) : ren ρ undef' = some undef := ren_tuple.2 ⟨[], by simp [renL], rfl⟩

theorem aval_sound (ok : Ok E P) {ρ : Rn} {h h' : AH} {w : World} (hr : WRel ρ h w) {o : Oper} {f : Operand → Option Value} {g : Operand → Value} (ho : OpRel ρ f g) {v : Value} (e : aval E o f h = some (v, h')) (room : Room ρ h.next h'.next) :
    GoodOp P ρ h w (execOp g o) v h' := by
  unfold aval at e
  unfold execOp
  split at e
  · rename_i x hop
    rw [hop]
    rw [oget_some] at e; obtain ⟨u, hu, e⟩ := e
    cases e
    exact ⟨ρ, w, g x, Step.refl hr, ho _ _ hu, .inl rfl⟩
  · rename_i x hop
    rw [hop]
    rw [oget_some] at e; obtain ⟨u, hu, e⟩ := e
    cases e
    exact ⟨ρ, w, g x, Step.refl hr, ho _ _ hu, .inl rfl⟩
  · -- pick
    rename_i c a b hop
    rw [hop]
    rw [oget_some] at e; obtain ⟨uc, hc, e⟩ := e
    rw [oget_some] at e; obtain ⟨ua, ha, e⟩ := e
    rw [oget_some] at e; obtain ⟨ub, hb, e⟩ := e
    split at e
    · rename_i t
      cases e
      have hc' := ren_bool.1 (ho _ _ hc)
      refine ⟨ρ, w, if t then g a else g b, Step.refl hr, ?_, .inl ?_⟩
      · cases t
        · exact ho _ _ hb
        · exact ho _ _ ha
      · simp [hc', asBool]
    · cases e
  · -- alloc
    rename_i t hop
    rw [hop]
    exact (aAlloc_sound ok hr e room).op
  · -- box
    rename_i t x hop
    rw [hop]
    rw [oget_some] at e; obtain ⟨u, hu, e⟩ := e
    exact (aBox_sound (P := P) hr (ho _ _ hu) e room).op
  · -- build
    rename_i t parts hop
    rw [hop]
    rw [oget_some] at e; obtain ⟨ps, hps, e⟩ := e
    rw [oget_some] at e; obtain ⟨u, hu, e⟩ := e
    cases e
    obtain ⟨v', g1, g2⟩ := aBuild_sound ok (w := w) (partsV_rel ho hps) hu
    have : (parts.map fun (x : Nat × Operand) => (x.1, g x.2)) = ⟨parts.toList.map fun x => (x.1, g x.2)⟩ := by apply Array.ext'; simp
    refine (Good.same hr g1 ?_).op
    rw [← this] at g2
    exact g2
  · -- buildSlice
    rename_i t len parts hop
    rw [hop]
    rw [oget_some] at e; obtain ⟨ps, hps, e⟩ := e
    have := aBuildSlice_sound ok hr (partsV_rel ho hps) e room
    have hm : (parts.map fun (x : Nat × Operand) => (x.1, g x.2)) = ⟨parts.toList.map fun x => (x.1, g x.2)⟩ := by apply Array.ext'; simp
    rw [← hm] at this
    exact this.op
  · -- load
    rename_i t a hop
    rw [hop]
    rw [oget_some] at e; obtain ⟨u, hu, e⟩ := e
    rw [oget_some] at e; obtain ⟨u2, hu2, e⟩ := e
    cases e
    obtain ⟨v', g1, g2⟩ := aLoad_sound ok hr (ho _ _ hu) hu2
    exact (Good.same hr g1 g2).op
  · -- store
    rename_i t a x hop
    rw [hop]
    rw [oget_some] at e; obtain ⟨u, hu, e⟩ := e
    rw [oget_some] at e; obtain ⟨u2, hu2, e⟩ := e
    rw [oget_some] at e; obtain ⟨h1, hh, e⟩ := e
    cases e
    obtain ⟨w', g1, g2⟩ := aStore_sound ok hr (ho _ _ hu) (ho _ _ hu2) hh
    exact ⟨ρ, w', undef, g2, ren_undef ρ, .inr ⟨by simp [g1], rfl⟩⟩
  · -- nilCheck
    rename_i x hop
    rw [hop]
    rw [oget_some] at e; obtain ⟨u, hu, e⟩ := e
    split at e
    · rename_i a
      cases e
      obtain ⟨b, o2, _ | _⟩ := a
      · have hx := ho _ _ hu
        obtain ⟨c, s, x0, hρ, hx'⟩ := ren_ptr hx
        refine ⟨ρ, w, g x, Step.refl hr, hx, .inl ?_⟩
        show (match g x with | _ => _) = _
        simp [hx']
      · have := ho _ _ hu; simp [ren, Rn.addr] at this
    · cases e
  · -- binOp
    rename_i op t x y yt hop
    rw [hop]
    simp only at e
    rw [oget_some] at e; obtain ⟨u, hu, e⟩ := e
    rw [oget_some] at e; obtain ⟨u2, hu2, e⟩ := e
    rw [oget_some] at e; obtain ⟨u3, hu3, e⟩ := e
    cases e
    obtain ⟨v', g1, g2⟩ := aBin_sound ok hr (ho _ _ hu) (ho _ _ hu2) hu3
    exact (Good.same hr g1 g2).op
  · -- unOp
    rename_i op t x hop
    rw [hop]
    rw [oget_some] at e; obtain ⟨u, hu, e⟩ := e
    rw [oget_some] at e; obtain ⟨u2, hu2, e⟩ := e
    cases e
    obtain ⟨v', g1, g2⟩ := aUn_sound (P := P) (w := w) (ho _ _ hu) hu2
    exact (Good.same hr g1 g2).op
  · -- convert
    rename_i s d x hop
    rw [hop]
    rw [oget_some] at e; obtain ⟨u, hu, e⟩ := e
    exact (aConvert_sound ok hr (ho _ _ hu) e room).op
  · -- makeInterface
    rename_i t x hop
    rw [hop]
    rw [oget_some] at e; obtain ⟨u, hu, e⟩ := e
    rw [oget_some] at e; obtain ⟨i, hi, e⟩ := e
    split at e
    · cases e
    · rename_i hni
      cases e
      refine (Good.same hr (v' := .iface t (g x)) (by simp [ren, ho _ _ hu]) ?_).op
      simp only [Instr.makeInterface, Sem.run_bind, ok.run_underlying hi, Result.andThen_ok]
      cases hu : i.und with
      | interface ms => exact (hni ms hu).elim
      | _ => rfl
  · -- makeFunc
    rename_i fn first cp hop
    rw [hop]
    rw [oget_some] at e; obtain ⟨a, ha, e⟩ := e
    rw [oget_some] at e; obtain ⟨b, hb, e⟩ := e
    split at e
    · rename_i fid
      cases e
      have h1 := valsV_rel ho ha
      have h2 := valsV_rel ho hb
      have m1 : first.map g = ⟨first.toList.map g⟩ := by apply Array.ext'; simp
      have m2 : cp.map g = ⟨cp.toList.map g⟩ := by apply Array.ext'; simp
      refine (Good.same hr (v' := .func (.func fid) (first.map g) (cp.map g)) ?_ rfl).op
      rw [m1, m2]
      simp [ren, renA, h1, h2]
    · cases e
  · -- makeMap
    rename_i t hop
    rw [hop]
    rw [oget_some] at e; obtain ⟨i, hi, e⟩ := e
    rw [bif_some] at e; obtain ⟨hc, e⟩ := e
    cases e
    have hn : ρ h.next = none := room _ (Nat.le_refl _) (Nat.lt_succ_self _)
    refine Good.op (s := Instr.makeMap t (Option.map g none)) ⟨ρ.ins h.next (w.heap.size, 0, 0), { w with heap := w.heap.push (.map ⟨[]⟩ 0) }, .map (some w.heap.size), ?_, by simp [ren, ins_self], ?_⟩
    · refine Step.new hr hn (of_blt hc) rfl ⟨[], by simp, by simp [renEs]⟩ (by simp) (fun _ => Nat.le_refl _) (fun k hk => by simp [Array.getElem?_push, Nat.ne_of_lt hk]) rfl rfl rfl
    · simp only [Instr.makeMap, Option.map_none, Sem.run_bind, run_newObj, Result.andThen_ok, Sem.run_pure]
  · -- makeSlice
    rename_i t l c hop
    rw [hop]
    rw [oget_some] at e; obtain ⟨u, hu, e⟩ := e
    rw [oget_some] at e; obtain ⟨u2, hu2, e⟩ := e
    exact (aMakeSlice_sound ok hr (ho _ _ hu) (ho _ _ hu2) e room).op
  · -- slice
    rename_i t x lo hi hop
    rw [hop]
    rw [oget_some] at e; obtain ⟨u, hu, e⟩ := e
    rw [oget_some] at e; obtain ⟨l, hl, e⟩ := e
    rw [oget_some] at e; obtain ⟨k, hk, e⟩ := e
    exact (aSlice_sound ok hr (ho _ _ hu) (relO_of ho hl) (relO_of ho hk) e room).op
  · -- fieldAddr
    rename_i t x fd hop
    rw [hop]
    rw [oget_some] at e; obtain ⟨u, hu, e⟩ := e
    rw [oget_some] at e; obtain ⟨u2, hu2, e⟩ := e
    cases e
    obtain ⟨v', g1, g2⟩ := aFieldAddr_sound ok (w := w) (ho _ _ hu) hu2
    exact (Good.same hr g1 g2).op
  · -- field
    rename_i t x fd hop
    rw [hop]
    rw [oget_some] at e; obtain ⟨u, hu, e⟩ := e
    rw [oget_some] at e; obtain ⟨u2, hu2, e⟩ := e
    cases e
    obtain ⟨v', g1, g2⟩ := aField_sound ok (w := w) (ho _ _ hu) hu2
    exact (Good.same hr g1 g2).op
  · -- indexAddr
    rename_i t x ix hop
    rw [hop]
    rw [oget_some] at e; obtain ⟨u, hu, e⟩ := e
    rw [oget_some] at e; obtain ⟨u2, hu2, e⟩ := e
    rw [oget_some] at e; obtain ⟨u3, hu3, e⟩ := e
    cases e
    obtain ⟨v', g1, g2⟩ := aIndexAddr_sound ok (w := w) (ho _ _ hu) (ho _ _ hu2) hu3
    exact (Good.same hr g1 g2).op
  · -- index
    rename_i t x ix hop
    rw [hop]
    rw [oget_some] at e; obtain ⟨u, hu, e⟩ := e
    rw [oget_some] at e; obtain ⟨u2, hu2, e⟩ := e
    rw [oget_some] at e; obtain ⟨u3, hu3, e⟩ := e
    cases e
    obtain ⟨v', g1, g2⟩ := aIndex_sound ok (w := w) (ho _ _ hu) (ho _ _ hu2) hu3
    exact (Good.same hr g1 g2).op
  · -- lookup
    rename_i t m k okb hop
    rw [hop]
    rw [oget_some] at e; obtain ⟨u, hu, e⟩ := e
    rw [oget_some] at e; obtain ⟨u2, hu2, e⟩ := e
    rw [oget_some] at e; obtain ⟨u3, hu3, e⟩ := e
    cases e
    obtain ⟨v', g1, g2⟩ := aLookup_sound ok hr (ho _ _ hu) (ho _ _ hu2) hu3
    exact (Good.same hr g1 g2).op
  · -- mapUpdate
    rename_i t m k x hop
    rw [hop]
    rw [oget_some] at e; obtain ⟨u, hu, e⟩ := e
    rw [oget_some] at e; obtain ⟨u2, hu2, e⟩ := e
    rw [oget_some] at e; obtain ⟨u3, hu3, e⟩ := e
    rw [oget_some] at e; obtain ⟨h1, hh, e⟩ := e
    cases e
    obtain ⟨w', g1, g2⟩ := aMapUpdate_sound ok hr (ho _ _ hu) (ho _ _ hu2) (ho _ _ hu3) hh
    exact ⟨ρ, w', undef, g2, ren_undef ρ, .inr ⟨by simp [g1], rfl⟩⟩
  · -- typeAssert
    rename_i x xt t okb hop
    rw [hop]
    rw [oget_some] at e; obtain ⟨u, hu, e⟩ := e
    rw [oget_some] at e; obtain ⟨u2, hu2, e⟩ := e
    cases e
    obtain ⟨v', g1, g2⟩ := aTypeAssert_sound (xt := xt) ok (w := w) (ho _ _ hu) hu2
    exact (Good.same hr g1 g2).op
  · -- extract
    rename_i t ix hop
    rw [hop]
    rw [oget_some] at e; obtain ⟨u, hu, e⟩ := e
    split at e
    · rename_i vs
      rw [oget_some] at e; obtain ⟨u2, hu2, e⟩ := e
      cases e
      obtain ⟨l', hl, ht⟩ := ren_tuple.1 (ho _ _ hu)
      obtain ⟨v', g1, g2⟩ := renL_get hl _ _ hu2
      refine (Good.same hr g1 ?_).op
      rw [ht]
      simp only [Instr.extract, List.getElem?_toArray, g2, Sem.run_pure]
    · cases e
  · -- a builtin
    rename_i b args ats hop
    rw [hop]
    rw [oget_some] at e; obtain ⟨vs, hvs, e⟩ := e
    have hv := valsV_rel ho hvs
    obtain ⟨ρ', w', v', g1, g2, g3⟩ := aBuiltin_sound (ty := o.type) (cs := args.map fun | .const _ => true | _ => false) ok hr hv e room
    refine ⟨ρ', w', v', g1, g2, .inl ?_⟩
    have m1 : args.map g = ⟨args.toList.map g⟩ := by apply Array.ext'; simp
    simp only [resolve, Sem.run_bind, Sem.run_pure, Result.andThen_ok, invoke, m1]
    exact g3
  · cases e

end Go.Ev
