/- A deterministic evaluator of the model's code over a memory of its own: operations that call. -/
import Derived.Test.YthhohhbkeaghnaaEVq
set_option linter.unusedSimpArgs false
set_option linter.unusedVariables false
set_option linter.unusedSectionVars false
namespace Go.Ev
variable {E : Env} {P : Program}

/-- The panicking frame ahead has been recovered. -/
def markRec : List Frame → List Frame
  | c :: r => (match c.mode with
    | .panicking (e :: old) => { c with mode := .panicking ({ v := e.v, recovered := true } :: old) }
    | _ => c) :: r
  | [] => []

def recd (rc : Bool) (cs : List Frame) : List Frame := bif rc then markRec cs else cs

/-- How a function is entered, and over what. -/
def KindOk (ρ : Rn) (pan : Option Value) (kind : CallKind) (cs : List Frame) : Prop :=
  match pan with
  | none => kind = .normal ∨ (kind = .deferred ∧ ∃ c r, cs = c :: r ∧ c.mode = .returning)
  | some v => kind = .deferred ∧ ∃ c r v', cs = c :: r ∧ c.mode = .panicking [{ v := v', recovered := false }] ∧ ren ρ v = some v'

theorem KindOk.mono {ρ ρ' : Rn} (s : Sub ρ ρ') {pan : Option Value} {kind : CallKind} {cs : List Frame} (h : KindOk ρ pan kind cs) : KindOk ρ' pan kind cs := by
  cases pan with
  | none => exact h
  | some v => obtain ⟨h1, c, r, v', h2, h3, h4⟩ := h; exact ⟨h1, c, r, v', h2, h3, ren_mono s _ _ h4⟩

/-- A frame that is about to hand its result back. -/
structure Fin (P : Program) (fr : Frame) (f : FuncId) (kind : CallKind) (w : World) (v : Value) : Prop where
  mode : fr.mode = .returning
  defers : fr.defers = []
  kind : fr.kind = kind
  fn : fr.fn = f
  res : ∃ fn, P.funcs[f]? = some fn ∧ (results fn fr.tmps).run P w = .ok v w

theorem Fin.leaving {fr : Frame} {f : FuncId} {w : World} {v : Value} (h : Fin P fr f .normal w v) : fr.leaving P w (.returned v) := by
  obtain ⟨fn, h1, h2⟩ := h.res
  exact ⟨h.mode, h.defers, h.kind, fn, by rw [h.fn]; exact h1, h2⟩

/-- What a call comes to is what the model's call comes to. -/
structure CallOk (P : Program) (E : Env) (C : CallS) : Prop where
  ret : ∀ {f args pan h v h' rc}, C (.fn f) args pan h = .ret v h' rc → ∀ {ρ w args'}, WRel ρ h w → Top ρ h → GlobOk E ρ → renL ρ args = some args' → (pan = none → rc = false) ∧
    ((∃ v', ren ρ v = some v' ∧ h' = h ∧ rc = false ∧ (callFunc f ⟨args'⟩).run P w = .ok (.value v') w) ∨
    ((callFunc f ⟨args'⟩).run P w = .ok (.enter f ⟨args'⟩) w ∧ ∀ kind cs, KindOk ρ pan kind cs → ∃ ρ' w' v' fr, Step ρ h w ρ' h' w' ∧ ren ρ' v = some v' ∧
      Steps P (lone (Frame.enter P f ⟨args'⟩ kind) cs w) (lone fr (recd rc cs) w') ∧ Fin P fr f kind w' v'))
  pan : ∀ {f args h v h'}, C (.fn f) args none h = .pan v h' → ∀ {ρ w args'}, WRel ρ h w → Top ρ h → GlobOk E ρ → renL ρ args = some args' →
    (callFunc f ⟨args'⟩).run P w = .ok (.enter f ⟨args'⟩) w ∧ ∀ cs, ∃ ρ' w' v' fr, Step ρ h w ρ' h' w' ∧ ren ρ' v = some v' ∧
      Steps P (lone (Frame.enter P f ⟨args'⟩ .normal) cs w) (lone fr cs w') ∧ fr.leaving P w' (.panicked [{ v := v', recovered := false }])
  yret : ∀ {l args h v h' rc}, C (.yield l) args none h = .ret v h' rc → ∀ {ρ w args' lw s x}, WRel ρ h w → Top ρ h → GlobOk E ρ → ρ l = some (lw, s, x) → renL ρ args = some args' →
    ∃ f tm a b, (Instr.yield lw ⟨args'⟩).run P w = .ok (.round lw f tm a b) w ∧ ∀ c cs, ∃ ρ' w' v', Step ρ h w ρ' h' w' ∧ ren ρ' v = some v' ∧
      Steps P (lone (Frame.round lw f tm a b .normal) (c :: cs) w) (lone (c.finish v') cs w')
  ypan : ∀ {l args h v h'}, C (.yield l) args none h = .pan v h' → ∀ {ρ w args' lw s x}, WRel ρ h w → Top ρ h → GlobOk E ρ → ρ l = some (lw, s, x) → renL ρ args = some args' →
    ∃ f tm a b, (Instr.yield lw ⟨args'⟩).run P w = .ok (.round lw f tm a b) w ∧ ∀ c cs, ∃ ρ' w' v', Step ρ h w ρ' h' w' ∧ ren ρ' v = some v' ∧
      Steps P (lone (Frame.round lw f tm a b .normal) (c :: cs) w) (lone (c.raise [{ v := v', recovered := false }]) cs w')

/-- What is known of calls is so. -/
def KnownOk (E : Env) (P : Program) : Prop := ∀ f v, E.known f = some v → ∀ {ρ h w}, WRel ρ h w → Top ρ h → GlobOk E ρ →
    (callFunc f #[]).run P w = .ok (.enter f #[]) w ∧ ∀ kind cs, KindOk ρ none kind cs → ∃ w' v' fr, Step ρ h w ρ h w' ∧ ren ρ v = some v' ∧
      Steps P (lone (Frame.enter P f #[] kind) cs w) (lone fr (recd false cs) w') ∧ Fin P fr f kind w' v'

def gor (fr : Frame) (cs : List Frame) : Goroutine := { frame := fr, callers := cs, status := .running, dying := none }

def notCall (fr : Frame) : Prop := (match fr.todo with | .call _ true _ _ :: _ => CallKind.wrapped | _ => .normal) = .normal

theorem apply_value {fr : Frame} {cs : List Frame} {X : Sem Next} {w w' : World} {v : Value} (h : X.run P w = .ok (.value v) w') :
    (stepG.apply P true fr cs none X w).bare = .go (gor (fr.finish v) cs) w' := by
  simp [stepG.apply, h, gor]

theorem apply_skip {fr : Frame} {cs : List Frame} {X : Sem Next} {w w' : World} (h : X.run P w = .ok .skip w') :
    (stepG.apply P true fr cs none X w).bare = .go (gor (fr.finish undef) cs) w' := by
  simp [stepG.apply, h, gor]

theorem apply_enter {fr : Frame} {cs : List Frame} {X : Sem Next} {w w' : World} {f : FuncId} {args : Array Value} (hk : notCall fr) (h : X.run P w = .ok (.enter f args) w') :
    (stepG.apply P true fr cs none X w).bare = .go (gor (Frame.enter P f args .normal) (fr :: cs)) w' := by
  unfold notCall at hk
  simp only [stepG.apply, Sem.runT_eq, h, GStep.bare_after, if_true]
  exact congrArg (fun kd => GStep.go (gor (Frame.enter P f args kd) (fr :: cs)) w') hk

theorem apply_round {fr : Frame} {cs : List Frame} {X : Sem Next} {w w' : World} {l : Nat} {f : FuncId} {tm : Array Value} {a b : Code} (h : X.run P w = .ok (.round l f tm a b) w') :
    (stepG.apply P true fr cs none X w).bare = .go (gor (Frame.round l f tm a b .normal) (fr :: cs)) w' := by
  simp [stepG.apply, h, gor]

theorem apply_defer {fr : Frame} {cs : List Frame} {X : Sem Next} {w w' : World} {d : Deferred} (h : X.run P w = .ok (.defer d) w') :
    (stepG.apply P true fr cs none X w).bare = .go (gor ({ fr with defers := d :: fr.defers }.finish undef) cs) w' := by
  simp [stepG.apply, h, gor]

theorem apply_panic {fr : Frame} {cs : List Frame} {X : Sem Next} {w w' : World} {v : Value} (h : X.run P w = .halt (.panic v) w') :
    (stepG.apply P true fr cs none X w).bare = .go (gor (fr.raise [{ v, recovered := false }]) cs) w' := by
  simp [stepG.apply, h, gor]

theorem apply_recover {fr : Frame} {cs : List Frame} {X : Sem Next} {w w' : World} (hn : fr.roundOf = none) (h : X.run P w = .ok .recover w') :
    (stepG.apply P true fr cs none X w).bare = match tryRecover fr cs with
      | some (v, cs) => .go (gor (fr.finish v) cs) w'
      | none => .go (gor (fr.finish .nilIface) cs) w' := by
  simp only [stepG.apply, Sem.runT_eq, h, GStep.bare_after, hn]
  cases tryRecover fr cs with
  | none => rfl
  | some x => rfl

theorem steps_of_bare {fr fr' : Frame} {cs cs' : List Frame} {w w' : World} (h : (stepG P true (gor fr cs) w).bare = .go (gor fr' cs') w') : Steps P (lone fr cs w) (lone fr' cs' w') :=
  .one (step_lone_go h)

/-- A call of a function value. -/
theorem call_val {C : CallS} (hC : CallOk P E C) {f : Value} {args : List Value} {s s1 : St} {v : Value} (e : callV C f args s = .val v s1) {ρ : Rn} {w : World} (hr : WRel ρ s.h w) (top : Top ρ s.h) (hg : GlobOk E ρ)
    {f' : Value} {args' : List Value} (hf : ren ρ f = some f') (ha : renL ρ args = some args') {fr0 fr : Frame} {cs : List Frame} {w0 : World} {X : Sem Next} (hk : notCall fr)
    (hX : X.run P w = (do let d ← Deferred.ofValue f' ⟨args'⟩; invoke d.target d.args : Sem Next).run P w) (hst : (stepG P true (gor fr0 cs) w0).bare = (stepG.apply P true fr cs none X w).bare) :
    s1 = { s with h := s1.h } ∧ ∃ ρ' w' v', Step ρ s.h w ρ' s1.h w' ∧ ren ρ' v = some v' ∧ Steps P (lone fr0 cs w0) (lone (fr.finish v') cs w') := by
  unfold callV at e
  split at e
  · rename_i g first cp
    split at e
    · rename_i v1 h1 rc1 hc
      cases e
      refine ⟨rfl, ?_⟩
      obtain ⟨a, ha1, b, hb1, rfl⟩ : ∃ a, renL ρ first = some a ∧ ∃ b, renL ρ cp = some b ∧ f' = .func (.func g) ⟨a⟩ ⟨b⟩ := by
        simp only [ren, renA] at hf
        cases h1 : renL ρ first with
        | none => simp [h1] at hf
        | some a => cases h2 : renL ρ cp with
          | none => simp [h1, h2] at hf
          | some b => simp [h1, h2] at hf; exact ⟨a, rfl, b, rfl, hf.symm⟩
      have hX' : X.run P w = (callFunc g ⟨a ++ args' ++ b⟩).run P w := by
        rw [hX]
        simp [Deferred.ofValue, invoke]
      obtain ⟨hrc, H⟩ := hC.ret hc hr top hg (renL_append (renL_append ha1 ha) hb1)
      cases hrc rfl
      rcases H with ⟨v', h1', h2', _, h3'⟩ | ⟨h1', H⟩
      · rw [h2']
        exact ⟨ρ, w, v', Step.refl hr, h1', steps_of_bare (by rw [hst, apply_value (hX'.trans h3')])⟩
      · obtain ⟨ρ', w', v', fr', g1, g2, g3, g4⟩ := H .normal (fr :: cs) (.inl rfl)
        exact ⟨ρ', w', v', g1, g2, (steps_of_bare (by rw [hst, apply_enter hk (hX'.trans h1')])).trans (g3.trans (.one (step_leave_returned g4.leaving)))⟩
    · cases e
    · cases e
  · rename_i l first
    split at e
    · rename_i v1 h1 rc1 hc
      cases e
      refine ⟨rfl, ?_⟩
      obtain ⟨lw, s0, x0, hl, a, ha1, rfl⟩ : ∃ lw s0 x0, ρ l = some (lw, s0, x0) ∧ ∃ a, renL ρ first = some a ∧ f' = .func (.yield lw) ⟨a⟩ ⟨[]⟩ := by
        simp only [ren, renA, renL] at hf
        cases h0 : ρ l with
        | none => simp [h0] at hf
        | some r => cases h1 : renL ρ first with
          | none => simp [h0, h1] at hf
          | some a => simp [h0, h1] at hf; exact ⟨r.1, r.2.1, r.2.2, rfl, a, rfl, hf.symm⟩
      have hX' : X.run P w = (Instr.yield lw ⟨a ++ args'⟩).run P w := by
        rw [hX]
        simp [Deferred.ofValue, invoke]
      obtain ⟨fn, tm, as, bo, h1', H⟩ := hC.yret hc hr top hg hl (renL_append ha1 ha)
      obtain ⟨ρ', w', v', g1, g2, g3⟩ := H fr cs
      exact ⟨ρ', w', v', g1, g2, (steps_of_bare (by rw [hst, apply_round (hX'.trans h1')])).trans g3⟩
    · cases e
    · cases e
  · cases e

theorem call_pan {C : CallS} (hC : CallOk P E C) {f : Value} {args : List Value} {s s1 : St} {v : Value} (e : callV C f args s = .pan v s1) {ρ : Rn} {w : World} (hr : WRel ρ s.h w) (top : Top ρ s.h) (hg : GlobOk E ρ)
    {f' : Value} {args' : List Value} (hf : ren ρ f = some f') (ha : renL ρ args = some args') {fr0 fr : Frame} {cs : List Frame} {w0 : World} {X : Sem Next} (hk : notCall fr)
    (hX : X.run P w = (do let d ← Deferred.ofValue f' ⟨args'⟩; invoke d.target d.args : Sem Next).run P w) (hst : (stepG P true (gor fr0 cs) w0).bare = (stepG.apply P true fr cs none X w).bare) :
    s1 = { s with h := s1.h } ∧ ∃ ρ' w' v', Step ρ s.h w ρ' s1.h w' ∧ ren ρ' v = some v' ∧ Steps P (lone fr0 cs w0) (lone (fr.raise [{ v := v', recovered := false }]) cs w') := by
  unfold callV at e
  split at e
  · rename_i g first cp
    split at e
    · cases e
    · rename_i v1 h1 hc
      cases e
      refine ⟨rfl, ?_⟩
      obtain ⟨a, ha1, b, hb1, rfl⟩ : ∃ a, renL ρ first = some a ∧ ∃ b, renL ρ cp = some b ∧ f' = .func (.func g) ⟨a⟩ ⟨b⟩ := by
        simp only [ren, renA] at hf
        cases h1 : renL ρ first with
        | none => simp [h1] at hf
        | some a => cases h2 : renL ρ cp with
          | none => simp [h1, h2] at hf
          | some b => simp [h1, h2] at hf; exact ⟨a, rfl, b, rfl, hf.symm⟩
      have hX' : X.run P w = (callFunc g ⟨a ++ args' ++ b⟩).run P w := by
        rw [hX]
        simp [Deferred.ofValue, invoke]
      obtain ⟨h1', H⟩ := hC.pan hc hr top hg (renL_append (renL_append ha1 ha) hb1)
      obtain ⟨ρ', w', v', fr', g1, g2, g3, g4⟩ := H (fr :: cs)
      exact ⟨ρ', w', v', g1, g2, (steps_of_bare (by rw [hst, apply_enter hk (hX'.trans h1')])).trans (g3.trans (.one (step_leave_panicked g4)))⟩
    · cases e
  · rename_i l first
    split at e
    · cases e
    · rename_i v1 h1 hc
      cases e
      refine ⟨rfl, ?_⟩
      obtain ⟨lw, s0, x0, hl, a, ha1, rfl⟩ : ∃ lw s0 x0, ρ l = some (lw, s0, x0) ∧ ∃ a, renL ρ first = some a ∧ f' = .func (.yield lw) ⟨a⟩ ⟨[]⟩ := by
        simp only [ren, renA, renL] at hf
        cases h0 : ρ l with
        | none => simp [h0] at hf
        | some r => cases h1 : renL ρ first with
          | none => simp [h0, h1] at hf
          | some a => simp [h0, h1] at hf; exact ⟨r.1, r.2.1, r.2.2, rfl, a, rfl, hf.symm⟩
      have hX' : X.run P w = (Instr.yield lw ⟨a ++ args'⟩).run P w := by
        rw [hX]
        simp [Deferred.ofValue, invoke]
      obtain ⟨fn, tm, as, bo, h1', H⟩ := hC.ypan hc hr top hg hl (renL_append ha1 ha)
      obtain ⟨ρ', w', v', g1, g2, g3⟩ := H fr cs
      exact ⟨ρ', w', v', g1, g2, (steps_of_bare (by rw [hst, apply_round (hX'.trans h1')])).trans g3⟩
    · cases e
  · cases e

end Go.Ev
