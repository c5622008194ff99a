/- A deterministic evaluator of the model's code over a memory of its own: one operation of a region. -/
import Derived.Test.YthhohhbkeaghnaaEVr
set_option linter.unusedSimpArgs false
set_option linter.unusedVariables false
set_option linter.unusedSectionVars false
namespace Go.Ev
variable {E : Env} {P : Program}

def DefOne (ρ : Rn) (d d' : Deferred) : Prop :=
  match d.target with
  | .fn (.func f) ⟨cp⟩ => ∃ cp' as', renL ρ cp = some cp' ∧ renL ρ d.args.toList = some as' ∧ d' = { target := .fn (.func f) ⟨cp'⟩, args := ⟨as'⟩ }
  | .collected b => ∃ c s x, ρ b = some (c, s, x) ∧ d' = { target := .collected c, args := #[] }
  | _ => False

/-- The deferred calls here and there. -/
def DefRel (ρ : Rn) : List Deferred → List Deferred → Prop
  | [], [] => True
  | d :: ds, d' :: ds' => DefOne ρ d d' ∧ DefRel ρ ds ds'
  | _, _ => False

theorem DefOne.mono {ρ ρ' : Rn} (s : Sub ρ ρ') {d d' : Deferred} (h : DefOne ρ d d') : DefOne ρ' d d' := by
  unfold DefOne at *
  split
  · rename_i f cp ht
    simp only [ht] at h
    obtain ⟨cp', as', h1, h2, h3⟩ := h
    exact ⟨cp', as', renL_mono s _ _ h1, renL_mono s _ _ h2, h3⟩
  · rename_i b ht
    simp only [ht] at h
    obtain ⟨c, s0, x, h1, h2⟩ := h
    exact ⟨c, s0, x, s _ _ h1, h2⟩
  · rename_i h1 h2
    split at h
    · rename_i f cp ht; exact h1 _ _ ht
    · rename_i b ht; exact h2 _ ht
    · exact h

theorem DefRel.mono {ρ ρ' : Rn} (s : Sub ρ ρ') : ∀ {ds ds' : List Deferred}, DefRel ρ ds ds' → DefRel ρ' ds ds'
  | [], [], _ => trivial
  | [], _ :: _, h => h
  | _ :: _, [], h => h
  | _ :: _, _ :: _, h => ⟨h.1.mono s, h.2.mono s⟩

/-- The frame below and the round in which we are. -/
def CtxOk (ρ : Rn) (c : Ctx) (b : Frame) (cs : List Frame) : Prop :=
  match c.rnd with
  | none => b.roundOf = none ∧ KindOk ρ c.pan b.kind cs
  | some l => c.pan = none ∧ b.kind = .normal ∧ ∃ lw s x, ρ l = some (lw, s, x) ∧ b.roundOf = some lw

theorem CtxOk.mono {ρ ρ' : Rn} (s : Sub ρ ρ') {c : Ctx} {b : Frame} {cs : List Frame} (h : CtxOk ρ c b cs) : CtxOk ρ' c b cs := by
  unfold CtxOk at *
  split
  · rename_i hn; simp only [hn] at h; exact ⟨h.1, h.2.mono s⟩
  · rename_i l hn; simp only [hn] at h; obtain ⟨h1, h2, lw, s0, x, h3, h4⟩ := h; exact ⟨h1, h2, lw, s0, x, s _ _ h3, h4⟩

theorem stepG_frm {b : Frame} {tm : Array Value} {ds : List Deferred} {ops : Array Oper} {i : Nat} {rest : List Nat} {k : List Item} {cs : List Frame} {w : World} {o : Oper} (ho : ops[i]? = some o)
    (hw : Region.wanted o (yielded ops tm) = true) (hd : b.roundOf = none ∨ ∀ c, o.op ≠ .defer c) :
    stepG P true (gor (frm b tm ds (.inRegion ops (i :: rest) :: k)) cs) w = stepG.apply P true (frm b tm ds (.inRegion ops (i :: rest) :: k)) cs none (execOp (evT tm) o) w := by
  have he := eval_frm b tm ds (.inRegion ops (i :: rest) :: k)
  have h1 : stepG P true (gor (frm b tm ds (.inRegion ops (i :: rest) :: k)) cs) w = stepG.oper P true (frm b tm ds (.inRegion ops (i :: rest) :: k)) cs none w := by
    simp [stepG, stepG.exec, gor, frm, ho, hw]
  rw [h1]
  unfold stepG.oper
  have h2 : (frm b tm ds (.inRegion ops (i :: rest) :: k)).oper? = some o := by simp [Frame.oper?, frm, ho]
  simp only [h2, he]
  rcases hd with hd | hd
  · have : (frm b tm ds (.inRegion ops (i :: rest) :: k)).roundOf = none := hd
    simp only [this]
  · split
    · rename_i hdef; exact absurd hdef (hd _)
    · rfl

theorem step_skipOp {b : Frame} {tm : Array Value} {ds : List Deferred} {ops : Array Oper} {i : Nat} {rest : List Nat} {k : List Item} {cs : List Frame} {w : World} {o : Oper} (ho : ops[i]? = some o)
    (hw : Region.wanted o (yielded ops tm) = false) :
    Steps P (lone (frm b tm ds (.inRegion ops (i :: rest) :: k)) cs w) (lone (frm b (putT tm o.dst undef) ds (.inRegion ops rest :: k)) cs w) := by
  have := finish_frm b tm ds ops i rest k undef
  simp only [ho, Option.bind_some] at this
  rw [← this]
  refine steps_of_bare ?_
  simp [stepG, stepG.exec, gor, frm, ho, hw]

theorem run_panicI (t : TypeId) (v : Value) (w : World) : (Instr.panic (.iface t v)).run P w = .halt (.panic (.iface t v)) w := rfl

theorem putT_frm {b : Frame} {tm : Array Value} {ds : List Deferred} {ops : Array Oper} {i : Nat} {rest : List Nat} {k : List Item} {o : Oper} (ho : ops[i]? = some o) (v : Value) :
    (frm b tm ds (.inRegion ops (i :: rest) :: k)).finish v = frm b (putT tm o.dst v) ds (.inRegion ops rest :: k) := by
  rw [finish_frm, ho]; rfl

theorem valsV_on {ρ : Rn} {r : Tr Value} {tm : Array Value} {xs : Array Operand} {l : List Operand} (h : OpOn E ρ r tm xs) (hl : ∀ x ∈ l, x ∈ xs) {vs : List Value} (e : valsV (evalO E.ng r) l = some vs) : renL ρ vs = some (l.map (evT tm)) := by
  induction l generalizing vs with
  | nil => simp [valsV] at e; subst e; simp [renL]
  | cons x l ih =>
    simp only [valsV] at e
    rw [oget_some] at e; obtain ⟨v, hv, e⟩ := e
    rw [oget_some] at e; obtain ⟨us, hus, e⟩ := e
    cases e
    exact renL_cons.2 ⟨evT tm x, l.map (evT tm), h x (hl x (by simp)) v hv, ih (fun y hy => hl y (by simp [hy])) hus, rfl⟩

theorem oOp_val {α : Type} {x : Option α} {f : α → OpR} {v : Value} {s : St} (e : oOp x f = .val v s) : ∃ a, x = some a ∧ f a = .val v s := by
  cases x with
  | none => cases e
  | some a => exact ⟨a, rfl, e⟩

theorem oOp_pan {α : Type} {x : Option α} {f : α → OpR} {v : Value} {s : St} (e : oOp x f = .pan v s) : ∃ a, x = some a ∧ f a = .pan v s := by
  cases x with
  | none => cases e
  | some a => exact ⟨a, rfl, e⟩

theorem recover_steps {ρ : Rn} {pan : Option Value} {b : Frame} {cs : List Frame} {rc : Bool} (hx : KindOk ρ pan b.kind cs) (hrc : pan = none → rc = false) {fr : Frame} (hf : fr.kind = b.kind) :
    (∃ v v', pan = some v ∧ rc = false ∧ ren ρ v = some v' ∧ tryRecover fr (recd rc cs) = some (v', recd true cs)) ∨ ((pan = none ∨ rc = true) ∧ tryRecover fr (recd rc cs) = none) := by
  unfold KindOk at hx
  cases pan with
  | none =>
    have := hrc rfl; subst this
    refine .inr ⟨.inl rfl, ?_⟩
    rcases hx with h | ⟨h, c, r, rfl, hm⟩
    · simp [tryRecover, hf, h]
    · simp [tryRecover, hf, h, recd, hm]
  | some v =>
    obtain ⟨h, c, r, v', rfl, hm, hv⟩ := hx
    cases rc with
    | false => exact .inl ⟨v, v', rfl, rfl, hv, by simp [tryRecover, hf, h, recd, markRec, hm]⟩
    | true => exact .inr ⟨.inr rfl, by simp [tryRecover, hf, h, recd, markRec, hm]⟩

/-- One operation. -/
theorem evOp_val (ok : Ok E P) {C : CallS} (hC : CallOk P E C) {c : Ctx} {b : Frame} {cs : List Frame} {o : Oper} {s s1 : St} {v : Value} (e : evOp E C c o s = .val v s1)
    {ρ : Rn} {w : World} {tm : Array Value} {ds : List Deferred} (hr : WRel ρ s.h w) (top : Top ρ s.h) (hg : GlobOk E ρ) (ho : OpOn E ρ s.r tm o.op.operands) (hd : DefRel ρ s.d ds) (hx : CtxOk ρ c b cs) (hrc : c.pan = none → s.rc = false)
    {ops : Array Oper} {i : Nat} {rest : List Nat} {k : List Item} (hi : ops[i]? = some o) (hw : Region.wanted o (yielded ops tm) = true) :
    s1.r = s.r ∧ s1.n = s.n ∧ (c.pan = none → s1.rc = false) ∧ ∃ ρ' w' v' ds', Step ρ s.h w ρ' s1.h w' ∧ ren ρ' v = some v' ∧ DefRel ρ' s1.d ds' ∧
      Steps P (lone (frm b tm ds (.inRegion ops (i :: rest) :: k)) (recd s.rc cs) w) (lone (frm b (putT tm o.dst v') ds' (.inRegion ops rest :: k)) (recd s1.rc cs) w') := by
  unfold evOp at e
  split at e
  · -- a call of a value
    rename_i f args ats hop
    obtain ⟨f1, hf1, e⟩ := oOp_val e
    obtain ⟨vs, hvs, e⟩ := oOp_val e
    have hf' := ho f (by simp [hop, Op.operands, Call.operands]) _ hf1
    have ha' := valsV_on ho (l := args.toList) (fun x hx => by simp [hop, Op.operands, Call.operands]; exact .inr (by simpa using hx)) hvs
    have hm : args.map (evT tm) = ⟨args.toList.map (evT tm)⟩ := by apply Array.ext'; simp
    have hst := stepG_frm (P := P) (b := b) (ds := ds) (rest := rest) (k := k) (cs := recd s.rc cs) (w := w) hi hw (.inr (by rw [hop]; intro c h; cases h))
    obtain ⟨h1, ρ', w', v', g1, g2, g3⟩ := call_val hC e hr top hg hf' ha' (fr := frm b tm ds (.inRegion ops (i :: rest) :: k)) (X := execOp (evT tm) o) (by rfl)
      (by simp only [execOp, hop, resolve, hm]) (congrArg GStep.bare hst)
    rw [putT_frm hi] at g3
    rw [h1]
    exact ⟨rfl, rfl, hrc, ρ', w', v', ds, g1, g2, hd.mono g1.sub, g3⟩
  · -- recover
    rename_i args ats hop
    have hst := stepG_frm (P := P) (b := b) (ds := ds) (rest := rest) (k := k) (cs := recd s.rc cs) (w := w) hi hw (.inr (by rw [hop]; intro c h; cases h))
    cases hrnd : c.rnd with
    | some l => simp [hrnd] at e
    | none =>
      simp only [hrnd] at e
      unfold CtxOk at hx
      simp only [hrnd] at hx
      have hrun : (execOp (evT tm) o).run P w = .ok .recover w := by simp [execOp, hop, resolve, invoke, builtin]
      have hap := apply_recover (P := P) (fr := frm b tm ds (.inRegion ops (i :: rest) :: k)) (cs := recd s.rc cs) hx.1 hrun
      rcases recover_steps hx.2 hrc (fr := frm b tm ds (.inRegion ops (i :: rest) :: k)) rfl with ⟨u, u', h1, h2, h3, h4⟩ | ⟨h1, h4⟩
      · simp only [h1, h2] at e
        cases e
        rw [h4] at hap
        refine ⟨rfl, rfl, fun h => (by rw [h1] at h; cases h), ρ, w, u', ds, Step.refl hr, h3, hd, ?_⟩
        rw [← putT_frm (b := b) (ds := ds) hi]
        exact steps_of_bare (by rw [hst, hap])
      · have e' : OpR.val .nilIface s = .val v s1 := by
          rw [← e]
          rcases h1 with h1 | h1
          · simp [h1]
          · rw [h1]; cases c.pan <;> rfl
        cases e'
        rw [h4] at hap
        refine ⟨rfl, rfl, hrc, ρ, w, .nilIface, ds, Step.refl hr, by simp [ren], hd, ?_⟩
        rw [← putT_frm (b := b) (ds := ds) hi]
        exact steps_of_bare (by rw [hst, hap])
  · -- panic
    obtain ⟨vs, hvs, e⟩ := oOp_val e
    split at e <;> cases e
  · obtain ⟨vs, hvs, e⟩ := oOp_val e
    split at e <;> cases e
  · -- defer
    rename_i f args ats hop
    cases hrnd : c.rnd with
    | some l => simp [hrnd] at e
    | none =>
      simp only [hrnd] at e
      unfold CtxOk at hx
      simp only [hrnd] at hx
      obtain ⟨f1, hf1, e⟩ := oOp_val e
      obtain ⟨vs, hvs, e⟩ := oOp_val e
      have key : ∃ g first cp, f1 = .func (.func g) ⟨first⟩ cp ∧ v = undef' ∧ s1 = { s with d := { target := .fn (.func g) cp, args := ⟨first ++ vs⟩ } :: s.d } := by
        cases f1 with
        | func fn first cp => cases fn with
          | func g => cases e; exact ⟨g, first.toList, cp, rfl, rfl, rfl⟩
          | _ => cases e
        | _ => cases e
      obtain ⟨g, first, cp, rfl, rfl, rfl⟩ := key
      have hf' := ho f (by simp [hop, Op.operands, Call.operands]) _ hf1
      have ha' := valsV_on ho (l := args.toList) (fun x hx => by simp [hop, Op.operands, Call.operands]; exact .inr (by simpa using hx)) hvs
      obtain ⟨cp⟩ := cp
      obtain ⟨a, ha1, bb, hb1, hfe⟩ : ∃ a, renL ρ first = some a ∧ ∃ b, renL ρ cp = some b ∧ evT tm f = .func (.func g) ⟨a⟩ ⟨b⟩ := by
        simp only [ren, renA] at hf'
        cases h1 : renL ρ first with
        | none => simp [h1] at hf'
        | some a => cases h2 : renL ρ cp with
          | none => simp [h1, h2] at hf'
          | some b => simp [h1, h2] at hf'; exact ⟨a, rfl, b, rfl, hf'.symm⟩
      have hm : args.map (evT tm) = ⟨args.toList.map (evT tm)⟩ := by apply Array.ext'; simp
      have hst := stepG_frm (P := P) (b := b) (ds := ds) (rest := rest) (k := k) (cs := recd s.rc cs) (w := w) hi hw (.inl hx.1)
      have hrun : (execOp (evT tm) o).run P w = .ok (.defer { target := .fn (.func g) ⟨bb⟩, args := ⟨a ++ args.toList.map (evT tm)⟩ }) w := by
        simp [execOp, hop, resolve, hm, hfe, Deferred.ofValue]
      refine ⟨rfl, rfl, hrc, ρ, w, undef, { target := .fn (.func g) ⟨bb⟩, args := ⟨a ++ args.toList.map (evT tm)⟩ } :: ds, Step.refl hr, ren_undef ρ, ⟨⟨bb, _, hb1, renL_append ha1 ha', rfl⟩, hd⟩, ?_⟩
      rw [← putT_frm (b := b) hi]
      refine steps_of_bare ?_
      rw [hst, apply_defer hrun]
      rfl
  · -- no call
    obtain ⟨x, hav, e⟩ := oOp_val e
    obtain ⟨u, h1⟩ := x
    cases e
    have hnd : ∀ c, o.op ≠ .defer c := by
      intro c hc
      simp [aval, hc] at hav
    have hst := stepG_frm (P := P) (b := b) (ds := ds) (rest := rest) (k := k) (cs := recd s.rc cs) (w := w) hi hw (.inr hnd)
    obtain ⟨ρ', w', v', g1, g2, g3⟩ := aval_on ok hr ho hav top
    refine ⟨rfl, rfl, hrc, ρ', w', v', ds, g1, g2, hd.mono g1.sub, ?_⟩
    rw [← putT_frm (b := b) hi]
    rcases g3 with g3 | ⟨g3, rfl⟩
    · exact steps_of_bare (by rw [hst, apply_value g3])
    · exact steps_of_bare (by rw [hst, apply_skip g3])

theorem evOp_pan {C : CallS} (hC : CallOk P E C) {c : Ctx} {b : Frame} {cs : List Frame} {o : Oper} {s s1 : St} {v : Value} (e : evOp E C c o s = .pan v s1)
    {ρ : Rn} {w : World} {tm : Array Value} {ds : List Deferred} (hr : WRel ρ s.h w) (top : Top ρ s.h) (hg : GlobOk E ρ) (ho : OpOn E ρ s.r tm o.op.operands)
    {ops : Array Oper} {i : Nat} {rest : List Nat} {k : List Item} (hi : ops[i]? = some o) (hw : Region.wanted o (yielded ops tm) = true) :
    s1 = { s with h := s1.h } ∧ ∃ ρ' w' v', Step ρ s.h w ρ' s1.h w' ∧ ren ρ' v = some v' ∧
      Steps P (lone (frm b tm ds (.inRegion ops (i :: rest) :: k)) (recd s.rc cs) w) (lone { frm b tm ds (.inRegion ops (i :: rest) :: k) with mode := .panicking [{ v := v', recovered := false }] } (recd s.rc cs) w') := by
  unfold evOp at e
  split at e
  · -- a call of a value
    rename_i f args ats hop
    obtain ⟨f1, hf1, e⟩ := oOp_pan e
    obtain ⟨vs, hvs, e⟩ := oOp_pan e
    have hf' := ho f (by simp [hop, Op.operands, Call.operands]) _ hf1
    have ha' := valsV_on ho (l := args.toList) (fun x hx => by simp [hop, Op.operands, Call.operands]; exact .inr (by simpa using hx)) hvs
    have hm : args.map (evT tm) = ⟨args.toList.map (evT tm)⟩ := by apply Array.ext'; simp
    have hst := stepG_frm (P := P) (b := b) (ds := ds) (rest := rest) (k := k) (cs := recd s.rc cs) (w := w) hi hw (.inr (by rw [hop]; intro c h; cases h))
    obtain ⟨h1, ρ', w', v', g1, g2, g3⟩ := call_pan hC e hr top hg hf' ha' (fr := frm b tm ds (.inRegion ops (i :: rest) :: k)) (X := execOp (evT tm) o) (by rfl)
      (by simp only [execOp, hop, resolve, hm]) (congrArg GStep.bare hst)
    exact ⟨h1, ρ', w', v', g1, g2, g3⟩
  · cases hrnd : c.rnd with
    | some l => simp [hrnd] at e
    | none =>
      simp only [hrnd] at e
      split at e <;> cases e
  · -- panic
    rename_i args ats hop
    obtain ⟨vs, hvs, e⟩ := oOp_pan e
    split at e
    · rename_i t u
      cases e
      have hst := stepG_frm (P := P) (b := b) (ds := ds) (rest := rest) (k := k) (cs := recd s.rc cs) (w := w) hi hw (.inr (by rw [hop]; intro c h; cases h))
      have ha' := valsV_on ho (l := args.toList) (fun x hx => by simp [hop, Op.operands, Call.operands]; simpa using hx) hvs
      obtain ⟨v', m, h1, h2, h3⟩ := renL_cons.1 ha'
      simp [renL] at h2; subst h2
      have hm : args.map (evT tm) = ⟨[v']⟩ := by apply Array.ext'; simpa using h3
      have h1' := h1
      simp only [ren, Option.map_eq_some_iff] at h1
      obtain ⟨u', hu', rfl⟩ := h1
      have hrun : (execOp (evT tm) o).run P w = .halt (.panic (.iface t u')) w := by
        simp only [execOp, hop, resolve, hm, invoke, builtin, Sem.run_bind, Sem.run_pure, Result.andThen_ok]
        rfl
      exact ⟨rfl, ρ, w, _, Step.refl hr, h1', steps_of_bare (by rw [hst, apply_panic hrun]; rfl)⟩
    · cases e
  · rename_i x hop
    obtain ⟨u, hu, e⟩ := oOp_pan e
    split at e
    · rename_i t u
      cases e
      have hst := stepG_frm (P := P) (b := b) (ds := ds) (rest := rest) (k := k) (cs := recd s.rc cs) (w := w) hi hw (.inr (by rw [hop]; intro c h; cases h))
      have h1 := ho x (by simp [hop, Op.operands]) _ hu
      have h1' := h1
      simp only [ren, Option.map_eq_some_iff] at h1
      obtain ⟨u', hu', h2⟩ := h1
      have hrun : (execOp (evT tm) o).run P w = .halt (.panic (.iface t u')) w := by
        simp only [execOp, hop, ← h2]
        rfl
      exact ⟨rfl, ρ, w, _, Step.refl hr, by rw [h1', ← h2], steps_of_bare (by rw [hst, apply_panic hrun]; rfl)⟩
    · cases e
  · cases hrnd : c.rnd with
    | some l => simp [hrnd] at e
    | none =>
      simp only [hrnd] at e
      obtain ⟨f1, hf1, e⟩ := oOp_pan e
      obtain ⟨vs, hvs, e⟩ := oOp_pan e
      split at e <;> cases e
  · obtain ⟨x, hav, e⟩ := oOp_pan e
    cases e

end Go.Ev
