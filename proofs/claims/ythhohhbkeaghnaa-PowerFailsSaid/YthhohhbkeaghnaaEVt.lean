/- A deterministic evaluator of the model's code over a memory of its own: plain regions. -/
import Derived.Test.YthhohhbkeaghnaaEVs
set_option linter.unusedSimpArgs false
set_option linter.unusedVariables false
set_option linter.unusedSectionVars false
namespace Go.Ev
variable {E : Env} {P : Program}

/-- Where we are, here and there. -/
structure SRel (E : Env) (c : Ctx) (b : Frame) (cs : List Frame) (ρ : Rn) (s : St) (w : World) (tm : Array Value) (ds : List Deferred) : Prop where
  rel : WRel ρ s.h w
  top : Top ρ s.h
  glob : GlobOk E ρ
  regs : RegRel ρ tm s.r
  size : tm.size = s.n
  defs : DefRel ρ s.d ds
  ctx : CtxOk ρ c b cs
  rc : c.pan = none → s.rc = false

def noCall (k : List Item) : Prop := ∀ d wr r sv t, k ≠ .call d wr r sv :: t

/-- How a piece of code ends. -/
def Ends (P : Program) (E : Env) (c : Ctx) (b : Frame) (cs : List Frame) (ρ : Rn) (h : AH) (w : World) (m : Machine) (k : List Item) : Out → Prop
  | .fail => True
  | .nor s' => ∃ ρ' w' tm' ds', Step ρ h w ρ' s'.h w' ∧ SRel E c b cs ρ' s' w' tm' ds' ∧ Steps P m (lone (frm b tm' ds' k) (recd s'.rc cs) w')
  | .exit i s' => ∃ ρ' w' tm' ds' k', Step ρ h w ρ' s'.h w' ∧ SRel E c b cs ρ' s' w' tm' ds' ∧ exitTo i k' = exitTo i k ∧ Steps P m (lone (frm b tm' ds' (.code (.exit i) :: k')) (recd s'.rc cs) w')
  | .goto l s' => ∃ ρ' w' tm' ds' k', Step ρ h w ρ' s'.h w' ∧ SRel E c b cs ρ' s' w' tm' ds' ∧ gotoIn l k' = gotoIn l k ∧ Steps P m (lone (frm b tm' ds' (.code (.goto l) :: k')) (recd s'.rc cs) w')
  | .ret s' => ∃ ρ' w' tm' ds' k', Step ρ h w ρ' s'.h w' ∧ SRel E c b cs ρ' s' w' tm' ds' ∧ Steps P m (lone (frm b tm' ds' (.code .ret :: k')) (recd s'.rc cs) w')
  | .pan v s' => ∃ ρ' w' tm' ds' k' v', Step ρ h w ρ' s'.h w' ∧ SRel E c b cs ρ' s' w' tm' ds' ∧ ren ρ' v = some v' ∧ noCall k' ∧
      Steps P m (lone { frm b tm' ds' k' with mode := .panicking [{ v := v', recovered := false }] } (recd s'.rc cs) w')

theorem Ends.of_steps {c : Ctx} {b : Frame} {cs : List Frame} {ρ : Rn} {h : AH} {w : World} {m m1 : Machine} {k : List Item} {x : Out} (st : Steps P m m1) (e : Ends P E c b cs ρ h w m1 k x) : Ends P E c b cs ρ h w m k x := by
  cases x with
  | fail => trivial
  | nor s => obtain ⟨ρ', w', tm', ds', h1, h2, h3⟩ := e; exact ⟨ρ', w', tm', ds', h1, h2, st.trans h3⟩
  | exit i s => obtain ⟨ρ', w', tm', ds', k', h1, h2, h3, h4⟩ := e; exact ⟨ρ', w', tm', ds', k', h1, h2, h3, st.trans h4⟩
  | goto i s => obtain ⟨ρ', w', tm', ds', k', h1, h2, h3, h4⟩ := e; exact ⟨ρ', w', tm', ds', k', h1, h2, h3, st.trans h4⟩
  | ret s => obtain ⟨ρ', w', tm', ds', k', h1, h2, h3⟩ := e; exact ⟨ρ', w', tm', ds', k', h1, h2, st.trans h3⟩
  | pan v s => obtain ⟨ρ', w', tm', ds', k', v', h1, h2, h3, h4, h5⟩ := e; exact ⟨ρ', w', tm', ds', k', v', h1, h2, h3, h4, st.trans h5⟩

theorem Ends.of_step {c : Ctx} {b : Frame} {cs : List Frame} {ρ ρ1 : Rn} {h h1 : AH} {w w1 : World} {m : Machine} {k : List Item} {x : Out} (st : Step ρ h w ρ1 h1 w1) (e : Ends P E c b cs ρ1 h1 w1 m k x) : Ends P E c b cs ρ h w m k x := by
  cases x with
  | fail => trivial
  | nor s => obtain ⟨ρ', w', tm', ds', h1, h2, h3⟩ := e; exact ⟨ρ', w', tm', ds', st.trans h1, h2, h3⟩
  | exit i s => obtain ⟨ρ', w', tm', ds', k', h1, h2, h3, h4⟩ := e; exact ⟨ρ', w', tm', ds', k', st.trans h1, h2, h3, h4⟩
  | goto i s => obtain ⟨ρ', w', tm', ds', k', h1, h2, h3, h4⟩ := e; exact ⟨ρ', w', tm', ds', k', st.trans h1, h2, h3, h4⟩
  | ret s => obtain ⟨ρ', w', tm', ds', k', h1, h2, h3⟩ := e; exact ⟨ρ', w', tm', ds', k', st.trans h1, h2, h3⟩
  | pan v s => obtain ⟨ρ', w', tm', ds', k', v', h1, h2, h3, h4, h5⟩ := e; exact ⟨ρ', w', tm', ds', k', v', st.trans h1, h2, h3, h4, h5⟩

theorem putD_some {s s' : St} {d : Option Tmp} {v : Value} (e : putD s d v = some s') : (d = none ∧ s' = s) ∨ ∃ t, d = some t ∧ t < s.n ∧ s.n < cap ∧ s' = { s with r := s.r.put t v } := by
  unfold putD at e
  cases d with
  | none => simp at e; exact .inl ⟨rfl, e.symm⟩
  | some t =>
    simp only at e
    rw [bif_some] at e
    obtain ⟨hc, e⟩ := e
    simp only [Bool.and_eq_true] at hc
    exact .inr ⟨t, rfl, of_blt hc.1, of_blt hc.2, by cases e; rfl⟩

theorem putT_size (tm : Array Value) (d : Option Tmp) (v : Value) : (putT tm d v).size = tm.size := by
  cases d <;> simp [putT]

theorem putT_get {tm : Array Value} {d t : Tmp} {v : Value} (hd : d < tm.size) : (putT tm (some d) v)[t]? = if t = d then some v else tm[t]? := by
  by_cases e : t = d
  · subst e; simp [putT, hd]
  · simp [putT, Array.getElem?_setIfInBounds_ne (Ne.symm e), e]

theorem SRel.put {c : Ctx} {b : Frame} {cs : List Frame} {ρ : Rn} {s s' : St} {w : World} {tm : Array Value} {ds : List Deferred} (h : SRel E c b cs ρ s w tm ds) {d : Option Tmp} {v v' : Value} (hv : ren ρ v = some v') (e : putD s d v = some s') :
    SRel E c b cs ρ s' w (putT tm d v') ds ∧ s'.h = s.h ∧ s'.rc = s.rc := by
  rcases putD_some e with ⟨rfl, rfl⟩ | ⟨t, rfl, h1, h2, rfl⟩
  · exact ⟨h, rfl, rfl⟩
  · refine ⟨⟨h.rel, h.top, h.glob, fun u x hx => ?_, by rw [putT_size]; exact h.size, h.defs, h.ctx, h.rc⟩, rfl, rfl⟩
    have hx : (s.r.put t v).get u = some x := hx
    rw [Tr.get_put _ _ _ _ (Nat.lt_trans h1 h2)] at hx
    rw [putT_get (by rw [h.size]; exact h1)]
    by_cases eu : u = t
    · simp only [eu, if_true, Option.some.injEq] at hx ⊢
      subst hx
      exact ⟨v', hv, rfl⟩
    · simp only [eu, if_false] at hx ⊢
      exact h.regs u x hx

theorem oOut_ends {c : Ctx} {b : Frame} {cs : List Frame} {ρ : Rn} {h : AH} {w : World} {m : Machine} {k : List Item} {α : Type} {x : Option α} {f : α → Out} (hx : ∀ a, x = some a → Ends P E c b cs ρ h w m k (f a)) : Ends P E c b cs ρ h w m k (oOut x f) := by
  cases x with
  | none => trivial
  | some a => exact hx a rfl

theorem step_regionEnd {b : Frame} {tm : Array Value} {ds : List Deferred} {ops : Array Oper} {k : List Item} {cs : List Frame} {w : World} :
    Steps P (lone (frm b tm ds (.inRegion ops [] :: k)) cs w) (lone (frm b tm ds k) cs w) :=
  steps_of_bare (by simp [stepG, stepG.exec, gor, frm])

theorem step_regionPlain {b : Frame} {tm : Array Value} {ds : List Deferred} {ops : Array Oper} {k : List Item} {cs : List Frame} {w : World} {id : Nat} :
    Steps P (lone (frm b tm ds (.code (.region id ops false) :: k)) cs w) (lone (frm b tm ds (.inRegion ops (List.range ops.size) :: k)) cs w) :=
  steps_of_bare (by simp [stepG, stepG.exec, gor, frm])

/-- The operations in their order. -/
theorem evOps_ends (ok : Ok E P) {C : CallS} (hC : CallOk P E C) {c : Ctx} {b : Frame} {cs : List Frame} {all : Array Oper} {k : List Item} : ∀ {l : List Oper} {idx : List Nat} {s : St}, idx.map (all[·]?) = l.map some → ∀ {ρ w tm ds}, SRel E c b cs ρ s w tm ds →
    Ends P E c b cs ρ s.h w (lone (frm b tm ds (.inRegion all idx :: k)) (recd s.rc cs) w) k (evOps E C c all l s)
  | [], idx, s, hi, ρ, w, tm, ds, h => by
    have : idx = [] := by simpa using hi
    subst this
    exact ⟨ρ, w, tm, ds, Step.refl h.rel, h, step_regionEnd⟩
  | o :: l, [], s, hi, ρ, w, tm, ds, h => by simp at hi
  | o :: l, i :: idx, s, hi, ρ, w, tm, ds, h => by
    simp only [List.map_cons, List.cons.injEq] at hi
    obtain ⟨ho, hi⟩ := hi
    have looks : ∀ t ∈ o.looksAt all, ∀ v, s.r.get t = some v → ∃ v', ren ρ v = some v' ∧ tm[t]? = some v' := fun t _ v e => h.regs t v e
    unfold evOps
    split
    · trivial
    · rename_i hw
      have hw' := wantedT_rel looks hw
      refine oOut_ends fun s1 hs1 => ?_
      obtain ⟨q1, q2, q3⟩ := h.put (ren_undef ρ) hs1
      have := evOps_ends ok hC (l := l) (k := k) hi q1
      rw [q2, q3] at this
      exact .of_steps (step_skipOp ho hw') this
    · rename_i hw
      have hw' := wantedT_rel looks hw
      split
      · trivial
      · rename_i v s1 hv
        obtain ⟨g0, ρ', w', v', g1, g2, g3⟩ := evOp_pan hC hv h.rel h.top h.glob (OpOn.of_looks h.glob looks) (b := b) (cs := cs) (ds := ds) (rest := idx) (k := k) ho hw'
        have g0' : s1.rc = s.rc := by rw [g0]
        refine ⟨ρ', w', tm, ds, .inRegion all (i :: idx) :: k, v', g1, ?_, g2, (fun _ _ _ _ _ e => by cases e), by rw [g0']; exact g3⟩
        have sub := g1.sub
        exact ⟨g1.rel, g1.top h.top, h.glob.mono sub, by rw [g0]; exact h.regs.mono sub, by rw [g0]; exact h.size, by rw [g0]; exact h.defs.mono sub, h.ctx.mono sub, fun e => by rw [g0']; exact h.rc e⟩
      · rename_i v s1 hv
        obtain ⟨a1, a2, a3, ρ', w', v', ds', g1, g2, g3, g4⟩ := evOp_val ok hC hv h.rel h.top h.glob (OpOn.of_looks h.glob looks) h.defs h.ctx h.rc (rest := idx) (k := k) ho hw'
        refine oOut_ends fun s2 hs2 => ?_
        have sub := g1.sub
        have h1 : SRel E c b cs ρ' s1 w' tm ds' := ⟨g1.rel, g1.top h.top, h.glob.mono sub, by rw [a1]; exact h.regs.mono sub, by rw [a2]; exact h.size, g3, h.ctx.mono sub, a3⟩
        obtain ⟨q1, q2, q3⟩ := h1.put g2 hs2
        have := evOps_ends ok hC (l := l) (k := k) hi q1
        rw [q2, q3] at this
        exact .of_step g1 (.of_steps g4 this)

end Go.Ev
