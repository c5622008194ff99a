/- A deterministic evaluator of the model's code over a memory of its own: calls of every depth. -/
import Derived.Test.YthhohhbkeaghnaaEVz
set_option linter.unusedSimpArgs false
set_option linter.unusedVariables false
set_option linter.unusedSectionVars false
namespace Go.Ev
variable {E : Env} {P : Program}

/-- The table of functions is the program's. -/
def TabOk (P : Program) (ft : Tr AFunc) : Prop := ∀ f af, ft.get f = some af → ∃ fn body, P.funcs[f]? = some fn ∧ fn.body = some body ∧ fn.name ≠ "runtime.NumGoroutine" ∧ af = ⟨fn.ntmps, fn.results.toList, comp body⟩

theorem run_callFunc {f : FuncId} {fn : Func} {body : Code} (hf : P.funcs[f]? = some fn) (hb : fn.body = some body) (hn : fn.name ≠ "runtime.NumGoroutine") (args : Array Value) (w : World) : (callFunc f args).run P w = .ok (.enter f args) w := by
  simp [callFunc, hf, hb, hn]

theorem enter_frm {f : FuncId} {fn : Func} {body : Code} (hf : P.funcs[f]? = some fn) (hb : fn.body = some body) (args : Array Value) (kind : CallKind) :
    Frame.enter P f args kind = frm (Frame.enter P f args kind) (args ++ Array.replicate (fn.ntmps - args.size) undef) [] [.code body] := by
  simp [Frame.enter, frm, hf, hb]

/-- How a function's body comes to its end. -/
def bodyOf (E : Env) (C : CallS) (fn : AFunc) (n : Nat) : Out → CRes
  | .nor s => leave E C fn.results s.r s.rc n none s.d s.h
  | .ret s => leave E C fn.results s.r s.rc n none s.d s.h
  | .pan v s => leave E C fn.results s.r s.rc n (some v) s.d s.h
  | _ => .fail

theorem callN_fn {ft : Tr AFunc} {n : Nat} {f : FuncId} {args : List Value} {pan : Option Value} {h : AH} : callN E ft (n + 1) (.fn f) args pan h = (match ft.get f with
      | none => bif E.same f then (match args with | [.pointer a] => .ret (.pointer a) h false | _ => .fail) else (match E.known f, args, pan with | some v, [], none => .ret v h false | _, _, _ => .fail)
      | some fn => bif Nat.ble args.length fn.n && Nat.blt fn.n cap then bodyOf E (callN E ft n) fn n (ev E (callN E ft n) ⟨none, pan⟩ n fn.body ⟨putCells .nil 0 args, fn.n, [], h, false⟩) else .fail) := rfl

theorem callN_yield {ft : Tr AFunc} {n : Nat} {l : Nat} {args : List Value} {pan : Option Value} {h : AH} : callN E ft (n + 1) (.yield l) args pan h = (match h.b.get l with
      | some (.loop .ready _ _ m r ps assign body _) => bif Nat.blt m cap then match putAll m r ps args with
        | none => .fail
        | some r => match ev E (callN E ft n) ⟨some l, none⟩ n (comp assign) ⟨r, m, [], h, false⟩ with
          | .nor s => match s.h.b.get l with
            | some (.loop .ready pend fn m' r' ps asg bo de) =>
              endOf l (ev E (callN E ft n) ⟨some l, none⟩ n (comp body) { s with h := s.h.upd l (.loop .busy pend fn m' r' ps asg bo de) })
            | _ => .fail
          | _ => .fail
        else .fail
      | _ => .fail) := rfl

theorem step_retNone {b : Frame} {tm : Array Value} {ds : List Deferred} {cs : List Frame} {w : World} (hn : b.roundOf = none) : Steps P (lone (frm b tm ds []) cs w) (lone (out b tm ds [] .returning) cs w) :=
  steps_of_bare (by simp [stepG, stepG.exec, gor, frm, out, hn])

theorem step_ret' {b : Frame} {tm : Array Value} {ds : List Deferred} {k : List Item} {cs : List Frame} {w : World} (hn : b.roundOf = none) : Steps P (lone (frm b tm ds (.code .ret :: k)) cs w) (lone (out b tm ds (.code .ret :: k) .returning) cs w) :=
  steps_of_bare (by simp [stepG, stepG.exec, gor, frm, out, hn])

/-- What a call comes to, from its entering on. -/
def BodyRes (P : Program) (f : FuncId) (kind : CallKind) (cs : List Frame) (pan : Option Value) (ρ : Rn) (h : AH) (w : World) (mc : Machine) : CRes → Prop
  | .fail => True
  | .ret v h' rc => (pan = none → rc = false) ∧ ∃ ρ' w' v' fr, Step ρ h w ρ' h' w' ∧ ren ρ' v = some v' ∧ Steps P mc (lone fr (recd rc cs) w') ∧ Fin P fr f kind w' v'
  | .pan v h' => ∃ ρ' w' v' fr, Step ρ h w ρ' h' w' ∧ ren ρ' v = some v' ∧ Steps P mc (lone fr cs w') ∧ fr.leaving P w' (.panicked [{ v := v', recovered := false }])

theorem body_res (ok : Ok E P) {C : CallS} (hC : CallOk P E C) {f : FuncId} {fn : Func} {body : Code} (hf : P.funcs[f]? = some fn) (hb : fn.body = some body) {n : Nat} {args args' : List Value} {pan : Option Value} {h : AH} {ρ : Rn} {w : World} (hr : WRel ρ h w) (top : Top ρ h) (hg : GlobOk E ρ) (ha : renL ρ args = some args')
    (hlen : args.length ≤ fn.ntmps) (hcap : fn.ntmps < cap) {kind : CallKind} {cs : List Frame} (hk : KindOk ρ pan kind cs) :
    BodyRes P f kind cs pan ρ h w (lone (Frame.enter P f ⟨args'⟩ kind) cs w) (bodyOf E C ⟨fn.ntmps, fn.results.toList, comp body⟩ n (ev E C ⟨none, pan⟩ n (comp body) ⟨putCells .nil 0 args, fn.ntmps, [], h, false⟩)) := by
  have hl := renL_length ha
  have hs : SRel E ⟨none, pan⟩ (Frame.enter P f ⟨args'⟩ kind) cs ρ ⟨putCells .nil 0 args, fn.ntmps, [], h, false⟩ w (⟨args'⟩ ++ Array.replicate (fn.ntmps - (⟨args'⟩ : Array Value).size) undef) [] := by
    refine ⟨hr, top, hg, fun t v e => ?_, by simp; omega, trivial, ⟨rfl, hk⟩, fun _ => rfl⟩
    have e : (putCells .nil 0 args).get t = some v := e
    rw [putCells_get _ _ _ _ (by omega)] at e
    split at e
    · rename_i hc
      obtain ⟨v', h1, h2⟩ := renL_get ha _ _ e
      refine ⟨v', h1, ?_⟩
      rw [Array.getElem?_append_left (by simp; omega)]
      simpa using h2
    · simp [Tr.get] at e
  have he := (ev_ends ok hC n).1 body (k := []) (.inl rfl) hs
  rw [← enter_frm hf hb] at he
  have hst : recd (St.rc ⟨putCells .nil 0 args, fn.ntmps, [], h, false⟩) cs = cs := rfl
  rw [hst] at he
  have fin : ∀ {s : St} {ρ1 w1 tm ds k M m}, Step ρ h w ρ1 s.h w1 → SRel E ⟨none, pan⟩ (Frame.enter P f ⟨args'⟩ kind) cs ρ1 s w1 tm ds → ModeOk ρ1 m M → Steps P (lone (Frame.enter P f ⟨args'⟩ kind) cs w) (lone (out (Frame.enter P f ⟨args'⟩ kind) tm ds k M) (recd s.rc cs) w1) →
      BodyRes P f kind cs pan ρ h w (lone (Frame.enter P f ⟨args'⟩ kind) cs w) (leave E C fn.results.toList s.r s.rc n m s.d s.h) := by
    intro s ρ1 w1 tm ds k M m g1 g2 g3 g4
    have := leave_ok ok hC (b := Frame.enter P f ⟨args'⟩ kind) (fn := fn) hf (k := k) (rc := s.rc) (cs := recd s.rc cs) n g2.rel g2.top g2.glob g2.regs g2.defs g3
    revert this
    cases leave E C fn.results.toList s.r s.rc n m s.d s.h with
    | fail => exact fun _ => trivial
    | ret v h' rc => rintro ⟨rfl, ρ', w', v', fr', a1, a2, a3, a4⟩; exact ⟨g2.rc, ρ', w', v', fr', g1.trans a1, a2, g4.trans a3, a4⟩
    | pan v h' =>
      rintro ⟨e, ρ', w', v', fr', a1, a2, a3, a4⟩
      rw [e] at a3 g4
      exact ⟨ρ', w', v', fr', g1.trans a1, a2, g4.trans a3, a4⟩
  cases hx : ev E C ⟨none, pan⟩ n (comp body) ⟨putCells .nil 0 args, fn.ntmps, [], h, false⟩ with
  | fail => trivial
  | nor s =>
    rw [hx] at he
    obtain ⟨ρ1, w1, tm, ds, g1, g2, g3⟩ := he
    exact fin g1 g2 rfl (g3.trans (step_retNone rfl))
  | exit i s => trivial
  | goto l s => trivial
  | ret s =>
    rw [hx] at he
    obtain ⟨ρ1, w1, tm, ds, k', g1, g2, g3⟩ := he
    exact fin g1 g2 rfl (g3.trans (step_ret' rfl))
  | pan v s =>
    rw [hx] at he
    obtain ⟨ρ1, w1, tm, ds, k', v', g1, g2, g3, g4, g5⟩ := he
    exact fin (k := k') g1 g2 ⟨v', g3, rfl⟩ g5

theorem putAll_sound {ρ : Rn} {n : Nat} (hcap : n < cap) : ∀ {ts : List Tmp} {vs vs' : List Value} {r r2 : Tr Value} {tm : Array Value}, putAll n r ts vs = some r2 → RegRel ρ tm r → tm.size = n → renL ρ vs = some vs' →
    ts.length = vs.length ∧ RegRel ρ ((ts.zip vs').foldl (fun tm x => tm.setIfInBounds x.1 x.2) tm) r2 ∧ ((ts.zip vs').foldl (fun tm x => tm.setIfInBounds x.1 x.2) tm).size = n
  | [], [], vs', r, r2, tm, e, hr, hs, hv => by
    simp [putAll] at e; subst e
    simp [renL] at hv; subst hv
    exact ⟨rfl, hr, hs⟩
  | [], _ :: _, _, _, _, _, e, _, _, _ => by simp [putAll] at e
  | _ :: _, [], _, _, _, _, e, _, _, _ => by simp [putAll] at e
  | t :: ts, v :: vs, vs', r, r2, tm, e, hr, hs, hv => by
    simp only [putAll] at e
    rw [bif_some] at e
    obtain ⟨ht, e⟩ := e
    have ht := of_blt ht
    obtain ⟨v', m, h1, h2, rfl⟩ := renL_cons.1 hv
    have hr' : RegRel ρ (tm.setIfInBounds t v') (r.put t v) := fun u x hx => by
      rw [Tr.get_put _ _ _ _ (Nat.lt_trans ht hcap)] at hx
      by_cases e : u = t
      · subst e
        simp at hx; subst hx
        exact ⟨v', h1, by simp [hs, ht]⟩
      · rw [if_neg e] at hx
        obtain ⟨x', q1, q2⟩ := hr u x hx
        exact ⟨x', q1, by rw [Array.getElem?_setIfInBounds_ne (Ne.symm e)]; exact q2⟩
    obtain ⟨g1, g2, g3⟩ := putAll_sound hcap e hr' (by simp [hs]) h2
    exact ⟨by simp [g1], g2, g3⟩

/-- The steps at a round's end. -/
theorem run_endRound {w : World} {l : Nat} {rec : Loop} (h : w.heap[l]? = some (.loop rec)) (jump : Option Code) : (Instr.endRound l jump).run P w = .ok (.bool jump.isNone) { w with heap := w.heap.setIfInBounds l (.loop { rec with state := if jump.isNone then .ready else .done, pending := jump }) } := by
  simp only [Instr.endRound, Sem.run_bind, run_getLoop h, Result.andThen_ok, run_setLoop h, Sem.run_pure]

theorem step_roundEnd {b : Frame} {tm : Array Value} {c : Frame} {cs : List Frame} {w w' : World} {l : Nat} {v : Value} {todo : List Item} {jump : Option Code} (hn : b.roundOf = some l) (hk : b.kind = .normal)
    (ht : (todo = [] ∧ jump = none) ∨ (∃ k, todo = .code .ret :: k ∧ jump = some .ret) ∨ (∃ i k, todo = .code (.exit i) :: k ∧ exitTo i k = none ∧ jump = some (.exit i))) (h : (Instr.endRound l jump).run P w = .ok v w') :
    Steps P (lone (frm b tm [] todo) (c :: cs) w) (lone (c.finish v) cs w') := by
  refine steps_of_bare ?_
  rcases ht with ⟨rfl, rfl⟩ | ⟨k, rfl, rfl⟩ | ⟨i, k, rfl, he, rfl⟩
  · simp [stepG, stepG.exec, gor, frm, hn, h, doReturn, hk]
  · simp [stepG, stepG.exec, gor, frm, hn, h, doReturn, hk]
  · simp [stepG, stepG.exec, gor, frm, hn, he, h, doReturn, hk]

theorem step_roundPan {b : Frame} {tm : Array Value} {c : Frame} {cs : List Frame} {w : World} {k : List Item} {ch : List PanicEntry} (hk : noCall k) :
    Steps P (lone { frm b tm [] k with mode := .panicking ch } (c :: cs) w) (lone (c.raise ch) cs w) := by
  refine steps_of_bare ?_
  have hc : ({ frm b tm [] k with mode := .panicking ch } : Frame).catches P = false := by
    unfold Frame.catches
    split
    · rename_i h1 h2; exact absurd h2 (hk _ _ _ _ _)
    · rfl
  have hst : stepG P true (gor { frm b tm [] k with mode := .panicking ch } (c :: cs)) w = unwind P true { frm b tm [] k with mode := .panicking ch } (c :: cs) none w := rfl
  rw [hst]
  simp only [unwind, frm] at hc ⊢
  simp only [hc, Bool.false_eq_true, if_false]
  rfl

theorem run_beginRound {w : World} {l : Nat} {rec : Loop} (h : w.heap[l]? = some (.loop rec)) (hs : rec.state = .ready) : (Instr.beginRound l).run P w = .ok () { w with heap := w.heap.setIfInBounds l (.loop { rec with state := .busy }) } := by
  simp only [Instr.beginRound, Sem.run_bind, run_getLoop h, Result.andThen_ok, run_setLoop h, hs, Sem.run_pure]

theorem step_beginRound {b : Frame} {tm : Array Value} {ds : List Deferred} {k : List Item} {cs : List Frame} {w w' : World} {l : Nat} (hn : b.roundOf = some l) (h : (Instr.beginRound l).run P w = .ok () w') :
    Steps P (lone (frm b tm ds (.beginRound :: k)) cs w) (lone (frm b tm ds k) cs w') := by
  refine steps_of_bare ?_
  have hst : stepG P true (gor (frm b tm ds (.beginRound :: k)) cs) w = stepG.apply P true (frm b tm ds (.beginRound :: k)) cs none (do b.roundOf.elim (stuck "beginRound: no round") Instr.beginRound; pure .skip) w := rfl
  rw [hst, apply_skip (w' := w') (by rw [hn]; simp [h])]
  rfl

end Go.Ev
