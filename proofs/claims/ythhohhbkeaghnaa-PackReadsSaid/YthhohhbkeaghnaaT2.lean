/- Part 2 of the proof: WHATEVER THE INPUT: true; the input reads as it did. -/
import Derived.Test.YthhohhbkeaghnaaT1
import Derived.Below
import Derived.Attr
import Derived.IntWalk
set_option linter.unusedSimpArgs false
set_option linter.unusedVariables false
set_option linter.unusedSectionVars false
section
/- A deterministic evaluator of the model's code over a memory of its own: leaving a function. -/
namespace Go.Ev
variable {E : Env} {P : Program}

def resRun (tmps : Array Value) : ResultVar → Sem Value
  | .tmp t => pure (tmps.getD t undef)
  | .cell a t => do loadVar t (← asAddr (tmps.getD a undef))

theorem resultsV_sound (ok : Ok E P) {ρ : Rn} {h : AH} {w : World} (hr : WRel ρ h w) {r : Tr Value} {tm : Array Value} (hreg : RegRel ρ tm r) : ∀ {rs : List ResultVar} {vs : List Value}, resultsV E r h rs = some vs →
    ∃ vs', renL ρ vs = some vs' ∧ (rs.mapM (resRun tm)).run P w = .ok vs' w
  | [], vs, e => by simp [resultsV] at e; subst e; exact ⟨[], by simp [renL], rfl⟩
  | .tmp t :: rs, vs, e => by
    simp only [resultsV] at e
    rw [oget_some] at e; obtain ⟨v, hv, e⟩ := e
    rw [oget_some] at e; obtain ⟨us, hus, e⟩ := e
    cases e
    obtain ⟨v', h1, h2⟩ := hreg t v hv
    obtain ⟨us', h3, h4⟩ := resultsV_sound ok hr hreg hus
    refine ⟨v' :: us', renL_cons.2 ⟨v', us', h1, h3, rfl⟩, ?_⟩
    have h2' : tm.getD t undef = v' := by simp [h2]
    simp only [List.mapM_cons, resRun, Sem.run_bind, Sem.run_pure, Result.andThen_ok, h4, h2']
  | .cell a t :: rs, vs, e => by
    simp only [resultsV] at e
    rw [oget_some] at e; obtain ⟨av, hav, e⟩ := e
    rw [oget_some] at e; obtain ⟨v, hv, e⟩ := e
    rw [oget_some] at e; obtain ⟨us, hus, e⟩ := e
    cases e
    obtain ⟨a', h1, h2⟩ := hreg a av hav
    obtain ⟨v', h5, h6⟩ := aLoad_sound ok hr h1 hv
    obtain ⟨us', h3, h4⟩ := resultsV_sound ok hr hreg hus
    refine ⟨v' :: us', renL_cons.2 ⟨v', us', h5, h3, rfl⟩, ?_⟩
    have h2' : tm.getD a undef = a' := by simp [h2]
    have ha : ∃ ad, a' = .pointer (some ad) := by
      unfold aLoad at hv
      split at hv
      · obtain ⟨c, s, x, _, e⟩ := ren_ptr h1; exact ⟨_, e⟩
      · cases hv
    obtain ⟨ad, rfl⟩ := ha
    have h7 : (loadVar t ad).run P w = .ok v' w := by
      have := h6
      simpa only [Instr.loadAt, Instr.sureAddr, Sem.run_bind, Sem.run_pure, Result.andThen_ok] using this
    simp only [List.mapM_cons, resRun, Sem.run_bind, Sem.run_pure, Result.andThen_ok, h4, h2', asAddr, h7]

theorem results_run {fn : Func} {tm : Array Value} {w : World} {vs' : List Value} (h : (fn.results.toList.mapM (resRun tm)).run P w = .ok vs' w) : (results fn tm).run P w = .ok (oneOf vs') w := by
  have hm : (fn.results.mapM (resRun tm)).run P w = .ok ⟨vs'⟩ w := by
    rw [Array.mapM_eq_mapM_toList, Sem.run_map, h]; rfl
  have : results fn tm = (do let vs ← fn.results.mapM (resRun tm); pure (if h : vs.size = 1 then vs[0] else .tuple vs)) := rfl
  rw [this, Sem.run_bind, hm, Result.andThen_ok, Sem.run_pure]
  congr 1
  match vs' with
  | [] => rfl
  | [v] => rfl
  | _ :: _ :: _ => rfl

theorem oneOf_ren {ρ : Rn} {vs vs' : List Value} (h : renL ρ vs = some vs') : ren ρ (oneOf vs) = some (oneOf vs') := by
  have hl := renL_length h
  match vs, vs', h, hl with
  | [], [], _, _ => exact ren_tuple.2 ⟨[], by simp [renL], rfl⟩
  | [v], [v'], h, _ =>
    obtain ⟨u, m, h1, h2, h3⟩ := renL_cons.1 h
    cases h3; exact h1
  | a :: b :: l, a' :: b' :: l', h, _ => exact ren_tuple.2 ⟨_, h, rfl⟩

/-- A frame on its way out. -/
def out (b : Frame) (tm : Array Value) (ds : List Deferred) (k : List Item) (M : FrameMode) : Frame := { b with tmps := tm, todo := k, defers := ds, mode := M }

def ModeOk (ρ : Rn) (m : Option Value) (M : FrameMode) : Prop := match m with
  | none => M = .returning
  | some v => ∃ v', ren ρ v = some v' ∧ M = .panicking [{ v := v', recovered := false }]

theorem step_take {b : Frame} {tm : Array Value} {ds : List Deferred} {k : List Item} {M : FrameMode} {cs : List Frame} {w w' : World} {c : Nat} {args : Array Value} (hM : M ≠ .run) (h : (Instr.takeDeferred c).run P w = .ok [] w') :
    Steps P (lone (out b tm ({ target := .collected c, args } :: ds) k M) cs w) (lone (out b tm ds k M) cs w') := by
  refine steps_of_bare ?_
  cases M with
  | run => exact absurd rfl hM
  | returning => simp [stepG, unwind, gor, out, h]
  | panicking ch => simp [stepG, unwind, gor, out, h]

theorem step_callDef {b : Frame} {tm : Array Value} {ds : List Deferred} {k : List Item} {M : FrameMode} {cs : List Frame} {w w' : World} {f : FuncId} {cp args a2 : Array Value} (hM : M ≠ .run) (h : (callFunc f (args ++ cp)).run P w = .ok (.enter f a2) w') :
    Steps P (lone (out b tm ({ target := .fn (.func f) cp, args } :: ds) k M) cs w) (lone (Frame.enter P f a2 .deferred) (out b tm ds k M :: cs) w') := by
  refine steps_of_bare ?_
  have hi : (invoke (.fn (.func f) cp) args).run P w = .ok (.enter f a2) w' := h
  cases M with
  | run => exact absurd rfl hM
  | returning => simp [stepG, unwind, callDeferred, gor, out, hi]
  | panicking ch => simp [stepG, unwind, callDeferred, gor, out, hi]

theorem step_valDef {b : Frame} {tm : Array Value} {ds : List Deferred} {k : List Item} {M : FrameMode} {cs : List Frame} {w w' : World} {f : FuncId} {cp args : Array Value} {v : Value} (hM : M ≠ .run) (h : (callFunc f (args ++ cp)).run P w = .ok (.value v) w') :
    Steps P (lone (out b tm ({ target := .fn (.func f) cp, args } :: ds) k M) cs w) (lone (out b tm ds k M) cs w') := by
  refine steps_of_bare ?_
  have hi : (invoke (.fn (.func f) cp) args).run P w = .ok (.value v) w' := h
  cases M with
  | run => exact absurd rfl hM
  | returning => simp [stepG, unwind, callDeferred, gor, out, hi]
  | panicking ch => simp [stepG, unwind, callDeferred, gor, out, hi]

/-- A deferred function has come to its end. -/
theorem step_backDef {fr : Frame} {f : FuncId} {w : World} {v : Value} (h : Fin P fr f .deferred w v) {c : Frame} {cs : List Frame} :
    Steps P (lone fr (c :: cs) w) (lone (match c.mode with
      | .panicking ({ recovered := true, .. } :: older) => match older.dropWhile (!·.goexit) with
          | [] => { c with mode := .returning }
          | rest => { c with mode := .panicking rest }
      | _ => c) cs w) := by
  obtain ⟨fn, h1, h2⟩ := h.res
  refine steps_of_bare ?_
  simp only [stepG, unwind, doReturn, gor, h.mode, h.defers, h.kind, h.fn, h1, Sem.runT_eq, h2, GStep.bare_after]
  rfl

/-- What leaving comes to. -/
def LeaveRes (P : Program) (b : Frame) (cs : List Frame) (rc : Bool) (ρ : Rn) (h : AH) (w : World) (mc : Machine) : CRes → Prop
  | .fail => True
  | .ret v h' rc' => rc' = rc ∧ ∃ ρ' w' v' fr', Step ρ h w ρ' h' w' ∧ ren ρ' v = some v' ∧ Steps P mc (lone fr' cs w') ∧ Fin P fr' b.fn b.kind w' v'
  | .pan v h' => rc = false ∧ ∃ ρ' w' v' fr', Step ρ h w ρ' h' w' ∧ ren ρ' v = some v' ∧ Steps P mc (lone fr' cs w') ∧ fr'.leaving P w' (.panicked [{ v := v', recovered := false }])

theorem leave_ok (ok : Ok E P) {C : CallS} (hC : CallOk P E C) {b : Frame} {fn : Func} (hf : P.funcs[b.fn]? = some fn) {r : Tr Value} {tm : Array Value} {k : List Item} {rc : Bool} {cs : List Frame} : ∀ (n : Nat) {m : Option Value} {d ds : List Deferred} {h : AH} {ρ : Rn} {w : World} {M : FrameMode},
    WRel ρ h w → Top ρ h → GlobOk E ρ → RegRel ρ tm r → DefRel ρ d ds → ModeOk ρ m M →
    LeaveRes P b cs rc ρ h w (lone (out b tm ds k M) cs w) (leave E C fn.results.toList r rc n m d h) := by
  have nil : ∀ (n : Nat) {m : Option Value} {h : AH} {ρ : Rn} {w : World} {M : FrameMode}, WRel ρ h w → RegRel ρ tm r → ModeOk ρ m M →
    LeaveRes P b cs rc ρ h w (lone (out b tm [] k M) cs w) (leave E C fn.results.toList r rc n m [] h) := by
    intro n m h ρ w M hr hreg hM
    cases m with
    | none =>
      have hM : M = .returning := hM
      have he : leave E C fn.results.toList r rc n none [] h = (match resultsV E r h fn.results.toList with | some vs => .ret (oneOf vs) h rc | none => .fail) := by cases n <;> rfl
      rw [he]
      cases hv : resultsV E r h fn.results.toList with
      | none => trivial
      | some vs =>
        obtain ⟨vs', h1, h2⟩ := resultsV_sound ok hr hreg hv
        exact ⟨rfl, ρ, w, oneOf vs', _, Step.refl hr, oneOf_ren h1, .refl _ _, ⟨hM, rfl, rfl, rfl, fn, hf, results_run h2⟩⟩
    | some v =>
      obtain ⟨v', h1, h2⟩ := hM
      have he : leave E C fn.results.toList r rc n (some v) [] h = (bif rc then .fail else .pan v h) := by cases n <;> rfl
      rw [he]
      cases rc with
      | true => trivial
      | false => exact ⟨rfl, ρ, w, v', _, Step.refl hr, h1, .refl _ _, ⟨h2, rfl, fn, hf⟩⟩
  intro n
  induction n with
  | zero =>
    intro m d ds h ρ w M hr top hg hreg hd hM
    cases d with
    | nil =>
      cases ds with
      | nil => exact nil 0 hr hreg hM
      | cons _ _ => exact hd.elim
    | cons d0 d =>
      have : leave E C fn.results.toList r rc 0 m (d0 :: d) h = .fail := by cases m <;> rfl
      rw [this]; trivial
  | succ n ih =>
    intro m d ds h ρ w M hr top hg hreg hd hM
    have hMr : M ≠ .run := by
      cases m with
      | none => intro e; rw [show M = .returning from hM] at e; cases e
      | some v => obtain ⟨v', _, h2⟩ := hM; intro e; rw [h2] at e; cases e
    cases d with
    | nil =>
      cases ds with
      | nil => exact nil (n + 1) hr hreg hM
      | cons _ _ => exact hd.elim
    | cons d0 d =>
      cases ds with
      | nil => exact hd.elim
      | cons d0' ds =>
        obtain ⟨hd0, hd⟩ := hd
        have he : leave E C fn.results.toList r rc (n + 1) m (d0 :: d) h = (match d0.target with
          | .collected b => match h.b.get b with
            | some (.deferred (some [])) => leave E C fn.results.toList r rc n m d (h.upd b (.deferred none))
            | _ => .fail
          | .fn (.func f) ⟨cp⟩ => match C (.fn f) (d0.args.toList ++ cp) m h with
            | .ret _ h rcd => leave E C fn.results.toList r rc n (bif rcd then none else m) d h
            | _ => .fail
          | _ => .fail) := by cases m <;> rfl
        rw [he]
        -- on from a later place
        have on : ∀ {ρ1 h1 w1 M1 m1}, Step ρ h w ρ1 h1 w1 → ModeOk ρ1 m1 M1 → Steps P (lone (out b tm (d0' :: ds) k M) cs w) (lone (out b tm ds k M1) cs w1) →
            LeaveRes P b cs rc ρ h w (lone (out b tm (d0' :: ds) k M) cs w) (leave E C fn.results.toList r rc n m1 d h1) := by
          intro ρ1 h1 w1 M1 m1 s1 s2 s3
          have := ih s1.rel (s1.top top) (hg.mono s1.sub) (hreg.mono s1.sub) (hd.mono s1.sub) s2
          revert this
          cases leave E C fn.results.toList r rc n m1 d h1 with
          | fail => exact fun _ => trivial
          | ret v h' rc' => rintro ⟨e, ρ', w', v', fr', a1, a2, a3, a4⟩; exact ⟨e, ρ', w', v', fr', s1.trans a1, a2, s3.trans a3, a4⟩
          | pan v h' => rintro ⟨e, ρ', w', v', fr', a1, a2, a3, a4⟩; exact ⟨e, ρ', w', v', fr', s1.trans a1, a2, s3.trans a3, a4⟩
        have modeMono : ∀ {ρ1}, Sub ρ ρ1 → ModeOk ρ1 m M := fun sub => by
          cases m with
          | none => exact hM
          | some v => obtain ⟨v', h1, h2⟩ := hM; exact ⟨v', ren_mono sub _ _ h1, h2⟩
        unfold DefOne at hd0
        cases ht : d0.target with
        | collected bk =>
          rw [ht] at hd0
          simp only [] at hd0 ⊢
          obtain ⟨c, s0, x0, hc, rfl⟩ := hd0
          split
          · rename_i hb
            have hB := hr.blk bk _ hb c s0 x0 hc
            have hB1 := hB.1 rfl
            have hlt : c < w.heap.size := (Array.getElem?_eq_some_iff.1 hB1).1
            have hst : Step ρ h w ρ (h.upd bk (.deferred none)) { w with heap := w.heap.setIfInBounds c (.deferred none) } :=
              Step.upd hr hb rfl hc (hr.low _ _ hb) rfl ⟨fun e => (by cases e), none, by simp [hlt]⟩ (by simp) (fun k hk => by simp [Array.getElem?_setIfInBounds_ne (Ne.symm hk)]) rfl rfl rfl
            refine on hst (modeMono (Sub.refl _)) (step_take hMr ?_)
            simp only [Instr.takeDeferred, Sem.run_bind, run_getObj hB1 (by intro _ _ _ e; cases e), Result.andThen_ok, run_setObj hB1 (by intro _ _ _ e; cases e), Sem.run_pure]
          · trivial
        | fn g cp0 =>
          cases g with
          | func f =>
            obtain ⟨cp⟩ := cp0
            rw [ht] at hd0
            simp only [] at hd0 ⊢
            obtain ⟨cp', as', hcp, has, rfl⟩ := hd0
            split
            · rename_i v h1 rcd hcall
              obtain ⟨hrcd, H⟩ := hC.ret hcall hr top hg (renL_append has hcp)
              rcases H with ⟨v', q1, q2, q3, q4⟩ | ⟨q1, H⟩
              · subst q2; subst q3
                exact on (Step.refl hr) (modeMono (Sub.refl _)) (step_valDef hMr (by simpa using q4))
              · have hko : KindOk ρ m .deferred (out b tm ds k M :: cs) := by
                  cases m with
                  | none => exact .inr ⟨rfl, _, _, rfl, hM⟩
                  | some v => obtain ⟨v', h1, h2⟩ := hM; exact ⟨rfl, _, _, v', rfl, h2, h1⟩
                obtain ⟨ρ', w', v', fr', g1, g2, g3, g4⟩ := H .deferred (out b tm ds k M :: cs) hko
                have s1 := (step_callDef (P := P) (b := b) (tm := tm) (ds := ds) (k := k) (M := M) (cs := cs) hMr (show (callFunc f (⟨as'⟩ ++ ⟨cp'⟩)).run P w = _ by simpa using q1)).trans g3
                cases rcd with
                | false =>
                  refine on g1 (modeMono g1.sub) (s1.trans ?_)
                  have := step_backDef g4 (c := out b tm ds k M) (cs := cs)
                  cases m with
                  | none =>
                    have e : M = .returning := hM
                    subst e
                    exact this
                  | some v =>
                    obtain ⟨v', h1, h2⟩ := hM
                    subst h2
                    exact this
                | true =>
                  cases m with
                  | none => have := hrcd rfl; cases this
                  | some u =>
                    obtain ⟨u', h1, h2⟩ := hM
                    subst h2
                    refine on (m1 := none) (M1 := .returning) g1 rfl (s1.trans ?_)
                    exact step_backDef g4 (c := { out b tm ds k (.panicking [{ v := u', recovered := false }]) with mode := .panicking [{ v := u', recovered := true }] }) (cs := cs)
            · trivial
          | _ => trivial
        | _ => trivial

end Go.Ev
end
section
/- A deterministic evaluator of the model's code over a memory of its own: calls of every depth. -/
namespace Go.Ev
variable {E : Env} {P : Program}

/-- The table of functions is the program's. -/
def TabOk (P : Program) (ft : Tr AFunc) : Prop := ∀ f af, ft.get f = some af → ∃ fn body, P.funcs[f]? = some fn ∧ fn.body = some body ∧ fn.name ≠ "runtime.NumGoroutine" ∧ af = ⟨fn.ntmps, fn.results.toList, comp body⟩

theorem run_callFunc {f : FuncId} {fn : Func} {body : Code} (hf : P.funcs[f]? = some fn) (hb : fn.body = some body) (hn : fn.name ≠ "runtime.NumGoroutine") (args : Array Value) (w : World) : (callFunc f args).run P w = .ok (.enter f args) w := by
  simp [callFunc, hf, hb, hn]

theorem enter_frm {f : FuncId} {fn : Func} {body : Code} (hf : P.funcs[f]? = some fn) (hb : fn.body = some body) (args : Array Value) (kind : CallKind) :
    Frame.enter P f args kind = frm (Frame.enter P f args kind) (args ++ Array.replicate (fn.ntmps - args.size) undef) [] [.code body] := by
  simp [Frame.enter, frm, hf, hb]

/-- How a function's body comes to its end. -/
def bodyOf (E : Env) (C : CallS) (fn : AFunc) (n : Nat) : Out → CRes
  | .nor s => leave E C fn.results s.r s.rc n none s.d s.h
  | .ret s => leave E C fn.results s.r s.rc n none s.d s.h
  | .pan v s => leave E C fn.results s.r s.rc n (some v) s.d s.h
  | _ => .fail

theorem callN_fn {ft : Tr AFunc} {n : Nat} {f : FuncId} {args : List Value} {pan : Option Value} {h : AH} : callN E ft (n + 1) (.fn f) args pan h = (match ft.get f with
      | none => bif E.same f then (match args with | [.pointer a] => .ret (.pointer a) h false | _ => .fail) else (match E.known f, args, pan with | some v, [], none => .ret v h false | _, _, _ => .fail)
      | some fn => bif Nat.ble args.length fn.n && Nat.blt fn.n cap then bodyOf E (callN E ft n) fn n (ev E (callN E ft n) ⟨none, pan⟩ n fn.body ⟨putCells .nil 0 args, fn.n, [], h, false⟩) else .fail) := rfl

theorem callN_yield {ft : Tr AFunc} {n : Nat} {l : Nat} {args : List Value} {pan : Option Value} {h : AH} : callN E ft (n + 1) (.yield l) args pan h = (match h.b.get l with
      | some (.loop .ready _ _ m r ps assign body _) => bif Nat.blt m cap then match putAll m r ps args with
        | none => .fail
        | some r => match ev E (callN E ft n) ⟨some l, none⟩ n (comp assign) ⟨r, m, [], h, false⟩ with
          | .nor s => match s.h.b.get l with
            | some (.loop .ready pend fn m' r' ps asg bo de) =>
              endOf l (ev E (callN E ft n) ⟨some l, none⟩ n (comp body) { s with h := s.h.upd l (.loop .busy pend fn m' r' ps asg bo de) })
            | _ => .fail
          | _ => .fail
        else .fail
      | _ => .fail) := rfl

theorem step_retNone {b : Frame} {tm : Array Value} {ds : List Deferred} {cs : List Frame} {w : World} (hn : b.roundOf = none) : Steps P (lone (frm b tm ds []) cs w) (lone (out b tm ds [] .returning) cs w) :=
  steps_of_bare (by simp [stepG, stepG.exec, gor, frm, out, hn])

theorem step_ret' {b : Frame} {tm : Array Value} {ds : List Deferred} {k : List Item} {cs : List Frame} {w : World} (hn : b.roundOf = none) : Steps P (lone (frm b tm ds (.code .ret :: k)) cs w) (lone (out b tm ds (.code .ret :: k) .returning) cs w) :=
  steps_of_bare (by simp [stepG, stepG.exec, gor, frm, out, hn])

/-- What a call comes to, from its entering on. -/
def BodyRes (P : Program) (f : FuncId) (kind : CallKind) (cs : List Frame) (pan : Option Value) (ρ : Rn) (h : AH) (w : World) (mc : Machine) : CRes → Prop
  | .fail => True
  | .ret v h' rc => (pan = none → rc = false) ∧ ∃ ρ' w' v' fr, Step ρ h w ρ' h' w' ∧ ren ρ' v = some v' ∧ Steps P mc (lone fr (recd rc cs) w') ∧ Fin P fr f kind w' v'
  | .pan v h' => ∃ ρ' w' v' fr, Step ρ h w ρ' h' w' ∧ ren ρ' v = some v' ∧ Steps P mc (lone fr cs w') ∧ fr.leaving P w' (.panicked [{ v := v', recovered := false }])

theorem body_res (ok : Ok E P) {C : CallS} (hC : CallOk P E C) {f : FuncId} {fn : Func} {body : Code} (hf : P.funcs[f]? = some fn) (hb : fn.body = some body) {n : Nat} {args args' : List Value} {pan : Option Value} {h : AH} {ρ : Rn} {w : World} (hr : WRel ρ h w) (top : Top ρ h) (hg : GlobOk E ρ) (ha : renL ρ args = some args')
    (hlen : args.length ≤ fn.ntmps) (hcap : fn.ntmps < cap) {kind : CallKind} {cs : List Frame} (hk : KindOk ρ pan kind cs) :
    BodyRes P f kind cs pan ρ h w (lone (Frame.enter P f ⟨args'⟩ kind) cs w) (bodyOf E C ⟨fn.ntmps, fn.results.toList, comp body⟩ n (ev E C ⟨none, pan⟩ n (comp body) ⟨putCells .nil 0 args, fn.ntmps, [], h, false⟩)) := by
  have hl := renL_length ha
  have hs : SRel E ⟨none, pan⟩ (Frame.enter P f ⟨args'⟩ kind) cs ρ ⟨putCells .nil 0 args, fn.ntmps, [], h, false⟩ w (⟨args'⟩ ++ Array.replicate (fn.ntmps - (⟨args'⟩ : Array Value).size) undef) [] := by
    refine ⟨hr, top, hg, fun t v e => ?_, by simp; omega, trivial, ⟨rfl, hk⟩, fun _ => rfl⟩
    have e : (putCells .nil 0 args).get t = some v := e
    rw [putCells_get _ _ _ _ (by omega)] at e
    split at e
    · rename_i hc
      obtain ⟨v', h1, h2⟩ := renL_get ha _ _ e
      refine ⟨v', h1, ?_⟩
      rw [Array.getElem?_append_left (by simp; omega)]
      simpa using h2
    · simp [Tr.get] at e
  have he := (ev_ends ok hC n).1 body (k := []) (.inl rfl) hs
  rw [← enter_frm hf hb] at he
  have hst : recd (St.rc ⟨putCells .nil 0 args, fn.ntmps, [], h, false⟩) cs = cs := rfl
  rw [hst] at he
  have fin : ∀ {s : St} {ρ1 w1 tm ds k M m}, Step ρ h w ρ1 s.h w1 → SRel E ⟨none, pan⟩ (Frame.enter P f ⟨args'⟩ kind) cs ρ1 s w1 tm ds → ModeOk ρ1 m M → Steps P (lone (Frame.enter P f ⟨args'⟩ kind) cs w) (lone (out (Frame.enter P f ⟨args'⟩ kind) tm ds k M) (recd s.rc cs) w1) →
      BodyRes P f kind cs pan ρ h w (lone (Frame.enter P f ⟨args'⟩ kind) cs w) (leave E C fn.results.toList s.r s.rc n m s.d s.h) := by
    intro s ρ1 w1 tm ds k M m g1 g2 g3 g4
    have := leave_ok ok hC (b := Frame.enter P f ⟨args'⟩ kind) (fn := fn) hf (k := k) (rc := s.rc) (cs := recd s.rc cs) n g2.rel g2.top g2.glob g2.regs g2.defs g3
    revert this
    cases leave E C fn.results.toList s.r s.rc n m s.d s.h with
    | fail => exact fun _ => trivial
    | ret v h' rc => rintro ⟨rfl, ρ', w', v', fr', a1, a2, a3, a4⟩; exact ⟨g2.rc, ρ', w', v', fr', g1.trans a1, a2, g4.trans a3, a4⟩
    | pan v h' =>
      rintro ⟨e, ρ', w', v', fr', a1, a2, a3, a4⟩
      rw [e] at a3 g4
      exact ⟨ρ', w', v', fr', g1.trans a1, a2, g4.trans a3, a4⟩
  cases hx : ev E C ⟨none, pan⟩ n (comp body) ⟨putCells .nil 0 args, fn.ntmps, [], h, false⟩ with
  | fail => trivial
  | nor s =>
    rw [hx] at he
    obtain ⟨ρ1, w1, tm, ds, g1, g2, g3⟩ := he
    exact fin g1 g2 rfl (g3.trans (step_retNone rfl))
  | exit i s => trivial
  | goto l s => trivial
  | ret s =>
    rw [hx] at he
    obtain ⟨ρ1, w1, tm, ds, k', g1, g2, g3⟩ := he
    exact fin g1 g2 rfl (g3.trans (step_ret' rfl))
  | pan v s =>
    rw [hx] at he
    obtain ⟨ρ1, w1, tm, ds, k', v', g1, g2, g3, g4, g5⟩ := he
    exact fin (k := k') g1 g2 ⟨v', g3, rfl⟩ g5

theorem putAll_sound {ρ : Rn} {n : Nat} (hcap : n < cap) : ∀ {ts : List Tmp} {vs vs' : List Value} {r r2 : Tr Value} {tm : Array Value}, putAll n r ts vs = some r2 → RegRel ρ tm r → tm.size = n → renL ρ vs = some vs' →
    ts.length = vs.length ∧ RegRel ρ ((ts.zip vs').foldl (fun tm x => tm.setIfInBounds x.1 x.2) tm) r2 ∧ ((ts.zip vs').foldl (fun tm x => tm.setIfInBounds x.1 x.2) tm).size = n
  | [], [], vs', r, r2, tm, e, hr, hs, hv => by
    simp [putAll] at e; subst e
    simp [renL] at hv; subst hv
    exact ⟨rfl, hr, hs⟩
  | [], _ :: _, _, _, _, _, e, _, _, _ => by simp [putAll] at e
  | _ :: _, [], _, _, _, _, e, _, _, _ => by simp [putAll] at e
  | t :: ts, v :: vs, vs', r, r2, tm, e, hr, hs, hv => by
    simp only [putAll] at e
    rw [bif_some] at e
    obtain ⟨ht, e⟩ := e
    have ht := of_blt ht
    obtain ⟨v', m, h1, h2, rfl⟩ := renL_cons.1 hv
    have hr' : RegRel ρ (tm.setIfInBounds t v') (r.put t v) := fun u x hx => by
      rw [Tr.get_put _ _ _ _ (Nat.lt_trans ht hcap)] at hx
      by_cases e : u = t
      · subst e
        simp at hx; subst hx
        exact ⟨v', h1, by simp [hs, ht]⟩
      · rw [if_neg e] at hx
        obtain ⟨x', q1, q2⟩ := hr u x hx
        exact ⟨x', q1, by rw [Array.getElem?_setIfInBounds_ne (Ne.symm e)]; exact q2⟩
    obtain ⟨g1, g2, g3⟩ := putAll_sound hcap e hr' (by simp [hs]) h2
    exact ⟨by simp [g1], g2, g3⟩

/-- The steps at a round's end. -/
theorem run_endRound {w : World} {l : Nat} {rec : Loop} (h : w.heap[l]? = some (.loop rec)) (jump : Option Code) : (Instr.endRound l jump).run P w = .ok (.bool jump.isNone) { w with heap := w.heap.setIfInBounds l (.loop { rec with state := if jump.isNone then .ready else .done, pending := jump }) } := by
  simp only [Instr.endRound, Sem.run_bind, run_getLoop h, Result.andThen_ok, run_setLoop h, Sem.run_pure]

theorem step_roundEnd {b : Frame} {tm : Array Value} {c : Frame} {cs : List Frame} {w w' : World} {l : Nat} {v : Value} {todo : List Item} {jump : Option Code} (hn : b.roundOf = some l) (hk : b.kind = .normal)
    (ht : (todo = [] ∧ jump = none) ∨ (∃ k, todo = .code .ret :: k ∧ jump = some .ret) ∨ (∃ i k, todo = .code (.exit i) :: k ∧ exitTo i k = none ∧ jump = some (.exit i))) (h : (Instr.endRound l jump).run P w = .ok v w') :
    Steps P (lone (frm b tm [] todo) (c :: cs) w) (lone (c.finish v) cs w') := by
  refine steps_of_bare ?_
  rcases ht with ⟨rfl, rfl⟩ | ⟨k, rfl, rfl⟩ | ⟨i, k, rfl, he, rfl⟩
  · simp [stepG, stepG.exec, gor, frm, hn, h, doReturn, hk]
  · simp [stepG, stepG.exec, gor, frm, hn, h, doReturn, hk]
  · simp [stepG, stepG.exec, gor, frm, hn, he, h, doReturn, hk]

theorem step_roundPan {b : Frame} {tm : Array Value} {c : Frame} {cs : List Frame} {w : World} {k : List Item} {ch : List PanicEntry} (hk : noCall k) :
    Steps P (lone { frm b tm [] k with mode := .panicking ch } (c :: cs) w) (lone (c.raise ch) cs w) := by
  refine steps_of_bare ?_
  have hc : ({ frm b tm [] k with mode := .panicking ch } : Frame).catches P = false := by
    unfold Frame.catches
    split
    · rename_i h1 h2; exact absurd h2 (hk _ _ _ _ _)
    · rfl
  have hst : stepG P true (gor { frm b tm [] k with mode := .panicking ch } (c :: cs)) w = unwind P true { frm b tm [] k with mode := .panicking ch } (c :: cs) none w := rfl
  rw [hst]
  simp only [unwind, frm] at hc ⊢
  simp only [hc, Bool.false_eq_true, if_false]
  rfl

theorem run_beginRound {w : World} {l : Nat} {rec : Loop} (h : w.heap[l]? = some (.loop rec)) (hs : rec.state = .ready) : (Instr.beginRound l).run P w = .ok () { w with heap := w.heap.setIfInBounds l (.loop { rec with state := .busy }) } := by
  simp only [Instr.beginRound, Sem.run_bind, run_getLoop h, Result.andThen_ok, run_setLoop h, hs, Sem.run_pure]

theorem step_beginRound {b : Frame} {tm : Array Value} {ds : List Deferred} {k : List Item} {cs : List Frame} {w w' : World} {l : Nat} (hn : b.roundOf = some l) (h : (Instr.beginRound l).run P w = .ok () w') :
    Steps P (lone (frm b tm ds (.beginRound :: k)) cs w) (lone (frm b tm ds k) cs w') := by
  refine steps_of_bare ?_
  have hst : stepG P true (gor (frm b tm ds (.beginRound :: k)) cs) w = stepG.apply P true (frm b tm ds (.beginRound :: k)) cs none (do b.roundOf.elim (stuck "beginRound: no round") Instr.beginRound; pure .skip) w := rfl
  rw [hst, apply_skip (w' := w') (by rw [hn]; simp [h])]
  rfl

end Go.Ev
end
section
/- A deterministic evaluator of the model's code over a memory of its own: it is the model's. -/
namespace Go.Ev
variable {E : Env} {P : Program}

/-- What a round comes to. -/
def RoundRes (P : Program) (ρ : Rn) (h : AH) (w : World) (c : Frame) (cs : List Frame) (mc : Machine) : CRes → Prop
  | .fail => True
  | .ret v h' _ => ∃ ρ' w' v', Step ρ h w ρ' h' w' ∧ ren ρ' v = some v' ∧ Steps P mc (lone (c.finish v') cs w')
  | .pan v h' => ∃ ρ' w' v', Step ρ h w ρ' h' w' ∧ ren ρ' v = some v' ∧ Steps P mc (lone (c.raise [{ v := v', recovered := false }]) cs w')

theorem roundEnd_ok {ρ : Rn} {h : AH} {w : World} (hr : WRel ρ h w) {l lw s x : Nat} (hl : ρ l = some (lw, s, x)) {c : Frame} {cs : List Frame} {b : Frame} {tm : Array Value} {todo : List Item} {jump : Option Code} (hn : b.roundOf = some lw) (hk : b.kind = .normal)
    (ht : (todo = [] ∧ jump = none) ∨ (∃ k, todo = .code .ret :: k ∧ jump = some .ret) ∨ (∃ i k, todo = .code (.exit i) :: k ∧ exitTo i k = none ∧ jump = some (.exit i))) :
    RoundRes P ρ h w c cs (lone (frm b tm [] todo) (c :: cs) w) (roundEnd l jump h) := by
  unfold roundEnd
  split
  · rename_i st pend fn n r ps asg bo de hb
    obtain ⟨rec, r1, r2, r3, r4, r5, r6, r7, r8, r9⟩ := Step.loop hr hl hb
    refine ⟨ρ, _, .bool jump.isNone, r9 (if jump.isNone then .ready else .done) jump, by simp [ren], step_roundEnd hn hk ht (run_endRound r1 jump)⟩
  · trivial

theorem RoundRes.after {ρ ρ1 : Rn} {h h1 : AH} {w w1 : World} {c : Frame} {cs : List Frame} {mc mc1 : Machine} {x : CRes} (s : Step ρ h w ρ1 h1 w1) (st : Steps P mc mc1) (e : RoundRes P ρ1 h1 w1 c cs mc1 x) : RoundRes P ρ h w c cs mc x := by
  cases x with
  | fail => trivial
  | ret v h' rc => obtain ⟨ρ', w', v', a1, a2, a3⟩ := e; exact ⟨ρ', w', v', s.trans a1, a2, st.trans a3⟩
  | pan v h' => obtain ⟨ρ', w', v', a1, a2, a3⟩ := e; exact ⟨ρ', w', v', s.trans a1, a2, st.trans a3⟩

theorem endOf_ok {ρ : Rn} {h : AH} {w : World} {l lw s x : Nat} (hl : ρ l = some (lw, s, x)) {c : Frame} {cs : List Frame} {b : Frame} (hn : b.roundOf = some lw) (hk : b.kind = .normal) {mc : Machine} {o : Out}
    (he : Ends P E ⟨some l, none⟩ b (c :: cs) ρ h w mc [] o) : RoundRes P ρ h w c cs mc (endOf l o) := by
  have nods : ∀ {ρ' : Rn} {ds : List Deferred}, DefRel ρ' [] ds → ds = [] := fun {ρ' ds} h => by
    cases ds with
    | nil => rfl
    | cons _ _ => exact h.elim
  cases o with
  | fail => trivial
  | nor s =>
    obtain ⟨ρ', w', tm, ds, g1, g2, g3⟩ := he
    unfold endOf
    simp only []
    split
    · rename_i hd
      have := nods (hd ▸ g2.defs)
      subst this
      rw [g2.rc rfl] at g3
      exact .after g1 g3 (roundEnd_ok g2.rel (g1.sub _ _ hl) hn hk (.inl ⟨rfl, rfl⟩))
    · trivial
  | ret s =>
    obtain ⟨ρ', w', tm, ds, k', g1, g2, g3⟩ := he
    unfold endOf
    simp only []
    split
    · rename_i hd
      have := nods (hd ▸ g2.defs)
      subst this
      rw [g2.rc rfl] at g3
      exact .after g1 g3 (roundEnd_ok g2.rel (g1.sub _ _ hl) hn hk (.inr (.inl ⟨_, rfl, rfl⟩)))
    · trivial
  | exit i s =>
    obtain ⟨ρ', w', tm, ds, k', g1, g2, g0, g3⟩ := he
    unfold endOf
    simp only []
    split
    · rename_i hd
      have := nods (hd ▸ g2.defs)
      subst this
      rw [g2.rc rfl] at g3
      exact .after g1 g3 (roundEnd_ok g2.rel (g1.sub _ _ hl) hn hk (.inr (.inr ⟨_, _, rfl, g0, rfl⟩)))
    · trivial
  | goto i s => trivial
  | pan v s =>
    obtain ⟨ρ', w', tm, ds, k', v', g1, g2, g3, g4, g5⟩ := he
    unfold endOf
    simp only []
    split
    · rename_i hd
      have := nods (hd ▸ g2.defs)
      subst this
      rw [g2.rc rfl] at g5
      exact ⟨ρ', w', v', g1, g3, g5.trans (step_roundPan g4)⟩
    · trivial

theorem yield_ok (ok : Ok E P) {ft : Tr AFunc} {n : Nat} (hC : CallOk P E (callN E ft n)) {l : Nat} {args : List Value} {pan : Option Value} {h : AH} {ρ : Rn} {w : World} {args' : List Value} {lw s x : Nat} (hr : WRel ρ h w) (top : Top ρ h) (hg : GlobOk E ρ) (hl : ρ l = some (lw, s, x)) (ha : renL ρ args = some args')
    (hne : callN E ft (n + 1) (.yield l) args pan h ≠ .fail) :
    ∃ f tm a b, (Instr.yield lw ⟨args'⟩).run P w = .ok (.round lw f tm a b) w ∧ ∀ c cs, RoundRes P ρ h w c cs (lone (Frame.round lw f tm a b .normal) (c :: cs) w) (callN E ft (n + 1) (.yield l) args pan h) := by
  rw [callN_yield] at hne ⊢
  split at hne
  · rename_i pend fn m r ps asg bo de hb
    cases hc : Nat.blt m cap with
    | false => simp [hc] at hne
    | true =>
      simp only [hc, cond_true] at hne ⊢
      have hcap := of_blt hc
      cases hp : putAll m r ps args with
      | none => simp [hp] at hne
      | some r2 =>
        simp only [hp] at hne ⊢
        obtain ⟨rec, r1, r3, r4, r5, r6, r7, r8, r9, _⟩ := Step.loop hr hl hb
        obtain ⟨q1, q2, q3⟩ := putAll_sound hcap hp r9 r8 ha
        have hl' := renL_length ha
        have hy : (Instr.yield lw ⟨args'⟩).run P w = .ok (.round lw rec.fn ((ps.zip args').foldl (fun tm x => tm.setIfInBounds x.1 x.2) rec.tmps) asg bo) w := by
          simp only [Instr.yield, Sem.run_bind, run_getLoop r1, Result.andThen_ok, r5]
          have : ¬ ((⟨args'⟩ : Array Value).size ≠ (⟨ps⟩ : Array Tmp).size) := by simp; omega
          rw [if_neg this]
          simp [r6, r7]
        refine ⟨rec.fn, _, asg, bo, hy, fun c cs => ?_⟩
        generalize hfr : Frame.round lw rec.fn ((ps.zip args').foldl (fun tm x => tm.setIfInBounds x.1 x.2) rec.tmps) asg bo .normal = fr
        have hn : fr.roundOf = some lw := by rw [← hfr]; rfl
        have hk : fr.kind = .normal := by rw [← hfr]; rfl
        have hfrm : fr = frm fr ((ps.zip args').foldl (fun tm x => tm.setIfInBounds x.1 x.2) rec.tmps) [] [.code asg, .beginRound, .code bo] := by rw [← hfr]; rfl
        have hs : SRel E ⟨some l, none⟩ fr (c :: cs) ρ ⟨r2, m, [], h, false⟩ w ((ps.zip args').foldl (fun tm x => tm.setIfInBounds x.1 x.2) rec.tmps) [] :=
          ⟨hr, top, hg, q2, q3, trivial, ⟨rfl, hk, lw, s, x, hl, hn⟩, fun _ => rfl⟩
        have he := (ev_ends ok hC n).1 asg (k := [.beginRound, .code bo]) (.inl rfl) hs
        rw [← hfrm] at he
        have hst : recd (St.rc ⟨r2, m, [], h, false⟩) (c :: cs) = c :: cs := rfl
        rw [hst] at he
        split
        · rename_i s1 hs1
          rw [hs1] at he
          obtain ⟨ρ1, w1, tm1, ds1, g1, g2, g3⟩ := he
          rw [g2.rc rfl] at g3
          have hl1 := g1.sub _ _ hl
          split
          · rename_i pend1 fn1 m1 r1' ps1 asg1 bo1 de1 hb1
            obtain ⟨rec1, t1, t2, t3, t4, t5, t6, t7, t8, t9⟩ := Step.loop g2.rel hl1 hb1
            have t9' := t9 .busy pend1
            have hs2 : SRel E ⟨some l, none⟩ fr (c :: cs) ρ1 { s1 with h := s1.h.upd l (.loop .busy pend1 fn1 m1 r1' ps1 asg1 bo1 de1) } { w1 with heap := w1.heap.setIfInBounds lw (.loop { rec1 with state := .busy, pending := pend1 }) } tm1 ds1 :=
              ⟨t9'.rel, t9'.top g2.top, g2.glob, g2.regs, g2.size, g2.defs, g2.ctx, g2.rc⟩
            have hbr : (Instr.beginRound lw).run P w1 = .ok () { w1 with heap := w1.heap.setIfInBounds lw (.loop { rec1 with state := .busy, pending := pend1 }) } := by
              rw [run_beginRound t1 t2]; subst t3; rfl
            have he2 := (ev_ends ok hC n).1 bo (k := []) (.inl rfl) hs2
            have hst2 : recd (St.rc { s1 with h := s1.h.upd l (.loop .busy pend1 fn1 m1 r1' ps1 asg1 bo1 de1) }) (c :: cs) = c :: cs := by
              show recd s1.rc (c :: cs) = _
              rw [g2.rc rfl]; rfl
            rw [hst2] at he2
            exact .after (g1.trans t9') (g3.trans (step_beginRound hn hbr)) (endOf_ok hl1 hn hk he2)
          · trivial
        · trivial
  · exact absurd rfl hne

/-- The evaluator is right, at every depth. -/
theorem callN_ok (ok : Ok E P) (kn : KnownOk E P) {ft : Tr AFunc} (tab : TabOk P ft) : ∀ n, CallOk P E (callN E ft n)
  | 0 => ⟨fun e => (by cases e), fun e => (by cases e), fun e => (by cases e), fun e => (by cases e)⟩
  | n + 1 => by
    have hC := callN_ok ok kn tab n
    refine ⟨@fun f args pan h v h' rc e ρ w args' hr top hg ha => ?_, @fun f args h v h' e ρ w args' hr top hg ha => ?_, @fun l args h v h' rc e ρ w args' lw s x hr top hg hl ha => ?_, @fun l args h v h' e ρ w args' lw s x hr top hg hl ha => ?_⟩
    · rw [callN_fn] at e
      split at e
      · cases hs : E.same f with
        | false =>
          simp only [hs, cond_false] at e
          split at e
          · rename_i v0 hk
            cases e
            simp [renL] at ha; subst ha
            obtain ⟨h1, h2⟩ := kn f _ hk hr top hg
            refine ⟨fun _ => rfl, .inr ⟨h1, fun kind cs hkd => ?_⟩⟩
            obtain ⟨w', v', fr, s1, s2, s3, s4⟩ := h2 kind cs hkd
            exact ⟨ρ, w', v', fr, s1, s2, s3, s4⟩
          · cases e
        | true =>
          simp only [hs, cond_true] at e
          split at e
          · rename_i a
            cases e
            obtain ⟨a', m, h1, h2, rfl⟩ := renL_cons.1 ha
            simp [renL] at h2; subst h2
            refine ⟨fun _ => rfl, .inl ⟨a', h1, rfl, rfl, ?_⟩⟩
            have : ∃ b, a' = .pointer b := by
              cases a with
              | none => simp [ren] at h1; exact ⟨_, h1.symm⟩
              | some a => simp only [ren, Option.map_eq_some_iff] at h1; obtain ⟨b, _, e⟩ := h1; exact ⟨_, e.symm⟩
            obtain ⟨b, rfl⟩ := this
            exact ok.same f hs b w
          · cases e
      · rename_i af hft
        obtain ⟨fn, body, hf, hb, hn, rfl⟩ := tab f af hft
        cases hc : (Nat.ble args.length fn.ntmps && Nat.blt fn.ntmps cap) with
        | false => simp [hc] at e
        | true =>
          simp only [hc, cond_true] at e
          simp only [Bool.and_eq_true] at hc
          have key : ∀ kind cs, KindOk ρ pan kind cs → _ := fun kind cs hk => body_res ok hC hf hb (n := n) hr top hg ha (of_ble hc.1) (of_blt hc.2) hk
          rw [e] at key
          refine ⟨fun hp => ?_, .inr ⟨run_callFunc hf hb hn _ _, fun kind cs hk => (key kind cs hk).2⟩⟩
          subst hp
          exact (key .normal [] (.inl rfl)).1 rfl
    · rw [callN_fn] at e
      split at e
      · cases hs : E.same f with
        | false =>
          simp only [hs, cond_false] at e
          split at e <;> cases e
        | true =>
          simp only [hs, cond_true] at e
          split at e <;> cases e
      · rename_i af hft
        obtain ⟨fn, body, hf, hb, hn, rfl⟩ := tab f af hft
        cases hc : (Nat.ble args.length fn.ntmps && Nat.blt fn.ntmps cap) with
        | false => simp [hc] at e
        | true =>
          simp only [hc, cond_true] at e
          simp only [Bool.and_eq_true] at hc
          have key : ∀ kind cs, KindOk ρ none kind cs → _ := fun kind cs hk => body_res ok hC hf hb (n := n) hr top hg ha (of_ble hc.1) (of_blt hc.2) hk
          rw [e] at key
          exact ⟨run_callFunc hf hb hn _ _, fun cs => key .normal cs (.inl rfl)⟩
    · obtain ⟨f, tm, a, b, h1, h2⟩ := yield_ok ok hC (pan := none) hr top hg hl ha (by rw [e]; simp)
      rw [e] at h2
      exact ⟨f, tm, a, b, h1, h2⟩
    · obtain ⟨f, tm, a, b, h1, h2⟩ := yield_ok ok hC (pan := none) hr top hg hl ha (by rw [e]; simp)
      rw [e] at h2
      exact ⟨f, tm, a, b, h1, h2⟩

end Go.Ev
end
section
/- A deterministic evaluator of the model's code over a memory of its own: from the evaluator to the kit's calls; tables. -/
namespace Go.Ev
variable {E : Env} {P : Program}

theorem calls_of (ok : Ok E P) (kn : KnownOk E P) {ft : Tr AFunc} (tab : TabOk P ft) {n : Nat} {f : FuncId} {af : AFunc} (hf : ft.get f = some af) {args : List Value} {h h' : AH} {v : Value} {rc : Bool} (e : callN E ft n (.fn f) args none h = .ret v h' rc) {ρ : Rn} {w : World} (hr : WRel ρ h w) (top : Top ρ h) (hg : GlobOk E ρ) {args' : List Value} (ha : renL ρ args = some args') :
    Calls P f ⟨args'⟩ w fun e w' => ∃ ρ' v', Step ρ h w ρ' h' w' ∧ ren ρ' v = some v' ∧ e = .returned v' := by
  obtain ⟨hrc, H⟩ := (callN_ok ok kn tab n).ret e hr top hg ha
  cases hrc rfl
  obtain ⟨fn, body, h1, h2, h3, h4⟩ := tab f af hf
  rcases H with ⟨v', _, _, _, h5⟩ | ⟨_, H⟩
  · rw [run_callFunc h1 h2 h3] at h5
    cases h5
  · intro cs
    obtain ⟨ρ', w', v', fr, g1, g2, g3, g4⟩ := H .normal cs (.inl rfl)
    exact ⟨.returned v', w', fr, ⟨ρ', v', g1, g2, rfl⟩, g3, g4.fn, g4.leaving⟩

/-! ### Tables out of the program -/
def ofListC {α : Type} : List (Nat × α) → Tr α
  | [] => .nil
  | x :: l => bif Nat.blt x.1 cap then (ofListC l).put x.1 x.2 else ofListC l

theorem ofListC_get {α : Type} : ∀ {l : List (Nat × α)} {k : Nat} {x : α}, (ofListC l).get k = some x → (k, x) ∈ l
  | [], k, x, h => by simp [ofListC, Tr.get] at h
  | (i, y) :: l, k, x, h => by
    unfold ofListC at h
    cases hc : Nat.blt i cap with
    | false => simp only [hc, cond_false] at h; exact List.mem_cons_of_mem _ (ofListC_get h)
    | true =>
      simp only [hc, cond_true] at h
      rw [Tr.get_put _ _ _ _ (of_blt hc)] at h
      by_cases e : k = i
      · rw [if_pos e] at h
        cases h
        rw [e]; exact List.mem_cons_self
      · rw [if_neg e] at h
        exact List.mem_cons_of_mem _ (ofListC_get h)

def ttList (P : Program) : List TypeId → List (Nat × TInfo)
  | [] => []
  | t :: l => match tinfoOf P t with
    | some i => (t, i) :: ttList P l
    | none => ttList P l

theorem ttList_mem : ∀ {l : List TypeId} {t : TypeId} {i : TInfo}, (t, i) ∈ ttList P l → tinfoOf P t = some i
  | [], _, _, h => by simp [ttList] at h
  | u :: l, t, i, h => by
    unfold ttList at h
    split at h
    · rename_i j hj
      rcases List.mem_cons.1 h with e | h
      · cases e; exact hj
      · exact ttList_mem h
    · exact ttList_mem h

def ftList (P : Program) : List FuncId → List (Nat × AFunc)
  | [] => []
  | f :: l => match P.funcs[f]? with
    | some fn => bif fn.body.isSome && !(fn.name == "runtime.NumGoroutine") then (f, afunc fn) :: ftList P l else ftList P l
    | none => ftList P l

theorem ftList_mem : ∀ {l : List FuncId} {f : FuncId} {a : AFunc}, (f, a) ∈ ftList P l → ∃ fn body, P.funcs[f]? = some fn ∧ fn.body = some body ∧ fn.name ≠ "runtime.NumGoroutine" ∧ a = ⟨fn.ntmps, fn.results.toList, comp body⟩
  | [], _, _, h => by simp [ftList] at h
  | g :: l, f, a, h => by
    unfold ftList at h
    split at h
    · rename_i fn hfn
      cases hc : (fn.body.isSome && !(fn.name == "runtime.NumGoroutine")) with
      | false => simp only [hc, cond_false] at h; exact ftList_mem h
      | true =>
        simp only [hc, cond_true] at h
        simp only [Bool.and_eq_true, Bool.not_eq_true', beq_eq_false_iff_ne, ne_eq] at hc
        rcases List.mem_cons.1 h with e | h
        · cases e
          cases hb : fn.body with
          | none => rw [hb] at hc; simp at hc
          | some body => exact ⟨fn, body, hfn, hb, hc.2, by simp [afunc, hb]⟩
        · exact ftList_mem h
    · exact ftList_mem h

theorem tabOk_of (P : Program) (l : List FuncId) : TabOk P (ofListC (ftList P l)) := fun _ _ h => ftList_mem (ofListC_get h)

theorem ok_of (P : Program) (l : List TypeId) (ng : Nat) (kn : FuncId → Option Value) (ho : P.follows .mixedOrders = true) : Ok ⟨ofListC (ttList P l), ng, fun _ => false, kn⟩ P :=
  ⟨fun _ _ h => ttList_mem (ofListC_get h), ho, fun _ h => by cases h⟩

/-- Memory that nothing is known of. -/
def AH.none : AH := ⟨0, .nil⟩
theorem wrel_none (ρ : Rn) (w : World) : WRel ρ AH.none w := by
  refine ⟨?_, ?_, ?_, ?_⟩ <;> intros <;> rename_i h <;> simp [AH.none, Tr.get] at *

/-- What has been evaluated in a memory that nothing is known of is known of every memory. -/
theorem known_of (ok : Ok E P) (kn : KnownOk E P) {ft : Tr AFunc} (tab : TabOk P ft) (ng : E.ng = 0) {n : Nat} {f : FuncId} {h' : AH} {rc b : Bool} (e : callN E ft n (.fn f) [] none AH.none = .ret (.bool b) h' rc) (he : ∃ af, ft.get f = some af) {ρ : Rn} {h : AH} {w : World} (hr : WRel ρ h w) (top : Top ρ h) :
    (callFunc f #[]).run P w = .ok (.enter f #[]) w ∧ ∀ kind cs, KindOk ρ none kind cs → ∃ w' v' fr, Step ρ h w ρ h w' ∧ ren ρ (.bool b) = some v' ∧
      Steps P (lone (Frame.enter P f #[] kind) cs w) (lone fr (recd false cs) w') ∧ Fin P fr f kind w' v' := by
  obtain ⟨hrc, H⟩ := (callN_ok ok kn tab n).ret e (ρ := fun _ => Option.none) (w := w) (args' := []) (wrel_none _ w) (fun _ _ => rfl) (fun g hg => by rw [ng] at hg; omega) rfl
  cases hrc rfl
  obtain ⟨af, hf⟩ := he
  obtain ⟨fn, body, h1, h2, h3, h4⟩ := tab f af hf
  rcases H with ⟨v', _, _, _, h5⟩ | ⟨h5, H⟩
  · rw [run_callFunc h1 h2 h3] at h5
    cases h5
  · refine ⟨h5, fun kind cs hk => ?_⟩
    have hk' : KindOk (fun _ => Option.none) Option.none kind cs := hk
    obtain ⟨ρ', w', v', fr, g1, g2, g3, g4⟩ := H kind cs hk'
    have keep : ∀ c, c < w.heap.size → w'.heap[c]? = w.heap[c]? := fun c hc => g1.keep c hc fun b blk s x hb => by simp [AH.none, Tr.get] at hb
    have own : ∀ b blk c s x, h.b.get b = some blk → (blk.own = true ∨ blk.isRo = true) → ρ b = some (c, s, x) → c < w.heap.size := fun b blk c s x hb ho hc => (hr.blk b blk hb c s x hc).lt ho
    have any : ∀ b blk c s x, h.b.get b = some blk → ρ b = some (c, s, x) → BlkRel ρ w' c s x blk := fun b blk c s x hb hc => by
      by_cases ho : blk.own = true ∨ blk.isRo = true
      · exact (hr.blk b blk hb c s x hc).congr (keep c (own b blk c s x hb ho hc))
      · cases blk <;> simp [Blk.own, Blk.isRo] at ho
        exact True.intro
    refine ⟨w', v', fr, ⟨Sub.refl _, fun _ e _ => e, Nat.le_refl _, ⟨hr.low, fun b blk hb c s x hc => any b blk c s x hb hc, hr.inj, hr.apart⟩, g1.size, g1.os, g1.tape, g1.output, fun c hc _ => keep c hc, fun _ _ _ => rfl, fun b blk c s x hb ho hc _ hfree => hfree b blk s x hb ho hc⟩, ?_, g3, g4⟩
    simpa [ren] using g2

end Go.Ev
end
section
/- A deterministic evaluator of the model's code over a memory of its own: more fuel changes nothing. -/
namespace Go.Ev
variable {E : Env}

def LeC (C C' : CallS) : Prop := ∀ a args p h, C a args p h ≠ .fail → C' a args p h = C a args p h

theorem LeC.refl (C : CallS) : LeC C C := fun _ _ _ _ _ => rfl
theorem LeC.trans {A B C : CallS} (h : LeC A B) (k : LeC B C) : LeC A C := fun a args p m e => by
  have := h a args p m e
  rw [← this] at e
  exact (k a args p m e).trans this

theorem callV_mono {C C' : CallS} (hc : LeC C C') {f : Value} {args : List Value} {s : St} (h : callV C f args s ≠ .fail) : callV C' f args s = callV C f args s := by
  unfold callV at *
  split
  · rename_i g first cp
    simp only at h
    rw [hc (.fn g) (first ++ args ++ cp) none s.h (by intro e; rw [e] at h; exact h rfl)]
  · rename_i l first
    simp only at h
    rw [hc (.yield l) (first ++ args) none s.h (by intro e; rw [e] at h; exact h rfl)]
  · rfl

theorem oOp_mono {α : Type} {x : Option α} {f g : α → OpR} (h : ∀ a, f a ≠ .fail → g a = f a) (hn : oOp x f ≠ .fail) : oOp x g = oOp x f := by
  cases x with
  | none => rfl
  | some a => exact h a hn

theorem oOut_mono {α : Type} {x : Option α} {f g : α → Out} (h : ∀ a, f a ≠ .fail → g a = f a) (hn : oOut x f ≠ .fail) : oOut x g = oOut x f := by
  cases x with
  | none => rfl
  | some a => exact h a hn

theorem evOp_mono {C C' : CallS} (hc : LeC C C') {c : Ctx} {o : Oper} {s : St} (h : evOp E C c o s ≠ .fail) : evOp E C' c o s = evOp E C c o s := by
  obtain ⟨dst, op, type, pos, after, guard⟩ := o
  cases op <;> try rfl
  case call cl =>
    obtain ⟨callee, args, ats⟩ := cl
    cases callee with
    | value f =>
      unfold evOp at *
      exact oOp_mono (fun f1 h1 => oOp_mono (fun vs h2 => callV_mono hc h2) h1) h
    | builtin b => cases b <;> rfl
    | invoke r m => rfl
  case defer cl =>
    obtain ⟨callee, args, ats⟩ := cl
    cases callee <;> rfl

theorem evOps_mono {C C' : CallS} (hc : LeC C C') {c : Ctx} {all : Array Oper} : ∀ {l : List Oper} {s : St}, evOps E C c all l s ≠ .fail → evOps E C' c all l s = evOps E C c all l s
  | [], s, _ => rfl
  | o :: l, s, h => by
    unfold evOps at *
    split
    · rfl
    · rename_i hw
      simp only [hw] at h
      exact oOut_mono (fun a h1 => evOps_mono hc h1) h
    · rename_i hw
      simp only [hw] at h
      have h0 : evOp E C c o s ≠ .fail := by intro e; simp only [e] at h; exact h rfl
      rw [evOp_mono hc h0]
      cases hx : evOp E C c o s with
      | fail => rfl
      | pan v s => rfl
      | val v s =>
        simp only [hx] at h
        exact oOut_mono (fun a h1 => evOps_mono hc h1) h

theorem evDraw_mono {C C' : CallS} (hc : LeC C C') {c : Ctx} {all : Array Oper} : ∀ {l : List PO} {ws : List Watch} {s : St}, evDraw E C c all l ws s ≠ .fail → evDraw E C' c all l ws s = evDraw E C c all l ws s
  | [], ws, s, _ => rfl
  | p :: l, ws, s, h => by
    unfold evDraw at *
    cases hst : isStrict p.2.1 with
    | true =>
      simp only [hst] at h ⊢
      cases hw : checkW E s.h ws with
      | false => rfl
      | true =>
        simp only [hw, cond_true] at h ⊢
        cases hwt : wantedT p.2.1 all s.r with
        | none => rfl
        | some b =>
          cases b with
          | false =>
            simp only [hwt] at h
            exact oOut_mono (fun a h1 => evDraw_mono hc h1) h
          | true =>
            simp only [hwt] at h ⊢
            have h0 : evOp E C c p.2.1 s ≠ .fail := by intro e; simp only [e] at h; exact h rfl
            rw [evOp_mono hc h0]
            cases hx : evOp E C c p.2.1 s with
            | fail => rfl
            | pan v s => rfl
            | val v s =>
              simp only [hx] at h
              exact oOut_mono (fun a h1 => evDraw_mono hc h1) h
    | false =>
      simp only [hst] at h ⊢
      cases hwt : wantedT p.2.1 all s.r with
      | none => rfl
      | some b =>
        cases b with
        | false =>
          simp only [hwt] at h
          exact oOut_mono (fun a h1 => evDraw_mono hc h1) h
        | true =>
          simp only [hwt] at h ⊢
          cases ha : aval E p.2.1 (evalO E.ng s.r) s.h with
          | none => rfl
          | some x =>
            simp only [ha] at h ⊢
            split
            · rename_i hcl
              simp only [hcl] at h
              cases hn : x.2.next.beq s.h.next with
              | false => rfl
              | true =>
                simp only [hn, cond_true] at h ⊢
                exact oOut_mono (fun a h1 => evDraw_mono hc h1) h
            · rename_i hcl
              refine oOut_mono (fun a h1 => evDraw_mono hc h1) ?_
              revert h
              split
              · rename_i hcl'; exact absurd hcl' hcl
              · exact fun h => h

theorem ev_mono {C C' : CallS} (hc : LeC C C') {c : Ctx} : ∀ {n : Nat} {x : AC} {s : St}, ev E C c n x s ≠ .fail → ∀ k, ev E C' c (n + k) x s = ev E C c n x s
  | 0, x, s, h, k => absurd rfl h
  | n + 1, x, s, h, k => by
    rw [show n + 1 + k = (n + k) + 1 by omega]
    have seqs : ∀ {a : AC} {f : Nat → Out → Out} , True := trivial
    cases x with
    | skip => rfl
    | plain ops all => exact evOps_mono hc h
    | draw ops all => exact evDraw_mono hc h
    | bad => rfl
    | seq a b =>
      rw [ev_seq] at h ⊢
      rw [ev_seq]
      have h0 : ev E C c n a s ≠ .fail := by intro e; simp only [e] at h; exact h rfl
      rw [ev_mono hc h0 k]
      cases hx : ev E C c n a s with
      | nor s' => simp only [hx] at h; exact ev_mono hc h k
      | _ => rfl
    | cond x t e =>
      rw [ev_cond] at h ⊢
      rw [ev_cond]
      split
      · rename_i hx; simp only [hx] at h; exact ev_mono hc h k
      · rename_i hx; simp only [hx] at h; exact ev_mono hc h k
      · rfl
    | block id a =>
      rw [ev_block] at h ⊢
      rw [ev_block]
      have h0 : ev E C c n a s ≠ .fail := by intro e; simp only [e] at h; exact h rfl
      rw [ev_mono hc h0 k]
    | loop a =>
      rw [ev_loop] at h ⊢
      rw [ev_loop]
      have h0 : ev E C c n a s ≠ .fail := by intro e; simp only [e] at h; exact h rfl
      rw [ev_mono hc h0 k]
      cases hx : ev E C c n a s with
      | nor s' => simp only [hx] at h; exact ev_mono hc h k
      | _ => rfl
    | scope b =>
      rw [ev_scope] at h ⊢
      rw [ev_scope]
      have h0 : ev E C c n (comp b) s ≠ .fail := by intro e; simp only [e] at h; exact h rfl
      rw [ev_mono hc h0 k]
      cases hx : ev E C c n (comp b) s with
      | goto l s' => simp only [hx] at h; exact ev_mono hc h k
      | _ => rfl
    | scopeAt b l =>
      rw [ev_scopeAt] at h ⊢
      rw [ev_scopeAt]
      cases hf : findLabel b l with
      | none => rfl
      | some rest =>
        simp only [hf] at h ⊢
        have h0 : ev E C c n (comp rest) s ≠ .fail := by intro e; simp only [e] at h; exact h rfl
        rw [ev_mono hc h0 k]
        cases hx : ev E C c n (comp rest) s with
        | goto l s' => simp only [hx] at h; exact ev_mono hc h k
        | _ => rfl
    | rfunc f ps asg bo =>
      rw [ev_rfunc] at h ⊢
      rw [ev_rfunc]
      cases hr : c.rnd with
      | some l => rfl
      | none =>
        simp only [hr] at h ⊢
        refine oOut_mono (fun fv h1 => ?_) h
        cases hb : Nat.blt (s.h.next + 1) cap with
        | false => rfl
        | true =>
          simp only [hb, cond_true] at h1 ⊢
          rw [callV_mono hc (by intro e; simp only [e] at h1; exact h1 rfl)]
    | exit i => rfl
    | goto l => rfl
    | ret => rfl

theorem leave_mono {C C' : CallS} (hc : LeC C C') {res : List ResultVar} {r : Tr Value} {rc : Bool} : ∀ {n : Nat} {m : Option Value} {d : List Deferred} {h : AH}, leave E C res r rc n m d h ≠ .fail → ∀ k, leave E C' res r rc (n + k) m d h = leave E C res r rc n m d h := by
  have nil : ∀ {n n' : Nat} {m : Option Value} {h : AH}, leave E C' res r rc n' m [] h = leave E C res r rc n m [] h := fun {n n' m h} => by
    cases m <;> cases n <;> cases n' <;> rfl
  intro n
  induction n with
  | zero =>
    intro m d h hn k
    cases d with
    | nil => exact nil
    | cons d0 d => exact absurd (by cases m <;> rfl) hn
  | succ n ih =>
    intro m d h hn k
    cases d with
    | nil => exact nil
    | cons d0 d =>
      have he : ∀ (C : CallS) (n : Nat), leave E C res r rc (n + 1) m (d0 :: d) h = (match d0.target with
          | .collected b => match h.b.get b with
            | some (.deferred (some [])) => leave E C res r rc n m d (h.upd b (.deferred none))
            | _ => .fail
          | .fn (.func f) ⟨cp⟩ => match C (.fn f) (d0.args.toList ++ cp) m h with
            | .ret _ h rcd => leave E C res r rc n (bif rcd then none else m) d h
            | _ => .fail
          | _ => .fail) := fun C n => by cases m <;> rfl
      rw [show n + 1 + k = (n + k) + 1 by omega, he, he]
      rw [he] at hn
      cases ht : d0.target with
      | collected bk =>
        simp only [ht] at hn ⊢
        split
        · rename_i hb; simp only [hb] at hn; exact ih hn k
        · rfl
      | fn g cp0 =>
        cases g with
        | func f =>
          obtain ⟨cp⟩ := cp0
          simp only [ht] at hn ⊢
          rw [hc (.fn f) (d0.args.toList ++ cp) m h (by intro e; simp only [e] at hn; exact hn rfl)]
          split
          · rename_i hb; simp only [hb] at hn; exact ih hn k
          · rfl
        | _ => rfl
      | _ => rfl

theorem callN_mono {ft : Tr AFunc} : ∀ {n : Nat}, LeC (callN E ft n) (callN E ft (n + 1))
  | 0 => fun a args p h hn => absurd rfl hn
  | n + 1 => fun a args p h hn => by
    have hc : LeC (callN E ft n) (callN E ft (n + 1)) := callN_mono
    cases a with
    | fn f =>
      rw [callN_fn] at hn ⊢
      rw [callN_fn]
      cases hf : ft.get f with
      | none => rfl
      | some fn =>
        simp only [hf] at hn ⊢
        cases hb : (Nat.ble args.length fn.n && Nat.blt fn.n cap) with
        | false => rfl
        | true =>
          simp only [hb, cond_true] at hn ⊢
          have h0 : ev E (callN E ft n) ⟨none, p⟩ n fn.body ⟨putCells .nil 0 args, fn.n, [], h, false⟩ ≠ .fail := by intro e; rw [e] at hn; exact hn rfl
          rw [ev_mono hc h0 1]
          cases hx : ev E (callN E ft n) ⟨none, p⟩ n fn.body ⟨putCells .nil 0 args, fn.n, [], h, false⟩ with
          | nor s => rw [hx] at hn; exact leave_mono hc hn 1
          | ret s => rw [hx] at hn; exact leave_mono hc hn 1
          | pan v s => rw [hx] at hn; exact leave_mono hc hn 1
          | _ => rfl
    | yield l =>
      rw [callN_yield] at hn ⊢
      rw [callN_yield]
      split
      · rename_i hb
        simp only [hb] at hn
        cases hm : Nat.blt _ cap with
        | false => rfl
        | true =>
          simp only [hm, cond_true] at hn ⊢
          split
          · rfl
          · rename_i hp
            simp only [hp] at hn
            rw [ev_mono hc (by intro e; simp only [e] at hn; exact hn rfl) 1]
            split
            · rename_i hs
              simp only [hs] at hn
              split
              · rename_i hb2
                simp only [hb2] at hn
                rw [ev_mono hc (by intro e; rw [e] at hn; exact hn rfl) 1]
              · rfl
            · rfl
      · rfl

theorem callN_le {ft : Tr AFunc} {n m : Nat} (h : n ≤ m) : LeC (callN E ft n) (callN E ft m) := by
  induction h with
  | refl => exact LeC.refl _
  | step _ ih => exact ih.trans callN_mono

end Go.Ev
end
section
/- A deterministic evaluator of the model's code over a memory of its own: without fuel. -/
namespace Go.Ev
variable {E : Env} {ft : Tr AFunc}

open Classical in
/-- What a sequence comes to that stays where it is once it has left the bottom. -/
noncomputable def lim {α : Type} (b : α) (F : Nat → α) : α := if h : ∃ n, F n ≠ b then F (Classical.choose h) else b

def Climb {α : Type} (b : α) (F : Nat → α) : Prop := ∀ n, F n ≠ b → ∀ k, F (n + k) = F n

theorem Climb.of_step {α : Type} {b : α} {F : Nat → α} (h : ∀ n, F n ≠ b → F (n + 1) = F n) : Climb b F := fun n hn k => by
  induction k with
  | zero => rfl
  | succ k ih =>
    have : F (n + k) ≠ b := by rw [ih]; exact hn
    rw [← Nat.add_assoc, h _ this, ih]

theorem lim_of {α : Type} {b : α} {F : Nat → α} (c : Climb b F) {n : Nat} (h : F n ≠ b) : lim b F = F n := by
  unfold lim
  have hx : ∃ n, F n ≠ b := ⟨n, h⟩
  rw [dif_pos hx]
  have hm := Classical.choose_spec hx
  rw [← c _ hm n, ← c _ h (Classical.choose hx), Nat.add_comm]

theorem lim_ev {α : Type} {b : α} {F : Nat → α} (c : Climb b F) : ∃ N, ∀ n, N ≤ n → F n = lim b F := by
  by_cases h : ∃ n, F n ≠ b
  · obtain ⟨N, hN⟩ := h
    refine ⟨N, fun n hn => ?_⟩
    obtain ⟨k, rfl⟩ := Nat.exists_eq_add_of_le hn
    rw [c N hN k, lim_of c hN]
  · refine ⟨0, fun n _ => ?_⟩
    unfold lim
    rw [dif_neg h]
    exact Classical.byContradiction fun e => h ⟨n, e⟩

theorem lim_eq {α : Type} {b : α} {F : Nat → α} (c : Climb b F) {x : α} {N : Nat} (h : ∀ n, N ≤ n → F n = x) : lim b F = x := by
  obtain ⟨M, hM⟩ := lim_ev c
  rw [← hM (N + M) (by omega), h (N + M) (by omega)]

/-- The calls, with as much fuel as they need. -/
noncomputable def CL (E : Env) (ft : Tr AFunc) : CallS := fun a args p h => lim .fail fun n => callN E ft n a args p h

theorem callN_climb (a : Cal) (args : List Value) (p : Option Value) (h : AH) : Climb .fail fun n => callN E ft n a args p h :=
  Climb.of_step fun _ hn => callN_mono a args p h hn

/-- All the calls of a computation have come to their ends at some depth. -/
def Cont (E : Env) (ft : Tr AFunc) {α : Type} (F : CallS → α) (b : α) : Prop := F (CL E ft) ≠ b → ∃ m, ∀ k, m ≤ k → F (callN E ft k) = F (CL E ft)

theorem CL_ev (a : Cal) (args : List Value) (p : Option Value) (h : AH) : ∃ m, ∀ k, m ≤ k → callN E ft k a args p h = CL E ft a args p h := lim_ev (callN_climb a args p h)

theorem callV_cont (f : Value) (args : List Value) (s : St) : ∃ m, ∀ k, m ≤ k → callV (callN E ft k) f args s = callV (CL E ft) f args s := by
  unfold callV
  split
  · rename_i g first cp
    obtain ⟨m, hm⟩ := CL_ev (E := E) (ft := ft) (.fn g) (first ++ args ++ cp) none s.h
    exact ⟨m, fun k hk => by rw [hm k hk]⟩
  · rename_i l first
    obtain ⟨m, hm⟩ := CL_ev (E := E) (ft := ft) (.yield l) (first ++ args) none s.h
    exact ⟨m, fun k hk => by rw [hm k hk]⟩
  · exact ⟨0, fun _ _ => rfl⟩

theorem oOp_cont {α : Type} {x : Option α} {f : CallS → α → OpR} (h : ∀ a, ∃ m, ∀ k, m ≤ k → f (callN E ft k) a = f (CL E ft) a) : ∃ m, ∀ k, m ≤ k → oOp x (f (callN E ft k)) = oOp x (f (CL E ft)) := by
  cases x with
  | none => exact ⟨0, fun _ _ => rfl⟩
  | some a => exact h a

theorem oOut_cont {α : Type} {x : Option α} {f : CallS → α → Out} (h : ∀ a, ∃ m, ∀ k, m ≤ k → f (callN E ft k) a = f (CL E ft) a) : ∃ m, ∀ k, m ≤ k → oOut x (f (callN E ft k)) = oOut x (f (CL E ft)) := by
  cases x with
  | none => exact ⟨0, fun _ _ => rfl⟩
  | some a => exact h a

theorem evOp_cont (c : Ctx) (o : Oper) (s : St) : ∃ m, ∀ k, m ≤ k → evOp E (callN E ft k) c o s = evOp E (CL E ft) c o s := by
  obtain ⟨dst, op, type, pos, after, guard⟩ := o
  cases op <;> try exact ⟨0, fun _ _ => rfl⟩
  case call cl =>
    obtain ⟨callee, args, ats⟩ := cl
    cases callee with
    | value f =>
      exact oOp_cont (f := fun C f1 => oOp (valsV (evalO E.ng s.r) args.toList) fun vs => callV C f1 vs s) fun f1 => oOp_cont (f := fun C vs => callV C f1 vs s) fun vs => callV_cont f1 vs s
    | builtin b => cases b <;> exact ⟨0, fun _ _ => rfl⟩
    | invoke r m => exact ⟨0, fun _ _ => rfl⟩
  case defer cl =>
    obtain ⟨callee, args, ats⟩ := cl
    cases callee <;> exact ⟨0, fun _ _ => rfl⟩

theorem evOps_cont (c : Ctx) (all : Array Oper) : ∀ (l : List Oper) (s : St), ∃ m, ∀ k, m ≤ k → evOps E (callN E ft k) c all l s = evOps E (CL E ft) c all l s
  | [], s => ⟨0, fun _ _ => rfl⟩
  | o :: l, s => by
    unfold evOps
    split
    · exact ⟨0, fun _ _ => rfl⟩
    · exact oOut_cont (f := fun C s => evOps E C c all l s) fun a => evOps_cont c all l a
    · obtain ⟨m1, h1⟩ := evOp_cont (E := E) (ft := ft) c o s
      cases hx : evOp E (CL E ft) c o s with
      | fail => exact ⟨m1, fun k hk => by rw [h1 k hk, hx]⟩
      | pan v s' => exact ⟨m1, fun k hk => by rw [h1 k hk, hx]⟩
      | val v s' =>
        obtain ⟨m2, h2⟩ := oOut_cont (E := E) (ft := ft) (x := putD s' o.dst v) (f := fun C s => evOps E C c all l s) fun a => evOps_cont c all l a
        exact ⟨m1 + m2, fun k hk => by rw [h1 k (by omega), hx]; exact h2 k (by omega)⟩

theorem evDraw_cont (c : Ctx) (all : Array Oper) : ∀ (l : List PO) (ws : List Watch) (s : St), ∃ m, ∀ k, m ≤ k → evDraw E (callN E ft k) c all l ws s = evDraw E (CL E ft) c all l ws s
  | [], ws, s => ⟨0, fun _ _ => rfl⟩
  | p :: l, ws, s => by
    unfold evDraw
    cases isStrict p.2.1 with
    | true =>
      cases checkW E s.h ws with
      | false => exact ⟨0, fun _ _ => rfl⟩
      | true =>
        simp only [cond_true]
        split
        · exact ⟨0, fun _ _ => rfl⟩
        · exact oOut_cont (f := fun C s => evDraw E C c all l _ s) fun a => evDraw_cont c all l _ a
        · obtain ⟨m1, h1⟩ := evOp_cont (E := E) (ft := ft) c p.2.1 s
          cases hx : evOp E (CL E ft) c p.2.1 s with
          | fail => exact ⟨m1, fun k hk => by rw [h1 k hk, hx]⟩
          | pan v s' => exact ⟨m1, fun k hk => by rw [h1 k hk, hx]⟩
          | val v s' =>
            obtain ⟨m2, h2⟩ := oOut_cont (E := E) (ft := ft) (x := putD s' p.2.1.dst v) (f := fun C s => evDraw E C c all l (moreW p.2.2 ws) s) fun a => evDraw_cont c all l _ a
            exact ⟨m1 + m2, fun k hk => by rw [h1 k (by omega), hx]; exact h2 k (by omega)⟩
    | false =>
      simp only []
      split
      · exact ⟨0, fun _ _ => rfl⟩
      · exact oOut_cont (f := fun C s => evDraw E C c all l _ s) fun a => evDraw_cont c all l _ a
      · split
        · exact ⟨0, fun _ _ => rfl⟩
        · rename_i x hx
          split
          · cases x.2.next.beq s.h.next with
            | false => exact ⟨0, fun _ _ => rfl⟩
            | true => exact oOut_cont (f := fun C s' => evDraw E C c all l _ s') fun a => evDraw_cont c all l _ a
          · exact oOut_cont (f := fun C s => evDraw E C c all l _ s) fun a => evDraw_cont c all l _ a

theorem ev_cont (c : Ctx) : ∀ (n : Nat) (x : AC) (s : St), ∃ m, ∀ k, m ≤ k → ev E (callN E ft k) c n x s = ev E (CL E ft) c n x s
  | 0, x, s => ⟨0, fun _ _ => rfl⟩
  | n + 1, x, s => by
    cases x with
    | skip => exact ⟨0, fun _ _ => rfl⟩
    | plain ops all => exact evOps_cont c all ops s
    | draw ops all => exact evDraw_cont c all ops [] s
    | bad => exact ⟨0, fun _ _ => rfl⟩
    | seq a b =>
      obtain ⟨m1, h1⟩ := ev_cont c n a s
      cases hx : ev E (CL E ft) c n a s with
      | nor s' =>
        obtain ⟨m2, h2⟩ := ev_cont c n b s'
        exact ⟨m1 + m2, fun k hk => by rw [ev_seq, ev_seq, h1 k (by omega), hx]; exact h2 k (by omega)⟩
      | _ => exact ⟨m1, fun k hk => by rw [ev_seq, ev_seq, h1 k (by omega), hx]⟩
    | cond x t e =>
      obtain ⟨m1, h1⟩ := ev_cont c n t s
      obtain ⟨m2, h2⟩ := ev_cont c n e s
      exact ⟨m1 + m2, fun k hk => by rw [ev_cond, ev_cond, h1 k (by omega), h2 k (by omega)]⟩
    | block id a =>
      obtain ⟨m1, h1⟩ := ev_cont c n a s
      exact ⟨m1, fun k hk => by rw [ev_block, ev_block, h1 k (by omega)]⟩
    | loop a =>
      obtain ⟨m1, h1⟩ := ev_cont c n a s
      cases hx : ev E (CL E ft) c n a s with
      | nor s' =>
        obtain ⟨m2, h2⟩ := ev_cont c n (.loop a) s'
        exact ⟨m1 + m2, fun k hk => by rw [ev_loop, ev_loop, h1 k (by omega), hx]; exact h2 k (by omega)⟩
      | _ => exact ⟨m1, fun k hk => by rw [ev_loop, ev_loop, h1 k (by omega), hx]⟩
    | scope b =>
      obtain ⟨m1, h1⟩ := ev_cont c n (comp b) s
      cases hx : ev E (CL E ft) c n (comp b) s with
      | goto l s' =>
        obtain ⟨m2, h2⟩ := ev_cont c n (.scopeAt b l) s'
        exact ⟨m1 + m2, fun k hk => by rw [ev_scope, ev_scope, h1 k (by omega), hx]; exact h2 k (by omega)⟩
      | _ => exact ⟨m1, fun k hk => by rw [ev_scope, ev_scope, h1 k (by omega), hx]⟩
    | scopeAt b l =>
      cases hf : findLabel b l with
      | none => exact ⟨0, fun k _ => by rw [ev_scopeAt, ev_scopeAt, hf]⟩
      | some rest =>
        obtain ⟨m1, h1⟩ := ev_cont c n (comp rest) s
        cases hx : ev E (CL E ft) c n (comp rest) s with
        | goto l s' =>
          obtain ⟨m2, h2⟩ := ev_cont c n (.scopeAt b l) s'
          exact ⟨m1 + m2, fun k hk => by rw [ev_scopeAt, ev_scopeAt, hf]; simp only []; rw [h1 k (by omega), hx]; exact h2 k (by omega)⟩
        | _ => exact ⟨m1, fun k hk => by rw [ev_scopeAt, ev_scopeAt, hf]; simp only []; rw [h1 k (by omega), hx]⟩
    | rfunc f ps asg bo =>
      cases hr : c.rnd with
      | some l => exact ⟨0, fun k _ => by rw [ev_rfunc, ev_rfunc, hr]⟩
      | none =>
        cases hv : evalO E.ng s.r f with
        | none => exact ⟨0, fun k _ => by rw [ev_rfunc, ev_rfunc, hr, hv]; rfl⟩
        | some fv =>
          obtain ⟨m, h⟩ := callV_cont (E := E) (ft := ft) fv [.func (.yield (s.h.next + 1)) ⟨[]⟩ ⟨[]⟩] { s with h := (s.h.new (.deferred (some []))).new (.loop .ready none 0 s.n s.r ps asg bo s.h.next), d := { target := .collected s.h.next, args := ⟨[]⟩ } :: s.d }
          exact ⟨m, fun k hk => by rw [ev_rfunc, ev_rfunc, hr, hv]; simp only [oOut]; rw [h k hk]⟩
    | exit i => exact ⟨0, fun _ _ => rfl⟩
    | goto l => exact ⟨0, fun _ _ => rfl⟩
    | ret => exact ⟨0, fun _ _ => rfl⟩

theorem leave_cont (res : List ResultVar) (r : Tr Value) (rc : Bool) : ∀ (n : Nat) (m : Option Value) (d : List Deferred) (h : AH), ∃ j, ∀ k, j ≤ k → leave E (callN E ft k) res r rc n m d h = leave E (CL E ft) res r rc n m d h := by
  have nil : ∀ (n : Nat) (m : Option Value) (h : AH) (C C' : CallS), leave E C' res r rc n m [] h = leave E C res r rc n m [] h := fun n m h C C' => by
    cases m <;> cases n <;> rfl
  intro n
  induction n with
  | zero =>
    intro m d h
    cases d with
    | nil => exact ⟨0, fun k _ => nil _ _ _ _ _⟩
    | cons d0 d => exact ⟨0, fun k _ => by cases m <;> rfl⟩
  | succ n ih =>
    intro m d h
    cases d with
    | nil => exact ⟨0, fun k _ => nil _ _ _ _ _⟩
    | cons d0 d =>
      have he : ∀ (C : CallS) (n : Nat), leave E C res r rc (n + 1) m (d0 :: d) h = (match d0.target with
          | .collected b => match h.b.get b with
            | some (.deferred (some [])) => leave E C res r rc n m d (h.upd b (.deferred none))
            | _ => .fail
          | .fn (.func f) ⟨cp⟩ => match C (.fn f) (d0.args.toList ++ cp) m h with
            | .ret _ h rcd => leave E C res r rc n (bif rcd then none else m) d h
            | _ => .fail
          | _ => .fail) := fun C n => by cases m <;> rfl
      cases ht : d0.target with
      | collected bk =>
        obtain ⟨j, hj⟩ := ih m d (h.upd bk (.deferred none))
        exact ⟨j, fun k hk => by rw [he, he, ht]; simp only []; rw [hj k hk]⟩
      | fn g cp0 =>
        cases g with
        | func f =>
          obtain ⟨cp⟩ := cp0
          obtain ⟨j1, hj1⟩ := CL_ev (E := E) (ft := ft) (.fn f) (d0.args.toList ++ cp) m h
          cases hx : CL E ft (.fn f) (d0.args.toList ++ cp) m h with
          | ret v h1 rcd =>
            obtain ⟨j2, hj2⟩ := ih (bif rcd then none else m) d h1
            exact ⟨j1 + j2, fun k hk => by rw [he, he, ht]; simp only []; rw [hj1 k (by omega), hx]; exact hj2 k (by omega)⟩
          | _ => exact ⟨j1, fun k hk => by rw [he, he, ht]; simp only []; rw [hj1 k (by omega), hx]⟩
        | _ => exact ⟨0, fun k _ => by rw [he, he, ht]⟩
      | _ => exact ⟨0, fun k _ => by rw [he, he, ht]⟩

end Go.Ev
end
section
/- A deterministic evaluator of the model's code over a memory of its own: equations without fuel. -/
namespace Go.Ev
variable {E : Env} {ft : Tr AFunc} {P : Program}

theorem le_CL (n : Nat) : LeC (callN E ft n) (CL E ft) := fun a args p h hn => lim_of (callN_climb a args p h) hn

noncomputable def evL (E : Env) (ft : Tr AFunc) (c : Ctx) (x : AC) (s : St) : Out := lim .fail fun n => ev E (CL E ft) c n x s

theorem ev_climb (c : Ctx) (x : AC) (s : St) : Climb .fail fun n => ev E (CL E ft) c n x s := fun _ hn k => ev_mono (LeC.refl _) hn k

theorem evL_ev (c : Ctx) (x : AC) (s : St) : ∃ N, ∀ n, N ≤ n → ev E (CL E ft) c n x s = evL E ft c x s := lim_ev (ev_climb c x s)

theorem evL_of {c : Ctx} {x : AC} {s : St} {o : Out} {N : Nat} (h : ∀ n, N ≤ n → ev E (CL E ft) c (n + 1) x s = o) : evL E ft c x s = o :=
  lim_eq (ev_climb c x s) (N := N + 1) fun n hn => by
    obtain ⟨k, rfl⟩ := Nat.exists_eq_add_of_le hn
    rw [show N + 1 + k = (N + k) + 1 by omega]
    exact h _ (by omega)

theorem ev_diag (c : Ctx) (x : AC) (s : St) : ∃ N, ∀ n, N ≤ n → ev E (callN E ft n) c n x s = evL E ft c x s := by
  obtain ⟨N, hN⟩ := evL_ev (E := E) (ft := ft) c x s
  by_cases ho : evL E ft c x s = .fail
  · refine ⟨N, fun n hn => ?_⟩
    rw [ho]
    refine Classical.byContradiction fun e => ?_
    have := ev_mono (le_CL n) e 0
    have h2 := hN n hn
    rw [Nat.add_zero] at this
    rw [h2, ho] at this
    exact e this.symm
  · obtain ⟨m, hm⟩ := ev_cont (E := E) (ft := ft) c N x s
    refine ⟨N + m, fun n hn => ?_⟩
    obtain ⟨k, rfl⟩ := Nat.exists_eq_add_of_le hn
    have h1 := hm (N + m + k) (by omega)
    rw [hN N (Nat.le_refl _)] at h1
    have h2 : ev E (callN E ft (N + m + k)) c N x s ≠ .fail := by rw [h1]; exact ho
    have h3 := ev_mono (LeC.refl _) h2 (m + k)
    rw [← Nat.add_assoc] at h3
    rw [h3, h1]

section eqs
variable {c : Ctx} {s : St}
theorem evL_skip : evL E ft c .skip s = .nor s := evL_of (N := 0) fun _ _ => rfl
theorem evL_plain {ops : List Oper} {all : Array Oper} : evL E ft c (.plain ops all) s = evOps E (CL E ft) c all ops s := evL_of (N := 0) fun _ _ => rfl
theorem evL_draw {ops : List PO} {all : Array Oper} : evL E ft c (.draw ops all) s = evDraw E (CL E ft) c all ops [] s := evL_of (N := 0) fun _ _ => rfl
theorem evL_exit {i : Nat} : evL E ft c (.exit i) s = .exit i s := evL_of (N := 0) fun _ _ => rfl
theorem evL_goto {i : Nat} : evL E ft c (.goto i) s = .goto i s := evL_of (N := 0) fun _ _ => rfl
theorem evL_ret : evL E ft c .ret s = .ret s := evL_of (N := 0) fun _ _ => rfl

theorem evL_seq {a b : AC} : evL E ft c (.seq a b) s = (match evL E ft c a s with | .nor s => evL E ft c b s | x => x) := by
  obtain ⟨N1, h1⟩ := evL_ev (E := E) (ft := ft) c a s
  cases hx : evL E ft c a s with
  | nor s' =>
    obtain ⟨N2, h2⟩ := evL_ev (E := E) (ft := ft) c b s'
    exact evL_of (N := N1 + N2) fun n hn => by rw [ev_seq, h1 n (by omega), hx]; exact h2 n (by omega)
  | _ => exact evL_of (N := N1) fun n hn => by rw [ev_seq, h1 n hn, hx]

theorem evL_cond {x : Operand} {t e : AC} : evL E ft c (.cond x t e) s = (match evalO E.ng s.r x with | some (.bool true) => evL E ft c t s | some (.bool false) => evL E ft c e s | _ => .fail) := by
  obtain ⟨N1, h1⟩ := evL_ev (E := E) (ft := ft) c t s
  obtain ⟨N2, h2⟩ := evL_ev (E := E) (ft := ft) c e s
  exact evL_of (N := N1 + N2) fun n hn => by rw [ev_cond, h1 n (by omega), h2 n (by omega)]; rfl

theorem evL_block {id : Nat} {a : AC} : evL E ft c (.block id a) s = (match evL E ft c a s with | .exit i s => bif i.beq id then .nor s else .exit i s | x => x) := by
  obtain ⟨N1, h1⟩ := evL_ev (E := E) (ft := ft) c a s
  exact evL_of (N := N1) fun n hn => by rw [ev_block, h1 n hn]; rfl

theorem evL_loop {a : AC} : evL E ft c (.loop a) s = (match evL E ft c a s with | .nor s => evL E ft c (.loop a) s | x => x) := by
  obtain ⟨N1, h1⟩ := evL_ev (E := E) (ft := ft) c a s
  cases hx : evL E ft c a s with
  | nor s' =>
    obtain ⟨N2, h2⟩ := evL_ev (E := E) (ft := ft) c (.loop a) s'
    exact evL_of (N := N1 + N2) fun n hn => by rw [ev_loop, h1 n (by omega), hx]; exact h2 n (by omega)
  | _ => exact evL_of (N := N1) fun n hn => by rw [ev_loop, h1 n hn, hx]

theorem evL_scope {b : Code} : evL E ft c (.scope b) s = (match evL E ft c (comp b) s with | .goto l s => evL E ft c (.scopeAt b l) s | x => x) := by
  obtain ⟨N1, h1⟩ := evL_ev (E := E) (ft := ft) c (comp b) s
  cases hx : evL E ft c (comp b) s with
  | goto l s' =>
    obtain ⟨N2, h2⟩ := evL_ev (E := E) (ft := ft) c (.scopeAt b l) s'
    exact evL_of (N := N1 + N2) fun n hn => by rw [ev_scope, h1 n (by omega), hx]; exact h2 n (by omega)
  | _ => exact evL_of (N := N1) fun n hn => by rw [ev_scope, h1 n hn, hx]

theorem evL_scopeAt {b : Code} {l : Nat} : evL E ft c (.scopeAt b l) s = (match findLabel b l with | none => .goto l s | some rest => match evL E ft c (comp rest) s with | .goto l s => evL E ft c (.scopeAt b l) s | x => x) := by
  cases hf : findLabel b l with
  | none => exact evL_of (N := 0) fun n _ => by rw [ev_scopeAt, hf]
  | some rest =>
    obtain ⟨N1, h1⟩ := evL_ev (E := E) (ft := ft) c (comp rest) s
    simp only []
    cases hx : evL E ft c (comp rest) s with
    | goto l s' =>
      obtain ⟨N2, h2⟩ := evL_ev (E := E) (ft := ft) c (.scopeAt b l) s'
      exact evL_of (N := N1 + N2) fun n hn => by rw [ev_scopeAt, hf]; simp only []; rw [h1 n (by omega), hx]; exact h2 n (by omega)
    | _ => exact evL_of (N := N1) fun n hn => by rw [ev_scopeAt, hf]; simp only []; rw [h1 n hn, hx]

theorem evL_rfunc {f : Operand} {ps : List Tmp} {asg bo : Code} : evL E ft c (.rfunc f ps asg bo) s = (match c.rnd with
      | some _ => .fail
      | none => oOut (evalO E.ng s.r f) fun fv =>
        bif Nat.blt (s.h.next + 1) cap then
          match callV (CL E ft) fv [.func (.yield (s.h.next + 1)) ⟨[]⟩ ⟨[]⟩] { s with h := (s.h.new (.deferred (some []))).new (.loop .ready none 0 s.n s.r ps asg bo s.h.next), d := { target := .collected s.h.next, args := ⟨[]⟩ } :: s.d } with
          | .fail => .fail
          | .pan v s => .pan v s
          | .val _ s' => loopOut (s.h.next + 1) s'
        else .fail) := evL_of (N := 0) fun _ _ => ev_rfunc
end eqs

noncomputable def leaveL (E : Env) (ft : Tr AFunc) (res : List ResultVar) (r : Tr Value) (rc : Bool) (m : Option Value) (d : List Deferred) (h : AH) : CRes := lim .fail fun n => leave E (CL E ft) res r rc n m d h

theorem leave_climb (res : List ResultVar) (r : Tr Value) (rc : Bool) (m : Option Value) (d : List Deferred) (h : AH) : Climb .fail fun n => leave E (CL E ft) res r rc n m d h := fun _ hn k => leave_mono (LeC.refl _) hn k

theorem leave_diag (res : List ResultVar) (r : Tr Value) (rc : Bool) (m : Option Value) (d : List Deferred) (h : AH) : ∃ N, ∀ n, N ≤ n → leave E (callN E ft n) res r rc n m d h = leaveL E ft res r rc m d h := by
  obtain ⟨N, hN⟩ := lim_ev (leave_climb (E := E) (ft := ft) res r rc m d h)
  by_cases ho : leaveL E ft res r rc m d h = .fail
  · refine ⟨N, fun n hn => ?_⟩
    rw [ho]
    refine Classical.byContradiction fun e => ?_
    have h1 := leave_mono (le_CL n) e 0
    have h2 : leave E (CL E ft) res r rc n m d h = .fail := (hN n hn).trans ho
    rw [Nat.add_zero, h2] at h1
    exact e h1.symm
  · obtain ⟨j, hj⟩ := leave_cont (E := E) (ft := ft) res r rc N m d h
    refine ⟨N + j, fun n hn => ?_⟩
    obtain ⟨k, rfl⟩ := Nat.exists_eq_add_of_le hn
    have h1 : leave E (callN E ft (N + j + k)) res r rc N m d h = leaveL E ft res r rc m d h := (hj (N + j + k) (by omega)).trans (hN N (Nat.le_refl _))
    have h2 : leave E (callN E ft (N + j + k)) res r rc N m d h ≠ .fail := by rw [h1]; exact ho
    have h3 := leave_mono (LeC.refl _) h2 (j + k)
    rw [← Nat.add_assoc] at h3
    rw [h3, h1]

theorem leaveL_nil {res : List ResultVar} {r : Tr Value} {rc : Bool} {h : AH} : leaveL E ft res r rc none [] h = (match resultsV E r h res with | some vs => .ret (oneOf vs) h rc | none => .fail) :=
  lim_eq (leave_climb res r rc none [] h) (N := 0) fun n _ => by cases n <;> rfl

theorem leaveL_pan {res : List ResultVar} {r : Tr Value} {rc : Bool} {v : Value} {h : AH} : leaveL E ft res r rc (some v) [] h = (bif rc then .fail else .pan v h) :=
  lim_eq (leave_climb res r rc (some v) [] h) (N := 0) fun n _ => by cases n <;> rfl

theorem leaveL_cons {res : List ResultVar} {r : Tr Value} {rc : Bool} {m : Option Value} {d0 : Deferred} {d : List Deferred} {h : AH} : leaveL E ft res r rc m (d0 :: d) h = (match d0.target with
    | .collected b => match h.b.get b with
      | some (.deferred (some [])) => leaveL E ft res r rc m d (h.upd b (.deferred none))
      | _ => .fail
    | .fn (.func f) ⟨cp⟩ => match CL E ft (.fn f) (d0.args.toList ++ cp) m h with
      | .ret _ h rcd => leaveL E ft res r rc (bif rcd then none else m) d h
      | _ => .fail
    | _ => .fail) := by
  have he : ∀ (C : CallS) (n : Nat), leave E C res r rc (n + 1) m (d0 :: d) h = (match d0.target with
      | .collected b => match h.b.get b with
        | some (.deferred (some [])) => leave E C res r rc n m d (h.upd b (.deferred none))
        | _ => .fail
      | .fn (.func f) ⟨cp⟩ => match C (.fn f) (d0.args.toList ++ cp) m h with
        | .ret _ h rcd => leave E C res r rc n (bif rcd then none else m) d h
        | _ => .fail
      | _ => .fail) := fun C n => by cases m <;> rfl
  have go : ∀ {x : CRes} {N : Nat}, (∀ n, N ≤ n → leave E (CL E ft) res r rc (n + 1) m (d0 :: d) h = x) → leaveL E ft res r rc m (d0 :: d) h = x := fun {x N} hx =>
    lim_eq (leave_climb res r rc m (d0 :: d) h) (N := N + 1) fun n hn => by
      obtain ⟨k, rfl⟩ := Nat.exists_eq_add_of_le hn
      rw [show N + 1 + k = (N + k) + 1 by omega]
      exact hx _ (by omega)
  cases ht : d0.target with
  | collected bk =>
    obtain ⟨N, hN⟩ := lim_ev (leave_climb (E := E) (ft := ft) res r rc m d (h.upd bk (.deferred none)))
    exact go (N := N) fun n hn => by rw [he, ht]; simp only []; rw [hN n hn]; rfl
  | fn g cp0 =>
    cases g with
    | func f =>
      obtain ⟨cp⟩ := cp0
      simp only []
      cases hx : CL E ft (.fn f) (d0.args.toList ++ cp) m h with
      | ret v h1 rcd =>
        obtain ⟨N, hN⟩ := lim_ev (leave_climb (E := E) (ft := ft) res r rc (bif rcd then none else m) d h1)
        exact go (N := N) fun n hn => by rw [he, ht]; simp only []; rw [hx]; exact hN n hn
      | _ => exact go (N := 0) fun n _ => by rw [he, ht]; simp only []; rw [hx]
    | _ => exact go (N := 0) fun n _ => by rw [he, ht]
  | _ => exact go (N := 0) fun n _ => by rw [he, ht]

/-- How a function's body comes to its end. -/
noncomputable def bodyL (E : Env) (ft : Tr AFunc) (res : List ResultVar) : Out → CRes
  | .nor s => leaveL E ft res s.r s.rc none s.d s.h
  | .ret s => leaveL E ft res s.r s.rc none s.d s.h
  | .pan v s => leaveL E ft res s.r s.rc (some v) s.d s.h
  | _ => .fail

theorem CL_of {a : Cal} {args : List Value} {p : Option Value} {h : AH} {x : CRes} {N : Nat} (hx : ∀ n, N ≤ n → callN E ft (n + 1) a args p h = x) : CL E ft a args p h = x :=
  lim_eq (callN_climb a args p h) (N := N + 1) fun n hn => by
    obtain ⟨k, rfl⟩ := Nat.exists_eq_add_of_le hn
    rw [show N + 1 + k = (N + k) + 1 by omega]
    exact hx _ (by omega)

theorem CL_fn {f : FuncId} {args : List Value} {pan : Option Value} {h : AH} {fn : AFunc} (hf : ft.get f = some fn) : CL E ft (.fn f) args pan h =
    (bif Nat.ble args.length fn.n && Nat.blt fn.n cap then bodyL E ft fn.results (evL E ft ⟨none, pan⟩ fn.body ⟨putCells .nil 0 args, fn.n, [], h, false⟩) else .fail) := by
  cases hb : (Nat.ble args.length fn.n && Nat.blt fn.n cap) with
  | false => simp only [cond_false]; exact CL_of (N := 0) fun n _ => by rw [callN_fn, hf]; simp only [hb, cond_false]
  | true =>
    obtain ⟨N1, h1⟩ := ev_diag (E := E) (ft := ft) ⟨none, pan⟩ fn.body ⟨putCells .nil 0 args, fn.n, [], h, false⟩
    have step : ∀ n, N1 ≤ n → callN E ft (n + 1) (.fn f) args pan h = bodyOf E (callN E ft n) fn n (evL E ft ⟨none, pan⟩ fn.body ⟨putCells .nil 0 args, fn.n, [], h, false⟩) := fun n hn => by
      rw [callN_fn, hf]; simp only [hb, cond_true]; rw [h1 n hn]
    simp only [cond_true]
    cases hx : evL E ft ⟨none, pan⟩ fn.body ⟨putCells .nil 0 args, fn.n, [], h, false⟩ with
    | nor s =>
      obtain ⟨N2, h2⟩ := leave_diag (E := E) (ft := ft) fn.results s.r s.rc none s.d s.h
      exact CL_of (N := N1 + N2) fun n hn => by rw [step n (by omega), hx]; exact h2 n (by omega)
    | ret s =>
      obtain ⟨N2, h2⟩ := leave_diag (E := E) (ft := ft) fn.results s.r s.rc none s.d s.h
      exact CL_of (N := N1 + N2) fun n hn => by rw [step n (by omega), hx]; exact h2 n (by omega)
    | pan v s =>
      obtain ⟨N2, h2⟩ := leave_diag (E := E) (ft := ft) fn.results s.r s.rc (some v) s.d s.h
      exact CL_of (N := N1 + N2) fun n hn => by rw [step n (by omega), hx]; exact h2 n (by omega)
    | _ => exact CL_of (N := N1) fun n hn => by rw [step n hn, hx]; rfl

theorem CL_yield {l : Nat} {args : List Value} {pan : Option Value} {h : AH} {pend : Option Code} {fn : FuncId} {m : Nat} {r : Tr Value} {ps : List Tmp} {asg bo : Code} {de : Nat} (hb : h.b.get l = some (.loop .ready pend fn m r ps asg bo de)) (hm : m < cap) {r2 : Tr Value} (hp : putAll m r ps args = some r2)
    {s : St} (ha : evL E ft ⟨some l, none⟩ (comp asg) ⟨r2, m, [], h, false⟩ = .nor s) {pend1 : Option Code} {fn1 : FuncId} {m1 : Nat} {r1 : Tr Value} {ps1 : List Tmp} {asg1 bo1 : Code} {de1 : Nat} (hb1 : s.h.b.get l = some (.loop .ready pend1 fn1 m1 r1 ps1 asg1 bo1 de1)) :
    CL E ft (.yield l) args pan h = endOf l (evL E ft ⟨some l, none⟩ (comp bo) { s with h := s.h.upd l (.loop .busy pend1 fn1 m1 r1 ps1 asg1 bo1 de1) }) := by
  obtain ⟨N1, h1⟩ := ev_diag (E := E) (ft := ft) ⟨some l, none⟩ (comp asg) ⟨r2, m, [], h, false⟩
  obtain ⟨N2, h2⟩ := ev_diag (E := E) (ft := ft) ⟨some l, none⟩ (comp bo) { s with h := s.h.upd l (.loop .busy pend1 fn1 m1 r1 ps1 asg1 bo1 de1) }
  refine CL_of (N := N1 + N2) fun n hn => ?_
  have hm' : Nat.blt m cap = true := Nat.ble_eq_true_of_le hm
  rw [callN_yield, hb]
  simp only [hm', cond_true, hp]
  rw [h1 n (by omega), ha]
  simp only [hb1]
  rw [h2 n (by omega)]

theorem calls_of_CL (ok : Ok E P) (kn : KnownOk E P) (tab : TabOk P ft) {f : FuncId} {af : AFunc} (hf : ft.get f = some af) {args : List Value} {h h' : AH} {v : Value} {rc : Bool} (e : CL E ft (.fn f) args none h = .ret v h' rc) {ρ : Rn} {w : World} (hr : WRel ρ h w) (top : Top ρ h) (hg : GlobOk E ρ) {args' : List Value} (ha : renL ρ args = some args') :
    Calls P f ⟨args'⟩ w fun e w' => ∃ ρ' v', Step ρ h w ρ' h' w' ∧ ren ρ' v = some v' ∧ e = .returned v' := by
  obtain ⟨N, hN⟩ := CL_ev (E := E) (ft := ft) (.fn f) args none h
  exact calls_of ok kn tab hf ((hN N (Nat.le_refl _)).trans e) hr top hg ha

/-- What is known of a call. -/
theorem CL_known {f : FuncId} {v : Value} {h : AH} (hf : ft.get f = none) (hs : E.same f = false) (hk : E.known f = some v) : CL E ft (.fn f) [] none h = .ret v h false :=
  CL_of (N := 0) fun n _ => by rw [callN_fn, hf]; simp only [hs, hk, cond_false]

/-- What is evaluated with fuel is what comes without. -/
theorem CL_callN {n : Nat} {a : Cal} {args : List Value} {p : Option Value} {h : AH} {x : CRes} (e : callN E ft n a args p h = x) (hx : x ≠ .fail) : CL E ft a args p h = x := by
  subst e; exact le_CL n a args p h hx

end Go.Ev
end
section
/- A deterministic evaluator of the model's code over a memory of its own: the rules' name. -/
end
section
/- A deterministic evaluator of the model's code over a memory of its own: rules to walk by. -/
namespace Go.Ev
variable {E : Env} {ft : Tr AFunc} {P : Program}

/-! ### Code -/
noncomputable def evC (E : Env) (ft : Tr AFunc) (c : Ctx) (x : Code) (s : St) : Out := evL E ft c (comp x) s

/-- On with the next piece. -/
noncomputable def thenC (E : Env) (ft : Tr AFunc) (c : Ctx) (b : Code) : Out → Out
  | .nor s => evC E ft c b s
  | x => x

def leaveB (id : Nat) : Out → Out
  | .exit i s => bif i.beq id then .nor s else .exit i s
  | x => x

noncomputable def condC (E : Env) (ft : Tr AFunc) (c : Ctx) (a b : Code) (s : St) : Option Value → Out
  | some (.bool true) => evC E ft c a s
  | some (.bool false) => evC E ft c b s
  | _ => .fail

/-- Operations in their order. -/
noncomputable def opsL (E : Env) (ft : Tr AFunc) (c : Ctx) (all : Array Oper) (l : List Oper) (s : St) : Out := evOps E (CL E ft) c all l s

noncomputable def stepO (E : Env) (ft : Tr AFunc) (c : Ctx) (all : Array Oper) (dst : Option Tmp) (l : List Oper) : OpR → Out
  | .fail => .fail
  | .pan v s => .pan v s
  | .val v s => oOut (putD s dst v) fun s => opsL E ft c all l s

variable {c : Ctx} {s : St}

@[go_sem] theorem evC_skip : evC E ft c .skip s = .nor s := evL_skip
@[go_sem] theorem evC_label {l : Nat} : evC E ft c (.label l) s = .nor s := evL_skip
@[go_sem] theorem evC_exit {i : Nat} : evC E ft c (.exit i) s = .exit i s := evL_exit
@[go_sem] theorem evC_ret : evC E ft c .ret s = .ret s := evL_ret
@[go_sem] theorem evC_seq {a b : Code} : evC E ft c (.seq a b) s = thenC E ft c b (evC E ft c a s) := by
  show evL E ft c (.seq (comp a) (comp b)) s = _
  rw [evL_seq]; unfold thenC evC
  cases evL E ft c (comp a) s <;> rfl
@[go_sem] theorem evC_cond {x : Operand} {a b : Code} : evC E ft c (.cond x a b) s = condC E ft c a b s (evalO E.ng s.r x) := by
  show evL E ft c (.cond x (comp a) (comp b)) s = _
  rw [evL_cond]; unfold condC evC
  rfl
@[go_sem] theorem evC_block {id : Nat} {a : Code} : evC E ft c (.block id a) s = leaveB id (evC E ft c a s) := by
  show evL E ft c (.block id (comp a)) s = _
  rw [evL_block]; unfold leaveB evC
  rfl
@[go_sem] theorem evC_plain {id : Nat} {ops : Array Oper} : evC E ft c (.region id ops false) s = opsL E ft c ops ops.toList s := evL_plain
theorem evC_draw {id : Nat} {ops : Array Oper} {l : List PO} (h : plan ops = some l) : evC E ft c (.region id ops true) s = evDraw E (CL E ft) c ops l [] s := by
  show evL E ft c (bif true then (match plan ops with | some l => .draw l ops | none => .bad) else .plain ops.toList ops) s = _
  rw [h]; exact evL_draw
theorem evC_loop {a : Code} : evC E ft c (.loop a) s = thenC E ft c (.loop a) (evC E ft c a s) := by
  show evL E ft c (.loop (comp a)) s = _
  rw [evL_loop]; unfold thenC evC
  cases evL E ft c (comp a) s <;> rfl

@[go_sem] theorem thenC_nor {b : Code} : thenC E ft c b (.nor s) = evC E ft c b s := rfl
@[go_sem] theorem thenC_ret {b : Code} : thenC E ft c b (.ret s) = .ret s := rfl
@[go_sem] theorem thenC_exit {b : Code} {i : Nat} : thenC E ft c b (.exit i s) = .exit i s := rfl
@[go_sem] theorem thenC_pan {b : Code} {v : Value} : thenC E ft c b (.pan v s) = .pan v s := rfl
@[go_sem] theorem leaveB_nor {id : Nat} : leaveB id (.nor s) = .nor s := rfl
@[go_sem] theorem leaveB_ret {id : Nat} : leaveB id (.ret s) = .ret s := rfl
@[go_sem] theorem leaveB_pan {id : Nat} {v : Value} : leaveB id (.pan v s) = .pan v s := rfl
@[go_sem] theorem leaveB_exit {id i : Nat} : leaveB id (.exit i s) = if i = id then .nor s else .exit i s := by
  unfold leaveB
  by_cases h : i = id
  · simp [beqT h, h]
  · simp [beqF h, h]
@[go_sem] theorem condC_true {a b : Code} : condC E ft c a b s (some (.bool true)) = evC E ft c a s := rfl
@[go_sem] theorem condC_false {a b : Code} : condC E ft c a b s (some (.bool false)) = evC E ft c b s := rfl
theorem condC_if {a b : Code} {t : Bool} : condC E ft c a b s (some (.bool t)) = if t = true then condC E ft c a b s (some (.bool true)) else condC E ft c a b s (some (.bool false)) := by cases t <;> rfl

/-! ### Operations -/
@[go_sem ↓] theorem opsL_nil {all : Array Oper} : opsL E ft c all [] s = .nor s := rfl
@[go_sem ↓] theorem opsL_cons {all : Array Oper} {dst : Option Tmp} {op : Op} {ty : TypeId} {pos : String} {after : Array Edge} {l : List Oper} :
    opsL E ft c all (⟨dst, op, ty, pos, after, none⟩ :: l) s = stepO E ft c all dst l (evOp E (CL E ft) c ⟨dst, op, ty, pos, after, none⟩ s) := by
  unfold opsL stepO
  rw [evOps]
  simp only [wantedT]
  cases evOp E (CL E ft) c ⟨dst, op, ty, pos, after, none⟩ s <;> rfl
def dstAt (all : Array Oper) (j : Nat) : Option Tmp := (all.toList[j]?).bind (·.dst)
attribute [go_sem] dstAt
def whenV (want : Bool) : Option Value → Option Bool
  | some (.bool b) => some (b == want)
  | some (.tuple ⟨[]⟩) => some false
  | _ => none
@[go_sem] theorem whenV_true {b : Bool} : whenV true (some (.bool b)) = some b := by cases b <;> rfl
@[go_sem] theorem whenV_false {b : Bool} : whenV false (some (.bool b)) = some (!b) := by cases b <;> rfl
@[go_sem] theorem whenV_undef {want : Bool} : whenV want (some undef') = some false := rfl
/-- An operation that is done where it is wanted. -/
noncomputable def ifG (E : Env) (ft : Tr AFunc) (c : Ctx) (all : Array Oper) (o : Oper) (l : List Oper) (s : St) : Option Bool → Out
  | none => .fail
  | some true => stepO E ft c all o.dst l (evOp E (CL E ft) c o s)
  | some false => oOut (putD s o.dst undef') fun s => opsL E ft c all l s
@[go_sem ↓] theorem opsL_guard {all : Array Oper} {dst : Option Tmp} {op : Op} {ty : TypeId} {pos : String} {after : Array Edge} {j : Nat} {want : Bool} {l : List Oper} :
    opsL E ft c all (⟨dst, op, ty, pos, after, some (j, want)⟩ :: l) s = ifG E ft c all ⟨dst, op, ty, pos, after, some (j, want)⟩ l s (whenV want (oget (dstAt all j) s.r.get)) := by
  have hw : wantedT ⟨dst, op, ty, pos, after, some (j, want)⟩ all s.r = whenV want (oget (dstAt all j) s.r.get) := by
    simp only [wantedT, dstAt]
    cases (all.toList[j]?).bind (·.dst) with
    | none => rfl
    | some d =>
      simp only [oget]
      unfold whenV
      rfl
  unfold opsL ifG stepO
  rw [evOps, hw]
  cases whenV want (oget (dstAt all j) s.r.get) with
  | none => rfl
  | some b => cases b with
    | false => rfl
    | true => simp only []; cases evOp E (CL E ft) c ⟨dst, op, ty, pos, after, some (j, want)⟩ s <;> rfl
@[go_sem ↓] theorem ifG_true {all : Array Oper} {o : Oper} {l : List Oper} : ifG E ft c all o l s (some true) = stepO E ft c all o.dst l (evOp E (CL E ft) c o s) := rfl
theorem ifG_false' {all : Array Oper} {o : Oper} {l : List Oper} : ifG E ft c all o l s (some false) = oOut (putD s o.dst undef') fun s => opsL E ft c all l s := rfl
theorem ifG_if {all : Array Oper} {o : Oper} {l : List Oper} {b : Bool} : ifG E ft c all o l s (some b) = if b = true then ifG E ft c all o l s (some true) else ifG E ft c all o l s (some false) := by cases b <;> rfl
theorem stepO_val {all : Array Oper} {dst : Option Tmp} {l : List Oper} {v : Value} : stepO E ft c all dst l (.val v s) = oOut (putD s dst v) fun s => opsL E ft c all l s := rfl
@[go_sem] theorem stepO_pan {all : Array Oper} {dst : Option Tmp} {l : List Oper} {v : Value} : stepO E ft c all dst l (.pan v s) = .pan v s := rfl
@[go_sem] theorem oOut_some {α : Type} {a : α} {f : α → Out} : oOut (some a) f = f a := rfl
@[go_sem] theorem oOp_some {α : Type} {a : α} {f : α → OpR} : oOp (some a) f = f a := rfl
@[go_sem] theorem oget_some' {α β : Type} {a : α} {f : α → Option β} : oget (some a) f = f a := rfl
@[go_sem] theorem putD_none {v : Value} : putD s none v = some s := rfl
theorem putD_some' {d : Tmp} {v : Value} {r : Tr Value} {n : Nat} {ds : List Deferred} {h : AH} {rc : Bool} : putD ⟨r, n, ds, h, rc⟩ (some d) v = if d < n ∧ n < cap then some ⟨r.put d v, n, ds, h, rc⟩ else none := by
  unfold putD
  by_cases hc : d < n ∧ n < cap
  · have h1 : Nat.blt d n = true := Nat.ble_eq_true_of_le hc.1
    have h2 : Nat.blt n cap = true := Nat.ble_eq_true_of_le hc.2
    simp [hc, h1, h2]
  · rw [if_neg hc]
    have : (Nat.blt d n && Nat.blt n cap) = false := by
      cases h1 : Nat.blt d n with
      | false => rfl
      | true => cases h2 : Nat.blt n cap with
        | false => rfl
        | true => exact absurd ⟨of_blt h1, of_blt h2⟩ hc
    simp [this]

@[go_sem ↓] theorem stepO_some {all : Array Oper} {d : Tmp} {l : List Oper} {v : Value} {r : Tr Value} {n : Nat} {ds : List Deferred} {h : AH} {rc : Bool} :
    stepO E ft c all (some d) l (.val v ⟨r, n, ds, h, rc⟩) = if d < n ∧ n < cap then opsL E ft c all l ⟨r.put d v, n, ds, h, rc⟩ else .fail := by
  rw [stepO_val, putD_some']; split <;> rfl
@[go_sem ↓] theorem stepO_none {all : Array Oper} {l : List Oper} {v : Value} : stepO E ft c all none l (.val v s) = opsL E ft c all l s := rfl
@[go_sem ↓] theorem ifG_false {all : Array Oper} {o : Oper} {l : List Oper} : ifG E ft c all o l s (some false) = stepO E ft c all o.dst l (.val undef' s) := by
  rw [ifG_false']; rfl
@[congr] theorem stepO_cg {all : Array Oper} {dst : Option Tmp} {l : List Oper} {x y : OpR} (e : x = y) : stepO E ft c all dst l x = stepO E ft c all dst l y := by rw [e]
@[congr] theorem ifG_cg {all : Array Oper} {o : Oper} {l : List Oper} {x y : Option Bool} (e : x = y) : ifG E ft c all o l s x = ifG E ft c all o l s y := by rw [e]
@[congr] theorem oOp_cg {α : Type} {x y : Option α} {f : α → OpR} (e : x = y) : oOp x f = oOp y f := by rw [e]
@[congr] theorem oOut_cg {α : Type} {x y : Option α} {f : α → Out} (e : x = y) : oOut x f = oOut y f := by rw [e]
@[congr] theorem oget_cg {α β : Type} {x y : Option α} {f : α → Option β} (e : x = y) : oget x f = oget y f := by rw [e]

/-! ### Operands -/
@[go_sem] theorem evalO_tmp {ng : Nat} {r : Tr Value} {t : Tmp} : evalO ng r (.tmp t) = r.get t := rfl
@[go_sem] theorem evalO_const {ng : Nat} {r : Tr Value} {v : Value} : evalO ng r (.const v) = bif plainZ v then some v else none := rfl
@[go_sem] theorem evalO_func {ng : Nat} {r : Tr Value} {f : FuncId} : evalO ng r (.func f) = some (.func (.func f) ⟨[]⟩ ⟨[]⟩) := rfl
attribute [go_sem] plainZ plainA plainL cond_true cond_false valsV partsV isCon

/-! ### One operation -/
section ops
variable {C : CallS} {dst : Option Tmp} {ty : TypeId} {pos : String} {after : Array Edge} {g : Option (Nat × Bool)}
def pickV (x a b : Value) : Option Value := match x with
  | .bool t => some (bif t then a else b)
  | _ => none
@[go_sem] theorem pickV_bool {t : Bool} {a b : Value} : pickV (.bool t) a b = some (bif t then a else b) := rfl
def notNil (x : Value) : Option Value := match x with
  | .pointer (some a) => some (.pointer (some a))
  | _ => none
@[go_sem] theorem notNil_ptr {a : Addr} : notNil (.pointer (some a)) = some (.pointer (some a)) := rfl
def ifaceV (t : TypeId) (u : TypeDesc) (x : Value) : Option Value := match u with
  | .interface _ => none
  | _ => some (.iface t x)
def optV (ρ : Operand → Option Value) (x : Option Operand) : Option (Option Value) := match x with
  | none => some none
  | some v => oget (ρ v) fun v => some (some v)
@[go_sem] theorem optV_none {ρ : Operand → Option Value} : optV ρ none = some none := rfl
@[go_sem] theorem optV_some {ρ : Operand → Option Value} {v : Operand} : optV ρ (some v) = oget (ρ v) fun v => some (some v) := rfl
def partOf (i : Nat) (x : Value) : Option Value := match x with
  | .tuple ⟨vs⟩ => vs[i]?
  | _ => none
@[go_sem] theorem partOf_tuple {i : Nat} {vs : List Value} : partOf i (.tuple ⟨vs⟩) = vs[i]? := rfl
attribute [go_sem] funcV
/-- What an operation answers, and the memory behind it. -/
def avalR (s : St) (x : Option (Value × AH)) : OpR := oOp x fun x => .val x.1 { s with h := x.2 }
@[go_sem] theorem avalR_some {r : Tr Value} {n : Nat} {d : List Deferred} {h h' : AH} {rc : Bool} {v : Value} : avalR ⟨r, n, d, h, rc⟩ (some (v, h')) = .val v ⟨r, n, d, h', rc⟩ := rfl
@[congr] theorem avalR_cg {x y : Option (Value × AH)} (e : x = y) : avalR s x = avalR s y := by rw [e]
section aval
variable {ρ : Operand → Option Value} {h : AH}
@[go_sem] theorem av_move (x : Operand) : aval E ⟨dst, .move x, ty, pos, after, g⟩ ρ h = oget (ρ x) fun v => some (v, h) := rfl
@[go_sem] theorem op_move (x : Operand) : evOp E C c ⟨dst, .move x, ty, pos, after, g⟩ s = avalR s (aval E ⟨dst, .move x, ty, pos, after, g⟩ (evalO E.ng s.r) s.h) := rfl
@[go_sem] theorem av_assign (x : Operand) : aval E ⟨dst, .assign x, ty, pos, after, g⟩ ρ h = oget (ρ x) fun v => some (v, h) := rfl
@[go_sem] theorem op_assign (x : Operand) : evOp E C c ⟨dst, .assign x, ty, pos, after, g⟩ s = avalR s (aval E ⟨dst, .assign x, ty, pos, after, g⟩ (evalO E.ng s.r) s.h) := rfl
@[go_sem] theorem av_pick (x a b : Operand) : aval E ⟨dst, .pick x a b, ty, pos, after, g⟩ ρ h = oget (ρ x) fun x => oget (ρ a) fun a => oget (ρ b) fun b => oget (pickV x a b) fun v => some (v, h) := by
  simp only [aval]
  cases ρ x with
  | none => rfl
  | some x => cases ρ a with
    | none => rfl
    | some a => cases ρ b with
      | none => rfl
      | some b => cases x <;> rfl
@[go_sem] theorem op_pick (x a b : Operand) : evOp E C c ⟨dst, .pick x a b, ty, pos, after, g⟩ s = avalR s (aval E ⟨dst, .pick x a b, ty, pos, after, g⟩ (evalO E.ng s.r) s.h) := rfl
@[go_sem] theorem av_alloc (t : TypeId) : aval E ⟨dst, .alloc t, ty, pos, after, g⟩ ρ h = aAlloc E t h := rfl
@[go_sem] theorem op_alloc (t : TypeId) : evOp E C c ⟨dst, .alloc t, ty, pos, after, g⟩ s = avalR s (aval E ⟨dst, .alloc t, ty, pos, after, g⟩ (evalO E.ng s.r) s.h) := rfl
@[go_sem] theorem av_box (t : TypeId) (x : Operand) : aval E ⟨dst, .box t x, ty, pos, after, g⟩ ρ h = oget (ρ x) fun x => aNewCells h x.cells.toList t := rfl
@[go_sem] theorem op_box (t : TypeId) (x : Operand) : evOp E C c ⟨dst, .box t x, ty, pos, after, g⟩ s = avalR s (aval E ⟨dst, .box t x, ty, pos, after, g⟩ (evalO E.ng s.r) s.h) := rfl
@[go_sem] theorem av_build (t : TypeId) (ps : Array (Nat × Operand)) : aval E ⟨dst, .build t ps, ty, pos, after, g⟩ ρ h = oget (partsV ρ ps.toList) fun ps => oget (aBuild E t ps) fun v => some (v, h) := rfl
@[go_sem] theorem op_build (t : TypeId) (ps : Array (Nat × Operand)) : evOp E C c ⟨dst, .build t ps, ty, pos, after, g⟩ s = avalR s (aval E ⟨dst, .build t ps, ty, pos, after, g⟩ (evalO E.ng s.r) s.h) := rfl
@[go_sem] theorem av_buildSlice (t : TypeId) (n : Nat) (ps : Array (Nat × Operand)) : aval E ⟨dst, .buildSlice t n ps, ty, pos, after, g⟩ ρ h = oget (partsV ρ ps.toList) fun ps => aBuildSlice E t n ps h := rfl
@[go_sem] theorem op_buildSlice (t : TypeId) (n : Nat) (ps : Array (Nat × Operand)) : evOp E C c ⟨dst, .buildSlice t n ps, ty, pos, after, g⟩ s = avalR s (aval E ⟨dst, .buildSlice t n ps, ty, pos, after, g⟩ (evalO E.ng s.r) s.h) := rfl
@[go_sem] theorem av_load (t : TypeId) (x : Operand) : aval E ⟨dst, .load t x, ty, pos, after, g⟩ ρ h = oget (ρ x) fun a => oget (aLoad E t a h) fun v => some (v, h) := rfl
@[go_sem] theorem op_load (t : TypeId) (x : Operand) : evOp E C c ⟨dst, .load t x, ty, pos, after, g⟩ s = avalR s (aval E ⟨dst, .load t x, ty, pos, after, g⟩ (evalO E.ng s.r) s.h) := rfl
@[go_sem] theorem av_store (t : TypeId) (a x : Operand) : aval E ⟨dst, .store t a x, ty, pos, after, g⟩ ρ h = oget (ρ a) fun a => oget (ρ x) fun x => oget (aStore E t a x h) fun h => some (undef', h) := rfl
@[go_sem] theorem op_store (t : TypeId) (a x : Operand) : evOp E C c ⟨dst, .store t a x, ty, pos, after, g⟩ s = avalR s (aval E ⟨dst, .store t a x, ty, pos, after, g⟩ (evalO E.ng s.r) s.h) := rfl
@[go_sem] theorem av_nilCheck (x : Operand) : aval E ⟨dst, .nilCheck x, ty, pos, after, g⟩ ρ h = oget (ρ x) fun x => oget (notNil x) fun v => some (v, h) := by
  simp only [aval]
  cases ρ x with
  | none => rfl
  | some v => cases v <;> first | rfl | (rename_i a; cases a <;> rfl)
@[go_sem] theorem op_nilCheck (x : Operand) : evOp E C c ⟨dst, .nilCheck x, ty, pos, after, g⟩ s = avalR s (aval E ⟨dst, .nilCheck x, ty, pos, after, g⟩ (evalO E.ng s.r) s.h) := rfl
@[go_sem] theorem av_bin (op : BinOp) (t yt : TypeId) (x y : Operand) : aval E ⟨dst, .binOp op t x y yt, ty, pos, after, g⟩ ρ h = oget (ρ x) fun a => oget (ρ y) fun b => oget (aBin E op t (isCon x || isCon y) a b h) fun v => some (v, h) := rfl
@[go_sem] theorem op_bin (op : BinOp) (t yt : TypeId) (x y : Operand) : evOp E C c ⟨dst, .binOp op t x y yt, ty, pos, after, g⟩ s = avalR s (aval E ⟨dst, .binOp op t x y yt, ty, pos, after, g⟩ (evalO E.ng s.r) s.h) := rfl
@[go_sem] theorem av_un (op : UnOp) (t : TypeId) (x : Operand) : aval E ⟨dst, .unOp op t x, ty, pos, after, g⟩ ρ h = oget (ρ x) fun x => oget (aUn op x) fun v => some (v, h) := rfl
@[go_sem] theorem op_un (op : UnOp) (t : TypeId) (x : Operand) : evOp E C c ⟨dst, .unOp op t x, ty, pos, after, g⟩ s = avalR s (aval E ⟨dst, .unOp op t x, ty, pos, after, g⟩ (evalO E.ng s.r) s.h) := rfl
@[go_sem] theorem av_convert (t u : TypeId) (x : Operand) : aval E ⟨dst, .convert t u x, ty, pos, after, g⟩ ρ h = oget (ρ x) fun x => aConvert E t u x h := rfl
@[go_sem] theorem op_convert (t u : TypeId) (x : Operand) : evOp E C c ⟨dst, .convert t u x, ty, pos, after, g⟩ s = avalR s (aval E ⟨dst, .convert t u x, ty, pos, after, g⟩ (evalO E.ng s.r) s.h) := rfl
@[go_sem] theorem av_makeInterface (t : TypeId) (x : Operand) : aval E ⟨dst, .makeInterface t x, ty, pos, after, g⟩ ρ h = oget (ρ x) fun x => oget (tInfo E t) fun i => oget (ifaceV t i.und x) fun v => some (v, h) := by
  simp only [aval]
  cases ρ x with
  | none => rfl
  | some v => cases tInfo E t with
    | none => rfl
    | some i => simp only [oget]; cases i.und <;> rfl
@[go_sem] theorem op_makeInterface (t : TypeId) (x : Operand) : evOp E C c ⟨dst, .makeInterface t x, ty, pos, after, g⟩ s = avalR s (aval E ⟨dst, .makeInterface t x, ty, pos, after, g⟩ (evalO E.ng s.r) s.h) := rfl
@[go_sem] theorem av_makeFunc (f : Fn) (a b : Array Operand) : aval E ⟨dst, .makeFunc f a b, ty, pos, after, g⟩ ρ h = oget (valsV ρ a.toList) fun a => oget (valsV ρ b.toList) fun b => oget (funcV f a b) fun v => some (v, h) := by
  simp only [aval]
  cases valsV ρ a.toList with
  | none => rfl
  | some a => cases valsV ρ b.toList with
    | none => rfl
    | some b => cases f <;> rfl
@[go_sem] theorem op_makeFunc (f : Fn) (a b : Array Operand) : evOp E C c ⟨dst, .makeFunc f a b, ty, pos, after, g⟩ s = avalR s (aval E ⟨dst, .makeFunc f a b, ty, pos, after, g⟩ (evalO E.ng s.r) s.h) := rfl
@[go_sem] theorem av_makeSlice (t : TypeId) (x y : Operand) : aval E ⟨dst, .makeSlice t x y, ty, pos, after, g⟩ ρ h = oget (ρ x) fun x => oget (ρ y) fun y => aMakeSlice E t x y h := rfl
@[go_sem] theorem op_makeSlice (t : TypeId) (x y : Operand) : evOp E C c ⟨dst, .makeSlice t x y, ty, pos, after, g⟩ s = avalR s (aval E ⟨dst, .makeSlice t x y, ty, pos, after, g⟩ (evalO E.ng s.r) s.h) := rfl
@[go_sem] theorem av_slice (t : TypeId) (x : Operand) (lo hi : Option Operand) : aval E ⟨dst, .slice t x lo hi none, ty, pos, after, g⟩ ρ h = oget (ρ x) fun x => oget (optV ρ lo) fun lo => oget (optV ρ hi) fun hi => aSlice E t x lo hi h := by
  simp only [aval]
  cases lo <;> cases hi <;> rfl
@[go_sem] theorem op_slice (t : TypeId) (x : Operand) (lo hi : Option Operand) : evOp E C c ⟨dst, .slice t x lo hi none, ty, pos, after, g⟩ s = avalR s (aval E ⟨dst, .slice t x lo hi none, ty, pos, after, g⟩ (evalO E.ng s.r) s.h) := rfl
@[go_sem] theorem av_fieldAddr (t : TypeId) (x : Operand) (i : Nat) : aval E ⟨dst, .fieldAddr t x i, ty, pos, after, g⟩ ρ h = oget (ρ x) fun x => oget (aFieldAddr E t x i) fun v => some (v, h) := rfl
@[go_sem] theorem op_fieldAddr (t : TypeId) (x : Operand) (i : Nat) : evOp E C c ⟨dst, .fieldAddr t x i, ty, pos, after, g⟩ s = avalR s (aval E ⟨dst, .fieldAddr t x i, ty, pos, after, g⟩ (evalO E.ng s.r) s.h) := rfl
@[go_sem] theorem av_field (t : TypeId) (x : Operand) (i : Nat) : aval E ⟨dst, .field t x i, ty, pos, after, g⟩ ρ h = oget (ρ x) fun x => oget (aField E t x i) fun v => some (v, h) := rfl
@[go_sem] theorem op_field (t : TypeId) (x : Operand) (i : Nat) : evOp E C c ⟨dst, .field t x i, ty, pos, after, g⟩ s = avalR s (aval E ⟨dst, .field t x i, ty, pos, after, g⟩ (evalO E.ng s.r) s.h) := rfl
@[go_sem] theorem av_indexAddr (t : TypeId) (x y : Operand) : aval E ⟨dst, .indexAddr t x y, ty, pos, after, g⟩ ρ h = oget (ρ x) fun x => oget (ρ y) fun y => oget (aIndexAddr E t x y) fun v => some (v, h) := rfl
@[go_sem] theorem op_indexAddr (t : TypeId) (x y : Operand) : evOp E C c ⟨dst, .indexAddr t x y, ty, pos, after, g⟩ s = avalR s (aval E ⟨dst, .indexAddr t x y, ty, pos, after, g⟩ (evalO E.ng s.r) s.h) := rfl
@[go_sem] theorem av_index (t : TypeId) (x y : Operand) : aval E ⟨dst, .index t x y, ty, pos, after, g⟩ ρ h = oget (ρ x) fun x => oget (ρ y) fun y => oget (aIndex E t x y) fun v => some (v, h) := rfl
@[go_sem] theorem op_index (t : TypeId) (x y : Operand) : evOp E C c ⟨dst, .index t x y, ty, pos, after, g⟩ s = avalR s (aval E ⟨dst, .index t x y, ty, pos, after, g⟩ (evalO E.ng s.r) s.h) := rfl
@[go_sem] theorem av_lookup (t : TypeId) (x y : Operand) (b : Bool) : aval E ⟨dst, .lookup t x y b, ty, pos, after, g⟩ ρ h = oget (ρ x) fun x => oget (ρ y) fun y => oget (aLookup E t x y b h) fun v => some (v, h) := rfl
@[go_sem] theorem op_lookup (t : TypeId) (x y : Operand) (b : Bool) : evOp E C c ⟨dst, .lookup t x y b, ty, pos, after, g⟩ s = avalR s (aval E ⟨dst, .lookup t x y b, ty, pos, after, g⟩ (evalO E.ng s.r) s.h) := rfl
@[go_sem] theorem av_mapUpdate (t : TypeId) (x y z : Operand) : aval E ⟨dst, .mapUpdate t x y z, ty, pos, after, g⟩ ρ h = oget (ρ x) fun x => oget (ρ y) fun y => oget (ρ z) fun z => oget (aMapUpdate E t x y z h) fun h => some (undef', h) := rfl
@[go_sem] theorem op_mapUpdate (t : TypeId) (x y z : Operand) : evOp E C c ⟨dst, .mapUpdate t x y z, ty, pos, after, g⟩ s = avalR s (aval E ⟨dst, .mapUpdate t x y z, ty, pos, after, g⟩ (evalO E.ng s.r) s.h) := rfl
@[go_sem] theorem av_typeAssert (x : Operand) (t u : TypeId) (b : Bool) : aval E ⟨dst, .typeAssert x t u b, ty, pos, after, g⟩ ρ h = oget (ρ x) fun x => oget (aTypeAssert E x u b) fun v => some (v, h) := rfl
@[go_sem] theorem op_typeAssert (x : Operand) (t u : TypeId) (b : Bool) : evOp E C c ⟨dst, .typeAssert x t u b, ty, pos, after, g⟩ s = avalR s (aval E ⟨dst, .typeAssert x t u b, ty, pos, after, g⟩ (evalO E.ng s.r) s.h) := rfl
@[go_sem] theorem av_extract (x : Operand) (i : Nat) : aval E ⟨dst, .extract x i, ty, pos, after, g⟩ ρ h = oget (ρ x) fun x => oget (partOf i x) fun v => some (v, h) := by
  simp only [aval]
  cases ρ x with
  | none => rfl
  | some v => cases v <;> rfl
@[go_sem] theorem op_extract (x : Operand) (i : Nat) : evOp E C c ⟨dst, .extract x i, ty, pos, after, g⟩ s = avalR s (aval E ⟨dst, .extract x i, ty, pos, after, g⟩ (evalO E.ng s.r) s.h) := rfl
@[go_sem] theorem av_makeMap (t : TypeId) : aval E ⟨dst, .makeMap t none, ty, pos, after, g⟩ ρ h = oget (tInfo E t) fun _ => bif Nat.blt h.next cap then some (.map (some h.next), h.new (.map [] 0)) else none := rfl
@[go_sem] theorem op_makeMap (t : TypeId) : evOp E C c ⟨dst, .makeMap t none, ty, pos, after, g⟩ s = avalR s (aval E ⟨dst, .makeMap t none, ty, pos, after, g⟩ (evalO E.ng s.r) s.h) := rfl
@[go_sem] theorem av_builtin (b : Builtin) (args : Array Operand) (ats : Array TypeId) : aval E ⟨dst, .call ⟨.builtin b, args, ats⟩, ty, pos, after, g⟩ ρ h = oget (valsV ρ args.toList) fun vs => aBuiltin E b ats.toList vs h := rfl
@[go_sem] theorem op_len (args : Array Operand) (ats : Array TypeId) : evOp E C c ⟨dst, .call ⟨.builtin .len, args, ats⟩, ty, pos, after, g⟩ s = avalR s (aval E ⟨dst, .call ⟨.builtin .len, args, ats⟩, ty, pos, after, g⟩ (evalO E.ng s.r) s.h) := rfl
@[go_sem] theorem op_cap (args : Array Operand) (ats : Array TypeId) : evOp E C c ⟨dst, .call ⟨.builtin .cap, args, ats⟩, ty, pos, after, g⟩ s = avalR s (aval E ⟨dst, .call ⟨.builtin .cap, args, ats⟩, ty, pos, after, g⟩ (evalO E.ng s.r) s.h) := rfl
@[go_sem] theorem op_min (args : Array Operand) (ats : Array TypeId) : evOp E C c ⟨dst, .call ⟨.builtin .min, args, ats⟩, ty, pos, after, g⟩ s = avalR s (aval E ⟨dst, .call ⟨.builtin .min, args, ats⟩, ty, pos, after, g⟩ (evalO E.ng s.r) s.h) := rfl
@[go_sem] theorem op_max (args : Array Operand) (ats : Array TypeId) : evOp E C c ⟨dst, .call ⟨.builtin .max, args, ats⟩, ty, pos, after, g⟩ s = avalR s (aval E ⟨dst, .call ⟨.builtin .max, args, ats⟩, ty, pos, after, g⟩ (evalO E.ng s.r) s.h) := rfl
@[go_sem] theorem op_append (args : Array Operand) (ats : Array TypeId) : evOp E C c ⟨dst, .call ⟨.builtin .append, args, ats⟩, ty, pos, after, g⟩ s = avalR s (aval E ⟨dst, .call ⟨.builtin .append, args, ats⟩, ty, pos, after, g⟩ (evalO E.ng s.r) s.h) := rfl
@[go_sem] theorem op_copy (args : Array Operand) (ats : Array TypeId) : evOp E C c ⟨dst, .call ⟨.builtin .copy, args, ats⟩, ty, pos, after, g⟩ s = avalR s (aval E ⟨dst, .call ⟨.builtin .copy, args, ats⟩, ty, pos, after, g⟩ (evalO E.ng s.r) s.h) := rfl
@[go_sem] theorem op_clear (args : Array Operand) (ats : Array TypeId) : evOp E C c ⟨dst, .call ⟨.builtin .clear, args, ats⟩, ty, pos, after, g⟩ s = avalR s (aval E ⟨dst, .call ⟨.builtin .clear, args, ats⟩, ty, pos, after, g⟩ (evalO E.ng s.r) s.h) := rfl
@[go_sem] theorem op_unsafeSliceData (args : Array Operand) (ats : Array TypeId) : evOp E C c ⟨dst, .call ⟨.builtin .unsafeSliceData, args, ats⟩, ty, pos, after, g⟩ s = avalR s (aval E ⟨dst, .call ⟨.builtin .unsafeSliceData, args, ats⟩, ty, pos, after, g⟩ (evalO E.ng s.r) s.h) := rfl
@[go_sem] theorem op_unsafeString (args : Array Operand) (ats : Array TypeId) : evOp E C c ⟨dst, .call ⟨.builtin .unsafeString, args, ats⟩, ty, pos, after, g⟩ s = avalR s (aval E ⟨dst, .call ⟨.builtin .unsafeString, args, ats⟩, ty, pos, after, g⟩ (evalO E.ng s.r) s.h) := rfl
@[go_sem] theorem op_call (f : Operand) (args : Array Operand) (ats : Array TypeId) : evOp E C c ⟨dst, .call ⟨.value f, args, ats⟩, ty, pos, after, g⟩ s = oOp (evalO E.ng s.r f) fun f => oOp (valsV (evalO E.ng s.r) args.toList) fun vs => callV C f vs s := rfl
end aval
end ops

@[go_sem] theorem aBin_int {op : BinOp} {t : TypeId} {cn : Bool} {k k' : IntKind} {a b : Int} {h : AH} : aBin E op t cn (.int k a) (.int k' b) h = binInt op k k' a b := rfl
@[go_sem] theorem binInt_lss {k : IntKind} {a b : Int} : binInt .lss k k a b = some (.bool (decide (a < b))) := by simp [binInt]
@[go_sem] theorem binInt_leq {k : IntKind} {a b : Int} : binInt .leq k k a b = some (.bool (decide (a ≤ b))) := by simp [binInt]
@[go_sem] theorem binInt_gtr {k : IntKind} {a b : Int} : binInt .gtr k k a b = some (.bool (decide (a > b))) := by simp [binInt]
@[go_sem] theorem binInt_geq {k : IntKind} {a b : Int} : binInt .geq k k a b = some (.bool (decide (a ≥ b))) := by simp [binInt]
@[go_sem] theorem binInt_eql {k : IntKind} {a b : Int} : binInt .eql k k a b = some (.bool (decide (a = b))) := by
  have : (a == b) = decide (a = b) := by by_cases h : a = b <;> simp [h]
  simp [binInt, this]
@[go_sem] theorem binInt_neq {k : IntKind} {a b : Int} : binInt .neq k k a b = some (.bool (decide (¬ a = b))) := by
  have : (a != b) = decide (¬ a = b) := by by_cases h : a = b <;> simp [h]
  simp [binInt, this]
@[go_sem] theorem binInt_add {k : IntKind} {a b : Int} : binInt .add k k a b = some (.int k (k.wrap (a + b))) := by simp [binInt]
@[go_sem] theorem binInt_sub {k : IntKind} {a b : Int} : binInt .sub k k a b = some (.int k (k.wrap (a - b))) := by simp [binInt]
@[go_sem] theorem aUn_not {b : Bool} : aUn .not (.bool b) = some (.bool (!b)) := rfl

/-! ### Registers -/
@[go_sem] theorem get_put_if {α : Type} {t : Tr α} {n m : Nat} {x : α} (h : n < cap) : (t.put n x).get m = if m = n then some x else t.get m := Tr.get_put t n m x h
theorem cap_eq : cap = 1099511627776 := Nat.le_antisymm (by decide) (by decide)
attribute [go_sem] putCells

/-! ### A function's end -/
@[go_sem] theorem bodyL_ret {res : List ResultVar} {r : Tr Value} {n : Nat} {h : AH} {rc : Bool} : bodyL E ft res (.ret ⟨r, n, [], h, rc⟩) = (match resultsV E r h res with | some vs => .ret (oneOf vs) h rc | none => .fail) := leaveL_nil
@[go_sem] theorem bodyL_nor {res : List ResultVar} {r : Tr Value} {n : Nat} {h : AH} {rc : Bool} : bodyL E ft res (.nor ⟨r, n, [], h, rc⟩) = (match resultsV E r h res with | some vs => .ret (oneOf vs) h rc | none => .fail) := leaveL_nil
attribute [go_sem] resultsV oneOf

theorem CL_body {f : FuncId} {fn : Func} {body : Code} {args : List Value} {pan : Option Value} {h : AH} (hf : ft.get f = some ⟨fn.ntmps, fn.results.toList, comp body⟩) (h1 : args.length ≤ fn.ntmps) (h2 : fn.ntmps < cap) :
    CL E ft (.fn f) args pan h = bodyL E ft fn.results.toList (evC E ft ⟨none, pan⟩ body ⟨putCells .nil 0 args, fn.ntmps, [], h, false⟩) := by
  rw [CL_fn hf]
  have e1 : Nat.ble args.length fn.ntmps = true := Nat.ble_eq_true_of_le h1
  have e2 : Nat.blt fn.ntmps cap = true := Nat.ble_eq_true_of_le h2
  simp only [e1, e2, Bool.and_self, cond_true]
  rfl

theorem lt_cap_of {a : Nat} (h : a < 1099511627776) : a < cap := h
end Go.Ev
end
section
/- A deterministic evaluator of the model's code over a memory of its own: rules on memory. -/
namespace Go.Ev
variable {E : Env} {ft : Tr AFunc} {P : Program}

@[go_sem] theorem cell_cells {n i : Nat} {c : Tr Value} {e : TypeId} {o : Nat} {w : Bool} : (Blk.cells n c e o w).cell i = if i < n then c.get i else none := by
  by_cases h : i < n
  · simp [Blk.cell, h, show Nat.blt i n = true from Nat.ble_eq_true_of_le h]
  · have : Nat.blt i n = false := by
      cases hb : Nat.blt i n with
      | false => rfl
      | true => exact absurd (of_blt hb) h
    simp [Blk.cell, h, this]
@[go_sem] theorem cell_ro {n i : Nat} {f : Nat → Value} : (Blk.ro n f).cell i = if i < n then some (f i) else none := by
  by_cases h : i < n
  · simp [Blk.cell, h, show Nat.blt i n = true from Nat.ble_eq_true_of_le h]
  · have : Nat.blt i n = false := by
      cases hb : Nat.blt i n with
      | false => rfl
      | true => exact absurd (of_blt hb) h
    simp [Blk.cell, h, this]
@[go_sem] theorem getCells_zero {f : Nat → Option Value} {off : Nat} : getCells f off 0 = some [] := rfl
@[go_sem] theorem getCells_succ {f : Nat → Option Value} {off n : Nat} : getCells f off (n + 1) = oget (f off) fun v => oget (getCells f (off + 1) n) fun vs => some (v :: vs) := by
  simp only [getCells]
  cases f off with
  | none => rfl
  | some v => cases getCells f (off + 1) n <;> rfl
@[go_sem] theorem new_next' {h : AH} {b : Blk} : (h.new b).next = h.next + 1 := Nat.le_antisymm (Nat.le_refl _) (Nat.le_refl _)
@[go_sem] theorem upd_next {h : AH} {b : Blk} {i : Nat} : (h.upd i b).next = h.next := Nat.le_antisymm (Nat.le_refl _) (Nat.le_refl _)
theorem get_new_self {h : AH} {b : Blk} (hc : h.next < cap) : (h.new b).b.get h.next = some b := by
  show (h.b.put h.next b).get h.next = _
  rw [Tr.get_put _ _ _ _ hc]; simp
theorem get_new_ne {h : AH} {b : Blk} {i : Nat} (hi : i < h.next) (hc : h.next < cap) : (h.new b).b.get i = h.b.get i := by
  show (h.b.put h.next b).get i = _
  rw [Tr.get_put _ _ _ _ hc, if_neg (by omega)]
@[go_sem] theorem get_new_if {h : AH} {b : Blk} {i : Nat} (hc : h.next < cap) : (h.new b).b.get i = if i = h.next then some b else h.b.get i := by
  show (h.b.put h.next b).get i = _
  rw [Tr.get_put _ _ _ _ hc]
@[go_sem] theorem eq_next_F {h : AH} {i : Nat} (hi : i < h.next) : (i = h.next) = False := eq_false (by omega)
@[go_sem] theorem eq_next_F' {h : AH} {i k : Nat} (hi : i < h.next) : (i = h.next + k) = False := eq_false (by omega)
@[go_sem] theorem next_eq_F {h : AH} {i : Nat} (hi : i < h.next) : (h.next = i) = False := eq_false (by omega)
@[go_sem] theorem get_upd_if {h : AH} {b : Blk} {i j : Nat} (hc : j < cap) : (h.upd j b).b.get i = if i = j then some b else h.b.get i := by
  show (h.b.put j b).get i = _
  rw [Tr.get_put _ _ _ _ hc]
theorem get_upd_self {h : AH} {b : Blk} {i : Nat} (hc : i < cap) : (h.upd i b).b.get i = some b := by
  show (h.b.put i b).get i = _
  rw [Tr.get_put _ _ _ _ hc]; simp
theorem get_upd_ne {h : AH} {b : Blk} {i j : Nat} (hi : i ≠ j) (hc : j < cap) : (h.upd j b).b.get i = h.b.get i := by
  show (h.b.put j b).get i = _
  rw [Tr.get_put _ _ _ _ hc, if_neg hi]
@[go_sem] theorem aNewCells_if {h : AH} {cs : List Value} {t : TypeId} : aNewCells h cs t = if cs.all plainCell = true ∧ h.next < cap ∧ cs.length < cap then
    some (.pointer (some ⟨h.next, 0, none⟩), h.new (.cells cs.length (putCells .nil 0 cs) t 0 true)) else none := by
  unfold aNewCells
  by_cases hc : cs.all plainCell = true ∧ h.next < cap ∧ cs.length < cap
  · have e2 : Nat.blt h.next cap = true := Nat.ble_eq_true_of_le hc.2.1
    have e3 : Nat.blt cs.length cap = true := Nat.ble_eq_true_of_le hc.2.2
    simp only [hc, e2, e3, Bool.and_self, cond_true, and_self, if_true]
  · rw [if_neg hc]
    cases h1 : (cs.all plainCell && Nat.blt h.next cap && Nat.blt cs.length cap) with
    | false => rfl
    | true =>
      simp only [Bool.and_eq_true] at h1
      exact absurd ⟨h1.1.1, of_blt h1.1.2, of_blt h1.2⟩ hc
theorem lt_big {a : Nat} (h : a < 1099511627776) : (a < 1099511627776) = True := eq_true h
/-- A block written to. -/
def wr (h : AH) (b off : Nat) (vs : List Value) : Option Blk → Option AH
  | some (.cells n c e o w) => if off + vs.length ≤ n ∧ vs.all plainCell = true ∧ n < cap then some (h.upd b (.cells n (putCells c off vs) e o w)) else none
  | _ => none
@[go_sem] theorem aWrite_wr {h : AH} {b off : Nat} {vs : List Value} : aWrite h b off vs = wr h b off vs (h.b.get b) := by
  unfold aWrite wr
  split
  · rename_i n c e o w hb
    rw [hb]
    by_cases hc : off + vs.length ≤ n ∧ vs.all plainCell = true ∧ n < cap
    · have e1 : Nat.ble (off + vs.length) n = true := Nat.ble_eq_true_of_le hc.1
      have e3 : Nat.blt n cap = true := Nat.ble_eq_true_of_le hc.2.2
      simp only [hc, e1, e3, Bool.and_self, cond_true, and_self, if_true]
    · simp only [if_neg hc]
      cases h1 : (Nat.ble (off + vs.length) n && vs.all plainCell && Nat.blt n cap) with
      | false => rfl
      | true =>
        simp only [Bool.and_eq_true] at h1
        exact absurd ⟨of_ble h1.1.1, h1.1.2, of_blt h1.2⟩ hc
  · rename_i h1
    split
    · rename_i n c e o w hb; exact absurd hb (h1 n c e o w)
    · rfl
@[go_sem] theorem wr_cells {h : AH} {b off : Nat} {vs : List Value} {n : Nat} {c : Tr Value} {e : TypeId} {o : Nat} {w : Bool} : wr h b off vs (some (.cells n c e o w)) = if off + vs.length ≤ n ∧ vs.all plainCell = true ∧ n < cap then some (h.upd b (.cells n (putCells c off vs) e o w)) else none := rfl
@[go_sem] theorem cells_int {k : IntKind} {n : Int} : (Value.int k n).cells.toList = [.int k n] := rfl
@[go_sem] theorem cells_bool {b : Bool} : (Value.bool b).cells.toList = [.bool b] := rfl
@[go_sem] theorem cells_slice {a : Option Addr} {l c : Nat} : (Value.slice a l c).cells.toList = [.slice a l c] := rfl
@[go_sem] theorem cells_ptr {a : Option Addr} : (Value.pointer a).cells.toList = [.pointer a] := rfl
@[go_sem] theorem cells_agg {l : List Value} : (Value.agg ⟨l⟩).cells.toList = l := rfl
@[go_sem] theorem bif_decide {α : Type} {p : Prop} [Decidable p] {x y : α} : (bif decide p then x else y) = if p then x else y := by by_cases h : p <;> simp [h]
@[go_sem] theorem ble_decide {a b : Nat} : Nat.ble a b = decide (a ≤ b) := by
  by_cases h : a ≤ b
  · rw [Nat.ble_eq_true_of_le h]; simp [h]
  · cases hb : Nat.ble a b with
    | false => simp [h]
    | true => exact absurd (of_ble hb) h
@[go_sem] theorem blt_decide {a b : Nat} : Nat.blt a b = decide (a < b) := by
  by_cases h : a < b
  · rw [show Nat.blt a b = true from Nat.ble_eq_true_of_le h]; simp [h]
  · cases hb : Nat.blt a b with
    | false => simp [h]
    | true => exact absurd (of_blt hb) h
@[go_sem] theorem beq_decide {a b : Nat} : Nat.beq a b = decide (a = b) := by
  by_cases h : a = b
  · rw [beqT h]; simp [h]
  · rw [beqF h]; simp [h]
@[go_sem] theorem and_decide {p q : Prop} [Decidable p] [Decidable q] : (decide p && decide q) = decide (p ∧ q) := by by_cases h : p <;> by_cases h2 : q <;> simp [h, h2]
@[go_sem] theorem aBuiltin_len {ats : List TypeId} {x : Value} {h : AH} : aBuiltin E .len ats [x] h = oget (aLen E ats[0]? x h) fun v => some (v, h) := rfl
@[go_sem] theorem aBuiltin_min {ats : List TypeId} {x : Value} {l : List Value} {h : AH} : aBuiltin E .min ats (x :: l) h = oget (foldV minV x l) fun v => some (v, h) := rfl
@[go_sem] theorem aBuiltin_max {ats : List TypeId} {x : Value} {l : List Value} {h : AH} : aBuiltin E .max ats (x :: l) h = oget (foldV maxV x l) fun v => some (v, h) := rfl
attribute [go_sem] foldV minV maxV plainCell List.all_cons List.all_nil Bool.and_true Bool.true_and List.length_cons List.length_nil
/-- What a call hands back. -/
def callR (s : St) : CRes → OpR
  | .ret v h _ => .val v { s with h := h }
  | .pan v h => .pan v { s with h := h }
  | .fail => .fail
@[go_sem ↓] theorem callR_ret {r : Tr Value} {n : Nat} {d : List Deferred} {h h' : AH} {rc rc' : Bool} {v : Value} : callR ⟨r, n, d, h, rc⟩ (.ret v h' rc') = .val v ⟨r, n, d, h', rc⟩ := rfl
@[congr] theorem callR_cg {s : St} {x y : CRes} (e : x = y) : callR s x = callR s y := by rw [e]
@[go_sem] theorem callV_fn {C : CallS} {g : FuncId} {first args cp : List Value} {s : St} : callV C (.func (.func g) ⟨first⟩ ⟨cp⟩) args s = callR s (C (.fn g) (first ++ args ++ cp) none s.h) := by
  simp only [callV]; cases C (.fn g) (first ++ args ++ cp) none s.h <;> rfl
@[go_sem] theorem callV_yield {C : CallS} {l : Nat} {first args : List Value} {s : St} : callV C (.func (.yield l) ⟨first⟩ ⟨[]⟩) args s = callR s (C (.yield l) (first ++ args) none s.h) := by
  simp only [callV]; cases C (.yield l) (first ++ args) none s.h <;> rfl
attribute [go_sem] List.nil_append List.append_nil List.cons_append

@[go_sem] theorem lt_add_of {i k : Nat} {h : AH} (hi : i < h.next) : (i < h.next + k) = True := eq_true (by omega)
@[go_sem] theorem add_1_1 {a : Nat} : a + 1 + 1 = a + 2 := by omega
@[go_sem] theorem add_2_1 {a : Nat} : a + 2 + 1 = a + 3 := by omega
@[go_sem] theorem add_3_1 {a : Nat} : a + 3 + 1 = a + 4 := by omega
@[go_sem] theorem add_4_1 {a : Nat} : a + 4 + 1 = a + 5 := by omega
@[go_sem] theorem add_5_1 {a : Nat} : a + 5 + 1 = a + 6 := by omega
@[go_sem] theorem add_6_1 {a : Nat} : a + 6 + 1 = a + 7 := by omega
@[go_sem] theorem add_7_1 {a : Nat} : a + 7 + 1 = a + 8 := by omega
attribute [go_sem] Nat.left_eq_add Nat.add_eq_left
end Go.Ev
end
section
/- A deterministic evaluator of the model's code over a memory of its own: rules on regions that draw their order. -/
namespace Go.Ev
variable {E : Env} {ft : Tr AFunc} {P : Program} {c : Ctx} {s : St} {C : CallS}

/-- The plan of a region: places, and what must be done ahead. -/
def planI (ops : Array Oper) : Option (List (Nat × Nat)) := (plan ops).map fun l => l.map fun p => (p.1, p.2.2)

def nthOp (l : List Oper) (i : Nat) : Option Oper := l[i]?

theorem zipIx_nth : ∀ {os : List Oper} {ms : List Nat} {k : Nat} {x : PO}, x ∈ zipIx k os ms → ∃ j, x.1 = k + j ∧ os[j]? = some x.2.1
  | [], _, _, _, h => by simp [zipIx] at h
  | _ :: _, [], _, _, h => by simp [zipIx] at h
  | o :: os, m :: ms, k, x, h => by
    simp only [zipIx] at h
    rcases List.mem_cons.1 h with e | h
    · subst e; exact ⟨0, rfl, rfl⟩
    · obtain ⟨j, h1, h2⟩ := zipIx_nth h
      exact ⟨j + 1, by omega, by simpa using h2⟩

/-- The operations at their places. -/
def fetch (l : List Oper) : List (Nat × Nat) → Option (List PO)
  | [] => some []
  | p :: ps => oget (nthOp l p.1) fun o => oget (fetch l ps) fun r => some ((p.1, o, p.2) :: r)

theorem fetch_of {l : List Oper} : ∀ {x : List PO}, (∀ p ∈ x, l[p.1]? = some p.2.1) → fetch l (x.map fun p => (p.1, p.2.2)) = some x
  | [], _ => rfl
  | p :: x, h => by
    have h1 := h p List.mem_cons_self
    have h2 := fetch_of (l := l) (x := x) fun q hq => h q (List.mem_cons_of_mem _ hq)
    simp only [List.map_cons, fetch, nthOp, h1, h2, oget]

noncomputable def drawL (E : Env) (ft : Tr AFunc) (c : Ctx) (all : Array Oper) (l : List PO) (ws : List Watch) (s : St) : Out := evDraw E (CL E ft) c all l ws s
noncomputable def drawF (E : Env) (ft : Tr AFunc) (c : Ctx) (all : Array Oper) (s : St) : Option (List PO) → Out
  | some l => drawL E ft c all l [] s
  | none => .fail
@[go_sem] theorem drawF_some {all : Array Oper} {l : List PO} : drawF E ft c all s (some l) = drawL E ft c all l [] s := rfl

/-- A region that draws, by its plan. -/
theorem drw (id : Nat) (l : List (Nat × Nat)) {ops : Array Oper} (h : planI ops = some l) : evC E ft c (.region id ops true) s = drawF E ft c ops s (fetch ops.toList l) := by
  unfold planI at h
  cases hp : plan ops with
  | none => rw [hp] at h; cases h
  | some x =>
    rw [hp] at h; cases h
    rw [evC_draw hp]
    have hm : ∀ p ∈ x, ops.toList[p.1]? = some p.2.1 := by
      intro p hpm
      have hp2 := hp
      unfold plan at hp2
      simp only [] at hp2
      cases hb : ((orderOps (zipIx 0 ops.toList (Region.before ops).toList).length 0 (zipIx 0 ops.toList (Region.before ops).toList)).length.beq ops.size && seqOk ops.size 0 (orderOps (zipIx 0 ops.toList (Region.before ops).toList).length 0 (zipIx 0 ops.toList (Region.before ops).toList)) && pairsOk ops (orderOps (zipIx 0 ops.toList (Region.before ops).toList).length 0 (zipIx 0 ops.toList (Region.before ops).toList)) && ((orderOps (zipIx 0 ops.toList (Region.before ops).toList).length 0 (zipIx 0 ops.toList (Region.before ops).toList)).all fun x => noSel x.2.1 && x.2.2.beq (orBits (Region.before ops).toList x.2.1.after.toList))) with
      | false => rw [hb] at hp2; cases hp2
      | true =>
        rw [hb] at hp2; cases hp2
        obtain ⟨j, h1, h2⟩ := zipIx_nth (orderOps_mem hpm)
        rw [h1, Nat.zero_add]; exact h2
    rw [fetch_of hm]; rfl

attribute [go_sem] fetch nthOp

/-- What comes of an operation of a region that draws. -/
noncomputable def dStep (E : Env) (ft : Tr AFunc) (c : Ctx) (all : Array Oper) (i : Nat) (o : Oper) (m : Nat) (l : List PO) (ws : List Watch) (s : St) : Cls → Out
  | .strict => bif checkW E s.h ws then (match evOp E (CL E ft) c o s with
      | .val v s => oOut (putD s o.dst v) fun s => drawL E ft c all l (moreW m ws) s
      | .pan v s => .pan v { s with r := dropD all.toList s.r }
      | .fail => .fail) else .fail
  | .read => oOut (aval E o (evalO E.ng s.r) s.h) fun x => bif x.2.next.beq s.h.next then oOut (putD s o.dst x.1) fun s' => drawL E ft c all l (⟨i, o, s.r, x.1⟩ :: ws) s' else .fail
  | _ => oOut (aval E o (evalO E.ng s.r) s.h) fun x => oOut (putD { s with h := x.2 } o.dst x.1) fun s => drawL E ft c all l ws s
noncomputable def dSkip (E : Env) (ft : Tr AFunc) (c : Ctx) (all : Array Oper) (o : Oper) (m : Nat) (l : List PO) (ws : List Watch) (s : St) : Bool → Out
  | true => bif checkW E s.h ws then oOut (putD s o.dst undef') fun s => drawL E ft c all l (moreW m ws) s else .fail
  | false => oOut (putD s o.dst undef') fun s => drawL E ft c all l ws s
noncomputable def dGuard (E : Env) (ft : Tr AFunc) (c : Ctx) (all : Array Oper) (i : Nat) (o : Oper) (m : Nat) (l : List PO) (ws : List Watch) (s : St) : Option Bool → Out
  | some true => dStep E ft c all i o m l ws s (clsOf o.op)
  | some false => dSkip E ft c all o m l ws s (isStrict o)
  | none => .fail

@[go_sem ↓] theorem drawL_nil {all : Array Oper} {ws : List Watch} : drawL E ft c all [] ws s = bif checkW E s.h ws then .nor s else .fail := rfl

theorem drawL_any {all : Array Oper} {i : Nat} {o : Oper} {m : Nat} {l : List PO} {ws : List Watch} (hc : checkW E s.h ws = true ∨ wantedT o all s.r ≠ none) : drawL E ft c all ((i, o, m) :: l) ws s = dGuard E ft c all i o m l ws s (wantedT o all s.r) := by
  unfold drawL
  rw [evDraw]
  unfold dGuard dStep dSkip
  simp only []
  cases hs : isStrict o with
  | true =>
    have hcl : clsOf o.op = .strict := by
      unfold isStrict at hs
      split at hs
      · assumption
      · cases hs
    simp only [hcl]
    cases hb : checkW E s.h ws with
    | false =>
      rcases hc with h | h
      · rw [hb] at h; cases h
      · cases hw : wantedT o all s.r with
        | none => exact absurd hw h
        | some b => cases b <;> rfl
    | true =>
      simp only [cond_true]
      cases hw : wantedT o all s.r with
      | none => rfl
      | some b => cases b with
        | false => rfl
        | true => simp only []; cases evOp E (CL E ft) c o s <;> rfl
  | false =>
    have hcl : clsOf o.op ≠ .strict := by
      intro h
      unfold isStrict at hs
      rw [h] at hs; cases hs
    simp only []
    cases hw : wantedT o all s.r with
    | none => rfl
    | some b => cases b with
      | false => rfl
      | true =>
        simp only []
        cases hx : aval E o (evalO E.ng s.r) s.h with
        | none => cases hk : clsOf o.op <;> first | rfl | exact absurd hk hcl
        | some x => cases hk : clsOf o.op <;> first | rfl | exact absurd hk hcl

@[go_sem ↓] theorem drawL_cons {all : Array Oper} {i : Nat} {dst : Option Tmp} {op : Op} {ty : TypeId} {pos : String} {after : Array Edge} {m : Nat} {l : List PO} {ws : List Watch} :
    drawL E ft c all ((i, ⟨dst, op, ty, pos, after, none⟩, m) :: l) ws s = dStep E ft c all i ⟨dst, op, ty, pos, after, none⟩ m l ws s (clsOf op) := drawL_any (.inr (by simp [wantedT]))

theorem wantedT_when {dst : Option Tmp} {op : Op} {ty : TypeId} {pos : String} {after : Array Edge} {j : Nat} {want : Bool} {all : Array Oper} {r : Tr Value} :
    wantedT ⟨dst, op, ty, pos, after, some (j, want)⟩ all r = whenV want (oget (dstAt all j) r.get) := by
  simp only [wantedT, dstAt]
  cases (all.toList[j]?).bind (·.dst) with
  | none => rfl
  | some d =>
    simp only [oget]
    unfold whenV
    rfl

/-- A guarded one. -/
noncomputable def dWhen (E : Env) (ft : Tr AFunc) (c : Ctx) (all : Array Oper) (i : Nat) (o : Oper) (m : Nat) (l : List PO) (ws : List Watch) (s : St) : Option Bool → Out
  | some true => dStep E ft c all i o m l ws s (clsOf o.op)
  | some false => dSkip E ft c all o m l ws s (isStrict o)
  | none => drawL E ft c all ((i, o, m) :: l) ws s
@[go_sem ↓] theorem dWhen_true {all : Array Oper} {i : Nat} {o : Oper} {m : Nat} {l : List PO} {ws : List Watch} : dWhen E ft c all i o m l ws s (some true) = dStep E ft c all i o m l ws s (clsOf o.op) := rfl
@[go_sem ↓] theorem dWhen_false {all : Array Oper} {i : Nat} {o : Oper} {m : Nat} {l : List PO} {ws : List Watch} : dWhen E ft c all i o m l ws s (some false) = dSkip E ft c all o m l ws s (isStrict o) := rfl
theorem dWhen_if {all : Array Oper} {i : Nat} {o : Oper} {m : Nat} {l : List PO} {ws : List Watch} {b : Bool} : dWhen E ft c all i o m l ws s (some b) = if b = true then dWhen E ft c all i o m l ws s (some true) else dWhen E ft c all i o m l ws s (some false) := by cases b <;> rfl
@[go_sem ↓] theorem drawL_guard {all : Array Oper} {i : Nat} {dst : Option Tmp} {op : Op} {ty : TypeId} {pos : String} {after : Array Edge} {j : Nat} {want : Bool} {m : Nat} {l : List PO} {ws : List Watch} :
    drawL E ft c all ((i, ⟨dst, op, ty, pos, after, some (j, want)⟩, m) :: l) ws s = dWhen E ft c all i ⟨dst, op, ty, pos, after, some (j, want)⟩ m l ws s (whenV want (oget (dstAt all j) s.r.get)) := by
  cases hw : whenV want (oget (dstAt all j) s.r.get) with
  | none => rfl
  | some b =>
    have := wantedT_when (dst := dst) (op := op) (ty := ty) (pos := pos) (after := after) (j := j) (want := want) (all := all) (r := s.r)
    rw [drawL_any (.inr (by rw [this, hw]; simp)), this, hw]
    cases b <;> rfl

/-- What comes of a strict one. -/
noncomputable def dOp (E : Env) (ft : Tr AFunc) (c : Ctx) (all : Array Oper) (o : Oper) (m : Nat) (l : List PO) (ws : List Watch) : OpR → Out
  | .val v s => oOut (putD s o.dst v) fun s => drawL E ft c all l (moreW m ws) s
  | .pan v s => .pan v { s with r := dropD all.toList s.r }
  | .fail => .fail
theorem dOp_val {all : Array Oper} {o : Oper} {m : Nat} {l : List PO} {ws : List Watch} {v : Value} : dOp E ft c all o m l ws (.val v s) = oOut (putD s o.dst v) fun s => drawL E ft c all l (moreW m ws) s := rfl
noncomputable def dRead (E : Env) (ft : Tr AFunc) (c : Ctx) (all : Array Oper) (i : Nat) (o : Oper) (l : List PO) (ws : List Watch) (s : St) (x : Option (Value × AH)) : Out :=
  oOut x fun x => bif x.2.next.beq s.h.next then oOut (putD s o.dst x.1) fun s' => drawL E ft c all l (⟨i, o, s.r, x.1⟩ :: ws) s' else .fail
theorem dRead_some {all : Array Oper} {i : Nat} {o : Oper} {l : List PO} {ws : List Watch} {v : Value} {h : AH} : dRead E ft c all i o l ws s (some (v, h)) = bif h.next.beq s.h.next then oOut (putD s o.dst v) fun s' => drawL E ft c all l (⟨i, o, s.r, v⟩ :: ws) s' else .fail := rfl
noncomputable def dPure (E : Env) (ft : Tr AFunc) (c : Ctx) (all : Array Oper) (o : Oper) (l : List PO) (ws : List Watch) (s : St) (x : Option (Value × AH)) : Out :=
  oOut x fun x => oOut (putD { s with h := x.2 } o.dst x.1) fun s => drawL E ft c all l ws s
theorem dPure_some {all : Array Oper} {o : Oper} {l : List PO} {ws : List Watch} {v : Value} {h : AH} {r : Tr Value} {n : Nat} {d : List Deferred} {h0 : AH} {rc : Bool} : dPure E ft c all o l ws ⟨r, n, d, h0, rc⟩ (some (v, h)) = oOut (putD ⟨r, n, d, h, rc⟩ o.dst v) fun s => drawL E ft c all l ws s := rfl
@[go_sem] theorem dStep_strict {all : Array Oper} {i : Nat} {o : Oper} {m : Nat} {l : List PO} {ws : List Watch} : dStep E ft c all i o m l ws s .strict = bif checkW E s.h ws then dOp E ft c all o m l ws (evOp E (CL E ft) c o s) else .fail := by
  unfold dStep
  simp only []
  cases evOp E (CL E ft) c o s <;> rfl
@[go_sem] theorem dStep_read {all : Array Oper} {i : Nat} {o : Oper} {m : Nat} {l : List PO} {ws : List Watch} : dStep E ft c all i o m l ws s .read = dRead E ft c all i o l ws s (aval E o (evalO E.ng s.r) s.h) := rfl
@[go_sem] theorem dStep_pure {all : Array Oper} {i : Nat} {o : Oper} {m : Nat} {l : List PO} {ws : List Watch} : dStep E ft c all i o m l ws s .pure = dPure E ft c all o l ws s (aval E o (evalO E.ng s.r) s.h) := rfl
@[go_sem] theorem dStep_alloc {all : Array Oper} {i : Nat} {o : Oper} {m : Nat} {l : List PO} {ws : List Watch} : dStep E ft c all i o m l ws s .alloc = dPure E ft c all o l ws s (aval E o (evalO E.ng s.r) s.h) := rfl
theorem dSkip_true {all : Array Oper} {o : Oper} {m : Nat} {l : List PO} {ws : List Watch} : dSkip E ft c all o m l ws s true = bif checkW E s.h ws then oOut (putD s o.dst undef') fun s => drawL E ft c all l (moreW m ws) s else .fail := rfl
theorem dSkip_false {all : Array Oper} {o : Oper} {m : Nat} {l : List PO} {ws : List Watch} : dSkip E ft c all o m l ws s false = oOut (putD s o.dst undef') fun s => drawL E ft c all l ws s := rfl
variable {all : Array Oper} {i d : Nat} {o : Oper} {m : Nat} {l : List PO} {ws : List Watch} {v : Value} {r : Tr Value} {n : Nat} {ds : List Deferred} {h h' : AH} {rc : Bool}
/-- A result laid where it belongs. -/
noncomputable def dPut (E : Env) (ft : Tr AFunc) (c : Ctx) (all : Array Oper) (l : List PO) (ws : List Watch) (s : St) (dst : Option Tmp) (v : Value) : Out := oOut (putD s dst v) fun s => drawL E ft c all l ws s
@[go_sem ↓] theorem dPut_none : dPut E ft c all l ws s none v = drawL E ft c all l ws s := rfl
@[go_sem ↓] theorem dPut_some : dPut E ft c all l ws ⟨r, n, ds, h, rc⟩ (some d) v = if d < n ∧ n < cap then drawL E ft c all l ws ⟨r.put d v, n, ds, h, rc⟩ else .fail := by
  unfold dPut; rw [putD_some']; split <;> rfl
@[go_sem ↓] theorem dOp_val' : dOp E ft c all o m l ws (.val v s) = dPut E ft c all l (moreW m ws) s o.dst v := rfl
@[go_sem ↓] theorem dOp_pan : dOp E ft c all o m l ws (.pan v s) = .pan v { s with r := dropD all.toList s.r } := rfl
@[go_sem ↓] theorem dPure_some' : dPure E ft c all o l ws ⟨r, n, ds, h', rc⟩ (some (v, h)) = dPut E ft c all l ws ⟨r, n, ds, h, rc⟩ o.dst v := rfl
@[go_sem ↓] theorem dRead_some' : dRead E ft c all i o l ws s (some (v, h)) = bif h.next.beq s.h.next then dPut E ft c all l (⟨i, o, s.r, v⟩ :: ws) s o.dst v else .fail := rfl
@[go_sem ↓] theorem dSkip_true' : dSkip E ft c all o m l ws s true = bif checkW E s.h ws then dPut E ft c all l (moreW m ws) s o.dst undef' else .fail := rfl
@[go_sem ↓] theorem dSkip_false' : dSkip E ft c all o m l ws s false = dPut E ft c all l ws s o.dst undef' := rfl
@[congr] theorem dOp_cg {x y : OpR} (e : x = y) : dOp E ft c all o m l ws x = dOp E ft c all o m l ws y := by rw [e]
@[congr] theorem dPure_cg {x y : Option (Value × AH)} (e : x = y) : dPure E ft c all o l ws s x = dPure E ft c all o l ws s y := by rw [e]
@[congr] theorem dRead_cg {x y : Option (Value × AH)} (e : x = y) : dRead E ft c all i o l ws s x = dRead E ft c all i o l ws s y := by rw [e]
@[congr] theorem dStep_cg {x y : Cls} (e : x = y) : dStep E ft c all i o m l ws s x = dStep E ft c all i o m l ws s y := by rw [e]
@[congr] theorem dSkip_cg {x y : Bool} (e : x = y) : dSkip E ft c all o m l ws s x = dSkip E ft c all o m l ws s y := by rw [e]
@[congr] theorem dWhen_cg {x y : Option Bool} (e : x = y) : dWhen E ft c all i o m l ws s x = dWhen E ft c all i o m l ws s y := by rw [e]
@[congr] theorem drawF_cg {x y : Option (List PO)} (e : x = y) : drawF E ft c all s x = drawF E ft c all s y := by rw [e]
@[congr] theorem bif_cg {α : Type} {a b : Bool} {x y : α} (e : a = b) : (bif a then x else y) = bif b then x else y := by rw [e]
attribute [go_sem] clsOf isStrict

/-! ### Readings that are looked at again -/
def chk (h : AH) (v : Value) : Option (Value × AH) → Bool
  | some (v', h') => veq v' v && h'.next.beq h.next
  | none => false
@[go_sem] theorem chk_some {h h' : AH} {v v' : Value} : chk h v (some (v', h')) = (veq v' v && h'.next.beq h.next) := rfl
@[go_sem] theorem checkW_nil {h : AH} : checkW E h [] = true := rfl
@[go_sem] theorem checkW_cons {h : AH} {i : Nat} {o : Oper} {r : Tr Value} {v : Value} {ws : List Watch} : checkW E h (⟨i, o, r, v⟩ :: ws) = (chk h v (aval E o (evalO E.ng r) h) && checkW E h ws) := by
  rw [checkW]
  unfold chk
  simp only []
  split <;> rename_i he <;> rw [he]
@[go_sem] theorem moreW_nil {m : Nat} : moreW m [] = [] := rfl
@[go_sem] theorem moreW_cons {m i : Nat} {o : Oper} {r : Tr Value} {v : Value} {ws : List Watch} : moreW m (⟨i, o, r, v⟩ :: ws) = if m / 2 ^ i % 2 = 1 then moreW m ws else ⟨i, o, r, v⟩ :: moreW m ws := by
  rw [moreW, Nat.testBit_eq_decide_div_mod_eq]
  by_cases h : m / 2 ^ i % 2 = 1 <;> simp [h]
@[go_sem] theorem veq_bool {a : Bool} : veq (.bool a) (.bool a) = true := by simp [veq]
@[go_sem] theorem veq_int {k : IntKind} {a : Int} : veq (.int k a) (.int k a) = true := by simp [veq]
@[go_sem] theorem veq_string {s : ByteArray} : veq (.string s) (.string s) = true := by simp [veq]
@[go_sem] theorem veq_ptr0 : veq (.pointer none) (.pointer none) = true := rfl
@[go_sem] theorem veq_ptr {b o : Nat} : veq (.pointer (some ⟨b, o, none⟩)) (.pointer (some ⟨b, o, none⟩)) = true := by simp [veq]
@[go_sem] theorem veq_slice0 {l c : Nat} : veq (.slice none l c) (.slice none l c) = true := by simp [veq]
@[go_sem] theorem veq_slice {b o l c : Nat} : veq (.slice (some ⟨b, o, none⟩) l c) (.slice (some ⟨b, o, none⟩) l c) = true := by simp [veq]
@[go_sem] theorem veq_map0 : veq (.map none) (.map none) = true := rfl
@[go_sem] theorem veq_map {r : Nat} : veq (.map (some r)) (.map (some r)) = true := by simp [veq]
@[go_sem] theorem veq_agg {l l' : List Value} : veq (.agg ⟨l⟩) (.agg ⟨l'⟩) = veq.veqs l l' := by simp [veq]
@[go_sem] theorem veqs_nil : veq.veqs [] [] = true := by simp [veq.veqs]
@[go_sem] theorem veqs_cons {x y : Value} {l l' : List Value} : veq.veqs (x :: l) (y :: l') = (veq x y && veq.veqs l l') := by simp [veq.veqs]
attribute [go_sem] IntWalk.i64_in IntWalk.u32_in IntWalk.u8_in
@[go_sem] theorem binInt_mul {k : IntKind} {a b : Int} : binInt .mul k k a b = some (.int k (k.wrap (a * b))) := by simp [binInt]
@[go_sem] theorem binInt_rem {k : IntKind} {a b : Int} (h : b ≠ 0) : binInt .rem k k a b = some (.int k (a.tmod b)) := by simp [binInt, h]
@[go_sem] theorem binInt_quo {k : IntKind} {a b : Int} (h : b ≠ 0) : binInt .quo k k a b = some (.int k (k.wrap (a.tdiv b))) := by simp [binInt, h]
@[go_sem] theorem binInt_and {k : IntKind} {a b : Int} : binInt .and k k a b = some (.int k (k.wrap (BitVec.ofInt k.bits a &&& BitVec.ofInt k.bits b).toNat)) := by simp [binInt]
@[go_sem] theorem binInt_or {k : IntKind} {a b : Int} : binInt .or k k a b = some (.int k (k.wrap (BitVec.ofInt k.bits a ||| BitVec.ofInt k.bits b).toNat)) := by simp [binInt]
@[go_sem] theorem binInt_xor {k : IntKind} {a b : Int} : binInt .xor k k a b = some (.int k (k.wrap (BitVec.ofInt k.bits a ^^^ BitVec.ofInt k.bits b).toNat)) := by simp [binInt]
@[go_sem] theorem binInt_andNot {k : IntKind} {a b : Int} : binInt .andNot k k a b = some (.int k (k.wrap (BitVec.ofInt k.bits a &&& ~~~ BitVec.ofInt k.bits b).toNat)) := by simp [binInt]
@[go_sem] theorem binInt_shl {k k' : IntKind} {a b : Int} (h : 0 ≤ b) : binInt .shl k k' a b = some (.int k (k.wrap (a * 2 ^ (min b.toNat k.bits)))) := by simp [binInt, show ¬ b < 0 by omega]
@[go_sem] theorem binInt_shr {k k' : IntKind} {a b : Int} (h : 0 ≤ b) : binInt .shr k k' a b = some (.int k (a.fdiv (2 ^ (min b.toNat k.bits)))) := by simp [binInt, show ¬ b < 0 by omega]
@[go_sem] theorem aUn_neg {k : IntKind} {a : Int} : aUn .neg (.int k a) = some (.int k (k.wrap (0 - a))) := rfl
end Go.Ev
end
section
/- A deterministic evaluator of the model's code over a memory of its own: what holds of what comes of a piece of code. -/
namespace Go.Ev
variable {E : Env} {ft : Tr AFunc} {P : Program} {c : Ctx} {s : St}

/-- K holds of what comes of a piece of code. -/
def W (E : Env) (ft : Tr AFunc) (c : Ctx) (x : Code) (s : St) (K : Out → Prop) : Prop := K (evC E ft c x s)
def kSeq (E : Env) (ft : Tr AFunc) (c : Ctx) (b : Code) (K : Out → Prop) : Out → Prop
  | .nor s => W E ft c b s K
  | x => K x
def kBlk (id : Nat) (K : Out → Prop) : Out → Prop
  | .exit i s => if i = id then K (.nor s) else K (.exit i s)
  | x => K x
def kLoop (M : Nat → St → Prop) (k : Nat) (K : Out → Prop) : Out → Prop
  | .nor s => ∃ k', k' < k ∧ M k' s
  | x => K x
def kBody (E : Env) (ft : Tr AFunc) (res : List ResultVar) (K : CRes → Prop) (o : Out) : Prop := K (bodyL E ft res o)
def kRes (K : CRes → Prop) (h : AH) (rc : Bool) : Option (List Value) → Prop
  | some vs => K (.ret (oneOf vs) h rc)
  | none => K .fail
def callK (E : Env) (ft : Tr AFunc) (c : Ctx) (all : Array Oper) (dst : Option Tmp) (l : List Oper) (s : St) (K : Out → Prop) (x : CRes) : Prop := K (stepO E ft c all dst l (callR s x))
def dcallK (E : Env) (ft : Tr AFunc) (c : Ctx) (all : Array Oper) (o : Oper) (m : Nat) (l : List PO) (ws : List Watch) (s : St) (K : Out → Prop) (x : CRes) : Prop := K (dOp E ft c all o m l ws (callR s x))
variable {K : Out → Prop}

theorem W_body {f : FuncId} {fn : Func} {body : Code} {args : List Value} {pan : Option Value} {h : AH} {K : CRes → Prop} (hf : ft.get f = some ⟨fn.ntmps, fn.results.toList, comp body⟩) (h1 : args.length ≤ fn.ntmps) (h2 : fn.ntmps < cap)
    (hw : W E ft ⟨none, pan⟩ body ⟨putCells .nil 0 args, fn.ntmps, [], h, false⟩ (kBody E ft fn.results.toList K)) : K (CL E ft (.fn f) args pan h) := by
  rw [CL_body hf h1 h2]; exact hw

@[go_sem ↓] theorem W_skip : W E ft c .skip s K = K (.nor s) := by unfold W; rw [evC_skip]
@[go_sem ↓] theorem W_label {l : Nat} : W E ft c (.label l) s K = K (.nor s) := by unfold W; rw [evC_label]
@[go_sem ↓] theorem W_exit {i : Nat} : W E ft c (.exit i) s K = K (.exit i s) := by unfold W; rw [evC_exit]
@[go_sem ↓] theorem W_ret : W E ft c .ret s K = K (.ret s) := by unfold W; rw [evC_ret]
@[go_sem ↓] theorem W_seq {a b : Code} : W E ft c (.seq a b) s K = W E ft c a s (kSeq E ft c b K) := by
  unfold W; rw [evC_seq]; cases evC E ft c a s <;> rfl
@[go_sem ↓] theorem W_block {id : Nat} {a : Code} : W E ft c (.block id a) s K = W E ft c a s (kBlk id K) := by
  unfold W; rw [evC_block]
  cases evC E ft c a s with
  | exit i s => rw [leaveB_exit]; unfold kBlk; by_cases h : i = id <;> simp [h]
  | _ => rfl
/-- Which way a branch goes. -/
def wCond (E : Env) (ft : Tr AFunc) (c : Ctx) (a b : Code) (s : St) (K : Out → Prop) : Option Value → Prop
  | some (.bool t) => (t = true → W E ft c a s K) ∧ (t = false → W E ft c b s K)
  | _ => K .fail
@[go_sem ↓] theorem W_cond {x : Operand} {a b : Code} : W E ft c (.cond x a b) s K = wCond E ft c a b s K (evalO E.ng s.r x) := by
  unfold W; rw [evC_cond]
  unfold wCond condC
  cases evalO E.ng s.r x with
  | none => rfl
  | some v => cases v <;> try rfl
              rename_i t; cases t <;> simp [W]
@[go_sem ↓] theorem wCond_true {a b : Code} : wCond E ft c a b s K (some (.bool true)) = W E ft c a s K := by simp [wCond]
@[go_sem ↓] theorem wCond_false {a b : Code} : wCond E ft c a b s K (some (.bool false)) = W E ft c b s K := by simp [wCond]
/-- Both ways. -/
theorem wCond_two {a b : Code} {t : Bool} (h1 : t = true → W E ft c a s K) (h2 : t = false → W E ft c b s K) : wCond E ft c a b s K (some (.bool t)) := ⟨h1, h2⟩
theorem wCond_dec {a b : Code} {p : Prop} [Decidable p] (h1 : p → W E ft c a s K) (h2 : ¬ p → W E ft c b s K) : wCond E ft c a b s K (some (.bool (decide p))) := ⟨fun h => h1 (of_decide_eq_true h), fun h => h2 (of_decide_eq_false h)⟩
@[go_sem ↓] theorem W_plain {id : Nat} {ops : Array Oper} : W E ft c (.region id ops false) s K = K (opsL E ft c ops ops.toList s) := by unfold W; rw [evC_plain]
theorem W_drw (id : Nat) (l : List (Nat × Nat)) {ops : Array Oper} (h : planI ops = some l) : W E ft c (.region id ops true) s K = K (drawF E ft c ops s (fetch ops.toList l)) := by unfold W; rw [drw id l h]
theorem W_draw (id : Nat) (l : List (Nat × Nat)) {ops : Array Oper} (h : planI ops = some l) (hk : K (drawF E ft c ops s (fetch ops.toList l))) : W E ft c (.region id ops true) s K := by rw [W_drw id l h]; exact hk
theorem W_loop (M : Nat → St → Prop) {body : Code} (step : ∀ k s, M k s → W E ft c body s (kLoop M k K)) : ∀ k s, M k s → W E ft c (.loop body) s K := by
  intro k
  induction k using Nat.strongRecOn with
  | _ k ih =>
    intro s hm
    have := step k s hm
    unfold W at this ⊢
    rw [evC_loop]
    cases hx : evC E ft c body s with
    | nor s' =>
      rw [hx] at this
      obtain ⟨k', hk, hm'⟩ := this
      exact ih k' hk s' hm'
    | _ => rw [hx] at this; exact this

@[go_sem ↓] theorem kSeq_nor {b : Code} : kSeq E ft c b K (.nor s) = W E ft c b s K := rfl
@[go_sem ↓] theorem kSeq_ret {b : Code} : kSeq E ft c b K (.ret s) = K (.ret s) := rfl
@[go_sem ↓] theorem kSeq_exit {b : Code} {i : Nat} : kSeq E ft c b K (.exit i s) = K (.exit i s) := rfl
@[go_sem ↓] theorem kSeq_pan {b : Code} {v : Value} : kSeq E ft c b K (.pan v s) = K (.pan v s) := rfl
@[go_sem ↓] theorem kBlk_nor {id : Nat} : kBlk id K (.nor s) = K (.nor s) := rfl
@[go_sem ↓] theorem kBlk_ret {id : Nat} : kBlk id K (.ret s) = K (.ret s) := rfl
@[go_sem ↓] theorem kBlk_pan {id : Nat} {v : Value} : kBlk id K (.pan v s) = K (.pan v s) := rfl
@[go_sem ↓] theorem kBlk_exit {id i : Nat} : kBlk id K (.exit i s) = if i = id then K (.nor s) else K (.exit i s) := rfl
@[go_sem ↓] theorem kLoop_nor {M : Nat → St → Prop} {k : Nat} : kLoop M k K (.nor s) = ∃ k', k' < k ∧ M k' s := rfl
@[go_sem ↓] theorem kLoop_ret {M : Nat → St → Prop} {k : Nat} : kLoop M k K (.ret s) = K (.ret s) := rfl
@[go_sem ↓] theorem kLoop_exit {M : Nat → St → Prop} {k i : Nat} : kLoop M k K (.exit i s) = K (.exit i s) := rfl
@[go_sem ↓] theorem kLoop_pan {M : Nat → St → Prop} {k : Nat} {v : Value} : kLoop M k K (.pan v s) = K (.pan v s) := rfl
@[go_sem ↓] theorem kBody_ret {K : CRes → Prop} {res : List ResultVar} {r : Tr Value} {n : Nat} {h : AH} {rc : Bool} : kBody E ft res K (.ret ⟨r, n, [], h, rc⟩) = kRes K h rc (resultsV E r h res) := by
  unfold kBody; rw [bodyL_ret]; unfold kRes; cases resultsV E r h res <;> rfl
@[go_sem ↓] theorem kBody_nor {K : CRes → Prop} {res : List ResultVar} {r : Tr Value} {n : Nat} {h : AH} {rc : Bool} : kBody E ft res K (.nor ⟨r, n, [], h, rc⟩) = kRes K h rc (resultsV E r h res) := by
  unfold kBody; rw [bodyL_nor]; unfold kRes; cases resultsV E r h res <;> rfl
@[go_sem ↓] theorem kRes_some {K : CRes → Prop} {h : AH} {rc : Bool} {vs : List Value} : kRes K h rc (some vs) = K (.ret (oneOf vs) h rc) := rfl

/-! ### Calls -/
section calls
variable {all : Array Oper} {dst : Option Tmp} {l : List Oper} {st : St} {x : CRes} {o : Oper} {m : Nat} {pl : List PO} {ws : List Watch}
@[go_sem] theorem kSeq_call {b : Code} : kSeq E ft c b K (stepO E ft c all dst l (callR st x)) = callK E ft c all dst l st (kSeq E ft c b K) x := rfl
@[go_sem] theorem kBlk_call {id : Nat} : kBlk id K (stepO E ft c all dst l (callR st x)) = callK E ft c all dst l st (kBlk id K) x := rfl
@[go_sem] theorem kBody_call {K : CRes → Prop} {res : List ResultVar} : kBody E ft res K (stepO E ft c all dst l (callR st x)) = callK E ft c all dst l st (kBody E ft res K) x := rfl
@[go_sem] theorem kLoop_call {M : Nat → St → Prop} {k : Nat} : kLoop M k K (stepO E ft c all dst l (callR st x)) = callK E ft c all dst l st (kLoop M k K) x := rfl
@[go_sem] theorem kSeq_dcall {b : Code} : kSeq E ft c b K (dOp E ft c all o m pl ws (callR st x)) = dcallK E ft c all o m pl ws st (kSeq E ft c b K) x := rfl
@[go_sem] theorem kBlk_dcall {id : Nat} : kBlk id K (dOp E ft c all o m pl ws (callR st x)) = dcallK E ft c all o m pl ws st (kBlk id K) x := rfl
@[go_sem] theorem kBody_dcall {K : CRes → Prop} {res : List ResultVar} : kBody E ft res K (dOp E ft c all o m pl ws (callR st x)) = dcallK E ft c all o m pl ws st (kBody E ft res K) x := rfl
@[go_sem] theorem kLoop_dcall {M : Nat → St → Prop} {k : Nat} : kLoop M k K (dOp E ft c all o m pl ws (callR st x)) = dcallK E ft c all o m pl ws st (kLoop M k K) x := rfl
@[go_sem ↓] theorem callK_ret {r : Tr Value} {n : Nat} {d : List Deferred} {h h' : AH} {rc rc' : Bool} {v : Value} : callK E ft c all dst l ⟨r, n, d, h, rc⟩ K (.ret v h' rc') = K (stepO E ft c all dst l (.val v ⟨r, n, d, h', rc⟩)) := rfl
@[go_sem ↓] theorem dcallK_ret {r : Tr Value} {n : Nat} {d : List Deferred} {h h' : AH} {rc rc' : Bool} {v : Value} : dcallK E ft c all o m pl ws ⟨r, n, d, h, rc⟩ K (.ret v h' rc') = K (dOp E ft c all o m pl ws (.val v ⟨r, n, d, h', rc⟩)) := rfl
@[go_sem ↓] theorem dcallK_pan {v : Value} {h' : AH} : dcallK E ft c all o m pl ws s K (.pan v h') = K (.pan v { { s with h := h' } with r := dropD all.toList s.r }) := rfl
@[go_sem ↓] theorem callK_pan {v : Value} {h' : AH} : callK E ft c all dst l s K (.pan v h') = K (.pan v { s with h := h' }) := rfl
end calls

section cg
variable {all : Array Oper} {dst : Option Tmp} {l : List Oper} {st : St} {o : Oper} {m : Nat} {pl : List PO} {ws : List Watch} {a b : Code} {x y : Out} {z z' : CRes}
@[congr] theorem kSeq_cg (e : x = y) : kSeq E ft c b K x = kSeq E ft c b K y := by rw [e]
@[congr] theorem kBlk_cg {id : Nat} (e : x = y) : kBlk id K x = kBlk id K y := by rw [e]
@[congr] theorem kLoop_cg {M : Nat → St → Prop} {k : Nat} (e : x = y) : kLoop M k K x = kLoop M k K y := by rw [e]
@[congr] theorem kBody_cg {K : CRes → Prop} {res : List ResultVar} (e : x = y) : kBody E ft res K x = kBody E ft res K y := by rw [e]
@[congr] theorem kRes_cg {K : CRes → Prop} {h : AH} {rc : Bool} {x y : Option (List Value)} (e : x = y) : kRes K h rc x = kRes K h rc y := by rw [e]
@[congr] theorem wCond_cg {x y : Option Value} (e : x = y) : wCond E ft c a b s K x = wCond E ft c a b s K y := by rw [e]
@[congr] theorem callK_cg (e : z = z') : callK E ft c all dst l s K z = callK E ft c all dst l s K z' := by rw [e]
@[congr] theorem dcallK_cg (e : z = z') : dcallK E ft c all o m pl ws s K z = dcallK E ft c all o m pl ws s K z' := by rw [e]
end cg

/-- What holds in between. -/
def kMid (M : St → Prop) (K : Out → Prop) : Out → Prop
  | .nor s => M s
  | x => K x
@[go_sem ↓] theorem kMid_nor {M : St → Prop} : kMid M K (.nor s) = M s := rfl
@[go_sem ↓] theorem kMid_ret {M : St → Prop} : kMid M K (.ret s) = K (.ret s) := rfl
@[go_sem ↓] theorem kMid_exit {M : St → Prop} {i : Nat} : kMid M K (.exit i s) = K (.exit i s) := rfl
@[go_sem ↓] theorem kMid_pan {M : St → Prop} {v : Value} : kMid M K (.pan v s) = K (.pan v s) := rfl
@[congr] theorem kMid_cg {M : St → Prop} {x y : Out} (e : x = y) : kMid M K x = kMid M K y := by rw [e]
@[go_sem] theorem kMid_call {M : St → Prop} {all : Array Oper} {dst : Option Tmp} {l : List Oper} {st : St} {x : CRes} : kMid M K (stepO E ft c all dst l (callR st x)) = callK E ft c all dst l st (kMid M K) x := rfl
@[go_sem] theorem kMid_dcall {M : St → Prop} {all : Array Oper} {o : Oper} {m : Nat} {pl : List PO} {ws : List Watch} {st : St} {x : CRes} : kMid M K (dOp E ft c all o m pl ws (callR st x)) = dcallK E ft c all o m pl ws st (kMid M K) x := rfl
theorem kSeq_mono {b : Code} {K1 K2 : Out → Prop} (h : ∀ o, K1 o → K2 o) {x : Out} (hx : kSeq E ft c b K1 x) : kSeq E ft c b K2 x := by
  cases x <;> exact h _ hx
theorem kSeq_cut (M : St → Prop) {b : Code} {x : Out} (h1 : kMid M K x) (h2 : ∀ s, M s → W E ft c b s K) : kSeq E ft c b K x := by
  cases x <;> first | exact h2 _ h1 | exact h1
/-- A cut behind the next piece. -/
theorem kSeq_cut2 (M : St → Prop) {a b : Code} {x : Out} (h1 : kSeq E ft c a (kMid M K) x) (h2 : ∀ s, M s → W E ft c b s K) : kSeq E ft c a (kSeq E ft c b K) x :=
  kSeq_mono (fun _ ho => kSeq_cut M ho h2) h1

theorem W_mono {b : Code} {K1 K2 : Out → Prop} (h : ∀ o, K1 o → K2 o) (hx : W E ft c b s K1) : W E ft c b s K2 := h _ hx
theorem W_cut (M : St → Prop) {x b : Code} (h1 : W E ft c x s (kMid M K)) (h2 : ∀ s, M s → W E ft c b s K) : W E ft c x s (kSeq E ft c b K) := kSeq_cut M h1 h2
theorem W_cut2 (M : St → Prop) {x a b : Code} (h1 : W E ft c x s (kSeq E ft c a (kMid M K))) (h2 : ∀ s, M s → W E ft c b s K) : W E ft c x s (kSeq E ft c a (kSeq E ft c b K)) := kSeq_cut2 M h1 h2

theorem kBlk_mono {id : Nat} {K1 K2 : Out → Prop} (h : ∀ o, K1 o → K2 o) {x : Out} (hx : kBlk id K1 x) : kBlk id K2 x := by
  cases x with
  | exit i s =>
    rw [kBlk_exit] at hx ⊢
    by_cases e : i = id
    · rw [if_pos e] at hx ⊢; exact h _ hx
    · rw [if_neg e] at hx ⊢; exact h _ hx
  | _ => exact h _ hx
/-- A cut behind a block. -/
theorem W_cutB (M : St → Prop) {id : Nat} {x b : Code} (h1 : W E ft c x s (kBlk id (kMid M K))) (h2 : ∀ s, M s → W E ft c b s K) : W E ft c x s (kBlk id (kSeq E ft c b K)) :=
  W_mono (fun _ ho => kBlk_mono (fun _ ho => kSeq_cut M ho h2) ho) h1
theorem callK_cut (M : St → Prop) {all : Array Oper} {dst : Option Tmp} {l : List Oper} {b' : Code} {st : St} {x : CRes} (h1 : callK E ft c all dst l st (kMid M K) x) (h2 : ∀ s, M s → W E ft c b' s K) : callK E ft c all dst l st (kSeq E ft c b' K) x := kSeq_cut M h1 h2
theorem wCond_mono {a b : Code} {K1 K2 : Out → Prop} (h : ∀ o, K1 o → K2 o) {v : Option Value} (hx : wCond E ft c a b s K1 v) : wCond E ft c a b s K2 v := by
  unfold wCond at hx ⊢
  split at hx
  · exact ⟨fun e => W_mono h (hx.1 e), fun e => W_mono h (hx.2 e)⟩
  · exact h _ hx
theorem wCond_cut (M : St → Prop) {a b b' : Code} {v : Option Value} (h1 : wCond E ft c a b s (kMid M K) v) (h2 : ∀ s, M s → W E ft c b' s K) : wCond E ft c a b s (kSeq E ft c b' K) v :=
  wCond_mono (fun _ ho => kSeq_cut M ho h2) h1

/-! ### A guard that hangs on what isn't known yet: both ways -/
theorem ifG_two {all : Array Oper} {o : Oper} {l : List Oper} {b : Bool} (h1 : b = true → K (ifG E ft c all o l s (some true))) (h2 : b = false → K (ifG E ft c all o l s (some false))) : K (ifG E ft c all o l s (some b)) := by
  cases b
  · exact h2 rfl
  · exact h1 rfl
theorem dWhen_two {all : Array Oper} {i : Nat} {o : Oper} {m : Nat} {l : List PO} {ws : List Watch} {b : Bool} (h1 : b = true → K (dWhen E ft c all i o m l ws s (some true))) (h2 : b = false → K (dWhen E ft c all i o m l ws s (some false))) : K (dWhen E ft c all i o m l ws s (some b)) := by
  cases b
  · exact h2 rfl
  · exact h1 rfl
attribute [irreducible] W
end Go.Ev
end
section
/- A deterministic evaluator of the model's code over a memory of its own: what grows, and what a slice holds. -/
namespace Go.Ev

/-- Memory that has grown: what was there is there still. -/
def Ext (h h' : AH) : Prop := h.next ≤ h'.next ∧ ∀ i, i < h.next → h'.b.get i = h.b.get i
theorem Ext.refl (h : AH) : Ext h h := ⟨Nat.le_refl _, fun _ _ => rfl⟩
theorem Ext.trans {a b c : AH} (h1 : Ext a b) (h2 : Ext b c) : Ext a c := ⟨Nat.le_trans h1.1 h2.1, fun i hi => by rw [h2.2 i (Nat.lt_of_lt_of_le hi h1.1), h1.2 i hi]⟩
theorem Ext.new {h h' : AH} (e : Ext h h') (b : Blk) (hc : h'.next < cap) : Ext h (h'.new b) := ⟨by have := e.1; show h.next ≤ h'.next + 1; omega, fun i hi => by rw [get_new_ne (by have := e.1; omega) hc, e.2 i hi]⟩
theorem Ext.upd {h h' : AH} (e : Ext h h') {j : Nat} (b : Blk) (hj : h.next ≤ j) (hc : j < cap) : Ext h (h'.upd j b) := ⟨e.1, fun i hi => by rw [get_upd_ne (by omega) hc, e.2 i hi]⟩
theorem Ext.get {h h' : AH} (e : Ext h h') {i : Nat} (hi : i < h.next) : h'.b.get i = h.b.get i := e.2 i hi

/-- The cells that a slice of small elements holds. Of one without elements nothing is asked but its form. -/
def Holds {α : Type} (h : AH) (f : α → Value) (a : Option Addr) (len : Nat) (l : List α) : Prop :=
  l.length = len ∧ (a = none ∨ ∃ b off, a = some ⟨b, off, none⟩) ∧ (l = [] ∨ ∃ b off blk, a = some ⟨b, off, none⟩ ∧ b < h.next ∧ h.b.get b = some blk ∧ ∀ i x, l[i]? = some x → blk.cell (off + i) = some (f x))
variable {α : Type} {f : α → Value} {h h' : AH} {a : Option Addr} {len : Nat} {l : List α}
theorem Holds.len_eq (H : Holds h f a len l) : l.length = len := H.1
theorem Holds.keep (H : Holds h f a len l) (h1 : h.next ≤ h'.next) (h2 : ∀ b off, a = some ⟨b, off, none⟩ → b < h.next → h'.b.get b = h.b.get b) : Holds h' f a len l := by
  obtain ⟨g1, g0, g2 | ⟨b, off, blk, e1, e2, e3, e4⟩⟩ := H
  · exact ⟨g1, g0, .inl g2⟩
  · exact ⟨g1, g0, .inr ⟨b, off, blk, e1, Nat.lt_of_lt_of_le e2 h1, by rw [h2 b off e1 e2, e3], e4⟩⟩
theorem Holds.ext (H : Holds h f a len l) (e : Ext h h') : Holds h' f a len l := H.keep e.1 fun b _ _ hb => e.2 b hb
theorem Holds.new (H : Holds h f a len l) (b : Blk) (hc : h.next < cap) : Holds h f a len l ∧ Holds (h.new b) f a len l := ⟨H, H.ext ((Ext.refl h).new b hc)⟩
/-- One without elements. -/
theorem Holds.none0 {a : Option Addr} (ha : a = none ∨ ∃ b off, a = some ⟨b, off, none⟩) : Holds h f a 0 [] := ⟨rfl, ha, .inl rfl⟩
theorem Holds.some0 {b off : Nat} : Holds h f (some ⟨b, off, none⟩) 0 [] := ⟨rfl, .inr ⟨b, off, rfl⟩, .inl rfl⟩
/-- One with elements. -/
theorem Holds.mk' {b off : Nat} {blk : Blk} (hl : l.length = len) (hb : b < h.next) (hg : h.b.get b = some blk) (hc : ∀ i x, l[i]? = some x → blk.cell (off + i) = some (f x)) : Holds h f (some ⟨b, off, none⟩) len l := ⟨hl, .inr ⟨b, off, rfl⟩, .inr ⟨b, off, blk, rfl, hb, hg, hc⟩⟩
/-- An element. -/
theorem Holds.at (H : Holds h f a len l) {i : Nat} (hi : i < len) : ∃ b off blk x, a = some ⟨b, off, none⟩ ∧ b < h.next ∧ h.b.get b = some blk ∧ l[i]? = some x ∧ blk.cell (off + i) = some (f x) := by
  obtain ⟨h1, _, rfl | ⟨b, off, blk, e1, e2, e3, e4⟩⟩ := H
  · simp at h1; omega
  · have hx : l[i]? = some (l[i]'(by omega)) := List.getElem?_eq_getElem (by omega)
    exact ⟨b, off, blk, _, e1, e2, e3, hx, e4 i _ hx⟩
/-- A value that lies in a block of its own. -/
def Box (h : AH) (b : Nat) (v : Value) : Prop := b < h.next ∧ ∃ c e o w, h.b.get b = some (.cells 1 c e o w) ∧ c.get 0 = some v
theorem Box.ext {b : Nat} {v : Value} (B : Box h b v) (x : Ext h h') : Box h' b v := by
  obtain ⟨h1, c, e, o, w, h2, h3⟩ := B
  exact ⟨Nat.lt_of_lt_of_le h1 x.1, c, e, o, w, by rw [x.2 b h1, h2], h3⟩
theorem Box.made {v : Value} {e : TypeId} {o : Nat} {w : Bool} (hc : h.next < cap) : Box (h.new (.cells 1 (Tr.nil.put 0 v) e o w)) h.next v :=
  ⟨Nat.lt_succ_self _, _, e, o, w, get_new_self hc, by rw [Tr.get_put _ _ _ _ (by decide)]; simp⟩
theorem Box.keep {b : Nat} {v : Value} (B : Box h b v) (h1 : h.next ≤ h'.next) (h2 : h'.b.get b = h.b.get b) : Box h' b v := by
  obtain ⟨g1, c, e, o, w, g2, g3⟩ := B
  exact ⟨Nat.lt_of_lt_of_le g1 h1, c, e, o, w, by rw [h2, g2], g3⟩
def vI64 (n : Int) : Value := .int .i64 n
def vB (n : Int) : Value := .int .u8 n
def vW (n : Int) : Value := .int .u32 n
def vU8 (n : Nat) : Value := .int .u8 n
def vU32 (n : Nat) : Value := .int .u32 n
end Go.Ev
attribute [go_sem] Go.Ev.vB Go.Ev.vW Go.Ev.vI64 Go.Ev.vU8 Go.Ev.vU32
end
section
/- A deterministic evaluator of the model's code over a memory of its own: slices that grow. -/
namespace Go.Ev
variable {E : Env} {ft : Tr AFunc} {c : Ctx} {s : St} {K : Out → Prop}

/-! ### append, where the walk comes to it -/
def appK (E : Env) (ft : Tr AFunc) (c : Ctx) (all : Array Oper) (dst : Option Tmp) (l : List Oper) (s : St) (K : Out → Prop) (x : Option (Value × AH)) : Prop := K (stepO E ft c all dst l (avalR s x))
def dappK (E : Env) (ft : Tr AFunc) (c : Ctx) (all : Array Oper) (o : Oper) (m : Nat) (l : List PO) (ws : List Watch) (s : St) (K : Out → Prop) (x : Option (Value × AH)) : Prop := K (dOp E ft c all o m l ws (avalR s x))
@[go_sem] theorem aBuiltin_append {ats : List TypeId} {x y : Value} {h : AH} : aBuiltin E .append ats [x, y] h = oget ats[0]? fun t => aAppend E t ats[1]? x y h := rfl
section app
variable {all : Array Oper} {dst : Option Tmp} {l : List Oper} {st : St} {o : Oper} {m : Nat} {pl : List PO} {ws : List Watch} {t : TypeId} {xt : Option TypeId} {x y : Value} {h : AH}
@[go_sem] theorem kSeq_app {b : Code} : kSeq E ft c b K (stepO E ft c all dst l (avalR st (aAppend E t xt x y h))) = appK E ft c all dst l st (kSeq E ft c b K) (aAppend E t xt x y h) := rfl
@[go_sem] theorem kBlk_app {id : Nat} : kBlk id K (stepO E ft c all dst l (avalR st (aAppend E t xt x y h))) = appK E ft c all dst l st (kBlk id K) (aAppend E t xt x y h) := rfl
@[go_sem] theorem kLoop_app {M : Nat → St → Prop} {k : Nat} : kLoop M k K (stepO E ft c all dst l (avalR st (aAppend E t xt x y h))) = appK E ft c all dst l st (kLoop M k K) (aAppend E t xt x y h) := rfl
@[go_sem] theorem kBody_app {K : CRes → Prop} {res : List ResultVar} : kBody E ft res K (stepO E ft c all dst l (avalR st (aAppend E t xt x y h))) = appK E ft c all dst l st (kBody E ft res K) (aAppend E t xt x y h) := rfl
@[go_sem] theorem kMid_app {M : St → Prop} : kMid M K (stepO E ft c all dst l (avalR st (aAppend E t xt x y h))) = appK E ft c all dst l st (kMid M K) (aAppend E t xt x y h) := rfl
@[go_sem] theorem kMid_dapp {M : St → Prop} : kMid M K (dOp E ft c all o m pl ws (avalR st (aAppend E t xt x y h))) = dappK E ft c all o m pl ws st (kMid M K) (aAppend E t xt x y h) := rfl
@[go_sem] theorem kSeq_dapp {b : Code} : kSeq E ft c b K (dOp E ft c all o m pl ws (avalR st (aAppend E t xt x y h))) = dappK E ft c all o m pl ws st (kSeq E ft c b K) (aAppend E t xt x y h) := rfl
@[go_sem] theorem kBlk_dapp {id : Nat} : kBlk id K (dOp E ft c all o m pl ws (avalR st (aAppend E t xt x y h))) = dappK E ft c all o m pl ws st (kBlk id K) (aAppend E t xt x y h) := rfl
@[go_sem] theorem kLoop_dapp {M : Nat → St → Prop} {k : Nat} : kLoop M k K (dOp E ft c all o m pl ws (avalR st (aAppend E t xt x y h))) = dappK E ft c all o m pl ws st (kLoop M k K) (aAppend E t xt x y h) := rfl
@[go_sem ↓] theorem appK_some {r : Tr Value} {n : Nat} {d : List Deferred} {h h' : AH} {rc : Bool} {v : Value} : appK E ft c all dst l ⟨r, n, d, h, rc⟩ K (some (v, h')) = K (stepO E ft c all dst l (.val v ⟨r, n, d, h', rc⟩)) := rfl
@[go_sem ↓] theorem dappK_some {r : Tr Value} {n : Nat} {d : List Deferred} {h h' : AH} {rc : Bool} {v : Value} : dappK E ft c all o m pl ws ⟨r, n, d, h, rc⟩ K (some (v, h')) = K (dOp E ft c all o m pl ws (.val v ⟨r, n, d, h', rc⟩)) := rfl
@[congr] theorem appK_cg {x y : Option (Value × AH)} (e : x = y) : appK E ft c all dst l s K x = appK E ft c all dst l s K y := by rw [e]
@[congr] theorem dappK_cg {x y : Option (Value × AH)} (e : x = y) : dappK E ft c all o m pl ws s K x = dappK E ft c all o m pl ws s K y := by rw [e]
end app

/-! ### A slice that nobody else leads to -/
/-- Its cells lie at a block's start, in a block of lo or behind; n elements of sz cells, of type e. -/
def OwnC (h : AH) (e sz lo : Nat) (a : Option Addr) (n : Nat) (cs : List Value) : Prop :=
  cs.length = n * sz ∧ ((a = none ∧ n = 0) ∨ ∃ b c o w, a = some ⟨b, 0, none⟩ ∧ lo ≤ b ∧ b < h.next ∧ h.b.get b = some (.cells (n * sz) c e o w) ∧ (o = 0 ∨ o = sz) ∧ ∀ i x, cs[i]? = some x → c.get i = some x)
variable {h h' : AH} {e sz lo : Nat} {a : Option Addr} {n : Nat} {cs : List Value}
theorem OwnC.nil (h : AH) (e sz lo : Nat) : OwnC h e sz lo none 0 [] := ⟨by simp, .inl ⟨rfl, rfl⟩⟩
theorem OwnC.keep (O : OwnC h e sz lo a n cs) (h1 : h.next ≤ h'.next) (h2 : ∀ b, a = some ⟨b, 0, none⟩ → h'.b.get b = h.b.get b) : OwnC h' e sz lo a n cs := by
  obtain ⟨l1, l2 | ⟨b, c, o, w, e1, e3, e4, e5, e6⟩⟩ := O
  · exact ⟨l1, .inl l2⟩
  · exact ⟨l1, .inr ⟨b, c, o, w, e1, e3, Nat.lt_of_lt_of_le e4 h1, by rw [h2 b e1, e5], e6⟩⟩
theorem OwnC.ext (O : OwnC h e sz lo a n cs) (x : Ext h h') : OwnC h' e sz lo a n cs := by
  obtain ⟨l1, l2 | ⟨b, c, o, w, e1, e3, e4, e5, e6⟩⟩ := O
  · exact ⟨l1, .inl l2⟩
  · exact ⟨l1, .inr ⟨b, c, o, w, e1, e3, Nat.lt_of_lt_of_le e4 x.1, by rw [x.2 b e4, e5], e6⟩⟩
/-- Blocks at lo or behind it alone may hold it. -/
theorem OwnC.off (O : OwnC h e sz lo a n cs) {b : Nat} (hb : b < lo) : ∀ x, a = some ⟨x, 0, none⟩ → x ≠ b := by
  obtain ⟨_, ⟨e1, _⟩ | ⟨b', c, o, w, e1, e3, e4, e5, e6⟩⟩ := O
  · intro x hx; rw [e1] at hx; cases hx
  · intro x hx; rw [e1] at hx; cases hx; omega
theorem OwnC.upd (O : OwnC h e sz lo a n cs) {b : Nat} (hb : b < lo) (hl : lo ≤ h.next) (hc : h.next < cap) (x : Blk) : OwnC (h.upd b x) e sz lo a n cs :=
  O.keep (Nat.le_refl _) fun y hy => get_upd_ne (O.off hb y hy) (by omega)
theorem OwnC.low {lo' : Nat} (O : OwnC h e sz lo a n cs) (hl : lo' ≤ lo) : OwnC h e sz lo' a n cs := by
  obtain ⟨l1, l2 | ⟨b, c, o, w, e1, e3, e4⟩⟩ := O
  · exact ⟨l1, .inl l2⟩
  · exact ⟨l1, .inr ⟨b, c, o, w, e1, by omega, e4⟩⟩
/-- A block that has just been made. -/
theorem OwnC.fresh {k : Nat} {w : Bool} (hl : cs.length = n * sz) (hlo : lo ≤ h.next) (hc : h.next < cap) (hs : n * sz < cap) (hk : k = n * sz) : OwnC (h.new (.cells k (putCells .nil 0 cs) e 0 w)) e sz lo (some ⟨h.next, 0, none⟩) n cs := by
  subst hk
  refine ⟨hl, .inr ⟨h.next, putCells .nil 0 cs, 0, w, rfl, hlo, Nat.lt_succ_self _, get_new_self hc, .inl rfl, fun i x hx => ?_⟩⟩
  have hi : i < cs.length := by
    by_cases hi : i < cs.length
    · exact hi
    · rw [List.getElem?_eq_none (by omega)] at hx; cases hx
  rw [putCells_get cs .nil 0 i (by omega), if_pos (by omega)]; simpa using hx

/-- What is known of a type of slices and its elements. -/
structure SliceT (E : Env) (st e sz by' : Nat) (z : List Value) : Prop where
  i : ∃ i, tInfo E st = some i ∧ i.und = .slice e
  ei : ∃ ei, tInfo E e = some ei ∧ ei.size = sz ∧ ei.bytes = by' ∧ ∃ v, ei.zero = some v ∧ v.cells.toList = z
  pos : 0 < sz
  zl : z.length = sz
  zp : z.all plainCell = true

/-- What is appended to it. -/
theorem append_own {st by' : Nat} {z : List Value} (T : SliceT E st e sz by' z) {xt : Option TypeId} {x : Value} {k : Nat} {vs : List Value} (hn : ∀ ei, tInfo E e = some ei → ei.size = sz → ei.bytes = by' → (∃ v, ei.zero = some v ∧ v.cells.toList = z) → aNew E ei xt x h = some (k, vs))
    (hk : 0 < k) (hv : vs.length = k * sz) (hp : vs.all plainCell = true) (b1 : (n + k) * sz < 4294967296) (b2 : (n + k) * by' < 4294967296) (hc : h.next < cap) (O : OwnC h e sz lo a n cs) (hlo : lo ≤ h.next) :
    ∃ h', aAppend E st xt (.slice a n n) x h = some (.slice (some ⟨h.next, 0, none⟩) (n + k) (n + k), h') ∧ OwnC h' e sz lo (some ⟨h.next, 0, none⟩) (n + k) (cs ++ vs) ∧ h'.next = h.next + 1 ∧ ∀ i, i < h.next → (∀ b, a = some ⟨b, 0, none⟩ → i ≠ b) → h'.b.get i = h.b.get i := by
  obtain ⟨i, hi, hu⟩ := T.i
  obtain ⟨ei, he, hs, hb, v, hz, hzc⟩ := T.ei
  have hN := hn ei he hs hb ⟨v, hz, hzc⟩
  have pos := T.pos
  have e1 : Nat.ble (n + k) n = false := by
    cases hx : Nat.ble (n + k) n with
    | false => rfl
    | true => have := of_ble hx; omega
  have t1 : Nat.blt 0 ei.size = true := Nat.ble_eq_true_of_le (by omega)
  have t2 : Nat.blt ((n + k) * ei.size) 4294967296 = true := Nat.ble_eq_true_of_le (by rw [hs]; exact b1)
  have t3 : Nat.blt ((n + k) * ei.bytes) 4294967296 = true := Nat.ble_eq_true_of_le (by rw [hb]; exact b2)
  have t4 : vs.length.beq (k * ei.size) = true := by rw [hs]; exact beqT hv
  have t5 : Nat.blt h.next cap = true := Nat.ble_eq_true_of_le hc
  have t6 : v.cells.toList.length.beq ei.size = true := by rw [hs, hzc]; exact beqT T.zl
  have t7 : v.cells.toList.all plainCell = true := by rw [hzc]; exact T.zp
  have hcap : ∀ x, x < 4294967296 → x < cap := fun x hx => Nat.lt_trans hx (by decide)
  unfold aAppend
  simp only [hi, hu, oget, he, hN, e1, cond_false, hz, t1, t2, t3, t4, t5, t6, t7, hp, Bool.and_self, cond_true]
  obtain ⟨hl, ⟨rfl, rfl⟩ | ⟨b, c, o, w, rfl, hlb, hbn, hget, ho, hcs⟩⟩ := O
  · simp only [Nat.zero_mul] at hl
    have hcs : cs = [] := List.eq_nil_of_length_eq_zero hl
    subst hcs
    have q1 : Nat.beq 0 0 = true := rfl
    simp only [q1, Bool.and_self, cond_true, hs, Nat.zero_add, List.nil_append]
    refine ⟨_, rfl, ⟨hv, .inr ⟨h.next, putCells .nil 0 vs, sz, true, rfl, hlo, Nat.lt_succ_self _, get_new_self hc, .inr rfl, fun i x hx => ?_⟩⟩, rfl, fun i hi _ => get_new_ne hi hc⟩
    have hiv : i < vs.length := by
      by_cases hi : i < vs.length
      · exact hi
      · rw [List.getElem?_eq_none (by omega)] at hx; cases hx
    rw [putCells_get vs .nil 0 i (by rw [hv]; have := hcap _ b1; simp only [Nat.zero_add] at this ⊢; omega), if_pos (by omega)]
    simpa using hx
  · have q1 : Nat.beq 0 0 = true := rfl
    have q2 : Nat.ble (0 + n * ei.size) (n * sz) = true := Nat.ble_eq_true_of_le (by rw [hs]; omega)
    simp only [hget, q1, q2, cond_true]
    have cells : ∀ i x, (cs ++ vs)[i]? = some x → (putCells c (n * ei.size) vs).get i = some x := by
      intro i x hx
      rw [hs, putCells_get vs c (n * sz) i (by rw [hv]; have := hcap _ b1; rw [← Nat.add_mul]; omega)]
      by_cases hi : i < cs.length
      · rw [if_neg (by omega)]
        rw [List.getElem?_append_left hi] at hx
        exact hcs i x hx
      · rw [List.getElem?_append_right (by omega)] at hx
        have hi2 : i - cs.length < vs.length := by
          by_cases hi2 : i - cs.length < vs.length
          · exact hi2
          · rw [List.getElem?_eq_none (by omega)] at hx; cases hx
        rw [if_pos (by omega), ← hl]; exact hx
    have hlen : (cs ++ vs).length = (n + k) * sz := by rw [List.length_append, hl, hv, Nat.add_mul]
    rcases ho with rfl | rfl
    · simp only [q1, cond_true]
      exact ⟨_, rfl, ⟨hlen, .inr ⟨h.next, _, ei.size, w, rfl, hlo, Nat.lt_succ_self _, by rw [get_new_self hc, hs], .inr hs, cells⟩⟩, rfl, fun i hi _ => get_new_ne hi hc⟩
    · have q3 : Nat.beq o 0 = false := beqF (by omega)
      have q4 : Nat.beq o ei.size = true := by rw [hs]; exact beqT rfl
      have q5 : Nat.beq (0 + n * ei.size) (n * o) = true := by rw [hs, Nat.zero_add]; exact beqT rfl
      have q6 : Nat.beq e e = true := beqT rfl
      simp only [q3, q4, q5, q6, cond_false, Bool.and_self, cond_true]
      have hc' : (h.upd b .dead).next < cap := hc
      refine ⟨_, rfl, ⟨hlen, .inr ⟨h.next, _, ei.size, w, rfl, hlo, Nat.lt_succ_self _, ?_, .inr hs, cells⟩⟩, rfl, fun i hi hne => ?_⟩
      · have := get_new_self (h := h.upd b .dead) (b := Blk.cells ((n + k) * ei.size) (putCells c (n * ei.size) vs) e ei.size w) hc'
        rw [hs] at this ⊢
        exact this
      · have := get_new_ne (h := h.upd b .dead) (b := Blk.cells ((n + k) * ei.size) (putCells c (n * ei.size) vs) e ei.size w) (i := i) hi hc'
        rw [this, get_upd_ne (hne b rfl) (by omega)]

theorem aNew_of {st by' : Nat} {z : List Value} (T : SliceT E st e sz by' z) {x : Value} {k : Nat} {vs : List Value} (hl : lenV x = some k) (hf : aFirst sz k x h = some vs) (ei : TInfo) (hs : ei.size = sz) : aNew E ei (some st) x h = some (k, vs) := by
  obtain ⟨i, hi, hu⟩ := T.i
  obtain ⟨u, s1, s2, s3, s4⟩ := i
  simp only at hu
  subst hu
  unfold aNew
  cases x <;> simp only [lenV] at hl <;> try cases hl
  all_goals simp only [Option.bind_some, hi, lenV, oget, hs, hf]

/-- 'append(s, x..)'. -/
theorem app_cps {K : Option (Value × AH) → Prop} {st by' : Nat} {z : List Value} (T : SliceT E st e sz by' z) {x : Value} {k : Nat} {vs : List Value} (hl : lenV x = some k) (hf : aFirst sz k x h = some vs)
    (hk : 0 < k) (hv : vs.length = k * sz) (hp : vs.all plainCell = true) (b1 : (n + k) * sz < 4294967296) (b2 : (n + k) * by' < 4294967296) (hc : h.next < cap) (O : OwnC h e sz lo a n cs) (hlo : lo ≤ h.next)
    (hK : ∀ h', OwnC h' e sz lo (some ⟨h.next, 0, none⟩) (n + k) (cs ++ vs) → h'.next = h.next + 1 → (∀ i, i < h.next → (∀ b, a = some ⟨b, 0, none⟩ → i ≠ b) → h'.b.get i = h.b.get i) → K (some (.slice (some ⟨h.next, 0, none⟩) (n + k) (n + k), h'))) :
    K (aAppend E st (some st) (.slice a n n) x h) := by
  obtain ⟨h', h1, h2, h3, h4⟩ := append_own T (fun ei _ hs _ _ => aNew_of T hl hf ei hs) hk hv hp b1 b2 hc O hlo
  rw [h1]
  exact hK h' h2 h3 h4
@[go_sem] theorem aFirst_none {z n l cp : Nat} {h : AH} : aFirst z n (.slice none l cp) h = some [] := rfl
@[go_sem] theorem aFirst_some {z n l cp b off : Nat} {h : AH} : aFirst z n (.slice (some ⟨b, off, none⟩) l cp) h = bif (n * z).beq 0 then some [] else oget (h.b.get b) fun blk => getCells blk.cell off (n * z) := rfl
/-- A slice that nobody else leads to, element by element. -/
def Own {α : Type} (h : AH) (f : α → Value) (e lo : Nat) (a : Option Addr) (l : List α) : Prop := OwnC h e 1 lo a l.length (l.map f)
theorem Own.ext {α : Type} {f : α → Value} {l : List α} (O : Own h f e lo a l) (x : Ext h h') : Own h' f e lo a l := OwnC.ext O x
theorem Own.upd {α : Type} {f : α → Value} {l : List α} (O : Own h f e lo a l) {b : Nat} (hb : b < lo) (hl : lo ≤ h.next) (hc : h.next < cap) (x : Blk) : Own (h.upd b x) f e lo a l := OwnC.upd O hb hl hc x
theorem Own.off {α : Type} {f : α → Value} {l : List α} (O : Own h f e lo a l) {b : Nat} (hb : b < lo) : ∀ x, a = some ⟨x, 0, none⟩ → b ≠ x := fun x hx h => OwnC.off O hb x hx h.symm
theorem Own.low {α : Type} {f : α → Value} {l : List α} {lo' : Nat} (O : Own h f e lo a l) (hl : lo' ≤ lo) : Own h f e lo' a l := OwnC.low O hl
theorem Own.keep {α : Type} {f : α → Value} {l : List α} (O : Own h f e lo a l) (h1 : h.next ≤ h'.next) (h2 : ∀ b, a = some ⟨b, 0, none⟩ → h'.b.get b = h.b.get b) : Own h' f e lo a l := OwnC.keep O h1 h2
theorem Own.holds {α : Type} {f : α → Value} {l : List α} {n : Nat} (O : Own h f e lo a l) (hn : l.length = n) : Holds h f a n l := by
  subst hn
  obtain ⟨l1, ⟨rfl, l2⟩ | ⟨b, c, o, w, rfl, e3, e4, e5, e6, e7⟩⟩ := O
  · exact ⟨rfl, .inl rfl, .inl (List.eq_nil_of_length_eq_zero l2)⟩
  · refine Holds.mk' rfl e4 e5 fun i x hx => ?_
    have hi : i < l.length := by
      by_cases hi : i < l.length
      · exact hi
      · rw [List.getElem?_eq_none (by omega)] at hx; cases hx
    rw [cell_cells, if_pos (by omega), Nat.zero_add]
    exact e7 i _ (by rw [List.getElem?_map, hx]; rfl)
/-- 'append(s, x)' of one small thing, that lies in a block of its own. -/
theorem app_one {α : Type} {f : α → Value} {l : List α} {K : Option (Value × AH) → Prop} {st by' : Nat} {z : List Value} (T : SliceT E st e 1 by' z) {bx : Nat} {cx : Tr Value} {ex ox : Nat} {wx : Bool} {x : α}
    (hb : h.b.get bx = some (.cells 1 cx ex ox wx)) (hx : cx.get 0 = some (f x)) (hp : plainCell (f x) = true) (hl : l.length = n) (b1 : n + 1 < 4294967296) (b2 : (n + 1) * by' < 4294967296) (hc : h.next < cap) (O : Own h f e lo a l) (hlo : lo ≤ h.next)
    (hK : ∀ h', Own h' f e lo (some ⟨h.next, 0, none⟩) (l ++ [x]) → h'.next = h.next + 1 → (∀ i, i < h.next → (∀ b, a = some ⟨b, 0, none⟩ → i ≠ b) → h'.b.get i = h.b.get i) → K (some (.slice (some ⟨h.next, 0, none⟩) (n + 1) (n + 1), h'))) :
    K (aAppend E st (some st) (.slice a n n) (.slice (some ⟨bx, 0, none⟩) 1 1) h) := by
  subst hl
  refine app_cps T (k := 1) (vs := [f x]) (cs := l.map f) rfl ?_ (by omega) rfl (by simp [hp]) (by omega) b2 hc O hlo fun h' O' hn hfr => ?_
  · rw [aFirst_some, hb]
    simp [oget, getCells, Blk.cell, Nat.blt, hx]
    rfl
  · refine hK h' ?_ hn hfr
    unfold Own
    rw [List.length_append, List.map_append]
    exact O'
theorem OwnC.veq (O : OwnC h e sz lo a n cs) (x y : Nat) : veq (.slice a x y) (.slice a x y) = true := by
  obtain ⟨_, ⟨rfl, _⟩ | ⟨b, c, o, w, rfl, _⟩⟩ := O
  · exact veq_slice0
  · exact veq_slice
theorem Own.veq {α : Type} {f : α → Value} {l : List α} (O : Own h f e lo a l) (x y : Nat) : veq (.slice a x y) (.slice a x y) = true := OwnC.veq O x y
theorem Holds.veq {α : Type} {f : α → Value} {l : List α} (O : Holds h f a n l) (x y : Nat) : veq (.slice a x y) (.slice a x y) = true := by
  rcases O.2.1 with rfl | ⟨b, off, rfl⟩
  · exact veq_slice0
  · exact veq_slice
/-- The same, where the block has just been made. -/
theorem app_new {α : Type} {f : α → Value} {l : List α} {K : Option (Value × AH) → Prop} {st by' : Nat} {z : List Value} (T : SliceT E st e 1 by' z) {ex ox : Nat} {wx : Bool} {x : α} {v : Value}
    (hv : v = f x) (hp : plainCell (f x) = true) (hl : l.length = n) (b1 : n + 1 < 4294967296) (b2 : (n + 1) * by' < 4294967296) (hc : h.next + 1 < 1099511627776) (O : Own h f e lo a l) (hlo : lo ≤ h.next)
    (hK : ∀ h', Own h' f e lo (some ⟨h.next + 1, 0, none⟩) (l ++ [x]) → h'.next = h.next + 2 → (∀ i, i < h.next → (∀ b, a = some ⟨b, 0, none⟩ → i ≠ b) → h'.b.get i = h.b.get i) → K (some (.slice (some ⟨h.next + 1, 0, none⟩) (n + 1) (n + 1), h'))) :
    K (aAppend E st (some st) (.slice a n n) (.slice (some ⟨h.next, 0, none⟩) 1 1) (h.new (.cells 1 (Tr.nil.put 0 v) ex ox wx))) := by
  subst hv
  have hc0 : h.next < cap := by show _ < 1099511627776; omega
  refine app_one T (get_new_self hc0) (by rw [Tr.get_put _ _ _ _ (by decide)]; simp) hp hl b1 b2 (by show _ < 1099511627776; rw [new_next']; exact hc) (O.ext ((Ext.refl h).new _ hc0)) (by rw [new_next']; omega) fun h' O' hn hfr => ?_
  rw [new_next'] at O' hn hfr ⊢
  exact hK h' O' hn fun i hi hne => by rw [hfr i (by omega) hne, get_new_ne hi hc0]
end Go.Ev
end
section
/- A deterministic evaluator of the model's code over a memory of its own: range over a function. -/
namespace Go.Ev
variable {E : Env} {ft : Tr AFunc} {c : Ctx} {s : St} {K : Out → Prop}

/-- What comes of a loop over a function, behind the call of that function. -/
def kRf (L n : Nat) (r : Tr Value) (d : List Deferred) (rc : Bool) (K : Out → Prop) : CRes → Prop
  | .ret _ h _ => K (loopOut L ⟨r, n, d, h, rc⟩)
  | .pan v h => K (.pan v ⟨r, n, d, h, rc⟩)
  | .fail => K .fail
theorem W_rfunc {f : Operand} {ps : Array Tmp} {asg bo : Code} {r : Tr Value} {n : Nat} {d : List Deferred} {h : AH} {rc : Bool} {p : Option Value} :
    W E ft ⟨none, p⟩ (.rangeFunc f ps asg bo) ⟨r, n, d, h, rc⟩ K = K (oOut (evalO E.ng r f) fun fv => bif Nat.blt (h.next + 1) cap then
      (match callV (CL E ft) fv [.func (.yield (h.next + 1)) ⟨[]⟩ ⟨[]⟩] ⟨r, n, { target := .collected h.next, args := ⟨[]⟩ } :: d, (h.new (.deferred (some []))).new (.loop .ready none 0 n r ps.toList asg bo h.next), rc⟩ with
          | .fail => .fail
          | .pan v s => .pan v s
          | .val _ s' => loopOut (h.next + 1) s') else .fail) := by
  unfold W
  show K (evL E ft _ (.rfunc f ps.toList asg bo) _) = _
  rw [evL_rfunc] <;> rfl
theorem W_rf {f : Operand} {ps : Array Tmp} {asg bo : Code} {r : Tr Value} {n : Nat} {d : List Deferred} {h : AH} {rc : Bool} {p : Option Value} {g : FuncId} {first cp : List Value} (hf : evalO E.ng r f = some (.func (.func g) ⟨first⟩ ⟨cp⟩)) (hn : h.next + 1 < cap)
    (hk : kRf (h.next + 1) n r ({ target := .collected h.next, args := ⟨[]⟩ } :: d) rc K (CL E ft (.fn g) (first ++ [.func (.yield (h.next + 1)) ⟨[]⟩ ⟨[]⟩] ++ cp) none ((h.new (.deferred (some []))).new (.loop .ready none 0 n r ps.toList asg bo h.next)))) :
    W E ft ⟨none, p⟩ (.rangeFunc f ps asg bo) ⟨r, n, d, h, rc⟩ K := by
  rw [W_rfunc, hf]
  have hb : Nat.blt (h.next + 1) cap = true := Nat.ble_eq_true_of_le hn
  simp only [oOut, hb, cond_true, callV]
  cases hx : CL E ft (.fn g) (first ++ [.func (.yield (h.next + 1)) ⟨[]⟩ ⟨[]⟩] ++ cp) none ((h.new (.deferred (some []))).new (.loop .ready none 0 n r ps.toList asg bo h.next)) <;> rw [hx] at hk <;> exact hk

/-- The same, with a name for the loop's own block. -/
theorem W_rfB {f : Operand} {ps : Array Tmp} {asg bo : Code} {r : Tr Value} {n : Nat} {d : List Deferred} {h : AH} {rc : Bool} {p : Option Value} {g : FuncId} {first cp : List Value} (hf : evalO E.ng r f = some (.func (.func g) ⟨first⟩ ⟨cp⟩)) (hn : h.next + 1 < cap)
    (hk : ∀ B, B = .loop .ready none 0 n r ps.toList asg bo h.next → kRf (h.next + 1) n r ({ target := .collected h.next, args := ⟨[]⟩ } :: d) rc K (CL E ft (.fn g) (first ++ [.func (.yield (h.next + 1)) ⟨[]⟩ ⟨[]⟩] ++ cp) none ((h.new (.deferred (some []))).new B))) :
    W E ft ⟨none, p⟩ (.rangeFunc f ps asg bo) ⟨r, n, d, h, rc⟩ K := W_rf hf hn (hk _ rfl)
theorem W_regs (Q : Tr Value → Prop) {x : Code} {r : Tr Value} {n : Nat} {d : List Deferred} {h : AH} {rc : Bool} (hq : Q r) (hk : ∀ r, Q r → W E ft c x ⟨r, n, d, h, rc⟩ K) : W E ft c x ⟨r, n, d, h, rc⟩ K := hk r hq
theorem W_all (Q : Tr Value → AH → Prop) {x : Code} {r : Tr Value} {n : Nat} {d : List Deferred} {h : AH} {rc : Bool} (hq : Q r h) (hk : ∀ r h, Q r h → W E ft c x ⟨r, n, d, h, rc⟩ K) : W E ft c x ⟨r, n, d, h, rc⟩ K := hk r h hq
/-- The loop's own block, behind it. -/
def loopOutB (L : Nat) (s : St) : Option Blk → Out
  | some (.loop st pend fn n r ps asg bo de) => match st with
    | .busy => .fail
    | _ => match pend with
      | none => .nor { s with h := s.h.upd L (.loop .exhausted none fn n r ps asg bo de) }
      | some .ret => .ret { s with h := s.h.upd L (.loop .exhausted (some .ret) fn n r ps asg bo de) }
      | some (.exit i) => .exit i { s with h := s.h.upd L (.loop .exhausted (some (.exit i)) fn n r ps asg bo de) }
      | _ => .fail
  | _ => .fail
@[go_sem ↓] theorem kRf_ret {L n : Nat} {r : Tr Value} {d : List Deferred} {rc rc' : Bool} {v : Value} {h : AH} : kRf L n r d rc K (.ret v h rc') = K (loopOutB L ⟨r, n, d, h, rc⟩ (h.b.get L)) := by
  show K _ = K _
  congr 1
  unfold loopOut loopOutB
  cases hx : h.b.get L with
  | none => rfl
  | some b =>
    cases b <;> try rfl
    rename_i st pend fn n r ps asg bo de
    cases st <;> cases pend <;> try rfl
    all_goals rename_i x; cases x <;> rfl
@[congr] theorem loopOutB_cg {L : Nat} {x y : Option Blk} (e : x = y) : loopOutB L s x = loopOutB L s y := by rw [e]
@[go_sem] theorem loopOutB_ready {L : Nat} {r0 : Tr Value} {n0 : Nat} {d : List Deferred} {h : AH} {rc : Bool} {fn : FuncId} {n : Nat} {r : Tr Value} {ps : List Tmp} {asg bo : Code} {de : Nat} :
    loopOutB L ⟨r0, n0, d, h, rc⟩ (some (.loop .ready none fn n r ps asg bo de)) = .nor ⟨r0, n0, d, h.upd L (.loop .exhausted none fn n r ps asg bo de), rc⟩ := rfl
@[go_sem] theorem loopOutB_ret {L : Nat} {r0 : Tr Value} {n0 : Nat} {d : List Deferred} {h : AH} {rc : Bool} {fn : FuncId} {n : Nat} {r : Tr Value} {ps : List Tmp} {asg bo : Code} {de : Nat} :
    loopOutB L ⟨r0, n0, d, h, rc⟩ (some (.loop .done (some .ret) fn n r ps asg bo de)) = .ret ⟨r0, n0, d, h.upd L (.loop .exhausted (some .ret) fn n r ps asg bo de), rc⟩ := rfl
@[go_sem] theorem loopOutB_exit {L : Nat} {r0 : Tr Value} {n0 : Nat} {d : List Deferred} {h : AH} {rc : Bool} {fn : FuncId} {n i : Nat} {r : Tr Value} {ps : List Tmp} {asg bo : Code} {de : Nat} :
    loopOutB L ⟨r0, n0, d, h, rc⟩ (some (.loop .done (some (.exit i)) fn n r ps asg bo de)) = .exit i ⟨r0, n0, d, h.upd L (.loop .exhausted (some (.exit i)) fn n r ps asg bo de), rc⟩ := rfl

/-! ### A round -/
def kEnd (L : Nat) (K : CRes → Prop) (o : Out) : Prop := K (endOf L o)
def kAsg (E : Env) (ft : Tr AFunc) (L : Nat) (bo : Code) (K : CRes → Prop) : Out → Prop
  | .nor s => ∃ pend fn m r ps asg de, s.h.b.get L = some (.loop .ready pend fn m r ps asg bo de) ∧ W E ft ⟨some L, none⟩ bo { s with h := s.h.upd L (.loop .busy pend fn m r ps asg bo de) } (kEnd L K)
  | _ => False
theorem W_yield {L : Nat} {args : List Value} {pan : Option Value} {h : AH} {K : CRes → Prop} {pend : Option Code} {fn : FuncId} {m : Nat} {r : Tr Value} {ps : List Tmp} {asg bo : Code} {de : Nat} (hb : h.b.get L = some (.loop .ready pend fn m r ps asg bo de)) (hm : m < cap) {r2 : Tr Value} (hp : putAll m r ps args = some r2)
    (ha : W E ft ⟨some L, none⟩ asg ⟨r2, m, [], h, false⟩ (kAsg E ft L bo K)) : K (CL E ft (.yield L) args pan h) := by
  unfold W at ha
  cases hx : evC E ft ⟨some L, none⟩ asg ⟨r2, m, [], h, false⟩ with
  | nor s =>
    rw [hx] at ha
    obtain ⟨pend1, fn1, m1, r1, ps1, asg1, de1, hb1, hw⟩ := ha
    rw [CL_yield hb hm hp hx hb1]
    unfold W at hw
    exact hw
  | _ => rw [hx] at ha; exact ha.elim
def kRound (L : Nat) (jump : Option Code) (h : AH) (K : CRes → Prop) : Option Blk → Prop
  | some (.loop _ _ fn n r ps asg bo de) => K (.ret (.bool jump.isNone) (h.upd L (.loop (if jump.isNone then .ready else .done) jump fn n r ps asg bo de)) false)
  | _ => K .fail
@[congr] theorem kRound_cg {L : Nat} {jump : Option Code} {h : AH} {K : CRes → Prop} {x y : Option Blk} (e : x = y) : kRound L jump h K x = kRound L jump h K y := by rw [e]
theorem roundEnd_k {L : Nat} {jump : Option Code} {h : AH} {K : CRes → Prop} : K (roundEnd L jump h) = kRound L jump h K (h.b.get L) := by
  unfold roundEnd kRound
  cases h.b.get L with
  | none => rfl
  | some b => cases b <;> rfl
@[go_sem ↓] theorem kEnd_nor {L : Nat} {K : CRes → Prop} {r : Tr Value} {n : Nat} {h : AH} {rc : Bool} : kEnd L K (.nor ⟨r, n, [], h, rc⟩) = kRound L none h K (h.b.get L) := roundEnd_k
@[go_sem ↓] theorem kEnd_ret {L : Nat} {K : CRes → Prop} {r : Tr Value} {n : Nat} {h : AH} {rc : Bool} : kEnd L K (.ret ⟨r, n, [], h, rc⟩) = kRound L (some .ret) h K (h.b.get L) := roundEnd_k
@[go_sem ↓] theorem kEnd_exit {L i : Nat} {K : CRes → Prop} {r : Tr Value} {n : Nat} {h : AH} {rc : Bool} : kEnd L K (.exit i ⟨r, n, [], h, rc⟩) = kRound L (some (.exit i)) h K (h.b.get L) := roundEnd_k
@[go_sem ↓] theorem kEnd_pan {L : Nat} {K : CRes → Prop} {r : Tr Value} {n : Nat} {h : AH} {rc : Bool} {v : Value} : kEnd L K (.pan v ⟨r, n, [], h, rc⟩) = K (.pan v h) := rfl
@[go_sem ↓] theorem kRound_none {L : Nat} {h : AH} {K : CRes → Prop} {st : LoopState} {pend : Option Code} {fn : FuncId} {n : Nat} {r : Tr Value} {ps : List Tmp} {asg bo : Code} {de : Nat} : kRound L none h K (some (.loop st pend fn n r ps asg bo de)) = K (.ret (.bool true) (h.upd L (.loop .ready none fn n r ps asg bo de)) false) := rfl
@[go_sem ↓] theorem kRound_some {L : Nat} {h : AH} {K : CRes → Prop} {st : LoopState} {j : Code} {pend : Option Code} {fn : FuncId} {n : Nat} {r : Tr Value} {ps : List Tmp} {asg bo : Code} {de : Nat} : kRound L (some j) h K (some (.loop st pend fn n r ps asg bo de)) = K (.ret (.bool false) (h.upd L (.loop .done (some j) fn n r ps asg bo de)) false) := rfl
@[congr] theorem kEnd_cg {L : Nat} {K : CRes → Prop} {x y : Out} (e : x = y) : kEnd L K x = kEnd L K y := by rw [e]
section calls
variable {all : Array Oper} {dst : Option Tmp} {l : List Oper} {st : St} {x : CRes} {o : Oper} {m : Nat} {pl : List PO} {ws : List Watch} {L : Nat} {K : CRes → Prop} {t : TypeId} {xt : Option TypeId} {u v : Value} {h : AH}
@[go_sem] theorem kEnd_call : kEnd L K (stepO E ft c all dst l (callR st x)) = callK E ft c all dst l st (kEnd L K) x := rfl
@[go_sem] theorem kEnd_dcall : kEnd L K (dOp E ft c all o m pl ws (callR st x)) = dcallK E ft c all o m pl ws st (kEnd L K) x := rfl
@[go_sem] theorem kEnd_app : kEnd L K (stepO E ft c all dst l (avalR st (aAppend E t xt u v h))) = appK E ft c all dst l st (kEnd L K) (aAppend E t xt u v h) := rfl
end calls

/-! ### A function's end behind a loop over a function -/
def kColl (E : Env) (ft : Tr AFunc) (res : List ResultVar) (K : CRes → Prop) (b : Nat) (s : St) : Option Blk → Prop
  | some (.deferred (some [])) => kBody E ft res K (.ret { s with h := s.h.upd b (.deferred none) })
  | _ => K .fail
@[congr] theorem kColl_cg {res : List ResultVar} {K : CRes → Prop} {b : Nat} {x y : Option Blk} (e : x = y) : kColl E ft res K b s x = kColl E ft res K b s y := by rw [e]
@[go_sem ↓] theorem kColl_some {res : List ResultVar} {K : CRes → Prop} {b : Nat} {r : Tr Value} {n : Nat} {d : List Deferred} {h : AH} {rc : Bool} : kColl E ft res K b ⟨r, n, d, h, rc⟩ (some (.deferred (some []))) = kBody E ft res K (.ret ⟨r, n, d, h.upd b (.deferred none), rc⟩) := rfl
@[go_sem ↓] theorem kBody_coll {res : List ResultVar} {K : CRes → Prop} {b : Nat} {a : Array Value} {r : Tr Value} {n : Nat} {d : List Deferred} {h : AH} {rc : Bool} :
    kBody E ft res K (.ret ⟨r, n, ⟨.collected b, a⟩ :: d, h, rc⟩) = kColl E ft res K b ⟨r, n, d, h, rc⟩ (h.b.get b) := by
  unfold kBody bodyL
  simp only [leaveL_cons]
  unfold kColl
  cases h.b.get b with
  | none => rfl
  | some x => cases x <;> try rfl
              rename_i ds; cases ds <;> try rfl
              rename_i l; cases l <;> rfl
@[go_sem ↓] theorem kBody_coll' {res : List ResultVar} {K : CRes → Prop} {b : Nat} {a : Array Value} {r : Tr Value} {n : Nat} {d : List Deferred} {h : AH} {rc : Bool} :
    kBody E ft res K (.nor ⟨r, n, ⟨.collected b, a⟩ :: d, h, rc⟩) = kColl E ft res K b ⟨r, n, d, h, rc⟩ (h.b.get b) := kBody_coll
attribute [go_sem] putAll
end Go.Ev
end
section
/- A deterministic evaluator of the model's code over a memory of its own: parts of slices. -/
namespace Go.Ev
variable {E : Env} {ft : Tr AFunc} {c : Ctx} {s : St} {K : Out → Prop}
section
variable {all : Array Oper} {dst : Option Tmp} {l : List Oper} {st : St} {t : TypeId} {x : Value} {lo hi : Option Value} {h : AH}
@[go_sem] theorem kSeq_slc {b : Code} : kSeq E ft c b K (stepO E ft c all dst l (avalR st (aSlice E t x lo hi h))) = appK E ft c all dst l st (kSeq E ft c b K) (aSlice E t x lo hi h) := rfl
@[go_sem] theorem kBlk_slc {id : Nat} : kBlk id K (stepO E ft c all dst l (avalR st (aSlice E t x lo hi h))) = appK E ft c all dst l st (kBlk id K) (aSlice E t x lo hi h) := rfl
@[go_sem] theorem kLoop_slc {M : Nat → St → Prop} {k : Nat} : kLoop M k K (stepO E ft c all dst l (avalR st (aSlice E t x lo hi h))) = appK E ft c all dst l st (kLoop M k K) (aSlice E t x lo hi h) := rfl
@[go_sem] theorem kMid_slc {M : St → Prop} : kMid M K (stepO E ft c all dst l (avalR st (aSlice E t x lo hi h))) = appK E ft c all dst l st (kMid M K) (aSlice E t x lo hi h) := rfl
@[go_sem] theorem kBody_slc {K : CRes → Prop} {res : List ResultVar} : kBody E ft res K (stepO E ft c all dst l (avalR st (aSlice E t x lo hi h))) = appK E ft c all dst l st (kBody E ft res K) (aSlice E t x lo hi h) := rfl
end
variable {α : Type} {f : α → Value} {h h' : AH} {a : Option Addr} {len cp : Nat} {l : List α}

/-- A slice's cells as they are handed on. -/
theorem Holds.first (H : Holds h f a len l) {n : Nat} (hn : n ≤ len) (x y : Nat) : aFirst 1 n (.slice a x y) h = some ((l.take n).map f) := by
  obtain ⟨h1, g0, h2⟩ := H
  by_cases h0 : n = 0
  · subst h0
    rcases g0 with rfl | ⟨b, off, rfl⟩
    · simp [aFirst]
    · rw [aFirst_some]
      have : Nat.beq (0 * 1) 0 = true := rfl
      rw [this]; simp
  · rcases h2 with rfl | ⟨b, off, blk, rfl, e2, e3, e4⟩
    · simp at h1; omega
    · have hz : Nat.beq (n * 1) 0 = false := beqF (by omega)
      rw [aFirst_some, hz, cond_false, e3, oget_some', Nat.mul_one]
      have key : ∀ (m k : Nat), k + m ≤ len → getCells blk.cell (off + k) m = some (((l.drop k).take m).map f) := by
        intro m
        induction m with
        | zero => intro k _; simp [getCells]
        | succ m ih =>
          intro k hk
          have hkl : k < l.length := by omega
          rw [getCells_succ, e4 k l[k] (List.getElem?_eq_getElem hkl), oget_some', Nat.add_assoc, ih (k + 1) (by omega), oget_some', List.drop_eq_getElem_cons hkl, List.take_succ_cons, List.map_cons]
      have := key n 0 (by omega)
      simpa using this

/-- A part of a slice; nobody writes to the blocks ahead of lo. -/
theorem slice_lo {K : Option (Value × AH) → Prop} {st e by' : Nat} {z : List Value} (T : SliceT E st e 1 by' z) {lb : Nat} (H : Holds ⟨lb, h.b⟩ f a len l) (hlb : lb ≤ h.next) (hcp : len ≤ cp) {lo hi : Option Value} {i j : Nat} (hlo : bound? lo 0 = some i) (hhi : bound? hi len = some j) (h1 : i ≤ j) (h2 : j ≤ len) (hc : h.next < cap)
    (hK : ∀ h' a', Ext h h' → h'.next ≤ h.next + 1 → (i < cp → h' = h) → Holds ⟨lb, h'.b⟩ f a' (j - i) ((l.drop i).take (j - i)) → Holds h' f a' (j - i) ((l.drop i).take (j - i)) → K (some (.slice a' (j - i) (cp - i), h'))) : K (aSlice E st (.slice a len cp) lo hi h) := by
  obtain ⟨ti, hti, hu⟩ := T.i
  obtain ⟨ei, hei, hs, _⟩ := T.ei
  have b1 : Nat.ble i j = true := Nat.ble_eq_true_of_le h1
  have b2 : Nat.ble j cp = true := Nat.ble_eq_true_of_le (by omega)
  have hl := H.1
  have hlen : ((l.drop i).take (j - i)).length = j - i := by rw [List.length_take, List.length_drop]; omega
  unfold aSlice
  simp only [hti, oget, hu, hei, hlo, hhi, b1, b2, Bool.and_self, cond_true]
  have hl0 : l.length = len := hl
  obtain ⟨_, g0, g2⟩ := H
  -- from the start on: the same place
  by_cases hz : i = 0
  · subst hz
    have part : Holds ⟨lb, h.b⟩ f a (j - 0) ((l.drop 0).take (j - 0)) ∧ Holds h f a (j - 0) ((l.drop 0).take (j - 0)) := by
      rcases g2 with rfl | ⟨b, off, blk, rfl, e2, e3, e4⟩
      · exact ⟨⟨hlen, g0, .inl (by simp)⟩, ⟨hlen, g0, .inl (by simp)⟩⟩
      · have hh : ∀ k x, ((l.drop 0).take (j - 0))[k]? = some x → blk.cell (off + k) = some (f x) := by
          intro k x hx
          rw [List.getElem?_take] at hx
          split at hx
          · rw [List.drop_zero] at hx; exact e4 k x hx
          · cases hx
        have e2' : b < lb := e2
        exact ⟨⟨hlen, g0, .inr ⟨b, off, blk, rfl, e2, e3, hh⟩⟩, ⟨hlen, g0, .inr ⟨b, off, blk, rfl, Nat.lt_of_lt_of_le e2' hlb, e3, hh⟩⟩⟩
    have fin := hK h a (Ext.refl h) (by omega) (fun _ => rfl) part.1 part.2
    rcases g0 with rfl | ⟨b, off, rfl⟩
    · exact fin
    · have hb0 : Nat.beq 0 0 = true := rfl
      simp only [hb0, cond_true]
      simpa using fin
  · rcases g2 with rfl | ⟨b, off, blk, rfl, e2, e3, e4⟩
    · simp at hl0; omega
    have e2' : b < lb := e2
    have e3' : h.b.get b = some blk := e3
    have cells : ∀ k x, ((l.drop i).take (j - i))[k]? = some x → blk.cell (off + i + k) = some (f x) := by
      intro k x hx
      rw [List.getElem?_take] at hx
      split at hx
      · rw [List.getElem?_drop] at hx
        rw [Nat.add_assoc]; exact e4 (i + k) x hx
      · cases hx
    have hzb : i.beq 0 = false := beqF hz
    simp only [hzb, cond_false]
    have h0 : blk.cell off = some (f (l[0]'(by omega))) := by have := e4 0 _ (List.getElem?_eq_getElem (by omega)); simpa using this
    have mul : off + i * ei.size = off + i := by rw [hs, Nat.mul_one]
    have fin : K (some (.slice (some ⟨b, off + i, none⟩) (j - i) (cp - i), h)) :=
      hK h _ (Ext.refl h) (by omega) (fun _ => rfl) (Holds.mk' hlen e2' e3' cells) (Holds.mk' hlen (Nat.lt_of_lt_of_le e2' hlb) e3' cells)
    have nil' : cp = i → (l.drop i).take (j - i) = [] := fun hcl => by
      have hji : j - i = 0 := by omega
      rw [hji]; simp
    have stay : cp = i → K (some (.slice (some ⟨b, off, none⟩) (j - i) (cp - i), h)) := fun hcl =>
      hK h _ (Ext.refl h) (by omega) (fun _ => rfl) ⟨hlen, .inr ⟨b, off, rfl⟩, .inl (nil' hcl)⟩ ⟨hlen, .inr ⟨b, off, rfl⟩, .inl (nil' hcl)⟩
    cases blk with
    | cells n c ee o w =>
      simp only [e3']
      cases ho : o.beq 0 with
      | true =>
        simp only [cond_true, mul]
        by_cases hcl : cp = i
        · simp only [beqT hcl, cond_true]; exact stay hcl
        · simp only [beqF hcl, cond_false]; exact fin
      | false =>
        simp only [cond_false, mul]
        by_cases hcl : cp = i
        · have hji : j - i = 0 := by omega
          have hb : Nat.blt h.next cap = true := Nat.ble_eq_true_of_le hc
          simp only [beqT hcl, cond_true, hb]
          have := hK (h.new .dead) (some ⟨h.next, 0, none⟩) ((Ext.refl h).new _ hc) (Nat.le_refl _) (fun hlt => absurd hlt (by omega)) ⟨hlen, .inr ⟨_, _, rfl⟩, .inl (nil' hcl)⟩ ⟨hlen, .inr ⟨_, _, rfl⟩, .inl (nil' hcl)⟩
          rw [hji, show cp - i = 0 by omega] at this
          exact this
        · simp only [beqF hcl, cond_false]; exact fin
    | ro n g =>
      simp only [e3', mul]
      by_cases hcl : cp = i
      · simp only [beqT hcl, cond_true]; exact stay hcl
      · simp only [beqF hcl, cond_false]; exact fin
    | _ => simp [Blk.cell] at h0

/-- A part of a slice. -/
theorem slice_cps {K : Option (Value × AH) → Prop} {st e by' : Nat} {z : List Value} (T : SliceT E st e 1 by' z) (H : Holds h f a len l) (hcp : len ≤ cp) {lo hi : Option Value} {i j : Nat} (hlo : bound? lo 0 = some i) (hhi : bound? hi len = some j) (h1 : i ≤ j) (h2 : j ≤ len) (hc : h.next < cap)
    (hK : ∀ h' a', Ext h h' → h'.next ≤ h.next + 1 → (i < cp → h' = h) → Holds h' f a' (j - i) ((l.drop i).take (j - i)) → K (some (.slice a' (j - i) (cp - i), h'))) : K (aSlice E st (.slice a len cp) lo hi h) :=
  slice_lo T (lb := h.next) H (Nat.le_refl _) hcp hlo hhi h1 h2 hc fun h' a' e hn hq _ H' => hK h' a' e hn hq H'
/-- 'append(s, x..)': any number of small things. -/
theorem app_many {K : Option (Value × AH) → Prop} {st e by' lo n m : Nat} {z : List Value} (T : SliceT E st e 1 by' z) {x : Value} {xs : List α} (hlv : lenV x = some m) (hf : aFirst 1 m x h = some (xs.map f)) (hm : xs.length = m) (hp : ∀ y, plainCell (f y) = true) (hl : l.length = n)
    (b1 : n + m < 4294967296) (b2 : (n + m) * by' < 4294967296) (hc : h.next < cap) (O : Own h f e lo a l) (hlo : lo ≤ h.next)
    (hK : ∀ h' a', Own h' f e lo a' (l ++ xs) → h.next ≤ h'.next → h'.next ≤ h.next + 1 → (∀ i, i < h.next → (∀ b, a = some ⟨b, 0, none⟩ → i ≠ b) → h'.b.get i = h.b.get i) → K (some (.slice a' (n + m) (n + m), h'))) :
    K (aAppend E st (some st) (.slice a n n) x h) := by
  subst hl hm
  by_cases h0 : xs.length = 0
  · have hxs : xs = [] := List.eq_nil_of_length_eq_zero h0
    subst hxs
    obtain ⟨i, hi, hu⟩ := T.i
    obtain ⟨ei, he, hs, hb, v, hz, hzc⟩ := T.ei
    have hN := aNew_of T hlv hf ei hs
    have e1 : Nat.ble (l.length + 0) l.length = true := Nat.ble_eq_true_of_le (by omega)
    have := hK h a (by rw [List.append_nil]; exact O) (Nat.le_refl _) (by omega) (fun _ _ _ => rfl)
    unfold aAppend
    simp only [List.length_nil, List.map_nil] at hN
    simp only [hi, hu, oget, he, hN, List.length_nil, e1, cond_true]
    have q : Nat.beq 0 0 = true := rfl
    obtain ⟨_, ⟨rfl, _⟩ | ⟨b, c, o, w, rfl, _⟩⟩ := O
    · simp only [List.length_nil, q, cond_true]; exact this
    · simp only [List.length_nil, q, cond_true]; exact this
  · refine app_cps T (k := xs.length) (vs := xs.map f) (cs := l.map f) hlv hf (by omega) (by simp) ?_ (by omega) b2 hc O hlo fun h' O' hn hfr => ?_
    · rw [List.all_map, List.all_eq_true]; intro y _; exact hp y
    · refine hK h' _ ?_ (by omega) (by omega) hfr
      unfold Own
      rw [List.length_append, List.map_append]
      exact O'
@[go_sem] theorem bound_none {d : Nat} : bound? none d = some d := rfl
theorem bound_some {k : IntKind} {i d : Nat} : bound? (some (.int k (i : Int))) d = some i := by
  unfold bound?
  have : decide ((0 : Int) ≤ (i : Int)) = true := by simp
  simp [this]
end Go.Ev
end
section
/- Layer 32 (pack): runs of noughts, in plain Lean. -/
namespace PK
/-- How many noughts stand first. -/
def lead : List Int → Nat
  | [] => 0
  | x :: l => if x = 0 then lead l + 1 else 0
def zerosP (b : List Int) : Nat := min (lead b) 128
def stopsP (b : List Int) : Bool := decide (3 ≤ lead b) || (decide (0 < lead b) && decide (lead b = b.length))
/-- How many bytes stand ahead of a run of noughts. -/
def plainN : Nat → List Int → Nat
  | 0, _ => 0
  | _ + 1, [] => 0
  | k + 1, x :: l => if stopsP (x :: l) then 0 else plainN k l + 1
def runsF : Nat → List Int → List Int
  | 0, _ => []
  | _ + 1, [] => []
  | k + 1, x :: l => if stopsP (x :: l) then ((127 + zerosP (x :: l) : Nat) : Int) :: runsF k ((x :: l).drop (zerosP (x :: l)))
    else ((plainN 127 (x :: l) : Nat) : Int) :: ((x :: l).take (plainN 127 (x :: l)) ++ runsF k ((x :: l).drop (plainN 127 (x :: l))))
/-- Data in runs. -/
def runsP (b : List Int) : List Int := runsF b.length b
/-- A number's bytes. -/
def num4 (n : Int) : List Int := [n % 256, n / 256 % 256, n / 65536 % 256, n / 16777216 % 256]

theorem lead_le : ∀ l : List Int, lead l ≤ l.length
  | [] => Nat.le_refl _
  | x :: l => by unfold lead; split <;> simp; exact lead_le l
theorem lead_at : ∀ {l : List Int} {i : Nat} {z : Int}, i ≤ lead l → l[i]? = some z → (z = 0 → i + 1 ≤ lead l) ∧ (z ≠ 0 → lead l = i)
  | [], i, z, _, h => by simp at h
  | x :: l, 0, z, _, h => by
    simp at h; subst h
    unfold lead
    exact ⟨fun e => by rw [if_pos e]; omega, fun e => by rw [if_neg e]⟩
  | x :: l, i + 1, z, hi, h => by
    unfold lead at hi ⊢
    by_cases e : x = 0
    · rw [if_pos e] at hi ⊢
      have := lead_at (l := l) (i := i) (z := z) (by omega) (by simpa using h)
      exact ⟨fun e => by have := this.1 e; omega, fun e => by have := this.2 e; omega⟩
    · rw [if_neg e] at hi; omega
theorem zerosP_le (b : List Int) : zerosP b ≤ b.length := by have := lead_le b; unfold zerosP; omega
theorem zerosP_stop {b : List Int} (h : stopsP b = true) : 1 ≤ zerosP b := by
  unfold stopsP at h
  simp only [Bool.or_eq_true, Bool.and_eq_true, decide_eq_true_eq] at h
  unfold zerosP
  omega
theorem stopsP_zeros (b : List Int) : (decide (((zerosP b : Nat) : Int) ≥ 3) || (decide (((zerosP b : Nat) : Int) > 0) && decide (((zerosP b : Nat) : Int) = (b.length : Int)))) = stopsP b := by
  have := lead_le b
  unfold stopsP zerosP
  by_cases h3 : 3 ≤ lead b
  · have e1 : ((min (lead b) 128 : Nat) : Int) ≥ 3 := by omega
    simp [h3, e1]
  · have e0 : min (lead b) 128 = lead b := by omega
    rw [e0]
    have e1 : ¬ ((lead b : Nat) : Int) ≥ 3 := by omega
    have e2 : (((lead b : Nat) : Int) > 0) = (0 < lead b) := by apply propext; omega
    have e3 : (((lead b : Nat) : Int) = (b.length : Int)) = (lead b = b.length) := by apply propext; omega
    simp only [e1, e2, e3, h3, decide_false, Bool.false_or]
theorem plainN_le : ∀ (k : Nat) (b : List Int), plainN k b ≤ k ∧ plainN k b ≤ b.length
  | 0, _ => by simp [plainN]
  | _ + 1, [] => by simp [plainN]
  | k + 1, x :: l => by
    unfold plainN
    split
    · simp
    · have := plainN_le k l; simp; omega
theorem plainN_pos {b : List Int} (h : stopsP b = false) (hb : b ≠ []) : 1 ≤ plainN 127 b := by
  cases b with
  | nil => exact absurd rfl hb
  | cons x l => unfold plainN; rw [h]; simp
/-- One step more. -/
theorem plainN_step {k : Nat} {b : List Int} {i : Nat} (hi : i < b.length) (h : stopsP (b.drop i) = false) : plainN (k + 1) (b.drop i) = plainN k (b.drop (i + 1)) + 1 := by
  rw [List.drop_eq_getElem_cons hi] at h ⊢
  show (if stopsP (b[i] :: b.drop (i + 1)) = true then 0 else plainN k (b.drop (i + 1)) + 1) = _
  rw [h]; simp
theorem plainN_stop {k : Nat} {b : List Int} (h : stopsP b = true) : plainN k b = 0 := by
  cases k with
  | zero => rfl
  | succ k => cases b with
    | nil => rfl
    | cons x l => unfold plainN; rw [h]; simp
theorem plainN_nil (k : Nat) : plainN k [] = 0 := by cases k <;> rfl
theorem runsF_more : ∀ (k : Nat) (b : List Int), b.length ≤ k → runsF k b = runsF b.length b
  | 0, b, h => by
    have : b = [] := List.eq_nil_of_length_eq_zero (by omega)
    subst this; rfl
  | k + 1, [], _ => rfl
  | k + 1, x :: l, h => by
    have hl : l.length ≤ k := by simpa using h
    show _ = runsF (l.length + 1) (x :: l)
    unfold runsF
    cases hs : stopsP (x :: l) with
    | true =>
      have h1 := zerosP_stop hs
      simp only [if_true]
      have hd : ((x :: l).drop (zerosP (x :: l))).length ≤ l.length := by rw [List.length_drop]; simp; omega
      rw [runsF_more k _ (by omega), runsF_more l.length _ hd]
    | false =>
      have h1 := plainN_pos hs (by simp)
      simp only [Bool.false_eq_true, if_false]
      have hd : ((x :: l).drop (plainN 127 (x :: l))).length ≤ l.length := by rw [List.length_drop]; simp; omega
      rw [runsF_more k _ (by omega), runsF_more l.length _ hd]
theorem runsP_nil : runsP [] = [] := rfl
theorem runsP_stop {b : List Int} (hb : b ≠ []) (h : stopsP b = true) : runsP b = ((127 + zerosP b : Nat) : Int) :: runsP (b.drop (zerosP b)) := by
  cases b with
  | nil => exact absurd rfl hb
  | cons x l =>
    have h1 := zerosP_stop h
    show runsF (l.length + 1) (x :: l) = _
    unfold runsF
    rw [h]; simp only [if_true]
    rw [runsF_more l.length _ (by rw [List.length_drop]; simp; omega)]; rfl
theorem runsP_plain {b : List Int} (hb : b ≠ []) (h : stopsP b = false) : runsP b = ((plainN 127 b : Nat) : Int) :: (b.take (plainN 127 b) ++ runsP (b.drop (plainN 127 b))) := by
  cases b with
  | nil => exact absurd rfl hb
  | cons x l =>
    have h1 := plainN_pos h (by simp)
    show runsF (l.length + 1) (x :: l) = _
    unfold runsF
    rw [h]; simp only [Bool.false_eq_true, if_false]
    rw [runsF_more l.length _ (by rw [List.length_drop]; simp; omega)]; rfl
theorem runsF_len : ∀ (k : Nat) (b : List Int), (runsF k b).length ≤ 2 * b.length
  | 0, _ => by simp [runsF]
  | _ + 1, [] => by simp [runsF]
  | k + 1, x :: l => by
    unfold runsF
    cases hs : stopsP (x :: l) with
    | true =>
      have h1 := zerosP_stop hs
      have h2 := zerosP_le (x :: l)
      have := runsF_len k ((x :: l).drop (zerosP (x :: l)))
      rw [List.length_drop] at this
      simp only [if_true, List.length_cons] at this h2 ⊢
      omega
    | false =>
      have h1 := plainN_pos hs (by simp)
      have h2 := (plainN_le 127 (x :: l)).2
      have := runsF_len k ((x :: l).drop (plainN 127 (x :: l)))
      rw [List.length_drop] at this
      simp only [Bool.false_eq_true, if_false, List.length_cons, List.length_append, List.length_take] at this h2 ⊢
      omega
theorem runsP_len (b : List Int) : (runsP b).length ≤ 2 * b.length := runsF_len _ b
end PK
end
