/- A deterministic evaluator of the model's code over a memory of its own: leaving a function. -/
import Derived.Test.YthhohhbkeaghnaaEVy
set_option linter.unusedSimpArgs false
set_option linter.unusedVariables false
set_option linter.unusedSectionVars false
namespace Go.Ev
variable {E : Env} {P : Program}

def resRun (tmps : Array Value) : ResultVar → Sem Value
  | .tmp t => pure (tmps.getD t undef)
  | .cell a t => do loadVar t (← asAddr (tmps.getD a undef))

theorem resultsV_sound (ok : Ok E P) {ρ : Rn} {h : AH} {w : World} (hr : WRel ρ h w) {r : Tr Value} {tm : Array Value} (hreg : RegRel ρ tm r) : ∀ {rs : List ResultVar} {vs : List Value}, resultsV E r h rs = some vs →
    ∃ vs', renL ρ vs = some vs' ∧ (rs.mapM (resRun tm)).run P w = .ok vs' w
  | [], vs, e => by simp [resultsV] at e; subst e; exact ⟨[], by simp [renL], rfl⟩
  | .tmp t :: rs, vs, e => by
    simp only [resultsV] at e
    rw [oget_some] at e; obtain ⟨v, hv, e⟩ := e
    rw [oget_some] at e; obtain ⟨us, hus, e⟩ := e
    cases e
    obtain ⟨v', h1, h2⟩ := hreg t v hv
    obtain ⟨us', h3, h4⟩ := resultsV_sound ok hr hreg hus
    refine ⟨v' :: us', renL_cons.2 ⟨v', us', h1, h3, rfl⟩, ?_⟩
    have h2' : tm.getD t undef = v' := by simp [h2]
    simp only [List.mapM_cons, resRun, Sem.run_bind, Sem.run_pure, Result.andThen_ok, h4, h2']
  | .cell a t :: rs, vs, e => by
    simp only [resultsV] at e
    rw [oget_some] at e; obtain ⟨av, hav, e⟩ := e
    rw [oget_some] at e; obtain ⟨v, hv, e⟩ := e
    rw [oget_some] at e; obtain ⟨us, hus, e⟩ := e
    cases e
    obtain ⟨a', h1, h2⟩ := hreg a av hav
    obtain ⟨v', h5, h6⟩ := aLoad_sound ok hr h1 hv
    obtain ⟨us', h3, h4⟩ := resultsV_sound ok hr hreg hus
    refine ⟨v' :: us', renL_cons.2 ⟨v', us', h5, h3, rfl⟩, ?_⟩
    have h2' : tm.getD a undef = a' := by simp [h2]
    have ha : ∃ ad, a' = .pointer (some ad) := by
      unfold aLoad at hv
      split at hv
      · obtain ⟨c, s, x, _, e⟩ := ren_ptr h1; exact ⟨_, e⟩
      · cases hv
    obtain ⟨ad, rfl⟩ := ha
    have h7 : (loadVar t ad).run P w = .ok v' w := by
      have := h6
      simpa only [Instr.loadAt, Instr.sureAddr, Sem.run_bind, Sem.run_pure, Result.andThen_ok] using this
    simp only [List.mapM_cons, resRun, Sem.run_bind, Sem.run_pure, Result.andThen_ok, h4, h2', asAddr, h7]

theorem results_run {fn : Func} {tm : Array Value} {w : World} {vs' : List Value} (h : (fn.results.toList.mapM (resRun tm)).run P w = .ok vs' w) : (results fn tm).run P w = .ok (oneOf vs') w := by
  have hm : (fn.results.mapM (resRun tm)).run P w = .ok ⟨vs'⟩ w := by
    rw [Array.mapM_eq_mapM_toList, Sem.run_map, h]; rfl
  have : results fn tm = (do let vs ← fn.results.mapM (resRun tm); pure (if h : vs.size = 1 then vs[0] else .tuple vs)) := rfl
  rw [this, Sem.run_bind, hm, Result.andThen_ok, Sem.run_pure]
  congr 1
  match vs' with
  | [] => rfl
  | [v] => rfl
  | _ :: _ :: _ => rfl

theorem oneOf_ren {ρ : Rn} {vs vs' : List Value} (h : renL ρ vs = some vs') : ren ρ (oneOf vs) = some (oneOf vs') := by
  have hl := renL_length h
  match vs, vs', h, hl with
  | [], [], _, _ => exact ren_tuple.2 ⟨[], by simp [renL], rfl⟩
  | [v], [v'], h, _ =>
    obtain ⟨u, m, h1, h2, h3⟩ := renL_cons.1 h
    cases h3; exact h1
  | a :: b :: l, a' :: b' :: l', h, _ => exact ren_tuple.2 ⟨_, h, rfl⟩

/-- A frame on its way out. -/
def out (b : Frame) (tm : Array Value) (ds : List Deferred) (k : List Item) (M : FrameMode) : Frame := { b with tmps := tm, todo := k, defers := ds, mode := M }

def ModeOk (ρ : Rn) (m : Option Value) (M : FrameMode) : Prop := match m with
  | none => M = .returning
  | some v => ∃ v', ren ρ v = some v' ∧ M = .panicking [{ v := v', recovered := false }]

theorem step_take {b : Frame} {tm : Array Value} {ds : List Deferred} {k : List Item} {M : FrameMode} {cs : List Frame} {w w' : World} {c : Nat} {args : Array Value} (hM : M ≠ .run) (h : (Instr.takeDeferred c).run P w = .ok [] w') :
    Steps P (lone (out b tm ({ target := .collected c, args } :: ds) k M) cs w) (lone (out b tm ds k M) cs w') := by
  refine steps_of_bare ?_
  cases M with
  | run => exact absurd rfl hM
  | returning => simp [stepG, unwind, gor, out, h]
  | panicking ch => simp [stepG, unwind, gor, out, h]

theorem step_callDef {b : Frame} {tm : Array Value} {ds : List Deferred} {k : List Item} {M : FrameMode} {cs : List Frame} {w w' : World} {f : FuncId} {cp args a2 : Array Value} (hM : M ≠ .run) (h : (callFunc f (args ++ cp)).run P w = .ok (.enter f a2) w') :
    Steps P (lone (out b tm ({ target := .fn (.func f) cp, args } :: ds) k M) cs w) (lone (Frame.enter P f a2 .deferred) (out b tm ds k M :: cs) w') := by
  refine steps_of_bare ?_
  have hi : (invoke (.fn (.func f) cp) args).run P w = .ok (.enter f a2) w' := h
  cases M with
  | run => exact absurd rfl hM
  | returning => simp [stepG, unwind, callDeferred, gor, out, hi]
  | panicking ch => simp [stepG, unwind, callDeferred, gor, out, hi]

theorem step_valDef {b : Frame} {tm : Array Value} {ds : List Deferred} {k : List Item} {M : FrameMode} {cs : List Frame} {w w' : World} {f : FuncId} {cp args : Array Value} {v : Value} (hM : M ≠ .run) (h : (callFunc f (args ++ cp)).run P w = .ok (.value v) w') :
    Steps P (lone (out b tm ({ target := .fn (.func f) cp, args } :: ds) k M) cs w) (lone (out b tm ds k M) cs w') := by
  refine steps_of_bare ?_
  have hi : (invoke (.fn (.func f) cp) args).run P w = .ok (.value v) w' := h
  cases M with
  | run => exact absurd rfl hM
  | returning => simp [stepG, unwind, callDeferred, gor, out, hi]
  | panicking ch => simp [stepG, unwind, callDeferred, gor, out, hi]

/-- A deferred function has come to its end. -/
theorem step_backDef {fr : Frame} {f : FuncId} {w : World} {v : Value} (h : Fin P fr f .deferred w v) {c : Frame} {cs : List Frame} :
    Steps P (lone fr (c :: cs) w) (lone (match c.mode with
      | .panicking ({ recovered := true, .. } :: older) => match older.dropWhile (!·.goexit) with
          | [] => { c with mode := .returning }
          | rest => { c with mode := .panicking rest }
      | _ => c) cs w) := by
  obtain ⟨fn, h1, h2⟩ := h.res
  refine steps_of_bare ?_
  simp only [stepG, unwind, doReturn, gor, h.mode, h.defers, h.kind, h.fn, h1, Sem.runT_eq, h2, GStep.bare_after]
  rfl

/-- What leaving comes to. -/
def LeaveRes (P : Program) (b : Frame) (cs : List Frame) (rc : Bool) (ρ : Rn) (h : AH) (w : World) (mc : Machine) : CRes → Prop
  | .fail => True
  | .ret v h' rc' => rc' = rc ∧ ∃ ρ' w' v' fr', Step ρ h w ρ' h' w' ∧ ren ρ' v = some v' ∧ Steps P mc (lone fr' cs w') ∧ Fin P fr' b.fn b.kind w' v'
  | .pan v h' => rc = false ∧ ∃ ρ' w' v' fr', Step ρ h w ρ' h' w' ∧ ren ρ' v = some v' ∧ Steps P mc (lone fr' cs w') ∧ fr'.leaving P w' (.panicked [{ v := v', recovered := false }])

theorem leave_ok (ok : Ok E P) {C : CallS} (hC : CallOk P E C) {b : Frame} {fn : Func} (hf : P.funcs[b.fn]? = some fn) {r : Tr Value} {tm : Array Value} {k : List Item} {rc : Bool} {cs : List Frame} : ∀ (n : Nat) {m : Option Value} {d ds : List Deferred} {h : AH} {ρ : Rn} {w : World} {M : FrameMode},
    WRel ρ h w → Top ρ h → GlobOk E ρ → RegRel ρ tm r → DefRel ρ d ds → ModeOk ρ m M →
    LeaveRes P b cs rc ρ h w (lone (out b tm ds k M) cs w) (leave E C fn.results.toList r rc n m d h) := by
  have nil : ∀ (n : Nat) {m : Option Value} {h : AH} {ρ : Rn} {w : World} {M : FrameMode}, WRel ρ h w → RegRel ρ tm r → ModeOk ρ m M →
    LeaveRes P b cs rc ρ h w (lone (out b tm [] k M) cs w) (leave E C fn.results.toList r rc n m [] h) := by
    intro n m h ρ w M hr hreg hM
    cases m with
    | none =>
      have hM : M = .returning := hM
      have he : leave E C fn.results.toList r rc n none [] h = (match resultsV E r h fn.results.toList with | some vs => .ret (oneOf vs) h rc | none => .fail) := by cases n <;> rfl
      rw [he]
      cases hv : resultsV E r h fn.results.toList with
      | none => trivial
      | some vs =>
        obtain ⟨vs', h1, h2⟩ := resultsV_sound ok hr hreg hv
        exact ⟨rfl, ρ, w, oneOf vs', _, Step.refl hr, oneOf_ren h1, .refl _ _, ⟨hM, rfl, rfl, rfl, fn, hf, results_run h2⟩⟩
    | some v =>
      obtain ⟨v', h1, h2⟩ := hM
      have he : leave E C fn.results.toList r rc n (some v) [] h = (bif rc then .fail else .pan v h) := by cases n <;> rfl
      rw [he]
      cases rc with
      | true => trivial
      | false => exact ⟨rfl, ρ, w, v', _, Step.refl hr, h1, .refl _ _, ⟨h2, rfl, fn, hf⟩⟩
  intro n
  induction n with
  | zero =>
    intro m d ds h ρ w M hr top hg hreg hd hM
    cases d with
    | nil =>
      cases ds with
      | nil => exact nil 0 hr hreg hM
      | cons _ _ => exact hd.elim
    | cons d0 d =>
      have : leave E C fn.results.toList r rc 0 m (d0 :: d) h = .fail := by cases m <;> rfl
      rw [this]; trivial
  | succ n ih =>
    intro m d ds h ρ w M hr top hg hreg hd hM
    have hMr : M ≠ .run := by
      cases m with
      | none => intro e; rw [show M = .returning from hM] at e; cases e
      | some v => obtain ⟨v', _, h2⟩ := hM; intro e; rw [h2] at e; cases e
    cases d with
    | nil =>
      cases ds with
      | nil => exact nil (n + 1) hr hreg hM
      | cons _ _ => exact hd.elim
    | cons d0 d =>
      cases ds with
      | nil => exact hd.elim
      | cons d0' ds =>
        obtain ⟨hd0, hd⟩ := hd
        have he : leave E C fn.results.toList r rc (n + 1) m (d0 :: d) h = (match d0.target with
          | .collected b => match h.b.get b with
            | some (.deferred (some [])) => leave E C fn.results.toList r rc n m d (h.upd b (.deferred none))
            | _ => .fail
          | .fn (.func f) ⟨cp⟩ => match C (.fn f) (d0.args.toList ++ cp) m h with
            | .ret _ h rcd => leave E C fn.results.toList r rc n (bif rcd then none else m) d h
            | _ => .fail
          | _ => .fail) := by cases m <;> rfl
        rw [he]
        -- on from a later place
        have on : ∀ {ρ1 h1 w1 M1 m1}, Step ρ h w ρ1 h1 w1 → ModeOk ρ1 m1 M1 → Steps P (lone (out b tm (d0' :: ds) k M) cs w) (lone (out b tm ds k M1) cs w1) →
            LeaveRes P b cs rc ρ h w (lone (out b tm (d0' :: ds) k M) cs w) (leave E C fn.results.toList r rc n m1 d h1) := by
          intro ρ1 h1 w1 M1 m1 s1 s2 s3
          have := ih s1.rel (s1.top top) (hg.mono s1.sub) (hreg.mono s1.sub) (hd.mono s1.sub) s2
          revert this
          cases leave E C fn.results.toList r rc n m1 d h1 with
          | fail => exact fun _ => trivial
          | ret v h' rc' => rintro ⟨e, ρ', w', v', fr', a1, a2, a3, a4⟩; exact ⟨e, ρ', w', v', fr', s1.trans a1, a2, s3.trans a3, a4⟩
          | pan v h' => rintro ⟨e, ρ', w', v', fr', a1, a2, a3, a4⟩; exact ⟨e, ρ', w', v', fr', s1.trans a1, a2, s3.trans a3, a4⟩
        have modeMono : ∀ {ρ1}, Sub ρ ρ1 → ModeOk ρ1 m M := fun sub => by
          cases m with
          | none => exact hM
          | some v => obtain ⟨v', h1, h2⟩ := hM; exact ⟨v', ren_mono sub _ _ h1, h2⟩
        unfold DefOne at hd0
        cases ht : d0.target with
        | collected bk =>
          rw [ht] at hd0
          simp only [] at hd0 ⊢
          obtain ⟨c, s0, x0, hc, rfl⟩ := hd0
          split
          · rename_i hb
            have hB := hr.blk bk _ hb c s0 x0 hc
            have hB1 := hB.1 rfl
            have hlt : c < w.heap.size := (Array.getElem?_eq_some_iff.1 hB1).1
            have hst : Step ρ h w ρ (h.upd bk (.deferred none)) { w with heap := w.heap.setIfInBounds c (.deferred none) } :=
              Step.upd hr hb rfl hc (hr.low _ _ hb) rfl ⟨fun e => (by cases e), none, by simp [hlt]⟩ (by simp) (fun k hk => by simp [Array.getElem?_setIfInBounds_ne (Ne.symm hk)]) rfl rfl rfl
            refine on hst (modeMono (Sub.refl _)) (step_take hMr ?_)
            simp only [Instr.takeDeferred, Sem.run_bind, run_getObj hB1 (by intro _ _ _ e; cases e), Result.andThen_ok, run_setObj hB1 (by intro _ _ _ e; cases e), Sem.run_pure]
          · trivial
        | fn g cp0 =>
          cases g with
          | func f =>
            obtain ⟨cp⟩ := cp0
            rw [ht] at hd0
            simp only [] at hd0 ⊢
            obtain ⟨cp', as', hcp, has, rfl⟩ := hd0
            split
            · rename_i v h1 rcd hcall
              obtain ⟨hrcd, H⟩ := hC.ret hcall hr top hg (renL_append has hcp)
              rcases H with ⟨v', q1, q2, q3, q4⟩ | ⟨q1, H⟩
              · subst q2; subst q3
                exact on (Step.refl hr) (modeMono (Sub.refl _)) (step_valDef hMr (by simpa using q4))
              · have hko : KindOk ρ m .deferred (out b tm ds k M :: cs) := by
                  cases m with
                  | none => exact .inr ⟨rfl, _, _, rfl, hM⟩
                  | some v => obtain ⟨v', h1, h2⟩ := hM; exact ⟨rfl, _, _, v', rfl, h2, h1⟩
                obtain ⟨ρ', w', v', fr', g1, g2, g3, g4⟩ := H .deferred (out b tm ds k M :: cs) hko
                have s1 := (step_callDef (P := P) (b := b) (tm := tm) (ds := ds) (k := k) (M := M) (cs := cs) hMr (show (callFunc f (⟨as'⟩ ++ ⟨cp'⟩)).run P w = _ by simpa using q1)).trans g3
                cases rcd with
                | false =>
                  refine on g1 (modeMono g1.sub) (s1.trans ?_)
                  have := step_backDef g4 (c := out b tm ds k M) (cs := cs)
                  cases m with
                  | none =>
                    have e : M = .returning := hM
                    subst e
                    exact this
                  | some v =>
                    obtain ⟨v', h1, h2⟩ := hM
                    subst h2
                    exact this
                | true =>
                  cases m with
                  | none => have := hrcd rfl; cases this
                  | some u =>
                    obtain ⟨u', h1, h2⟩ := hM
                    subst h2
                    refine on (m1 := none) (M1 := .returning) g1 rfl (s1.trans ?_)
                    exact step_backDef g4 (c := { out b tm ds k (.panicking [{ v := u', recovered := false }]) with mode := .panicking [{ v := u', recovered := true }] }) (cs := cs)
            · trivial
          | _ => trivial
        | _ => trivial

end Go.Ev
