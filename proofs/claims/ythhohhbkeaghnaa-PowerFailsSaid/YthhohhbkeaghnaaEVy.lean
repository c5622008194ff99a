/- A deterministic evaluator of the model's code over a memory of its own: code. -/
import Derived.Test.YthhohhbkeaghnaaEVx
set_option linter.unusedSimpArgs false
set_option linter.unusedVariables false
set_option linter.unusedSectionVars false
namespace Go.Ev
variable {E : Env} {P : Program}

theorem linearise_eq (all : Array Oper) (t : Nat) : Region.linearise .any all t = Region.linearise.go .any all all.size t (Array.replicate all.size false) [] := rfl

theorem step_regionDraw (ok : Ok E P) {b : Frame} {tm : Array Value} {ds : List Deferred} {ops : Array Oper} {k : List Item} {cs : List Frame} {w : World} {id : Nat} :
    Steps P (lone (frm b tm ds (.code (.region id ops true) :: k)) cs w) (lone (frm b tm ds (.inRegion ops (Region.linearise .any ops (w.tape w.drawn (.order b.fn id))) :: k)) cs { w with drawn := w.drawn + 1 }) :=
  steps_of_bare (by simp [stepG, stepG.exec, gor, frm, choose, Sem.run, Question.forced, Question.cut, Region.schedule, ok.order])

theorem draw_ends (ok : Ok E P) {C : CallS} (hC : CallOk P E C) {c : List PO} {all : Array Oper} (hp : plan all = some c) {cx : Ctx} {b : Frame} {cs : List Frame} {ρ : Rn} {s : St} {w : World} {tm : Array Value} {ds : List Deferred} (h : SRel E cx b cs ρ s w tm ds) {k : List Item} {id : Nat} :
    Ends P E cx b cs ρ s.h w (lone (frm b tm ds (.code (.region id all true) :: k)) (recd s.rc cs) w) k (evDraw E C cx all c [] s) := by
  obtain ⟨ms, p⟩ := plan_spec hp
  have hst := Step.drawn h.rel (w.drawn + 1)
  refine .of_steps (step_regionDraw ok) ?_
  have I : Inv E all ms c cx b cs ρ s.h w (Array.replicate all.size false) [] c [] ρ s { w with drawn := w.drawn + 1 } tm ds := by
    refine ⟨⟨by simp, fun x hx => ?_, by simp, fun i j hi => ?_⟩, hst, h.top, h.glob, fun t v e _ => h.regs t v e, h.size, h.defs, h.ctx, h.rc, by simp, by simp⟩
    · have hlt := (Array.getElem?_eq_some_iff.1 (p.mem x hx).1).1
      simp [hlt, hx]
    · exfalso
      rw [Array.getD_eq_getD_getElem?, Array.getElem?_replicate] at hi
      split at hi <;> simp at hi
  rw [linearise_eq]
  rcases advance p (C := C) I with e | ⟨pend', ps', ws', s', q1, q2, q3, q4, q5⟩
  · rw [e]; trivial
  · rw [q2, ← q5]
    exact draw_go ok hC p all.size _ q1 q3 (by rw [q4]; simp [p.len])

theorem Ends.passE {cx : Ctx} {b : Frame} {cs : List Frame} {ρ : Rn} {h : AH} {w : World} {m : Machine} {k k2 : List Item} {i : Nat} {s : St} (he : exitTo i k2 = exitTo i k)
    (e : Ends P E cx b cs ρ h w m k2 (.exit i s)) : Ends P E cx b cs ρ h w m k (.exit i s) :=
  let ⟨ρ', w', tm', ds', k', h1, h2, h3, h4⟩ := e; ⟨ρ', w', tm', ds', k', h1, h2, h3.trans he, h4⟩

theorem Ends.passG {cx : Ctx} {b : Frame} {cs : List Frame} {ρ : Rn} {h : AH} {w : World} {m : Machine} {k k2 : List Item} {i : Nat} {s : St} (he : gotoIn i k2 = gotoIn i k)
    (e : Ends P E cx b cs ρ h w m k2 (.goto i s)) : Ends P E cx b cs ρ h w m k (.goto i s) :=
  let ⟨ρ', w', tm', ds', k', h1, h2, h3, h4⟩ := e; ⟨ρ', w', tm', ds', k', h1, h2, h3.trans he, h4⟩

section steps
variable {b : Frame} {tm : Array Value} {ds : List Deferred} {k : List Item} {cs : List Frame} {w : World}

theorem to_skip : Steps P (lone (frm b tm ds (.code .skip :: k)) cs w) (lone (frm b tm ds k) cs w) := steps_of_bare (by simp [stepG, stepG.exec, gor, frm])
theorem to_label {l : Nat} : Steps P (lone (frm b tm ds (.code (.label l) :: k)) cs w) (lone (frm b tm ds k) cs w) := steps_of_bare (by simp [stepG, stepG.exec, gor, frm])
theorem to_inBlock {l : Nat} : Steps P (lone (frm b tm ds (.inBlock l :: k)) cs w) (lone (frm b tm ds k) cs w) := steps_of_bare (by simp [stepG, stepG.exec, gor, frm])
theorem to_inScope {c : Code} : Steps P (lone (frm b tm ds (.inScope c :: k)) cs w) (lone (frm b tm ds k) cs w) := steps_of_bare (by simp [stepG, stepG.exec, gor, frm])
theorem to_seq {x y : Code} : Steps P (lone (frm b tm ds (.code (.seq x y) :: k)) cs w) (lone (frm b tm ds (.code x :: .code y :: k)) cs w) := steps_of_bare (by simp [stepG, stepG.exec, gor, frm])
theorem to_block {id : Nat} {x : Code} : Steps P (lone (frm b tm ds (.code (.block id x) :: k)) cs w) (lone (frm b tm ds (.code x :: .inBlock id :: k)) cs w) := steps_of_bare (by simp [stepG, stepG.exec, gor, frm])
theorem to_loop {x : Code} : Steps P (lone (frm b tm ds (.code (.loop x) :: k)) cs w) (lone (frm b tm ds (.code x :: .inLoop x :: k)) cs w) := steps_of_bare (by simp [stepG, stepG.exec, gor, frm])
theorem to_inLoop {x : Code} : Steps P (lone (frm b tm ds (.inLoop x :: k)) cs w) (lone (frm b tm ds (.code x :: .inLoop x :: k)) cs w) := steps_of_bare (by simp [stepG, stepG.exec, gor, frm])
theorem to_scope {x : Code} : Steps P (lone (frm b tm ds (.code (.scope x) :: k)) cs w) (lone (frm b tm ds (.code x :: .inScope x :: k)) cs w) := steps_of_bare (by simp [stepG, stepG.exec, gor, frm])
theorem to_exit {id : Nat} {k' : List Item} (h : exitTo id k = some k') : Steps P (lone (frm b tm ds (.code (.exit id) :: k)) cs w) (lone (frm b tm ds k') cs w) := steps_of_bare (by simp [stepG, stepG.exec, gor, frm, h])
theorem to_goto {l : Nat} {k' : List Item} (h : gotoIn l k = some k') : Steps P (lone (frm b tm ds (.code (.goto l) :: k)) cs w) (lone (frm b tm ds k') cs w) := steps_of_bare (by simp [stepG, stepG.exec, gor, frm, h])
theorem to_cond {c : Operand} {x y : Code} {t : Bool} (h : evT tm c = .bool t) : Steps P (lone (frm b tm ds (.code (.cond c x y) :: k)) cs w) (lone (frm b tm ds (.code (if t then x else y) :: k)) cs w) :=
  steps_of_bare (by
    have he := congrFun (eval_frm b tm ds (.code (.cond c x y) :: k)) c
    simp only [frm] at he
    simp [stepG, stepG.exec, gor, frm, he, h])

theorem to_endRange {l : Nat} {jump : Option Code} {w' : World} (h : (Instr.endLoop l).run P w = .ok jump w') : Steps P (lone (frm b tm ds (.endRangeFunc l :: k)) cs w) (lone (frm b tm ds ((jump.map Item.code).toList ++ k)) cs w') :=
  steps_of_bare (by simp [stepG, stepG.exec, gor, frm, h])

end steps

theorem run_getLoop {w : World} {l : Nat} {r : Loop} (h : w.heap[l]? = some (.loop r)) : (Instr.getLoop l).run P w = .ok r w := by
  simp only [Instr.getLoop, Sem.run_bind, run_getObj h (by intro _ _ _ e; cases e), Result.andThen_ok, Sem.run_pure]

theorem run_setLoop {w : World} {l : Nat} {r : Loop} (h : w.heap[l]? = some (.loop r)) (o : Obj) : (setObj l o).run P w = .ok () { w with heap := w.heap.setIfInBounds l o } :=
  run_setObj h (by intro _ _ _ e; cases e)

/-- A loop's record turned. -/
theorem Step.loop {ρ : Rn} {h : AH} {w : World} (hr : WRel ρ h w) {l lw s x : Nat} (hl : ρ l = some (lw, s, x)) {st : LoopState} {pend : Option Code} {fn n : Nat} {r : Tr Value} {ps : List Tmp} {asg bo : Code} {de : Nat}
    (hb : h.b.get l = some (.loop st pend fn n r ps asg bo de)) : ∃ rec : Loop, w.heap[lw]? = some (.loop rec) ∧ rec.state = st ∧ rec.pending = pend ∧ rec.params = ⟨ps⟩ ∧ rec.assign = asg ∧ rec.body = bo ∧ rec.tmps.size = n ∧ RegRel ρ rec.tmps r ∧
      ∀ st' pend', Step ρ h w ρ (h.upd l (.loop st' pend' fn n r ps asg bo de)) { w with heap := w.heap.setIfInBounds lw (.loop { rec with state := st', pending := pend' }) } := by
  obtain ⟨tmps, fn', de', h1, h2, h3⟩ := hr.blk l _ hb lw s x hl
  refine ⟨_, h1, rfl, rfl, rfl, rfl, rfl, h2, h3, fun st' pend' => ?_⟩
  have hlt : lw < w.heap.size := (Array.getElem?_eq_some_iff.1 h1).1
  refine Step.upd hr hb rfl hl (hr.low _ _ hb) rfl ⟨tmps, fn', de', by simp [hlt], h2, h3⟩ (by simp) (fun k hk => by simp [Array.getElem?_setIfInBounds_ne (Ne.symm hk)]) rfl rfl rfl


section eqs
variable {C : CallS} {cx : Ctx} {n : Nat} {s : St}
theorem ev_seq {x y : AC} : ev E C cx (n + 1) (.seq x y) s = (match ev E C cx n x s with | .nor s => ev E C cx n y s | x => x) := rfl
theorem ev_cond {x : Operand} {t e : AC} : ev E C cx (n + 1) (.cond x t e) s = (match evalO E.ng s.r x with | some (.bool true) => ev E C cx n t s | some (.bool false) => ev E C cx n e s | _ => .fail) := rfl
theorem ev_block {id : Nat} {x : AC} : ev E C cx (n + 1) (.block id x) s = (match ev E C cx n x s with | .exit i s => bif i.beq id then .nor s else .exit i s | x => x) := rfl
theorem ev_loop {x : AC} : ev E C cx (n + 1) (.loop x) s = (match ev E C cx n x s with | .nor s => ev E C cx n (.loop x) s | x => x) := rfl
theorem ev_scope {x : Code} : ev E C cx (n + 1) (.scope x) s = (match ev E C cx n (comp x) s with | .goto l s => ev E C cx n (.scopeAt x l) s | x => x) := rfl
theorem ev_scopeAt {x : Code} {l : Nat} : ev E C cx (n + 1) (.scopeAt x l) s = (match findLabel x l with | none => .goto l s | some rest => match ev E C cx n (comp rest) s with | .goto l s => ev E C cx n (.scopeAt x l) s | x => x) := rfl
end eqs

def jumpOut (pend : Option Code) (s : St) : Out := match pend with
  | none => .nor s
  | some .ret => .ret s
  | some (.exit i) => .exit i s
  | _ => .fail

def loopOut (l : Nat) (s : St) : Out := match s.h.b.get l with
  | some (.loop st pend fn n r ps asg bo de) => match st with
    | .busy => .fail
    | _ => jumpOut pend { s with h := s.h.upd l (.loop .exhausted pend fn n r ps asg bo de) }
  | _ => .fail

theorem ev_rfunc {C : CallS} {cx : Ctx} {n : Nat} {s : St} {f : Operand} {ps : List Tmp} {asg bo : Code} : ev E C cx (n + 1) (.rfunc f ps asg bo) s = (match cx.rnd with
      | some _ => .fail
      | none => oOut (evalO E.ng s.r f) fun fv =>
        bif Nat.blt (s.h.next + 1) cap then
          match callV C fv [.func (.yield (s.h.next + 1)) ⟨[]⟩ ⟨[]⟩] { s with h := (s.h.new (.deferred (some []))).new (.loop .ready none 0 s.n s.r ps asg bo s.h.next), d := { target := .collected s.h.next, args := ⟨[]⟩ } :: s.d } with
          | .fail => .fail
          | .pan v s => .pan v s
          | .val _ s' => loopOut (s.h.next + 1) s'
        else .fail) := rfl

/-- A loop over a function begins. -/
theorem Step.enter {ρ : Rn} {h : AH} {w : World} (hr : WRel ρ h w) (top : Top ρ h) (hcap : h.next + 1 < cap) {tm : Array Value} {r : Tr Value} (hreg : RegRel ρ tm r) {n : Nat} (hn : tm.size = n) (fn : FuncId) (ps : List Tmp) (asg bo : Code) :
    ∃ ρ2, Step ρ h w ρ2 ((h.new (.deferred (some []))).new (.loop .ready none 0 n r ps asg bo h.next)) { w with heap := (w.heap.push (.deferred (some []))).push (.loop { state := .ready, pending := none, fn := fn, tmps := tm, params := ⟨ps⟩, assign := asg, body := bo, defers := w.heap.size }) } ∧
      ρ2 h.next = some (w.heap.size, 0, 0) ∧ ρ2 (h.next + 1) = some (w.heap.size + 1, 0, 0) := by
  have a1 : Step ρ h w (ρ.ins h.next (w.heap.size, 0, 0)) (h.new (.deferred (some []))) { w with heap := w.heap.push (.deferred (some [])) } :=
    Step.new hr (top _ (Nat.le_refl _)) (by omega) rfl ⟨fun _ => by simp, some [], by simp⟩ (by simp) (fun _ => Nat.le_refl _) (fun k hk => by simp [Array.getElem?_push, Nat.ne_of_lt hk]) rfl rfl rfl
  have t1 := a1.top top
  have a2 : Step (ρ.ins h.next (w.heap.size, 0, 0)) (h.new (.deferred (some []))) { w with heap := w.heap.push (.deferred (some [])) } ((ρ.ins h.next (w.heap.size, 0, 0)).ins (h.next + 1) (w.heap.size + 1, 0, 0))
      ((h.new (.deferred (some []))).new (.loop .ready none 0 n r ps asg bo h.next)) { w with heap := (w.heap.push (.deferred (some []))).push (.loop { state := .ready, pending := none, fn := fn, tmps := tm, params := ⟨ps⟩, assign := asg, body := bo, defers := w.heap.size }) } := by
    refine Step.new (h := h.new (.deferred (some []))) a1.rel (t1 _ (Nat.le_refl _)) hcap rfl ?_ (by simp) (fun _ => by simp) (fun k hk => ?_) rfl rfl rfl
    · exact ⟨tm, fn, w.heap.size, by rw [show w.heap.size + 1 = (w.heap.push (Obj.deferred (some []))).size by simp]; exact Array.getElem?_push_size, hn, hreg.mono (a1.sub.trans (Rn.sub_ins (t1 _ (Nat.le_refl _))))⟩
    · have : k ≠ w.heap.size + 1 := by simp at hk; omega
      show ((w.heap.push _).push _)[k]? = _
      rw [Array.getElem?_push, if_neg (by simpa using this)]
  exact ⟨_, a1.trans a2, by simp [Rn.ins], by simp [Rn.ins]⟩

theorem run_enterLoop {w : World} {fn : FuncId} {tm : Array Value} {ps : Array Tmp} {asg bo : Code} : (Instr.enterLoop fn tm ps asg bo none).run P w =
    .ok (w.heap.size + 1, [{ target := .collected w.heap.size, args := #[] }]) { w with heap := (w.heap.push (.deferred (some []))).push (.loop { state := .ready, pending := none, fn := fn, tmps := tm, params := ps, assign := asg, body := bo, defers := w.heap.size }) } := by
  simp only [Instr.enterLoop, Sem.run_bind, run_newObj, Result.andThen_ok, Sem.run_pure, Array.size_push]

theorem stepG_range {b : Frame} {tm : Array Value} {ds : List Deferred} {k : List Item} {cs : List Frame} {w : World} {f : Operand} {ps : Array Tmp} {asg bo : Code} (hn : b.roundOf = none) :
    (stepG P true (gor (frm b tm ds (.code (.rangeFunc f ps asg bo) :: k)) cs) w).bare =
      (stepG.apply P true (frm b tm ({ target := .collected w.heap.size, args := #[] } :: ds) (.inRangeFunc (w.heap.size + 1) :: k)) cs none
        (do let d ← Deferred.ofValue (evT tm f) #[.func (.yield (w.heap.size + 1)) #[] #[]]; invoke d.target d.args)
        { w with heap := (w.heap.push (.deferred (some []))).push (.loop { state := .ready, pending := none, fn := b.fn, tmps := tm, params := ps, assign := asg, body := bo, defers := w.heap.size }) }).bare := by
  have he := eval_frm b tm ({ target := .collected w.heap.size, args := #[] } :: ds) (.inRangeFunc (w.heap.size + 1) :: k)
  simp only [stepG, stepG.exec, gor, frm, hn, Sem.runT_eq, run_enterLoop, GStep.bare_after]
  simp only [frm, hn] at he
  simp only [List.cons_append, List.nil_append]
  congr 2
  simp only [resolve, List.map_toArray, List.map_cons, List.map_nil]
  rw [he]
  rfl

theorem jump_ends {cx : Ctx} {b : Frame} {cs : List Frame} {ρ ρ' : Rn} {h : AH} {w w3 : World} {m : Machine} {k : List Item} {pend : Option Code} {s3 : St} {tm : Array Value} {ds : List Deferred} (h1 : Step ρ h w ρ' s3.h w3) (h2 : SRel E cx b cs ρ' s3 w3 tm ds)
    (st : Steps P m (lone (frm b tm ds ((pend.map Item.code).toList ++ k)) (recd s3.rc cs) w3)) : Ends P E cx b cs ρ h w m k (jumpOut pend s3) := by
  unfold jumpOut
  split
  · exact ⟨ρ', w3, tm, ds, h1, h2, st⟩
  · exact ⟨ρ', w3, tm, ds, k, h1, h2, st⟩
  · exact ⟨ρ', w3, tm, ds, k, h1, h2, rfl, st⟩
  · trivial

theorem rfunc_ends {C : CallS} (hC : CallOk P E C) {cx : Ctx} {b : Frame} {cs : List Frame} {n : Nat} {f : Operand} {ps : Array Tmp} {asg bo : Code} {ρ : Rn} {s : St} {w : World} {tm : Array Value} {ds : List Deferred} {k : List Item} (h : SRel E cx b cs ρ s w tm ds) :
    Ends P E cx b cs ρ s.h w (lone (frm b tm ds (.code (.rangeFunc f ps asg bo) :: k)) (recd s.rc cs) w) k (ev E C cx (n + 1) (.rfunc f ps.toList asg bo) s) := by
  rw [ev_rfunc]
  cases hrnd : cx.rnd with
  | some l => trivial
  | none =>
    have hx := h.ctx
    unfold CtxOk at hx
    simp only [hrnd] at hx
    simp only []
    refine oOut_ends fun fv hfv => ?_
    cases hc : Nat.blt (s.h.next + 1) cap with
    | false => trivial
    | true =>
      have hc := of_blt hc
      simp only [cond_true]
      have hf' := evalO_rel h.glob (tm := tm) (fun t _ v e => h.regs t v e) hfv
      obtain ⟨ρ2, g1, g2, g3⟩ := Step.enter h.rel h.top hc h.regs h.size b.fn ps.toList asg bo
      have ha : renL ρ2 [.func (.yield (s.h.next + 1)) ⟨[]⟩ ⟨[]⟩] = some [.func (.yield (w.heap.size + 1)) #[] #[]] := by simp [renL, ren, renA, g3]
      have hst := stepG_range (P := P) (b := b) (tm := tm) (ds := ds) (k := k) (cs := recd s.rc cs) (w := w) (f := f) (ps := ps) (asg := asg) (bo := bo) hx.1
      have top2 := g1.top h.top
      have hd2 : DefRel ρ2 ({ target := .collected s.h.next, args := ⟨[]⟩ } :: s.d) ({ target := .collected w.heap.size, args := #[] } :: ds) := ⟨⟨w.heap.size, 0, 0, g2, rfl⟩, h.defs.mono g1.sub⟩
      split
      · trivial
      · rename_i v s' hv
        obtain ⟨q1, ρ', w', v', q2, q3, q4⟩ := call_pan hC hv g1.rel top2 (h.glob.mono g1.sub) (ren_mono g1.sub _ _ hf') ha (by rfl) (by rfl) hst
        have sub := g1.sub.trans q2.sub
        have e1 : s'.rc = s.rc := by rw [q1]
        refine ⟨ρ', w', tm, _, .inRangeFunc (w.heap.size + 1) :: k, v', g1.trans q2, ?_, q3, (fun _ _ _ _ _ e => by cases e), by rw [e1]; exact q4⟩
        exact ⟨q2.rel, q2.top top2, h.glob.mono sub, by rw [q1]; exact h.regs.mono sub, by rw [q1]; exact h.size, by rw [q1]; exact hd2.mono q2.sub, h.ctx.mono sub, by rw [e1]; exact h.rc⟩
      · rename_i v s' hv
        obtain ⟨q1, ρ', w', v', q2, q3, q4⟩ := call_val hC hv g1.rel top2 (h.glob.mono g1.sub) (ren_mono g1.sub _ _ hf') ha (by rfl) (by rfl) hst
        have sub := g1.sub.trans q2.sub
        have e1 : s'.rc = s.rc := by rw [q1]
        have q4 : Steps P _ (lone (frm b tm ({ target := .collected w.heap.size, args := #[] } :: ds) (.endRangeFunc (w.heap.size + 1) :: k)) (recd s.rc cs) w') := q4
        unfold loopOut
        split
        · rename_i st pend fn n' r ps' asg' bo' de hb
          have hl := q2.sub _ _ g3
          obtain ⟨rec, r1, r2, r3, r4, r5, r6, r7, r8, r9⟩ := Step.loop q2.rel hl hb
          have r9' := r9 .exhausted pend
          have hsr : SRel E cx b cs ρ' { s' with h := s'.h.upd (s.h.next + 1) (.loop .exhausted pend fn n' r ps' asg' bo' de) } { w' with heap := w'.heap.setIfInBounds (w.heap.size + 1) (.loop { rec with state := .exhausted, pending := pend }) } tm ({ target := .collected w.heap.size, args := #[] } :: ds) :=
            ⟨r9'.rel, r9'.top (q2.top top2), h.glob.mono sub, by rw [q1]; exact h.regs.mono sub, by rw [q1]; exact h.size, by rw [q1]; exact hd2.mono q2.sub, h.ctx.mono sub, by rw [q1]; exact h.rc⟩
          have hend : st ≠ .busy → (Instr.endLoop (w.heap.size + 1)).run P w' = .ok pend { w' with heap := w'.heap.setIfInBounds (w.heap.size + 1) (.loop { rec with state := .exhausted, pending := pend }) } := fun hst => by
            have hsb : (rec.state == .busy) = false := by rw [r2]; cases st <;> first | rfl | exact absurd rfl hst
            simp only [Instr.endLoop, Sem.run_bind, run_getLoop r1, Result.andThen_ok, hsb, Bool.false_eq_true, if_false, run_setLoop r1, Sem.run_pure, r3]
          have goal : st ≠ .busy → Ends P E cx b cs ρ s.h w (lone (frm b tm ds (.code (.rangeFunc f ps asg bo) :: k)) (recd s.rc cs) w) k (jumpOut pend { s' with h := s'.h.upd (s.h.next + 1) (.loop .exhausted pend fn n' r ps' asg' bo' de) }) := fun hbu => by
            have st1 := q4.trans (to_endRange (hend hbu))
            refine jump_ends ((g1.trans q2).trans r9') hsr ?_
            show Steps P _ (lone _ (recd s'.rc cs) _)
            rw [e1]
            exact st1
          cases st with
          | busy => trivial
          | ready => exact goal (by simp)
          | done => exact goal (by simp)
          | exhausted => exact goal (by simp)
        · trivial

/-- A piece of code, or a loop that goes on. -/
def Entry (code : Code) (k : List Item) (T : List Item) : Prop := T = .code code :: k ∨ ∃ a, code = .loop a ∧ T = .inLoop a :: k

theorem Entry.one {code : Code} {k T : List Item} (h : Entry code k T) (hn : ∀ a, code ≠ .loop a) : T = .code code :: k := by
  rcases h with h | ⟨a, h, _⟩
  · exact h
  · exact absurd h (hn a)

theorem ev_ends (ok : Ok E P) {C : CallS} (hC : CallOk P E C) {cx : Ctx} {b : Frame} {cs : List Frame} : ∀ (n : Nat),
    (∀ (code : Code) {ρ s w tm ds k T}, Entry code k T → SRel E cx b cs ρ s w tm ds → Ends P E cx b cs ρ s.h w (lone (frm b tm ds T) (recd s.rc cs) w) k (ev E C cx n (comp code) s)) ∧
    (∀ (body : Code) (l : Nat) {ρ s w tm ds k k'}, gotoIn l k' = gotoIn l (.inScope body :: k) → SRel E cx b cs ρ s w tm ds → Ends P E cx b cs ρ s.h w (lone (frm b tm ds (.code (.goto l) :: k')) (recd s.rc cs) w) k (ev E C cx n (.scopeAt body l) s))
  | 0 => ⟨fun _ _ _ _ _ _ _ _ _ _ => by unfold ev; trivial, fun _ _ _ _ _ _ _ _ _ _ _ => by unfold ev; trivial⟩
  | n + 1 => by
    obtain ⟨ih, ihs⟩ := ev_ends ok hC (cx := cx) (b := b) (cs := cs) n
    -- a scope's body, and what follows
    have scp : ∀ (body rest : Code) {ρ s w tm ds k}, SRel E cx b cs ρ s w tm ds → Ends P E cx b cs ρ s.h w (lone (frm b tm ds (.code rest :: .inScope body :: k)) (recd s.rc cs) w) k
        (match ev E C cx n (comp rest) s with | .goto l s => ev E C cx n (.scopeAt body l) s | x => x) := by
      intro body rest ρ s w tm ds k h
      have h1 := ih rest (k := .inScope body :: k) (.inl rfl) h
      cases hx : ev E C cx n (comp rest) s with
      | fail => trivial
      | nor s' =>
        rw [hx] at h1
        obtain ⟨ρ', w', tm', ds', g1, g2, g3⟩ := h1
        exact ⟨ρ', w', tm', ds', g1, g2, g3.trans to_inScope⟩
      | exit i s' => rw [hx] at h1; exact h1.passE (by simp [exitTo])
      | goto l s' =>
        rw [hx] at h1
        obtain ⟨ρ', w', tm', ds', k', g1, g2, g3, g4⟩ := h1
        exact .of_step g1 (.of_steps g4 (ihs body l g3 g2))
      | ret s' => rw [hx] at h1; exact h1
      | pan v s' => rw [hx] at h1; exact h1
    refine ⟨fun code {ρ s w tm ds k T} hT h => ?_, fun body l {ρ s w tm ds k k'} hg h => ?_⟩
    · cases code with
      | skip => rw [hT.one (by simp)]; unfold comp ev; exact ⟨ρ, w, tm, ds, Step.refl h.rel, h, to_skip⟩
      | label l => rw [hT.one (by simp)]; unfold comp ev; exact ⟨ρ, w, tm, ds, Step.refl h.rel, h, to_label⟩
      | region id ops draw =>
        rw [hT.one (by simp)]
        cases draw with
        | false =>
          simp only [comp, cond_false]; unfold ev
          exact .of_steps step_regionPlain (evOps_ends ok hC (by apply List.ext_getElem <;> simp) h)
        | true =>
          simp only [comp, cond_true]
          cases hp : plan ops with
          | none => unfold ev; trivial
          | some c => unfold ev; exact draw_ends ok hC hp h
      | seq x y =>
        rw [hT.one (by simp)]
        rw [comp, ev_seq]
        refine .of_steps to_seq ?_
        have h1 := ih x (k := .code y :: k) (.inl rfl) h
        cases hx : ev E C cx n (comp x) s with
        | fail => trivial
        | nor s' =>
          rw [hx] at h1
          obtain ⟨ρ', w', tm', ds', g1, g2, g3⟩ := h1
          exact .of_step g1 (.of_steps g3 (ih y (.inl rfl) g2))
        | exit i s' => rw [hx] at h1; exact h1.passE (by simp [exitTo])
        | goto i s' => rw [hx] at h1; exact h1.passG (by simp [gotoIn])
        | ret s' => rw [hx] at h1; exact h1
        | pan v s' => rw [hx] at h1; exact h1
      | cond x y z =>
        rw [hT.one (by simp)]
        rw [comp, ev_cond]
        split
        · rename_i hx
          have := evalO_rel h.glob (tm := tm) (fun t _ v e => h.regs t v e) hx
          simp [ren] at this
          exact .of_steps (to_cond this.symm) (ih y (.inl rfl) h)
        · rename_i hx
          have := evalO_rel h.glob (tm := tm) (fun t _ v e => h.regs t v e) hx
          simp [ren] at this
          exact .of_steps (to_cond this.symm) (ih z (.inl rfl) h)
        · trivial
      | block id x =>
        rw [hT.one (by simp)]
        rw [comp, ev_block]
        refine .of_steps to_block ?_
        have h1 := ih x (k := .inBlock id :: k) (.inl rfl) h
        cases hx : ev E C cx n (comp x) s with
        | fail => trivial
        | nor s' =>
          rw [hx] at h1
          obtain ⟨ρ', w', tm', ds', g1, g2, g3⟩ := h1
          exact ⟨ρ', w', tm', ds', g1, g2, g3.trans to_inBlock⟩
        | exit i s' =>
          rw [hx] at h1
          simp only []
          cases hi : i.beq id with
          | true =>
            obtain ⟨ρ', w', tm', ds', k', g1, g2, g3, g4⟩ := h1
            have := of_beq hi
            subst this
            exact ⟨ρ', w', tm', ds', g1, g2, g4.trans (to_exit (g3.trans (by simp [exitTo])))⟩
          | false =>
            obtain ⟨ρ', w', tm', ds', k', g1, g2, g3, g4⟩ := h1
            refine ⟨ρ', w', tm', ds', k', g1, g2, g3.trans ?_, g4⟩
            have : (id == i) = false := by simpa using Ne.symm (of_beqF hi)
            simp [exitTo, this]
        | goto i s' => rw [hx] at h1; exact h1.passG (by simp [gotoIn])
        | ret s' => rw [hx] at h1; exact h1
        | pan v s' => rw [hx] at h1; exact h1
      | loop x =>
        have hT' : Steps P (lone (frm b tm ds T) (recd s.rc cs) w) (lone (frm b tm ds (.code x :: .inLoop x :: k)) (recd s.rc cs) w) := by
          rcases hT with rfl | ⟨a, ha, rfl⟩
          · exact to_loop
          · cases ha; exact to_inLoop
        rw [comp, ev_loop]
        refine .of_steps hT' ?_
        have h1 := ih x (k := .inLoop x :: k) (.inl rfl) h
        cases hx : ev E C cx n (comp x) s with
        | fail => trivial
        | nor s' =>
          rw [hx] at h1
          obtain ⟨ρ', w', tm', ds', g1, g2, g3⟩ := h1
          exact .of_step g1 (.of_steps g3 (ih (.loop x) (.inr ⟨x, rfl, rfl⟩) g2))
        | exit i s' => rw [hx] at h1; exact h1.passE (by simp [exitTo])
        | goto i s' => rw [hx] at h1; exact h1.passG (by simp [gotoIn])
        | ret s' => rw [hx] at h1; exact h1
        | pan v s' => rw [hx] at h1; exact h1
      | scope x =>
        rw [hT.one (by simp)]
        rw [comp, ev_scope]
        exact .of_steps to_scope (scp x x h)
      | exit i => rw [hT.one (by simp)]; unfold comp ev; exact ⟨ρ, w, tm, ds, k, Step.refl h.rel, h, rfl, .refl _ _⟩
      | goto l => rw [hT.one (by simp)]; unfold comp ev; exact ⟨ρ, w, tm, ds, k, Step.refl h.rel, h, rfl, .refl _ _⟩
      | ret => rw [hT.one (by simp)]; unfold comp ev; exact ⟨ρ, w, tm, ds, k, Step.refl h.rel, h, .refl _ _⟩
      | rangeFunc f ps asg bo => rw [hT.one (by simp)]; exact rfunc_ends hC h
      | _ => unfold comp ev; trivial
    · rw [ev_scopeAt]
      split
      · rename_i hf
        exact ⟨ρ, w, tm, ds, k', Step.refl h.rel, h, hg.trans (by simp [gotoIn, hf]), .refl _ _⟩
      · rename_i rest hf
        exact .of_steps (to_goto (hg.trans (by simp [gotoIn, hf]))) (scp body rest h)

end Go.Ev
