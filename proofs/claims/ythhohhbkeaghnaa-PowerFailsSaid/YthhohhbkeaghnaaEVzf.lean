/- A deterministic evaluator of the model's code over a memory of its own: equations without fuel. -/
import Derived.Test.YthhohhbkeaghnaaEVze
set_option linter.unusedSimpArgs false
set_option linter.unusedVariables false
set_option linter.unusedSectionVars false
namespace Go.Ev
variable {E : Env} {ft : Tr AFunc} {P : Program}

theorem le_CL (n : Nat) : LeC (callN E ft n) (CL E ft) := fun a args p h hn => lim_of (callN_climb a args p h) hn

noncomputable def evL (E : Env) (ft : Tr AFunc) (c : Ctx) (x : AC) (s : St) : Out := lim .fail fun n => ev E (CL E ft) c n x s

theorem ev_climb (c : Ctx) (x : AC) (s : St) : Climb .fail fun n => ev E (CL E ft) c n x s := fun _ hn k => ev_mono (LeC.refl _) hn k

theorem evL_ev (c : Ctx) (x : AC) (s : St) : ∃ N, ∀ n, N ≤ n → ev E (CL E ft) c n x s = evL E ft c x s := lim_ev (ev_climb c x s)

theorem evL_of {c : Ctx} {x : AC} {s : St} {o : Out} {N : Nat} (h : ∀ n, N ≤ n → ev E (CL E ft) c (n + 1) x s = o) : evL E ft c x s = o :=
  lim_eq (ev_climb c x s) (N := N + 1) fun n hn => by
    obtain ⟨k, rfl⟩ := Nat.exists_eq_add_of_le hn
    rw [show N + 1 + k = (N + k) + 1 by omega]
    exact h _ (by omega)

theorem ev_diag (c : Ctx) (x : AC) (s : St) : ∃ N, ∀ n, N ≤ n → ev E (callN E ft n) c n x s = evL E ft c x s := by
  obtain ⟨N, hN⟩ := evL_ev (E := E) (ft := ft) c x s
  by_cases ho : evL E ft c x s = .fail
  · refine ⟨N, fun n hn => ?_⟩
    rw [ho]
    refine Classical.byContradiction fun e => ?_
    have := ev_mono (le_CL n) e 0
    have h2 := hN n hn
    rw [Nat.add_zero] at this
    rw [h2, ho] at this
    exact e this.symm
  · obtain ⟨m, hm⟩ := ev_cont (E := E) (ft := ft) c N x s
    refine ⟨N + m, fun n hn => ?_⟩
    obtain ⟨k, rfl⟩ := Nat.exists_eq_add_of_le hn
    have h1 := hm (N + m + k) (by omega)
    rw [hN N (Nat.le_refl _)] at h1
    have h2 : ev E (callN E ft (N + m + k)) c N x s ≠ .fail := by rw [h1]; exact ho
    have h3 := ev_mono (LeC.refl _) h2 (m + k)
    rw [← Nat.add_assoc] at h3
    rw [h3, h1]

section eqs
variable {c : Ctx} {s : St}
theorem evL_skip : evL E ft c .skip s = .nor s := evL_of (N := 0) fun _ _ => rfl
theorem evL_plain {ops : List Oper} {all : Array Oper} : evL E ft c (.plain ops all) s = evOps E (CL E ft) c all ops s := evL_of (N := 0) fun _ _ => rfl
theorem evL_draw {ops : List PO} {all : Array Oper} : evL E ft c (.draw ops all) s = evDraw E (CL E ft) c all ops [] s := evL_of (N := 0) fun _ _ => rfl
theorem evL_exit {i : Nat} : evL E ft c (.exit i) s = .exit i s := evL_of (N := 0) fun _ _ => rfl
theorem evL_goto {i : Nat} : evL E ft c (.goto i) s = .goto i s := evL_of (N := 0) fun _ _ => rfl
theorem evL_ret : evL E ft c .ret s = .ret s := evL_of (N := 0) fun _ _ => rfl

theorem evL_seq {a b : AC} : evL E ft c (.seq a b) s = (match evL E ft c a s with | .nor s => evL E ft c b s | x => x) := by
  obtain ⟨N1, h1⟩ := evL_ev (E := E) (ft := ft) c a s
  cases hx : evL E ft c a s with
  | nor s' =>
    obtain ⟨N2, h2⟩ := evL_ev (E := E) (ft := ft) c b s'
    exact evL_of (N := N1 + N2) fun n hn => by rw [ev_seq, h1 n (by omega), hx]; exact h2 n (by omega)
  | _ => exact evL_of (N := N1) fun n hn => by rw [ev_seq, h1 n hn, hx]

theorem evL_cond {x : Operand} {t e : AC} : evL E ft c (.cond x t e) s = (match evalO E.ng s.r x with | some (.bool true) => evL E ft c t s | some (.bool false) => evL E ft c e s | _ => .fail) := by
  obtain ⟨N1, h1⟩ := evL_ev (E := E) (ft := ft) c t s
  obtain ⟨N2, h2⟩ := evL_ev (E := E) (ft := ft) c e s
  exact evL_of (N := N1 + N2) fun n hn => by rw [ev_cond, h1 n (by omega), h2 n (by omega)]; rfl

theorem evL_block {id : Nat} {a : AC} : evL E ft c (.block id a) s = (match evL E ft c a s with | .exit i s => bif i.beq id then .nor s else .exit i s | x => x) := by
  obtain ⟨N1, h1⟩ := evL_ev (E := E) (ft := ft) c a s
  exact evL_of (N := N1) fun n hn => by rw [ev_block, h1 n hn]; rfl

theorem evL_loop {a : AC} : evL E ft c (.loop a) s = (match evL E ft c a s with | .nor s => evL E ft c (.loop a) s | x => x) := by
  obtain ⟨N1, h1⟩ := evL_ev (E := E) (ft := ft) c a s
  cases hx : evL E ft c a s with
  | nor s' =>
    obtain ⟨N2, h2⟩ := evL_ev (E := E) (ft := ft) c (.loop a) s'
    exact evL_of (N := N1 + N2) fun n hn => by rw [ev_loop, h1 n (by omega), hx]; exact h2 n (by omega)
  | _ => exact evL_of (N := N1) fun n hn => by rw [ev_loop, h1 n hn, hx]

theorem evL_scope {b : Code} : evL E ft c (.scope b) s = (match evL E ft c (comp b) s with | .goto l s => evL E ft c (.scopeAt b l) s | x => x) := by
  obtain ⟨N1, h1⟩ := evL_ev (E := E) (ft := ft) c (comp b) s
  cases hx : evL E ft c (comp b) s with
  | goto l s' =>
    obtain ⟨N2, h2⟩ := evL_ev (E := E) (ft := ft) c (.scopeAt b l) s'
    exact evL_of (N := N1 + N2) fun n hn => by rw [ev_scope, h1 n (by omega), hx]; exact h2 n (by omega)
  | _ => exact evL_of (N := N1) fun n hn => by rw [ev_scope, h1 n hn, hx]

theorem evL_scopeAt {b : Code} {l : Nat} : evL E ft c (.scopeAt b l) s = (match findLabel b l with | none => .goto l s | some rest => match evL E ft c (comp rest) s with | .goto l s => evL E ft c (.scopeAt b l) s | x => x) := by
  cases hf : findLabel b l with
  | none => exact evL_of (N := 0) fun n _ => by rw [ev_scopeAt, hf]
  | some rest =>
    obtain ⟨N1, h1⟩ := evL_ev (E := E) (ft := ft) c (comp rest) s
    simp only []
    cases hx : evL E ft c (comp rest) s with
    | goto l s' =>
      obtain ⟨N2, h2⟩ := evL_ev (E := E) (ft := ft) c (.scopeAt b l) s'
      exact evL_of (N := N1 + N2) fun n hn => by rw [ev_scopeAt, hf]; simp only []; rw [h1 n (by omega), hx]; exact h2 n (by omega)
    | _ => exact evL_of (N := N1) fun n hn => by rw [ev_scopeAt, hf]; simp only []; rw [h1 n hn, hx]

theorem evL_rfunc {f : Operand} {ps : List Tmp} {asg bo : Code} : evL E ft c (.rfunc f ps asg bo) s = (match c.rnd with
      | some _ => .fail
      | none => oOut (evalO E.ng s.r f) fun fv =>
        bif Nat.blt (s.h.next + 1) cap then
          match callV (CL E ft) fv [.func (.yield (s.h.next + 1)) ⟨[]⟩ ⟨[]⟩] { s with h := (s.h.new (.deferred (some []))).new (.loop .ready none 0 s.n s.r ps asg bo s.h.next), d := { target := .collected s.h.next, args := ⟨[]⟩ } :: s.d } with
          | .fail => .fail
          | .pan v s => .pan v s
          | .val _ s' => loopOut (s.h.next + 1) s'
        else .fail) := evL_of (N := 0) fun _ _ => ev_rfunc
end eqs

noncomputable def leaveL (E : Env) (ft : Tr AFunc) (res : List ResultVar) (r : Tr Value) (rc : Bool) (m : Option Value) (d : List Deferred) (h : AH) : CRes := lim .fail fun n => leave E (CL E ft) res r rc n m d h

theorem leave_climb (res : List ResultVar) (r : Tr Value) (rc : Bool) (m : Option Value) (d : List Deferred) (h : AH) : Climb .fail fun n => leave E (CL E ft) res r rc n m d h := fun _ hn k => leave_mono (LeC.refl _) hn k

theorem leave_diag (res : List ResultVar) (r : Tr Value) (rc : Bool) (m : Option Value) (d : List Deferred) (h : AH) : ∃ N, ∀ n, N ≤ n → leave E (callN E ft n) res r rc n m d h = leaveL E ft res r rc m d h := by
  obtain ⟨N, hN⟩ := lim_ev (leave_climb (E := E) (ft := ft) res r rc m d h)
  by_cases ho : leaveL E ft res r rc m d h = .fail
  · refine ⟨N, fun n hn => ?_⟩
    rw [ho]
    refine Classical.byContradiction fun e => ?_
    have h1 := leave_mono (le_CL n) e 0
    have h2 : leave E (CL E ft) res r rc n m d h = .fail := (hN n hn).trans ho
    rw [Nat.add_zero, h2] at h1
    exact e h1.symm
  · obtain ⟨j, hj⟩ := leave_cont (E := E) (ft := ft) res r rc N m d h
    refine ⟨N + j, fun n hn => ?_⟩
    obtain ⟨k, rfl⟩ := Nat.exists_eq_add_of_le hn
    have h1 : leave E (callN E ft (N + j + k)) res r rc N m d h = leaveL E ft res r rc m d h := (hj (N + j + k) (by omega)).trans (hN N (Nat.le_refl _))
    have h2 : leave E (callN E ft (N + j + k)) res r rc N m d h ≠ .fail := by rw [h1]; exact ho
    have h3 := leave_mono (LeC.refl _) h2 (j + k)
    rw [← Nat.add_assoc] at h3
    rw [h3, h1]

theorem leaveL_nil {res : List ResultVar} {r : Tr Value} {rc : Bool} {h : AH} : leaveL E ft res r rc none [] h = (match resultsV E r h res with | some vs => .ret (oneOf vs) h rc | none => .fail) :=
  lim_eq (leave_climb res r rc none [] h) (N := 0) fun n _ => by cases n <;> rfl

theorem leaveL_pan {res : List ResultVar} {r : Tr Value} {rc : Bool} {v : Value} {h : AH} : leaveL E ft res r rc (some v) [] h = (bif rc then .fail else .pan v h) :=
  lim_eq (leave_climb res r rc (some v) [] h) (N := 0) fun n _ => by cases n <;> rfl

theorem leaveL_cons {res : List ResultVar} {r : Tr Value} {rc : Bool} {m : Option Value} {d0 : Deferred} {d : List Deferred} {h : AH} : leaveL E ft res r rc m (d0 :: d) h = (match d0.target with
    | .collected b => match h.b.get b with
      | some (.deferred (some [])) => leaveL E ft res r rc m d (h.upd b (.deferred none))
      | _ => .fail
    | .fn (.func f) ⟨cp⟩ => match CL E ft (.fn f) (d0.args.toList ++ cp) m h with
      | .ret _ h rcd => leaveL E ft res r rc (bif rcd then none else m) d h
      | _ => .fail
    | _ => .fail) := by
  have he : ∀ (C : CallS) (n : Nat), leave E C res r rc (n + 1) m (d0 :: d) h = (match d0.target with
      | .collected b => match h.b.get b with
        | some (.deferred (some [])) => leave E C res r rc n m d (h.upd b (.deferred none))
        | _ => .fail
      | .fn (.func f) ⟨cp⟩ => match C (.fn f) (d0.args.toList ++ cp) m h with
        | .ret _ h rcd => leave E C res r rc n (bif rcd then none else m) d h
        | _ => .fail
      | _ => .fail) := fun C n => by cases m <;> rfl
  have go : ∀ {x : CRes} {N : Nat}, (∀ n, N ≤ n → leave E (CL E ft) res r rc (n + 1) m (d0 :: d) h = x) → leaveL E ft res r rc m (d0 :: d) h = x := fun {x N} hx =>
    lim_eq (leave_climb res r rc m (d0 :: d) h) (N := N + 1) fun n hn => by
      obtain ⟨k, rfl⟩ := Nat.exists_eq_add_of_le hn
      rw [show N + 1 + k = (N + k) + 1 by omega]
      exact hx _ (by omega)
  cases ht : d0.target with
  | collected bk =>
    obtain ⟨N, hN⟩ := lim_ev (leave_climb (E := E) (ft := ft) res r rc m d (h.upd bk (.deferred none)))
    exact go (N := N) fun n hn => by rw [he, ht]; simp only []; rw [hN n hn]; rfl
  | fn g cp0 =>
    cases g with
    | func f =>
      obtain ⟨cp⟩ := cp0
      simp only []
      cases hx : CL E ft (.fn f) (d0.args.toList ++ cp) m h with
      | ret v h1 rcd =>
        obtain ⟨N, hN⟩ := lim_ev (leave_climb (E := E) (ft := ft) res r rc (bif rcd then none else m) d h1)
        exact go (N := N) fun n hn => by rw [he, ht]; simp only []; rw [hx]; exact hN n hn
      | _ => exact go (N := 0) fun n _ => by rw [he, ht]; simp only []; rw [hx]
    | _ => exact go (N := 0) fun n _ => by rw [he, ht]
  | _ => exact go (N := 0) fun n _ => by rw [he, ht]

/-- How a function's body comes to its end. -/
noncomputable def bodyL (E : Env) (ft : Tr AFunc) (res : List ResultVar) : Out → CRes
  | .nor s => leaveL E ft res s.r s.rc none s.d s.h
  | .ret s => leaveL E ft res s.r s.rc none s.d s.h
  | .pan v s => leaveL E ft res s.r s.rc (some v) s.d s.h
  | _ => .fail

theorem CL_of {a : Cal} {args : List Value} {p : Option Value} {h : AH} {x : CRes} {N : Nat} (hx : ∀ n, N ≤ n → callN E ft (n + 1) a args p h = x) : CL E ft a args p h = x :=
  lim_eq (callN_climb a args p h) (N := N + 1) fun n hn => by
    obtain ⟨k, rfl⟩ := Nat.exists_eq_add_of_le hn
    rw [show N + 1 + k = (N + k) + 1 by omega]
    exact hx _ (by omega)

theorem CL_fn {f : FuncId} {args : List Value} {pan : Option Value} {h : AH} {fn : AFunc} (hf : ft.get f = some fn) : CL E ft (.fn f) args pan h =
    (bif Nat.ble args.length fn.n && Nat.blt fn.n cap then bodyL E ft fn.results (evL E ft ⟨none, pan⟩ fn.body ⟨putCells .nil 0 args, fn.n, [], h, false⟩) else .fail) := by
  cases hb : (Nat.ble args.length fn.n && Nat.blt fn.n cap) with
  | false => simp only [cond_false]; exact CL_of (N := 0) fun n _ => by rw [callN_fn, hf]; simp only [hb, cond_false]
  | true =>
    obtain ⟨N1, h1⟩ := ev_diag (E := E) (ft := ft) ⟨none, pan⟩ fn.body ⟨putCells .nil 0 args, fn.n, [], h, false⟩
    have step : ∀ n, N1 ≤ n → callN E ft (n + 1) (.fn f) args pan h = bodyOf E (callN E ft n) fn n (evL E ft ⟨none, pan⟩ fn.body ⟨putCells .nil 0 args, fn.n, [], h, false⟩) := fun n hn => by
      rw [callN_fn, hf]; simp only [hb, cond_true]; rw [h1 n hn]
    simp only [cond_true]
    cases hx : evL E ft ⟨none, pan⟩ fn.body ⟨putCells .nil 0 args, fn.n, [], h, false⟩ with
    | nor s =>
      obtain ⟨N2, h2⟩ := leave_diag (E := E) (ft := ft) fn.results s.r s.rc none s.d s.h
      exact CL_of (N := N1 + N2) fun n hn => by rw [step n (by omega), hx]; exact h2 n (by omega)
    | ret s =>
      obtain ⟨N2, h2⟩ := leave_diag (E := E) (ft := ft) fn.results s.r s.rc none s.d s.h
      exact CL_of (N := N1 + N2) fun n hn => by rw [step n (by omega), hx]; exact h2 n (by omega)
    | pan v s =>
      obtain ⟨N2, h2⟩ := leave_diag (E := E) (ft := ft) fn.results s.r s.rc (some v) s.d s.h
      exact CL_of (N := N1 + N2) fun n hn => by rw [step n (by omega), hx]; exact h2 n (by omega)
    | _ => exact CL_of (N := N1) fun n hn => by rw [step n hn, hx]; rfl

theorem CL_yield {l : Nat} {args : List Value} {pan : Option Value} {h : AH} {pend : Option Code} {fn : FuncId} {m : Nat} {r : Tr Value} {ps : List Tmp} {asg bo : Code} {de : Nat} (hb : h.b.get l = some (.loop .ready pend fn m r ps asg bo de)) (hm : m < cap) {r2 : Tr Value} (hp : putAll m r ps args = some r2)
    {s : St} (ha : evL E ft ⟨some l, none⟩ (comp asg) ⟨r2, m, [], h, false⟩ = .nor s) {pend1 : Option Code} {fn1 : FuncId} {m1 : Nat} {r1 : Tr Value} {ps1 : List Tmp} {asg1 bo1 : Code} {de1 : Nat} (hb1 : s.h.b.get l = some (.loop .ready pend1 fn1 m1 r1 ps1 asg1 bo1 de1)) :
    CL E ft (.yield l) args pan h = endOf l (evL E ft ⟨some l, none⟩ (comp bo) { s with h := s.h.upd l (.loop .busy pend1 fn1 m1 r1 ps1 asg1 bo1 de1) }) := by
  obtain ⟨N1, h1⟩ := ev_diag (E := E) (ft := ft) ⟨some l, none⟩ (comp asg) ⟨r2, m, [], h, false⟩
  obtain ⟨N2, h2⟩ := ev_diag (E := E) (ft := ft) ⟨some l, none⟩ (comp bo) { s with h := s.h.upd l (.loop .busy pend1 fn1 m1 r1 ps1 asg1 bo1 de1) }
  refine CL_of (N := N1 + N2) fun n hn => ?_
  have hm' : Nat.blt m cap = true := Nat.ble_eq_true_of_le hm
  rw [callN_yield, hb]
  simp only [hm', cond_true, hp]
  rw [h1 n (by omega), ha]
  simp only [hb1]
  rw [h2 n (by omega)]

theorem calls_of_CL (ok : Ok E P) (kn : KnownOk E P) (tab : TabOk P ft) {f : FuncId} {af : AFunc} (hf : ft.get f = some af) {args : List Value} {h h' : AH} {v : Value} {rc : Bool} (e : CL E ft (.fn f) args none h = .ret v h' rc) {ρ : Rn} {w : World} (hr : WRel ρ h w) (top : Top ρ h) (hg : GlobOk E ρ) {args' : List Value} (ha : renL ρ args = some args') :
    Calls P f ⟨args'⟩ w fun e w' => ∃ ρ' v', Step ρ h w ρ' h' w' ∧ ren ρ' v = some v' ∧ e = .returned v' := by
  obtain ⟨N, hN⟩ := CL_ev (E := E) (ft := ft) (.fn f) args none h
  exact calls_of ok kn tab hf ((hN N (Nat.le_refl _)).trans e) hr top hg ha

/-- What is known of a call. -/
theorem CL_known {f : FuncId} {v : Value} {h : AH} (hf : ft.get f = none) (hs : E.same f = false) (hk : E.known f = some v) : CL E ft (.fn f) [] none h = .ret v h false :=
  CL_of (N := 0) fun n _ => by rw [callN_fn, hf]; simp only [hs, hk, cond_false]

/-- What is evaluated with fuel is what comes without. -/
theorem CL_callN {n : Nat} {a : Cal} {args : List Value} {p : Option Value} {h : AH} {x : CRes} (e : callN E ft n a args p h = x) (hx : x ≠ .fail) : CL E ft a args p h = x := by
  subst e; exact le_CL n a args p h hx

end Go.Ev
