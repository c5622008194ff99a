/- A deterministic evaluator of the model's code over a memory of its own: without fuel. -/
import Derived.Test.YthhohhbkeaghnaaEVzd
set_option linter.unusedSimpArgs false
set_option linter.unusedVariables false
set_option linter.unusedSectionVars false
namespace Go.Ev
variable {E : Env} {ft : Tr AFunc}

open Classical in
/-- What a sequence comes to that stays where it is once it has left the bottom. -/
noncomputable def lim {α : Type} (b : α) (F : Nat → α) : α := if h : ∃ n, F n ≠ b then F (Classical.choose h) else b

def Climb {α : Type} (b : α) (F : Nat → α) : Prop := ∀ n, F n ≠ b → ∀ k, F (n + k) = F n

theorem Climb.of_step {α : Type} {b : α} {F : Nat → α} (h : ∀ n, F n ≠ b → F (n + 1) = F n) : Climb b F := fun n hn k => by
  induction k with
  | zero => rfl
  | succ k ih =>
    have : F (n + k) ≠ b := by rw [ih]; exact hn
    rw [← Nat.add_assoc, h _ this, ih]

theorem lim_of {α : Type} {b : α} {F : Nat → α} (c : Climb b F) {n : Nat} (h : F n ≠ b) : lim b F = F n := by
  unfold lim
  have hx : ∃ n, F n ≠ b := ⟨n, h⟩
  rw [dif_pos hx]
  have hm := Classical.choose_spec hx
  rw [← c _ hm n, ← c _ h (Classical.choose hx), Nat.add_comm]

theorem lim_ev {α : Type} {b : α} {F : Nat → α} (c : Climb b F) : ∃ N, ∀ n, N ≤ n → F n = lim b F := by
  by_cases h : ∃ n, F n ≠ b
  · obtain ⟨N, hN⟩ := h
    refine ⟨N, fun n hn => ?_⟩
    obtain ⟨k, rfl⟩ := Nat.exists_eq_add_of_le hn
    rw [c N hN k, lim_of c hN]
  · refine ⟨0, fun n _ => ?_⟩
    unfold lim
    rw [dif_neg h]
    exact Classical.byContradiction fun e => h ⟨n, e⟩

theorem lim_eq {α : Type} {b : α} {F : Nat → α} (c : Climb b F) {x : α} {N : Nat} (h : ∀ n, N ≤ n → F n = x) : lim b F = x := by
  obtain ⟨M, hM⟩ := lim_ev c
  rw [← hM (N + M) (by omega), h (N + M) (by omega)]

/-- The calls, with as much fuel as they need. -/
noncomputable def CL (E : Env) (ft : Tr AFunc) : CallS := fun a args p h => lim .fail fun n => callN E ft n a args p h

theorem callN_climb (a : Cal) (args : List Value) (p : Option Value) (h : AH) : Climb .fail fun n => callN E ft n a args p h :=
  Climb.of_step fun _ hn => callN_mono a args p h hn

/-- All the calls of a computation have come to their ends at some depth. -/
def Cont (E : Env) (ft : Tr AFunc) {α : Type} (F : CallS → α) (b : α) : Prop := F (CL E ft) ≠ b → ∃ m, ∀ k, m ≤ k → F (callN E ft k) = F (CL E ft)

theorem CL_ev (a : Cal) (args : List Value) (p : Option Value) (h : AH) : ∃ m, ∀ k, m ≤ k → callN E ft k a args p h = CL E ft a args p h := lim_ev (callN_climb a args p h)

theorem callV_cont (f : Value) (args : List Value) (s : St) : ∃ m, ∀ k, m ≤ k → callV (callN E ft k) f args s = callV (CL E ft) f args s := by
  unfold callV
  split
  · rename_i g first cp
    obtain ⟨m, hm⟩ := CL_ev (E := E) (ft := ft) (.fn g) (first ++ args ++ cp) none s.h
    exact ⟨m, fun k hk => by rw [hm k hk]⟩
  · rename_i l first
    obtain ⟨m, hm⟩ := CL_ev (E := E) (ft := ft) (.yield l) (first ++ args) none s.h
    exact ⟨m, fun k hk => by rw [hm k hk]⟩
  · exact ⟨0, fun _ _ => rfl⟩

theorem oOp_cont {α : Type} {x : Option α} {f : CallS → α → OpR} (h : ∀ a, ∃ m, ∀ k, m ≤ k → f (callN E ft k) a = f (CL E ft) a) : ∃ m, ∀ k, m ≤ k → oOp x (f (callN E ft k)) = oOp x (f (CL E ft)) := by
  cases x with
  | none => exact ⟨0, fun _ _ => rfl⟩
  | some a => exact h a

theorem oOut_cont {α : Type} {x : Option α} {f : CallS → α → Out} (h : ∀ a, ∃ m, ∀ k, m ≤ k → f (callN E ft k) a = f (CL E ft) a) : ∃ m, ∀ k, m ≤ k → oOut x (f (callN E ft k)) = oOut x (f (CL E ft)) := by
  cases x with
  | none => exact ⟨0, fun _ _ => rfl⟩
  | some a => exact h a

theorem evOp_cont (c : Ctx) (o : Oper) (s : St) : ∃ m, ∀ k, m ≤ k → evOp E (callN E ft k) c o s = evOp E (CL E ft) c o s := by
  obtain ⟨dst, op, type, pos, after, guard⟩ := o
  cases op <;> try exact ⟨0, fun _ _ => rfl⟩
  case call cl =>
    obtain ⟨callee, args, ats⟩ := cl
    cases callee with
    | value f =>
      exact oOp_cont (f := fun C f1 => oOp (valsV (evalO E.ng s.r) args.toList) fun vs => callV C f1 vs s) fun f1 => oOp_cont (f := fun C vs => callV C f1 vs s) fun vs => callV_cont f1 vs s
    | builtin b => cases b <;> exact ⟨0, fun _ _ => rfl⟩
    | invoke r m => exact ⟨0, fun _ _ => rfl⟩
  case defer cl =>
    obtain ⟨callee, args, ats⟩ := cl
    cases callee <;> exact ⟨0, fun _ _ => rfl⟩

theorem evOps_cont (c : Ctx) (all : Array Oper) : ∀ (l : List Oper) (s : St), ∃ m, ∀ k, m ≤ k → evOps E (callN E ft k) c all l s = evOps E (CL E ft) c all l s
  | [], s => ⟨0, fun _ _ => rfl⟩
  | o :: l, s => by
    unfold evOps
    split
    · exact ⟨0, fun _ _ => rfl⟩
    · exact oOut_cont (f := fun C s => evOps E C c all l s) fun a => evOps_cont c all l a
    · obtain ⟨m1, h1⟩ := evOp_cont (E := E) (ft := ft) c o s
      cases hx : evOp E (CL E ft) c o s with
      | fail => exact ⟨m1, fun k hk => by rw [h1 k hk, hx]⟩
      | pan v s' => exact ⟨m1, fun k hk => by rw [h1 k hk, hx]⟩
      | val v s' =>
        obtain ⟨m2, h2⟩ := oOut_cont (E := E) (ft := ft) (x := putD s' o.dst v) (f := fun C s => evOps E C c all l s) fun a => evOps_cont c all l a
        exact ⟨m1 + m2, fun k hk => by rw [h1 k (by omega), hx]; exact h2 k (by omega)⟩

theorem evDraw_cont (c : Ctx) (all : Array Oper) : ∀ (l : List PO) (ws : List Watch) (s : St), ∃ m, ∀ k, m ≤ k → evDraw E (callN E ft k) c all l ws s = evDraw E (CL E ft) c all l ws s
  | [], ws, s => ⟨0, fun _ _ => rfl⟩
  | p :: l, ws, s => by
    unfold evDraw
    cases isStrict p.2.1 with
    | true =>
      cases checkW E s.h ws with
      | false => exact ⟨0, fun _ _ => rfl⟩
      | true =>
        simp only [cond_true]
        split
        · exact ⟨0, fun _ _ => rfl⟩
        · exact oOut_cont (f := fun C s => evDraw E C c all l _ s) fun a => evDraw_cont c all l _ a
        · obtain ⟨m1, h1⟩ := evOp_cont (E := E) (ft := ft) c p.2.1 s
          cases hx : evOp E (CL E ft) c p.2.1 s with
          | fail => exact ⟨m1, fun k hk => by rw [h1 k hk, hx]⟩
          | pan v s' => exact ⟨m1, fun k hk => by rw [h1 k hk, hx]⟩
          | val v s' =>
            obtain ⟨m2, h2⟩ := oOut_cont (E := E) (ft := ft) (x := putD s' p.2.1.dst v) (f := fun C s => evDraw E C c all l (moreW p.2.2 ws) s) fun a => evDraw_cont c all l _ a
            exact ⟨m1 + m2, fun k hk => by rw [h1 k (by omega), hx]; exact h2 k (by omega)⟩
    | false =>
      simp only []
      split
      · exact ⟨0, fun _ _ => rfl⟩
      · exact oOut_cont (f := fun C s => evDraw E C c all l _ s) fun a => evDraw_cont c all l _ a
      · split
        · exact ⟨0, fun _ _ => rfl⟩
        · rename_i x hx
          split
          · cases x.2.next.beq s.h.next with
            | false => exact ⟨0, fun _ _ => rfl⟩
            | true => exact oOut_cont (f := fun C s' => evDraw E C c all l _ s') fun a => evDraw_cont c all l _ a
          · exact oOut_cont (f := fun C s => evDraw E C c all l _ s) fun a => evDraw_cont c all l _ a

theorem ev_cont (c : Ctx) : ∀ (n : Nat) (x : AC) (s : St), ∃ m, ∀ k, m ≤ k → ev E (callN E ft k) c n x s = ev E (CL E ft) c n x s
  | 0, x, s => ⟨0, fun _ _ => rfl⟩
  | n + 1, x, s => by
    cases x with
    | skip => exact ⟨0, fun _ _ => rfl⟩
    | plain ops all => exact evOps_cont c all ops s
    | draw ops all => exact evDraw_cont c all ops [] s
    | bad => exact ⟨0, fun _ _ => rfl⟩
    | seq a b =>
      obtain ⟨m1, h1⟩ := ev_cont c n a s
      cases hx : ev E (CL E ft) c n a s with
      | nor s' =>
        obtain ⟨m2, h2⟩ := ev_cont c n b s'
        exact ⟨m1 + m2, fun k hk => by rw [ev_seq, ev_seq, h1 k (by omega), hx]; exact h2 k (by omega)⟩
      | _ => exact ⟨m1, fun k hk => by rw [ev_seq, ev_seq, h1 k (by omega), hx]⟩
    | cond x t e =>
      obtain ⟨m1, h1⟩ := ev_cont c n t s
      obtain ⟨m2, h2⟩ := ev_cont c n e s
      exact ⟨m1 + m2, fun k hk => by rw [ev_cond, ev_cond, h1 k (by omega), h2 k (by omega)]⟩
    | block id a =>
      obtain ⟨m1, h1⟩ := ev_cont c n a s
      exact ⟨m1, fun k hk => by rw [ev_block, ev_block, h1 k (by omega)]⟩
    | loop a =>
      obtain ⟨m1, h1⟩ := ev_cont c n a s
      cases hx : ev E (CL E ft) c n a s with
      | nor s' =>
        obtain ⟨m2, h2⟩ := ev_cont c n (.loop a) s'
        exact ⟨m1 + m2, fun k hk => by rw [ev_loop, ev_loop, h1 k (by omega), hx]; exact h2 k (by omega)⟩
      | _ => exact ⟨m1, fun k hk => by rw [ev_loop, ev_loop, h1 k (by omega), hx]⟩
    | scope b =>
      obtain ⟨m1, h1⟩ := ev_cont c n (comp b) s
      cases hx : ev E (CL E ft) c n (comp b) s with
      | goto l s' =>
        obtain ⟨m2, h2⟩ := ev_cont c n (.scopeAt b l) s'
        exact ⟨m1 + m2, fun k hk => by rw [ev_scope, ev_scope, h1 k (by omega), hx]; exact h2 k (by omega)⟩
      | _ => exact ⟨m1, fun k hk => by rw [ev_scope, ev_scope, h1 k (by omega), hx]⟩
    | scopeAt b l =>
      cases hf : findLabel b l with
      | none => exact ⟨0, fun k _ => by rw [ev_scopeAt, ev_scopeAt, hf]⟩
      | some rest =>
        obtain ⟨m1, h1⟩ := ev_cont c n (comp rest) s
        cases hx : ev E (CL E ft) c n (comp rest) s with
        | goto l s' =>
          obtain ⟨m2, h2⟩ := ev_cont c n (.scopeAt b l) s'
          exact ⟨m1 + m2, fun k hk => by rw [ev_scopeAt, ev_scopeAt, hf]; simp only []; rw [h1 k (by omega), hx]; exact h2 k (by omega)⟩
        | _ => exact ⟨m1, fun k hk => by rw [ev_scopeAt, ev_scopeAt, hf]; simp only []; rw [h1 k (by omega), hx]⟩
    | rfunc f ps asg bo =>
      cases hr : c.rnd with
      | some l => exact ⟨0, fun k _ => by rw [ev_rfunc, ev_rfunc, hr]⟩
      | none =>
        cases hv : evalO E.ng s.r f with
        | none => exact ⟨0, fun k _ => by rw [ev_rfunc, ev_rfunc, hr, hv]; rfl⟩
        | some fv =>
          obtain ⟨m, h⟩ := callV_cont (E := E) (ft := ft) fv [.func (.yield (s.h.next + 1)) ⟨[]⟩ ⟨[]⟩] { s with h := (s.h.new (.deferred (some []))).new (.loop .ready none 0 s.n s.r ps asg bo s.h.next), d := { target := .collected s.h.next, args := ⟨[]⟩ } :: s.d }
          exact ⟨m, fun k hk => by rw [ev_rfunc, ev_rfunc, hr, hv]; simp only [oOut]; rw [h k hk]⟩
    | exit i => exact ⟨0, fun _ _ => rfl⟩
    | goto l => exact ⟨0, fun _ _ => rfl⟩
    | ret => exact ⟨0, fun _ _ => rfl⟩

theorem leave_cont (res : List ResultVar) (r : Tr Value) (rc : Bool) : ∀ (n : Nat) (m : Option Value) (d : List Deferred) (h : AH), ∃ j, ∀ k, j ≤ k → leave E (callN E ft k) res r rc n m d h = leave E (CL E ft) res r rc n m d h := by
  have nil : ∀ (n : Nat) (m : Option Value) (h : AH) (C C' : CallS), leave E C' res r rc n m [] h = leave E C res r rc n m [] h := fun n m h C C' => by
    cases m <;> cases n <;> rfl
  intro n
  induction n with
  | zero =>
    intro m d h
    cases d with
    | nil => exact ⟨0, fun k _ => nil _ _ _ _ _⟩
    | cons d0 d => exact ⟨0, fun k _ => by cases m <;> rfl⟩
  | succ n ih =>
    intro m d h
    cases d with
    | nil => exact ⟨0, fun k _ => nil _ _ _ _ _⟩
    | cons d0 d =>
      have he : ∀ (C : CallS) (n : Nat), leave E C res r rc (n + 1) m (d0 :: d) h = (match d0.target with
          | .collected b => match h.b.get b with
            | some (.deferred (some [])) => leave E C res r rc n m d (h.upd b (.deferred none))
            | _ => .fail
          | .fn (.func f) ⟨cp⟩ => match C (.fn f) (d0.args.toList ++ cp) m h with
            | .ret _ h rcd => leave E C res r rc n (bif rcd then none else m) d h
            | _ => .fail
          | _ => .fail) := fun C n => by cases m <;> rfl
      cases ht : d0.target with
      | collected bk =>
        obtain ⟨j, hj⟩ := ih m d (h.upd bk (.deferred none))
        exact ⟨j, fun k hk => by rw [he, he, ht]; simp only []; rw [hj k hk]⟩
      | fn g cp0 =>
        cases g with
        | func f =>
          obtain ⟨cp⟩ := cp0
          obtain ⟨j1, hj1⟩ := CL_ev (E := E) (ft := ft) (.fn f) (d0.args.toList ++ cp) m h
          cases hx : CL E ft (.fn f) (d0.args.toList ++ cp) m h with
          | ret v h1 rcd =>
            obtain ⟨j2, hj2⟩ := ih (bif rcd then none else m) d h1
            exact ⟨j1 + j2, fun k hk => by rw [he, he, ht]; simp only []; rw [hj1 k (by omega), hx]; exact hj2 k (by omega)⟩
          | _ => exact ⟨j1, fun k hk => by rw [he, he, ht]; simp only []; rw [hj1 k (by omega), hx]⟩
        | _ => exact ⟨0, fun k _ => by rw [he, he, ht]⟩
      | _ => exact ⟨0, fun k _ => by rw [he, he, ht]⟩

end Go.Ev
