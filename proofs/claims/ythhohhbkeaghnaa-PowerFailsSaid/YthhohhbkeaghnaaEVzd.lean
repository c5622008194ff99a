/- A deterministic evaluator of the model's code over a memory of its own: more fuel changes nothing. -/
import Derived.Test.YthhohhbkeaghnaaEVzc
set_option linter.unusedSimpArgs false
set_option linter.unusedVariables false
set_option linter.unusedSectionVars false
namespace Go.Ev
variable {E : Env}

def LeC (C C' : CallS) : Prop := ∀ a args p h, C a args p h ≠ .fail → C' a args p h = C a args p h

theorem LeC.refl (C : CallS) : LeC C C := fun _ _ _ _ _ => rfl
theorem LeC.trans {A B C : CallS} (h : LeC A B) (k : LeC B C) : LeC A C := fun a args p m e => by
  have := h a args p m e
  rw [← this] at e
  exact (k a args p m e).trans this

theorem callV_mono {C C' : CallS} (hc : LeC C C') {f : Value} {args : List Value} {s : St} (h : callV C f args s ≠ .fail) : callV C' f args s = callV C f args s := by
  unfold callV at *
  split
  · rename_i g first cp
    simp only at h
    rw [hc (.fn g) (first ++ args ++ cp) none s.h (by intro e; rw [e] at h; exact h rfl)]
  · rename_i l first
    simp only at h
    rw [hc (.yield l) (first ++ args) none s.h (by intro e; rw [e] at h; exact h rfl)]
  · rfl

theorem oOp_mono {α : Type} {x : Option α} {f g : α → OpR} (h : ∀ a, f a ≠ .fail → g a = f a) (hn : oOp x f ≠ .fail) : oOp x g = oOp x f := by
  cases x with
  | none => rfl
  | some a => exact h a hn

theorem oOut_mono {α : Type} {x : Option α} {f g : α → Out} (h : ∀ a, f a ≠ .fail → g a = f a) (hn : oOut x f ≠ .fail) : oOut x g = oOut x f := by
  cases x with
  | none => rfl
  | some a => exact h a hn

theorem evOp_mono {C C' : CallS} (hc : LeC C C') {c : Ctx} {o : Oper} {s : St} (h : evOp E C c o s ≠ .fail) : evOp E C' c o s = evOp E C c o s := by
  obtain ⟨dst, op, type, pos, after, guard⟩ := o
  cases op <;> try rfl
  case call cl =>
    obtain ⟨callee, args, ats⟩ := cl
    cases callee with
    | value f =>
      unfold evOp at *
      exact oOp_mono (fun f1 h1 => oOp_mono (fun vs h2 => callV_mono hc h2) h1) h
    | builtin b => cases b <;> rfl
    | invoke r m => rfl
  case defer cl =>
    obtain ⟨callee, args, ats⟩ := cl
    cases callee <;> rfl

theorem evOps_mono {C C' : CallS} (hc : LeC C C') {c : Ctx} {all : Array Oper} : ∀ {l : List Oper} {s : St}, evOps E C c all l s ≠ .fail → evOps E C' c all l s = evOps E C c all l s
  | [], s, _ => rfl
  | o :: l, s, h => by
    unfold evOps at *
    split
    · rfl
    · rename_i hw
      simp only [hw] at h
      exact oOut_mono (fun a h1 => evOps_mono hc h1) h
    · rename_i hw
      simp only [hw] at h
      have h0 : evOp E C c o s ≠ .fail := by intro e; simp only [e] at h; exact h rfl
      rw [evOp_mono hc h0]
      cases hx : evOp E C c o s with
      | fail => rfl
      | pan v s => rfl
      | val v s =>
        simp only [hx] at h
        exact oOut_mono (fun a h1 => evOps_mono hc h1) h

theorem evDraw_mono {C C' : CallS} (hc : LeC C C') {c : Ctx} {all : Array Oper} : ∀ {l : List PO} {ws : List Watch} {s : St}, evDraw E C c all l ws s ≠ .fail → evDraw E C' c all l ws s = evDraw E C c all l ws s
  | [], ws, s, _ => rfl
  | p :: l, ws, s, h => by
    unfold evDraw at *
    cases hst : isStrict p.2.1 with
    | true =>
      simp only [hst] at h ⊢
      cases hw : checkW E s.h ws with
      | false => rfl
      | true =>
        simp only [hw, cond_true] at h ⊢
        cases hwt : wantedT p.2.1 all s.r with
        | none => rfl
        | some b =>
          cases b with
          | false =>
            simp only [hwt] at h
            exact oOut_mono (fun a h1 => evDraw_mono hc h1) h
          | true =>
            simp only [hwt] at h ⊢
            have h0 : evOp E C c p.2.1 s ≠ .fail := by intro e; simp only [e] at h; exact h rfl
            rw [evOp_mono hc h0]
            cases hx : evOp E C c p.2.1 s with
            | fail => rfl
            | pan v s => rfl
            | val v s =>
              simp only [hx] at h
              exact oOut_mono (fun a h1 => evDraw_mono hc h1) h
    | false =>
      simp only [hst] at h ⊢
      cases hwt : wantedT p.2.1 all s.r with
      | none => rfl
      | some b =>
        cases b with
        | false =>
          simp only [hwt] at h
          exact oOut_mono (fun a h1 => evDraw_mono hc h1) h
        | true =>
          simp only [hwt] at h ⊢
          cases ha : aval E p.2.1 (evalO E.ng s.r) s.h with
          | none => rfl
          | some x =>
            simp only [ha] at h ⊢
            split
            · rename_i hcl
              simp only [hcl] at h
              cases hn : x.2.next.beq s.h.next with
              | false => rfl
              | true =>
                simp only [hn, cond_true] at h ⊢
                exact oOut_mono (fun a h1 => evDraw_mono hc h1) h
            · rename_i hcl
              refine oOut_mono (fun a h1 => evDraw_mono hc h1) ?_
              revert h
              split
              · rename_i hcl'; exact absurd hcl' hcl
              · exact fun h => h

theorem ev_mono {C C' : CallS} (hc : LeC C C') {c : Ctx} : ∀ {n : Nat} {x : AC} {s : St}, ev E C c n x s ≠ .fail → ∀ k, ev E C' c (n + k) x s = ev E C c n x s
  | 0, x, s, h, k => absurd rfl h
  | n + 1, x, s, h, k => by
    rw [show n + 1 + k = (n + k) + 1 by omega]
    have seqs : ∀ {a : AC} {f : Nat → Out → Out} , True := trivial
    cases x with
    | skip => rfl
    | plain ops all => exact evOps_mono hc h
    | draw ops all => exact evDraw_mono hc h
    | bad => rfl
    | seq a b =>
      rw [ev_seq] at h ⊢
      rw [ev_seq]
      have h0 : ev E C c n a s ≠ .fail := by intro e; simp only [e] at h; exact h rfl
      rw [ev_mono hc h0 k]
      cases hx : ev E C c n a s with
      | nor s' => simp only [hx] at h; exact ev_mono hc h k
      | _ => rfl
    | cond x t e =>
      rw [ev_cond] at h ⊢
      rw [ev_cond]
      split
      · rename_i hx; simp only [hx] at h; exact ev_mono hc h k
      · rename_i hx; simp only [hx] at h; exact ev_mono hc h k
      · rfl
    | block id a =>
      rw [ev_block] at h ⊢
      rw [ev_block]
      have h0 : ev E C c n a s ≠ .fail := by intro e; simp only [e] at h; exact h rfl
      rw [ev_mono hc h0 k]
    | loop a =>
      rw [ev_loop] at h ⊢
      rw [ev_loop]
      have h0 : ev E C c n a s ≠ .fail := by intro e; simp only [e] at h; exact h rfl
      rw [ev_mono hc h0 k]
      cases hx : ev E C c n a s with
      | nor s' => simp only [hx] at h; exact ev_mono hc h k
      | _ => rfl
    | scope b =>
      rw [ev_scope] at h ⊢
      rw [ev_scope]
      have h0 : ev E C c n (comp b) s ≠ .fail := by intro e; simp only [e] at h; exact h rfl
      rw [ev_mono hc h0 k]
      cases hx : ev E C c n (comp b) s with
      | goto l s' => simp only [hx] at h; exact ev_mono hc h k
      | _ => rfl
    | scopeAt b l =>
      rw [ev_scopeAt] at h ⊢
      rw [ev_scopeAt]
      cases hf : findLabel b l with
      | none => rfl
      | some rest =>
        simp only [hf] at h ⊢
        have h0 : ev E C c n (comp rest) s ≠ .fail := by intro e; simp only [e] at h; exact h rfl
        rw [ev_mono hc h0 k]
        cases hx : ev E C c n (comp rest) s with
        | goto l s' => simp only [hx] at h; exact ev_mono hc h k
        | _ => rfl
    | rfunc f ps asg bo =>
      rw [ev_rfunc] at h ⊢
      rw [ev_rfunc]
      cases hr : c.rnd with
      | some l => rfl
      | none =>
        simp only [hr] at h ⊢
        refine oOut_mono (fun fv h1 => ?_) h
        cases hb : Nat.blt (s.h.next + 1) cap with
        | false => rfl
        | true =>
          simp only [hb, cond_true] at h1 ⊢
          rw [callV_mono hc (by intro e; simp only [e] at h1; exact h1 rfl)]
    | exit i => rfl
    | goto l => rfl
    | ret => rfl

theorem leave_mono {C C' : CallS} (hc : LeC C C') {res : List ResultVar} {r : Tr Value} {rc : Bool} : ∀ {n : Nat} {m : Option Value} {d : List Deferred} {h : AH}, leave E C res r rc n m d h ≠ .fail → ∀ k, leave E C' res r rc (n + k) m d h = leave E C res r rc n m d h := by
  have nil : ∀ {n n' : Nat} {m : Option Value} {h : AH}, leave E C' res r rc n' m [] h = leave E C res r rc n m [] h := fun {n n' m h} => by
    cases m <;> cases n <;> cases n' <;> rfl
  intro n
  induction n with
  | zero =>
    intro m d h hn k
    cases d with
    | nil => exact nil
    | cons d0 d => exact absurd (by cases m <;> rfl) hn
  | succ n ih =>
    intro m d h hn k
    cases d with
    | nil => exact nil
    | cons d0 d =>
      have he : ∀ (C : CallS) (n : Nat), leave E C res r rc (n + 1) m (d0 :: d) h = (match d0.target with
          | .collected b => match h.b.get b with
            | some (.deferred (some [])) => leave E C res r rc n m d (h.upd b (.deferred none))
            | _ => .fail
          | .fn (.func f) ⟨cp⟩ => match C (.fn f) (d0.args.toList ++ cp) m h with
            | .ret _ h rcd => leave E C res r rc n (bif rcd then none else m) d h
            | _ => .fail
          | _ => .fail) := fun C n => by cases m <;> rfl
      rw [show n + 1 + k = (n + k) + 1 by omega, he, he]
      rw [he] at hn
      cases ht : d0.target with
      | collected bk =>
        simp only [ht] at hn ⊢
        split
        · rename_i hb; simp only [hb] at hn; exact ih hn k
        · rfl
      | fn g cp0 =>
        cases g with
        | func f =>
          obtain ⟨cp⟩ := cp0
          simp only [ht] at hn ⊢
          rw [hc (.fn f) (d0.args.toList ++ cp) m h (by intro e; simp only [e] at hn; exact hn rfl)]
          split
          · rename_i hb; simp only [hb] at hn; exact ih hn k
          · rfl
        | _ => rfl
      | _ => rfl

theorem callN_mono {ft : Tr AFunc} : ∀ {n : Nat}, LeC (callN E ft n) (callN E ft (n + 1))
  | 0 => fun a args p h hn => absurd rfl hn
  | n + 1 => fun a args p h hn => by
    have hc : LeC (callN E ft n) (callN E ft (n + 1)) := callN_mono
    cases a with
    | fn f =>
      rw [callN_fn] at hn ⊢
      rw [callN_fn]
      cases hf : ft.get f with
      | none => rfl
      | some fn =>
        simp only [hf] at hn ⊢
        cases hb : (Nat.ble args.length fn.n && Nat.blt fn.n cap) with
        | false => rfl
        | true =>
          simp only [hb, cond_true] at hn ⊢
          have h0 : ev E (callN E ft n) ⟨none, p⟩ n fn.body ⟨putCells .nil 0 args, fn.n, [], h, false⟩ ≠ .fail := by intro e; rw [e] at hn; exact hn rfl
          rw [ev_mono hc h0 1]
          cases hx : ev E (callN E ft n) ⟨none, p⟩ n fn.body ⟨putCells .nil 0 args, fn.n, [], h, false⟩ with
          | nor s => rw [hx] at hn; exact leave_mono hc hn 1
          | ret s => rw [hx] at hn; exact leave_mono hc hn 1
          | pan v s => rw [hx] at hn; exact leave_mono hc hn 1
          | _ => rfl
    | yield l =>
      rw [callN_yield] at hn ⊢
      rw [callN_yield]
      split
      · rename_i hb
        simp only [hb] at hn
        cases hm : Nat.blt _ cap with
        | false => rfl
        | true =>
          simp only [hm, cond_true] at hn ⊢
          split
          · rfl
          · rename_i hp
            simp only [hp] at hn
            rw [ev_mono hc (by intro e; simp only [e] at hn; exact hn rfl) 1]
            split
            · rename_i hs
              simp only [hs] at hn
              split
              · rename_i hb2
                simp only [hb2] at hn
                rw [ev_mono hc (by intro e; rw [e] at hn; exact hn rfl) 1]
              · rfl
            · rfl
      · rfl

theorem callN_le {ft : Tr AFunc} {n m : Nat} (h : n ≤ m) : LeC (callN E ft n) (callN E ft m) := by
  induction h with
  | refl => exact LeC.refl _
  | step _ ih => exact ih.trans callN_mono

end Go.Ev
