/- A deterministic evaluator of the model's code over a memory of its own: what holds of what comes of a piece of code. -/
import Derived.Test.YthhohhbkeaghnaaEVzj
set_option linter.unusedSimpArgs false
set_option linter.unusedVariables false
set_option linter.unusedSectionVars false
namespace Go.Ev
variable {E : Env} {ft : Tr AFunc} {P : Program} {c : Ctx} {s : St}

/-- K holds of what comes of a piece of code. -/
def W (E : Env) (ft : Tr AFunc) (c : Ctx) (x : Code) (s : St) (K : Out → Prop) : Prop := K (evC E ft c x s)
def kSeq (E : Env) (ft : Tr AFunc) (c : Ctx) (b : Code) (K : Out → Prop) : Out → Prop
  | .nor s => W E ft c b s K
  | x => K x
def kBlk (id : Nat) (K : Out → Prop) : Out → Prop
  | .exit i s => if i = id then K (.nor s) else K (.exit i s)
  | x => K x
def kLoop (M : Nat → St → Prop) (k : Nat) (K : Out → Prop) : Out → Prop
  | .nor s => ∃ k', k' < k ∧ M k' s
  | x => K x
def kBody (E : Env) (ft : Tr AFunc) (res : List ResultVar) (K : CRes → Prop) (o : Out) : Prop := K (bodyL E ft res o)
def kRes (K : CRes → Prop) (h : AH) (rc : Bool) : Option (List Value) → Prop
  | some vs => K (.ret (oneOf vs) h rc)
  | none => K .fail
def callK (E : Env) (ft : Tr AFunc) (c : Ctx) (all : Array Oper) (dst : Option Tmp) (l : List Oper) (s : St) (K : Out → Prop) (x : CRes) : Prop := K (stepO E ft c all dst l (callR s x))
def dcallK (E : Env) (ft : Tr AFunc) (c : Ctx) (all : Array Oper) (o : Oper) (m : Nat) (l : List PO) (ws : List Watch) (s : St) (K : Out → Prop) (x : CRes) : Prop := K (dOp E ft c all o m l ws (callR s x))
variable {K : Out → Prop}

theorem W_body {f : FuncId} {fn : Func} {body : Code} {args : List Value} {pan : Option Value} {h : AH} {K : CRes → Prop} (hf : ft.get f = some ⟨fn.ntmps, fn.results.toList, comp body⟩) (h1 : args.length ≤ fn.ntmps) (h2 : fn.ntmps < cap)
    (hw : W E ft ⟨none, pan⟩ body ⟨putCells .nil 0 args, fn.ntmps, [], h, false⟩ (kBody E ft fn.results.toList K)) : K (CL E ft (.fn f) args pan h) := by
  rw [CL_body hf h1 h2]; exact hw

@[go_sem ↓] theorem W_skip : W E ft c .skip s K = K (.nor s) := by unfold W; rw [evC_skip]
@[go_sem ↓] theorem W_label {l : Nat} : W E ft c (.label l) s K = K (.nor s) := by unfold W; rw [evC_label]
@[go_sem ↓] theorem W_exit {i : Nat} : W E ft c (.exit i) s K = K (.exit i s) := by unfold W; rw [evC_exit]
@[go_sem ↓] theorem W_ret : W E ft c .ret s K = K (.ret s) := by unfold W; rw [evC_ret]
@[go_sem ↓] theorem W_seq {a b : Code} : W E ft c (.seq a b) s K = W E ft c a s (kSeq E ft c b K) := by
  unfold W; rw [evC_seq]; cases evC E ft c a s <;> rfl
@[go_sem ↓] theorem W_block {id : Nat} {a : Code} : W E ft c (.block id a) s K = W E ft c a s (kBlk id K) := by
  unfold W; rw [evC_block]
  cases evC E ft c a s with
  | exit i s => rw [leaveB_exit]; unfold kBlk; by_cases h : i = id <;> simp [h]
  | _ => rfl
/-- Which way a branch goes. -/
def wCond (E : Env) (ft : Tr AFunc) (c : Ctx) (a b : Code) (s : St) (K : Out → Prop) : Option Value → Prop
  | some (.bool t) => (t = true → W E ft c a s K) ∧ (t = false → W E ft c b s K)
  | _ => K .fail
@[go_sem ↓] theorem W_cond {x : Operand} {a b : Code} : W E ft c (.cond x a b) s K = wCond E ft c a b s K (evalO E.ng s.r x) := by
  unfold W; rw [evC_cond]
  unfold wCond condC
  cases evalO E.ng s.r x with
  | none => rfl
  | some v => cases v <;> try rfl
              rename_i t; cases t <;> simp [W]
@[go_sem ↓] theorem wCond_true {a b : Code} : wCond E ft c a b s K (some (.bool true)) = W E ft c a s K := by simp [wCond]
@[go_sem ↓] theorem wCond_false {a b : Code} : wCond E ft c a b s K (some (.bool false)) = W E ft c b s K := by simp [wCond]
/-- Both ways. -/
theorem wCond_two {a b : Code} {t : Bool} (h1 : t = true → W E ft c a s K) (h2 : t = false → W E ft c b s K) : wCond E ft c a b s K (some (.bool t)) := ⟨h1, h2⟩
theorem wCond_dec {a b : Code} {p : Prop} [Decidable p] (h1 : p → W E ft c a s K) (h2 : ¬ p → W E ft c b s K) : wCond E ft c a b s K (some (.bool (decide p))) := ⟨fun h => h1 (of_decide_eq_true h), fun h => h2 (of_decide_eq_false h)⟩
@[go_sem ↓] theorem W_plain {id : Nat} {ops : Array Oper} : W E ft c (.region id ops false) s K = K (opsL E ft c ops ops.toList s) := by unfold W; rw [evC_plain]
theorem W_drw (id : Nat) (l : List (Nat × Nat)) {ops : Array Oper} (h : planI ops = some l) : W E ft c (.region id ops true) s K = K (drawF E ft c ops s (fetch ops.toList l)) := by unfold W; rw [drw id l h]
theorem W_draw (id : Nat) (l : List (Nat × Nat)) {ops : Array Oper} (h : planI ops = some l) (hk : K (drawF E ft c ops s (fetch ops.toList l))) : W E ft c (.region id ops true) s K := by rw [W_drw id l h]; exact hk
theorem W_loop (M : Nat → St → Prop) {body : Code} (step : ∀ k s, M k s → W E ft c body s (kLoop M k K)) : ∀ k s, M k s → W E ft c (.loop body) s K := by
  intro k
  induction k using Nat.strongRecOn with
  | _ k ih =>
    intro s hm
    have := step k s hm
    unfold W at this ⊢
    rw [evC_loop]
    cases hx : evC E ft c body s with
    | nor s' =>
      rw [hx] at this
      obtain ⟨k', hk, hm'⟩ := this
      exact ih k' hk s' hm'
    | _ => rw [hx] at this; exact this

@[go_sem ↓] theorem kSeq_nor {b : Code} : kSeq E ft c b K (.nor s) = W E ft c b s K := rfl
@[go_sem ↓] theorem kSeq_ret {b : Code} : kSeq E ft c b K (.ret s) = K (.ret s) := rfl
@[go_sem ↓] theorem kSeq_exit {b : Code} {i : Nat} : kSeq E ft c b K (.exit i s) = K (.exit i s) := rfl
@[go_sem ↓] theorem kSeq_pan {b : Code} {v : Value} : kSeq E ft c b K (.pan v s) = K (.pan v s) := rfl
@[go_sem ↓] theorem kBlk_nor {id : Nat} : kBlk id K (.nor s) = K (.nor s) := rfl
@[go_sem ↓] theorem kBlk_ret {id : Nat} : kBlk id K (.ret s) = K (.ret s) := rfl
@[go_sem ↓] theorem kBlk_pan {id : Nat} {v : Value} : kBlk id K (.pan v s) = K (.pan v s) := rfl
@[go_sem ↓] theorem kBlk_exit {id i : Nat} : kBlk id K (.exit i s) = if i = id then K (.nor s) else K (.exit i s) := rfl
@[go_sem ↓] theorem kLoop_nor {M : Nat → St → Prop} {k : Nat} : kLoop M k K (.nor s) = ∃ k', k' < k ∧ M k' s := rfl
@[go_sem ↓] theorem kLoop_ret {M : Nat → St → Prop} {k : Nat} : kLoop M k K (.ret s) = K (.ret s) := rfl
@[go_sem ↓] theorem kLoop_exit {M : Nat → St → Prop} {k i : Nat} : kLoop M k K (.exit i s) = K (.exit i s) := rfl
@[go_sem ↓] theorem kLoop_pan {M : Nat → St → Prop} {k : Nat} {v : Value} : kLoop M k K (.pan v s) = K (.pan v s) := rfl
@[go_sem ↓] theorem kBody_ret {K : CRes → Prop} {res : List ResultVar} {r : Tr Value} {n : Nat} {h : AH} {rc : Bool} : kBody E ft res K (.ret ⟨r, n, [], h, rc⟩) = kRes K h rc (resultsV E r h res) := by
  unfold kBody; rw [bodyL_ret]; unfold kRes; cases resultsV E r h res <;> rfl
@[go_sem ↓] theorem kBody_nor {K : CRes → Prop} {res : List ResultVar} {r : Tr Value} {n : Nat} {h : AH} {rc : Bool} : kBody E ft res K (.nor ⟨r, n, [], h, rc⟩) = kRes K h rc (resultsV E r h res) := by
  unfold kBody; rw [bodyL_nor]; unfold kRes; cases resultsV E r h res <;> rfl
@[go_sem ↓] theorem kRes_some {K : CRes → Prop} {h : AH} {rc : Bool} {vs : List Value} : kRes K h rc (some vs) = K (.ret (oneOf vs) h rc) := rfl

/-! ### Calls -/
section calls
variable {all : Array Oper} {dst : Option Tmp} {l : List Oper} {st : St} {x : CRes} {o : Oper} {m : Nat} {pl : List PO} {ws : List Watch}
@[go_sem] theorem kSeq_call {b : Code} : kSeq E ft c b K (stepO E ft c all dst l (callR st x)) = callK E ft c all dst l st (kSeq E ft c b K) x := rfl
@[go_sem] theorem kBlk_call {id : Nat} : kBlk id K (stepO E ft c all dst l (callR st x)) = callK E ft c all dst l st (kBlk id K) x := rfl
@[go_sem] theorem kBody_call {K : CRes → Prop} {res : List ResultVar} : kBody E ft res K (stepO E ft c all dst l (callR st x)) = callK E ft c all dst l st (kBody E ft res K) x := rfl
@[go_sem] theorem kLoop_call {M : Nat → St → Prop} {k : Nat} : kLoop M k K (stepO E ft c all dst l (callR st x)) = callK E ft c all dst l st (kLoop M k K) x := rfl
@[go_sem] theorem kSeq_dcall {b : Code} : kSeq E ft c b K (dOp E ft c all o m pl ws (callR st x)) = dcallK E ft c all o m pl ws st (kSeq E ft c b K) x := rfl
@[go_sem] theorem kBlk_dcall {id : Nat} : kBlk id K (dOp E ft c all o m pl ws (callR st x)) = dcallK E ft c all o m pl ws st (kBlk id K) x := rfl
@[go_sem] theorem kBody_dcall {K : CRes → Prop} {res : List ResultVar} : kBody E ft res K (dOp E ft c all o m pl ws (callR st x)) = dcallK E ft c all o m pl ws st (kBody E ft res K) x := rfl
@[go_sem] theorem kLoop_dcall {M : Nat → St → Prop} {k : Nat} : kLoop M k K (dOp E ft c all o m pl ws (callR st x)) = dcallK E ft c all o m pl ws st (kLoop M k K) x := rfl
@[go_sem ↓] theorem callK_ret {r : Tr Value} {n : Nat} {d : List Deferred} {h h' : AH} {rc rc' : Bool} {v : Value} : callK E ft c all dst l ⟨r, n, d, h, rc⟩ K (.ret v h' rc') = K (stepO E ft c all dst l (.val v ⟨r, n, d, h', rc⟩)) := rfl
@[go_sem ↓] theorem dcallK_ret {r : Tr Value} {n : Nat} {d : List Deferred} {h h' : AH} {rc rc' : Bool} {v : Value} : dcallK E ft c all o m pl ws ⟨r, n, d, h, rc⟩ K (.ret v h' rc') = K (dOp E ft c all o m pl ws (.val v ⟨r, n, d, h', rc⟩)) := rfl
@[go_sem ↓] theorem callK_pan {v : Value} {h' : AH} : callK E ft c all dst l s K (.pan v h') = K (.pan v { s with h := h' }) := rfl
end calls

section cg
variable {all : Array Oper} {dst : Option Tmp} {l : List Oper} {st : St} {o : Oper} {m : Nat} {pl : List PO} {ws : List Watch} {a b : Code} {x y : Out} {z z' : CRes}
@[congr] theorem kSeq_cg (e : x = y) : kSeq E ft c b K x = kSeq E ft c b K y := by rw [e]
@[congr] theorem kBlk_cg {id : Nat} (e : x = y) : kBlk id K x = kBlk id K y := by rw [e]
@[congr] theorem kLoop_cg {M : Nat → St → Prop} {k : Nat} (e : x = y) : kLoop M k K x = kLoop M k K y := by rw [e]
@[congr] theorem kBody_cg {K : CRes → Prop} {res : List ResultVar} (e : x = y) : kBody E ft res K x = kBody E ft res K y := by rw [e]
@[congr] theorem kRes_cg {K : CRes → Prop} {h : AH} {rc : Bool} {x y : Option (List Value)} (e : x = y) : kRes K h rc x = kRes K h rc y := by rw [e]
@[congr] theorem wCond_cg {x y : Option Value} (e : x = y) : wCond E ft c a b s K x = wCond E ft c a b s K y := by rw [e]
@[congr] theorem callK_cg (e : z = z') : callK E ft c all dst l s K z = callK E ft c all dst l s K z' := by rw [e]
@[congr] theorem dcallK_cg (e : z = z') : dcallK E ft c all o m pl ws s K z = dcallK E ft c all o m pl ws s K z' := by rw [e]
end cg

/-- What holds in between. -/
def kMid (M : St → Prop) (K : Out → Prop) : Out → Prop
  | .nor s => M s
  | x => K x
@[go_sem ↓] theorem kMid_nor {M : St → Prop} : kMid M K (.nor s) = M s := rfl
@[go_sem ↓] theorem kMid_ret {M : St → Prop} : kMid M K (.ret s) = K (.ret s) := rfl
@[go_sem ↓] theorem kMid_exit {M : St → Prop} {i : Nat} : kMid M K (.exit i s) = K (.exit i s) := rfl
@[go_sem ↓] theorem kMid_pan {M : St → Prop} {v : Value} : kMid M K (.pan v s) = K (.pan v s) := rfl
@[congr] theorem kMid_cg {M : St → Prop} {x y : Out} (e : x = y) : kMid M K x = kMid M K y := by rw [e]
@[go_sem] theorem kMid_call {M : St → Prop} {all : Array Oper} {dst : Option Tmp} {l : List Oper} {st : St} {x : CRes} : kMid M K (stepO E ft c all dst l (callR st x)) = callK E ft c all dst l st (kMid M K) x := rfl
@[go_sem] theorem kMid_dcall {M : St → Prop} {all : Array Oper} {o : Oper} {m : Nat} {pl : List PO} {ws : List Watch} {st : St} {x : CRes} : kMid M K (dOp E ft c all o m pl ws (callR st x)) = dcallK E ft c all o m pl ws st (kMid M K) x := rfl
theorem kSeq_mono {b : Code} {K1 K2 : Out → Prop} (h : ∀ o, K1 o → K2 o) {x : Out} (hx : kSeq E ft c b K1 x) : kSeq E ft c b K2 x := by
  cases x <;> exact h _ hx
theorem kSeq_cut (M : St → Prop) {b : Code} {x : Out} (h1 : kMid M K x) (h2 : ∀ s, M s → W E ft c b s K) : kSeq E ft c b K x := by
  cases x <;> first | exact h2 _ h1 | exact h1
/-- A cut behind the next piece. -/
theorem kSeq_cut2 (M : St → Prop) {a b : Code} {x : Out} (h1 : kSeq E ft c a (kMid M K) x) (h2 : ∀ s, M s → W E ft c b s K) : kSeq E ft c a (kSeq E ft c b K) x :=
  kSeq_mono (fun _ ho => kSeq_cut M ho h2) h1

theorem W_mono {b : Code} {K1 K2 : Out → Prop} (h : ∀ o, K1 o → K2 o) (hx : W E ft c b s K1) : W E ft c b s K2 := h _ hx
theorem W_cut (M : St → Prop) {x b : Code} (h1 : W E ft c x s (kMid M K)) (h2 : ∀ s, M s → W E ft c b s K) : W E ft c x s (kSeq E ft c b K) := kSeq_cut M h1 h2
theorem W_cut2 (M : St → Prop) {x a b : Code} (h1 : W E ft c x s (kSeq E ft c a (kMid M K))) (h2 : ∀ s, M s → W E ft c b s K) : W E ft c x s (kSeq E ft c a (kSeq E ft c b K)) := kSeq_cut2 M h1 h2

theorem kBlk_mono {id : Nat} {K1 K2 : Out → Prop} (h : ∀ o, K1 o → K2 o) {x : Out} (hx : kBlk id K1 x) : kBlk id K2 x := by
  cases x with
  | exit i s =>
    rw [kBlk_exit] at hx ⊢
    by_cases e : i = id
    · rw [if_pos e] at hx ⊢; exact h _ hx
    · rw [if_neg e] at hx ⊢; exact h _ hx
  | _ => exact h _ hx
/-- A cut behind a block. -/
theorem W_cutB (M : St → Prop) {id : Nat} {x b : Code} (h1 : W E ft c x s (kBlk id (kMid M K))) (h2 : ∀ s, M s → W E ft c b s K) : W E ft c x s (kBlk id (kSeq E ft c b K)) :=
  W_mono (fun _ ho => kBlk_mono (fun _ ho => kSeq_cut M ho h2) ho) h1
theorem callK_cut (M : St → Prop) {all : Array Oper} {dst : Option Tmp} {l : List Oper} {b' : Code} {st : St} {x : CRes} (h1 : callK E ft c all dst l st (kMid M K) x) (h2 : ∀ s, M s → W E ft c b' s K) : callK E ft c all dst l st (kSeq E ft c b' K) x := kSeq_cut M h1 h2
theorem wCond_mono {a b : Code} {K1 K2 : Out → Prop} (h : ∀ o, K1 o → K2 o) {v : Option Value} (hx : wCond E ft c a b s K1 v) : wCond E ft c a b s K2 v := by
  unfold wCond at hx ⊢
  split at hx
  · exact ⟨fun e => W_mono h (hx.1 e), fun e => W_mono h (hx.2 e)⟩
  · exact h _ hx
theorem wCond_cut (M : St → Prop) {a b b' : Code} {v : Option Value} (h1 : wCond E ft c a b s (kMid M K) v) (h2 : ∀ s, M s → W E ft c b' s K) : wCond E ft c a b s (kSeq E ft c b' K) v :=
  wCond_mono (fun _ ho => kSeq_cut M ho h2) h1

/-! ### A guard that hangs on what isn't known yet: both ways -/
theorem ifG_two {all : Array Oper} {o : Oper} {l : List Oper} {b : Bool} (h1 : b = true → K (ifG E ft c all o l s (some true))) (h2 : b = false → K (ifG E ft c all o l s (some false))) : K (ifG E ft c all o l s (some b)) := by
  cases b
  · exact h2 rfl
  · exact h1 rfl
theorem dWhen_two {all : Array Oper} {i : Nat} {o : Oper} {m : Nat} {l : List PO} {ws : List Watch} {b : Bool} (h1 : b = true → K (dWhen E ft c all i o m l ws s (some true))) (h2 : b = false → K (dWhen E ft c all i o m l ws s (some false))) : K (dWhen E ft c all i o m l ws s (some b)) := by
  cases b
  · exact h2 rfl
  · exact h1 rfl
attribute [irreducible] W
end Go.Ev
