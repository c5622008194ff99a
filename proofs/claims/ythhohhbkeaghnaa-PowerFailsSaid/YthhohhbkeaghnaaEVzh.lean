/- A deterministic evaluator of the model's code over a memory of its own: rules to walk by. -/
import Derived.Test.YthhohhbkeaghnaaEVzg
set_option linter.unusedSimpArgs false
set_option linter.unusedVariables false
set_option linter.unusedSectionVars false
namespace Go.Ev
variable {E : Env} {ft : Tr AFunc} {P : Program}

/-! ### Code -/
noncomputable def evC (E : Env) (ft : Tr AFunc) (c : Ctx) (x : Code) (s : St) : Out := evL E ft c (comp x) s

/-- On with the next piece. -/
noncomputable def thenC (E : Env) (ft : Tr AFunc) (c : Ctx) (b : Code) : Out → Out
  | .nor s => evC E ft c b s
  | x => x

def leaveB (id : Nat) : Out → Out
  | .exit i s => bif i.beq id then .nor s else .exit i s
  | x => x

noncomputable def condC (E : Env) (ft : Tr AFunc) (c : Ctx) (a b : Code) (s : St) : Option Value → Out
  | some (.bool true) => evC E ft c a s
  | some (.bool false) => evC E ft c b s
  | _ => .fail

/-- Operations in their order. -/
noncomputable def opsL (E : Env) (ft : Tr AFunc) (c : Ctx) (all : Array Oper) (l : List Oper) (s : St) : Out := evOps E (CL E ft) c all l s

noncomputable def stepO (E : Env) (ft : Tr AFunc) (c : Ctx) (all : Array Oper) (dst : Option Tmp) (l : List Oper) : OpR → Out
  | .fail => .fail
  | .pan v s => .pan v s
  | .val v s => oOut (putD s dst v) fun s => opsL E ft c all l s

variable {c : Ctx} {s : St}

@[go_sem] theorem evC_skip : evC E ft c .skip s = .nor s := evL_skip
@[go_sem] theorem evC_label {l : Nat} : evC E ft c (.label l) s = .nor s := evL_skip
@[go_sem] theorem evC_exit {i : Nat} : evC E ft c (.exit i) s = .exit i s := evL_exit
@[go_sem] theorem evC_ret : evC E ft c .ret s = .ret s := evL_ret
@[go_sem] theorem evC_seq {a b : Code} : evC E ft c (.seq a b) s = thenC E ft c b (evC E ft c a s) := by
  show evL E ft c (.seq (comp a) (comp b)) s = _
  rw [evL_seq]; unfold thenC evC
  cases evL E ft c (comp a) s <;> rfl
@[go_sem] theorem evC_cond {x : Operand} {a b : Code} : evC E ft c (.cond x a b) s = condC E ft c a b s (evalO E.ng s.r x) := by
  show evL E ft c (.cond x (comp a) (comp b)) s = _
  rw [evL_cond]; unfold condC evC
  rfl
@[go_sem] theorem evC_block {id : Nat} {a : Code} : evC E ft c (.block id a) s = leaveB id (evC E ft c a s) := by
  show evL E ft c (.block id (comp a)) s = _
  rw [evL_block]; unfold leaveB evC
  rfl
@[go_sem] theorem evC_plain {id : Nat} {ops : Array Oper} : evC E ft c (.region id ops false) s = opsL E ft c ops ops.toList s := evL_plain
theorem evC_draw {id : Nat} {ops : Array Oper} {l : List PO} (h : plan ops = some l) : evC E ft c (.region id ops true) s = evDraw E (CL E ft) c ops l [] s := by
  show evL E ft c (bif true then (match plan ops with | some l => .draw l ops | none => .bad) else .plain ops.toList ops) s = _
  rw [h]; exact evL_draw
theorem evC_loop {a : Code} : evC E ft c (.loop a) s = thenC E ft c (.loop a) (evC E ft c a s) := by
  show evL E ft c (.loop (comp a)) s = _
  rw [evL_loop]; unfold thenC evC
  cases evL E ft c (comp a) s <;> rfl

@[go_sem] theorem thenC_nor {b : Code} : thenC E ft c b (.nor s) = evC E ft c b s := rfl
@[go_sem] theorem thenC_ret {b : Code} : thenC E ft c b (.ret s) = .ret s := rfl
@[go_sem] theorem thenC_exit {b : Code} {i : Nat} : thenC E ft c b (.exit i s) = .exit i s := rfl
@[go_sem] theorem thenC_pan {b : Code} {v : Value} : thenC E ft c b (.pan v s) = .pan v s := rfl
@[go_sem] theorem leaveB_nor {id : Nat} : leaveB id (.nor s) = .nor s := rfl
@[go_sem] theorem leaveB_ret {id : Nat} : leaveB id (.ret s) = .ret s := rfl
@[go_sem] theorem leaveB_pan {id : Nat} {v : Value} : leaveB id (.pan v s) = .pan v s := rfl
@[go_sem] theorem leaveB_exit {id i : Nat} : leaveB id (.exit i s) = if i = id then .nor s else .exit i s := by
  unfold leaveB
  by_cases h : i = id
  · simp [beqT h, h]
  · simp [beqF h, h]
@[go_sem] theorem condC_true {a b : Code} : condC E ft c a b s (some (.bool true)) = evC E ft c a s := rfl
@[go_sem] theorem condC_false {a b : Code} : condC E ft c a b s (some (.bool false)) = evC E ft c b s := rfl
theorem condC_if {a b : Code} {t : Bool} : condC E ft c a b s (some (.bool t)) = if t = true then condC E ft c a b s (some (.bool true)) else condC E ft c a b s (some (.bool false)) := by cases t <;> rfl

/-! ### Operations -/
@[go_sem ↓] theorem opsL_nil {all : Array Oper} : opsL E ft c all [] s = .nor s := rfl
@[go_sem ↓] theorem opsL_cons {all : Array Oper} {dst : Option Tmp} {op : Op} {ty : TypeId} {pos : String} {after : Array Edge} {l : List Oper} :
    opsL E ft c all (⟨dst, op, ty, pos, after, none⟩ :: l) s = stepO E ft c all dst l (evOp E (CL E ft) c ⟨dst, op, ty, pos, after, none⟩ s) := by
  unfold opsL stepO
  rw [evOps]
  simp only [wantedT]
  cases evOp E (CL E ft) c ⟨dst, op, ty, pos, after, none⟩ s <;> rfl
def dstAt (all : Array Oper) (j : Nat) : Option Tmp := (all.toList[j]?).bind (·.dst)
attribute [go_sem] dstAt
def whenV (want : Bool) : Option Value → Option Bool
  | some (.bool b) => some (b == want)
  | some (.tuple ⟨[]⟩) => some false
  | _ => none
@[go_sem] theorem whenV_true {b : Bool} : whenV true (some (.bool b)) = some b := by cases b <;> rfl
@[go_sem] theorem whenV_false {b : Bool} : whenV false (some (.bool b)) = some (!b) := by cases b <;> rfl
@[go_sem] theorem whenV_undef {want : Bool} : whenV want (some undef') = some false := rfl
/-- An operation that is done where it is wanted. -/
noncomputable def ifG (E : Env) (ft : Tr AFunc) (c : Ctx) (all : Array Oper) (o : Oper) (l : List Oper) (s : St) : Option Bool → Out
  | none => .fail
  | some true => stepO E ft c all o.dst l (evOp E (CL E ft) c o s)
  | some false => oOut (putD s o.dst undef') fun s => opsL E ft c all l s
@[go_sem ↓] theorem opsL_guard {all : Array Oper} {dst : Option Tmp} {op : Op} {ty : TypeId} {pos : String} {after : Array Edge} {j : Nat} {want : Bool} {l : List Oper} :
    opsL E ft c all (⟨dst, op, ty, pos, after, some (j, want)⟩ :: l) s = ifG E ft c all ⟨dst, op, ty, pos, after, some (j, want)⟩ l s (whenV want (oget (dstAt all j) s.r.get)) := by
  have hw : wantedT ⟨dst, op, ty, pos, after, some (j, want)⟩ all s.r = whenV want (oget (dstAt all j) s.r.get) := by
    simp only [wantedT, dstAt]
    cases (all.toList[j]?).bind (·.dst) with
    | none => rfl
    | some d =>
      simp only [oget]
      unfold whenV
      rfl
  unfold opsL ifG stepO
  rw [evOps, hw]
  cases whenV want (oget (dstAt all j) s.r.get) with
  | none => rfl
  | some b => cases b with
    | false => rfl
    | true => simp only []; cases evOp E (CL E ft) c ⟨dst, op, ty, pos, after, some (j, want)⟩ s <;> rfl
@[go_sem ↓] theorem ifG_true {all : Array Oper} {o : Oper} {l : List Oper} : ifG E ft c all o l s (some true) = stepO E ft c all o.dst l (evOp E (CL E ft) c o s) := rfl
theorem ifG_false' {all : Array Oper} {o : Oper} {l : List Oper} : ifG E ft c all o l s (some false) = oOut (putD s o.dst undef') fun s => opsL E ft c all l s := rfl
theorem ifG_if {all : Array Oper} {o : Oper} {l : List Oper} {b : Bool} : ifG E ft c all o l s (some b) = if b = true then ifG E ft c all o l s (some true) else ifG E ft c all o l s (some false) := by cases b <;> rfl
theorem stepO_val {all : Array Oper} {dst : Option Tmp} {l : List Oper} {v : Value} : stepO E ft c all dst l (.val v s) = oOut (putD s dst v) fun s => opsL E ft c all l s := rfl
@[go_sem] theorem stepO_pan {all : Array Oper} {dst : Option Tmp} {l : List Oper} {v : Value} : stepO E ft c all dst l (.pan v s) = .pan v s := rfl
@[go_sem] theorem oOut_some {α : Type} {a : α} {f : α → Out} : oOut (some a) f = f a := rfl
@[go_sem] theorem oOp_some {α : Type} {a : α} {f : α → OpR} : oOp (some a) f = f a := rfl
@[go_sem] theorem oget_some' {α β : Type} {a : α} {f : α → Option β} : oget (some a) f = f a := rfl
@[go_sem] theorem putD_none {v : Value} : putD s none v = some s := rfl
theorem putD_some' {d : Tmp} {v : Value} {r : Tr Value} {n : Nat} {ds : List Deferred} {h : AH} {rc : Bool} : putD ⟨r, n, ds, h, rc⟩ (some d) v = if d < n ∧ n < cap then some ⟨r.put d v, n, ds, h, rc⟩ else none := by
  unfold putD
  by_cases hc : d < n ∧ n < cap
  · have h1 : Nat.blt d n = true := Nat.ble_eq_true_of_le hc.1
    have h2 : Nat.blt n cap = true := Nat.ble_eq_true_of_le hc.2
    simp [hc, h1, h2]
  · rw [if_neg hc]
    have : (Nat.blt d n && Nat.blt n cap) = false := by
      cases h1 : Nat.blt d n with
      | false => rfl
      | true => cases h2 : Nat.blt n cap with
        | false => rfl
        | true => exact absurd ⟨of_blt h1, of_blt h2⟩ hc
    simp [this]

@[go_sem ↓] theorem stepO_some {all : Array Oper} {d : Tmp} {l : List Oper} {v : Value} {r : Tr Value} {n : Nat} {ds : List Deferred} {h : AH} {rc : Bool} :
    stepO E ft c all (some d) l (.val v ⟨r, n, ds, h, rc⟩) = if d < n ∧ n < cap then opsL E ft c all l ⟨r.put d v, n, ds, h, rc⟩ else .fail := by
  rw [stepO_val, putD_some']; split <;> rfl
@[go_sem ↓] theorem stepO_none {all : Array Oper} {l : List Oper} {v : Value} : stepO E ft c all none l (.val v s) = opsL E ft c all l s := rfl
@[go_sem ↓] theorem ifG_false {all : Array Oper} {o : Oper} {l : List Oper} : ifG E ft c all o l s (some false) = stepO E ft c all o.dst l (.val undef' s) := by
  rw [ifG_false']; rfl
@[congr] theorem stepO_cg {all : Array Oper} {dst : Option Tmp} {l : List Oper} {x y : OpR} (e : x = y) : stepO E ft c all dst l x = stepO E ft c all dst l y := by rw [e]
@[congr] theorem ifG_cg {all : Array Oper} {o : Oper} {l : List Oper} {x y : Option Bool} (e : x = y) : ifG E ft c all o l s x = ifG E ft c all o l s y := by rw [e]
@[congr] theorem oOp_cg {α : Type} {x y : Option α} {f : α → OpR} (e : x = y) : oOp x f = oOp y f := by rw [e]
@[congr] theorem oOut_cg {α : Type} {x y : Option α} {f : α → Out} (e : x = y) : oOut x f = oOut y f := by rw [e]
@[congr] theorem oget_cg {α β : Type} {x y : Option α} {f : α → Option β} (e : x = y) : oget x f = oget y f := by rw [e]

/-! ### Operands -/
@[go_sem] theorem evalO_tmp {ng : Nat} {r : Tr Value} {t : Tmp} : evalO ng r (.tmp t) = r.get t := rfl
@[go_sem] theorem evalO_const {ng : Nat} {r : Tr Value} {v : Value} : evalO ng r (.const v) = bif plainZ v then some v else none := rfl
@[go_sem] theorem evalO_func {ng : Nat} {r : Tr Value} {f : FuncId} : evalO ng r (.func f) = some (.func (.func f) ⟨[]⟩ ⟨[]⟩) := rfl
attribute [go_sem] plainZ plainA plainL cond_true cond_false valsV partsV isCon

/-! ### One operation -/
section ops
variable {C : CallS} {dst : Option Tmp} {ty : TypeId} {pos : String} {after : Array Edge} {g : Option (Nat × Bool)}
def pickV (x a b : Value) : Option Value := match x with
  | .bool t => some (bif t then a else b)
  | _ => none
@[go_sem] theorem pickV_bool {t : Bool} {a b : Value} : pickV (.bool t) a b = some (bif t then a else b) := rfl
def notNil (x : Value) : Option Value := match x with
  | .pointer (some a) => some (.pointer (some a))
  | _ => none
@[go_sem] theorem notNil_ptr {a : Addr} : notNil (.pointer (some a)) = some (.pointer (some a)) := rfl
def ifaceV (t : TypeId) (u : TypeDesc) (x : Value) : Option Value := match u with
  | .interface _ => none
  | _ => some (.iface t x)
def optV (ρ : Operand → Option Value) (x : Option Operand) : Option (Option Value) := match x with
  | none => some none
  | some v => oget (ρ v) fun v => some (some v)
@[go_sem] theorem optV_none {ρ : Operand → Option Value} : optV ρ none = some none := rfl
@[go_sem] theorem optV_some {ρ : Operand → Option Value} {v : Operand} : optV ρ (some v) = oget (ρ v) fun v => some (some v) := rfl
def partOf (i : Nat) (x : Value) : Option Value := match x with
  | .tuple ⟨vs⟩ => vs[i]?
  | _ => none
@[go_sem] theorem partOf_tuple {i : Nat} {vs : List Value} : partOf i (.tuple ⟨vs⟩) = vs[i]? := rfl
attribute [go_sem] funcV
/-- What an operation answers, and the memory behind it. -/
def avalR (s : St) (x : Option (Value × AH)) : OpR := oOp x fun x => .val x.1 { s with h := x.2 }
@[go_sem] theorem avalR_some {r : Tr Value} {n : Nat} {d : List Deferred} {h h' : AH} {rc : Bool} {v : Value} : avalR ⟨r, n, d, h, rc⟩ (some (v, h')) = .val v ⟨r, n, d, h', rc⟩ := rfl
@[congr] theorem avalR_cg {x y : Option (Value × AH)} (e : x = y) : avalR s x = avalR s y := by rw [e]
section aval
variable {ρ : Operand → Option Value} {h : AH}
@[go_sem] theorem av_move (x : Operand) : aval E ⟨dst, .move x, ty, pos, after, g⟩ ρ h = oget (ρ x) fun v => some (v, h) := rfl
@[go_sem] theorem op_move (x : Operand) : evOp E C c ⟨dst, .move x, ty, pos, after, g⟩ s = avalR s (aval E ⟨dst, .move x, ty, pos, after, g⟩ (evalO E.ng s.r) s.h) := rfl
@[go_sem] theorem av_assign (x : Operand) : aval E ⟨dst, .assign x, ty, pos, after, g⟩ ρ h = oget (ρ x) fun v => some (v, h) := rfl
@[go_sem] theorem op_assign (x : Operand) : evOp E C c ⟨dst, .assign x, ty, pos, after, g⟩ s = avalR s (aval E ⟨dst, .assign x, ty, pos, after, g⟩ (evalO E.ng s.r) s.h) := rfl
@[go_sem] theorem av_pick (x a b : Operand) : aval E ⟨dst, .pick x a b, ty, pos, after, g⟩ ρ h = oget (ρ x) fun x => oget (ρ a) fun a => oget (ρ b) fun b => oget (pickV x a b) fun v => some (v, h) := by
  simp only [aval]
  cases ρ x with
  | none => rfl
  | some x => cases ρ a with
    | none => rfl
    | some a => cases ρ b with
      | none => rfl
      | some b => cases x <;> rfl
@[go_sem] theorem op_pick (x a b : Operand) : evOp E C c ⟨dst, .pick x a b, ty, pos, after, g⟩ s = avalR s (aval E ⟨dst, .pick x a b, ty, pos, after, g⟩ (evalO E.ng s.r) s.h) := rfl
@[go_sem] theorem av_alloc (t : TypeId) : aval E ⟨dst, .alloc t, ty, pos, after, g⟩ ρ h = aAlloc E t h := rfl
@[go_sem] theorem op_alloc (t : TypeId) : evOp E C c ⟨dst, .alloc t, ty, pos, after, g⟩ s = avalR s (aval E ⟨dst, .alloc t, ty, pos, after, g⟩ (evalO E.ng s.r) s.h) := rfl
@[go_sem] theorem av_box (t : TypeId) (x : Operand) : aval E ⟨dst, .box t x, ty, pos, after, g⟩ ρ h = oget (ρ x) fun x => aNewCells h x.cells.toList t := rfl
@[go_sem] theorem op_box (t : TypeId) (x : Operand) : evOp E C c ⟨dst, .box t x, ty, pos, after, g⟩ s = avalR s (aval E ⟨dst, .box t x, ty, pos, after, g⟩ (evalO E.ng s.r) s.h) := rfl
@[go_sem] theorem av_build (t : TypeId) (ps : Array (Nat × Operand)) : aval E ⟨dst, .build t ps, ty, pos, after, g⟩ ρ h = oget (partsV ρ ps.toList) fun ps => oget (aBuild E t ps) fun v => some (v, h) := rfl
@[go_sem] theorem op_build (t : TypeId) (ps : Array (Nat × Operand)) : evOp E C c ⟨dst, .build t ps, ty, pos, after, g⟩ s = avalR s (aval E ⟨dst, .build t ps, ty, pos, after, g⟩ (evalO E.ng s.r) s.h) := rfl
@[go_sem] theorem av_buildSlice (t : TypeId) (n : Nat) (ps : Array (Nat × Operand)) : aval E ⟨dst, .buildSlice t n ps, ty, pos, after, g⟩ ρ h = oget (partsV ρ ps.toList) fun ps => aBuildSlice E t n ps h := rfl
@[go_sem] theorem op_buildSlice (t : TypeId) (n : Nat) (ps : Array (Nat × Operand)) : evOp E C c ⟨dst, .buildSlice t n ps, ty, pos, after, g⟩ s = avalR s (aval E ⟨dst, .buildSlice t n ps, ty, pos, after, g⟩ (evalO E.ng s.r) s.h) := rfl
@[go_sem] theorem av_load (t : TypeId) (x : Operand) : aval E ⟨dst, .load t x, ty, pos, after, g⟩ ρ h = oget (ρ x) fun a => oget (aLoad E t a h) fun v => some (v, h) := rfl
@[go_sem] theorem op_load (t : TypeId) (x : Operand) : evOp E C c ⟨dst, .load t x, ty, pos, after, g⟩ s = avalR s (aval E ⟨dst, .load t x, ty, pos, after, g⟩ (evalO E.ng s.r) s.h) := rfl
@[go_sem] theorem av_store (t : TypeId) (a x : Operand) : aval E ⟨dst, .store t a x, ty, pos, after, g⟩ ρ h = oget (ρ a) fun a => oget (ρ x) fun x => oget (aStore E t a x h) fun h => some (undef', h) := rfl
@[go_sem] theorem op_store (t : TypeId) (a x : Operand) : evOp E C c ⟨dst, .store t a x, ty, pos, after, g⟩ s = avalR s (aval E ⟨dst, .store t a x, ty, pos, after, g⟩ (evalO E.ng s.r) s.h) := rfl
@[go_sem] theorem av_nilCheck (x : Operand) : aval E ⟨dst, .nilCheck x, ty, pos, after, g⟩ ρ h = oget (ρ x) fun x => oget (notNil x) fun v => some (v, h) := by
  simp only [aval]
  cases ρ x with
  | none => rfl
  | some v => cases v <;> first | rfl | (rename_i a; cases a <;> rfl)
@[go_sem] theorem op_nilCheck (x : Operand) : evOp E C c ⟨dst, .nilCheck x, ty, pos, after, g⟩ s = avalR s (aval E ⟨dst, .nilCheck x, ty, pos, after, g⟩ (evalO E.ng s.r) s.h) := rfl
@[go_sem] theorem av_bin (op : BinOp) (t yt : TypeId) (x y : Operand) : aval E ⟨dst, .binOp op t x y yt, ty, pos, after, g⟩ ρ h = oget (ρ x) fun a => oget (ρ y) fun b => oget (aBin E op t (isCon x || isCon y) a b h) fun v => some (v, h) := rfl
@[go_sem] theorem op_bin (op : BinOp) (t yt : TypeId) (x y : Operand) : evOp E C c ⟨dst, .binOp op t x y yt, ty, pos, after, g⟩ s = avalR s (aval E ⟨dst, .binOp op t x y yt, ty, pos, after, g⟩ (evalO E.ng s.r) s.h) := rfl
@[go_sem] theorem av_un (op : UnOp) (t : TypeId) (x : Operand) : aval E ⟨dst, .unOp op t x, ty, pos, after, g⟩ ρ h = oget (ρ x) fun x => oget (aUn op x) fun v => some (v, h) := rfl
@[go_sem] theorem op_un (op : UnOp) (t : TypeId) (x : Operand) : evOp E C c ⟨dst, .unOp op t x, ty, pos, after, g⟩ s = avalR s (aval E ⟨dst, .unOp op t x, ty, pos, after, g⟩ (evalO E.ng s.r) s.h) := rfl
@[go_sem] theorem av_convert (t u : TypeId) (x : Operand) : aval E ⟨dst, .convert t u x, ty, pos, after, g⟩ ρ h = oget (ρ x) fun x => aConvert E t u x h := rfl
@[go_sem] theorem op_convert (t u : TypeId) (x : Operand) : evOp E C c ⟨dst, .convert t u x, ty, pos, after, g⟩ s = avalR s (aval E ⟨dst, .convert t u x, ty, pos, after, g⟩ (evalO E.ng s.r) s.h) := rfl
@[go_sem] theorem av_makeInterface (t : TypeId) (x : Operand) : aval E ⟨dst, .makeInterface t x, ty, pos, after, g⟩ ρ h = oget (ρ x) fun x => oget (tInfo E t) fun i => oget (ifaceV t i.und x) fun v => some (v, h) := by
  simp only [aval]
  cases ρ x with
  | none => rfl
  | some v => cases tInfo E t with
    | none => rfl
    | some i => simp only [oget]; cases i.und <;> rfl
@[go_sem] theorem op_makeInterface (t : TypeId) (x : Operand) : evOp E C c ⟨dst, .makeInterface t x, ty, pos, after, g⟩ s = avalR s (aval E ⟨dst, .makeInterface t x, ty, pos, after, g⟩ (evalO E.ng s.r) s.h) := rfl
@[go_sem] theorem av_makeFunc (f : Fn) (a b : Array Operand) : aval E ⟨dst, .makeFunc f a b, ty, pos, after, g⟩ ρ h = oget (valsV ρ a.toList) fun a => oget (valsV ρ b.toList) fun b => oget (funcV f a b) fun v => some (v, h) := by
  simp only [aval]
  cases valsV ρ a.toList with
  | none => rfl
  | some a => cases valsV ρ b.toList with
    | none => rfl
    | some b => cases f <;> rfl
@[go_sem] theorem op_makeFunc (f : Fn) (a b : Array Operand) : evOp E C c ⟨dst, .makeFunc f a b, ty, pos, after, g⟩ s = avalR s (aval E ⟨dst, .makeFunc f a b, ty, pos, after, g⟩ (evalO E.ng s.r) s.h) := rfl
@[go_sem] theorem av_makeSlice (t : TypeId) (x y : Operand) : aval E ⟨dst, .makeSlice t x y, ty, pos, after, g⟩ ρ h = oget (ρ x) fun x => oget (ρ y) fun y => aMakeSlice E t x y h := rfl
@[go_sem] theorem op_makeSlice (t : TypeId) (x y : Operand) : evOp E C c ⟨dst, .makeSlice t x y, ty, pos, after, g⟩ s = avalR s (aval E ⟨dst, .makeSlice t x y, ty, pos, after, g⟩ (evalO E.ng s.r) s.h) := rfl
@[go_sem] theorem av_slice (t : TypeId) (x : Operand) (lo hi : Option Operand) : aval E ⟨dst, .slice t x lo hi none, ty, pos, after, g⟩ ρ h = oget (ρ x) fun x => oget (optV ρ lo) fun lo => oget (optV ρ hi) fun hi => aSlice E t x lo hi h := by
  simp only [aval]
  cases lo <;> cases hi <;> rfl
@[go_sem] theorem op_slice (t : TypeId) (x : Operand) (lo hi : Option Operand) : evOp E C c ⟨dst, .slice t x lo hi none, ty, pos, after, g⟩ s = avalR s (aval E ⟨dst, .slice t x lo hi none, ty, pos, after, g⟩ (evalO E.ng s.r) s.h) := rfl
@[go_sem] theorem av_fieldAddr (t : TypeId) (x : Operand) (i : Nat) : aval E ⟨dst, .fieldAddr t x i, ty, pos, after, g⟩ ρ h = oget (ρ x) fun x => oget (aFieldAddr E t x i) fun v => some (v, h) := rfl
@[go_sem] theorem op_fieldAddr (t : TypeId) (x : Operand) (i : Nat) : evOp E C c ⟨dst, .fieldAddr t x i, ty, pos, after, g⟩ s = avalR s (aval E ⟨dst, .fieldAddr t x i, ty, pos, after, g⟩ (evalO E.ng s.r) s.h) := rfl
@[go_sem] theorem av_field (t : TypeId) (x : Operand) (i : Nat) : aval E ⟨dst, .field t x i, ty, pos, after, g⟩ ρ h = oget (ρ x) fun x => oget (aField E t x i) fun v => some (v, h) := rfl
@[go_sem] theorem op_field (t : TypeId) (x : Operand) (i : Nat) : evOp E C c ⟨dst, .field t x i, ty, pos, after, g⟩ s = avalR s (aval E ⟨dst, .field t x i, ty, pos, after, g⟩ (evalO E.ng s.r) s.h) := rfl
@[go_sem] theorem av_indexAddr (t : TypeId) (x y : Operand) : aval E ⟨dst, .indexAddr t x y, ty, pos, after, g⟩ ρ h = oget (ρ x) fun x => oget (ρ y) fun y => oget (aIndexAddr E t x y) fun v => some (v, h) := rfl
@[go_sem] theorem op_indexAddr (t : TypeId) (x y : Operand) : evOp E C c ⟨dst, .indexAddr t x y, ty, pos, after, g⟩ s = avalR s (aval E ⟨dst, .indexAddr t x y, ty, pos, after, g⟩ (evalO E.ng s.r) s.h) := rfl
@[go_sem] theorem av_index (t : TypeId) (x y : Operand) : aval E ⟨dst, .index t x y, ty, pos, after, g⟩ ρ h = oget (ρ x) fun x => oget (ρ y) fun y => oget (aIndex E t x y) fun v => some (v, h) := rfl
@[go_sem] theorem op_index (t : TypeId) (x y : Operand) : evOp E C c ⟨dst, .index t x y, ty, pos, after, g⟩ s = avalR s (aval E ⟨dst, .index t x y, ty, pos, after, g⟩ (evalO E.ng s.r) s.h) := rfl
@[go_sem] theorem av_lookup (t : TypeId) (x y : Operand) (b : Bool) : aval E ⟨dst, .lookup t x y b, ty, pos, after, g⟩ ρ h = oget (ρ x) fun x => oget (ρ y) fun y => oget (aLookup E t x y b h) fun v => some (v, h) := rfl
@[go_sem] theorem op_lookup (t : TypeId) (x y : Operand) (b : Bool) : evOp E C c ⟨dst, .lookup t x y b, ty, pos, after, g⟩ s = avalR s (aval E ⟨dst, .lookup t x y b, ty, pos, after, g⟩ (evalO E.ng s.r) s.h) := rfl
@[go_sem] theorem av_mapUpdate (t : TypeId) (x y z : Operand) : aval E ⟨dst, .mapUpdate t x y z, ty, pos, after, g⟩ ρ h = oget (ρ x) fun x => oget (ρ y) fun y => oget (ρ z) fun z => oget (aMapUpdate E t x y z h) fun h => some (undef', h) := rfl
@[go_sem] theorem op_mapUpdate (t : TypeId) (x y z : Operand) : evOp E C c ⟨dst, .mapUpdate t x y z, ty, pos, after, g⟩ s = avalR s (aval E ⟨dst, .mapUpdate t x y z, ty, pos, after, g⟩ (evalO E.ng s.r) s.h) := rfl
@[go_sem] theorem av_typeAssert (x : Operand) (t u : TypeId) (b : Bool) : aval E ⟨dst, .typeAssert x t u b, ty, pos, after, g⟩ ρ h = oget (ρ x) fun x => oget (aTypeAssert E x u b) fun v => some (v, h) := rfl
@[go_sem] theorem op_typeAssert (x : Operand) (t u : TypeId) (b : Bool) : evOp E C c ⟨dst, .typeAssert x t u b, ty, pos, after, g⟩ s = avalR s (aval E ⟨dst, .typeAssert x t u b, ty, pos, after, g⟩ (evalO E.ng s.r) s.h) := rfl
@[go_sem] theorem av_extract (x : Operand) (i : Nat) : aval E ⟨dst, .extract x i, ty, pos, after, g⟩ ρ h = oget (ρ x) fun x => oget (partOf i x) fun v => some (v, h) := by
  simp only [aval]
  cases ρ x with
  | none => rfl
  | some v => cases v <;> rfl
@[go_sem] theorem op_extract (x : Operand) (i : Nat) : evOp E C c ⟨dst, .extract x i, ty, pos, after, g⟩ s = avalR s (aval E ⟨dst, .extract x i, ty, pos, after, g⟩ (evalO E.ng s.r) s.h) := rfl
@[go_sem] theorem av_makeMap (t : TypeId) : aval E ⟨dst, .makeMap t none, ty, pos, after, g⟩ ρ h = oget (tInfo E t) fun _ => bif Nat.blt h.next cap then some (.map (some h.next), h.new (.map [] 0)) else none := rfl
@[go_sem] theorem op_makeMap (t : TypeId) : evOp E C c ⟨dst, .makeMap t none, ty, pos, after, g⟩ s = avalR s (aval E ⟨dst, .makeMap t none, ty, pos, after, g⟩ (evalO E.ng s.r) s.h) := rfl
@[go_sem] theorem av_builtin (b : Builtin) (args : Array Operand) (ats : Array TypeId) : aval E ⟨dst, .call ⟨.builtin b, args, ats⟩, ty, pos, after, g⟩ ρ h = oget (valsV ρ args.toList) fun vs => aBuiltin E b ats.toList vs h := rfl
@[go_sem] theorem op_len (args : Array Operand) (ats : Array TypeId) : evOp E C c ⟨dst, .call ⟨.builtin .len, args, ats⟩, ty, pos, after, g⟩ s = avalR s (aval E ⟨dst, .call ⟨.builtin .len, args, ats⟩, ty, pos, after, g⟩ (evalO E.ng s.r) s.h) := rfl
@[go_sem] theorem op_cap (args : Array Operand) (ats : Array TypeId) : evOp E C c ⟨dst, .call ⟨.builtin .cap, args, ats⟩, ty, pos, after, g⟩ s = avalR s (aval E ⟨dst, .call ⟨.builtin .cap, args, ats⟩, ty, pos, after, g⟩ (evalO E.ng s.r) s.h) := rfl
@[go_sem] theorem op_min (args : Array Operand) (ats : Array TypeId) : evOp E C c ⟨dst, .call ⟨.builtin .min, args, ats⟩, ty, pos, after, g⟩ s = avalR s (aval E ⟨dst, .call ⟨.builtin .min, args, ats⟩, ty, pos, after, g⟩ (evalO E.ng s.r) s.h) := rfl
@[go_sem] theorem op_max (args : Array Operand) (ats : Array TypeId) : evOp E C c ⟨dst, .call ⟨.builtin .max, args, ats⟩, ty, pos, after, g⟩ s = avalR s (aval E ⟨dst, .call ⟨.builtin .max, args, ats⟩, ty, pos, after, g⟩ (evalO E.ng s.r) s.h) := rfl
@[go_sem] theorem op_append (args : Array Operand) (ats : Array TypeId) : evOp E C c ⟨dst, .call ⟨.builtin .append, args, ats⟩, ty, pos, after, g⟩ s = avalR s (aval E ⟨dst, .call ⟨.builtin .append, args, ats⟩, ty, pos, after, g⟩ (evalO E.ng s.r) s.h) := rfl
@[go_sem] theorem op_copy (args : Array Operand) (ats : Array TypeId) : evOp E C c ⟨dst, .call ⟨.builtin .copy, args, ats⟩, ty, pos, after, g⟩ s = avalR s (aval E ⟨dst, .call ⟨.builtin .copy, args, ats⟩, ty, pos, after, g⟩ (evalO E.ng s.r) s.h) := rfl
@[go_sem] theorem op_clear (args : Array Operand) (ats : Array TypeId) : evOp E C c ⟨dst, .call ⟨.builtin .clear, args, ats⟩, ty, pos, after, g⟩ s = avalR s (aval E ⟨dst, .call ⟨.builtin .clear, args, ats⟩, ty, pos, after, g⟩ (evalO E.ng s.r) s.h) := rfl
@[go_sem] theorem op_unsafeSliceData (args : Array Operand) (ats : Array TypeId) : evOp E C c ⟨dst, .call ⟨.builtin .unsafeSliceData, args, ats⟩, ty, pos, after, g⟩ s = avalR s (aval E ⟨dst, .call ⟨.builtin .unsafeSliceData, args, ats⟩, ty, pos, after, g⟩ (evalO E.ng s.r) s.h) := rfl
@[go_sem] theorem op_unsafeString (args : Array Operand) (ats : Array TypeId) : evOp E C c ⟨dst, .call ⟨.builtin .unsafeString, args, ats⟩, ty, pos, after, g⟩ s = avalR s (aval E ⟨dst, .call ⟨.builtin .unsafeString, args, ats⟩, ty, pos, after, g⟩ (evalO E.ng s.r) s.h) := rfl
@[go_sem] theorem op_call (f : Operand) (args : Array Operand) (ats : Array TypeId) : evOp E C c ⟨dst, .call ⟨.value f, args, ats⟩, ty, pos, after, g⟩ s = oOp (evalO E.ng s.r f) fun f => oOp (valsV (evalO E.ng s.r) args.toList) fun vs => callV C f vs s := rfl
end aval
end ops

@[go_sem] theorem aBin_int {op : BinOp} {t : TypeId} {cn : Bool} {k k' : IntKind} {a b : Int} {h : AH} : aBin E op t cn (.int k a) (.int k' b) h = binInt op k k' a b := rfl
@[go_sem] theorem binInt_lss {k : IntKind} {a b : Int} : binInt .lss k k a b = some (.bool (decide (a < b))) := by simp [binInt]
@[go_sem] theorem binInt_leq {k : IntKind} {a b : Int} : binInt .leq k k a b = some (.bool (decide (a ≤ b))) := by simp [binInt]
@[go_sem] theorem binInt_gtr {k : IntKind} {a b : Int} : binInt .gtr k k a b = some (.bool (decide (a > b))) := by simp [binInt]
@[go_sem] theorem binInt_geq {k : IntKind} {a b : Int} : binInt .geq k k a b = some (.bool (decide (a ≥ b))) := by simp [binInt]
@[go_sem] theorem binInt_eql {k : IntKind} {a b : Int} : binInt .eql k k a b = some (.bool (decide (a = b))) := by
  have : (a == b) = decide (a = b) := by by_cases h : a = b <;> simp [h]
  simp [binInt, this]
@[go_sem] theorem binInt_neq {k : IntKind} {a b : Int} : binInt .neq k k a b = some (.bool (decide (¬ a = b))) := by
  have : (a != b) = decide (¬ a = b) := by by_cases h : a = b <;> simp [h]
  simp [binInt, this]
@[go_sem] theorem binInt_add {k : IntKind} {a b : Int} : binInt .add k k a b = some (.int k (k.wrap (a + b))) := by simp [binInt]
@[go_sem] theorem binInt_sub {k : IntKind} {a b : Int} : binInt .sub k k a b = some (.int k (k.wrap (a - b))) := by simp [binInt]
@[go_sem] theorem aUn_not {b : Bool} : aUn .not (.bool b) = some (.bool (!b)) := rfl

/-! ### Registers -/
@[go_sem] theorem get_put_if {α : Type} {t : Tr α} {n m : Nat} {x : α} (h : n < cap) : (t.put n x).get m = if m = n then some x else t.get m := Tr.get_put t n m x h
theorem cap_eq : cap = 1099511627776 := Nat.le_antisymm (by decide) (by decide)
attribute [go_sem] putCells

/-! ### A function's end -/
@[go_sem] theorem bodyL_ret {res : List ResultVar} {r : Tr Value} {n : Nat} {h : AH} {rc : Bool} : bodyL E ft res (.ret ⟨r, n, [], h, rc⟩) = (match resultsV E r h res with | some vs => .ret (oneOf vs) h rc | none => .fail) := leaveL_nil
@[go_sem] theorem bodyL_nor {res : List ResultVar} {r : Tr Value} {n : Nat} {h : AH} {rc : Bool} : bodyL E ft res (.nor ⟨r, n, [], h, rc⟩) = (match resultsV E r h res with | some vs => .ret (oneOf vs) h rc | none => .fail) := leaveL_nil
attribute [go_sem] resultsV oneOf

theorem CL_body {f : FuncId} {fn : Func} {body : Code} {args : List Value} {pan : Option Value} {h : AH} (hf : ft.get f = some ⟨fn.ntmps, fn.results.toList, comp body⟩) (h1 : args.length ≤ fn.ntmps) (h2 : fn.ntmps < cap) :
    CL E ft (.fn f) args pan h = bodyL E ft fn.results.toList (evC E ft ⟨none, pan⟩ body ⟨putCells .nil 0 args, fn.ntmps, [], h, false⟩) := by
  rw [CL_fn hf]
  have e1 : Nat.ble args.length fn.ntmps = true := Nat.ble_eq_true_of_le h1
  have e2 : Nat.blt fn.ntmps cap = true := Nat.ble_eq_true_of_le h2
  simp only [e1, e2, Bool.and_self, cond_true]
  rfl

theorem lt_cap_of {a : Nat} (h : a < 1099511627776) : a < cap := h
end Go.Ev
