/- A deterministic evaluator of the model's code over a memory of its own: control. -/
import Derived.Test.YthhohhbkeaghnaaEVa
set_option linter.unusedSimpArgs false
set_option linter.unusedVariables false
set_option linter.unusedSectionVars false
namespace Go.Ev

/-! ### Which operations may change places -/
inductive Cls where
  | pure | alloc | read | strict
  deriving DecidableEq

def clsOf : Op → Cls
  | .move _ | .pick .. | .build .. | .nilCheck _ | .unOp .. | .makeInterface .. | .makeFunc .. | .fieldAddr .. | .field .. | .indexAddr .. | .index ..
  | .typeAssert .. | .extract .. => .pure
  | .binOp op .. => match op with | .eql | .neq => .read | _ => .pure
  | .alloc _ | .box .. | .buildSlice .. | .makeSlice .. | .makeMap .. => .alloc
  | .load .. | .lookup .. | .slice .. | .convert .. => .read
  | .call { callee := .builtin b, .. } => match b with
    | .len | .cap => .read
    | .min | .max | .unsafeSliceData => .pure
    | _ => .strict
  | _ => .strict

/-- An operation of a region that draws its order: its place, itself, and the places (bits) that must be done ahead. -/
abbrev PO := Nat × Oper × Nat

def isStrict (o : Oper) : Bool := match clsOf o.op with
  | .strict => true
  | _ => false

/-- The next operation that can be done: the first one that is not strict, or the first one. -/
def pickOp (done : Nat) : List PO → Option PO
  | [] => none
  | x :: l => bif (x.2.2 &&& done).beq x.2.2 then
      (bif isStrict x.2.1 then match pickOp done l with
          | some y => bif isStrict y.2.1 then some x else some y
          | none => some x
       else some x)
    else pickOp done l

def dropOp (i : Nat) : List PO → List PO
  | [] => []
  | x :: l => bif x.1.beq i then l else x :: dropOp i l

def orderOps : Nat → Nat → List PO → List PO
  | 0, _, _ => []
  | n + 1, done, l => match pickOp done l with
    | none => []
    | some x => x :: orderOps n (done ||| 2 ^ x.1) (dropOp x.1 l)

/-- What x writes, y does not look at or write. -/
def noDst (all : Array Oper) (x y : Oper) : Bool :=
  match x.dst with
  | none => true
  | some d => (match y.dst with
    | none => true
    | some e => !(d.beq e)) && !((y.looksAt all).contains d)

def selfOk (all : Array Oper) (x : Oper) : Bool :=
  match x.dst with
  | none => true
  | some d => !((x.looksAt all).contains d)

/-- x comes ahead of y here. -/
def pairOk (all : Array Oper) (x y : PO) : Bool :=
  bif isStrict x.2.1 then y.2.2.testBit x.1
  else (isStrict y.2.1 && y.2.2.testBit x.1) || (noDst all y.2.1 x.2.1 && (y.2.2.testBit x.1 || noDst all x.2.1 y.2.1))

def pairsOk (all : Array Oper) : List PO → Bool
  | [] => true
  | x :: l => (isStrict x.2.1 || selfOk all x.2.1) && l.all (pairOk all x) && pairsOk all l

def zipIx (k : Nat) : List Oper → List Nat → List PO
  | o :: os, m :: ms => (k, o, m) :: zipIx (k + 1) os ms
  | _, _ => []

def noSel (o : Oper) : Bool := match o.op with | .select .. => false | _ => true

/-- What must be done ahead, of what stands in the edges. -/
def orBits (ms : List Nat) : List Edge → Nat
  | [] => 0
  | e :: es => (bif Region.binds .any e then 2 ^ e.on ||| ms.getD e.on 0 else 0) ||| orBits ms es

def seqOk (n : Nat) : Nat → List PO → Bool
  | done, [] => done.beq (2 ^ n - 1)
  | done, x :: l => !(done.testBit x.1) && (x.2.2 &&& done).beq x.2.2 && seqOk n (done ||| 2 ^ x.1) l

/-- The order in which the operations of a region are done here, if any order comes to the same. -/
def plan (ops : Array Oper) : Option (List PO) :=
  let ms := (Region.before ops).toList
  let l := zipIx 0 ops.toList ms
  let c := orderOps l.length 0 l
  bif c.length.beq ops.size && seqOk ops.size 0 c && pairsOk ops c && (c.all fun x => noSel x.2.1 && x.2.2.beq (orBits ms x.2.1.after.toList)) then some c else none

/-! ### Code -/
inductive AC where
  | skip
  | plain (ops : List Oper) (all : Array Oper)
  | draw (ops : List PO) (all : Array Oper)
  | bad
  | seq (a b : AC)
  | cond (c : Operand) (t e : AC)
  | block (id : Nat) (a : AC)
  | loop (a : AC)
  | scope (b : Code)
  | scopeAt (b : Code) (l : Nat)
  | goto (l : Nat)
  | rfunc (f : Operand) (params : List Tmp) (assign body : Code)
  | exit (id : Nat)
  | ret

def comp : Code → AC
  | .skip => .skip
  | .label _ => .skip
  | .region _ ops draw => bif draw then (match plan ops with | some l => .draw l ops | none => .bad) else .plain ops.toList ops
  | .seq a b => .seq (comp a) (comp b)
  | .cond c a b => .cond c (comp a) (comp b)
  | .block id a => .block id (comp a)
  | .loop a => .loop (comp a)
  | .rangeFunc f ps assign body => .rfunc f ps.toList assign body
  | .exit id => .exit id
  | .scope b => .scope b
  | .goto l => .goto l
  | .ret => .ret
  | _ => .bad

structure St where
  r : Tr Value
  n : Nat
  d : List Deferred
  h : AH
  rc : Bool

inductive Out where
  | fail
  | nor (s : St)
  | exit (i : Nat) (s : St)
  | goto (l : Nat) (s : St)
  | ret (s : St)
  | pan (v : Value) (s : St)

inductive OpR where
  | fail
  | val (v : Value) (s : St)
  | pan (v : Value) (s : St)

inductive Cal where
  | fn (f : FuncId)
  | yield (l : Nat)

inductive CRes where
  | fail
  | ret (v : Value) (h : AH) (rc : Bool)
  | pan (v : Value) (h : AH)

abbrev CallS := Cal → List Value → Option Value → AH → CRes

/-- In which round we are; what the frame below is panicking with. -/
structure Ctx where
  rnd : Option Nat
  pan : Option Value

def putD (s : St) (d : Option Tmp) (v : Value) : Option St :=
  match d with
  | none => some s
  | some d => bif Nat.blt d s.n && Nat.blt s.n cap then some { s with r := s.r.put d v } else none

def yieldedT (all : Array Oper) (r : Tr Value) (j : Nat) : Option Bool :=
  match (all.toList[j]?).bind (·.dst) with
  | none => none
  | some d => match r.get d with
    | some (.bool b) => some b
    | _ => none

/-- Is an operation wanted? -/
def wantedT (o : Oper) (all : Array Oper) (r : Tr Value) : Option Bool :=
  match o.guard with
  | none => some true
  | some (j, want) => match (all.toList[j]?).bind (·.dst) with
    | none => none
    | some d => match r.get d with
      | some (.bool b) => some (b == want)
      | some (.tuple ⟨[]⟩) => some false
      | _ => none

def callV (C : CallS) (f : Value) (args : List Value) (s : St) : OpR :=
  match f with
  | .func (.func g) ⟨first⟩ ⟨cp⟩ => match C (.fn g) (first ++ args ++ cp) none s.h with
    | .ret v h _ => .val v { s with h := h }
    | .pan v h => .pan v { s with h := h }
    | .fail => .fail
  | .func (.yield l) ⟨first⟩ ⟨[]⟩ => match C (.yield l) (first ++ args) none s.h with
    | .ret v h _ => .val v { s with h := h }
    | .pan v h => .pan v { s with h := h }
    | .fail => .fail
  | _ => .fail

def oOp {α : Type} (x : Option α) (f : α → OpR) : OpR :=
  match x with
  | none => .fail
  | some a => f a

def evOp (E : Env) (C : CallS) (c : Ctx) (o : Oper) (s : St) : OpR :=
  match o.op with
  | .call { callee := .value f, args := args, .. } => oOp (evalO E.ng s.r f) fun f => oOp (valsV (evalO E.ng s.r) args.toList) fun vs => callV C f vs s
  | .call { callee := .builtin .recover, .. } => match c.rnd with
    | some _ => .fail
    | none => match c.pan, s.rc with
      | some v, false => .val v { s with rc := true }
      | _, _ => .val .nilIface s
  | .call { callee := .builtin .panic, args := args, .. } => oOp (valsV (evalO E.ng s.r) args.toList) fun vs => match vs with
    | [.iface t v] => .pan (.iface t v) s
    | _ => .fail
  | .panic x => oOp (evalO E.ng s.r x) fun x => match x with
    | .iface t v => .pan (.iface t v) s
    | _ => .fail
  | .defer { callee := .value f, args := args, .. } => match c.rnd with
    | some _ => .fail
    | none => oOp (evalO E.ng s.r f) fun f => oOp (valsV (evalO E.ng s.r) args.toList) fun vs => match f with
      | .func (.func g) ⟨first⟩ cp => .val undef' { s with d := { target := .fn (.func g) cp, args := ⟨first ++ vs⟩ } :: s.d }
      | _ => .fail
  | _ => oOp (aval E o (evalO E.ng s.r) s.h) fun x => .val x.1 { s with h := x.2 }

def oOut {α : Type} (x : Option α) (f : α → Out) : Out :=
  match x with
  | none => .fail
  | some a => f a

def evOps (E : Env) (C : CallS) (c : Ctx) (all : Array Oper) : List Oper → St → Out
  | [], s => .nor s
  | o :: os, s => match wantedT o all s.r with
    | none => .fail
    | some false => oOut (putD s o.dst undef') fun s => evOps E C c all os s
    | some true => match evOp E C c o s with
      | .fail => .fail
      | .pan v s => .pan v s
      | .val v s => oOut (putD s o.dst v) fun s => evOps E C c all os s

/-- Are two values surely one? -/
def veq : Value → Value → Bool
  | .bool a, .bool b => a == b
  | .int j a, .int k b => decide (j = k) && decide (a = b)
  | .string a, .string b => a.data.toList == b.data.toList
  | .pointer none, .pointer none => true
  | .pointer (some ⟨b, o, none⟩), .pointer (some ⟨b', o', none⟩) => b.beq b' && o.beq o'
  | .slice none l c, .slice none l' c' => l.beq l' && c.beq c'
  | .slice (some ⟨b, o, none⟩) l c, .slice (some ⟨b', o', none⟩) l' c' => b.beq b' && o.beq o' && l.beq l' && c.beq c'
  | .map none, .map none => true
  | .map (some r), .map (some r') => r.beq r'
  | .nilFunc, .nilFunc => true
  | .nilIface, .nilIface => true
  | .agg ⟨l⟩, .agg ⟨l'⟩ => veqs l l'
  | .tuple ⟨l⟩, .tuple ⟨l'⟩ => veqs l l'
  | _, _ => false
where veqs : List Value → List Value → Bool
  | [], [] => true
  | x :: l, y :: l' => veq x y && veqs l l'
  | _, _ => false

structure Watch where
  i : Nat
  o : Oper
  r : Tr Value
  v : Value

def checkW (E : Env) (h : AH) : List Watch → Bool
  | [] => true
  | w :: ws => (match aval E w.o (evalO E.ng w.r) h with
    | none => false
    | some x => veq x.1 w.v && x.2.next.beq h.next) && checkW E h ws

/-- Those that need not be done ahead. -/
def moreW (m : Nat) : List Watch → List Watch
  | [] => []
  | w :: ws => bif m.testBit w.i then moreW m ws else w :: moreW m ws

def evDraw (E : Env) (C : CallS) (c : Ctx) (all : Array Oper) : List PO → List Watch → St → Out
  | [], ws, s => bif checkW E s.h ws then .nor s else .fail
  | p :: ps, ws, s => match isStrict p.2.1 with
    | true => bif checkW E s.h ws then (match wantedT p.2.1 all s.r with
        | none => .fail
        | some false => oOut (putD s p.2.1.dst undef') fun s => evDraw E C c all ps (moreW p.2.2 ws) s
        | some true => match evOp E C c p.2.1 s with
          | .val v s => oOut (putD s p.2.1.dst v) fun s => evDraw E C c all ps (moreW p.2.2 ws) s
          | _ => .fail) else .fail
    | false => match wantedT p.2.1 all s.r with
      | none => .fail
      | some false => oOut (putD s p.2.1.dst undef') fun s => evDraw E C c all ps ws s
      | some true => match aval E p.2.1 (evalO E.ng s.r) s.h with
        | none => .fail
        | some x => match clsOf p.2.1.op with
          | .read => bif x.2.next.beq s.h.next then oOut (putD s p.2.1.dst x.1) fun s' => evDraw E C c all ps (⟨p.1, p.2.1, s.r, x.1⟩ :: ws) s' else .fail
          | _ => oOut (putD { s with h := x.2 } p.2.1.dst x.1) fun s => evDraw E C c all ps ws s

/-- A round's frame. -/
def putAll (n : Nat) (r : Tr Value) : List Tmp → List Value → Option (Tr Value)
  | [], [] => some r
  | t :: ts, v :: vs => bif Nat.blt t n then putAll n (r.put t v) ts vs else none
  | _, _ => none

def ev (E : Env) (C : CallS) (c : Ctx) : Nat → AC → St → Out
  | 0, _, _ => .fail
  | n + 1, x, s => match x with
    | .skip => .nor s
    | .plain ops all => evOps E C c all ops s
    | .draw ops all => evDraw E C c all ops [] s
    | .bad => .fail
    | .seq a b => match ev E C c n a s with
      | .nor s => ev E C c n b s
      | x => x
    | .cond x t e => match evalO E.ng s.r x with
      | some (.bool true) => ev E C c n t s
      | some (.bool false) => ev E C c n e s
      | _ => .fail
    | .block id a => match ev E C c n a s with
      | .exit i s => bif i.beq id then .nor s else .exit i s
      | x => x
    | .loop a => match ev E C c n a s with
      | .nor s => ev E C c n (.loop a) s
      | x => x
    | .scope b => match ev E C c n (comp b) s with
      | .goto l s => ev E C c n (.scopeAt b l) s
      | x => x
    | .scopeAt b l => match findLabel b l with
      | none => .goto l s
      | some rest => match ev E C c n (comp rest) s with
        | .goto l s => ev E C c n (.scopeAt b l) s
        | x => x
    | .rfunc f ps assign body => match c.rnd with
      | some _ => .fail
      | none => oOut (evalO E.ng s.r f) fun fv =>
        bif Nat.blt (s.h.next + 1) cap then
          match callV C fv [.func (.yield (s.h.next + 1)) ⟨[]⟩ ⟨[]⟩] { s with h := (s.h.new (.deferred (some []))).new (.loop .ready none 0 s.n s.r ps assign body s.h.next), d := { target := .collected s.h.next, args := ⟨[]⟩ } :: s.d } with
          | .fail => .fail
          | .pan v s => .pan v s
          | .val _ s' => match s'.h.b.get (s.h.next + 1) with
            | some (.loop st pend fn n r ps asg bo de) => match st with
              | .busy => .fail
              | _ =>
                match pend with
                | none => .nor { s' with h := s'.h.upd (s.h.next + 1) (.loop .exhausted pend fn n r ps asg bo de) }
                | some .ret => .ret { s' with h := s'.h.upd (s.h.next + 1) (.loop .exhausted pend fn n r ps asg bo de) }
                | some (.exit i) => .exit i { s' with h := s'.h.upd (s.h.next + 1) (.loop .exhausted pend fn n r ps asg bo de) }
                | _ => .fail
            | _ => .fail
        else .fail
    | .exit i => .exit i s
    | .goto l => .goto l s
    | .ret => .ret s

structure AFunc where
  n : Nat
  results : List ResultVar
  body : AC

def resultsV (E : Env) (r : Tr Value) (h : AH) : List ResultVar → Option (List Value)
  | [] => some []
  | .tmp t :: l => oget (r.get t) fun v => oget (resultsV E r h l) fun vs => some (v :: vs)
  | .cell a t :: l => oget (r.get a) fun a => oget (aLoad E t a h) fun v => oget (resultsV E r h l) fun vs => some (v :: vs)

def oneOf : List Value → Value
  | [v] => v
  | vs => .tuple ⟨vs⟩

/-- The deferred calls, and what the call comes to. -/
def leave (E : Env) (C : CallS) (res : List ResultVar) (r : Tr Value) (rc : Bool) : Nat → Option Value → List Deferred → AH → CRes
  | _, none, [], h => match resultsV E r h res with
    | some vs => .ret (oneOf vs) h rc
    | none => .fail
  | _, some v, [], h => bif rc then .fail else .pan v h
  | 0, _, _ :: _, _ => .fail
  | n + 1, m, d :: ds, h => match d.target with
    | .collected b => match h.b.get b with
      | some (.deferred (some [])) => leave E C res r rc n m ds (h.upd b (.deferred none))
      | _ => .fail
    | .fn (.func f) ⟨cp⟩ => match C (.fn f) (d.args.toList ++ cp) m h with
      | .ret _ h rcd => leave E C res r rc n (bif rcd then none else m) ds h
      | _ => .fail
    | _ => .fail

def roundEnd (l : Nat) (jump : Option Code) (h : AH) : CRes :=
  match h.b.get l with
  | some (.loop _ _ fn n r ps asg bo de) => .ret (.bool jump.isNone) (h.upd l (.loop (if jump.isNone then .ready else .done) jump fn n r ps asg bo de)) false
  | _ => .fail

/-- How a round ends. -/
def endOf (l : Nat) : Out → CRes
  | .nor s => match s.d with
    | [] => roundEnd l none s.h
    | _ => .fail
  | .ret s => match s.d with
    | [] => roundEnd l (some .ret) s.h
    | _ => .fail
  | .exit i s => match s.d with
    | [] => roundEnd l (some (.exit i)) s.h
    | _ => .fail
  | .pan v s => match s.d with
    | [] => .pan v s.h
    | _ => .fail
  | _ => .fail

def callN (E : Env) (ft : Tr AFunc) : Nat → CallS
  | 0 => fun _ _ _ _ => .fail
  | n + 1 => fun f args pan h => match f with
    | .fn f => match ft.get f with
      | none => bif E.same f then (match args with | [.pointer a] => .ret (.pointer a) h false | _ => .fail) else (match E.known f, args, pan with | some v, [], none => .ret v h false | _, _, _ => .fail)
      | some fn => bif Nat.ble args.length fn.n && Nat.blt fn.n cap then
        (match ev E (callN E ft n) ⟨none, pan⟩ n fn.body ⟨putCells .nil 0 args, fn.n, [], h, false⟩ with
          | .nor s => leave E (callN E ft n) fn.results s.r s.rc n none s.d s.h
          | .ret s => leave E (callN E ft n) fn.results s.r s.rc n none s.d s.h
          | .pan v s => leave E (callN E ft n) fn.results s.r s.rc n (some v) s.d s.h
          | _ => .fail) else .fail
    | .yield l => match h.b.get l with
      | some (.loop .ready _ _ m r ps assign body _) => bif Nat.blt m cap then match putAll m r ps args with
        | none => .fail
        | some r => match ev E (callN E ft n) ⟨some l, none⟩ n (comp assign) ⟨r, m, [], h, false⟩ with
          | .nor s => match s.h.b.get l with
            | some (.loop .ready pend fn m' r' ps asg bo de) =>
              endOf l (ev E (callN E ft n) ⟨some l, none⟩ n (comp body) { s with h := s.h.upd l (.loop .busy pend fn m' r' ps asg bo de) })
            | _ => .fail
          | _ => .fail
        else .fail
      | _ => .fail

def fieldsOk (P : Program) : Nat → List Field → Option (List TypeDesc)
  | _, [] => some []
  | k, f :: fs => bif f.name != "_" && f.offset.beq k then
      (match P.underlying f.type with
        | some u => bif keyOk u then oget (fieldsOk P (k + 1) fs) fun l => some (u :: l) else none
        | none => none) else none

def skeyOf (P : Program) (t : TypeId) : TypeDesc → Option (List TypeDesc)
  | .struct fs => bif P.stoodInHeld t then none else fieldsOk P 0 fs.toList
  | _ => none

def tinfoOf (P : Program) (t : TypeId) : Option TInfo :=
  match P.underlying t, P.info? t with
  | some u, some i => some ⟨u, i.size, i.bytes, i.zero.bind (fun z => bif plainZ z then some z else none), skeyOf P t u⟩
  | _, _ => none

def afunc (fn : Func) : AFunc := ⟨fn.ntmps, fn.results.toList, match fn.body with | some b => comp b | none => .bad⟩

def ofList {α : Type} : List (Nat × α) → Tr α
  | [] => .nil
  | x :: l => (ofList l).put x.1 x.2

end Go.Ev
