/- A deterministic evaluator of the model's code over a memory of its own: definitions. -/
import Derived.Orders
set_option linter.unusedSimpArgs false
set_option linter.unusedVariables false
set_option linter.unusedSectionVars false
namespace Go.Ev

/-! ### A persistent store keyed by numbers -/
inductive Tr (α : Type) where
  | nil
  | node (v : Option α) (l r : Tr α)

def Tr.get {α : Type} : Tr α → Nat → Option α
  | .nil, _ => none
  | .node v l r, n => bif n.beq 0 then v else bif (Nat.mod n 2).beq 1 then l.get (Nat.div n 2) else r.get (Nat.sub (Nat.div n 2) 1)

def Tr.set {α : Type} : Nat → Tr α → Nat → α → Tr α
  | 0, t, _, _ => t
  | f + 1, .nil, n, x => bif n.beq 0 then .node (some x) .nil .nil else bif (Nat.mod n 2).beq 1 then .node none (Tr.set f .nil (Nat.div n 2) x) .nil else .node none .nil (Tr.set f .nil (Nat.sub (Nat.div n 2) 1) x)
  | f + 1, .node v l r, n, x => bif n.beq 0 then .node (some x) l r else bif (Nat.mod n 2).beq 1 then .node v (Tr.set f l (Nat.div n 2) x) r else .node v l (Tr.set f r (Nat.sub (Nat.div n 2) 1) x)

/-- How many keys there may be. -/
def cap : Nat := 1099511627776

def Tr.put {α : Type} (t : Tr α) (n : Nat) (x : α) : Tr α := Tr.set 41 t n x

/-! ### The tables of types and functions -/
structure TInfo where
  und : TypeDesc
  size : Nat
  bytes : Nat
  zero : Option Value
  /-- a struct of numbers, texts and bools: what each field is -/
  skey : Option (List TypeDesc)

structure Env where
  tt : Tr TInfo
  /-- how many package-level variables there are: they are the first blocks -/
  ng : Nat
  /-- functions without a body that hand back their one argument -/
  same : FuncId → Bool
  /-- functions without arguments of which it is known what they answer; they leave no trace -/
  known : FuncId → Option Value

/-! ### Memory -/
inductive Blk where
  /-- n known cells; opn = 0: there are no more; else there may be more elements of opn cells each behind them; kept: it may be compared -/
  | cells (n : Nat) (c : Tr Value) (elem : TypeId) (opn : Nat) (whole : Bool)
  /-- what came in: read alone -/
  | ro (n : Nat) (c : Nat → Value)
  | map (es : List MapEntry) (clock : Nat)
  | loop (state : LoopState) (pending : Option Code) (fn : FuncId) (n : Nat) (r : Tr Value) (params : List Tmp) (assign body : Code) (defers : Nat)
  | deferred (ds : Option (List Deferred))
  | dead

def Blk.own : Blk → Bool
  | .ro .. => false
  | .dead => false
  | _ => true

structure AH where
  next : Nat
  b : Tr Blk

def AH.new (h : AH) (b : Blk) : AH := ⟨h.next + 1, h.b.put h.next b⟩
def AH.upd (h : AH) (i : Nat) (b : Blk) : AH := ⟨h.next, h.b.put i b⟩

def undef' : Value := .tuple ⟨[]⟩

mutual
/-- A value without an address in it. -/
def plainZ : Value → Bool
  | .bool _ => true
  | .int _ _ => true
  | .string _ => true
  | .pointer none => true
  | .slice none _ _ => true
  | .map none => true
  | .nilFunc => true
  | .nilIface => true
  | .iface _ v => plainZ v
  | .agg a => plainA a
  | _ => false
def plainA : Array Value → Bool
  | ⟨l⟩ => plainL l
def plainL : List Value → Bool
  | [] => true
  | v :: l => plainZ v && plainL l
end

def evalO (ng : Nat) (r : Tr Value) : Operand → Option Value
  | .tmp t => r.get t
  | .const v => bif plainZ v then some v else none
  | .global g => bif Nat.blt g ng then some (.pointer (some ⟨g, 0, none⟩)) else none
  | .func f => some (.func (.func f) ⟨[]⟩ ⟨[]⟩)

def putCells (c : Tr Value) (off : Nat) : List Value → Tr Value
  | [] => c
  | v :: vs => putCells (c.put off v) (off + 1) vs

/-- n cells from off on, all of them below m. -/
def getCells (c : Nat → Option Value) (off : Nat) : Nat → Option (List Value)
  | 0 => some []
  | n + 1 => match c off with
    | none => none
    | some v => match getCells c (off + 1) n with
      | none => none
      | some vs => some (v :: vs)

/-- A block's cell. -/
def Blk.cell : Blk → Nat → Option Value
  | .cells n c _ _ _, i => bif Nat.blt i n then c.get i else none
  | .ro n c, i => bif Nat.blt i n then some (c i) else none
  | _, _ => none

def isAggD : TypeDesc → Bool
  | .struct _ | .array _ _ => true
  | _ => false

def plainCell : Value → Bool
  | .agg _ | .tuple _ => false
  | _ => true

def repl (z : List Value) : Nat → List Value
  | 0 => []
  | n + 1 => z ++ repl z n

def binInt (op : BinOp) (k k' : IntKind) (a b : Int) : Option Value :=
  match op with
  | .shl => bif decide (b < 0) then none else some (.int k (k.wrap (a * 2 ^ (min b.toNat k.bits))))
  | .shr => bif decide (b < 0) then none else some (.int k (a.fdiv (2 ^ (min b.toNat k.bits))))
  | _ => match decide (k = k') with
    | false => none
    | true => match op with
      | .add => some (.int k (k.wrap (a + b)))
      | .sub => some (.int k (k.wrap (a - b)))
      | .mul => some (.int k (k.wrap (a * b)))
      | .quo => bif decide (b = 0) then none else some (.int k (k.wrap (a.tdiv b)))
      | .rem => bif decide (b = 0) then none else some (.int k (a.tmod b))
      | .and => some (.int k (k.wrap (BitVec.ofInt k.bits a &&& BitVec.ofInt k.bits b).toNat))
      | .or => some (.int k (k.wrap (BitVec.ofInt k.bits a ||| BitVec.ofInt k.bits b).toNat))
      | .xor => some (.int k (k.wrap (BitVec.ofInt k.bits a ^^^ BitVec.ofInt k.bits b).toNat))
      | .andNot => some (.int k (k.wrap (BitVec.ofInt k.bits a &&& ~~~ BitVec.ofInt k.bits b).toNat))
      | .eql => some (.bool (a == b))
      | .neq => some (.bool (a != b))
      | .lss => some (.bool (decide (a < b)))
      | .leq => some (.bool (decide (a ≤ b)))
      | .gtr => some (.bool (decide (a > b)))
      | .geq => some (.bool (decide (a ≥ b)))
      | _ => none

def oget {α β : Type} (x : Option α) (f : α → Option β) : Option β :=
  match x with
  | none => none
  | some a => f a

def tInfo (E : Env) (t : TypeId) : Option TInfo := E.tt.get t

def aNewCells (h : AH) (cs : List Value) (t : TypeId) : Option (Value × AH) :=
  bif cs.all plainCell && Nat.blt h.next cap && Nat.blt cs.length cap then
    some (.pointer (some ⟨h.next, 0, none⟩), h.new (.cells cs.length (putCells .nil 0 cs) t 0 true))
  else none

def aAlloc (E : Env) (t : TypeId) (h : AH) : Option (Value × AH) :=
  oget (tInfo E t) fun i => oget i.zero fun z => aNewCells h z.cells.toList t

def aLoad (E : Env) (t : TypeId) (a : Value) (h : AH) : Option Value :=
  match a with
  | .pointer (some ⟨b, off, none⟩) => oget (tInfo E t) fun i => oget (h.b.get b) fun blk =>
    bif isAggD i.und then oget (getCells blk.cell off i.size) fun vs => some (.agg ⟨vs⟩) else blk.cell off
  | _ => none

/-- A block with some cells overwritten: they were there. -/
def aWrite (h : AH) (b off : Nat) (vs : List Value) : Option AH :=
  match h.b.get b with
  | some (.cells n c e o w) =>
    bif Nat.ble (off + vs.length) n && vs.all plainCell && Nat.blt n cap then some (h.upd b (.cells n (putCells c off vs) e o w)) else none
  | _ => none

def aStore (E : Env) (t : TypeId) (a v : Value) (h : AH) : Option AH :=
  match a with
  | .pointer (some ⟨b, off, none⟩) => oget (tInfo E t) fun i =>
    bif v.cells.toList.length.beq i.size then aWrite h b off v.cells.toList else none
  | _ => none

def partV (E : Env) (t : TypeId) (cs : List Value) (off : Nat) : Option Value :=
  oget (tInfo E t) fun i => bif isAggD i.und then
    bif Nat.ble (off + i.size) cs.length then some (.agg ⟨(cs.drop off).take i.size⟩) else none
  else cs[off]?

def aField (E : Env) (t : TypeId) (x : Value) (f : Nat) : Option Value :=
  oget (tInfo E t) fun i => match i.und, x with
  | .struct fs, .agg ⟨cs⟩ => oget fs.toList[f]? fun fd => partV E fd.type cs fd.offset
  | _, _ => none

def aFieldAddr (E : Env) (t : TypeId) (x : Value) (f : Nat) : Option Value :=
  oget (tInfo E t) fun i => match i.und, x with
  | .struct fs, .pointer (some ⟨b, off, none⟩) => oget fs.toList[f]? fun fd => oget (tInfo E fd.type) fun fi =>
    bif fi.size.beq 0 then none else some (.pointer (some ⟨b, off + fd.offset, none⟩))
  | _, _ => none

def aIndexAddr (E : Env) (t : TypeId) (x ix : Value) : Option Value :=
  oget (tInfo E t) fun i => match i.und, x, ix with
  | .slice e, .slice (some ⟨b, off, none⟩) len _, .int _ j => oget (tInfo E e) fun ei =>
    bif decide (0 ≤ j) && decide (j < len) then some (.pointer (some ⟨b, off + j.toNat * ei.size, none⟩)) else none
  | .array len e, .pointer (some ⟨b, off, none⟩), .int _ j => oget (tInfo E e) fun ei =>
    bif decide (0 ≤ j) && decide (j < len) then some (.pointer (some ⟨b, off + j.toNat * ei.size, none⟩)) else none
  | _, _, _ => none

def aIndex (E : Env) (t : TypeId) (x ix : Value) : Option Value :=
  oget (tInfo E t) fun i => match i.und, x, ix with
  | .array len e, .agg ⟨cs⟩, .int _ j => oget (tInfo E e) fun ei =>
    bif decide (0 ≤ j) && decide (j < len) then partV E e cs (j.toNat * ei.size) else none
  | .string, .string s, .int _ j => bif decide (0 ≤ j) then
      match s.data.toList[j.toNat]? with
      | some b => some (.int .u8 b.toNat)
      | none => none
    else none
  | _, _, _ => none

def bound? : Option Value → Nat → Option Nat
  | none, d => some d
  | some (.int _ i), _ => bif decide (0 ≤ i) then some i.toNat else none
  | some _, _ => none

/-- 'x[lo:hi]'. -/
def aSlice (E : Env) (t : TypeId) (x : Value) (lo hi : Option Value) (h : AH) : Option (Value × AH) :=
  oget (tInfo E t) fun i => match i.und, x with
  | .string, .string s => oget (bound? lo 0) fun l => oget (bound? hi s.data.toList.length) fun u =>
    bif Nat.ble l u && Nat.ble u s.data.toList.length then some (.string ⟨⟨(s.data.toList.drop l).take (u - l)⟩⟩, h) else none
  | .slice e, .slice a len cp => oget (tInfo E e) fun ei => oget (bound? lo 0) fun l => oget (bound? hi len) fun u =>
    bif Nat.ble l u && Nat.ble u cp then
      match a with
      | none => some (.slice none (u - l) (cp - l), h)
      | some ⟨b, off, none⟩ => match h.b.get b with
        | some (.cells _ _ _ opn _) =>
          bif opn.beq 0 then some (.slice (some ⟨b, bif cp.beq l then off else off + l * ei.size, none⟩) (u - l) (cp - l), h)
          else bif cp.beq l then (bif Nat.blt h.next cap then some (.slice (some ⟨h.next, 0, none⟩) 0 0, h.new .dead) else none)
          else some (.slice (some ⟨b, off + l * ei.size, none⟩) (u - l) (cp - l), h)
        | some (.ro _ _) => some (.slice (some ⟨b, bif cp.beq l then off else off + l * ei.size, none⟩) (u - l) (cp - l), h)
        | _ => none
      | _ => none
    else none
  | .pointer arr, .pointer (some ⟨b, off, none⟩) => oget (tInfo E arr) fun ai => match ai.und, h.b.get b with
    | .array n e, some (.cells _ _ _ opn _) => oget (tInfo E e) fun ei => oget (bound? lo 0) fun l => oget (bound? hi n) fun u =>
      bif Nat.ble l u && Nat.ble u n && opn.beq 0 then some (.slice (some ⟨b, bif n.beq l then off else off + l * ei.size, none⟩) (u - l) (n - l), h) else none
    | _, _ => none
  | .array n e, .pointer (some ⟨b, off, none⟩) => match h.b.get b with
    | some (.cells _ _ _ opn _) => oget (tInfo E e) fun ei => oget (bound? lo 0) fun l => oget (bound? hi n) fun u =>
      bif Nat.ble l u && Nat.ble u n && opn.beq 0 then some (.slice (some ⟨b, bif n.beq l then off else off + l * ei.size, none⟩) (u - l) (n - l), h) else none
    | _ => none
  | _, _ => none

/-- The cells of a slice's (a string's) first n elements. -/
def aFirst (size n : Nat) (x : Value) (h : AH) : Option (List Value) :=
  match x with
  | .slice none _ _ => some []
  | .slice (some ⟨b, off, none⟩) _ _ => oget (h.b.get b) fun blk => getCells blk.cell off (n * size)
  | .string s => some (((s.data.toList).take n).map fun (b : UInt8) => .int .u8 b.toNat)
  | _ => none

def lenV : Value → Option Nat
  | .slice _ n _ => some n
  | .string s => some s.data.toList.length
  | _ => none

/-- What is appended, and how many elements. -/
def aNew (E : Env) (ei : TInfo) (xt : Option TypeId) (x : Value) (h : AH) : Option (Nat × List Value) :=
  match x with
  | .int _ m => match (xt.bind (tInfo E)), ei.zero with
    | some ⟨.int _, _, _, _, _⟩, some z => bif decide (0 ≤ m) && decide (m < 4294967296) && (z.cells.toList.length.beq ei.size) && Nat.blt (m.toNat * ei.bytes) 4294967296 then some (m.toNat, repl z.cells.toList m.toNat) else none
    | _, _ => none
  | x => match (xt.bind (tInfo E)) with
    | some ⟨.int _, _, _, _, _⟩ => none
    | none => none
    | _ => oget (lenV x) fun n => oget (aFirst ei.size n x h) fun vs => some (n, vs)

def aAppend (E : Env) (st : TypeId) (xt : Option TypeId) (s x : Value) (h : AH) : Option (Value × AH) :=
  oget (tInfo E st) fun i => match i.und, s with
  | .slice e, .slice base sl cp => oget (tInfo E e) fun ei => oget (aNew E ei xt x h) fun nv =>
    bif Nat.ble (sl + nv.1) cp then
      match base with
      | none => bif nv.2.length.beq 0 then some (.slice none (sl + nv.1) cp, h) else none
      | some ⟨b, off, none⟩ => bif nv.2.length.beq 0 then some (.slice base (sl + nv.1) cp, h) else
          oget (aWrite h b (off + sl * ei.size) nv.2) fun h => some (.slice base (sl + nv.1) cp, h)
      | _ => none
    else match ei.zero with
      | none => none
      | some z =>
        bif Nat.blt 0 ei.size && Nat.blt ((sl + nv.1) * ei.size) 4294967296 && Nat.blt ((sl + nv.1) * ei.bytes) 4294967296 && nv.2.length.beq (nv.1 * ei.size) && nv.2.all plainCell && Nat.blt h.next cap && z.cells.toList.length.beq ei.size && z.cells.toList.all plainCell then
          match base with
          | none => bif sl.beq 0 && cp.beq 0 then some (.slice (some ⟨h.next, 0, none⟩) nv.1 nv.1, h.new (.cells (nv.1 * ei.size) (putCells .nil 0 nv.2) e ei.size true)) else none
          | some ⟨b, off, none⟩ => match h.b.get b with
            | some (.cells m c be o w) =>
              bif Nat.ble (off + sl * ei.size) m then
                let c0 := bif off.beq 0 then some c else oget (getCells c.get off (sl * ei.size)) fun old => some (putCells .nil 0 old)
                oget c0 fun c0 =>
                let nb := Blk.cells ((sl + nv.1) * ei.size) (putCells c0 (sl * ei.size) nv.2) e ei.size w
                bif o.beq 0 then some (.slice (some ⟨h.next, 0, none⟩) (sl + nv.1) (sl + nv.1), h.new nb)
                else bif o.beq ei.size && (off + cp * ei.size).beq m && be.beq e then some (.slice (some ⟨h.next, 0, none⟩) (sl + nv.1) (sl + nv.1), (h.upd b .dead).new nb)
                else none
              else none
            | some (.ro _ _) => oget (aFirst ei.size sl s h) fun old => some (.slice (some ⟨h.next, 0, none⟩) (sl + nv.1) (sl + nv.1), h.new (.cells ((sl + nv.1) * ei.size) (putCells .nil 0 (old ++ nv.2)) e ei.size true))
            | _ => none
          | _ => none
        else none
  | _, _ => none

def aCopy (E : Env) (dt : TypeId) (d s : Value) (h : AH) : Option (Value × AH) :=
  oget (tInfo E dt) fun i => match i.und, d with
  | .slice e, .slice base dl _ => oget (tInfo E e) fun ei => oget (lenV s) fun sl =>
    let n := bif Nat.ble sl dl then sl else dl
    oget (aFirst ei.size n s h) fun vs =>
      bif vs.length.beq 0 then some (.int .i64 n, h) else
      match base with
      | some ⟨b, off, none⟩ => oget (aWrite h b off vs) fun h => some (.int .i64 n, h)
      | _ => none
  | _, _ => none

def aMakeSlice (E : Env) (t : TypeId) (l c : Value) (h : AH) : Option (Value × AH) :=
  oget (tInfo E t) fun i => match i.und, l, c with
  | .slice e, .int _ l, .int _ c => oget (tInfo E e) fun ei => oget ei.zero fun z =>
    bif decide (0 ≤ l) && decide (l ≤ c) && decide (c < 4294967296) && Nat.blt (c.toNat * ei.bytes) 4294967296 && z.cells.toList.length.beq ei.size && z.cells.toList.all plainCell && Nat.blt h.next cap && Nat.blt (c.toNat * ei.size) cap then
      some (.slice (some ⟨h.next, 0, none⟩) l.toNat c.toNat, h.new (.cells (c.toNat * ei.size) (putCells .nil 0 (repl z.cells.toList c.toNat)) e 0 true))
    else none
  | _, _, _ => none

/-- Parts laid into cells. -/
def fillV (place : Nat → Option (Nat × Nat)) (cells : List Value) : List (Nat × Value) → Option (List Value)
  | [] => some cells
  | (i, v) :: rest => match place i with
    | none => none
    | some (off, size) => bif v.cells.toList.length.beq size && Nat.ble (off + size) cells.length then
        fillV place (cells.take off ++ v.cells.toList ++ cells.drop (off + size)) rest else none

/-- Parts that follow one another without a gap, all of one size: their cells. -/
def packed (size : Nat) : Nat → List (Nat × Value) → Option (List Value)
  | _, [] => some []
  | k, (i, v) :: rest => bif i.beq k && v.cells.toList.length.beq size then oget (packed size (k + 1) rest) fun l => some (v.cells.toList ++ l) else none

def partsV (ρ : Operand → Option Value) : List (Nat × Operand) → Option (List (Nat × Value))
  | [] => some []
  | (i, x) :: rest => oget (ρ x) fun v => oget (partsV ρ rest) fun l => some ((i, v) :: l)

def valsV (ρ : Operand → Option Value) : List Operand → Option (List Value)
  | [] => some []
  | x :: rest => oget (ρ x) fun v => oget (valsV ρ rest) fun l => some (v :: l)

def placesL (E : Env) : List Field → Option (List (Nat × Nat))
  | [] => some []
  | f :: fs => oget (tInfo E f.type) fun fi => oget (placesL E fs) fun l => some ((f.offset, fi.size) :: l)

def aBuild (E : Env) (t : TypeId) (parts : List (Nat × Value)) : Option Value :=
  oget (tInfo E t) fun i => oget i.zero fun z => match i.und with
  | .struct fs => oget (placesL E fs.toList) fun pl => oget (fillV (fun i => pl[i]?) z.cells.toList parts) fun cs => some (.agg ⟨cs⟩)
  | .array n e => oget (tInfo E e) fun ei =>
    bif parts.length.beq n && z.cells.toList.length.beq (n * ei.size) then
      match packed ei.size 0 parts with
      | some cs => some (.agg ⟨cs⟩)
      | none => oget (fillV (fun i => some (i * ei.size, ei.size)) z.cells.toList parts) fun cs => some (.agg ⟨cs⟩)
    else oget (fillV (fun i => some (i * ei.size, ei.size)) z.cells.toList parts) fun cs => some (.agg ⟨cs⟩)
  | _ => none

def aBuildSlice (E : Env) (t : TypeId) (len : Nat) (parts : List (Nat × Value)) (h : AH) : Option (Value × AH) :=
  oget (tInfo E t) fun i => match i.und with
  | .slice e => oget (tInfo E e) fun ei => oget ei.zero fun z =>
    bif z.cells.toList.length.beq ei.size && Nat.blt (len * ei.size) 16777216 then
      oget (match bif parts.length.beq len then packed ei.size 0 parts else none with
        | some cs => some cs
        | none => fillV (fun i => some (i * ei.size, ei.size)) (repl z.cells.toList len) parts) fun cs =>
      bif cs.all plainCell && Nat.blt h.next cap && Nat.blt cs.length cap then
        some (.slice (some ⟨h.next, 0, none⟩) len len, h.new (.cells cs.length (putCells .nil 0 cs) e 0 true))
      else none
    else none
  | _ => none

def bytesV : List Value → Option (List UInt8)
  | [] => some []
  | .int .u8 n :: l => oget (bytesV l) fun bs => some (UInt8.ofNat n.toNat :: bs)
  | _ => none

def aConvert (E : Env) (src dst : TypeId) (x : Value) (h : AH) : Option (Value × AH) :=
  oget (tInfo E src) fun si => oget (tInfo E dst) fun di => match si.und, di.und, x with
  | .int _, .int k, .int _ n => some (.int k (k.wrap n), h)
  | .string, .string, .string s => some (.string s, h)
  | .slice e, .string, .slice none _ _ => oget (tInfo E e) fun ei => match ei.und with
    | .int .u8 => some (.string ⟨⟨[]⟩⟩, h)
    | _ => none
  | .slice e, .string, .slice (some ⟨b, off, none⟩) len _ => oget (tInfo E e) fun ei => match ei.und with
    | .int .u8 => oget (h.b.get b) fun blk => oget (getCells blk.cell off len) fun vs => oget (bytesV vs) fun bs => some (.string ⟨⟨bs⟩⟩, h)
    | _ => none
  | .string, .slice e, .string s => oget (tInfo E e) fun ei => match ei.und with
    | .int .u8 => bif Nat.blt h.next cap && Nat.blt s.data.toList.length 4294967296 then
        some (.slice (some ⟨h.next, 0, none⟩) s.data.toList.length s.data.toList.length, h.new (.cells s.data.toList.length (putCells .nil 0 (s.data.toList.map fun (b : UInt8) => .int .u8 b.toNat)) e 1 false)) else none
    | _ => none
  | .pointer t, .unsafePointer, .pointer (some ⟨b, off, none⟩) => oget (tInfo E t) fun ti => match h.b.get b with
    | some (.cells n _ _ _ _) => bif Nat.blt off n && Nat.blt 0 ti.size then some (.pointer (some ⟨b, off, none⟩), h) else none
    | _ => none
  | .unsafePointer, .pointer u, .pointer (some ⟨b, off, none⟩) => oget (tInfo E u) fun ui => match h.b.get b with
    | some (.cells n _ e opn _) => bif e.beq u && off.beq 0 && n.beq ui.size && opn.beq 0 && Nat.blt 0 ui.size then some (.pointer (some ⟨b, off, none⟩), h) else none
    | _ => none
  | _, _, _ => none

/-- Equality of values that are no integers and no strings. -/
def eqV (h : AH) : TypeDesc → Value → Value → Option Bool
  | .bool, .bool a, .bool b => some (a == b)
  | .pointer _, .pointer none, .pointer b => some b.isNone
  | .pointer _, .pointer (some _), .pointer none => some false
  | .interface _, .nilIface, .iface _ _ => some false
  | .interface _, .iface _ _, .nilIface => some false
  | .slice _, .slice none _ _, .slice b _ _ => some b.isNone
  | .slice _, .slice (some _) _ _, .slice none _ _ => some false
  | .map _ _, .map none, .map b => some b.isNone
  | .map _ _, .map (some _), .map none => some false
  | .func _ _ _, .nilFunc, .nilFunc => some true
  | .func _ _ _, .nilFunc, .func _ _ _ => some false
  | .func _ _ _, .func _ _ _, .nilFunc => some false
  | .pointer _, .pointer (some ⟨b, off, none⟩), .pointer (some ⟨b', off', none⟩) =>
    match h.b.get b, h.b.get b' with
    | some (.cells n _ _ _ true), some (.cells n' _ _ _ true) => bif Nat.blt off n && Nat.blt off' n' then some (b.beq b' && off.beq off') else none
    | _, _ => none
  | _, _, _ => none

def bytesLt : List UInt8 → List UInt8 → Bool
  | _, [] => false
  | [], _ :: _ => true
  | a :: x, b :: y => a < b || (a == b && bytesLt x y)

def binStr (op : BinOp) (a b : ByteArray) : Option Value :=
  match op with
  | .add => bif Nat.blt (a.data.toList.length + b.data.toList.length) 4294967296 then some (.string ⟨⟨a.data.toList ++ b.data.toList⟩⟩) else none
  | .eql => some (.bool (a.data.toList == b.data.toList))
  | .neq => some (.bool (!(a.data.toList == b.data.toList)))
  | .lss => some (.bool (bytesLt a.data.toList b.data.toList))
  | _ => none

def sameN : TypeDesc → Value → Value → Option Bool
  | .int _, .int k a, .int k' b => bif decide (k = k') then some (a == b) else none
  | .string, .string a, .string b => some (a.data.toList == b.data.toList)
  | .bool, .bool a, .bool b => some (a == b)
  | _, _, _ => none

def eqScals : List TypeDesc → List Value → List Value → Option Bool
  | [], [], [] => some true
  | u :: us, x :: l, y :: l' => match sameN u x y with
    | some true => eqScals us l l'
    | r => bif l.length.beq us.length && l'.length.beq us.length then r else none
  | _, _, _ => none

def isCon : Operand → Bool
  | .const _ => true
  | _ => false

def nilP : Value → Bool
  | .pointer none => true
  | _ => false

/-- Are two pointers nil, or of a type that has cells? -/
def ptrOk (E : Env) (u : TypeDesc) (x y : Value) : Bool :=
  match u with
  | .pointer el => nilP x || nilP y || (match tInfo E el with
    | some ei => Nat.blt 0 ei.size
    | none => false)
  | _ => true

def nilTwo (E : Env) (con : Bool) (t : TypeId) (b : Bool) : Option Value :=
  oget (tInfo E t) fun i => match i.und, con with
  | .interface _, true => some (.bool b)
  | _, _ => none

def aBin (E : Env) (op : BinOp) (t : TypeId) (con : Bool) (x y : Value) (h : AH) : Option Value :=
  match x, y with
  | .int k a, .int k' b => binInt op k k' a b
  | .string a, .string b => binStr op a b
  | .nilIface, .nilIface => match op with
    | .eql => nilTwo E con t true
    | .neq => nilTwo E con t false
    | _ => none
  | .agg ⟨l⟩, .agg ⟨l'⟩ => oget (tInfo E t) fun i => oget i.skey fun us =>
    match op with
    | .eql => oget (eqScals us l l') fun b => some (.bool b)
    | .neq => oget (eqScals us l l') fun b => some (.bool (!b))
    | _ => none
  | x, y => match op with
    | .eql => oget (tInfo E t) fun i => bif ptrOk E i.und x y then oget (eqV h i.und x y) fun b => some (.bool b) else none
    | .neq => oget (tInfo E t) fun i => bif ptrOk E i.und x y then oget (eqV h i.und x y) fun b => some (.bool (!b)) else none
    | _ => none

def aUn (op : UnOp) (x : Value) : Option Value :=
  match op, x with
  | .not, .bool b => some (.bool (!b))
  | .neg, .int k n => some (.int k (k.wrap (0 - n)))
  | .xor, .int k n => binInt .xor k k (if k.signed then -1 else k.max) n
  | _, _ => none

def keyOk : TypeDesc → Bool
  | .int _ | .string | .bool => true
  | _ => false

def plainKey : Value → Bool
  | .int _ _ | .string _ | .bool _ => true
  | _ => false

def findN (kind : TypeDesc) (k : Value) : List MapEntry → Nat → Option (Option (Nat × Value))
  | [], _ => some none
  | e :: es, i => match sameN kind k e.key with
    | some true => some (some (i, e.val))
    | some false => findN kind k es (i + 1)
    | none => none

def findS (us : List TypeDesc) (k : List Value) : List MapEntry → Nat → Option (Option (Nat × Value))
  | [], _ => some none
  | e :: es, i => match e.key with
    | .agg ⟨l⟩ => match eqScals us k l with
      | some true => some (some (i, e.val))
      | some false => findS us k es (i + 1)
      | none => none
    | _ => none

/-- Where a key stands. -/
def findK (ki : TInfo) (k : Value) (es : List MapEntry) : Option (Option (Nat × Value)) :=
  match k with
  | .agg ⟨l⟩ => match ki.skey with
    | some us => bif l.length.beq us.length && l.all plainKey then findS us l es 0 else none
    | none => none
  | k => bif keyOk ki.und && plainKey k then findN ki.und k es 0 else none

def aLookup (E : Env) (t : TypeId) (m k : Value) (ok : Bool) (h : AH) : Option Value :=
  oget (tInfo E t) fun i => match i.und with
  | .map kt et => oget (tInfo E kt) fun ki => oget (tInfo E et) fun ei => oget ei.zero fun z =>
    oget (match m with
      | .map none => findK ki k []
      | .map (some r) => match h.b.get r with
        | some (.map es _) => findK ki k es
        | _ => none
      | _ => none) fun r => match r with
      | some (_, v) => some (bif ok then .tuple ⟨[v, .bool true]⟩ else v)
      | none => some (bif ok then .tuple ⟨[z, .bool false]⟩ else z)
  | _ => none

def aMapUpdate (E : Env) (t : TypeId) (m k x : Value) (h : AH) : Option AH :=
  oget (tInfo E t) fun i => match i.und, m with
  | .map kt _, .map (some r) => oget (tInfo E kt) fun ki => match h.b.get r with
    | some (.map es clock) => oget (findK ki k es) fun f => match f with
        | some (j, _) => some (h.upd r (.map (es.modify j fun e => { e with key := k, val := x }) clock))
        | none => some (h.upd r (.map (es ++ [{ key := k, val := x, born := clock }]) (clock + 1)))
    | _ => none
  | _, _ => none

def aLen (E : Env) (t : Option TypeId) (x : Value) (h : AH) : Option Value :=
  oget t fun t => oget (tInfo E t) fun i => match i.und, x with
  | .slice _, .slice _ n _ => some (.int .i64 n)
  | .string, .string s => some (.int .i64 s.data.toList.length)
  | .array n _, _ => some (.int .i64 n)
  | .map _ _, .map none => some (.int .i64 0)
  | .map _ _, .map (some r) => match h.b.get r with
    | some (.map es _) => some (.int .i64 es.length)
    | _ => none
  | _, _ => none

def minV : Value → Value → Option Value
  | .int k x, .int _ y => some (.int k (bif decide (y < x) then y else x))
  | _, _ => none
def maxV : Value → Value → Option Value
  | .int k x, .int _ y => some (.int k (bif decide (y > x) then y else x))
  | _, _ => none
def foldV (f : Value → Value → Option Value) (x : Value) : List Value → Option Value
  | [] => some x
  | y :: l => oget (f x y) fun z => foldV f z l

/-- A builtin that answers a value. -/
def aBuiltin (E : Env) (b : Builtin) (ats : List TypeId) (vs : List Value) (h : AH) : Option (Value × AH) :=
  match b, vs with
  | .len, [x] => oget (aLen E ats[0]? x h) fun v => some (v, h)
  | .cap, [.slice none _ c] => oget ats[0]? fun t => oget (tInfo E t) fun i => match i.und with
    | .slice _ => some (.int .i64 c, h)
    | _ => none
  | .cap, [.slice (some ⟨b, _, none⟩) _ c] => oget ats[0]? fun t => oget (tInfo E t) fun i => match i.und, h.b.get b with
    | .slice _, some (.cells _ _ _ opn _) => bif opn.beq 0 then some (.int .i64 c, h) else none
    | .slice _, some (.ro _ _) => some (.int .i64 c, h)
    | _, _ => none
  | .min, x :: l => oget (foldV minV x l) fun v => some (v, h)
  | .max, x :: l => oget (foldV maxV x l) fun v => some (v, h)
  | .append, [s, x] => oget ats[0]? fun t => aAppend E t ats[1]? s x h
  | .copy, [d, s] => oget ats[0]? fun t => aCopy E t d s h
  | .clear, [.slice base n _] => oget ats[0]? fun t => oget (tInfo E t) fun i => match i.und with
    | .slice e => oget (tInfo E e) fun ei => oget ei.zero fun z =>
      bif z.cells.toList.length.beq ei.size then
        bif n.beq 0 then some (.tuple #[], h) else
        match base with
        | some ⟨b, off, none⟩ => oget (aWrite h b off (repl z.cells.toList n)) fun h => some (.tuple #[], h)
        | _ => none
      else none
    | _ => none
  | .unsafeSliceData, [.slice none _ _] => some (.pointer none, h)
  | .unsafeSliceData, [.slice (some a) _ c] => bif c.beq 0 then none else some (.pointer (some a), h)
  | .unsafeString, [.pointer none, .int _ n] => oget ats[0]? fun _ => bif decide (n = 0) then some (.string ⟨⟨[]⟩⟩, h) else none
  | .unsafeString, [.pointer (some ⟨b, off, none⟩), .int _ n] => oget ats[0]? fun t => oget (tInfo E t) fun i => match i.und, h.b.get b with
    | .pointer e, some (.cells m c be opn w) => oget (tInfo E e) fun ei => match ei.und with
      | .int .u8 => bif decide (0 < n) && decide (n < 4294967296) && be.beq e && ei.size.beq 1 then
          oget (getCells (Blk.cells m c be opn w).cell off n.toNat) fun vs => oget (bytesV vs) fun bs => some (.string ⟨⟨bs⟩⟩, h.upd b .dead) else none
      | _ => none
    | _, _ => none
  | _, _ => none

def aTypeAssert (E : Env) (x : Value) (t : TypeId) (ok : Bool) : Option Value :=
  oget (tInfo E t) fun i => match i.und, x with
  | .interface _, _ => none
  | _, .iface d v => bif d.beq t then some (bif ok then .tuple ⟨[v, .bool true]⟩ else v) else
      bif ok then oget i.zero fun z => some (.tuple ⟨[z, .bool false]⟩) else none
  | _, .nilIface => bif ok then oget i.zero fun z => some (.tuple ⟨[z, .bool false]⟩) else none
  | _, _ => none

/-- What an operation answers that calls no function and ends nothing. -/
def aval (E : Env) (o : Oper) (ρ : Operand → Option Value) (h : AH) : Option (Value × AH) :=
  match o.op with
  | .move x | .assign x => oget (ρ x) fun v => some (v, h)
  | .pick c a b => oget (ρ c) fun c => oget (ρ a) fun a => oget (ρ b) fun b => match c with
    | .bool t => some (bif t then a else b, h)
    | _ => none
  | .alloc t => aAlloc E t h
  | .box t x => oget (ρ x) fun x => aNewCells h x.cells.toList t
  | .build t parts => oget (partsV ρ parts.toList) fun ps => oget (aBuild E t ps) fun v => some (v, h)
  | .buildSlice t len parts => oget (partsV ρ parts.toList) fun ps => aBuildSlice E t len ps h
  | .load t a => oget (ρ a) fun a => oget (aLoad E t a h) fun v => some (v, h)
  | .store t a x => oget (ρ a) fun a => oget (ρ x) fun x => oget (aStore E t a x h) fun h => some (undef', h)
  | .nilCheck x => oget (ρ x) fun x => match x with
    | .pointer (some a) => some (.pointer (some a), h)
    | _ => none
  | .binOp op t x y _ => let con := isCon x || isCon y; oget (ρ x) fun x => oget (ρ y) fun y => oget (aBin E op t con x y h) fun v => some (v, h)
  | .unOp op _ x => oget (ρ x) fun x => oget (aUn op x) fun v => some (v, h)
  | .convert s d x => oget (ρ x) fun x => aConvert E s d x h
  | .makeInterface t x => oget (ρ x) fun x => oget (tInfo E t) fun i => match i.und with
    | .interface _ => none
    | _ => some (.iface t x, h)
  | .makeFunc fn first cap => oget (valsV ρ first.toList) fun a => oget (valsV ρ cap.toList) fun b => match fn with
    | .func f => some (.func (.func f) ⟨a⟩ ⟨b⟩, h)
    | _ => none
  | .makeMap t none => oget (tInfo E t) fun _ => bif Nat.blt h.next cap then some (.map (some h.next), h.new (.map [] 0)) else none
  | .makeSlice t l c => oget (ρ l) fun l => oget (ρ c) fun c => aMakeSlice E t l c h
  | .slice t x lo hi none => oget (ρ x) fun x => oget (match lo with | none => some none | some v => oget (ρ v) fun v => some (some v)) fun lo =>
      oget (match hi with | none => some none | some v => oget (ρ v) fun v => some (some v)) fun hi => aSlice E t x lo hi h
  | .fieldAddr t x f => oget (ρ x) fun x => oget (aFieldAddr E t x f) fun v => some (v, h)
  | .field t x f => oget (ρ x) fun x => oget (aField E t x f) fun v => some (v, h)
  | .indexAddr t x ix => oget (ρ x) fun x => oget (ρ ix) fun ix => oget (aIndexAddr E t x ix) fun v => some (v, h)
  | .index t x ix => oget (ρ x) fun x => oget (ρ ix) fun ix => oget (aIndex E t x ix) fun v => some (v, h)
  | .lookup t m k ok => oget (ρ m) fun m => oget (ρ k) fun k => oget (aLookup E t m k ok h) fun v => some (v, h)
  | .mapUpdate t m k x => oget (ρ m) fun m => oget (ρ k) fun k => oget (ρ x) fun x => oget (aMapUpdate E t m k x h) fun h => some (undef', h)
  | .typeAssert x _ t ok => oget (ρ x) fun x => oget (aTypeAssert E x t ok) fun v => some (v, h)
  | .extract t ix => oget (ρ t) fun t => match t with
    | .tuple ⟨vs⟩ => oget vs[ix]? fun v => some (v, h)
    | _ => none
  | .call { callee := .builtin b, args := args, argTypes := ats } => oget (valsV ρ args.toList) fun vs => aBuiltin E b ats.toList vs h
  | _ => none

end Go.Ev
