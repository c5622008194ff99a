/- Part 0 of the proof: WHATEVER THE INPUT: true; the input reads as it did. -/
import Derived.Orders
import Derived.Calls
import Derived.Laws.Cells
import Derived.Laws.Entries
import Derived.Great.FillDense
import Derived.Laws.Append
import Derived.Laws.BytesString
import Derived.Laws.StructEq
import Derived.Laws.Strings
import Derived.Lib.UnsafeStr
set_option linter.unusedSimpArgs false
set_option linter.unusedVariables false
set_option linter.unusedSectionVars false
section
/- A deterministic evaluator of the model's code over a memory of its own: definitions. -/
namespace Go.Ev

/-! ### A persistent store keyed by numbers -/
inductive Tr (α : Type) where
  | nil
  | node (v : Option α) (l r : Tr α)

def Tr.get {α : Type} : Tr α → Nat → Option α
  | .nil, _ => none
  | .node v l r, n => bif n.beq 0 then v else bif (Nat.mod n 2).beq 1 then l.get (Nat.div n 2) else r.get (Nat.sub (Nat.div n 2) 1)

def Tr.set {α : Type} : Nat → Tr α → Nat → α → Tr α
  | 0, t, _, _ => t
  | f + 1, .nil, n, x => bif n.beq 0 then .node (some x) .nil .nil else bif (Nat.mod n 2).beq 1 then .node none (Tr.set f .nil (Nat.div n 2) x) .nil else .node none .nil (Tr.set f .nil (Nat.sub (Nat.div n 2) 1) x)
  | f + 1, .node v l r, n, x => bif n.beq 0 then .node (some x) l r else bif (Nat.mod n 2).beq 1 then .node v (Tr.set f l (Nat.div n 2) x) r else .node v l (Tr.set f r (Nat.sub (Nat.div n 2) 1) x)

/-- How many keys there may be. -/
def cap : Nat := 1099511627776

def Tr.put {α : Type} (t : Tr α) (n : Nat) (x : α) : Tr α := Tr.set 41 t n x

/-! ### The tables of types and functions -/
structure TInfo where
  und : TypeDesc
  size : Nat
  bytes : Nat
  zero : Option Value
  /-- a struct of numbers, texts and bools: what each field is -/
  skey : Option (List TypeDesc)

structure Env where
  tt : Tr TInfo
  /-- how many package-level variables there are: they are the first blocks -/
  ng : Nat
  /-- functions without a body that hand back their one argument -/
  same : FuncId → Bool
  /-- functions without arguments of which it is known what they answer; they leave no trace -/
  known : FuncId → Option Value

/-! ### Memory -/
inductive Blk where
  /-- n known cells; opn = 0: there are no more; else there may be more elements of opn cells each behind them; kept: it may be compared -/
  | cells (n : Nat) (c : Tr Value) (elem : TypeId) (opn : Nat) (whole : Bool)
  /-- what came in: read alone -/
  | ro (n : Nat) (c : Nat → Value)
  | map (es : List MapEntry) (clock : Nat)
  | loop (state : LoopState) (pending : Option Code) (fn : FuncId) (n : Nat) (r : Tr Value) (params : List Tmp) (assign body : Code) (defers : Nat)
  | deferred (ds : Option (List Deferred))
  | dead

def Blk.own : Blk → Bool
  | .ro .. => false
  | .dead => false
  | _ => true

structure AH where
  next : Nat
  b : Tr Blk

def AH.new (h : AH) (b : Blk) : AH := ⟨h.next + 1, h.b.put h.next b⟩
def AH.upd (h : AH) (i : Nat) (b : Blk) : AH := ⟨h.next, h.b.put i b⟩

def undef' : Value := .tuple ⟨[]⟩

mutual
/-- A value without an address in it. -/
def plainZ : Value → Bool
  | .bool _ => true
  | .int _ _ => true
  | .string _ => true
  | .pointer none => true
  | .slice none _ _ => true
  | .map none => true
  | .nilFunc => true
  | .nilIface => true
  | .iface _ v => plainZ v
  | .agg a => plainA a
  | _ => false
def plainA : Array Value → Bool
  | ⟨l⟩ => plainL l
def plainL : List Value → Bool
  | [] => true
  | v :: l => plainZ v && plainL l
end

def evalO (ng : Nat) (r : Tr Value) : Operand → Option Value
  | .tmp t => r.get t
  | .const v => bif plainZ v then some v else none
  | .global g => bif Nat.blt g ng then some (.pointer (some ⟨g, 0, none⟩)) else none
  | .func f => some (.func (.func f) ⟨[]⟩ ⟨[]⟩)

def putCells (c : Tr Value) (off : Nat) : List Value → Tr Value
  | [] => c
  | v :: vs => putCells (c.put off v) (off + 1) vs

/-- n cells from off on, all of them below m. -/
def getCells (c : Nat → Option Value) (off : Nat) : Nat → Option (List Value)
  | 0 => some []
  | n + 1 => match c off with
    | none => none
    | some v => match getCells c (off + 1) n with
      | none => none
      | some vs => some (v :: vs)

/-- A block's cell. -/
def Blk.cell : Blk → Nat → Option Value
  | .cells n c _ _ _, i => bif Nat.blt i n then c.get i else none
  | .ro n c, i => bif Nat.blt i n then some (c i) else none
  | _, _ => none

def isAggD : TypeDesc → Bool
  | .struct _ | .array _ _ => true
  | _ => false

def plainCell : Value → Bool
  | .agg _ | .tuple _ => false
  | _ => true

def repl (z : List Value) : Nat → List Value
  | 0 => []
  | n + 1 => z ++ repl z n

def binInt (op : BinOp) (k k' : IntKind) (a b : Int) : Option Value :=
  match op with
  | .shl => bif decide (b < 0) then none else some (.int k (k.wrap (a * 2 ^ (min b.toNat k.bits))))
  | .shr => bif decide (b < 0) then none else some (.int k (a.fdiv (2 ^ (min b.toNat k.bits))))
  | _ => match decide (k = k') with
    | false => none
    | true => match op with
      | .add => some (.int k (k.wrap (a + b)))
      | .sub => some (.int k (k.wrap (a - b)))
      | .mul => some (.int k (k.wrap (a * b)))
      | .quo => bif decide (b = 0) then none else some (.int k (k.wrap (a.tdiv b)))
      | .rem => bif decide (b = 0) then none else some (.int k (a.tmod b))
      | .and => some (.int k (k.wrap (BitVec.ofInt k.bits a &&& BitVec.ofInt k.bits b).toNat))
      | .or => some (.int k (k.wrap (BitVec.ofInt k.bits a ||| BitVec.ofInt k.bits b).toNat))
      | .xor => some (.int k (k.wrap (BitVec.ofInt k.bits a ^^^ BitVec.ofInt k.bits b).toNat))
      | .andNot => some (.int k (k.wrap (BitVec.ofInt k.bits a &&& ~~~ BitVec.ofInt k.bits b).toNat))
      | .eql => some (.bool (a == b))
      | .neq => some (.bool (a != b))
      | .lss => some (.bool (decide (a < b)))
      | .leq => some (.bool (decide (a ≤ b)))
      | .gtr => some (.bool (decide (a > b)))
      | .geq => some (.bool (decide (a ≥ b)))
      | _ => none

def oget {α β : Type} (x : Option α) (f : α → Option β) : Option β :=
  match x with
  | none => none
  | some a => f a

def tInfo (E : Env) (t : TypeId) : Option TInfo := E.tt.get t

def aNewCells (h : AH) (cs : List Value) (t : TypeId) : Option (Value × AH) :=
  bif cs.all plainCell && Nat.blt h.next cap && Nat.blt cs.length cap then
    some (.pointer (some ⟨h.next, 0, none⟩), h.new (.cells cs.length (putCells .nil 0 cs) t 0 true))
  else none

def aAlloc (E : Env) (t : TypeId) (h : AH) : Option (Value × AH) :=
  oget (tInfo E t) fun i => oget i.zero fun z => aNewCells h z.cells.toList t

def aLoad (E : Env) (t : TypeId) (a : Value) (h : AH) : Option Value :=
  match a with
  | .pointer (some ⟨b, off, none⟩) => oget (tInfo E t) fun i => oget (h.b.get b) fun blk =>
    bif isAggD i.und then oget (getCells blk.cell off i.size) fun vs => some (.agg ⟨vs⟩) else blk.cell off
  | _ => none

/-- A block with some cells overwritten: they were there. -/
def aWrite (h : AH) (b off : Nat) (vs : List Value) : Option AH :=
  match h.b.get b with
  | some (.cells n c e o w) =>
    bif Nat.ble (off + vs.length) n && vs.all plainCell && Nat.blt n cap then some (h.upd b (.cells n (putCells c off vs) e o w)) else none
  | _ => none

def aStore (E : Env) (t : TypeId) (a v : Value) (h : AH) : Option AH :=
  match a with
  | .pointer (some ⟨b, off, none⟩) => oget (tInfo E t) fun i =>
    bif v.cells.toList.length.beq i.size then aWrite h b off v.cells.toList else none
  | _ => none

def partV (E : Env) (t : TypeId) (cs : List Value) (off : Nat) : Option Value :=
  oget (tInfo E t) fun i => bif isAggD i.und then
    bif Nat.ble (off + i.size) cs.length then some (.agg ⟨(cs.drop off).take i.size⟩) else none
  else cs[off]?

def aField (E : Env) (t : TypeId) (x : Value) (f : Nat) : Option Value :=
  oget (tInfo E t) fun i => match i.und, x with
  | .struct fs, .agg ⟨cs⟩ => oget fs.toList[f]? fun fd => partV E fd.type cs fd.offset
  | _, _ => none

def aFieldAddr (E : Env) (t : TypeId) (x : Value) (f : Nat) : Option Value :=
  oget (tInfo E t) fun i => match i.und, x with
  | .struct fs, .pointer (some ⟨b, off, none⟩) => oget fs.toList[f]? fun fd => oget (tInfo E fd.type) fun fi =>
    bif fi.size.beq 0 then none else some (.pointer (some ⟨b, off + fd.offset, none⟩))
  | _, _ => none

def aIndexAddr (E : Env) (t : TypeId) (x ix : Value) : Option Value :=
  oget (tInfo E t) fun i => match i.und, x, ix with
  | .slice e, .slice (some ⟨b, off, none⟩) len _, .int _ j => oget (tInfo E e) fun ei =>
    bif decide (0 ≤ j) && decide (j < len) then some (.pointer (some ⟨b, off + j.toNat * ei.size, none⟩)) else none
  | .array len e, .pointer (some ⟨b, off, none⟩), .int _ j => oget (tInfo E e) fun ei =>
    bif decide (0 ≤ j) && decide (j < len) then some (.pointer (some ⟨b, off + j.toNat * ei.size, none⟩)) else none
  | _, _, _ => none

def aIndex (E : Env) (t : TypeId) (x ix : Value) : Option Value :=
  oget (tInfo E t) fun i => match i.und, x, ix with
  | .array len e, .agg ⟨cs⟩, .int _ j => oget (tInfo E e) fun ei =>
    bif decide (0 ≤ j) && decide (j < len) then partV E e cs (j.toNat * ei.size) else none
  | .string, .string s, .int _ j => bif decide (0 ≤ j) then
      match s.data.toList[j.toNat]? with
      | some b => some (.int .u8 b.toNat)
      | none => none
    else none
  | _, _, _ => none

def bound? : Option Value → Nat → Option Nat
  | none, d => some d
  | some (.int _ i), _ => bif decide (0 ≤ i) then some i.toNat else none
  | some _, _ => none

/-- 'x[lo:hi]'. -/
def aSlice (E : Env) (t : TypeId) (x : Value) (lo hi : Option Value) (h : AH) : Option (Value × AH) :=
  oget (tInfo E t) fun i => match i.und, x with
  | .string, .string s => oget (bound? lo 0) fun l => oget (bound? hi s.data.toList.length) fun u =>
    bif Nat.ble l u && Nat.ble u s.data.toList.length then some (.string ⟨⟨(s.data.toList.drop l).take (u - l)⟩⟩, h) else none
  | .slice e, .slice a len cp => oget (tInfo E e) fun ei => oget (bound? lo 0) fun l => oget (bound? hi len) fun u =>
    bif Nat.ble l u && Nat.ble u cp then
      match a with
      | none => some (.slice none (u - l) (cp - l), h)
      | some ⟨b, off, none⟩ => bif l.beq 0 then some (.slice (some ⟨b, off, none⟩) u cp, h) else match h.b.get b with
        | some (.cells _ _ _ opn _) =>
          bif opn.beq 0 then some (.slice (some ⟨b, bif cp.beq l then off else off + l * ei.size, none⟩) (u - l) (cp - l), h)
          else bif cp.beq l then (bif Nat.blt h.next cap then some (.slice (some ⟨h.next, 0, none⟩) 0 0, h.new .dead) else none)
          else some (.slice (some ⟨b, off + l * ei.size, none⟩) (u - l) (cp - l), h)
        | some (.ro _ _) => some (.slice (some ⟨b, bif cp.beq l then off else off + l * ei.size, none⟩) (u - l) (cp - l), h)
        | _ => none
      | _ => none
    else none
  | .pointer arr, .pointer (some ⟨b, off, none⟩) => oget (tInfo E arr) fun ai => match ai.und, h.b.get b with
    | .array n e, some (.cells _ _ _ opn _) => oget (tInfo E e) fun ei => oget (bound? lo 0) fun l => oget (bound? hi n) fun u =>
      bif Nat.ble l u && Nat.ble u n && opn.beq 0 then some (.slice (some ⟨b, bif n.beq l then off else off + l * ei.size, none⟩) (u - l) (n - l), h) else none
    | _, _ => none
  | .array n e, .pointer (some ⟨b, off, none⟩) => match h.b.get b with
    | some (.cells _ _ _ opn _) => oget (tInfo E e) fun ei => oget (bound? lo 0) fun l => oget (bound? hi n) fun u =>
      bif Nat.ble l u && Nat.ble u n && opn.beq 0 then some (.slice (some ⟨b, bif n.beq l then off else off + l * ei.size, none⟩) (u - l) (n - l), h) else none
    | _ => none
  | _, _ => none

/-- The cells of a slice's (a string's) first n elements. -/
def aFirst (size n : Nat) (x : Value) (h : AH) : Option (List Value) :=
  match x with
  | .slice none _ _ => some []
  | .slice (some ⟨b, off, none⟩) _ _ => bif (n * size).beq 0 then some [] else oget (h.b.get b) fun blk => getCells blk.cell off (n * size)
  | .string s => some (((s.data.toList).take n).map fun (b : UInt8) => .int .u8 b.toNat)
  | _ => none

def lenV : Value → Option Nat
  | .slice _ n _ => some n
  | .string s => some s.data.toList.length
  | _ => none

/-- What is appended, and how many elements. -/
def aNew (E : Env) (ei : TInfo) (xt : Option TypeId) (x : Value) (h : AH) : Option (Nat × List Value) :=
  match x with
  | .int _ m => match (xt.bind (tInfo E)), ei.zero with
    | some ⟨.int _, _, _, _, _⟩, some z => bif decide (0 ≤ m) && decide (m < 4294967296) && (z.cells.toList.length.beq ei.size) && Nat.blt (m.toNat * ei.bytes) 4294967296 then some (m.toNat, repl z.cells.toList m.toNat) else none
    | _, _ => none
  | x => match (xt.bind (tInfo E)) with
    | some ⟨.int _, _, _, _, _⟩ => none
    | none => none
    | _ => oget (lenV x) fun n => oget (aFirst ei.size n x h) fun vs => some (n, vs)

def aAppend (E : Env) (st : TypeId) (xt : Option TypeId) (s x : Value) (h : AH) : Option (Value × AH) :=
  oget (tInfo E st) fun i => match i.und, s with
  | .slice e, .slice base sl cp => oget (tInfo E e) fun ei => oget (aNew E ei xt x h) fun nv =>
    bif Nat.ble (sl + nv.1) cp then
      match base with
      | none => bif nv.2.length.beq 0 then some (.slice none (sl + nv.1) cp, h) else none
      | some ⟨b, off, none⟩ => bif nv.2.length.beq 0 then some (.slice base (sl + nv.1) cp, h) else
          oget (aWrite h b (off + sl * ei.size) nv.2) fun h => some (.slice base (sl + nv.1) cp, h)
      | _ => none
    else match ei.zero with
      | none => none
      | some z =>
        bif Nat.blt 0 ei.size && Nat.blt ((sl + nv.1) * ei.size) 4294967296 && Nat.blt ((sl + nv.1) * ei.bytes) 4294967296 && nv.2.length.beq (nv.1 * ei.size) && nv.2.all plainCell && Nat.blt h.next cap && z.cells.toList.length.beq ei.size && z.cells.toList.all plainCell then
          match base with
          | none => bif sl.beq 0 && cp.beq 0 then some (.slice (some ⟨h.next, 0, none⟩) nv.1 nv.1, h.new (.cells (nv.1 * ei.size) (putCells .nil 0 nv.2) e ei.size true)) else none
          | some ⟨b, off, none⟩ => match h.b.get b with
            | some (.cells m c be o w) =>
              bif Nat.ble (off + sl * ei.size) m then
                let c0 := bif off.beq 0 then some c else oget (getCells c.get off (sl * ei.size)) fun old => some (putCells .nil 0 old)
                oget c0 fun c0 =>
                let nb := Blk.cells ((sl + nv.1) * ei.size) (putCells c0 (sl * ei.size) nv.2) e ei.size w
                bif o.beq 0 then some (.slice (some ⟨h.next, 0, none⟩) (sl + nv.1) (sl + nv.1), h.new nb)
                else bif o.beq ei.size && (off + cp * ei.size).beq m && be.beq e then some (.slice (some ⟨h.next, 0, none⟩) (sl + nv.1) (sl + nv.1), (h.upd b .dead).new nb)
                else none
              else none
            | some (.ro _ _) => oget (aFirst ei.size sl s h) fun old => some (.slice (some ⟨h.next, 0, none⟩) (sl + nv.1) (sl + nv.1), h.new (.cells ((sl + nv.1) * ei.size) (putCells .nil 0 (old ++ nv.2)) e ei.size true))
            | _ => none
          | _ => none
        else none
  | _, _ => none

def aCopy (E : Env) (dt : TypeId) (d s : Value) (h : AH) : Option (Value × AH) :=
  oget (tInfo E dt) fun i => match i.und, d with
  | .slice e, .slice base dl _ => oget (tInfo E e) fun ei => oget (lenV s) fun sl =>
    let n := bif Nat.ble sl dl then sl else dl
    oget (aFirst ei.size n s h) fun vs =>
      bif vs.length.beq 0 then some (.int .i64 n, h) else
      match base with
      | some ⟨b, off, none⟩ => oget (aWrite h b off vs) fun h => some (.int .i64 n, h)
      | _ => none
  | _, _ => none

def aMakeSlice (E : Env) (t : TypeId) (l c : Value) (h : AH) : Option (Value × AH) :=
  oget (tInfo E t) fun i => match i.und, l, c with
  | .slice e, .int _ l, .int _ c => oget (tInfo E e) fun ei => oget ei.zero fun z =>
    bif decide (0 ≤ l) && decide (l ≤ c) && decide (c < 4294967296) && Nat.blt (c.toNat * ei.bytes) 4294967296 && z.cells.toList.length.beq ei.size && z.cells.toList.all plainCell && Nat.blt h.next cap && Nat.blt (c.toNat * ei.size) cap then
      some (.slice (some ⟨h.next, 0, none⟩) l.toNat c.toNat, h.new (.cells (c.toNat * ei.size) (putCells .nil 0 (repl z.cells.toList c.toNat)) e 0 true))
    else none
  | _, _, _ => none

/-- Parts laid into cells. -/
def fillV (place : Nat → Option (Nat × Nat)) (cells : List Value) : List (Nat × Value) → Option (List Value)
  | [] => some cells
  | (i, v) :: rest => match place i with
    | none => none
    | some (off, size) => bif v.cells.toList.length.beq size && Nat.ble (off + size) cells.length then
        fillV place (cells.take off ++ v.cells.toList ++ cells.drop (off + size)) rest else none

/-- Parts that follow one another without a gap, all of one size: their cells. -/
def packed (size : Nat) : Nat → List (Nat × Value) → Option (List Value)
  | _, [] => some []
  | k, (i, v) :: rest => bif i.beq k && v.cells.toList.length.beq size then oget (packed size (k + 1) rest) fun l => some (v.cells.toList ++ l) else none

def partsV (ρ : Operand → Option Value) : List (Nat × Operand) → Option (List (Nat × Value))
  | [] => some []
  | (i, x) :: rest => oget (ρ x) fun v => oget (partsV ρ rest) fun l => some ((i, v) :: l)

def valsV (ρ : Operand → Option Value) : List Operand → Option (List Value)
  | [] => some []
  | x :: rest => oget (ρ x) fun v => oget (valsV ρ rest) fun l => some (v :: l)

def placesL (E : Env) : List Field → Option (List (Nat × Nat))
  | [] => some []
  | f :: fs => oget (tInfo E f.type) fun fi => oget (placesL E fs) fun l => some ((f.offset, fi.size) :: l)

def aBuild (E : Env) (t : TypeId) (parts : List (Nat × Value)) : Option Value :=
  oget (tInfo E t) fun i => oget i.zero fun z => match i.und with
  | .struct fs => oget (placesL E fs.toList) fun pl => oget (fillV (fun i => pl[i]?) z.cells.toList parts) fun cs => some (.agg ⟨cs⟩)
  | .array n e => oget (tInfo E e) fun ei =>
    bif parts.length.beq n && z.cells.toList.length.beq (n * ei.size) then
      match packed ei.size 0 parts with
      | some cs => some (.agg ⟨cs⟩)
      | none => oget (fillV (fun i => some (i * ei.size, ei.size)) z.cells.toList parts) fun cs => some (.agg ⟨cs⟩)
    else oget (fillV (fun i => some (i * ei.size, ei.size)) z.cells.toList parts) fun cs => some (.agg ⟨cs⟩)
  | _ => none

def aBuildSlice (E : Env) (t : TypeId) (len : Nat) (parts : List (Nat × Value)) (h : AH) : Option (Value × AH) :=
  oget (tInfo E t) fun i => match i.und with
  | .slice e => oget (tInfo E e) fun ei => oget ei.zero fun z =>
    bif z.cells.toList.length.beq ei.size && Nat.blt (len * ei.size) 16777216 then
      oget (match bif parts.length.beq len then packed ei.size 0 parts else none with
        | some cs => some cs
        | none => fillV (fun i => some (i * ei.size, ei.size)) (repl z.cells.toList len) parts) fun cs =>
      bif cs.all plainCell && Nat.blt h.next cap && Nat.blt cs.length cap then
        some (.slice (some ⟨h.next, 0, none⟩) len len, h.new (.cells cs.length (putCells .nil 0 cs) e 0 true))
      else none
    else none
  | _ => none

def bytesV : List Value → Option (List UInt8)
  | [] => some []
  | .int .u8 n :: l => oget (bytesV l) fun bs => some (UInt8.ofNat n.toNat :: bs)
  | _ => none

def aConvert (E : Env) (src dst : TypeId) (x : Value) (h : AH) : Option (Value × AH) :=
  oget (tInfo E src) fun si => oget (tInfo E dst) fun di => match si.und, di.und, x with
  | .int _, .int k, .int _ n => some (.int k (k.wrap n), h)
  | .string, .string, .string s => some (.string s, h)
  | .slice e, .string, .slice none _ _ => oget (tInfo E e) fun ei => match ei.und with
    | .int .u8 => some (.string ⟨⟨[]⟩⟩, h)
    | _ => none
  | .slice e, .string, .slice (some ⟨b, off, none⟩) len _ => oget (tInfo E e) fun ei => match ei.und with
    | .int .u8 => oget (h.b.get b) fun blk => oget (getCells blk.cell off len) fun vs => oget (bytesV vs) fun bs => some (.string ⟨⟨bs⟩⟩, h)
    | _ => none
  | .string, .slice e, .string s => oget (tInfo E e) fun ei => match ei.und with
    | .int .u8 => bif Nat.blt h.next cap && Nat.blt s.data.toList.length 4294967296 then
        some (.slice (some ⟨h.next, 0, none⟩) s.data.toList.length s.data.toList.length, h.new (.cells s.data.toList.length (putCells .nil 0 (s.data.toList.map fun (b : UInt8) => .int .u8 b.toNat)) e 1 false)) else none
    | _ => none
  | .pointer t, .unsafePointer, .pointer (some ⟨b, off, none⟩) => oget (tInfo E t) fun ti => match h.b.get b with
    | some (.cells n _ _ _ _) => bif Nat.blt off n && Nat.blt 0 ti.size then some (.pointer (some ⟨b, off, none⟩), h) else none
    | _ => none
  | .unsafePointer, .pointer u, .pointer (some ⟨b, off, none⟩) => oget (tInfo E u) fun ui => match h.b.get b with
    | some (.cells n _ e opn _) => bif e.beq u && off.beq 0 && n.beq ui.size && opn.beq 0 && Nat.blt 0 ui.size then some (.pointer (some ⟨b, off, none⟩), h) else none
    | _ => none
  | _, _, _ => none

/-- Equality of values that are no integers and no strings. -/
def eqV (h : AH) : TypeDesc → Value → Value → Option Bool
  | .bool, .bool a, .bool b => some (a == b)
  | .pointer _, .pointer none, .pointer b => some b.isNone
  | .pointer _, .pointer (some _), .pointer none => some false
  | .interface _, .nilIface, .iface _ _ => some false
  | .interface _, .iface _ _, .nilIface => some false
  | .slice _, .slice none _ _, .slice b _ _ => some b.isNone
  | .slice _, .slice (some _) _ _, .slice none _ _ => some false
  | .map _ _, .map none, .map b => some b.isNone
  | .map _ _, .map (some _), .map none => some false
  | .func _ _ _, .nilFunc, .nilFunc => some true
  | .func _ _ _, .nilFunc, .func _ _ _ => some false
  | .func _ _ _, .func _ _ _, .nilFunc => some false
  | .pointer _, .pointer (some ⟨b, off, none⟩), .pointer (some ⟨b', off', none⟩) =>
    match h.b.get b, h.b.get b' with
    | some (.cells n _ _ _ true), some (.cells n' _ _ _ true) => bif Nat.blt off n && Nat.blt off' n' then some (b.beq b' && off.beq off') else none
    | _, _ => none
  | _, _, _ => none

def bytesLt : List UInt8 → List UInt8 → Bool
  | _, [] => false
  | [], _ :: _ => true
  | a :: x, b :: y => a < b || (a == b && bytesLt x y)

def binStr (op : BinOp) (a b : ByteArray) : Option Value :=
  match op with
  | .add => bif Nat.blt (a.data.toList.length + b.data.toList.length) 4294967296 then some (.string ⟨⟨a.data.toList ++ b.data.toList⟩⟩) else none
  | .eql => some (.bool (a.data.toList == b.data.toList))
  | .neq => some (.bool (!(a.data.toList == b.data.toList)))
  | .lss => some (.bool (bytesLt a.data.toList b.data.toList))
  | _ => none

def sameN : TypeDesc → Value → Value → Option Bool
  | .int _, .int k a, .int k' b => bif decide (k = k') then some (a == b) else none
  | .string, .string a, .string b => some (a.data.toList == b.data.toList)
  | .bool, .bool a, .bool b => some (a == b)
  | _, _, _ => none

def eqScals : List TypeDesc → List Value → List Value → Option Bool
  | [], [], [] => some true
  | u :: us, x :: l, y :: l' => match sameN u x y with
    | some true => eqScals us l l'
    | r => bif l.length.beq us.length && l'.length.beq us.length then r else none
  | _, _, _ => none

def isCon : Operand → Bool
  | .const _ => true
  | _ => false

def nilP : Value → Bool
  | .pointer none => true
  | _ => false

/-- Are two pointers nil, or of a type that has cells? -/
def ptrOk (E : Env) (u : TypeDesc) (x y : Value) : Bool :=
  match u with
  | .pointer el => nilP x || nilP y || (match tInfo E el with
    | some ei => Nat.blt 0 ei.size
    | none => false)
  | _ => true

def nilTwo (E : Env) (con : Bool) (t : TypeId) (b : Bool) : Option Value :=
  oget (tInfo E t) fun i => match i.und, con with
  | .interface _, true => some (.bool b)
  | _, _ => none

def aBin (E : Env) (op : BinOp) (t : TypeId) (con : Bool) (x y : Value) (h : AH) : Option Value :=
  match x, y with
  | .int k a, .int k' b => binInt op k k' a b
  | .string a, .string b => binStr op a b
  | .nilIface, .nilIface => match op with
    | .eql => nilTwo E con t true
    | .neq => nilTwo E con t false
    | _ => none
  | .agg ⟨l⟩, .agg ⟨l'⟩ => oget (tInfo E t) fun i => oget i.skey fun us =>
    match op with
    | .eql => oget (eqScals us l l') fun b => some (.bool b)
    | .neq => oget (eqScals us l l') fun b => some (.bool (!b))
    | _ => none
  | x, y => match op with
    | .eql => oget (tInfo E t) fun i => bif ptrOk E i.und x y then oget (eqV h i.und x y) fun b => some (.bool b) else none
    | .neq => oget (tInfo E t) fun i => bif ptrOk E i.und x y then oget (eqV h i.und x y) fun b => some (.bool (!b)) else none
    | _ => none

def aUn (op : UnOp) (x : Value) : Option Value :=
  match op, x with
  | .not, .bool b => some (.bool (!b))
  | .neg, .int k n => some (.int k (k.wrap (0 - n)))
  | .xor, .int k n => binInt .xor k k (if k.signed then -1 else k.max) n
  | _, _ => none

def keyOk : TypeDesc → Bool
  | .int _ | .string | .bool => true
  | _ => false

def plainKey : Value → Bool
  | .int _ _ | .string _ | .bool _ => true
  | _ => false

def findN (kind : TypeDesc) (k : Value) : List MapEntry → Nat → Option (Option (Nat × Value))
  | [], _ => some none
  | e :: es, i => match sameN kind k e.key with
    | some true => some (some (i, e.val))
    | some false => findN kind k es (i + 1)
    | none => none

def findS (us : List TypeDesc) (k : List Value) : List MapEntry → Nat → Option (Option (Nat × Value))
  | [], _ => some none
  | e :: es, i => match e.key with
    | .agg ⟨l⟩ => match eqScals us k l with
      | some true => some (some (i, e.val))
      | some false => findS us k es (i + 1)
      | none => none
    | _ => none

/-- Where a key stands. -/
def findK (ki : TInfo) (k : Value) (es : List MapEntry) : Option (Option (Nat × Value)) :=
  match k with
  | .agg ⟨l⟩ => match ki.skey with
    | some us => bif l.length.beq us.length && l.all plainKey then findS us l es 0 else none
    | none => none
  | k => bif keyOk ki.und && plainKey k then findN ki.und k es 0 else none

def aLookup (E : Env) (t : TypeId) (m k : Value) (ok : Bool) (h : AH) : Option Value :=
  oget (tInfo E t) fun i => match i.und with
  | .map kt et => oget (tInfo E kt) fun ki => oget (tInfo E et) fun ei => oget ei.zero fun z =>
    oget (match m with
      | .map none => findK ki k []
      | .map (some r) => match h.b.get r with
        | some (.map es _) => findK ki k es
        | _ => none
      | _ => none) fun r => match r with
      | some (_, v) => some (bif ok then .tuple ⟨[v, .bool true]⟩ else v)
      | none => some (bif ok then .tuple ⟨[z, .bool false]⟩ else z)
  | _ => none

def aMapUpdate (E : Env) (t : TypeId) (m k x : Value) (h : AH) : Option AH :=
  oget (tInfo E t) fun i => match i.und, m with
  | .map kt _, .map (some r) => oget (tInfo E kt) fun ki => match h.b.get r with
    | some (.map es clock) => oget (findK ki k es) fun f => match f with
        | some (j, _) => some (h.upd r (.map (es.modify j fun e => { e with key := k, val := x }) clock))
        | none => some (h.upd r (.map (es ++ [{ key := k, val := x, born := clock }]) (clock + 1)))
    | _ => none
  | _, _ => none

def aLen (E : Env) (t : Option TypeId) (x : Value) (h : AH) : Option Value :=
  oget t fun t => oget (tInfo E t) fun i => match i.und, x with
  | .slice _, .slice _ n _ => some (.int .i64 n)
  | .string, .string s => some (.int .i64 s.data.toList.length)
  | .array n _, _ => some (.int .i64 n)
  | .map _ _, .map none => some (.int .i64 0)
  | .map _ _, .map (some r) => match h.b.get r with
    | some (.map es _) => some (.int .i64 es.length)
    | _ => none
  | _, _ => none

def minV : Value → Value → Option Value
  | .int k x, .int _ y => some (.int k (bif decide (y < x) then y else x))
  | _, _ => none
def maxV : Value → Value → Option Value
  | .int k x, .int _ y => some (.int k (bif decide (y > x) then y else x))
  | _, _ => none
def foldV (f : Value → Value → Option Value) (x : Value) : List Value → Option Value
  | [] => some x
  | y :: l => oget (f x y) fun z => foldV f z l

/-- A builtin that answers a value. -/
def aBuiltin (E : Env) (b : Builtin) (ats : List TypeId) (vs : List Value) (h : AH) : Option (Value × AH) :=
  match b, vs with
  | .len, [x] => oget (aLen E ats[0]? x h) fun v => some (v, h)
  | .cap, [.slice none _ c] => oget ats[0]? fun t => oget (tInfo E t) fun i => match i.und with
    | .slice _ => some (.int .i64 c, h)
    | _ => none
  | .cap, [.slice (some ⟨b, _, none⟩) _ c] => oget ats[0]? fun t => oget (tInfo E t) fun i => match i.und, h.b.get b with
    | .slice _, some (.cells _ _ _ opn _) => bif opn.beq 0 then some (.int .i64 c, h) else none
    | .slice _, some (.ro _ _) => some (.int .i64 c, h)
    | _, _ => none
  | .min, x :: l => oget (foldV minV x l) fun v => some (v, h)
  | .max, x :: l => oget (foldV maxV x l) fun v => some (v, h)
  | .append, [s, x] => oget ats[0]? fun t => aAppend E t ats[1]? s x h
  | .copy, [d, s] => oget ats[0]? fun t => aCopy E t d s h
  | .clear, [.slice base n _] => oget ats[0]? fun t => oget (tInfo E t) fun i => match i.und with
    | .slice e => oget (tInfo E e) fun ei => oget ei.zero fun z =>
      bif z.cells.toList.length.beq ei.size then
        bif n.beq 0 then some (.tuple #[], h) else
        match base with
        | some ⟨b, off, none⟩ => oget (aWrite h b off (repl z.cells.toList n)) fun h => some (.tuple #[], h)
        | _ => none
      else none
    | _ => none
  | .unsafeSliceData, [.slice none _ _] => some (.pointer none, h)
  | .unsafeSliceData, [.slice (some a) _ c] => bif c.beq 0 then none else some (.pointer (some a), h)
  | .unsafeString, [.pointer none, .int _ n] => oget ats[0]? fun _ => bif decide (n = 0) then some (.string ⟨⟨[]⟩⟩, h) else none
  | .unsafeString, [.pointer (some ⟨b, off, none⟩), .int _ n] => oget ats[0]? fun t => oget (tInfo E t) fun i => match i.und, h.b.get b with
    | .pointer e, some (.cells m c be opn w) => oget (tInfo E e) fun ei => match ei.und with
      | .int .u8 => bif decide (0 < n) && decide (n < 4294967296) && be.beq e && ei.size.beq 1 then
          oget (getCells (Blk.cells m c be opn w).cell off n.toNat) fun vs => oget (bytesV vs) fun bs => some (.string ⟨⟨bs⟩⟩, h.upd b .dead) else none
      | _ => none
    | _, _ => none
  | _, _ => none

def aTypeAssert (E : Env) (x : Value) (t : TypeId) (ok : Bool) : Option Value :=
  oget (tInfo E t) fun i => match i.und, x with
  | .interface _, _ => none
  | _, .iface d v => bif d.beq t then some (bif ok then .tuple ⟨[v, .bool true]⟩ else v) else
      bif ok then oget i.zero fun z => some (.tuple ⟨[z, .bool false]⟩) else none
  | _, .nilIface => bif ok then oget i.zero fun z => some (.tuple ⟨[z, .bool false]⟩) else none
  | _, _ => none

/-- What an operation answers that calls no function and ends nothing. -/
def aval (E : Env) (o : Oper) (ρ : Operand → Option Value) (h : AH) : Option (Value × AH) :=
  match o.op with
  | .move x | .assign x => oget (ρ x) fun v => some (v, h)
  | .pick c a b => oget (ρ c) fun c => oget (ρ a) fun a => oget (ρ b) fun b => match c with
    | .bool t => some (bif t then a else b, h)
    | _ => none
  | .alloc t => aAlloc E t h
  | .box t x => oget (ρ x) fun x => aNewCells h x.cells.toList t
  | .build t parts => oget (partsV ρ parts.toList) fun ps => oget (aBuild E t ps) fun v => some (v, h)
  | .buildSlice t len parts => oget (partsV ρ parts.toList) fun ps => aBuildSlice E t len ps h
  | .load t a => oget (ρ a) fun a => oget (aLoad E t a h) fun v => some (v, h)
  | .store t a x => oget (ρ a) fun a => oget (ρ x) fun x => oget (aStore E t a x h) fun h => some (undef', h)
  | .nilCheck x => oget (ρ x) fun x => match x with
    | .pointer (some a) => some (.pointer (some a), h)
    | _ => none
  | .binOp op t x y _ => let con := isCon x || isCon y; oget (ρ x) fun x => oget (ρ y) fun y => oget (aBin E op t con x y h) fun v => some (v, h)
  | .unOp op _ x => oget (ρ x) fun x => oget (aUn op x) fun v => some (v, h)
  | .convert s d x => oget (ρ x) fun x => aConvert E s d x h
  | .makeInterface t x => oget (ρ x) fun x => oget (tInfo E t) fun i => match i.und with
    | .interface _ => none
    | _ => some (.iface t x, h)
  | .makeFunc fn first cap => oget (valsV ρ first.toList) fun a => oget (valsV ρ cap.toList) fun b => match fn with
    | .func f => some (.func (.func f) ⟨a⟩ ⟨b⟩, h)
    | _ => none
  | .makeMap t none => oget (tInfo E t) fun _ => bif Nat.blt h.next cap then some (.map (some h.next), h.new (.map [] 0)) else none
  | .makeSlice t l c => oget (ρ l) fun l => oget (ρ c) fun c => aMakeSlice E t l c h
  | .slice t x lo hi none => oget (ρ x) fun x => oget (match lo with | none => some none | some v => oget (ρ v) fun v => some (some v)) fun lo =>
      oget (match hi with | none => some none | some v => oget (ρ v) fun v => some (some v)) fun hi => aSlice E t x lo hi h
  | .fieldAddr t x f => oget (ρ x) fun x => oget (aFieldAddr E t x f) fun v => some (v, h)
  | .field t x f => oget (ρ x) fun x => oget (aField E t x f) fun v => some (v, h)
  | .indexAddr t x ix => oget (ρ x) fun x => oget (ρ ix) fun ix => oget (aIndexAddr E t x ix) fun v => some (v, h)
  | .index t x ix => oget (ρ x) fun x => oget (ρ ix) fun ix => oget (aIndex E t x ix) fun v => some (v, h)
  | .lookup t m k ok => oget (ρ m) fun m => oget (ρ k) fun k => oget (aLookup E t m k ok h) fun v => some (v, h)
  | .mapUpdate t m k x => oget (ρ m) fun m => oget (ρ k) fun k => oget (ρ x) fun x => oget (aMapUpdate E t m k x h) fun h => some (undef', h)
  | .typeAssert x _ t ok => oget (ρ x) fun x => oget (aTypeAssert E x t ok) fun v => some (v, h)
  | .extract t ix => oget (ρ t) fun t => match t with
    | .tuple ⟨vs⟩ => oget vs[ix]? fun v => some (v, h)
    | _ => none
  | .call { callee := .builtin b, args := args, argTypes := ats } => oget (valsV ρ args.toList) fun vs => aBuiltin E b ats.toList vs h
  | _ => none

end Go.Ev
end
section
/- A deterministic evaluator of the model's code over a memory of its own: control. -/
namespace Go.Ev

/-! ### Which operations may change places -/
inductive Cls where
  | pure | alloc | read | strict
  deriving DecidableEq

def clsOf : Op → Cls
  | .move _ | .pick .. | .build .. | .nilCheck _ | .unOp .. | .makeInterface .. | .makeFunc .. | .fieldAddr .. | .field .. | .indexAddr .. | .index ..
  | .typeAssert .. | .extract .. => .pure
  | .binOp op .. => match op with | .eql | .neq => .read | _ => .pure
  | .alloc _ | .box .. | .buildSlice .. | .makeSlice .. | .makeMap .. => .alloc
  | .load .. | .lookup .. | .slice .. | .convert .. => .read
  | .call { callee := .builtin b, .. } => match b with
    | .len | .cap => .read
    | .min | .max | .unsafeSliceData => .pure
    | _ => .strict
  | _ => .strict

/-- An operation of a region that draws its order: its place, itself, and the places (bits) that must be done ahead. -/
abbrev PO := Nat × Oper × Nat

def isStrict (o : Oper) : Bool := match clsOf o.op with
  | .strict => true
  | _ => false

/-- The next operation that can be done: the first one that is not strict, or the first one. -/
def pickOp (done : Nat) : List PO → Option PO
  | [] => none
  | x :: l => bif (x.2.2 &&& done).beq x.2.2 then
      (bif isStrict x.2.1 then match pickOp done l with
          | some y => bif isStrict y.2.1 then some x else some y
          | none => some x
       else some x)
    else pickOp done l

def dropOp (i : Nat) : List PO → List PO
  | [] => []
  | x :: l => bif x.1.beq i then l else x :: dropOp i l

def orderOps : Nat → Nat → List PO → List PO
  | 0, _, _ => []
  | n + 1, done, l => match pickOp done l with
    | none => []
    | some x => x :: orderOps n (done ||| 2 ^ x.1) (dropOp x.1 l)

/-- What x writes, y does not look at or write. -/
def noDst (all : Array Oper) (x y : Oper) : Bool :=
  match x.dst with
  | none => true
  | some d => (match y.dst with
    | none => true
    | some e => !(d.beq e)) && !((y.looksAt all).contains d)

def selfOk (all : Array Oper) (x : Oper) : Bool :=
  match x.dst with
  | none => true
  | some d => !((x.looksAt all).contains d)

/-- x comes ahead of y here. -/
def pairOk (all : Array Oper) (x y : PO) : Bool :=
  bif isStrict x.2.1 then y.2.2.testBit x.1
  else (isStrict y.2.1 && y.2.2.testBit x.1) || (noDst all y.2.1 x.2.1 && (y.2.2.testBit x.1 || noDst all x.2.1 y.2.1))

def pairsOk (all : Array Oper) : List PO → Bool
  | [] => true
  | x :: l => (isStrict x.2.1 || selfOk all x.2.1) && l.all (pairOk all x) && pairsOk all l

def zipIx (k : Nat) : List Oper → List Nat → List PO
  | o :: os, m :: ms => (k, o, m) :: zipIx (k + 1) os ms
  | _, _ => []

def noSel (o : Oper) : Bool := match o.op with | .select .. => false | _ => true

/-- What must be done ahead, of what stands in the edges. -/
def orBits (ms : List Nat) : List Edge → Nat
  | [] => 0
  | e :: es => (bif Region.binds .any e then 2 ^ e.on ||| ms.getD e.on 0 else 0) ||| orBits ms es

def seqOk (n : Nat) : Nat → List PO → Bool
  | done, [] => done.beq (2 ^ n - 1)
  | done, x :: l => !(done.testBit x.1) && (x.2.2 &&& done).beq x.2.2 && seqOk n (done ||| 2 ^ x.1) l

/-- The order in which the operations of a region are done here, if any order comes to the same. -/
def plan (ops : Array Oper) : Option (List PO) :=
  let ms := (Region.before ops).toList
  let l := zipIx 0 ops.toList ms
  let c := orderOps l.length 0 l
  bif c.length.beq ops.size && seqOk ops.size 0 c && pairsOk ops c && (c.all fun x => noSel x.2.1 && x.2.2.beq (orBits ms x.2.1.after.toList)) then some c else none

/-! ### Code -/
inductive AC where
  | skip
  | plain (ops : List Oper) (all : Array Oper)
  | draw (ops : List PO) (all : Array Oper)
  | bad
  | seq (a b : AC)
  | cond (c : Operand) (t e : AC)
  | block (id : Nat) (a : AC)
  | loop (a : AC)
  | scope (b : Code)
  | scopeAt (b : Code) (l : Nat)
  | goto (l : Nat)
  | rfunc (f : Operand) (params : List Tmp) (assign body : Code)
  | exit (id : Nat)
  | ret

def comp : Code → AC
  | .skip => .skip
  | .label _ => .skip
  | .region _ ops draw => bif draw then (match plan ops with | some l => .draw l ops | none => .bad) else .plain ops.toList ops
  | .seq a b => .seq (comp a) (comp b)
  | .cond c a b => .cond c (comp a) (comp b)
  | .block id a => .block id (comp a)
  | .loop a => .loop (comp a)
  | .rangeFunc f ps assign body => .rfunc f ps.toList assign body
  | .exit id => .exit id
  | .scope b => .scope b
  | .goto l => .goto l
  | .ret => .ret
  | _ => .bad

structure St where
  r : Tr Value
  n : Nat
  d : List Deferred
  h : AH
  rc : Bool

inductive Out where
  | fail
  | nor (s : St)
  | exit (i : Nat) (s : St)
  | goto (l : Nat) (s : St)
  | ret (s : St)
  | pan (v : Value) (s : St)

inductive OpR where
  | fail
  | val (v : Value) (s : St)
  | pan (v : Value) (s : St)

inductive Cal where
  | fn (f : FuncId)
  | yield (l : Nat)

inductive CRes where
  | fail
  | ret (v : Value) (h : AH) (rc : Bool)
  | pan (v : Value) (h : AH)

abbrev CallS := Cal → List Value → Option Value → AH → CRes

/-- In which round we are; what the frame below is panicking with. -/
structure Ctx where
  rnd : Option Nat
  pan : Option Value

def putD (s : St) (d : Option Tmp) (v : Value) : Option St :=
  match d with
  | none => some s
  | some d => bif Nat.blt d s.n && Nat.blt s.n cap then some { s with r := s.r.put d v } else none

def yieldedT (all : Array Oper) (r : Tr Value) (j : Nat) : Option Bool :=
  match (all.toList[j]?).bind (·.dst) with
  | none => none
  | some d => match r.get d with
    | some (.bool b) => some b
    | _ => none

/-- Is an operation wanted? -/
def wantedT (o : Oper) (all : Array Oper) (r : Tr Value) : Option Bool :=
  match o.guard with
  | none => some true
  | some (j, want) => match (all.toList[j]?).bind (·.dst) with
    | none => none
    | some d => match r.get d with
      | some (.bool b) => some (b == want)
      | some (.tuple ⟨[]⟩) => some false
      | _ => none

def callV (C : CallS) (f : Value) (args : List Value) (s : St) : OpR :=
  match f with
  | .func (.func g) ⟨first⟩ ⟨cp⟩ => match C (.fn g) (first ++ args ++ cp) none s.h with
    | .ret v h _ => .val v { s with h := h }
    | .pan v h => .pan v { s with h := h }
    | .fail => .fail
  | .func (.yield l) ⟨first⟩ ⟨[]⟩ => match C (.yield l) (first ++ args) none s.h with
    | .ret v h _ => .val v { s with h := h }
    | .pan v h => .pan v { s with h := h }
    | .fail => .fail
  | _ => .fail

def oOp {α : Type} (x : Option α) (f : α → OpR) : OpR :=
  match x with
  | none => .fail
  | some a => f a

def evOp (E : Env) (C : CallS) (c : Ctx) (o : Oper) (s : St) : OpR :=
  match o.op with
  | .call { callee := .value f, args := args, .. } => oOp (evalO E.ng s.r f) fun f => oOp (valsV (evalO E.ng s.r) args.toList) fun vs => callV C f vs s
  | .call { callee := .builtin .recover, .. } => match c.rnd with
    | some _ => .fail
    | none => match c.pan, s.rc with
      | some v, false => .val v { s with rc := true }
      | _, _ => .val .nilIface s
  | .call { callee := .builtin .panic, args := args, .. } => oOp (valsV (evalO E.ng s.r) args.toList) fun vs => match vs with
    | [.iface t v] => .pan (.iface t v) s
    | _ => .fail
  | .panic x => oOp (evalO E.ng s.r x) fun x => match x with
    | .iface t v => .pan (.iface t v) s
    | _ => .fail
  | .defer { callee := .value f, args := args, .. } => match c.rnd with
    | some _ => .fail
    | none => oOp (evalO E.ng s.r f) fun f => oOp (valsV (evalO E.ng s.r) args.toList) fun vs => match f with
      | .func (.func g) ⟨first⟩ cp => .val undef' { s with d := { target := .fn (.func g) cp, args := ⟨first ++ vs⟩ } :: s.d }
      | _ => .fail
  | _ => oOp (aval E o (evalO E.ng s.r) s.h) fun x => .val x.1 { s with h := x.2 }

def oOut {α : Type} (x : Option α) (f : α → Out) : Out :=
  match x with
  | none => .fail
  | some a => f a

def evOps (E : Env) (C : CallS) (c : Ctx) (all : Array Oper) : List Oper → St → Out
  | [], s => .nor s
  | o :: os, s => match wantedT o all s.r with
    | none => .fail
    | some false => oOut (putD s o.dst undef') fun s => evOps E C c all os s
    | some true => match evOp E C c o s with
      | .fail => .fail
      | .pan v s => .pan v s
      | .val v s => oOut (putD s o.dst v) fun s => evOps E C c all os s

/-- Are two values surely one? -/
def veq : Value → Value → Bool
  | .bool a, .bool b => a == b
  | .int j a, .int k b => decide (j = k) && decide (a = b)
  | .string a, .string b => a.data.toList == b.data.toList
  | .pointer none, .pointer none => true
  | .pointer (some ⟨b, o, none⟩), .pointer (some ⟨b', o', none⟩) => b.beq b' && o.beq o'
  | .slice none l c, .slice none l' c' => l.beq l' && c.beq c'
  | .slice (some ⟨b, o, none⟩) l c, .slice (some ⟨b', o', none⟩) l' c' => b.beq b' && o.beq o' && l.beq l' && c.beq c'
  | .map none, .map none => true
  | .map (some r), .map (some r') => r.beq r'
  | .nilFunc, .nilFunc => true
  | .nilIface, .nilIface => true
  | .agg ⟨l⟩, .agg ⟨l'⟩ => veqs l l'
  | .tuple ⟨l⟩, .tuple ⟨l'⟩ => veqs l l'
  | _, _ => false
where veqs : List Value → List Value → Bool
  | [], [] => true
  | x :: l, y :: l' => veq x y && veqs l l'
  | _, _ => false

structure Watch where
  i : Nat
  o : Oper
  r : Tr Value
  v : Value

def checkW (E : Env) (h : AH) : List Watch → Bool
  | [] => true
  | w :: ws => (match aval E w.o (evalO E.ng w.r) h with
    | none => false
    | some x => veq x.1 w.v && x.2.next.beq h.next) && checkW E h ws

/-- Those that need not be done ahead. -/
def moreW (m : Nat) : List Watch → List Watch
  | [] => []
  | w :: ws => bif m.testBit w.i then moreW m ws else w :: moreW m ws

/-- A key less. -/
def Tr.del {α : Type} : Nat → Tr α → Nat → Tr α
  | 0, _, _ => .nil
  | _ + 1, .nil, _ => .nil
  | f + 1, .node v l r, n => bif n.beq 0 then .node none l r else bif (Nat.mod n 2).beq 1 then .node v (Tr.del f l (Nat.div n 2)) r else .node v l (Tr.del f r (Nat.sub (Nat.div n 2) 1))

/-- What may not have been written when a region that draws is left. -/
def dropD : List Oper → Tr Value → Tr Value
  | [], r => r
  | o :: l, r => bif isStrict o then dropD l r else match o.dst with
    | none => dropD l r
    | some d => Tr.del 41 (dropD l r) d

def evDraw (E : Env) (C : CallS) (c : Ctx) (all : Array Oper) : List PO → List Watch → St → Out
  | [], ws, s => bif checkW E s.h ws then .nor s else .fail
  | p :: ps, ws, s => match isStrict p.2.1 with
    | true => bif checkW E s.h ws then (match wantedT p.2.1 all s.r with
        | none => .fail
        | some false => oOut (putD s p.2.1.dst undef') fun s => evDraw E C c all ps (moreW p.2.2 ws) s
        | some true => match evOp E C c p.2.1 s with
          | .val v s => oOut (putD s p.2.1.dst v) fun s => evDraw E C c all ps (moreW p.2.2 ws) s
          | .pan v s => .pan v { s with r := dropD all.toList s.r }
          | .fail => .fail) else .fail
    | false => match wantedT p.2.1 all s.r with
      | none => .fail
      | some false => oOut (putD s p.2.1.dst undef') fun s => evDraw E C c all ps ws s
      | some true => match aval E p.2.1 (evalO E.ng s.r) s.h with
        | none => .fail
        | some x => match clsOf p.2.1.op with
          | .read => bif x.2.next.beq s.h.next then oOut (putD s p.2.1.dst x.1) fun s' => evDraw E C c all ps (⟨p.1, p.2.1, s.r, x.1⟩ :: ws) s' else .fail
          | _ => oOut (putD { s with h := x.2 } p.2.1.dst x.1) fun s => evDraw E C c all ps ws s

/-- A round's frame. -/
def putAll (n : Nat) (r : Tr Value) : List Tmp → List Value → Option (Tr Value)
  | [], [] => some r
  | t :: ts, v :: vs => bif Nat.blt t n then putAll n (r.put t v) ts vs else none
  | _, _ => none

def ev (E : Env) (C : CallS) (c : Ctx) : Nat → AC → St → Out
  | 0, _, _ => .fail
  | n + 1, x, s => match x with
    | .skip => .nor s
    | .plain ops all => evOps E C c all ops s
    | .draw ops all => evDraw E C c all ops [] s
    | .bad => .fail
    | .seq a b => match ev E C c n a s with
      | .nor s => ev E C c n b s
      | x => x
    | .cond x t e => match evalO E.ng s.r x with
      | some (.bool true) => ev E C c n t s
      | some (.bool false) => ev E C c n e s
      | _ => .fail
    | .block id a => match ev E C c n a s with
      | .exit i s => bif i.beq id then .nor s else .exit i s
      | x => x
    | .loop a => match ev E C c n a s with
      | .nor s => ev E C c n (.loop a) s
      | x => x
    | .scope b => match ev E C c n (comp b) s with
      | .goto l s => ev E C c n (.scopeAt b l) s
      | x => x
    | .scopeAt b l => match findLabel b l with
      | none => .goto l s
      | some rest => match ev E C c n (comp rest) s with
        | .goto l s => ev E C c n (.scopeAt b l) s
        | x => x
    | .rfunc f ps assign body => match c.rnd with
      | some _ => .fail
      | none => oOut (evalO E.ng s.r f) fun fv =>
        bif Nat.blt (s.h.next + 1) cap then
          match callV C fv [.func (.yield (s.h.next + 1)) ⟨[]⟩ ⟨[]⟩] { s with h := (s.h.new (.deferred (some []))).new (.loop .ready none 0 s.n s.r ps assign body s.h.next), d := { target := .collected s.h.next, args := ⟨[]⟩ } :: s.d } with
          | .fail => .fail
          | .pan v s => .pan v s
          | .val _ s' => match s'.h.b.get (s.h.next + 1) with
            | some (.loop st pend fn n r ps asg bo de) => match st with
              | .busy => .fail
              | _ =>
                match pend with
                | none => .nor { s' with h := s'.h.upd (s.h.next + 1) (.loop .exhausted pend fn n r ps asg bo de) }
                | some .ret => .ret { s' with h := s'.h.upd (s.h.next + 1) (.loop .exhausted pend fn n r ps asg bo de) }
                | some (.exit i) => .exit i { s' with h := s'.h.upd (s.h.next + 1) (.loop .exhausted pend fn n r ps asg bo de) }
                | _ => .fail
            | _ => .fail
        else .fail
    | .exit i => .exit i s
    | .goto l => .goto l s
    | .ret => .ret s

structure AFunc where
  n : Nat
  results : List ResultVar
  body : AC

def resultsV (E : Env) (r : Tr Value) (h : AH) : List ResultVar → Option (List Value)
  | [] => some []
  | .tmp t :: l => oget (r.get t) fun v => oget (resultsV E r h l) fun vs => some (v :: vs)
  | .cell a t :: l => oget (r.get a) fun a => oget (aLoad E t a h) fun v => oget (resultsV E r h l) fun vs => some (v :: vs)

def oneOf : List Value → Value
  | [v] => v
  | vs => .tuple ⟨vs⟩

/-- The deferred calls, and what the call comes to. -/
def leave (E : Env) (C : CallS) (res : List ResultVar) (r : Tr Value) (rc : Bool) : Nat → Option Value → List Deferred → AH → CRes
  | _, none, [], h => match resultsV E r h res with
    | some vs => .ret (oneOf vs) h rc
    | none => .fail
  | _, some v, [], h => bif rc then .fail else .pan v h
  | 0, _, _ :: _, _ => .fail
  | n + 1, m, d :: ds, h => match d.target with
    | .collected b => match h.b.get b with
      | some (.deferred (some [])) => leave E C res r rc n m ds (h.upd b (.deferred none))
      | _ => .fail
    | .fn (.func f) ⟨cp⟩ => match C (.fn f) (d.args.toList ++ cp) m h with
      | .ret _ h rcd => leave E C res r rc n (bif rcd then none else m) ds h
      | _ => .fail
    | _ => .fail

def roundEnd (l : Nat) (jump : Option Code) (h : AH) : CRes :=
  match h.b.get l with
  | some (.loop _ _ fn n r ps asg bo de) => .ret (.bool jump.isNone) (h.upd l (.loop (if jump.isNone then .ready else .done) jump fn n r ps asg bo de)) false
  | _ => .fail

/-- How a round ends. -/
def endOf (l : Nat) : Out → CRes
  | .nor s => match s.d with
    | [] => roundEnd l none s.h
    | _ => .fail
  | .ret s => match s.d with
    | [] => roundEnd l (some .ret) s.h
    | _ => .fail
  | .exit i s => match s.d with
    | [] => roundEnd l (some (.exit i)) s.h
    | _ => .fail
  | .pan v s => match s.d with
    | [] => .pan v s.h
    | _ => .fail
  | _ => .fail

def callN (E : Env) (ft : Tr AFunc) : Nat → CallS
  | 0 => fun _ _ _ _ => .fail
  | n + 1 => fun f args pan h => match f with
    | .fn f => match ft.get f with
      | none => bif E.same f then (match args with | [.pointer a] => .ret (.pointer a) h false | _ => .fail) else (match E.known f, args, pan with | some v, [], none => .ret v h false | _, _, _ => .fail)
      | some fn => bif Nat.ble args.length fn.n && Nat.blt fn.n cap then
        (match ev E (callN E ft n) ⟨none, pan⟩ n fn.body ⟨putCells .nil 0 args, fn.n, [], h, false⟩ with
          | .nor s => leave E (callN E ft n) fn.results s.r s.rc n none s.d s.h
          | .ret s => leave E (callN E ft n) fn.results s.r s.rc n none s.d s.h
          | .pan v s => leave E (callN E ft n) fn.results s.r s.rc n (some v) s.d s.h
          | _ => .fail) else .fail
    | .yield l => match h.b.get l with
      | some (.loop .ready _ _ m r ps assign body _) => bif Nat.blt m cap then match putAll m r ps args with
        | none => .fail
        | some r => match ev E (callN E ft n) ⟨some l, none⟩ n (comp assign) ⟨r, m, [], h, false⟩ with
          | .nor s => match s.h.b.get l with
            | some (.loop .ready pend fn m' r' ps asg bo de) =>
              endOf l (ev E (callN E ft n) ⟨some l, none⟩ n (comp body) { s with h := s.h.upd l (.loop .busy pend fn m' r' ps asg bo de) })
            | _ => .fail
          | _ => .fail
        else .fail
      | _ => .fail

def fieldsOk (P : Program) : Nat → List Field → Option (List TypeDesc)
  | _, [] => some []
  | k, f :: fs => bif f.name != "_" && f.offset.beq k then
      (match P.underlying f.type with
        | some u => bif keyOk u then oget (fieldsOk P (k + 1) fs) fun l => some (u :: l) else none
        | none => none) else none

def skeyOf (P : Program) (t : TypeId) : TypeDesc → Option (List TypeDesc)
  | .struct fs => bif P.stoodInHeld t then none else fieldsOk P 0 fs.toList
  | _ => none

def tinfoOf (P : Program) (t : TypeId) : Option TInfo :=
  match P.underlying t, P.info? t with
  | some u, some i => some ⟨u, i.size, i.bytes, i.zero.bind (fun z => bif plainZ z then some z else none), skeyOf P t u⟩
  | _, _ => none

def afunc (fn : Func) : AFunc := ⟨fn.ntmps, fn.results.toList, match fn.body with | some b => comp b | none => .bad⟩

def ofList {α : Type} : List (Nat × α) → Tr α
  | [] => .nil
  | x :: l => (ofList l).put x.1 x.2

end Go.Ev
end
section
/- A deterministic evaluator of the model's code over a memory of its own: how its values and memory stand to the model's. -/
namespace Go.Ev

/-! ### The store -/
theorem beqF {a b : Nat} (h : a ≠ b) : a.beq b = false := by
  cases e : a.beq b with
  | false => rfl
  | true => exact absurd (Nat.eq_of_beq_eq_true e) h
theorem beqT {a b : Nat} (h : a = b) : a.beq b = true := by subst h; exact Nat.beq_refl a
theorem of_beq {a b : Nat} (h : a.beq b = true) : a = b := Nat.eq_of_beq_eq_true h
theorem of_beqF {a b : Nat} (h : a.beq b = false) : a ≠ b := fun e => by rw [beqT e] at h; cases h
theorem of_blt {a b : Nat} (h : Nat.blt a b = true) : a < b := Nat.le_of_ble_eq_true h
theorem of_ble {a b : Nat} (h : Nat.ble a b = true) : a ≤ b := Nat.le_of_ble_eq_true h

theorem Tr.get_set {α : Type} : ∀ (f : Nat) (t : Tr α) (n m : Nat) (x : α), n + 1 < 2 ^ f → (Tr.set f t n x).get m = if m = n then some x else t.get m := by
  intro f
  induction f with
  | zero => intro t n m x h; simp at h
  | succ f ih =>
    intro t n m x h
    have hp : 2 ^ (f + 1) = 2 * 2 ^ f := by rw [Nat.pow_succ]; omega
    have key : ∀ (v : Option α) (l r : Tr α), (bif n.beq 0 then Tr.node (some x) l r else bif (Nat.mod n 2).beq 1 then .node v (Tr.set f l (Nat.div n 2) x) r else .node v l (Tr.set f r (Nat.sub (Nat.div n 2) 1) x)).get m = if m = n then some x else (Tr.node v l r).get m := by
      intro v l r
      by_cases hn : n = 0
      · subst hn
        simp only [Nat.beq_refl, cond_true]
        by_cases hm : m = 0
        · subst hm; simp [Tr.get]
        · have : m.beq 0 = false := beqF hm
          simp [Tr.get, hm, this]
      · have hn0 : n.beq 0 = false := beqF hn
        rw [hn0]
        simp only [cond_false]
        by_cases hodd : n % 2 = 1
        · have h1 : (Nat.mod n 2).beq 1 = true := beqT hodd
          rw [h1]
          simp only [cond_true, Tr.get]
          by_cases hm : m = 0
          · subst hm
            have : ¬ (0 = n) := by omega
            simp [this]
          · have hm0 : m.beq 0 = false := beqF hm
            rw [hm0]
            simp only [cond_false]
            by_cases hmo : m % 2 = 1
            · have h2 : (Nat.mod m 2).beq 1 = true := beqT hmo
              rw [h2]
              simp only [cond_true]
              have e1 : Nat.div n 2 = n / 2 := rfl
              have e2 : Nat.div m 2 = m / 2 := rfl
              rw [e1, e2, ih l (n / 2) (m / 2) x (by omega)]
              by_cases e : m = n
              · subst e; simp
              · have : ¬ (m / 2 = n / 2) := by omega
                simp [e, this]
            · have h2 : (Nat.mod m 2).beq 1 = false := beqF hmo
              rw [h2]
              have e : ¬ m = n := by omega
              simp [e]
        · have h1 : (Nat.mod n 2).beq 1 = false := beqF hodd
          rw [h1]
          simp only [cond_false, Tr.get]
          by_cases hm : m = 0
          · subst hm
            have : ¬ (0 = n) := by omega
            simp [this]
          · have hm0 : m.beq 0 = false := beqF hm
            rw [hm0]
            simp only [cond_false]
            by_cases hmo : m % 2 = 1
            · have h2 : (Nat.mod m 2).beq 1 = true := beqT hmo
              rw [h2]
              have e : ¬ m = n := by omega
              simp [e]
            · have h2 : (Nat.mod m 2).beq 1 = false := beqF hmo
              rw [h2]
              simp only [cond_false]
              have e1 : Nat.sub (Nat.div n 2) 1 = n / 2 - 1 := rfl
              have e2 : Nat.sub (Nat.div m 2) 1 = m / 2 - 1 := rfl
              rw [e1, e2, ih r (n / 2 - 1) (m / 2 - 1) x (by omega)]
              by_cases e : m = n
              · subst e; simp
              · have : ¬ (m / 2 - 1 = n / 2 - 1) := by omega
                simp [e, this]
    cases t with
    | nil =>
      have := key none .nil .nil
      simp only [Tr.set]
      rw [this]
      by_cases hm : m = n
      · simp [hm]
      · simp only [hm, if_false, Tr.get]
        cases m.beq 0 <;> cases (Nat.mod m 2).beq 1 <;> rfl
    | node v l r => simp only [Tr.set]; exact key v l r

theorem Tr.get_put {α : Type} (t : Tr α) (n m : Nat) (x : α) (h : n < cap) : (t.put n x).get m = if m = n then some x else t.get m :=
  Tr.get_set 41 t n m x (by unfold cap at h; omega)

/-! ### Values -/
/-- Of a block here: the block of the world, where it begins in it, how many elements more it has. -/
abbrev Rn := Nat → Option (Nat × Nat × Nat)

def Rn.addr (ρ : Rn) : Addr → Option Addr
  | ⟨b, o, none⟩ => match ρ b with
    | some (c, s, _) => some ⟨c, s + o, none⟩
    | none => none
  | _ => none

mutual
def ren (ρ : Rn) : Value → Option Value
  | .bool b => some (.bool b)
  | .int k n => some (.int k n)
  | .float _ _ => none
  | .complex _ _ _ => none
  | .string s => some (.string s)
  | .pointer none => some (.pointer none)
  | .pointer (some a) => (ρ.addr a).map fun a => .pointer (some a)
  | .slice none l c => some (.slice none l c)
  | .slice (some ⟨b, o, none⟩) l c => match ρ b with
    | some (B, s, x) => some (.slice (some ⟨B, s + o, none⟩) l (c + x))
    | none => none
  | .slice (some ⟨_, _, some _⟩) _ _ => none
  | .map none => some (.map none)
  | .map (some r) => (ρ r).map fun x => .map (some x.1)
  | .chan _ => none
  | .func (.func f) a b => match renA ρ a, renA ρ b with
    | some a, some b => some (.func (.func f) a b)
    | _, _ => none
  | .func (.yield l) a b => match ρ l, renA ρ a, renA ρ b with
    | some l, some a, some b => some (.func (.yield l.1) a b)
    | _, _, _ => none
  | .func _ _ _ => none
  | .nilFunc => some .nilFunc
  | .iface t v => (ren ρ v).map fun v => .iface t v
  | .nilIface => some .nilIface
  | .agg a => (renA ρ a).map fun a => .agg a
  | .tuple a => (renA ρ a).map fun a => .tuple a
def renA (ρ : Rn) : Array Value → Option (Array Value)
  | ⟨l⟩ => (renL ρ l).map fun l => ⟨l⟩
def renL (ρ : Rn) : List Value → Option (List Value)
  | [] => some []
  | v :: l => match ren ρ v, renL ρ l with
    | some v, some l => some (v :: l)
    | _, _ => none
end

/-- One renaming is a part of another. -/
def Sub (ρ ρ' : Rn) : Prop := ∀ b r, ρ b = some r → ρ' b = some r

theorem Sub.refl (ρ : Rn) : Sub ρ ρ := fun _ _ h => h
theorem Sub.trans {a b c : Rn} (h : Sub a b) (k : Sub b c) : Sub a c := fun x r e => k x r (h x r e)

theorem Rn.addr_mono {ρ ρ' : Rn} (h : Sub ρ ρ') {a a' : Addr} (e : ρ.addr a = some a') : ρ'.addr a = some a' := by
  obtain ⟨b, o, sp⟩ := a
  cases sp with
  | some _ => simp [Rn.addr] at e
  | none =>
    simp only [Rn.addr] at e ⊢
    cases hb : ρ b with
    | none => rw [hb] at e; simp at e
    | some r => rw [hb] at e; rw [h b r hb]; exact e

mutual
theorem ren_mono {ρ ρ' : Rn} (h : Sub ρ ρ') : ∀ (v v' : Value), ren ρ v = some v' → ren ρ' v = some v'
  | .bool _, _, e => by simpa [ren] using e
  | .int _ _, _, e => by simpa [ren] using e
  | .float _ _, _, e => by simp [ren] at e
  | .complex _ _ _, _, e => by simp [ren] at e
  | .string _, _, e => by simpa [ren] using e
  | .pointer none, _, e => by simpa [ren] using e
  | .pointer (some a), v', e => by
    simp only [ren, Option.map_eq_some_iff] at e ⊢
    obtain ⟨a', ha, rfl⟩ := e
    exact ⟨a', Rn.addr_mono h ha, rfl⟩
  | .slice none _ _, _, e => by simpa [ren] using e
  | .slice (some ⟨b, o, none⟩) l c, v', e => by
    simp only [ren] at e ⊢
    cases hb : ρ b with
    | none => rw [hb] at e; simp at e
    | some r => rw [hb] at e; rw [h b r hb]; exact e
  | .slice (some ⟨_, _, some _⟩) _ _, _, e => by simp [ren] at e
  | .map none, _, e => by simpa [ren] using e
  | .map (some r), v', e => by
    simp only [ren, Option.map_eq_some_iff] at e ⊢
    obtain ⟨x, hx, rfl⟩ := e
    exact ⟨x, h _ _ hx, rfl⟩
  | .chan _, _, e => by simp [ren] at e
  | .func (.func f) a b, v', e => by
    simp only [ren] at e ⊢
    cases ha : renA ρ a with
    | none => simp [ha] at e
    | some a' => cases hb : renA ρ b with
      | none => simp [ha, hb] at e
      | some b' => rw [ha, hb] at e; rw [renA_mono h a a' ha, renA_mono h b b' hb]; exact e
  | .func (.yield l) a b, v', e => by
    simp only [ren] at e ⊢
    cases hl : ρ l with
    | none => simp [hl] at e
    | some l' => cases ha : renA ρ a with
      | none => simp [hl, ha] at e
      | some a' => cases hb : renA ρ b with
        | none => simp [hl, ha, hb] at e
        | some b' => rw [hl, ha, hb] at e; rw [h _ _ hl, renA_mono h a a' ha, renA_mono h b b' hb]; exact e
  | .func (.method _) _ _, _, e => by simp [ren] at e
  | .func (.methodOf _ _) _ _, _, e => by simp [ren] at e
  | .func (.via _ _ _ _) _ _, _, e => by simp [ren] at e
  | .nilFunc, _, e => by simpa [ren] using e
  | .iface t v, v', e => by
    simp only [ren, Option.map_eq_some_iff] at e ⊢
    obtain ⟨x, hx, rfl⟩ := e
    exact ⟨x, ren_mono h v x hx, rfl⟩
  | .nilIface, _, e => by simpa [ren] using e
  | .agg a, v', e => by
    simp only [ren, Option.map_eq_some_iff] at e ⊢
    obtain ⟨x, hx, rfl⟩ := e
    exact ⟨x, renA_mono h a x hx, rfl⟩
  | .tuple a, v', e => by
    simp only [ren, Option.map_eq_some_iff] at e ⊢
    obtain ⟨x, hx, rfl⟩ := e
    exact ⟨x, renA_mono h a x hx, rfl⟩
theorem renA_mono {ρ ρ' : Rn} (h : Sub ρ ρ') : ∀ (a a' : Array Value), renA ρ a = some a' → renA ρ' a = some a'
  | ⟨l⟩, a', e => by
    simp only [renA, Option.map_eq_some_iff] at e ⊢
    obtain ⟨x, hx, rfl⟩ := e
    exact ⟨x, renL_mono h l x hx, rfl⟩
theorem renL_mono {ρ ρ' : Rn} (h : Sub ρ ρ') : ∀ (l l' : List Value), renL ρ l = some l' → renL ρ' l = some l'
  | [], _, e => by simpa [renL] using e
  | v :: l, l', e => by
    simp only [renL] at e ⊢
    cases hv : ren ρ v with
    | none => simp [hv] at e
    | some v' => cases hl : renL ρ l with
      | none => simp [hv, hl] at e
      | some l'' => rw [hv, hl] at e; rw [ren_mono h v v' hv, renL_mono h l l'' hl]; exact e
end

theorem renL_cons {ρ : Rn} {v : Value} {l : List Value} {l' : List Value} : renL ρ (v :: l) = some l' ↔ ∃ v' m, ren ρ v = some v' ∧ renL ρ l = some m ∧ l' = v' :: m := by
  simp only [renL]
  cases hv : ren ρ v with
  | none => simp
  | some v' => cases hl : renL ρ l with
    | none => simp
    | some m => simp [eq_comm]

theorem renL_nil {ρ : Rn} {l' : List Value} : renL ρ [] = some l' ↔ l' = [] := by simp [renL, eq_comm]

theorem renL_length {ρ : Rn} : ∀ {l l' : List Value}, renL ρ l = some l' → l'.length = l.length
  | [], l', h => by rw [renL_nil.1 h]
  | v :: l, l', h => by
    obtain ⟨v', m, _, hm, rfl⟩ := renL_cons.1 h
    simp [renL_length hm]

theorem renL_get {ρ : Rn} : ∀ {l l' : List Value}, renL ρ l = some l' → ∀ (i : Nat) (v : Value), l[i]? = some v → ∃ v', ren ρ v = some v' ∧ l'[i]? = some v'
  | [], _, _, i, v, e => by simp at e
  | x :: l, l', h, i, v, e => by
    obtain ⟨x', m, hx, hm, rfl⟩ := renL_cons.1 h
    cases i with
    | zero => simp at e; subst e; exact ⟨x', hx, by simp⟩
    | succ i => simp at e; obtain ⟨v', h1, h2⟩ := renL_get hm i v e; exact ⟨v', h1, by simpa using h2⟩

theorem renL_append {ρ : Rn} : ∀ {l m l' m' : List Value}, renL ρ l = some l' → renL ρ m = some m' → renL ρ (l ++ m) = some (l' ++ m')
  | [], m, l', m', h, k => by rw [renL_nil.1 h]; simpa using k
  | x :: l, m, l', m', h, k => by
    obtain ⟨x', n, hx, hn, rfl⟩ := renL_cons.1 h
    exact renL_cons.2 ⟨x', n ++ m', hx, renL_append hn k, rfl⟩

theorem renL_take {ρ : Rn} : ∀ {l l' : List Value} (n : Nat), renL ρ l = some l' → renL ρ (l.take n) = some (l'.take n)
  | [], l', n, h => by rw [renL_nil.1 h]; simp [renL]
  | x :: l, l', n, h => by
    obtain ⟨x', m, hx, hm, rfl⟩ := renL_cons.1 h
    cases n with
    | zero => simp [renL]
    | succ n => exact renL_cons.2 ⟨x', m.take n, hx, renL_take n hm, rfl⟩

theorem renL_drop {ρ : Rn} : ∀ {l l' : List Value} (n : Nat), renL ρ l = some l' → renL ρ (l.drop n) = some (l'.drop n)
  | [], l', n, h => by rw [renL_nil.1 h]; simp [renL]
  | x :: l, l', n, h => by
    cases n with
    | zero => simpa using h
    | succ n =>
      obtain ⟨x', m, hx, hm, rfl⟩ := renL_cons.1 h
      simpa using renL_drop n hm

theorem renA_iff {ρ : Rn} {l : List Value} {a' : Array Value} : renA ρ ⟨l⟩ = some a' ↔ renL ρ l = some a'.toList := by
  simp only [renA, Option.map_eq_some_iff]
  constructor
  · rintro ⟨x, hx, rfl⟩; exact hx
  · intro h; exact ⟨a'.toList, h, by simp⟩

theorem ren_agg {ρ : Rn} {l : List Value} {v' : Value} : ren ρ (.agg ⟨l⟩) = some v' ↔ ∃ l', renL ρ l = some l' ∧ v' = .agg ⟨l'⟩ := by
  simp only [ren, renA, Option.map_map, Option.map_eq_some_iff]
  constructor
  · rintro ⟨x, hx, rfl⟩; exact ⟨x, hx, rfl⟩
  · rintro ⟨x, hx, rfl⟩; exact ⟨x, hx, rfl⟩
theorem ren_tuple {ρ : Rn} {l : List Value} {v' : Value} : ren ρ (.tuple ⟨l⟩) = some v' ↔ ∃ l', renL ρ l = some l' ∧ v' = .tuple ⟨l'⟩ := by
  simp only [ren, renA, Option.map_map, Option.map_eq_some_iff]
  constructor
  · rintro ⟨x, hx, rfl⟩; exact ⟨x, hx, rfl⟩
  · rintro ⟨x, hx, rfl⟩; exact ⟨x, hx, rfl⟩

theorem ren_cells {ρ : Rn} {v v' : Value} (h : ren ρ v = some v') : renL ρ v.cells.toList = some v'.cells.toList := by
  have one : (∀ l, v ≠ .agg l) → (∀ l, v' ≠ .agg l) → renL ρ v.cells.toList = some v'.cells.toList := by
    intro h1 h2
    have e1 : v.cells = #[v] := by cases v <;> first | rfl | exact absurd rfl (h1 _)
    have e2 : v'.cells = #[v'] := by cases v' <;> first | rfl | exact absurd rfl (h2 _)
    rw [e1, e2]
    exact renL_cons.2 ⟨v', [], h, by simp [renL], rfl⟩
  cases v with
  | agg a =>
    obtain ⟨l⟩ := a
    obtain ⟨l', hl, rfl⟩ := ren_agg.1 h
    exact hl
  | pointer a => cases a <;> (apply one (by simp) ; intro l e; subst e; simp [ren] at h)
  | slice a _ _ =>
    rcases a with _ | ⟨b, o, _ | _⟩
    · apply one (by simp); intro l e; subst e; simp [ren] at h
    · apply one (by simp); intro l e; subst e; simp only [ren] at h; cases hb : ρ b <;> simp [hb] at h
    · simp [ren] at h
  | map r => cases r <;> (apply one (by simp); intro l e; subst e; simp [ren] at h)
  | func fn a b =>
    apply one (by simp); intro l e; subst e
    cases fn <;> simp only [ren] at h
    · cases ha : renA ρ a <;> cases hb : renA ρ b <;> simp [ha, hb] at h
    · simp at h
    · simp at h
    · simp at h
    · rename_i l0; cases hl : ρ l0 <;> cases ha : renA ρ a <;> cases hb : renA ρ b <;> simp [hl, ha, hb] at h
  | _ => (apply one (by simp); intro l e; subst e; simp [ren] at h)

theorem plainCell_ren {ρ : Rn} {v v' : Value} (h : ren ρ v = some v') (hp : plainCell v = true) : plainCell v' = true := by
  cases v with
  | agg a => simp [plainCell] at hp
  | tuple a => simp [plainCell] at hp
  | pointer a => cases a <;> simp [ren] at h <;> first | (subst h; rfl) | (obtain ⟨x, _, rfl⟩ := h; rfl)
  | slice a _ _ =>
    rcases a with _ | ⟨b, o, _ | _⟩
    · simp [ren] at h; subst h; rfl
    · simp only [ren] at h; cases hb : ρ b <;> simp [hb] at h; subst h; rfl
    · simp [ren] at h
  | map r => cases r <;> simp [ren] at h <;> first | (subst h; rfl) | (obtain ⟨x, _, rfl⟩ := h; rfl)
  | func fn a b =>
    cases fn <;> simp only [ren] at h
    · cases ha : renA ρ a <;> cases hb : renA ρ b <;> simp [ha, hb] at h; subst h; rfl
    · simp at h
    · simp at h
    · simp at h
    · rename_i l0; cases hl : ρ l0 <;> cases ha : renA ρ a <;> cases hb : renA ρ b <;> simp [hl, ha, hb] at h; subst h; rfl
  | iface t v => simp [ren] at h; obtain ⟨x, _, rfl⟩ := h; rfl
  | chan _ => simp [ren] at h
  | float _ _ => simp [ren] at h
  | complex _ _ _ => simp [ren] at h
  | _ => simp [ren] at h; subst h; rfl

/-! ### Memory -/
def renEs (ρ : Rn) : List MapEntry → Option (List MapEntry)
  | [] => some []
  | e :: es => match ren ρ e.key, ren ρ e.val, renEs ρ es with
    | some k, some v, some es => some ({ key := k, val := v, born := e.born } :: es)
    | _, _, _ => none

theorem renEs_cons {ρ : Rn} {e : MapEntry} {es es' : List MapEntry} : renEs ρ (e :: es) = some es' ↔ ∃ k v m, ren ρ e.key = some k ∧ ren ρ e.val = some v ∧ renEs ρ es = some m ∧ es' = { key := k, val := v, born := e.born } :: m := by
  simp only [renEs]
  cases ren ρ e.key <;> cases ren ρ e.val <;> cases renEs ρ es <;> simp [eq_comm]

theorem renEs_mono {ρ ρ' : Rn} (h : Sub ρ ρ') : ∀ (es es' : List MapEntry), renEs ρ es = some es' → renEs ρ' es = some es'
  | [], _, e => by simpa [renEs] using e
  | x :: es, es', e => by
    obtain ⟨k, v, m, h1, h2, h3, rfl⟩ := renEs_cons.1 e
    exact renEs_cons.2 ⟨k, v, m, ren_mono h _ _ h1, ren_mono h _ _ h2, renEs_mono h _ _ h3, rfl⟩

def RegRel (ρ : Rn) (tmps : Array Value) (r : Tr Value) : Prop := ∀ t v, r.get t = some v → ∃ v', ren ρ v = some v' ∧ tmps[t]? = some v'

theorem RegRel.mono {ρ ρ' : Rn} {tmps : Array Value} {r : Tr Value} (h : RegRel ρ tmps r) (s : Sub ρ ρ') : RegRel ρ' tmps r :=
  fun t v e => let ⟨v', h1, h2⟩ := h t v e; ⟨v', ren_mono s _ _ h1, h2⟩

/-- A block here, and block c of the world from its cell s on, with x elements more. -/
def BlkRel (ρ : Rn) (w : World) (c s x : Nat) : Blk → Prop
  | .cells n t elem opn whole => ∃ C lo hi, w.heap[c]? = some (.cells C elem (lo, hi)) ∧ C.size = s + n + x * opn ∧ (opn = 0 → x = 0) ∧
      (∀ i, i < n → ∃ v v', t.get i = some v ∧ ren ρ v = some v' ∧ C[s + i]? = some v') ∧ (∀ i, i < C.size → ¬ (lo ≤ i ∧ i < hi)) ∧ (whole = true → hi ≤ lo) ∧ (opn = 0 → s = 0)
  | .ro n f => (x = 0 ∧ ∃ o, w.heap[c]? = some o) ∧ ∀ i, i < n → ∃ v', ren ρ (f i) = some v' ∧ w.cell? ⟨c, s + i, none⟩ = some v'
  | .map es k => ∃ es', w.heap[c]? = some (.map ⟨es'⟩ k) ∧ renEs ρ es = some es'
  | .loop st pend _ n r ps asg bo _ => ∃ tmps fn de, w.heap[c]? = some (.loop { state := st, pending := pend, fn := fn, tmps := tmps, params := ⟨ps⟩, assign := asg, body := bo, defers := de }) ∧ tmps.size = n ∧ RegRel ρ tmps r
  | .deferred ds => (ds = some [] → w.heap[c]? = some (.deferred (some []))) ∧ ∃ d, w.heap[c]? = some (.deferred d)
  | .dead => True

theorem BlkRel.mono {ρ ρ' : Rn} {w : World} {c s x : Nat} {b : Blk} (h : BlkRel ρ w c s x b) (k : Sub ρ ρ') : BlkRel ρ' w c s x b := by
  cases b with
  | cells n t e o wh =>
    obtain ⟨C, lo, hi, h1, h2, h3, h4, h5, h6⟩ := h
    exact ⟨C, lo, hi, h1, h2, h3, fun i hi => let ⟨v, v', a, b, c⟩ := h4 i hi; ⟨v, v', a, ren_mono k _ _ b, c⟩, h5, h6⟩
  | ro n f => exact ⟨h.1, fun i hi => let ⟨v', a, b⟩ := h.2 i hi; ⟨v', ren_mono k _ _ a, b⟩⟩
  | map es cl => obtain ⟨es', h1, h2⟩ := h; exact ⟨es', h1, renEs_mono k _ _ h2⟩
  | loop st pend fn n r ps asg bo de => obtain ⟨tm, f, d, h1, h2, h3⟩ := h; exact ⟨tm, f, d, h1, h2, h3.mono k⟩
  | deferred ds => exact h
  | dead => exact h

theorem cell_congr {w w' : World} {c o : Nat} (h : w'.heap[c]? = w.heap[c]?) : w'.cell? ⟨c, o, none⟩ = w.cell? ⟨c, o, none⟩ := by
  simp [World.cell?, h]

theorem BlkRel.congr {ρ : Rn} {w w' : World} {c s x : Nat} {b : Blk} (h : BlkRel ρ w c s x b) (k : w'.heap[c]? = w.heap[c]?) : BlkRel ρ w' c s x b := by
  cases b with
  | cells n t e o wh => simp only [BlkRel]; rw [k]; exact h
  | ro n f => exact ⟨⟨h.1.1, by rw [k]; exact h.1.2⟩, fun i hi => let ⟨v', a, b⟩ := h.2 i hi; ⟨v', a, by rw [cell_congr k]; exact b⟩⟩
  | map es cl => simp only [BlkRel]; rw [k]; exact h
  | loop st pend fn n r ps asg bo de => simp only [BlkRel]; rw [k]; exact h
  | deferred ds => simp only [BlkRel]; rw [k]; exact h
  | dead => trivial

def Blk.isRo : Blk → Bool
  | .ro .. => true
  | _ => false

structure WRel (ρ : Rn) (h : AH) (w : World) : Prop where
  low : ∀ b blk, h.b.get b = some blk → b < cap
  blk : ∀ b blk, h.b.get b = some blk → ∀ c s x, ρ b = some (c, s, x) → BlkRel ρ w c s x blk
  inj : ∀ b b' blk blk', h.b.get b = some blk → h.b.get b' = some blk' → blk.own = true → blk'.own = true → ∀ c s x s' x', ρ b = some (c, s, x) → ρ b' = some (c, s', x') → b = b'
  apart : ∀ b b' blk blk', h.b.get b = some blk → h.b.get b' = some blk' → blk.own = true → blk'.isRo = true → ∀ c s x s' x', ρ b = some (c, s, x) → ρ b' = some (c, s', x') → False

/-- Block c is no block of one's own. -/
def Free (ρ : Rn) (h : AH) (c : Nat) : Prop := ∀ b blk s x, h.b.get b = some blk → blk.own = true → ρ b ≠ some (c, s, x)

structure Step (ρ : Rn) (h : AH) (w : World) (ρ' : Rn) (h' : AH) (w' : World) : Prop where
  sub : Sub ρ ρ'
  dom : ∀ b, ρ b = none → (b < h.next ∨ h'.next ≤ b) → ρ' b = none
  nxt : h.next ≤ h'.next
  rel : WRel ρ' h' w'
  size : w.heap.size ≤ w'.heap.size
  os : w'.os = w.os
  tape : w'.tape = w.tape
  output : w'.output = w.output
  keep : ∀ c, c < w.heap.size → Free ρ h c → w'.heap[c]? = w.heap[c]?
  same : ∀ b, ρ b = none → b < h.next → h'.b.get b = h.b.get b
  img : ∀ b blk c s x, h'.b.get b = some blk → blk.own = true → ρ' b = some (c, s, x) → c < w.heap.size → ¬ Free ρ h c

/-- No renaming yet for the numbers that will be given out. -/
def Room (ρ : Rn) (a b : Nat) : Prop := ∀ i, a ≤ i → i < b → ρ i = none

theorem Step.refl {ρ : Rn} {h : AH} {w : World} (hr : WRel ρ h w) : Step ρ h w ρ h w :=
  ⟨Sub.refl _, fun _ e _ => e, Nat.le_refl _, hr, Nat.le_refl _, rfl, rfl, rfl, fun _ _ _ => rfl, fun _ _ _ => rfl, fun b blk c s x hb ho hc _ hf => hf b blk s x hb ho hc⟩

theorem Room.left {ρ : Rn} {a b c : Nat} (h : Room ρ a c) (hb : b ≤ c) : Room ρ a b := fun i h1 h2 => h i h1 (by omega)

theorem Step.room {ρ : Rn} {h : AH} {w : World} {ρ' : Rn} {h' : AH} {w' : World} (s : Step ρ h w ρ' h' w') {c : Nat} (r : Room ρ h.next c) : Room ρ' h'.next c :=
  fun i h1 h2 => s.dom i (r i (Nat.le_trans s.nxt h1) h2) (.inr h1)

theorem Step.trans {ρ : Rn} {h : AH} {w : World} {ρ' : Rn} {h' : AH} {w' : World} {ρ'' : Rn} {h'' : AH} {w'' : World} (a : Step ρ h w ρ' h' w') (b : Step ρ' h' w' ρ'' h'' w'') : Step ρ h w ρ'' h'' w'' := by
  have free : ∀ c, c < w.heap.size → Free ρ h c → Free ρ' h' c := fun c hc hf b0 blk s x h1 h2 h3 => a.img b0 blk c s x h1 h2 h3 hc hf
  refine ⟨a.sub.trans b.sub, fun i e hi => ?_, Nat.le_trans a.nxt b.nxt, b.rel, Nat.le_trans a.size b.size, b.os.trans a.os, b.tape.trans a.tape, b.output.trans a.output, fun c hc hf => ?_, fun i e hi => ?_, fun i blk c s x h1 h2 h3 hc hf => ?_⟩
  · rcases hi with hi | hi
    · exact b.dom i (a.dom i e (.inl hi)) (.inl (Nat.lt_of_lt_of_le hi a.nxt))
    · exact b.dom i (a.dom i e (.inr (Nat.le_trans b.nxt hi))) (.inr hi)
  · exact (b.keep c (Nat.lt_of_lt_of_le hc a.size) (free c hc hf)).trans (a.keep c hc hf)
  · exact (b.same i (a.dom i e (.inl hi)) (Nat.lt_of_lt_of_le hi a.nxt)).trans (a.same i e hi)
  · exact b.img i blk c s x h1 h2 h3 (Nat.lt_of_lt_of_le hc a.size) (free c hc hf)

/-- The relation asks of the memory here what its blocks are, no more. -/
theorem WRel.ext {ρ : Rn} {h h' : AH} {w : World} (r : WRel ρ h w) (e : ∀ b, h'.b.get b = h.b.get b) : WRel ρ h' w :=
  ⟨fun b blk hb => r.low b blk (by rw [← e]; exact hb), fun b blk hb => r.blk b blk (by rw [← e]; exact hb), fun b b' blk blk' h1 h2 => r.inj b b' blk blk' (by rw [← e]; exact h1) (by rw [← e]; exact h2), fun b b' blk blk' h1 h2 => r.apart b b' blk blk' (by rw [← e]; exact h1) (by rw [← e]; exact h2)⟩

/-- A block turned. -/
theorem Step.upd {ρ : Rn} {h : AH} {w w' : World} (hr : WRel ρ h w) {b : Nat} {blk0 blk1 : Blk} {c s x : Nat} (hb : h.b.get b = some blk0) (ho : blk0.own = true) (hc : ρ b = some (c, s, x)) (hcap : b < cap)
    (hro : blk1.isRo = false) (hk : BlkRel ρ w' c s x blk1) (hsz : w'.heap.size = w.heap.size) (hoth : ∀ k, k ≠ c → w'.heap[k]? = w.heap[k]?) (h1 : w'.os = w.os) (h2 : w'.tape = w.tape) (h3 : w'.output = w.output) :
    Step ρ h w ρ (h.upd b blk1) w' := by
  have hg : ∀ k, (h.upd b blk1).b.get k = if k = b then some blk1 else h.b.get k := fun k => Tr.get_put _ _ _ _ hcap
  refine ⟨Sub.refl _, fun _ e _ => e, Nat.le_refl _, ⟨fun k blk hk' => ?_, fun k blk hk' c' s' x' hc' => ?_, fun k k' blk blk' e1 e2 o1 o2 c' s' x' s'' x'' r1 r2 => ?_, fun k k' blk blk' e1 e2 o1 o2 c' s' x' s'' x'' r1 r2 => ?_⟩, Nat.le_of_eq hsz.symm, h1, h2, h3, fun k hk' hf => ?_, fun k e _ => ?_, fun k blk c' s' x' e1 o1 r1 hlt hf => ?_⟩
  · rw [hg] at hk'
    by_cases e : k = b
    · rw [e]; exact hcap
    · rw [if_neg e] at hk'; exact hr.low k blk hk'
  · rw [hg] at hk'
    by_cases e : k = b
    · subst e
      simp at hk'; subst hk'
      rw [hc] at hc'; cases hc'
      exact hk
    · rw [if_neg e] at hk'
      have hb' := hr.blk k blk hk' c' s' x' hc'
      cases hown : blk.own with
      | true =>
        refine hb'.congr (hoth _ ?_)
        intro ec; subst ec
        exact e (hr.inj k b blk blk0 hk' hb hown ho _ _ _ _ _ hc' hc)
      | false =>
        cases blk with
        | ro n f =>
          refine hb'.congr (hoth _ ?_)
          intro ec; subst ec
          exact hr.apart b k blk0 _ hb hk' ho rfl _ _ _ _ _ hc hc'
        | dead => trivial
        | _ => simp [Blk.own] at hown
  · have own' : ∀ j blkj, (h.upd b blk1).b.get j = some blkj → blkj.own = true → ∃ blkj0, h.b.get j = some blkj0 ∧ blkj0.own = true := fun j blkj ej oj => by
      rw [hg] at ej
      by_cases e : j = b
      · subst e; exact ⟨blk0, hb, ho⟩
      · rw [if_neg e] at ej; exact ⟨blkj, ej, oj⟩
    obtain ⟨a1, q1, p1⟩ := own' k blk e1 o1
    obtain ⟨a2, q2, p2⟩ := own' k' blk' e2 o2
    exact hr.inj k k' a1 a2 q1 q2 p1 p2 _ _ _ _ _ r1 r2
  · have q2 : h.b.get k' = some blk' := by
      rw [hg] at e2
      by_cases e : k' = b
      · rw [if_pos e] at e2; cases e2; rw [hro] at o2; cases o2
      · rwa [if_neg e] at e2
    rw [hg] at e1
    by_cases e : k = b
    · subst e; exact hr.apart k k' blk0 blk' hb q2 ho o2 _ _ _ _ _ r1 r2
    · rw [if_neg e] at e1; exact hr.apart k k' blk blk' e1 q2 o1 o2 _ _ _ _ _ r1 r2
  · refine hoth k ?_
    intro e; subst e
    exact hf b blk0 s x hb ho hc
  · rw [hg]
    by_cases e' : k = b
    · subst e'; rw [hc] at e; cases e
    · rw [if_neg e']
  · rw [hg] at e1
    by_cases e : k = b
    · subst e; exact hf k blk0 s' x' hb ho r1
    · rw [if_neg e] at e1; exact hf k blk s' x' e1 o1 r1

def Rn.ins (ρ : Rn) (b : Nat) (r : Nat × Nat × Nat) : Rn := fun i => if i = b then some r else ρ i

theorem Rn.sub_ins {ρ : Rn} {b : Nat} {r : Nat × Nat × Nat} (h : ρ b = none) : Sub ρ (ρ.ins b r) := fun i q e => by
  unfold Rn.ins
  by_cases hi : i = b
  · subst hi; rw [h] at e; cases e
  · rw [if_neg hi]; exact e

/-- A new block: in a new block of the world, or (dead) anywhere. -/
theorem Step.new {ρ : Rn} {h : AH} {w w' : World} (hr : WRel ρ h w) {blk : Blk} {c s x : Nat} (hn : ρ h.next = none) (hcap : h.next < cap)
    (hro : blk.isRo = false) (hk : BlkRel (ρ.ins h.next (c, s, x)) w' c s x blk) (hsz : w.heap.size ≤ w'.heap.size) (hnew : blk.own = true → w.heap.size ≤ c) (hoth : ∀ k, k < w.heap.size → w'.heap[k]? = w.heap[k]?) (h1 : w'.os = w.os) (h2 : w'.tape = w.tape) (h3 : w'.output = w.output) :
    Step ρ h w (ρ.ins h.next (c, s, x)) (h.new blk) w' := by
  have hg : ∀ k, (h.new blk).b.get k = if k = h.next then some blk else h.b.get k := fun k => Tr.get_put _ _ _ _ hcap
  have hsub : Sub ρ (ρ.ins h.next (c, s, x)) := Rn.sub_ins hn
  have hins : ∀ k r, k ≠ h.next → ρ.ins h.next (c, s, x) k = some r → ρ k = some r := fun k r e q => by unfold Rn.ins at q; rwa [if_neg e] at q
  have hself : ∀ r, ρ.ins h.next (c, s, x) h.next = some r → r = (c, s, x) := fun r q => by unfold Rn.ins at q; rw [if_pos rfl] at q; cases q; rfl
  -- what is mapped lies in the old world, if it holds anything
  have old : ∀ k blk', h.b.get k = some blk' → (blk'.own = true) → ∀ c' s' x', ρ k = some (c', s', x') → c' < w.heap.size := fun k blk' e o c' s' x' q => by
    have := hr.blk k blk' e c' s' x' q
    have some_lt : ∀ {o : Obj}, w.heap[c']? = some o → c' < w.heap.size := fun h => (Array.getElem?_eq_some_iff.1 h).1
    cases blk' with
    | cells n t e o wh => obtain ⟨C, lo, hi, h1, _⟩ := this; exact some_lt h1
    | map es cl => obtain ⟨es', h1, _⟩ := this; exact some_lt h1
    | loop st pend fn n r ps asg bo de => obtain ⟨tm, f, d, h1, _⟩ := this; exact some_lt h1
    | deferred ds => obtain ⟨_, d, h1⟩ := this; exact some_lt h1
    | ro n f => simp [Blk.own] at o
    | dead => simp [Blk.own] at o
  have roKeep : ∀ n f c' s' x', BlkRel ρ w c' s' x' (.ro n f) → BlkRel ρ w' c' s' x' (.ro n f) := fun n f c' s' x' q =>
    q.congr (hoth c' (by obtain ⟨_, o, ho⟩ := q.1; exact (Array.getElem?_eq_some_iff.1 ho).1))
  refine ⟨hsub, fun k e hk' => ?_, Nat.le_succ _, ⟨fun k blk' hk' => ?_, fun k blk' hk' c' s' x' hc' => ?_, fun k k' blk1 blk2 e1 e2 o1 o2 c' s' x' s'' x'' r1 r2 => ?_, fun k k' blk1 blk2 e1 e2 o1 o2 c' s' x' s'' x'' r1 r2 => ?_⟩, hsz, h1, h2, h3, fun k hk' hf => hoth k hk', fun k e hk' => ?_, fun k blk' c' s' x' e1 o1 r1 hlt hf => ?_⟩
  · unfold Rn.ins
    have : k ≠ h.next := by
      intro e'; subst e'
      have hs : (h.new blk).next = h.next + 1 := rfl
      rcases hk' with hk' | hk' <;> omega
    rw [if_neg this]; exact e
  · rw [hg] at hk'
    by_cases e : k = h.next
    · rw [e]; exact hcap
    · rw [if_neg e] at hk'; exact hr.low k blk' hk'
  · rw [hg] at hk'
    by_cases e : k = h.next
    · rw [if_pos e] at hk'; cases hk'
      subst e
      have := hself _ hc'; cases this
      exact hk
    · rw [if_neg e] at hk'
      have hc0 := hins _ _ e hc'
      have hb' := hr.blk k blk' hk' c' s' x' hc0
      cases hown : blk'.own with
      | true => exact (hb'.congr (hoth _ (old k blk' hk' hown _ _ _ hc0))).mono hsub
      | false =>
        cases blk' with
        | ro n f => exact (roKeep n f c' s' x' hb').mono hsub
        | dead => trivial
        | _ => simp [Blk.own] at hown
  · rw [hg] at e1 e2
    by_cases a1 : k = h.next
    · rw [if_pos a1] at e1; cases e1
      subst a1
      have q1 := hself _ r1
      by_cases a2 : k' = h.next
      · exact a2.symm
      · rw [if_neg a2] at e2
        have := old k' blk2 e2 o2 _ _ _ (hins _ _ a2 r2)
        have := hnew o1
        cases q1
        omega
    · rw [if_neg a1] at e1
      by_cases a2 : k' = h.next
      · rw [if_pos a2] at e2; cases e2
        subst a2
        have q2 := hself _ r2
        have := old k blk1 e1 o1 _ _ _ (hins _ _ a1 r1)
        have := hnew o2
        cases q2
        omega
      · rw [if_neg a2] at e2
        exact hr.inj k k' blk1 blk2 e1 e2 o1 o2 _ _ _ _ _ (hins _ _ a1 r1) (hins _ _ a2 r2)
  · rw [hg] at e1 e2
    have a2 : k' ≠ h.next := by
      intro e; rw [if_pos e] at e2; cases e2; rw [hro] at o2; cases o2
    rw [if_neg a2] at e2
    by_cases a1 : k = h.next
    · rw [if_pos a1] at e1; cases e1
      subst a1
      have q1 := hself _ r1
      have hlt : c' < w.heap.size := by
        have := hr.blk k' _ e2 _ _ _ (hins _ _ a2 r2)
        cases blk2 with
        | ro n f => obtain ⟨⟨_, o, ho⟩, _⟩ := this; exact (Array.getElem?_eq_some_iff.1 ho).1
        | _ => simp [Blk.isRo] at o2
      have := hnew o1
      cases q1
      omega
    · rw [if_neg a1] at e1
      exact hr.apart k k' blk1 blk2 e1 e2 o1 o2 _ _ _ _ _ (hins _ _ a1 r1) (hins _ _ a2 r2)
  · rw [hg, if_neg (by omega)]
  · rw [hg] at e1
    by_cases a1 : k = h.next
    · rw [if_pos a1] at e1; cases e1
      subst a1
      have q1 := hself _ r1
      have := hnew o1
      cases q1
      omega
    · rw [if_neg a1] at e1
      exact hf k blk' s' x' e1 o1 (hins _ _ a1 r1)

end Go.Ev
end
section
/- A deterministic evaluator of the model's code over a memory of its own: what its steps on memory are in the model. -/
namespace Go.Ev

structure Ok (E : Env) (P : Program) : Prop where
  tt : ∀ t i, E.tt.get t = some i → tinfoOf P t = some i
  order : P.follows .mixedOrders = true
  same : ∀ f, E.same f = true → ∀ (a : Option Addr) (w : World), (callFunc f #[.pointer a]).run P w = .ok (.value (.pointer a)) w

variable {E : Env} {P : Program}

theorem Ok.und (ok : Ok E P) {t : TypeId} {i : TInfo} (h : tInfo E t = some i) : P.underlying t = some i.und ∧ ∃ info, P.info? t = some info ∧ info.size = i.size ∧ info.bytes = i.bytes ∧ (∀ z, i.zero = some z → info.zero = some z ∧ plainZ z = true) ∧ skeyOf P t i.und = i.skey := by
  have := ok.tt t i h
  unfold tinfoOf at this
  cases hu : P.underlying t with
  | none => simp [hu] at this
  | some u => cases hi : P.info? t with
    | none => simp [hu, hi] at this
    | some info =>
      simp only [hu, hi, Option.some.injEq] at this
      subst this
      refine ⟨rfl, info, rfl, rfl, rfl, fun z hz => ?_, rfl⟩
      simp only [Option.bind_eq_some_iff] at hz
      obtain ⟨z', h1, h2⟩ := hz
      cases hp : plainZ z' with
      | true => simp [hp] at h2; subst h2; exact ⟨h1, hp⟩
      | false => simp [hp] at h2

theorem Ok.run_underlying (ok : Ok E P) {t : TypeId} {i : TInfo} (h : tInfo E t = some i) (w : World) : (underlying t).run P w = .ok i.und w :=
  Go.run_underlying (ok.und h).1 w

theorem Ok.run_typeInfo (ok : Ok E P) {t : TypeId} {i : TInfo} (h : tInfo E t = some i) (w : World) : ∃ info, (typeInfo t).run P w = .ok info w ∧ info.size = i.size ∧ info.bytes = i.bytes ∧ (∀ z, i.zero = some z → info.zero = some z ∧ plainZ z = true) := by
  obtain ⟨_, info, h1, h2, h3, h4, _⟩ := ok.und h
  exact ⟨info, by simp [typeInfo, h1], h2, h3, h4⟩

theorem Ok.run_sizeOf (ok : Ok E P) {t : TypeId} {i : TInfo} (h : tInfo E t = some i) (w : World) : (sizeOf t).run P w = .ok i.size w := by
  obtain ⟨info, h1, h2, _⟩ := ok.run_typeInfo h w
  simp [sizeOf, h1, h2]

theorem Ok.run_bytes (ok : Ok E P) {t : TypeId} {i : TInfo} (h : tInfo E t = some i) (w : World) : ((fun (x : TypeInfo) => x.bytes) <$> typeInfo t).run P w = .ok i.bytes w := by
  obtain ⟨info, h1, _, h2, _⟩ := ok.run_typeInfo h w
  simp [h1, h2]

theorem Ok.run_zero (ok : Ok E P) {t : TypeId} {i : TInfo} {z : Value} (h : tInfo E t = some i) (hz : i.zero = some z) (w : World) : (zeroValue t).run P w = .ok z w := by
  obtain ⟨info, h1, _, _, h2⟩ := ok.run_typeInfo h w
  simp [zeroValue, h1, (h2 z hz).1]

theorem Ok.run_isAgg (ok : Ok E P) {t : TypeId} {i : TInfo} (h : tInfo E t = some i) (w : World) : (isAgg t).run P w = .ok (isAggD i.und) w := by
  unfold isAgg isAggD
  simp only [Sem.run_bind, ok.run_underlying h, Result.andThen_ok]
  cases i.und <;> rfl

theorem oget_some {α β : Type} {x : Option α} {f : α → Option β} {b : β} : oget x f = some b ↔ ∃ a, x = some a ∧ f a = some b := by
  cases x <;> simp [oget]

theorem addr_add (c k n : Nat) : Addr.add ⟨c, k, none⟩ n = ⟨c, k + n, none⟩ := by
  unfold Addr.add
  by_cases h : n = 0
  · subst h; simp
  · simp [h]

theorem cell_lt {w : World} {c o : Nat} {v : Value} (h : w.cell? ⟨c, o, none⟩ = some v) : c < w.heap.size := by
  unfold World.cell? at h
  by_cases hc : c < w.heap.size
  · exact hc
  · simp [Array.getElem?_eq_none (Nat.le_of_not_lt hc)] at h

theorem bif_some {α : Type} {b : Bool} {x : Option α} {a : α} : (bif b then x else none) = some a ↔ b = true ∧ x = some a := by
  cases b <;> simp

/-- A block's cell is the world's. -/
theorem BlkRel.cell {ρ : Rn} {w : World} {c s x : Nat} {blk : Blk} (h : BlkRel ρ w c s x blk) {i : Nat} {v : Value} (e : blk.cell i = some v) : ∃ v', ren ρ v = some v' ∧ w.cell? ⟨c, s + i, none⟩ = some v' := by
  cases blk with
  | cells n t el o wh =>
    obtain ⟨C, lo, hi, h1, h2, h3, h4, h5, h6⟩ := h
    simp only [Blk.cell, bif_some] at e
    obtain ⟨hlt, e⟩ := e
    obtain ⟨u, u', e1, e2, e3⟩ := h4 i (of_blt hlt)
    rw [e1] at e; cases e
    exact ⟨u', e2, by simp [World.cell?, h1, e3]⟩
  | ro n f =>
    simp only [Blk.cell, bif_some] at e
    obtain ⟨hlt, e⟩ := e
    cases e
    exact h.2 i (of_blt hlt)
  | _ => simp [Blk.cell] at e

theorem getCells_spec {f : Nat → Option Value} : ∀ {n off : Nat} {vs : List Value}, getCells f off n = some vs → vs.length = n ∧ ∀ i v, vs[i]? = some v → f (off + i) = some v
  | 0, off, vs, h => by simp [getCells] at h; subst h; simp
  | n + 1, off, vs, h => by
    simp only [getCells] at h
    cases h0 : f off with
    | none => simp [h0] at h
    | some v => cases h1 : getCells f (off + 1) n with
      | none => simp [h0, h1] at h
      | some us =>
        simp [h0, h1] at h
        subst h
        obtain ⟨hl, hg⟩ := getCells_spec h1
        refine ⟨by simp [hl], fun i u hu => ?_⟩
        cases i with
        | zero => simp at hu; subst hu; simpa using h0
        | succ i => simp at hu; have := hg i u hu; rwa [show off + 1 + i = off + (i + 1) by omega] at this

theorem getCells_ok {f : Nat → Option Value} : ∀ {n off : Nat} (g : Nat → Value), (∀ i, i < n → f (off + i) = some (g i)) → getCells f off n = some ((List.range n).map g)
  | 0, off, g, _ => by simp [getCells]
  | n + 1, off, g, h => by
    have h0 := h 0 (by omega)
    have h1 := getCells_ok (n := n) (off := off + 1) (fun i => g (i + 1)) (fun i hi => by have := h (i + 1) (by omega); rwa [show off + (i + 1) = off + 1 + i by omega] at this)
    simp only [Nat.add_zero] at h0
    simp only [getCells, h0, h1, List.range_succ_eq_map, List.map_cons, List.map_map]
    rfl

/-- A row of cells is the world's. -/
theorem BlkRel.row {ρ : Rn} {w : World} {c s x : Nat} {blk : Blk} (h : BlkRel ρ w c s x blk) : ∀ {n off : Nat} {vs : List Value}, getCells blk.cell off n = some vs →
    ∃ vs', renL ρ vs = some vs' ∧ vs'.length = n ∧ ∀ i v', vs'[i]? = some v' → w.cell? ⟨c, s + off + i, none⟩ = some v'
  | 0, off, vs, e => by simp [getCells] at e; subst e; exact ⟨[], by simp [renL], by simp, by simp⟩
  | n + 1, off, vs, e => by
    simp only [getCells] at e
    cases h0 : blk.cell off with
    | none => simp [h0] at e
    | some v => cases h1 : getCells blk.cell (off + 1) n with
      | none => simp [h0, h1] at e
      | some us =>
        simp [h0, h1] at e
        subst e
        obtain ⟨v', hv, hc⟩ := h.cell h0
        obtain ⟨us', hu, hl, hg⟩ := h.row h1
        refine ⟨v' :: us', renL_cons.2 ⟨v', us', hv, hu, rfl⟩, by simp [hl], fun i u he => ?_⟩
        cases i with
        | zero => simp at he; subst he; simpa using hc
        | succ i => simp at he; have := hg i u he; rwa [show s + (off + 1) + i = s + off + (i + 1) by omega] at this

theorem run_row {w : World} {c k : Nat} {vs' : List Value} (h : ∀ i v', vs'[i]? = some v' → w.cell? ⟨c, k + i, none⟩ = some v') : (loadCells ⟨c, k, none⟩ vs'.length).run P w = .ok ⟨vs'⟩ w := by
  have := run_loadCells_list (P := P) w ⟨c, k, none⟩ vs' (fun j v e => by rw [addr_add]; exact h j v e)
  rw [this]

theorem run_row' {w : World} {c k n : Nat} {vs' : List Value} (hn : vs'.length = n) (h : ∀ i v', vs'[i]? = some v' → w.cell? ⟨c, k + i, none⟩ = some v') : (loadCells ⟨c, k, none⟩ n).run P w = .ok ⟨vs'⟩ w := by
  subst hn; exact run_row h

/-- The pointer's block. -/
theorem ren_ptr {ρ : Rn} {b off : Nat} {v' : Value} (h : ren ρ (.pointer (some ⟨b, off, none⟩)) = some v') : ∃ c s x, ρ b = some (c, s, x) ∧ v' = .pointer (some ⟨c, s + off, none⟩) := by
  simp only [ren, Rn.addr] at h
  cases hb : ρ b with
  | none => simp [hb] at h
  | some r => obtain ⟨c, s, x⟩ := r; simp [hb] at h; exact ⟨c, s, x, rfl, h.symm⟩

theorem ren_slice {ρ : Rn} {b off l k : Nat} {v' : Value} (h : ren ρ (.slice (some ⟨b, off, none⟩) l k) = some v') : ∃ c s x, ρ b = some (c, s, x) ∧ v' = .slice (some ⟨c, s + off, none⟩) l (k + x) := by
  simp only [ren] at h
  cases hb : ρ b with
  | none => simp [hb] at h
  | some r => obtain ⟨c, s, x⟩ := r; simp [hb] at h; exact ⟨c, s, x, rfl, h.symm⟩

theorem aLoad_sound (ok : Ok E P) {ρ : Rn} {h : AH} {w : World} (hr : WRel ρ h w) {t : TypeId} {a a' v : Value} (ha : ren ρ a = some a') (e : aLoad E t a h = some v) :
    ∃ v', ren ρ v = some v' ∧ (Instr.loadAt t a').run P w = .ok v' w := by
  unfold aLoad at e
  split at e
  · rename_i b off
    rw [oget_some] at e; obtain ⟨i, hi, e⟩ := e
    rw [oget_some] at e; obtain ⟨blk, hb, e⟩ := e
    obtain ⟨c, s, x, hρ, rfl⟩ := ren_ptr ha
    have hB := hr.blk b blk hb c s x hρ
    cases hag : isAggD i.und with
    | true =>
      rw [hag] at e
      obtain ⟨vs, hv, e⟩ := oget_some.1 (by simpa using e)
      cases e
      obtain ⟨vs', h1, h2, h3⟩ := hB.row hv
      refine ⟨.agg ⟨vs'⟩, ren_agg.2 ⟨vs', h1, rfl⟩, ?_⟩
      simp only [Instr.loadAt, Instr.sureAddr, loadVar, Sem.run_bind, Sem.run_pure, Result.andThen_ok, ok.run_isAgg hi, hag, if_true, ok.run_sizeOf hi, run_row' h2 h3]
    | false =>
      rw [hag] at e
      simp only [cond_false] at e
      obtain ⟨v', h1, h2⟩ := hB.cell e
      refine ⟨v', h1, ?_⟩
      simp only [Instr.loadAt, Instr.sureAddr, loadVar, Sem.run_bind, Sem.run_pure, Result.andThen_ok, ok.run_isAgg hi, hag, Bool.false_eq_true, if_false, run_load, h2]
  · cases e

/-! ### Stores -/
theorem plain_one {v : Value} (h : plainCell v = true) : v.oneCell' = true := by
  cases v <;> simp [plainCell] at h <;> rfl

/-- Two worlds that are one but for block c. -/
structure But (c : Nat) (w w' : World) : Prop where
  size : w'.heap.size = w.heap.size
  oth : ∀ k, k ≠ c → w'.heap[k]? = w.heap[k]?
  os : w'.os = w.os
  tape : w'.tape = w.tape
  output : w'.output = w.output

theorem But.refl (c : Nat) (w : World) : But c w w := ⟨rfl, fun _ _ => rfl, rfl, rfl, rfl⟩
theorem But.trans {c : Nat} {a b d : World} (h : But c a b) (k : But c b d) : But c a d :=
  ⟨k.size.trans h.size, fun i hi => (k.oth i hi).trans (h.oth i hi), k.os.trans h.os, k.tape.trans h.tape, k.output.trans h.output⟩

theorem setCell_but (w : World) (c k : Nat) (v : Value) : But c w (w.setCell ⟨c, k, none⟩ v) :=
  ⟨by simp [World.setCell], fun j hj => by simp only [World.setCell, Array.getElem?_modify]; rw [if_neg (fun e => hj e.symm)], rfl, rfl, rfl⟩

theorem setCell_at {w : World} {c k : Nat} {C : Array Value} {e : TypeId} {fr : Nat × Nat} (v : Value) (h : w.heap[c]? = some (.cells C e fr)) : (w.setCell ⟨c, k, none⟩ v).heap[c]? = some (.cells (C.setIfInBounds k v) e fr) := by
  simp [World.setCell, Array.getElem?_modify, h]

theorem run_storeCells {c k : Nat} {el : TypeId} {lo hi : Nat} : ∀ (vs : List Value) (i : Nat) (C : Array Value) (w : World), w.heap[c]? = some (.cells C el (lo, hi)) → k + i + vs.length ≤ C.size → (∀ j, j < C.size → ¬ (lo ≤ j ∧ j < hi)) → (∀ v ∈ vs, plainCell v = true) →
    ∃ w' C', (storeCells ⟨c, k, none⟩ vs i).run P w = .ok () w' ∧ w'.heap[c]? = some (.cells C' el (lo, hi)) ∧ C'.size = C.size ∧ (∀ j, C'[j]? = if k + i ≤ j ∧ j < k + i + vs.length then vs[j - (k + i)]? else C[j]?) ∧ But c w w'
  | [], i, C, w, h, _, _, _ => ⟨w, C, by simp [storeCells], h, rfl, fun j => by rw [if_neg (by simp only [List.length_nil]; omega)], But.refl _ _⟩
  | v :: vs, i, C, w, h, hl, hf, hp => by
    simp only [List.length_cons] at hl
    have hcell : (w.cell? ⟨c, k + i, none⟩) = some C[k + i] := by
      simp [World.cell?, h, Array.getElem?_eq_getElem (show k + i < C.size by omega)]
    have hfr : w.frozen? ⟨c, k + i, none⟩ = false := by
      have := hf (k + i) (by omega)
      simp only [World.frozen?, h]
      simpa using this
    have hs : (store (Addr.add ⟨c, k, none⟩ i) v).run P w = .ok () (w.setCell ⟨c, k + i, none⟩ v) := by
      rw [addr_add, run_store P w _ v _ (plain_one (hp v (by simp)))]
      simp [hcell, hfr]
    obtain ⟨w', C', h1, h2, h3, h4, h5⟩ := run_storeCells (c := c) (k := k) vs (i + 1) (C.setIfInBounds (k + i) v) (w.setCell ⟨c, k + i, none⟩ v) (setCell_at v h) (by simp; omega) (by simpa using hf) (fun u hu => hp u (by simp [hu]))
    refine ⟨w', C', ?_, h2, by simpa using h3, fun j => ?_, (setCell_but w c (k + i) v).trans h5⟩
    · simp only [storeCells, Sem.run_bind, hs, Result.andThen_ok, h1]
    · rw [h4 j]
      by_cases e : j = k + i
      · subst e
        rw [if_neg (by omega), if_pos (by simp only [List.length_cons]; omega)]
        simp [show k + i < C.size by omega]
      · by_cases hj : k + (i + 1) ≤ j ∧ j < k + (i + 1) + vs.length
        · rw [if_pos hj, if_pos (by simp only [List.length_cons]; omega)]
          rw [show j - (k + i) = j - (k + (i + 1)) + 1 by omega]
          simp
        · rw [if_neg hj, if_neg (by simp only [List.length_cons]; omega)]
          rw [Array.getElem?_setIfInBounds, if_neg (fun e' => e e'.symm)]

theorem putCells_get : ∀ (vs : List Value) (t : Tr Value) (off i : Nat), off + vs.length ≤ cap → (putCells t off vs).get i = if off ≤ i ∧ i < off + vs.length then vs[i - off]? else t.get i
  | [], t, off, i, _ => by simp [putCells]; omega
  | v :: vs, t, off, i, h => by
    simp only [List.length_cons] at h
    simp only [putCells]
    rw [putCells_get vs _ (off + 1) i (by omega), Tr.get_put _ _ _ _ (by omega)]
    by_cases e : i = off
    · subst e
      rw [if_neg (by omega), if_pos rfl, if_pos (by simp)]
      simp
    · by_cases hj : off + 1 ≤ i ∧ i < off + 1 + vs.length
      · rw [if_pos hj, if_pos (by simp; omega)]
        rw [show i - off = i - (off + 1) + 1 by omega]
        simp
      · rw [if_neg hj, if_neg e, if_neg (by simp; omega)]

theorem all_plain {ρ : Rn} : ∀ {vs vs' : List Value}, renL ρ vs = some vs' → vs.all plainCell = true → ∀ v ∈ vs', plainCell v = true
  | [], vs', h, _ => by rw [renL_nil.1 h]; simp
  | v :: vs, vs', h, hp => by
    obtain ⟨v', m, h1, h2, rfl⟩ := renL_cons.1 h
    simp at hp
    intro u hu
    rcases List.mem_cons.1 hu with rfl | hu
    · exact plainCell_ren h1 hp.1
    · exact all_plain h2 (by simpa using hp.2) u hu

theorem aWrite_sound {ρ : Rn} {h h' : AH} {w : World} (hr : WRel ρ h w) {b off : Nat} {vs vs' : List Value} (hv : renL ρ vs = some vs') {c s x : Nat} (hb : ρ b = some (c, s, x)) (hcap : b < cap) (e : aWrite h b off vs = some h') :
    ∃ w', (storeCells ⟨c, s + off, none⟩ vs').run P w = .ok () w' ∧ Step ρ h w ρ h' w' := by
  unfold aWrite at e
  split at e
  · rename_i n t el o wh hblk
    rw [bif_some] at e
    obtain ⟨hc, e⟩ := e
    cases e
    simp only [Bool.and_eq_true] at hc
    obtain ⟨⟨h1, h2⟩, h3⟩ := hc
    have h1 := of_ble h1
    have h3 := of_blt h3
    have hB := hr.blk b _ hblk c s x hb
    obtain ⟨C, lo, hi, b1, b2, b3, b4, b5, b6⟩ := hB
    have hlen := renL_length hv
    obtain ⟨w', C', g1, g2, g3, g4, g5⟩ := run_storeCells (P := P) (c := c) (k := s + off) vs' 0 C w b1 (by omega) b5 (all_plain hv h2)
    refine ⟨w', g1, Step.upd hr hblk rfl hb hcap rfl ?_ g5.size g5.oth g5.os g5.tape g5.output⟩
    refine ⟨C', lo, hi, g2, by omega, b3, fun i hi' => ?_, fun i hi' => b5 i (by omega), b6⟩
    rw [putCells_get _ _ _ _ (by unfold cap at *; omega), g4]
    by_cases hj : off ≤ i ∧ i < off + vs.length
    · rw [if_pos hj, if_pos (by omega)]
      have hlt : i - off < vs.length := by omega
      obtain ⟨u', e1, e2⟩ := renL_get hv (i - off) vs[i - off] (List.getElem?_eq_getElem hlt)
      exact ⟨_, u', List.getElem?_eq_getElem hlt, e1, by rw [show s + i - (s + off + 0) = i - off by omega]; exact e2⟩
    · rw [if_neg hj, if_neg (by omega)]
      exact b4 i hi'
  · cases e

theorem aStore_sound (ok : Ok E P) {ρ : Rn} {h h' : AH} {w : World} (hr : WRel ρ h w) {t : TypeId} {a a' v v' : Value} (ha : ren ρ a = some a') (hv : ren ρ v = some v') (e : aStore E t a v h = some h') :
    ∃ w', (Instr.storeAt t a' v').run P w = .ok () w' ∧ Step ρ h w ρ h' w' := by
  unfold aStore at e
  split at e
  · rename_i b off
    rw [oget_some] at e; obtain ⟨i, hi, e⟩ := e
    rw [bif_some] at e
    obtain ⟨hsz, e⟩ := e
    obtain ⟨c, s, x, hρ, rfl⟩ := ren_ptr ha
    have hcs := ren_cells hv
    have hbcap : b < cap := by
      unfold aWrite at e
      split at e
      · rename_i hblk; exact hr.low b _ hblk
      · cases e
    obtain ⟨w', g1, g2⟩ := aWrite_sound (P := P) hr hcs hρ hbcap e
    refine ⟨w', ?_, g2⟩
    have hlen : v'.cells.size = i.size := by
      have := renL_length hcs
      rw [Array.length_toList] at this
      rw [this]; exact of_beq hsz
    simp only [Instr.storeAt, Instr.sureAddr, storeVar, Sem.run_bind, Sem.run_pure, Result.andThen_ok, ok.run_sizeOf hi, hlen, ne_eq, not_true_eq_false, if_false, g1]
  · cases e

end Go.Ev
end
section
/- A deterministic evaluator of the model's code over a memory of its own: its operations are the model's, one by one. -/
namespace Go.Ev
variable {E : Env} {P : Program}

/-- What a computation of the model comes to, seen from here. -/
def Good (P : Program) (ρ : Rn) (h : AH) (w : World) (s : Sem Value) (v : Value) (h' : AH) : Prop :=
  ∃ ρ' w' v', Step ρ h w ρ' h' w' ∧ ren ρ' v = some v' ∧ s.run P w = .ok v' w'

theorem Good.same {ρ : Rn} {h : AH} {w : World} {s : Sem Value} {v v' : Value} (hr : WRel ρ h w) (hv : ren ρ v = some v') (hs : s.run P w = .ok v' w) : Good P ρ h w s v h :=
  ⟨ρ, w, v', Step.refl hr, hv, hs⟩

mutual
theorem plainZ_ren (ρ : Rn) : ∀ (v : Value), plainZ v = true → ren ρ v = some v
  | .bool _, _ => by simp [ren]
  | .int _ _, _ => by simp [ren]
  | .float _ _, h => by simp [plainZ] at h
  | .complex _ _ _, h => by simp [plainZ] at h
  | .string _, _ => by simp [ren]
  | .pointer none, _ => by simp [ren]
  | .pointer (some _), h => by simp [plainZ] at h
  | .slice none _ _, _ => by simp [ren]
  | .slice (some _) _ _, h => by simp [plainZ] at h
  | .map none, _ => by simp [ren]
  | .map (some _), h => by simp [plainZ] at h
  | .chan _, h => by simp [plainZ] at h
  | .func _ _ _, h => by simp [plainZ] at h
  | .nilFunc, _ => by simp [ren]
  | .iface t v, h => by simp [plainZ] at h; simp [ren, plainZ_ren ρ v h]
  | .nilIface, _ => by simp [ren]
  | .agg a, h => by simp [plainZ] at h; simp [ren, plainA_ren ρ a h]
  | .tuple _, h => by simp [plainZ] at h
theorem plainA_ren (ρ : Rn) : ∀ (a : Array Value), plainA a = true → renA ρ a = some a
  | ⟨l⟩, h => by simp [plainA] at h; simp [renA, plainL_ren ρ l h]
theorem plainL_ren (ρ : Rn) : ∀ (l : List Value), plainL l = true → renL ρ l = some l
  | [], _ => by simp [renL]
  | v :: l, h => by simp [plainL] at h; simp [renL, plainZ_ren ρ v h.1, plainL_ren ρ l h.2]
end

theorem Ok.zero (ok : Ok E P) {t : TypeId} {i : TInfo} {z : Value} (h : tInfo E t = some i) (hz : i.zero = some z) (ρ : Rn) : ren ρ z = some z := by
  obtain ⟨_, info, _, _, _, h4, _⟩ := ok.und h
  exact plainZ_ren ρ z (h4 z hz).2

theorem ins_self (ρ : Rn) (b : Nat) (r : Nat × Nat × Nat) : (ρ.ins b r) b = some r := by simp [Rn.ins]

/-- A new row of cells. -/
theorem Step.newCells {ρ : Rn} {h : AH} {w : World} (hr : WRel ρ h w) {cs cs' : List Value} (hv : renL ρ cs = some cs') (hcap : h.next < cap) (hn : ρ h.next = none)
    (ex : List Value) (opn x : Nat) (hx : ex.length = x * opn) (h0 : opn = 0 → x = 0) (t : TypeId) {w' : World} (hw : w'.heap = w.heap.push (.cells ⟨cs' ++ ex⟩ t (0, 0))) (q1 : w'.os = w.os) (q2 : w'.tape = w.tape) (q3 : w'.output = w.output)
    {n : Nat} (hnl : n = cs.length) (tr : Tr Value) (htr : ∀ i, i < n → tr.get i = cs[i]?) (wh : Bool := true) :
    Step ρ h w (ρ.ins h.next (w.heap.size, 0, x)) (h.new (.cells n tr t opn wh)) w' := by
  subst hnl
  have hsub : Sub ρ (ρ.ins h.next (w.heap.size, 0, x)) := Rn.sub_ins hn
  have hl := renL_length hv
  refine Step.new hr hn hcap rfl ?_ (by simp [hw]) (fun _ => Nat.le_refl _) (fun k hk => by simp [hw, Array.getElem?_push, Nat.ne_of_lt hk]) q1 q2 q3
  refine ⟨⟨cs' ++ ex⟩, 0, 0, by simp [hw], by simp [hl, hx], h0, fun i hi => ?_, by simp, by simp⟩
  obtain ⟨u', e1, e2⟩ := renL_get hv i cs[i] (List.getElem?_eq_getElem hi)
  refine ⟨cs[i], u', ?_, ren_mono hsub _ _ e1, ?_⟩
  · rw [htr i hi]
    simp [List.getElem?_eq_getElem hi]
  · simp only [Nat.zero_add, List.getElem?_toArray]
    rw [List.getElem?_append_left (by omega)]
    exact e2

theorem putNil_get {cs : List Value} (hl : cs.length < cap) (i : Nat) (hi : i < cs.length) : (putCells .nil 0 cs).get i = cs[i]? := by
  rw [putCells_get _ _ _ _ (by omega), if_pos (by omega)]
  simp

theorem run_newRow (t : TypeId) (cs : Array Value) (w : World) : (newRow t cs).run P w = .ok ⟨w.heap.size, 0, none⟩ { w with heap := w.heap.push (.cells cs t (0, 0)) } := by
  simp [newRow]

theorem aNewCells_sound {ρ : Rn} {h h' : AH} {w : World} (hr : WRel ρ h w) {cs cs' : List Value} (hv : renL ρ cs = some cs') {t : TypeId} {v : Value} (e : aNewCells h cs t = some (v, h')) (room : Room ρ h.next h'.next) :
    Good P ρ h w (do pure (.pointer (some (← newRow t ⟨cs'⟩)))) v h' := by
  unfold aNewCells at e
  rw [bif_some] at e
  obtain ⟨hc, e⟩ := e
  simp only [Bool.and_eq_true] at hc
  cases e
  have hn : ρ h.next = none := room _ (Nat.le_refl _) (Nat.lt_succ_self _)
  refine ⟨_, _, .pointer (some ⟨w.heap.size, 0, none⟩), Step.newCells hr hv (of_blt hc.1.2) hn [] 0 0 (by simp) (fun _ => rfl) t (w' := { w with heap := w.heap.push (.cells ⟨cs'⟩ t (0, 0)) }) (by simp) rfl rfl rfl rfl _ (putNil_get (of_blt hc.2)), ?_, ?_⟩
  · simp [ren, Rn.addr, ins_self]
  · simp [run_newRow]

theorem aAlloc_sound (ok : Ok E P) {ρ : Rn} {h h' : AH} {w : World} (hr : WRel ρ h w) {t : TypeId} {v : Value} (e : aAlloc E t h = some (v, h')) (room : Room ρ h.next h'.next) :
    Good P ρ h w (Instr.alloc t true (.tuple #[])) v h' := by
  unfold aAlloc at e
  rw [oget_some] at e; obtain ⟨i, hi, e⟩ := e
  rw [oget_some] at e; obtain ⟨z, hz, e⟩ := e
  have hzr := ren_cells (ok.zero hi hz ρ)
  obtain ⟨ρ', w', v', h1, h2, h3⟩ := aNewCells_sound (P := P) hr hzr e room
  refine ⟨ρ', w', v', h1, h2, ?_⟩
  simp only [Instr.alloc, Sem.run_bind, ok.run_zero hi hz, Result.andThen_ok, newVar] at h3 ⊢
  exact h3

theorem aBox_sound {ρ : Rn} {h h' : AH} {w : World} (hr : WRel ρ h w) {t : TypeId} {x x' v : Value} (hx : ren ρ x = some x') (e : aNewCells h x.cells.toList t = some (v, h')) (room : Room ρ h.next h'.next) :
    Good P ρ h w (Instr.box t x') v h' := by
  have := aNewCells_sound (P := P) hr (ren_cells hx) e room
  exact this

/-! ### Parts of structs and arrays -/
theorem partV_sound (ok : Ok E P) {ρ : Rn} {w : World} {t : TypeId} {cs cs' : List Value} {off : Nat} {v : Value} (hc : renL ρ cs = some cs') (e : partV E t cs off = some v) :
    ∃ v', ren ρ v = some v' ∧ (part t ⟨cs'⟩ off).run P w = .ok v' w := by
  unfold partV at e
  rw [oget_some] at e; obtain ⟨i, hi, e⟩ := e
  cases hag : isAggD i.und with
  | true =>
    rw [hag] at e
    simp only [cond_true, bif_some, Option.some.injEq] at e
    obtain ⟨hle, e⟩ := e
    subst e
    refine ⟨.agg ⟨(cs'.drop off).take i.size⟩, ren_agg.2 ⟨_, renL_take _ (renL_drop _ hc), rfl⟩, ?_⟩
    simp only [part, Sem.run_bind, ok.run_isAgg hi, hag, Result.andThen_ok, if_true, ok.run_sizeOf hi, Sem.run_pure]
    congr 2
    apply Array.ext'
    simp [List.extract_eq_take_drop]
  | false =>
    rw [hag] at e
    simp only [cond_false] at e
    obtain ⟨v', h1, h2⟩ := renL_get hc _ _ e
    refine ⟨v', h1, ?_⟩
    simp only [part, Sem.run_bind, ok.run_isAgg hi, hag, Result.andThen_ok, Bool.false_eq_true, if_false]
    simp [h2]

theorem aField_sound (ok : Ok E P) {ρ : Rn} {w : World} {t : TypeId} {x x' v : Value} {f : Nat} (hx : ren ρ x = some x') (e : aField E t x f = some v) :
    ∃ v', ren ρ v = some v' ∧ (Instr.field t x' f).run P w = .ok v' w := by
  unfold aField at e
  rw [oget_some] at e; obtain ⟨i, hi, e⟩ := e
  split at e
  · rename_i fs cs hu
    rw [oget_some] at e; obtain ⟨fd, hf, e⟩ := e
    obtain ⟨cs', hc, rfl⟩ := ren_agg.1 hx
    obtain ⟨v', h1, h2⟩ := partV_sound ok (w := w) hc e
    refine ⟨v', h1, ?_⟩
    rw [Array.getElem?_toList] at hf
    simp only [Instr.field, Sem.run_bind, ok.run_underlying hi, hu, Result.andThen_ok, hf, asAgg, Sem.run_pure, h2]
  · cases e

theorem aFieldAddr_sound (ok : Ok E P) {ρ : Rn} {w : World} {t : TypeId} {x x' v : Value} {f : Nat} (hx : ren ρ x = some x') (e : aFieldAddr E t x f = some v) :
    ∃ v', ren ρ v = some v' ∧ (Instr.fieldAt t x' f).run P w = .ok v' w := by
  unfold aFieldAddr at e
  rw [oget_some] at e; obtain ⟨i, hi, e⟩ := e
  split at e
  · rename_i fs b off hu
    rw [oget_some] at e; obtain ⟨fd, hf, e⟩ := e
    rw [oget_some] at e; obtain ⟨fi, hfi, e⟩ := e
    cases hz : fi.size.beq 0 with
    | true => simp [hz] at e
    | false =>
      simp [hz] at e
      subst e
      obtain ⟨c, s, x, hρ, rfl⟩ := ren_ptr hx
      refine ⟨.pointer (some ⟨c, s + off + fd.offset, none⟩), by simp [ren, Rn.addr, hρ, Nat.add_assoc], ?_⟩
      rw [Array.getElem?_toList] at hf
      simp only [Instr.fieldAt, Sem.run_bind, ok.run_underlying hi, hu, Result.andThen_ok, hf, Instr.sureAddr, Sem.run_pure, fieldPlace, ok.run_sizeOf hfi, of_beqF hz, if_false, addr_add]
  · cases e

theorem aIndexAddr_sound (ok : Ok E P) {ρ : Rn} {w : World} {t : TypeId} {x x' ix ix' v : Value} (hx : ren ρ x = some x') (hix : ren ρ ix = some ix') (e : aIndexAddr E t x ix = some v) :
    ∃ v', ren ρ v = some v' ∧ (Instr.indexAt t x' ix').run P w = .ok v' w := by
  unfold aIndexAddr at e
  rw [oget_some] at e; obtain ⟨i, hi, e⟩ := e
  split at e
  · rename_i el b off len cp k j hu
    rw [oget_some] at e; obtain ⟨ei, hei, e⟩ := e
    simp only [bif_some, Bool.and_eq_true, decide_eq_true_eq, Option.some.injEq] at e
    obtain ⟨⟨h0, h1⟩, e⟩ := e
    subst e
    obtain ⟨c, s, x, hρ, rfl⟩ := ren_slice hx
    simp [ren] at hix; subst hix
    refine ⟨.pointer (some ⟨c, s + off + j.toNat * ei.size, none⟩), by simp [ren, Rn.addr, hρ, Nat.add_assoc], ?_⟩
    simp only [Instr.indexAt, asIntOf, Sem.run_bind, Sem.run_pure, Result.andThen_ok, ok.run_underlying hi, hu, h0, h1, and_self, if_true, ok.run_sizeOf hei, addr_add]
  · rename_i len el b off k j hu
    rw [oget_some] at e; obtain ⟨ei, hei, e⟩ := e
    simp only [bif_some, Bool.and_eq_true, decide_eq_true_eq, Option.some.injEq] at e
    obtain ⟨⟨h0, h1⟩, e⟩ := e
    subst e
    obtain ⟨c, s, x, hρ, rfl⟩ := ren_ptr hx
    simp [ren] at hix; subst hix
    refine ⟨.pointer (some ⟨c, s + off + j.toNat * ei.size, none⟩), by simp [ren, Rn.addr, hρ, Nat.add_assoc], ?_⟩
    simp only [Instr.indexAt, asIntOf, Sem.run_bind, Sem.run_pure, Result.andThen_ok, ok.run_underlying hi, hu, Instr.sureAddr, h0, h1, and_self, if_true, ok.run_sizeOf hei, addr_add]
  · cases e

theorem aIndex_sound (ok : Ok E P) {ρ : Rn} {w : World} {t : TypeId} {x x' ix ix' v : Value} (hx : ren ρ x = some x') (hix : ren ρ ix = some ix') (e : aIndex E t x ix = some v) :
    ∃ v', ren ρ v = some v' ∧ (Instr.index t x' ix').run P w = .ok v' w := by
  unfold aIndex at e
  rw [oget_some] at e; obtain ⟨i, hi, e⟩ := e
  split at e
  · rename_i len el cs k j hu
    rw [oget_some] at e; obtain ⟨ei, hei, e⟩ := e
    simp only [bif_some, Bool.and_eq_true, decide_eq_true_eq] at e
    obtain ⟨⟨h0, h1⟩, e⟩ := e
    obtain ⟨cs', hc, rfl⟩ := ren_agg.1 hx
    simp [ren] at hix; subst hix
    obtain ⟨v', g1, g2⟩ := partV_sound ok (w := w) hc e
    refine ⟨v', g1, ?_⟩
    simp only [Instr.index, asIntOf, Sem.run_bind, Sem.run_pure, Result.andThen_ok, ok.run_underlying hi, hu, h0, h1, and_self, if_true, ok.run_sizeOf hei, g2]
  · rename_i s k j hu
    simp only [bif_some, decide_eq_true_eq] at e
    obtain ⟨h0, e⟩ := e
    simp [ren] at hx hix; subst hx; subst hix
    split at e
    · rename_i b hb
      cases e
      refine ⟨.int .u8 b.toNat, by simp [ren], ?_⟩
      have hb' : s[j.toNat]? = some b := by
        rw [← hb]
        by_cases hlt : j.toNat < s.size
        · rw [getElem?_pos s j.toNat hlt, List.getElem?_eq_getElem (by simpa using hlt)]
          rfl
        · rw [getElem?_neg s j.toNat hlt, List.getElem?_eq_none (by simpa using Nat.le_of_not_lt hlt)]
      simp only [Instr.index, asIntOf, Sem.run_bind, Sem.run_pure, Result.andThen_ok, ok.run_underlying hi, hu, h0, if_true, hb']
    · cases e
  · cases e

end Go.Ev
end
section
/- A deterministic evaluator of the model's code over a memory of its own: slices, append, copy. -/
namespace Go.Ev
variable {E : Env} {P : Program}

def RelO (ρ : Rn) : Option Value → Option Value → Prop
  | none, none => True
  | some v, some v' => ren ρ v = some v'
  | _, _ => False

theorem bound_run {ρ : Rn} {lo lo' : Option Value} {d l y : Nat} {code : BoundsCode} (hr : RelO ρ lo lo') (e : bound? lo d = some l) (hy : l ≤ y) (w : World) :
    (match lo' with | some v => Instr.sliceBound v y code | none => (pure d : Sem Nat)).run P w = .ok l w := by
  cases lo with
  | none => cases lo' with
    | none => simp [bound?] at e; subst e; rfl
    | some _ => exact hr.elim
  | some v => cases lo' with
    | none => exact hr.elim
    | some v' =>
      cases v with
      | int k i =>
        simp only [bound?] at e
        rw [bif_some] at e
        obtain ⟨h0, e⟩ := e
        have h0 := of_decide_eq_true h0
        cases e
        have : v' = .int k i := by simp [RelO, ren] at hr; exact hr.symm
        subst this
        have h1 : i ≤ (y : Int) := by omega
        simp [Instr.sliceBound, asIntOf, h0, h1]
      | _ => simp [bound?] at e

theorem run_sliceBounds {ρ : Rn} {lo lo' hi hi' : Option Value} {b : Bool} {len cp l u : Nat} (hl : RelO ρ lo lo') (hh : RelO ρ hi hi') (el : bound? lo 0 = some l) (eu : bound? hi len = some u) (h1 : l ≤ u) (h2 : u ≤ cp) (w : World) :
    (Instr.sliceBounds b len cp lo' hi' none).run P w = .ok (l, u, cp) w := by
  unfold Instr.sliceBounds
  have a1 := bound_run (P := P) (code := if b then .sliceAcap else .sliceAlen) hh eu h2 w
  have a2 := bound_run (P := P) (code := .sliceB) hl el h1 w
  cases hi' with
  | none =>
    cases lo' with
    | none => simp at a1 a2; simp [a1, a2]
    | some v => simp at a1; simp [a1]; simp at a2; simp [a2]
  | some v =>
    simp at a1
    cases lo' with
    | none => simp at a2; simp [a1, a2]
    | some v => simp at a2; simp [a1, a2]

theorem data_extract (s : ByteArray) (l u : Nat) : s.extract l u = ⟨⟨(s.data.toList.drop l).take (u - l)⟩⟩ := by
  apply ByteArray.ext
  rw [ByteArray.data_extract]
  apply Array.ext'
  simp [List.extract_eq_take_drop]

theorem aSlice_sound (ok : Ok E P) {ρ : Rn} {h h' : AH} {w : World} (hr : WRel ρ h w) {t : TypeId} {x x' v : Value} {lo lo' hi hi' : Option Value} (hx : ren ρ x = some x') (hl : RelO ρ lo lo') (hh : RelO ρ hi hi')
    (e : aSlice E t x lo hi h = some (v, h')) (room : Room ρ h.next h'.next) : Good P ρ h w (Instr.sliceAt t x' lo' hi' none) v h' := by
  unfold aSlice at e
  rw [oget_some] at e; obtain ⟨i, hi0, e⟩ := e
  split at e
  · -- a string
    rename_i s hu
    rw [oget_some] at e; obtain ⟨l, el, e⟩ := e
    rw [oget_some] at e; obtain ⟨u, eu, e⟩ := e
    simp only [bif_some, Bool.and_eq_true, Option.some.injEq, Prod.mk.injEq] at e
    obtain ⟨⟨h1, h2⟩, rfl, rfl⟩ := e
    simp [ren] at hx; subst hx
    refine Good.same hr (v' := .string ⟨⟨(s.data.toList.drop l).take (u - l)⟩⟩) (by simp [ren]) ?_
    have := run_sliceBounds (P := P) (b := false) hl hh el (by rw [Array.length_toList] at eu; exact eu) (of_ble h1) (cp := s.size) (by have := of_ble h2; simpa using this) w
    simp only [Instr.sliceAt, Sem.run_bind, ok.run_underlying hi0, hu, Result.andThen_ok, Instr.slice, Option.isSome_none, Bool.false_eq_true, if_false, Sem.run_pure]
    rw [show s.data.size = s.size from rfl] at this
    simp only [this, Result.andThen_ok, data_extract]
  · -- a slice
    rename_i el a len cp hu
    rw [oget_some] at e; obtain ⟨ei, hei, e⟩ := e
    rw [oget_some] at e; obtain ⟨l, el', e⟩ := e
    rw [oget_some] at e; obtain ⟨u, eu, e⟩ := e
    rw [bif_some] at e
    obtain ⟨hc, e⟩ := e
    simp only [Bool.and_eq_true] at hc
    have h1 := of_ble hc.1
    have h2 := of_ble hc.2
    have run : ∀ (a' : Option Addr) (cp' : Nat), cp ≤ cp' → (Instr.sliceAt t (.slice a' len cp') lo' hi' none).run P w = .ok (.slice (if cp' = l then a' else a'.map (·.add (l * ei.size))) (u - l) (cp' - l)) w := by
      intro a' cp' hcp
      have := run_sliceBounds (P := P) (b := true) hl hh el' eu h1 (cp := cp') (by omega) w
      simp only [Instr.sliceAt, Sem.run_bind, ok.run_underlying hi0, hu, Result.andThen_ok, Instr.slice, this, ok.run_sizeOf hei, Sem.run_pure]
    split at e
    · cases e
      simp [ren] at hx; subst hx
      exact Good.same hr (v' := .slice none (u - l) (cp - l)) (by simp [ren]) (by rw [run none cp (Nat.le_refl _)]; simp)
    · rename_i b off
      obtain ⟨c, s, x0, hρ, rfl⟩ := ren_slice hx
      cases hl0 : l.beq 0 with
      | true =>
        simp only [hl0, cond_true, Option.some.injEq, Prod.mk.injEq] at e
        obtain ⟨rfl, rfl⟩ := e
        have hl0' := of_beq hl0
        subst hl0'
        refine Good.same hr (v' := .slice (some ⟨c, s + off, none⟩) u (cp + x0)) (by simp [ren, hρ]) ?_
        rw [run _ _ (Nat.le_add_right _ _)]
        by_cases hz : cp + x0 = 0
        · simp [hz]
        · simp [Ne.symm hz, hz, Addr.add]
      | false =>
      simp only [hl0, cond_false] at e
      split at e
      · rename_i n ct et opn wh hblk
        have hB := hr.blk b _ hblk c s x0 hρ
        obtain ⟨C, lo0, hi0', b1, b2, b3, b4, b5, b6⟩ := hB
        cases ho : opn.beq 0 with
        | true =>
          simp only [ho, cond_true, Option.some.injEq, Prod.mk.injEq] at e
          obtain ⟨rfl, rfl⟩ := e
          have hx0 := b3 (of_beq ho)
          subst hx0
          refine Good.same hr (v' := .slice (if cp = l then some ⟨c, s + off, none⟩ else (some ⟨c, s + off, none⟩ : Option Addr).map (·.add (l * ei.size))) (u - l) (cp - l)) ?_ (run _ _ (Nat.le_refl _))
          by_cases hcl : cp = l
          · simp [ren, hρ, hcl]
          · simp [ren, hρ, beqF hcl, hcl, addr_add, Nat.add_assoc]
        | false =>
          simp only [ho, cond_false] at e
          cases hcl : cp.beq l with
          | true =>
            simp only [hcl, cond_true, bif_some, Option.some.injEq, Prod.mk.injEq] at e
            obtain ⟨hcap, rfl, rfl⟩ := e
            have hcl' := of_beq hcl
            have hn : ρ h.next = none := room _ (Nat.le_refl _) (Nat.lt_succ_self _)
            refine ⟨ρ.ins h.next (c, (if x0 = 0 then s + off else s + off + l * ei.size), x0), w, .slice (if x0 = 0 then some ⟨c, s + off, none⟩ else some ⟨c, s + off + l * ei.size, none⟩) 0 x0,
              Step.new hr hn (of_blt hcap) rfl trivial (Nat.le_refl _) (by simp [Blk.own]) (fun _ _ => rfl) rfl rfl rfl, ?_, ?_⟩
            · by_cases hx0 : x0 = 0
              · simp [ren, ins_self, hx0]
              · simp [ren, ins_self, hx0]
            · rw [run _ _ (Nat.le_add_right _ _)]
              have hul : u = l := by omega
              by_cases hx0 : x0 = 0
              · simp [hx0, hcl', hul]
              · simp [hx0, hcl', hul, addr_add]
          | false =>
            simp only [hcl, cond_false, Option.some.injEq, Prod.mk.injEq] at e
            obtain ⟨rfl, rfl⟩ := e
            have hne := of_beqF hcl
            refine Good.same hr (v' := .slice (some ⟨c, s + off + l * ei.size, none⟩) (u - l) (cp + x0 - l)) ?_ ?_
            · simp [ren, hρ, Nat.add_assoc]; omega
            · rw [run _ _ (Nat.le_add_right _ _), if_neg (by omega)]
              simp [addr_add]
      · rename_i n f hblk
        simp only [Option.some.injEq, Prod.mk.injEq] at e
        obtain ⟨rfl, rfl⟩ := e
        have hB := hr.blk b _ hblk c s x0 hρ
        have hx0 := hB.1.1
        subst hx0
        refine Good.same hr (v' := .slice (if cp = l then some ⟨c, s + off, none⟩ else (some ⟨c, s + off, none⟩ : Option Addr).map (·.add (l * ei.size))) (u - l) (cp - l)) ?_ (run _ _ (Nat.le_refl _))
        by_cases hcl : cp = l
        · simp [ren, hρ, hcl]
        · simp [ren, hρ, beqF hcl, hcl, addr_add, Nat.add_assoc]
      · cases e
    · cases e
  · -- a pointer to an array
    rename_i arr b off hu
    rw [oget_some] at e; obtain ⟨ai, hai, e⟩ := e
    split at e
    · rename_i n el m ct et opn wh hau hblk
      rw [oget_some] at e; obtain ⟨ei, hei, e⟩ := e
      rw [oget_some] at e; obtain ⟨l, el', e⟩ := e
      rw [oget_some] at e; obtain ⟨u, eu, e⟩ := e
      simp only [bif_some, Bool.and_eq_true, Option.some.injEq, Prod.mk.injEq] at e
      obtain ⟨⟨⟨h1, h2⟩, h3⟩, rfl, rfl⟩ := e
      obtain ⟨c, s, x0, hρ, rfl⟩ := ren_ptr hx
      obtain ⟨C, lo0, hi0', b1, b2, b3, _⟩ := hr.blk b _ hblk c s x0 hρ
      have hx0 := b3 (of_beq h3)
      subst hx0
      have := run_sliceBounds (P := P) (b := false) hl hh el' eu (of_ble h1) (cp := n) (of_ble h2) w
      refine Good.same hr (v' := .slice (some (if n = l then ⟨c, s + off, none⟩ else ⟨c, s + off + l * ei.size, none⟩)) (u - l) (n - l)) ?_ ?_
      · by_cases hcl : n = l
        · simp [ren, hρ, hcl]
        · simp [ren, hρ, beqF hcl, hcl, Nat.add_assoc]
      · simp only [Instr.sliceAt, Sem.run_bind, ok.run_underlying hi0, hu, Result.andThen_ok, Instr.slice, asAddr, Sem.run_pure, ok.run_underlying hai, hau, this, ok.run_sizeOf hei, addr_add]
    · cases e
  · -- an array behind its address
    rename_i n el b off hu
    split at e
    · rename_i m ct et opn wh hblk
      rw [oget_some] at e; obtain ⟨ei, hei, e⟩ := e
      rw [oget_some] at e; obtain ⟨l, el', e⟩ := e
      rw [oget_some] at e; obtain ⟨u, eu, e⟩ := e
      simp only [bif_some, Bool.and_eq_true, Option.some.injEq, Prod.mk.injEq] at e
      obtain ⟨⟨⟨h1, h2⟩, h3⟩, rfl, rfl⟩ := e
      obtain ⟨c, s, x0, hρ, rfl⟩ := ren_ptr hx
      obtain ⟨C, lo0, hi0', b1, b2, b3, _⟩ := hr.blk b _ hblk c s x0 hρ
      have hx0 := b3 (of_beq h3)
      subst hx0
      have := run_sliceBounds (P := P) (b := false) hl hh el' eu (of_ble h1) (cp := n) (of_ble h2) w
      refine Good.same hr (v' := .slice (some (if n = l then ⟨c, s + off, none⟩ else ⟨c, s + off + l * ei.size, none⟩)) (u - l) (n - l)) ?_ ?_
      · by_cases hcl : n = l
        · simp [ren, hρ, hcl]
        · simp [ren, hρ, beqF hcl, hcl, Nat.add_assoc]
      · simp only [Instr.sliceAt, Sem.run_bind, ok.run_underlying hi0, hu, Result.andThen_ok, Instr.sureAddr, Sem.run_pure, this, ok.run_sizeOf hei, addr_add]
    · cases e
  · cases e

end Go.Ev
end
section
/- A deterministic evaluator of the model's code over a memory of its own: append, copy, make. -/
namespace Go.Ev
variable {E : Env} {P : Program}

theorem plainL_bytes (l : List UInt8) : plainL (l.map fun (b : UInt8) => Value.int .u8 b.toNat) = true := by
  induction l with
  | nil => rfl
  | cons b l ih => simp [plainL, plainZ, ih]

theorem aFirst_sound {ρ : Rn} {h : AH} {w : World} (hr : WRel ρ h w) {size n : Nat} {x x' : Value} {vs : List Value} (hx : ren ρ x = some x') (e : aFirst size n x h = some vs) :
    ∃ vs', renL ρ vs = some vs' ∧ (Builtin.firstCells size n x').run P w = .ok ⟨vs'⟩ w := by
  unfold aFirst at e
  split at e
  · cases e
    simp [ren] at hx; subst hx
    exact ⟨[], by simp [renL], by simp [Builtin.firstCells]⟩
  · rename_i b off len cp
    cases hz : (n * size).beq 0 with
    | true =>
      rw [hz] at e; simp only [cond_true] at e; cases e
      obtain ⟨c, s, x0, hρ, rfl⟩ := ren_slice hx
      have hz' := of_beq hz
      exact ⟨[], by simp [renL], by simp only [Builtin.firstCells]; exact run_row' (by simp [hz']) (fun i v hi => by simp at hi)⟩
    | false =>
    rw [hz] at e; simp only [cond_false] at e
    rw [oget_some] at e; obtain ⟨blk, hb, e⟩ := e
    obtain ⟨c, s, x0, hρ, rfl⟩ := ren_slice hx
    obtain ⟨vs', h1, h2, h3⟩ := (hr.blk b blk hb c s x0 hρ).row e
    exact ⟨vs', h1, by simp only [Builtin.firstCells]; exact run_row' h2 h3⟩
  · rename_i s
    cases e
    simp [ren] at hx; subst hx
    refine ⟨_, plainL_ren ρ _ (plainL_bytes _), ?_⟩
    simp only [Builtin.firstCells, Sem.run_pure, data_extract, List.drop_zero, Nat.sub_zero]
    congr 1
    apply Array.ext'
    simp
  · cases e

theorem lenV_sound {ρ : Rn} {w : World} {x x' : Value} {n : Nat} (hx : ren ρ x = some x') (e : lenV x = some n) : (Builtin.lenOf x').run P w = .ok n w := by
  cases x with
  | slice a l c =>
    simp [lenV] at e; subst e
    rcases a with _ | ⟨b, o, _ | _⟩
    · simp [ren] at hx; subst hx; rfl
    · obtain ⟨c', s, x0, _, rfl⟩ := ren_slice hx; rfl
    · simp [ren] at hx
  | string s => simp [lenV] at e; simp [ren] at hx; subst hx; subst e; rfl
  | _ => simp [lenV] at e

theorem repl_length (z : List Value) : ∀ n, (repl z n).length = n * z.length
  | 0 => by simp [repl]
  | n + 1 => by simp [repl, repl_length z n, Nat.succ_mul]; omega

theorem repl_get (z : List Value) : ∀ n i, i < n * z.length → (repl z n)[i]? = z[i % z.length]?
  | 0, i, h => by omega
  | n + 1, i, h => by
    have hz : 0 < z.length := by
      rcases Nat.eq_zero_or_pos z.length with e | e
      · rw [e] at h; omega
      · exact e
    simp only [repl]
    by_cases hi : i < z.length
    · rw [List.getElem?_append_left hi, Nat.mod_eq_of_lt hi]
    · rw [List.getElem?_append_right (by omega), repl_get z n (i - z.length) (by rw [Nat.add_one_mul] at h; omega)]
      congr 1
      exact (Nat.mod_eq_sub_mod (by omega)).symm

theorem range_repl (z : Array Value) (n m : Nat) (hm : m = n * z.size) : (Array.range m).map (fun i => z[i % z.size]!) = ⟨repl z.toList n⟩ := by
  apply Array.ext'
  apply List.ext_getElem?
  intro i
  simp only [Array.toList_map, Array.toList_range, List.getElem?_map]
  by_cases hi : i < m
  · have hz : 0 < z.size := by
      rcases Nat.eq_zero_or_pos z.size with e | e
      · rw [hm, e] at hi; omega
      · exact e
    have hlt : i % z.size < z.size := Nat.mod_lt _ hz
    rw [repl_get _ _ _ (by simpa [← hm] using hi)]
    simp [hi, getElem!_pos z (i % z.size) hlt, Array.getElem?_eq_getElem hlt]
  · rw [List.getElem?_eq_none (by simpa using hi), List.getElem?_eq_none (by rw [repl_length]; simp [← hm]; omega)]
    rfl

theorem renL_repl {ρ : Rn} {z : List Value} (hz : renL ρ z = some z) : ∀ n, renL ρ (repl z n) = some (repl z n)
  | 0 => by simp [repl, renL]
  | n + 1 => renL_append hz (renL_repl hz n)

/-- What append's second argument is. -/
structure NewRun (P : Program) (w : World) (xt : Option TypeId) (size : Nat) (el : TypeId) (x' : Value) (n : Nat) (vs' : List Value) (zeros : Bool) : Prop where
  kind : ∃ t u, xt = some t ∧ (underlying t).run P w = .ok u w ∧ ((zeros = true ∧ ∃ k, u = .int k) ∨ (zeros = false ∧ ∀ k, u ≠ .int k))
  plain : zeros = false → (Builtin.lenOf x').run P w = .ok n w ∧ (Builtin.firstCells size n x').run P w = .ok ⟨vs'⟩ w
  zero : zeros = true → ∃ k m z, x' = .int k m ∧ IntKind.i64.wrap m = m ∧ 0 ≤ m ∧ m.toNat = n ∧ (zeroValue el).run P w = .ok z w ∧ z.cells.size = size ∧ vs' = repl z.cells.toList n

theorem wrap_small {m : Int} (h0 : 0 ≤ m) (h1 : m < 4294967296) : IntKind.i64.wrap m = m := by
  have e : m % (18446744073709551616 : Int) = m := Int.emod_eq_of_lt h0 (by omega)
  have h2 : ¬ (m % (18446744073709551616 : Int) ≥ 9223372036854775808) := by omega
  show (if (true && decide (m % (18446744073709551616 : Int) ≥ 9223372036854775808)) = true then _ else m % (18446744073709551616 : Int)) = m
  rw [if_neg (by simpa using h2), e]

theorem aNew_sound (ok : Ok E P) {ρ : Rn} {h : AH} {w : World} (hr : WRel ρ h w) {el : TypeId} {ei : TInfo} (hei : tInfo E el = some ei) {xt : Option TypeId} {x x' : Value} {n : Nat} {vs : List Value} (hx : ren ρ x = some x') (e : aNew E ei xt x h = some (n, vs)) :
    ∃ vs' zeros, renL ρ vs = some vs' ∧ NewRun P w xt ei.size el x' n vs' zeros ∧ (zeros = true → n * ei.bytes < 4294967296) := by
  have other : ∀ ti, (xt.bind (tInfo E)) = some ti → (∀ k, ti.und ≠ .int k) → (oget (lenV x) fun n => oget (aFirst ei.size n x h) fun vs => some (n, vs)) = some (n, vs) →
      ∃ vs' zeros, renL ρ vs = some vs' ∧ NewRun P w xt ei.size el x' n vs' zeros ∧ (zeros = true → n * ei.bytes < 4294967296) := by
    intro ti ht hk e
    rw [oget_some] at e; obtain ⟨n', hn, e⟩ := e
    rw [oget_some] at e; obtain ⟨us, hu, e⟩ := e
    cases e
    obtain ⟨vs', h1, h2⟩ := aFirst_sound (P := P) hr hx hu
    refine ⟨vs', false, h1, ⟨?_, fun _ => ⟨lenV_sound hx hn, h2⟩, by simp⟩, by simp⟩
    cases xt with
    | none => simp at ht
    | some t => exact ⟨t, ti.und, rfl, ok.run_underlying ht w, .inr ⟨rfl, hk⟩⟩
  unfold aNew at e
  split at e
  · rename_i k m
    split at e
    · rename_i k' sz by' zr sk z ht hz
      rw [bif_some] at e
      obtain ⟨hc, e⟩ := e
      simp only [Bool.and_eq_true, decide_eq_true_eq] at hc
      cases e
      have hzr := ren_cells (ok.zero hei hz ρ)
      simp [ren] at hx; subst hx
      refine ⟨_, true, renL_repl hzr _, ⟨?_, by simp, fun _ => ⟨k, m, z, rfl, wrap_small hc.1.1.1 hc.1.1.2, hc.1.1.1, rfl, ok.run_zero hei hz w, ?_, rfl⟩⟩, fun _ => of_blt hc.2⟩
      · cases xt with
        | none => simp at ht
        | some t => exact ⟨t, _, rfl, ok.run_underlying ht w, .inl ⟨rfl, _, rfl⟩⟩
      · have := of_beq hc.1.2
        simpa using this
    · cases e
  · split at e
    · cases e
    · cases e
    · rename_i hnn hns
      cases hxt : xt.bind (tInfo E) with
      | none => exact absurd hxt hns
      | some ti =>
        refine other ti hxt (fun k hk => ?_) e
        obtain ⟨u, a, b, c, d⟩ := ti
        simp at hk
        subst hk
        exact hnn _ _ _ _ _ hxt

theorem zeroCells_repl (z : Array Value) (n : Nat) : Builtin.zeroCells z n = ⟨repl z.toList n⟩ := range_repl z n _ rfl

theorem andThen_of {α β : Type} {r r' : Result α} {f : α → World → Result β} {x : Result β} (h : r = r') (k : r'.andThen f = x) : r.andThen f = x := by subst h; exact k

/-- The beginning of append, done. -/
theorem append_fits (ok : Ok E P) {w : World} {st el : TypeId} {i ei : TInfo} (hi : tInfo E st = some i) (hu : i.und = .slice el) (hei : tInfo E el = some ei) {ats : Array TypeId} {ty : TypeId} (h0 : ats[0]? = some st)
    {x' : Value} {n : Nat} {vs' : List Value} {zeros : Bool} (nr : NewRun P w ats[1]? ei.size el x' n vs' zeros) (hb : zeros = true → n * ei.bytes < 4294967296)
    {base : Option Addr} {sl cp : Nat} (hfit : sl + n ≤ cp) :
    (Builtin.append_ ats ty #[.slice base sl cp, x']).run P w = (match base with
      | some a => ((storeCells (a.add (sl * ei.size)) vs').run P w).andThen fun _ w => .ok (.slice base (sl + n) cp) w
      | none => .ok (.slice base (sl + n) cp) w) := by
  obtain ⟨info, hinfo, _, hbytes, _⟩ := ok.run_typeInfo hei w
  obtain ⟨xt, u, hxt, hxu, hk⟩ := nr.kind
  unfold Builtin.append_
  simp only [h0, hxt, List.getElem?_toArray, List.getElem?_cons_zero, List.getElem?_cons_succ, Sem.run_bind, ok.run_underlying hi, hu, Result.andThen_ok, ok.run_sizeOf hei, hxu]
  rcases hk with ⟨rfl, kk, rfl⟩ | ⟨rfl, hk⟩
  rotate_left
  · obtain ⟨p1, p2⟩ := nr.plain rfl
    refine andThen_of (r' := .ok false w) (by cases u <;> first | rfl | exact absurd rfl (hk _)) ?_
    simp only [Bool.false_eq_true, if_false, p1, Result.andThen_ok, hfit, if_true, Bool.not_false, p2, Sem.run_bind]
    cases base <;> simp
  · obtain ⟨k, m, z, rfl, hm, h0m, hmn, hz, hzs, rfl⟩ := nr.zero rfl
    have hb := hb rfl
    have hle : ¬ (m * (ei.bytes : Int) > 2 ^ 48) := by
      have : m = (n : Int) := by omega
      subst this
      rw [← Int.natCast_mul]
      omega
    refine andThen_of (r' := .ok true w) rfl ?_
    have hai : (asInt (.int k m)).run P w = .ok m w := rfl
    have hneg : ¬ m < 0 := by omega
    simp only [if_true, hai, Sem.run_bind, Sem.run_pure, Result.andThen_ok, hm, hneg, if_false, hinfo, hbytes, hle, hmn, hfit, Bool.not_true, Bool.false_eq_true]
    by_cases hns : n * ei.size = 0
    · have : repl z.cells.toList n = [] := by
        apply List.eq_nil_of_length_eq_zero
        rw [repl_length, Array.length_toList, hzs]; exact hns
      simp only [hns, if_true, this]
      cases base <;> simp
    · simp only [hns, if_false, Sem.run_bind, hz, Result.andThen_ok, Sem.run_pure, zeroCells_repl]
      cases base <;> simp

theorem append_grows (ok : Ok E P) {w : World} {st el : TypeId} {i ei : TInfo} (hi : tInfo E st = some i) (hu : i.und = .slice el) (hei : tInfo E el = some ei) {z : Value} (hz : ei.zero = some z) {ats : Array TypeId} {ty : TypeId} (h0 : ats[0]? = some st)
    {x' : Value} {n : Nat} {vs' : List Value} {zeros : Bool} (nr : NewRun P w ats[1]? ei.size el x' n vs' zeros) (hb : zeros = true → n * ei.bytes < 4294967296)
    {base : Option Addr} {sl cp : Nat} (hgrow : cp < sl + n) (hsz : 0 < ei.size) (hn1 : (sl + n) * ei.size < 4294967296) (hn2 : (sl + n) * ei.bytes < 4294967296) (hzl : z.cells.size = ei.size)
    {old : List Value} (hold : (Builtin.firstCells ei.size sl (.slice base sl cp)).run P w = .ok ⟨old⟩ w) (hfr : ∀ w', w'.heap = w.heap → (Builtin.firstCells ei.size sl (.slice base sl cp)).run P w' = .ok ⟨old⟩ w')
    (hnew : zeros = false → ∀ w', w'.heap = w.heap → (Builtin.firstCells ei.size n x').run P w' = .ok ⟨vs'⟩ w') :
    ∃ k rest w', (Builtin.append_ ats ty #[.slice base sl cp, x']).run P w = .ok (.slice (some ⟨w.heap.size, 0, none⟩) (sl + n) (sl + n + k)) w' ∧ rest.length = k * ei.size ∧
      w'.heap = w.heap.push (.cells ⟨old ++ vs' ++ rest⟩ el (0, 0)) ∧ w'.os = w.os ∧ w'.tape = w.tape ∧ w'.output = w.output := by
  obtain ⟨info, hinfo, _, hbytes, _⟩ := ok.run_typeInfo hei w
  have hinfo' : ∀ w, (typeInfo el).run P w = .ok info w := by
    intro w2
    obtain ⟨_, inf, h1, h2, h3, _⟩ := ok.und hei
    have a1 : (typeInfo el).run P w2 = .ok inf w2 := by simp [typeInfo, h1]
    have a2 : (typeInfo el).run P w = .ok inf w := by simp [typeInfo, h1]
    rw [a2] at hinfo; cases hinfo; exact a1
  have hneed : sl + n < 4294967296 := Nat.lt_of_le_of_lt (Nat.le_mul_of_pos_right _ hsz) hn1
  have hslice : ¬ ((sl + n : Nat) : Int) > IntKind.i64.max := by
    show ¬ ((sl + n : Nat) : Int) > 9223372036854775807
    omega
  have hcapfits : ¬ (Builtin.nextslicecap (sl + n) cp * ei.bytes > 2 ^ 48) := by
    have := growslice_fits (bytes := ei.bytes) hgrow (by omega)
    omega
  obtain ⟨t, ht⟩ : ∃ t, w.tape w.drawn (.appendCap (sl + n) cp el) = t := ⟨_, rfl⟩
  refine ⟨t % (2 ^ 63 - (sl + n)), repl z.cells.toList (t % (2 ^ 63 - (sl + n))), { w with drawn := w.drawn + 1, heap := w.heap.push (.cells ⟨old ++ vs' ++ repl z.cells.toList (t % (2 ^ 63 - (sl + n)))⟩ el (0, 0)) }, ?_, by rw [repl_length, Array.length_toList, hzl], rfl, rfl, rfl, rfl⟩
  obtain ⟨xt, u, hxt, hxu, hk⟩ := nr.kind
  unfold Builtin.append_
  simp only [h0, hxt, List.getElem?_toArray, List.getElem?_cons_zero, List.getElem?_cons_succ, Sem.run_bind, ok.run_underlying hi, hu, Result.andThen_ok, ok.run_sizeOf hei, hxu]
  have choose : ∀ (w : World), w.tape w.drawn (.appendCap (sl + n) cp el) = t → (Go.choose (.appendCap (sl + n) cp el)).run P w = .ok (sl + n + t % (2 ^ 63 - (sl + n))) { w with drawn := w.drawn + 1 } := by
    intro w ht
    simp [run_choose, Question.forced, Question.cut, ht]
  rcases hk with ⟨rfl, kk, rfl⟩ | ⟨rfl, hk⟩
  rotate_left
  · obtain ⟨p1, p2⟩ := nr.plain rfl
    refine andThen_of (r' := .ok false w) (by cases u <;> first | rfl | exact absurd rfl (hk _)) ?_
    simp only [Bool.false_eq_true, if_false, p1, Result.andThen_ok, show ¬ sl + n ≤ cp by omega, Bool.not_false, if_true, Sem.run_bind, hinfo', hbytes, hslice, false_and, hcapfits, choose w ht, run_askRoom, hfr { w with drawn := w.drawn + 1 } rfl, hnew rfl { w with drawn := w.drawn + 1 } rfl,
      ok.run_zero hei hz, run_newRow, Sem.run_pure, zeroCells_repl]
    simp [Nat.add_sub_cancel_left]
  · obtain ⟨k, m, z', rfl, hm, h0m, hmn, hz', hzs, rfl⟩ := nr.zero rfl
    have hzz : z' = z := by
      have := ok.run_zero hei hz w
      rw [hz'] at this; cases this; rfl
    subst hzz
    have hb := hb rfl
    have hle : ¬ (m * (ei.bytes : Int) > 2 ^ 48) := by
      have : m = (n : Int) := by omega
      subst this
      rw [← Int.natCast_mul]
      omega
    refine andThen_of (r' := .ok true w) rfl ?_
    have hai : (asInt (.int k m)).run P w = .ok m w := rfl
    have hneg : ¬ m < 0 := by omega
    simp only [if_true, hai, Sem.run_bind, Sem.run_pure, Result.andThen_ok, hm, hneg, if_false, hinfo', hbytes, hle, hmn, show ¬ sl + n ≤ cp by omega, hslice, false_and, hcapfits, choose w ht, run_askRoom, hfr { w with drawn := w.drawn + 1 } rfl, Bool.not_true, Bool.false_eq_true,
      ok.run_zero hei hz]
    by_cases hns : n * ei.size = 0
    · have : repl z'.cells.toList n = [] := by
        apply List.eq_nil_of_length_eq_zero
        rw [repl_length, Array.length_toList, hzs]; exact hns
      simp only [hns, if_true, this, Sem.run_pure, Result.andThen_ok, run_newRow, zeroCells_repl]
      simp [Nat.add_sub_cancel_left]
    · simp only [hns, if_false, Sem.run_bind, ok.run_zero hei hz, Result.andThen_ok, Sem.run_pure, zeroCells_repl, run_newRow]
      simp [Nat.add_sub_cancel_left]

/-- A block gives way to a new one in the same place of the world. -/
theorem Step.move {ρ : Rn} {h : AH} {w w' : World} (hr : WRel ρ h w) {b : Nat} {blk0 blk : Blk} {c s x s' x' : Nat} (hb : h.b.get b = some blk0) (ho : blk0.own = true) (hc : ρ b = some (c, s, x)) (hn : ρ h.next = none) (hcap : h.next < cap)
    (hro : blk.isRo = false) (hk : BlkRel (ρ.ins h.next (c, s', x')) w' c s' x' blk) (hw : But c w w') :
    Step ρ h w (ρ.ins h.next (c, s', x')) ((h.upd b .dead).new blk) w' := by
  have hbc := hr.low b _ hb
  have S1 : Step ρ h w ρ (h.upd b .dead) w' := Step.upd hr hb ho hc hbc rfl trivial hw.size hw.oth hw.os hw.tape hw.output
  have hsub : Sub ρ (ρ.ins h.next (c, s', x')) := Rn.sub_ins hn
  have hg1 : ∀ k, (h.upd b .dead).b.get k = if k = b then some .dead else h.b.get k := fun k => Tr.get_put _ _ _ _ hbc
  have hg : ∀ k, ((h.upd b .dead).new blk).b.get k = if k = h.next then some blk else (h.upd b .dead).b.get k := fun k => Tr.get_put _ _ _ _ hcap
  have hins : ∀ k r, k ≠ h.next → ρ.ins h.next (c, s', x') k = some r → ρ k = some r := fun k r e q => by unfold Rn.ins at q; rwa [if_neg e] at q
  have hself : ∀ r, ρ.ins h.next (c, s', x') h.next = some r → r = (c, s', x') := fun r q => by unfold Rn.ins at q; rw [if_pos rfl] at q; cases q; rfl
  have alone : ∀ k blk', (h.upd b .dead).b.get k = some blk' → blk'.own = true → ∀ c1 s1 x1, ρ k = some (c1, s1, x1) → c1 ≠ c := fun k blk' e o c1 s1 x1 q ec => by
    subst ec
    rw [hg1] at e
    by_cases ek : k = b
    · rw [if_pos ek] at e; cases e; simp [Blk.own] at o
    · rw [if_neg ek] at e; exact ek (hr.inj k b blk' blk0 e hb o ho _ _ _ _ _ q hc)
  have aloneRo : ∀ k blk', (h.upd b .dead).b.get k = some blk' → blk'.isRo = true → ∀ c1 s1 x1, ρ k = some (c1, s1, x1) → c1 ≠ c := fun k blk' e o c1 s1 x1 q ec => by
    subst ec
    rw [hg1] at e
    by_cases ek : k = b
    · rw [if_pos ek] at e; cases e; simp [Blk.isRo] at o
    · rw [if_neg ek] at e; exact hr.apart b k blk0 blk' hb e ho o _ _ _ _ _ hc q
  refine ⟨hsub, fun k e hk' => ?_, Nat.le_succ _, ⟨fun k blk' hk' => ?_, fun k blk' hk' c1 s1 x1 hc' => ?_, fun k k' blk1 blk2 e1 e2 o1 o2 c1 s1 x1 s2 x2 r1 r2 => ?_, fun k k' blk1 blk2 e1 e2 o1 o2 c1 s1 x1 s2 x2 r1 r2 => ?_⟩, S1.size, S1.os, S1.tape, S1.output, S1.keep, fun k e hk' => ?_, fun k blk' c1 s1 x1 e1 o1 r1 hlt hf => ?_⟩
  · unfold Rn.ins
    have : k ≠ h.next := by
      intro e'; subst e'
      have hs : ((h.upd b .dead).new blk).next = h.next + 1 := rfl
      rcases hk' with hk' | hk' <;> omega
    rw [if_neg this]; exact e
  · rw [hg] at hk'
    by_cases e : k = h.next
    · rw [e]; exact hcap
    · rw [if_neg e] at hk'; exact S1.rel.low k blk' hk'
  · rw [hg] at hk'
    by_cases e : k = h.next
    · rw [if_pos e] at hk'; cases hk'
      subst e
      have := hself _ hc'; cases this
      exact hk
    · rw [if_neg e] at hk'
      exact (S1.rel.blk k blk' hk' c1 s1 x1 (hins _ _ e hc')).mono hsub
  · rw [hg] at e1 e2
    by_cases a1 : k = h.next
    · rw [if_pos a1] at e1; cases e1
      subst a1
      have q1 := hself _ r1
      by_cases a2 : k' = h.next
      · exact a2.symm
      · rw [if_neg a2] at e2
        cases q1
        exact absurd rfl (alone k' blk2 e2 o2 _ _ _ (hins _ _ a2 r2))
    · rw [if_neg a1] at e1
      by_cases a2 : k' = h.next
      · rw [if_pos a2] at e2; cases e2
        subst a2
        have q2 := hself _ r2
        cases q2
        exact absurd rfl (alone k blk1 e1 o1 _ _ _ (hins _ _ a1 r1))
      · rw [if_neg a2] at e2
        exact S1.rel.inj k k' blk1 blk2 e1 e2 o1 o2 _ _ _ _ _ (hins _ _ a1 r1) (hins _ _ a2 r2)
  · rw [hg] at e1 e2
    have a2 : k' ≠ h.next := by
      intro e; rw [if_pos e] at e2; cases e2; rw [hro] at o2; cases o2
    rw [if_neg a2] at e2
    by_cases a1 : k = h.next
    · subst a1
      have q1 := hself _ r1
      cases q1
      exact absurd rfl (aloneRo k' blk2 e2 o2 _ _ _ (hins _ _ a2 r2))
    · rw [if_neg a1] at e1
      exact S1.rel.apart k k' blk1 blk2 e1 e2 o1 o2 _ _ _ _ _ (hins _ _ a1 r1) (hins _ _ a2 r2)
  · rw [hg, if_neg (by omega)]
    exact S1.same k e hk'
  · rw [hg] at e1
    by_cases a1 : k = h.next
    · subst a1
      have q1 := hself _ r1
      cases q1
      exact hf b blk0 s x hb ho hc
    · rw [if_neg a1] at e1
      exact S1.img k blk' c1 s1 x1 e1 o1 (hins _ _ a1 r1) hlt hf

theorem row_of {ρ : Rn} {w : World} {c s x n : Nat} {t : Tr Value} {el : TypeId} {o : Nat} {wh : Bool} (h : BlkRel ρ w c s x (.cells n t el o wh)) {off m : Nat} (hm : off + m ≤ n) :
    ∃ old, getCells (Blk.cells n t el o wh).cell off m = some old ∧ getCells t.get off m = some old := by
  obtain ⟨C, lo, hi, _, _, _, h4, _⟩ := h
  have ex : ∀ i, i < m → ∃ v, t.get (off + i) = some v := fun i hi => let ⟨v, _, e, _⟩ := h4 (off + i) (by omega); ⟨v, e⟩
  have hc : ∀ i, i < m → t.get (off + i) = some ((t.get (off + i)).getD undef') := fun i hi => by obtain ⟨v, e⟩ := ex i hi; rw [e]; rfl
  refine ⟨(List.range m).map fun i => (t.get (off + i)).getD undef', getCells_ok _ (fun i hi => ?_), getCells_ok _ hc⟩
  simp only [Blk.cell]
  rw [show Nat.blt (off + i) n = true from Nat.ble_eq_true_of_le (by omega)]
  exact hc i hi

theorem aAppend_sound (ok : Ok E P) {ρ : Rn} {h h' : AH} {w : World} (hr : WRel ρ h w) {st : TypeId} {s s' x x' v : Value} (hs : ren ρ s = some s') (hx : ren ρ x = some x') {ats : Array TypeId} {ty : TypeId} (h0 : ats[0]? = some st)
    (e : aAppend E st ats[1]? s x h = some (v, h')) (room : Room ρ h.next h'.next) : Good P ρ h w (Builtin.append_ ats ty #[s', x']) v h' := by
  unfold aAppend at e
  rw [oget_some] at e; obtain ⟨i, hi, e⟩ := e
  split at e
  · rename_i el base sl cp hu
    rw [oget_some] at e; obtain ⟨ei, hei, e⟩ := e
    rw [oget_some] at e; obtain ⟨⟨n, vs⟩, hnew, e⟩ := e
    obtain ⟨vs', zeros, hv, nr, hbz⟩ := aNew_sound ok hr hei hx hnew
    simp only at e
    cases hfit : Nat.ble (sl + n) cp with
    | true =>
      have hfit' := of_ble hfit
      simp only [hfit, cond_true] at e
      split at e
      · -- nil
        simp only [bif_some, Option.some.injEq, Prod.mk.injEq] at e
        obtain ⟨_, rfl, rfl⟩ := e
        simp [ren] at hs; subst hs
        exact Good.same hr (v' := .slice none (sl + n) cp) (by simp [ren]) (by rw [append_fits ok hi hu hei h0 nr hbz hfit'])
      · rename_i b off
        obtain ⟨c, sh, x0, hρ, rfl⟩ := ren_slice hs
        have run := append_fits (ty := ty) ok hi hu hei h0 nr hbz (base := some ⟨c, sh + off, none⟩) (sl := sl) (cp := cp + x0) (by omega)
        simp only [addr_add] at run
        cases hl : vs.length.beq 0 with
        | true =>
          simp only [hl, cond_true, Option.some.injEq, Prod.mk.injEq] at e
          obtain ⟨rfl, rfl⟩ := e
          have hvs : vs = [] := List.eq_nil_of_length_eq_zero (of_beq hl)
          subst hvs
          rw [renL_nil.1 hv] at run
          exact Good.same hr (v' := .slice (some ⟨c, sh + off, none⟩) (sl + n) (cp + x0)) (by simp [ren, hρ]) (by rw [run]; simp [storeCells])
        | false =>
          simp only [hl, cond_false] at e
          rw [oget_some] at e; obtain ⟨h1, hw, e⟩ := e
          cases e
          have hbcap : b < cap := by
            unfold aWrite at hw
            split at hw
            · rename_i hblk; exact hr.low b _ hblk
            · cases hw
          obtain ⟨w', g1, g2⟩ := aWrite_sound (P := P) hr hv hρ hbcap hw
          refine ⟨ρ, w', .slice (some ⟨c, sh + off, none⟩) (sl + n) (cp + x0), g2, by simp [ren, hρ], ?_⟩
          rw [run, show sh + off + sl * ei.size = sh + (off + sl * ei.size) by omega, g1]
          rfl
      · cases e
    | false =>
      have hfit' : cp < sl + n := by
        have : ¬ sl + n ≤ cp := fun hh => by rw [Nat.ble_eq_true_of_le hh] at hfit; cases hfit
        omega
      simp only [hfit, cond_false] at e
      split at e
      · cases e
      · rename_i z hz
        rw [bif_some] at e
        obtain ⟨hc, e⟩ := e
        simp only [Bool.and_eq_true] at hc
        obtain ⟨⟨⟨⟨⟨⟨⟨q1, q2⟩, q3⟩, q4⟩, q5⟩, q6⟩, q7⟩, q8⟩ := hc
        have q1 := of_blt q1
        have q2 := of_blt q2
        have q3 := of_blt q3
        have q4 := of_beq q4
        have q6 := of_blt q6
        have q7 := of_beq q7
        rw [Array.length_toList] at q7
        have hvl := renL_length hv
        have hcap : cap = 1099511627776 := rfl
        have hnewrun : zeros = false → ∀ w', w'.heap = w.heap → (Builtin.firstCells ei.size n x').run P w' = .ok ⟨vs'⟩ w' := by
          intro hz' w' hw'
          have hr' : WRel ρ h w' := ⟨hr.low, fun b blk hb c s x hρ => (hr.blk b blk hb c s x hρ).congr (by rw [hw']), hr.inj, hr.apart⟩
          obtain ⟨_, p2⟩ := nr.plain hz'
          -- the same cells are read
          cases x' with
          | slice a l cc =>
            cases a with
            | none => simp [Builtin.firstCells] at p2 ⊢; exact p2
            | some a =>
              unfold aNew at hnew
              split at hnew
              · simp [ren] at hx
              · split at hnew
                · cases hnew
                · cases hnew
                · rw [oget_some] at hnew; obtain ⟨n', hn', hnew⟩ := hnew
                  rw [oget_some] at hnew; obtain ⟨us, hus, hnew⟩ := hnew
                  cases hnew
                  obtain ⟨vs2, k1, k2⟩ := aFirst_sound (P := P) hr' hx hus
                  rw [hv] at k1; cases k1
                  exact k2
          | string s => simp [Builtin.firstCells] at p2 ⊢; exact p2
          | _ => simp [Builtin.firstCells] at p2
        have rest_len : ∀ {rest : List Value} {k : Nat}, rest.length = k * ei.size → ei.size = 0 → k = 0 := fun _ h => by omega
        split at e
        · -- nil
          simp only [bif_some, Bool.and_eq_true, Option.some.injEq, Prod.mk.injEq] at e
          obtain ⟨⟨a1, a2⟩, rfl, rfl⟩ := e
          have a1 := of_beq a1
          have a2 := of_beq a2
          subst a1; subst a2
          simp [ren] at hs; subst hs
          obtain ⟨k, rest, w', r1, r2, r3, r4, r5, r6⟩ := append_grows (ty := ty) ok hi hu hei hz h0 nr hbz (base := none) hfit' q1 q2 q3 q7 (old := []) (by simp [Builtin.firstCells]) (fun _ _ => by simp [Builtin.firstCells]) hnewrun
          have hn : ρ h.next = none := room _ (Nat.le_refl _) (Nat.lt_succ_self _)
          refine ⟨_, w', .slice (some ⟨w.heap.size, 0, none⟩) n (n + k), Step.newCells hr hv q6 hn rest ei.size k r2 (fun hh => by omega) el (by simpa using r3) r4 r5 r6 q4.symm _ ?_, by simp [ren, ins_self], by simpa using r1⟩
          intro j hj
          rw [Nat.zero_add] at q2
          exact putNil_get (by omega) j (by omega)
        · rename_i b off
          obtain ⟨c, sh, x0, hρ, rfl⟩ := ren_slice hs
          have hn : ρ h.next = none := by
            refine room _ (Nat.le_refl _) ?_
            split at e
            · rename_i m ct be o wh hblk
              rw [bif_some] at e; obtain ⟨_, e⟩ := e
              rw [oget_some] at e; obtain ⟨_, _, e⟩ := e
              cases ho : o.beq 0 with
              | true => simp only [ho, cond_true, Option.some.injEq, Prod.mk.injEq] at e; rw [← e.2]; exact Nat.lt_succ_self _
              | false =>
                simp only [ho, cond_false, bif_some, Option.some.injEq, Prod.mk.injEq] at e; rw [← e.2.2]; exact Nat.lt_succ_self _
            · rw [oget_some] at e; obtain ⟨_, _, e⟩ := e
              simp only [Option.some.injEq, Prod.mk.injEq] at e; rw [← e.2]; exact Nat.lt_succ_self _
            · cases e
          split at e
          · rename_i m ct be o wh hblk
            rw [bif_some] at e; obtain ⟨hm, e⟩ := e
            have hm := of_ble hm
            have hB := hr.blk b _ hblk c sh x0 hρ
            obtain ⟨old, ho1, ho2⟩ := row_of hB hm
            obtain ⟨old', ho3, ho4, ho5⟩ := hB.row ho1
            have hol : old.length = sl * ei.size := (getCells_spec ho2).1
            rw [oget_some] at e; obtain ⟨c0, hc0, e⟩ := e
            have hall : renL ρ (old ++ vs) = some (old' ++ vs') := renL_append ho3 hv
            have htot : (sl + n) * ei.size = (old ++ vs).length := by rw [List.length_append, hol, q4, Nat.add_mul]
            have htr : ∀ j, j < (sl + n) * ei.size → (putCells c0 (sl * ei.size) vs).get j = (old ++ vs)[j]? := by
              intro j hj
              rw [putCells_get _ _ _ _ (by rw [Nat.add_mul] at q2; omega)]
              by_cases hjo : j < sl * ei.size
              · rw [if_neg (by omega), List.getElem?_append_left (by omega)]
                cases hoff : off.beq 0 with
                | true =>
                  simp only [hoff, cond_true, Option.some.injEq] at hc0
                  subst hc0
                  have := (getCells_spec ho2).2 j old[j] (List.getElem?_eq_getElem (by omega))
                  rw [of_beq hoff, Nat.zero_add] at this
                  rw [this, List.getElem?_eq_getElem (by omega)]
                | false =>
                  simp only [hoff, cond_false] at hc0
                  rw [oget_some] at hc0; obtain ⟨old2, hc1, hc0⟩ := hc0
                  rw [ho2] at hc1; cases hc1
                  cases hc0
                  exact putNil_get (by rw [Nat.add_mul] at q2; omega) j (by omega)
              · rw [if_pos (by rw [Nat.add_mul] at hj; omega), List.getElem?_append_right (by omega), hol]
            have hold : ∀ w', w'.heap = w.heap → (Builtin.firstCells ei.size sl (.slice (some ⟨c, sh + off, none⟩) sl (cp + x0))).run P w' = .ok ⟨old'⟩ w' := by
              intro w' hw'
              simp only [Builtin.firstCells]
              exact run_row' ho4 (fun j v' hj => by rw [cell_congr (w := w) (by rw [hw'])]; exact ho5 j v' hj)
            obtain ⟨C, lo, hi', b1, b2, b3, b4, b5, b6⟩ := hB
            cases hoo : o.beq 0 with
            | true =>
              simp only [hoo, cond_true, Option.some.injEq, Prod.mk.injEq] at e
              obtain ⟨rfl, rfl⟩ := e
              have hx0 := b3 (of_beq hoo)
              subst hx0
              obtain ⟨k, rest, w', r1, r2, r3, r4, r5, r6⟩ := append_grows (ty := ty) ok hi hu hei hz h0 nr hbz (base := some ⟨c, sh + off, none⟩) hfit' q1 q2 q3 q7 (old := old') (hold w rfl) hold hnewrun
              exact ⟨_, w', .slice (some ⟨w.heap.size, 0, none⟩) (sl + n) (sl + n + k), Step.newCells hr hall q6 hn rest ei.size k r2 (fun hh => by omega) el r3 r4 r5 r6 htot _ htr wh, by simp [ren, ins_self], r1⟩
            | false =>
              simp only [hoo, cond_false, bif_some, Bool.and_eq_true, Option.some.injEq, Prod.mk.injEq] at e
              obtain ⟨⟨⟨o1, o2⟩, o3⟩, rfl, rfl⟩ := e
              have o1 := of_beq o1
              have o2 := of_beq o2
              have o3 := of_beq o3
              subst o1; subst o3
              have hbcap := hr.low b _ hblk
              by_cases hin : sl + n ≤ cp + x0
              · -- there is room behind
                have run := append_fits (ty := ty) ok hi hu hei h0 nr hbz (base := some ⟨c, sh + off, none⟩) (sl := sl) (cp := cp + x0) hin
                simp only [addr_add] at run
                have hmul : (sl + n) * ei.size ≤ cp * ei.size + x0 * ei.size := by rw [← Nat.add_mul]; exact Nat.mul_le_mul_right _ hin
                have hsn : (sl + n) * ei.size = sl * ei.size + n * ei.size := Nat.add_mul _ _ _
                obtain ⟨w', C', g1, g2, g3, g4, g5⟩ := run_storeCells (P := P) (c := c) (k := sh + off + sl * ei.size) vs' 0 C w b1 (by omega) b5 (all_plain hv q5)
                refine ⟨_, w', .slice (some ⟨c, sh + off, none⟩) (sl + n) (cp + x0), Step.move (s' := sh + off) (x' := cp + x0 - (sl + n)) hr hblk rfl hρ hn q6 rfl ?_ g5, ?_, ?_⟩
                · refine ⟨C', lo, hi', g2, ?_, fun hh => by omega, fun j hj => ?_, fun j hj => b5 j (by omega), b6.1, fun hh => by omega⟩
                  · have : (cp + x0 - (sl + n)) * ei.size + (sl + n) * ei.size = cp * ei.size + x0 * ei.size := by rw [← Nat.add_mul, ← Nat.add_mul, Nat.sub_add_cancel hin]
                    omega
                  · have hlt : j < (old ++ vs).length := by omega
                    obtain ⟨u', k1, k2⟩ := renL_get hall j _ (List.getElem?_eq_getElem hlt)
                    refine ⟨_, u', by rw [htr j hj]; exact List.getElem?_eq_getElem hlt, ren_mono (Rn.sub_ins hn) _ _ k1, ?_⟩
                    rw [g4]
                    by_cases hjo : j < sl * ei.size
                    · rw [if_neg (by omega)]
                      rw [List.getElem?_append_left (by omega)] at k2
                      have := ho5 j u' k2
                      simpa [World.cell?, b1] using this
                    · rw [if_pos (by omega)]
                      rw [List.getElem?_append_right (by omega)] at k2
                      rw [show sh + off + j - (sh + off + sl * ei.size + 0) = j - old'.length by omega]
                      exact k2
                · simp [ren, ins_self]; omega
                · rw [run, g1]; rfl
              · -- it moves
                obtain ⟨k, rest, w', r1, r2, r3, r4, r5, r6⟩ := append_grows (ty := ty) ok hi hu hei hz h0 nr hbz (base := some ⟨c, sh + off, none⟩) (cp := cp + x0) (by omega) q1 q2 q3 q7 (old := old') (hold w rfl) hold hnewrun
                have S1 : Step ρ h w ρ (h.upd b .dead) w := Step.upd hr hblk rfl hρ hbcap rfl trivial rfl (fun _ _ => rfl) rfl rfl rfl
                have S2 := Step.newCells (h := h.upd b .dead) S1.rel hall q6 hn rest ei.size k r2 (fun hh => by omega) be r3 r4 r5 r6 htot _ htr wh
                exact ⟨_, w', .slice (some ⟨w.heap.size, 0, none⟩) (sl + n) (sl + n + k), S1.trans S2, by simp [ren, AH.upd, ins_self], r1⟩
          · rename_i m f hblk
            rw [oget_some] at e; obtain ⟨old, hold, e⟩ := e
            simp only [Option.some.injEq, Prod.mk.injEq] at e
            obtain ⟨rfl, rfl⟩ := e
            have hx0 := (hr.blk b _ hblk c sh x0 hρ).1.1
            subst hx0
            obtain ⟨old', ho1, ho2⟩ := aFirst_sound (P := P) hr hs hold
            have hol : old.length = sl * ei.size := by
              simp only [aFirst, hblk, oget] at hold
              cases hzz : (sl * ei.size).beq 0 with
              | true => rw [hzz] at hold; simp only [cond_true, Option.some.injEq] at hold; subst hold; rw [of_beq hzz]; rfl
              | false => rw [hzz] at hold; exact (getCells_spec hold).1
            have hold' : ∀ w', w'.heap = w.heap → (Builtin.firstCells ei.size sl (.slice (some ⟨c, sh + off, none⟩) sl (cp + 0))).run P w' = .ok ⟨old'⟩ w' := by
              intro w' hw'
              have hr' : WRel ρ h w' := ⟨hr.low, fun b blk hb c s x hρ => (hr.blk b blk hb c s x hρ).congr (by rw [hw']), hr.inj, hr.apart⟩
              obtain ⟨o2, k1, k2⟩ := aFirst_sound (P := P) hr' hs hold
              rw [ho1] at k1; cases k1
              exact k2
            obtain ⟨k, rest, w', r1, r2, r3, r4, r5, r6⟩ := append_grows (ty := ty) ok hi hu hei hz h0 nr hbz (base := some ⟨c, sh + off, none⟩) hfit' q1 q2 q3 q7 (old := old') (hold' w rfl) hold' hnewrun
            have htot : (sl + n) * ei.size = (old ++ vs).length := by rw [List.length_append, hol, q4, Nat.add_mul]
            exact ⟨_, w', .slice (some ⟨w.heap.size, 0, none⟩) (sl + n) (sl + n + k), Step.newCells hr (renL_append ho1 hv) q6 hn rest ei.size k r2 (fun hh => by omega) el r3 r4 r5 r6 htot _ (fun j hj => putNil_get (by omega) j (by omega)), by simp [ren, ins_self], r1⟩
          · cases e
        · cases e
  · cases e

end Go.Ev
end
section
/- A deterministic evaluator of the model's code over a memory of its own: copy, make, literals, conversions. -/
namespace Go.Ev
variable {E : Env} {P : Program}

theorem aCopy_sound (ok : Ok E P) {ρ : Rn} {h h' : AH} {w : World} (hr : WRel ρ h w) {dt : TypeId} {d d' s s' v : Value} (hd : ren ρ d = some d') (hs : ren ρ s = some s') {ats : Array TypeId} {ty : TypeId} (h0 : ats[0]? = some dt)
    (e : aCopy E dt d s h = some (v, h')) : Good P ρ h w (Builtin.copy_ ats ty #[d', s']) v h' := by
  unfold aCopy at e
  rw [oget_some] at e; obtain ⟨i, hi, e⟩ := e
  split at e
  · rename_i el base dl cp hu
    rw [oget_some] at e; obtain ⟨ei, hei, e⟩ := e
    rw [oget_some] at e; obtain ⟨sl, hsl, e⟩ := e
    simp only at e
    rw [oget_some] at e; obtain ⟨vs, hvs, e⟩ := e
    have hn : (bif Nat.ble sl dl then sl else dl) = Nat.min sl dl := by
      cases hb : Nat.ble sl dl with
      | true => have := of_ble hb; simp [Nat.min_eq_left this]
      | false =>
        have : ¬ sl ≤ dl := fun hh => by rw [Nat.ble_eq_true_of_le hh] at hb; cases hb
        simp [Nat.min_eq_right (Nat.le_of_not_le this)]
    rw [hn] at e hvs
    obtain ⟨vs', h1, h2⟩ := aFirst_sound (P := P) hr hs hvs
    have run : ∀ base' cp', (Builtin.copy_ ats ty #[.slice base' dl cp', s']).run P w = (match base' with
        | some a => ((storeCells a vs').run P w).andThen fun _ w => .ok (.int .i64 (Nat.min sl dl)) w
        | none => .ok (.int .i64 (Nat.min sl dl)) w) := by
      intro base' cp'
      unfold Builtin.copy_
      simp only [h0, List.getElem?_toArray, List.getElem?_cons_zero, List.getElem?_cons_succ, Sem.run_bind, ok.run_underlying hi, hu, Result.andThen_ok, lenV_sound hs hsl, ok.run_sizeOf hei, h2, Sem.run_pure]
      cases base' <;> simp [goInt]
    cases hl : vs.length.beq 0 with
    | true =>
      simp only [hl, cond_true, Option.some.injEq, Prod.mk.injEq] at e
      obtain ⟨rfl, rfl⟩ := e
      have hvs0 : vs = [] := List.eq_nil_of_length_eq_zero (of_beq hl)
      subst hvs0
      rw [renL_nil.1 h1] at run
      refine Good.same hr (v' := .int .i64 (Nat.min sl dl)) (by simp [ren]) ?_
      rcases base with _ | ⟨b, o, _ | _⟩
      · simp [ren] at hd; subst hd; rw [run]
      · obtain ⟨c, sh, x0, _, rfl⟩ := ren_slice hd; rw [run]; simp [storeCells]
      · simp [ren] at hd
    | false =>
      simp only [hl, cond_false] at e
      split at e
      · rename_i b off
        rw [oget_some] at e; obtain ⟨h1', hw, e⟩ := e
        cases e
        obtain ⟨c, sh, x0, hρ, rfl⟩ := ren_slice hd
        have hbcap : b < cap := by
          unfold aWrite at hw
          split at hw
          · rename_i hblk; exact hr.low b _ hblk
          · cases hw
        obtain ⟨w', g1, g2⟩ := aWrite_sound (P := P) hr h1 hρ hbcap hw
        refine ⟨ρ, w', .int .i64 (Nat.min sl dl), g2, by simp [ren], ?_⟩
        rw [run]; simp only [g1]; rfl
      · cases e
  · cases e

theorem aMakeSlice_sound (ok : Ok E P) {ρ : Rn} {h h' : AH} {w : World} (hr : WRel ρ h w) {t : TypeId} {l l' c c' v : Value} (hl : ren ρ l = some l') (hc : ren ρ c = some c')
    (e : aMakeSlice E t l c h = some (v, h')) (room : Room ρ h.next h'.next) : Good P ρ h w (Instr.makeSlice t l' c') v h' := by
  unfold aMakeSlice at e
  rw [oget_some] at e; obtain ⟨i, hi, e⟩ := e
  split at e
  · rename_i el kl l kc c hu
    rw [oget_some] at e; obtain ⟨ei, hei, e⟩ := e
    rw [oget_some] at e; obtain ⟨z, hz, e⟩ := e
    rw [bif_some] at e
    obtain ⟨hcnd, e⟩ := e
    simp only [Bool.and_eq_true, decide_eq_true_eq] at hcnd
    obtain ⟨⟨⟨⟨⟨⟨⟨c1, c2⟩, c3⟩, c4⟩, c5⟩, c6⟩, c7⟩, c8⟩ := hcnd
    have c4 := of_blt c4
    have c5 := of_beq c5
    have c7 := of_blt c7
    have c8 := of_blt c8
    cases e
    simp [ren] at hl hc; subst hl; subst hc
    have hn : ρ h.next = none := room _ (Nat.le_refl _) (Nat.lt_succ_self _)
    rw [Array.length_toList] at c5
    have hzr := ren_cells (ok.zero hei hz ρ)
    obtain ⟨info, hinfo, _, hbytes, _⟩ := ok.run_typeInfo hei w
    have htoo : ∀ m : Int, 0 ≤ m → m ≤ c → (decide (m < 0) || decide ((ei.bytes : Int) * m > 2 ^ 48)) = false := by
      intro m h0 h1
      have hm : (ei.bytes : Int) * m ≤ (ei.bytes : Int) * (c.toNat : Int) := Int.mul_le_mul_of_nonneg_left (by omega) (Int.natCast_nonneg _)
      rw [← Int.natCast_mul, Nat.mul_comm] at hm
      simp only [Bool.or_eq_false_iff, decide_eq_false_iff_not]
      constructor
      · omega
      · omega
    have hlen : (repl z.cells.toList c.toNat).length = c.toNat * ei.size := by rw [repl_length, Array.length_toList, c5]
    refine ⟨_, _, .slice (some ⟨w.heap.size, 0, none⟩) l.toNat c.toNat, Step.newCells hr (renL_repl hzr c.toNat) c7 hn [] 0 0 (by simp) (fun _ => rfl) el (w' := { w with heap := w.heap.push (.cells ⟨repl z.cells.toList c.toNat⟩ el (0, 0)) }) (by simp) rfl rfl rfl hlen.symm _ (fun j hj => putNil_get (by omega) j (by omega)), by simp [ren, ins_self], ?_⟩
    have hwl : IntKind.i64.wrap l = l := wrap_small c1 (by omega)
    have hwc : IntKind.i64.wrap c = c := wrap_small (by omega) c3
    have hasl : (asInt (.int kl l)).run P w = .ok l w := rfl
    have hasc : (asInt (.int kc c)).run P w = .ok c w := rfl
    unfold Instr.makeSlice
    simp only [Sem.run_bind, ok.run_underlying hi, hu, Result.andThen_ok, hasl, hasc, hinfo, hbytes, hwl, hwc, htoo c (by omega) (Int.le_refl _), Bool.false_or, show decide (l < 0) = false from by simpa using c1, show decide (l > c) = false from by simpa using c2, Bool.false_eq_true, if_false, run_askRoom, ok.run_sizeOf hei]
    by_cases hz0 : c.toNat * ei.size = 0
    · have hnil : repl z.cells.toList c.toNat = [] := List.eq_nil_of_length_eq_zero (by rw [hlen]; exact hz0)
      simp only [hz0, if_true, Sem.run_bind, Sem.run_pure, Result.andThen_ok, run_newRow, hnil]
      have : (Array.range 0).map (fun i => (#[] : Array Value)[i % (#[] : Array Value).size]!) = ⟨[]⟩ := by simp
      rw [this]
    · simp only [hz0, if_false, Sem.run_bind, ok.run_zero hei hz, Result.andThen_ok, Sem.run_pure, run_newRow]
      rw [range_repl z.cells c.toNat (c.toNat * ei.size) (by rw [c5])]
  · cases e

/-! ### Literals -/
def PartsRel (ρ : Rn) : List (Nat × Value) → List (Nat × Value) → Prop
  | [], [] => True
  | (i, v) :: l, (j, u) :: m => i = j ∧ ren ρ v = some u ∧ PartsRel ρ l m
  | _, _ => False

theorem splice (cells : Array Value) (vs : List Value) (off : Nat) (h : off + vs.length ≤ cells.size) :
    (vs.zipIdx 0).foldl (fun cs (x : Value × Nat) => cs.setIfInBounds (off + x.2) x.1) cells = ⟨cells.toList.take off ++ vs ++ cells.toList.drop (off + vs.length)⟩ := by
  obtain ⟨g1, g2⟩ := Great.foldl_set off vs 0 cells
  apply Array.ext'
  apply List.ext_getElem?
  intro k
  rw [Array.getElem?_toList, g2 k]
  simp only [Nat.add_zero]
  by_cases h1 : k < off
  · rw [if_neg (by omega), List.append_assoc, List.getElem?_append_left (by simp; omega), List.getElem?_take, if_pos h1, Array.getElem?_toList]
  · by_cases h2 : k < off + vs.length
    · rw [if_pos (by omega), List.append_assoc, List.getElem?_append_right (by simp; omega), List.getElem?_append_left (by simp; omega)]
      congr 1
      simp; omega
    · rw [if_neg (by omega), List.append_assoc, List.getElem?_append_right (by simp; omega), List.getElem?_append_right (by simp; omega), List.getElem?_drop]
      rw [Array.getElem?_toList]
      congr 1
      simp; omega

theorem fillV_sound {ρ : Rn} {place : Nat → Option (Nat × Nat)} : ∀ {parts parts' : List (Nat × Value)} {cells cells' cs : List Value}, PartsRel ρ parts parts' → renL ρ cells = some cells' → fillV place cells parts = some cs →
    ∃ cs', renL ρ cs = some cs' ∧ Instr.fill place ⟨cells'⟩ parts' = some ⟨cs'⟩
  | [], [], cells, cells', cs, _, hc, e => by simp [fillV] at e; subst e; exact ⟨cells', hc, rfl⟩
  | [], _ :: _, _, _, _, hp, _, _ => hp.elim
  | _ :: _, [], _, _, _, hp, _, _ => hp.elim
  | (i, v) :: l, (j, u) :: m, cells, cells', cs, hp, hc, e => by
    obtain ⟨rfl, hv, hp⟩ := hp
    simp only [fillV] at e
    cases hpl : place i with
    | none => simp [hpl] at e
    | some os =>
      obtain ⟨off, size⟩ := os
      simp only [hpl, bif_some, Bool.and_eq_true] at e
      obtain ⟨⟨h1, h2⟩, e⟩ := e
      have h1 := of_beq h1
      have h2 := of_ble h2
      have hvc := ren_cells hv
      have hvl := renL_length hvc
      have hcl := renL_length hc
      obtain ⟨cs', r1, r2⟩ := fillV_sound hp (renL_append (renL_append (renL_take off hc) hvc) (renL_drop (off + size) hc)) e
      refine ⟨cs', r1, ?_⟩
      simp only [Instr.fill, hpl]
      have hus : u.cells.size = size := by rw [← Array.length_toList, hvl, h1]
      rw [if_neg (by simp [hus]; omega)]
      have : u.cells.zipIdx.foldl (fun cs (x : Value × Nat) => cs.setIfInBounds (off + x.2) x.1) (⟨cells'⟩ : Array Value) = ⟨cells'.take off ++ u.cells.toList ++ cells'.drop (off + size)⟩ := by
        rw [← Array.foldl_toList, Array.toList_zipIdx]
        rw [splice ⟨cells'⟩ u.cells.toList off (by simp [hus]; omega)]
        simp [hus]
      rw [← r2]
      exact congrArg (fun a => Instr.fill place a m) this

theorem packed_fill {size : Nat} : ∀ {parts : List (Nat × Value)} {k : Nat} {cs pre mid : List Value}, packed size k parts = some cs → pre.length = k * size → mid.length = parts.length * size →
    fillV (fun i => some (i * size, size)) (pre ++ mid) parts = some (pre ++ cs)
  | [], k, cs, pre, mid, e, h1, h2 => by
    simp [packed] at e; subst e
    have : mid = [] := List.eq_nil_of_length_eq_zero (by simpa using h2)
    subst this
    rfl
  | (i, v) :: l, k, cs, pre, mid, e, h1, h2 => by
    simp only [packed, bif_some, Bool.and_eq_true] at e
    obtain ⟨⟨hi, hs⟩, e⟩ := e
    rw [oget_some] at e; obtain ⟨rest, hr, e⟩ := e
    cases e
    have hi := of_beq hi
    have hs' := of_beq hs
    subst hi
    have h2' : mid.length = l.length * size + size := by rw [h2, List.length_cons, Nat.add_mul, Nat.one_mul]
    simp only [fillV]
    rw [hs, show Nat.ble (i * size + size) (pre ++ mid).length = true from Nat.ble_eq_true_of_le (by simp; omega)]
    simp only [Bool.and_self, cond_true]
    have a1 : (pre ++ mid).take (i * size) = pre := by rw [← h1]; simp
    have a2 : (pre ++ mid).drop (i * size + size) = mid.drop size := by rw [← h1, List.drop_append]; simp
    rw [a1, a2]
    have := packed_fill (pre := pre ++ v.cells.toList) (mid := mid.drop size) hr (by simp only [List.length_append]; rw [hs', h1, Nat.add_mul, Nat.one_mul]) (by simp; omega)
    rw [this, List.append_assoc]

theorem placesL_run (ok : Ok E P) (w : World) : ∀ {fs : List Field} {pl : List (Nat × Nat)}, placesL E fs = some pl → (fs.mapM fun f => (do pure (f.offset, ← sizeOf f.type) : Sem (Nat × Nat))).run P w = .ok pl w
  | [], pl, e => by simp [placesL] at e; subst e; simp
  | f :: fs, pl, e => by
    simp only [placesL] at e
    rw [oget_some] at e; obtain ⟨fi, hfi, e⟩ := e
    rw [oget_some] at e; obtain ⟨l, hl, e⟩ := e
    cases e
    have := placesL_run ok w hl
    simp only [List.mapM_cons, Sem.run_bind, ok.run_sizeOf hfi, Result.andThen_ok, Sem.run_pure, this]

theorem aBuild_sound (ok : Ok E P) {ρ : Rn} {w : World} {t : TypeId} {parts parts' : List (Nat × Value)} {v : Value} (hp : PartsRel ρ parts parts') (e : aBuild E t parts = some v) :
    ∃ v', ren ρ v = some v' ∧ (Instr.build t ⟨parts'⟩).run P w = .ok v' w := by
  unfold aBuild at e
  rw [oget_some] at e; obtain ⟨i, hi, e⟩ := e
  rw [oget_some] at e; obtain ⟨z, hz, e⟩ := e
  have hzr := ren_cells (ok.zero hi hz ρ)
  have arr : ∀ n el ei cs, i.und = .array n el → tInfo E el = some ei → fillV (fun i => some (i * ei.size, ei.size)) z.cells.toList parts = some cs →
      ∃ v', ren ρ (.agg ⟨cs⟩) = some v' ∧ (Instr.build t ⟨parts'⟩).run P w = .ok v' w := by
    intro n el ei cs hu hei hf
    obtain ⟨cs', h1, h2⟩ := fillV_sound hp hzr hf
    refine ⟨_, ren_agg.2 ⟨cs', h1, rfl⟩, ?_⟩
    unfold Instr.build
    simp only [Sem.run_bind, ok.run_zero hi hz, Result.andThen_ok, ok.run_underlying hi, hu, ok.run_sizeOf hei]
    have h2' : Instr.fill (fun i => some (i * ei.size, ei.size)) z.cells parts' = some ⟨cs'⟩ := by simpa using h2
    simp [h2']
  split at e
  · rename_i fs hu
    rw [oget_some] at e; obtain ⟨pl, hpl, e⟩ := e
    rw [oget_some] at e; obtain ⟨cs, hf, e⟩ := e
    cases e
    obtain ⟨cs', h1, h2⟩ := fillV_sound hp hzr hf
    refine ⟨_, ren_agg.2 ⟨cs', h1, rfl⟩, ?_⟩
    have hm := placesL_run ok w hpl
    unfold Instr.build
    simp only [Sem.run_bind, ok.run_zero hi hz, Result.andThen_ok, ok.run_underlying hi, hu, Array.mapM_eq_mapM_toList, Sem.run_map, hm]
    have h2' : Instr.fill (fun x => (pl.toArray : Array (Nat × Nat))[x]?) z.cells parts' = some ⟨cs'⟩ := by simpa using h2
    simp only [h2', Sem.run_pure]
  · rename_i n el hu
    rw [oget_some] at e; obtain ⟨ei, hei, e⟩ := e
    cases hc : (parts.length.beq n && z.cells.toList.length.beq (n * ei.size)) with
    | true =>
      simp only [hc, cond_true] at e
      simp only [Bool.and_eq_true] at hc
      split at e
      · rename_i cs hpk
        cases e
        refine arr n el ei cs hu hei ?_
        have := packed_fill (pre := []) (mid := z.cells.toList) hpk (by simp) (by rw [of_beq hc.2, of_beq hc.1])
        simpa using this
      · rw [oget_some] at e; obtain ⟨cs, hf, e⟩ := e
        cases e
        exact arr n el ei cs hu hei hf
    | false =>
      simp only [hc, cond_false] at e
      rw [oget_some] at e; obtain ⟨cs, hf, e⟩ := e
      cases e
      exact arr n el ei cs hu hei hf
  · cases e

theorem aBuildSlice_sound (ok : Ok E P) {ρ : Rn} {h h' : AH} {w : World} (hr : WRel ρ h w) {t : TypeId} {len : Nat} {parts parts' : List (Nat × Value)} {v : Value} (hp : PartsRel ρ parts parts') (e : aBuildSlice E t len parts h = some (v, h')) (room : Room ρ h.next h'.next) :
    Good P ρ h w (Instr.buildSlice t len ⟨parts'⟩) v h' := by
  unfold aBuildSlice at e
  rw [oget_some] at e; obtain ⟨i, hi, e⟩ := e
  split at e
  · rename_i el hu
    rw [oget_some] at e; obtain ⟨ei, hei, e⟩ := e
    rw [oget_some] at e; obtain ⟨z, hz, e⟩ := e
    rw [bif_some] at e
    obtain ⟨hc, e⟩ := e
    simp only [Bool.and_eq_true] at hc
    have c1 := of_beq hc.1
    have c2 := of_blt hc.2
    rw [Array.length_toList] at c1
    have hzr := ren_cells (ok.zero hei hz ρ)
    rw [oget_some] at e; obtain ⟨cs, hcs, e⟩ := e
    rw [bif_some] at e
    obtain ⟨hc2, e⟩ := e
    simp only [Bool.and_eq_true] at hc2
    cases e
    have hf : fillV (fun i => some (i * ei.size, ei.size)) (repl z.cells.toList len) parts = some cs := by
      split at hcs
      · rename_i cs0 hpk
        cases hcs
        cases hlen : parts.length.beq len with
        | false => simp [hlen] at hpk
        | true =>
          simp only [hlen, cond_true] at hpk
          have := packed_fill (pre := []) (mid := repl z.cells.toList len) hpk (by simp) (by rw [repl_length, Array.length_toList, c1, of_beq hlen])
          simpa using this
      · exact hcs
    obtain ⟨cs', h1, h2⟩ := fillV_sound hp (renL_repl hzr len) hf
    have hn : ρ h.next = none := room _ (Nat.le_refl _) (Nat.lt_succ_self _)
    refine ⟨_, _, .slice (some ⟨w.heap.size, 0, none⟩) len len, Step.newCells hr h1 (of_blt hc2.1.2) hn [] 0 0 (by simp) (fun _ => rfl) el (w' := { w with heap := w.heap.push (.cells ⟨cs'⟩ el (0, 0)) }) (by simp) rfl rfl rfl rfl _ (putNil_get (of_blt hc2.2)), by simp [ren, ins_self], ?_⟩
    unfold Instr.buildSlice
    simp only [Sem.run_bind, ok.run_underlying hi, hu, Result.andThen_ok, ok.run_sizeOf hei, show ¬ len * ei.size > 2 ^ 24 by omega, if_false]
    have harr : (Array.range (len * ei.size)).map (fun i => z.cells[i % z.cells.size]!) = ⟨repl z.cells.toList len⟩ := range_repl z.cells len _ (by rw [c1])
    by_cases h0 : len * ei.size = 0
    · have hnil : repl z.cells.toList len = [] := List.eq_nil_of_length_eq_zero (by rw [repl_length, Array.length_toList, c1]; exact h0)
      rw [hnil] at h2
      have harr0 : (Array.range 0).map (fun i => (#[] : Array Value)[i % (#[] : Array Value).size]!) = ⟨[]⟩ := by simp
      simp only [h0, if_true, Sem.run_bind, Sem.run_pure, Result.andThen_ok, harr0, h2, run_newRow]
    · simp only [h0, if_false, Sem.run_bind, ok.run_zero hei hz, Result.andThen_ok, Sem.run_pure, harr, h2, run_newRow]
  · cases e

end Go.Ev
end
section
/- A deterministic evaluator of the model's code over a memory of its own: conversions, comparisons, arithmetic. -/
namespace Go.Ev
variable {E : Env} {P : Program}

/-! ### Integers, texts, bools -/
theorem ren_int {ρ : Rn} {k : IntKind} {n : Int} {v' : Value} : ren ρ (.int k n) = some v' ↔ v' = .int k n := by simp [ren, eq_comm]
theorem ren_bool {ρ : Rn} {b : Bool} {v' : Value} : ren ρ (.bool b) = some v' ↔ v' = .bool b := by simp [ren, eq_comm]
theorem ren_string {ρ : Rn} {s : ByteArray} {v' : Value} : ren ρ (.string s) = some v' ↔ v' = .string s := by simp [ren, eq_comm]

theorem binInt_sound {op : BinOp} {t : TypeId} {k k' : IntKind} {a b : Int} {v : Value} (e : binInt op k k' a b = some v) (w : World) :
    (binOp op t (.int k a) (.int k' b)).run P w = .ok v w ∧ ∀ ρ, ren ρ v = some v := by
  unfold binInt at e
  have nn : ∀ b : Int, decide (b < 0) = false → ¬ b < 0 := fun b h => by simpa using h
  have nz : ∀ b : Int, decide (b = 0) = false → ¬ b = 0 := fun b h => by simpa using h
  split at e
  · cases hb : decide (b < 0) with
    | true => simp [hb] at e
    | false =>
      simp only [hb, cond_false, Option.some.injEq] at e; subst e
      exact ⟨by simp [binOp, Op.shift, nn b hb], fun ρ => by simp [ren]⟩
  · cases hb : decide (b < 0) with
    | true => simp [hb] at e
    | false =>
      simp only [hb, cond_false, Option.some.injEq] at e; subst e
      exact ⟨by simp [binOp, Op.shift, nn b hb], fun ρ => by simp [ren]⟩
  · rename_i hs1 hs2
    split at e
    · cases e
    · rename_i hk
      have hk := of_decide_eq_true hk
      subst hk
      split at e
      all_goals first
        | (simp only [Option.some.injEq] at e; subst e; exact ⟨by simp [binOp, Op.intArith, Op.intBits, Op.intCmp], fun ρ => by simp [ren]⟩)
        | (cases hb : decide (b = 0) with
            | true => simp [hb] at e
            | false =>
              simp only [hb, cond_false, Option.some.injEq] at e; subst e
              exact ⟨by simp [binOp, Op.intDiv, nz b hb], fun ρ => by simp [ren]⟩)
        | cases e

theorem bytesLt_eq : ∀ (a b : List UInt8), Op.bytesLess a b = bytesLt a b
  | _, [] => by cases ‹List UInt8› <;> simp [Op.bytesLess, bytesLt]
  | [], _ :: _ => by simp [Op.bytesLess, bytesLt]
  | a :: x, b :: y => by simp [Op.bytesLess, bytesLt, bytesLt_eq x y]

theorem str_append (a b : ByteArray) : a ++ b = ⟨⟨a.data.toList ++ b.data.toList⟩⟩ := by
  apply ByteArray.ext
  apply Array.ext'
  simp

theorem binStr_sound {op : BinOp} {t : TypeId} {a b : ByteArray} {v : Value} (e : binStr op a b = some v) (w : World) :
    (binOp op t (.string a) (.string b)).run P w = .ok v w ∧ ∀ ρ, ren ρ v = some v := by
  unfold binStr at e
  split at e
  · simp only [bif_some, Option.some.injEq] at e
    obtain ⟨h, rfl⟩ := e
    have h := of_blt h
    have : ¬ (((a.size + b.size : Nat) : Int) > IntKind.i64.max) := by
      show ¬ (((a.size + b.size : Nat) : Int) > 9223372036854775807)
      have e1 : a.data.toList.length = a.size := by simp
      have e2 : b.data.toList.length = b.size := by simp
      omega
    refine ⟨?_, fun ρ => by simp [ren]⟩
    simp only [binOp, Op.stringOp, Sem.run_ite, this, if_false, Sem.run_pure, str_append]
  all_goals first
    | (simp only [Option.some.injEq] at e; subst e; exact ⟨by simp [binOp, Op.stringOp, ByteArray.toList_eq, bytesLt_eq], fun ρ => by simp [ren]⟩)
    | cases e

theorem sameN_sound {u : TypeDesc} {x y : Value} {b : Bool} (e : sameN u x y = some b) {t : TypeId} (ht : P.underlying t = some u) (d : Nat) (w : World) :
    (Op.equalIn (d + 1) t x y).run P w = .ok b w := by
  unfold sameN at e
  split at e
  · rw [bif_some] at e
    obtain ⟨hk, e⟩ := e
    have hk := of_decide_eq_true hk
    cases e; subst hk
    exact run_equalIn_int w d t _ _ _ _ ht
  · cases e
    rw [run_equalIn_string w d t _ _ ht, ByteArray.toList_eq, ByteArray.toList_eq]
  · cases e
    exact run_equalIn_bool' w d t _ _ ht
  · cases e

theorem sameN_ren {u : TypeDesc} {x y : Value} {b : Bool} (e : sameN u x y = some b) (ρ : Rn) : ren ρ x = some x ∧ ren ρ y = some y := by
  unfold sameN at e
  split at e <;> first | exact ⟨by simp [ren], by simp [ren]⟩ | cases e

theorem isAgg_keyOk {u : TypeDesc} (h : keyOk u = true) : isAggD u = false := by cases u <;> simp [keyOk] at h <;> rfl

theorem run_isAgg_of {t : TypeId} {u : TypeDesc} (h : P.underlying t = some u) (w : World) : (isAgg t).run P w = .ok (isAggD u) w := by
  unfold isAgg isAggD
  simp only [Sem.run_bind, Go.run_underlying h, Result.andThen_ok]
  cases u <;> rfl

theorem eqScals_len : ∀ {us : List TypeDesc} {xs ys : List Value} {b : Bool}, eqScals us xs ys = some b → xs.length = us.length ∧ ys.length = us.length
  | [], [], [], _, _ => ⟨rfl, rfl⟩
  | [], _ :: _, _, _, e => by simp [eqScals] at e
  | [], [], _ :: _, _, e => by simp [eqScals] at e
  | _ :: _, [], _, _, e => by simp [eqScals] at e
  | _ :: _, _ :: _, [], _, e => by simp [eqScals] at e
  | u :: us, x :: l, y :: l', b, e => by
    simp only [eqScals] at e
    split at e
    · have := eqScals_len e; simp [this.1, this.2]
    · rw [bif_some] at e
      obtain ⟨h, _⟩ := e
      simp only [Bool.and_eq_true] at h
      simp [of_beq h.1, of_beq h.2]

theorem eqFields_sound (d : Nat) (xs ys : List Value) (w : World) : ∀ {fs : List Field} {us : List TypeDesc} {k : Nat} {b : Bool}, fieldsOk P k fs = some us → eqScals us (xs.drop k) (ys.drop k) = some b →
    (Op.eqFields (d + 1) ⟨xs⟩ ⟨ys⟩ fs).run P w = .ok b w
  | [], us, k, b, hf, e => by
    simp [fieldsOk] at hf; subst hf
    have := eqScals_len e
    rw [List.eq_nil_of_length_eq_zero this.1, List.eq_nil_of_length_eq_zero this.2] at e
    simp [eqScals] at e; subst e
    simp [Op.eqFields]
  | f :: fs, us, k, b, hf, e => by
    simp only [fieldsOk, bif_some, Bool.and_eq_true] at hf
    obtain ⟨⟨hn, ho⟩, hf⟩ := hf
    have ho := of_beq ho
    split at hf
    · rename_i u hu
      rw [bif_some] at hf
      obtain ⟨hk, hf⟩ := hf
      rw [oget_some] at hf; obtain ⟨l, hl, hf⟩ := hf
      cases hf
      have hlen := eqScals_len e
      cases hx : xs.drop k with
      | nil => rw [hx] at hlen; simp at hlen
      | cons x xl =>
        cases hy : ys.drop k with
        | nil => rw [hy] at hlen; simp at hlen
        | cons y yl =>
          rw [hx, hy] at e
          have gx : xs[k]? = some x := by have := congrArg (·[0]?) hx; simpa using this
          have gy : ys[k]? = some y := by have := congrArg (·[0]?) hy; simpa using this
          have px : (part f.type ⟨xs⟩ f.offset).run P w = .ok x w := by
            simp only [part, Sem.run_bind, run_isAgg_of hu, isAgg_keyOk hk, Result.andThen_ok, Bool.false_eq_true, if_false, ho]
            simp [gx]
          have py : (part f.type ⟨ys⟩ f.offset).run P w = .ok y w := by
            simp only [part, Sem.run_bind, run_isAgg_of hu, isAgg_keyOk hk, Result.andThen_ok, Bool.false_eq_true, if_false, ho]
            simp [gy]
          have hne : f.name ≠ "_" := by simpa using hn
          have dx : xs.drop (k + 1) = xl := by rw [← List.drop_drop, hx]; rfl
          have dy : ys.drop (k + 1) = yl := by rw [← List.drop_drop, hy]; rfl
          simp only [Op.eqFields, hne, if_true, ne_eq, not_false_eq_true, Sem.run_bind, px, py, Result.andThen_ok]
          simp only [eqScals] at e
          split at e
          · rename_i hs
            simp only [sameN_sound hs hu d w, Result.andThen_ok, Bool.not_true, Bool.false_eq_true, if_false]
            exact eqFields_sound d xs ys w hl (by rw [dx, dy]; exact e)
          · rename_i hs
            rw [bif_some] at e
            obtain ⟨_, e⟩ := e
            cases b with
            | true => exact absurd e hs
            | false => simp [sameN_sound e hu d w]
    · cases hf

theorem skey_spec (ok : Ok E P) {t : TypeId} {i : TInfo} (hi : tInfo E t = some i) {us : List TypeDesc} (hs : i.skey = some us) : ∃ fs, i.und = .struct fs ∧ P.stoodInHeld t = false ∧ fieldsOk P 0 fs.toList = some us := by
  obtain ⟨_, info, _, _, _, _, h⟩ := ok.und hi
  rw [hs] at h
  unfold skeyOf at h
  split at h
  · rename_i fs hu
    cases hst : P.stoodInHeld t with
    | true => simp [hst] at h
    | false => exact ⟨fs, hu, rfl, by simpa [hst] using h⟩
  · cases h

theorem equal_struct (ok : Ok E P) {t : TypeId} {i : TInfo} (hi : tInfo E t = some i) {us : List TypeDesc} (hs : i.skey = some us) {xs ys : List Value} {b : Bool} (e : eqScals us xs ys = some b) (d : Nat) (w : World) :
    (Op.equalIn (d + 2) t (.agg ⟨xs⟩) (.agg ⟨ys⟩)).run P w = .ok b w := by
  obtain ⟨fs, hu, hst, hf⟩ := skey_spec ok hi hs
  have hund := (ok.und hi).1
  rw [hu] at hund
  have hfo : P.fieldsOf t = fs := by simp [Program.fieldsOf, hund]
  rw [run_equalIn_struct w (d + 1) t ⟨xs⟩ ⟨ys⟩ (by rw [hfo]; exact hund) hst, hfo]
  exact eqFields_sound d xs ys w hf (by simpa using e)

theorem eqGuard_fields : ∀ (d : Nat) {fs : List Field} {us : List TypeDesc} {k : Nat}, fieldsOk P k fs = some us → (fs.any fun f => f.name != "_" && P.eqGuardType (d + 1) f.type) = false
  | d, [], us, k, _ => rfl
  | d, f :: fs, us, k, h => by
    simp only [fieldsOk, bif_some, Bool.and_eq_true] at h
    obtain ⟨_, h⟩ := h
    split at h
    · rename_i u hu
      rw [bif_some] at h
      obtain ⟨hk, h⟩ := h
      rw [oget_some] at h; obtain ⟨l, hl, h⟩ := h
      simp only [List.any_cons, eqGuard_fields d hl, Bool.or_false]
      have : P.eqGuardType (d + 1) f.type = false := by
        simp only [Program.eqGuardType, hu]
        cases u <;> simp [keyOk] at hk <;> rfl
      simp [this]
    · cases h

theorem eqGuard_struct (ok : Ok E P) {t : TypeId} {i : TInfo} (hi : tInfo E t = some i) {us : List TypeDesc} (hs : i.skey = some us) : P.eqGuardType P.depth t = false := by
  obtain ⟨fs, hu, _, hf⟩ := skey_spec ok hi hs
  have hund := (ok.und hi).1
  rw [hu] at hund
  have hd : P.depth = (2 * (P.types.size + Made.depth)) + 1 + 1 := rfl
  rw [hd]
  have := eqGuard_fields (P := P) (2 * (P.types.size + Made.depth)) hf
  rw [Program.eqGuardType, hund]
  simpa [← Array.any_toList] using this

/-- Equality of what is no number and no text. -/
theorem eqV_sound {ρ : Rn} {h : AH} {w : World} (hr : WRel ρ h w) {u : TypeDesc} {t : TypeId} (hu : P.underlying t = some u) {x y x' y' : Value} (hx : ren ρ x = some x') (hy : ren ρ y = some y') {b : Bool} (e : eqV h u x y = some b)
    (hsz : ∀ el, u = .pointer el → (∃ n, (sizeOf el).run P w = .ok n w ∧ n ≠ 0) ∨ (∃ a, x = .pointer none ∨ y = .pointer none ∧ a = ())) (d : Nat) : (Op.equalIn (d + 1) t x' y').run P w = .ok b w := by
  have hun := Go.run_underlying hu w
  unfold eqV at e
  split at e
  · cases e
    rw [ren_bool.1 hx, ren_bool.1 hy]
    exact run_equalIn_bool' w d t _ _ hu
  · rename_i el p
    cases e
    simp [ren] at hx; subst hx
    rcases p with _ | ⟨pb, po, _ | _⟩
    · simp [ren] at hy; subst hy; simp [Op.equalIn, hun]
    · obtain ⟨c, s, x0, _, rfl⟩ := ren_ptr hy; simp [Op.equalIn, hun]
    · simp [ren, Rn.addr] at hy
  · rename_i el p
    cases e
    simp [ren] at hy; subst hy
    obtain ⟨pb, po, _ | _⟩ := p
    · obtain ⟨c, s, x0, _, rfl⟩ := ren_ptr hx; simp [Op.equalIn, hun]
    · simp [ren, Rn.addr] at hx
  · cases e
    simp [ren] at hx hy; subst hx
    obtain ⟨v, _, rfl⟩ := hy
    simp [Op.equalIn, hun]
  · cases e
    simp [ren] at hx hy; subst hy
    obtain ⟨v, _, rfl⟩ := hx
    simp [Op.equalIn, hun]
  · rename_i el l1 c1 p l2 c2
    cases e
    simp [ren] at hx; subst hx
    rcases p with _ | ⟨pb, po, _ | _⟩
    · simp [ren] at hy; subst hy; simp [Op.equalIn, hun]
    · obtain ⟨c, s, x0, _, rfl⟩ := ren_slice hy; simp [Op.equalIn, hun]
    · simp [ren] at hy
  · rename_i el p l1 c1 l2 c2
    cases e
    simp [ren] at hy; subst hy
    obtain ⟨pb, po, _ | _⟩ := p
    · obtain ⟨c, s, x0, _, rfl⟩ := ren_slice hx; simp [Op.equalIn, hun]
    · simp [ren] at hx
  · rename_i k el p
    cases e
    simp [ren] at hx; subst hx
    cases p with
    | none => simp [ren] at hy; subst hy; simp [Op.equalIn, hun]
    | some r => simp [ren] at hy; obtain ⟨a, c, s, _, rfl⟩ := hy; simp [Op.equalIn, hun]
  · rename_i k el p
    cases e
    simp [ren] at hy hx; subst hy
    obtain ⟨a, c, s, _, rfl⟩ := hx
    simp [Op.equalIn, hun]
  · cases e
    simp [ren] at hx hy; subst hx; subst hy
    simp [Op.equalIn, hun]
  · rename_i fn a c
    cases e
    simp [ren] at hx; subst hx
    have : ∃ fn' a' c', y' = .func fn' a' c' := by
      cases fn <;> simp only [ren] at hy
      · split at hy <;> simp at hy; exact ⟨_, _, _, hy.symm⟩
      · cases hy
      · cases hy
      · cases hy
      · split at hy <;> simp at hy; exact ⟨_, _, _, hy.symm⟩
    obtain ⟨fn', a', c', rfl⟩ := this
    simp [Op.equalIn, hun]
  · rename_i fn a c
    cases e
    simp [ren] at hy; subst hy
    have : ∃ fn' a' c', x' = .func fn' a' c' := by
      cases fn <;> simp only [ren] at hx
      · split at hx <;> simp at hx; exact ⟨_, _, _, hx.symm⟩
      · cases hx
      · cases hx
      · cases hx
      · split at hx <;> simp at hx; exact ⟨_, _, _, hx.symm⟩
    obtain ⟨fn', a', c', rfl⟩ := this
    simp [Op.equalIn, hun]
  · rename_i el pb po pb' po'
    split at e
    · rename_i n1 t1 e1 o1 n2 t2 e2 o2 hb1 hb2
      simp only [bif_some, Bool.and_eq_true, Option.some.injEq] at e
      obtain ⟨⟨l1, l2⟩, rfl⟩ := e
      obtain ⟨c, s, x0, hρ, rfl⟩ := ren_ptr hx
      obtain ⟨c', s', x0', hρ', rfl⟩ := ren_ptr hy
      obtain ⟨C, lo, hi, a1, a2, _, _, _, a6⟩ := hr.blk pb _ hb1 c s x0 hρ
      obtain ⟨C', lo', hi', b1, b2, _, _, _, b6⟩ := hr.blk pb' _ hb2 c' s' x0' hρ'
      have a6 := a6.1 rfl
      have b6 := b6.1 rfl
      rcases hsz el rfl with ⟨n, hn, hn0⟩ | ⟨_, hh⟩
      · simp only [Op.equalIn, Sem.run_bind, hun, Result.andThen_ok, hn, hn0, if_true, ne_eq, not_false_eq_true]
        have hc : c = c' ↔ pb = pb' := by
          constructor
          · intro e; subst e; exact hr.inj pb pb' _ _ hb1 hb2 rfl rfl _ _ _ _ _ hρ hρ'
          · intro e; subst e; rw [hρ] at hρ'; cases hρ'; rfl
        unfold sameAddr
        by_cases hbb : pb = pb'
        · have hcc := hc.2 hbb
          subst hbb; subst hcc
          rw [hρ] at hρ'; cases hρ'
          simp only [beq_self_eq_true, if_true, Sem.run_pure]
          congr 1
          rw [beqT rfl, Bool.true_and]
          by_cases ho : po = po'
          · subst ho; simp [beqT]
          · simp [beqF ho, ho]
        · have hcc : ¬ c = c' := fun e => hbb (hc.1 e)
          have f1 : w.frozen? ⟨c, s + po, none⟩ = false := by
            simp only [World.frozen?, a1]
            by_cases hh : lo ≤ s + po
            · have : ¬ s + po < hi := by omega
              simp [this]
            · simp [hh]
          have f1e : w.frozen? { block := c, off := C.size } = false := by
            simp only [World.frozen?, a1]
            by_cases hh : lo ≤ C.size
            · have : ¬ C.size < hi := by omega
              simp [this]
            · simp [hh]
          have f2 : w.frozen? ⟨c', s' + po', none⟩ = false := by
            simp only [World.frozen?, b1]
            by_cases hh : lo' ≤ s' + po'
            · have : ¬ s' + po' < hi' := by omega
              simp [this]
            · simp [hh]
          have f2e : w.frozen? { block := c', off := C'.size } = false := by
            simp only [World.frozen?, b1]
            by_cases hh : lo' ≤ C'.size
            · have : ¬ C'.size < hi' := by omega
              simp [this]
            · simp [hh]
          have sh1 : w.shape? c = some (e1, C.size) := by simp [World.shape?, a1]
          have sh2 : w.shape? c' = some (e2, C'.size) := by simp [World.shape?, b1]
          simp [hcc, f1, f2, noView, viewAt, sh1, sh2, mayBeOne, stringish, f1e, f2e, beqF hbb]
      · rcases hh with hh | ⟨hh, _⟩ <;> cases hh
    · cases e
  · cases e

end Go.Ev
end
section
/- A deterministic evaluator of the model's code over a memory of its own: operators, conversions, maps. -/
namespace Go.Ev
variable {E : Env} {P : Program}

def numV : Value → Bool
  | .int _ _ | .float _ _ | .complex _ _ _ | .string _ => true
  | _ => false

theorem binOp_eql (t : TypeId) (x y : Value) (h : numV x = false) : binOp .eql t x y = (do pure (.bool (← Op.equal t x y))) := by
  cases x <;> first | rfl | (simp [numV] at h)
theorem binOp_neq (t : TypeId) (x y : Value) (h : numV x = false) : binOp .neq t x y = (do pure (.bool (!(← Op.equal t x y)))) := by
  cases x <;> first | rfl | (simp [numV] at h)

/-- What is neither two structs nor two nil interface values needs no look ahead. -/
theorem eqGuard_other {op : BinOp} {t : TypeId} {x y : Operand} {a b : Value} (h1 : ¬ (a = .nilIface ∧ b = .nilIface)) (h2 : ∀ l m, ¬ (a = .agg l ∧ b = .agg m)) (w : World) : (eqGuard op t x y a b).run P w = .ok () w := by
  cases op <;> first
    | rfl
    | (cases a <;> cases b <;> first
        | rfl
        | exact absurd ⟨rfl, rfl⟩ h1
        | exact absurd ⟨rfl, rfl⟩ (h2 _ _))

theorem nil_equal (d : Nat) {t : TypeId} {ms : Array (String × TypeId)} (hu : P.underlying t = some (.interface ms)) (w : World) : (Op.equalIn (d + 1) t .nilIface .nilIface).run P w = .ok true w := by
  simp [Op.equalIn, Go.run_underlying hu w]

theorem eqV_num {h : AH} {u : TypeDesc} {x y : Value} {b : Bool} (e : eqV h u x y = some b) {ρ : Rn} {x' y' : Value} (hx : ren ρ x = some x') (hy : ren ρ y = some y') : numV x' = false ∧ ¬ (x' = .nilIface ∧ y' = .nilIface) ∧ ∀ l m, ¬ (x' = .agg l ∧ y' = .agg m) := by
  have ptr : ∀ {p : Option Addr} {v' : Value}, ren ρ (.pointer p) = some v' → ∃ q, v' = .pointer q := fun {p} {v'} h => by
    cases p with
    | none => simp [ren] at h; exact ⟨_, h.symm⟩
    | some a => simp [ren] at h; obtain ⟨q, _, rfl⟩ := h; exact ⟨_, rfl⟩
  have sl : ∀ {p : Option Addr} {l c : Nat} {v' : Value}, ren ρ (.slice p l c) = some v' → ∃ q l c, v' = .slice q l c := fun {p} {l} {c} {v'} h => by
    rcases p with _ | ⟨pb, po, _ | _⟩
    · simp [ren] at h; exact ⟨_, _, _, h.symm⟩
    · obtain ⟨c, s, x0, _, rfl⟩ := ren_slice h; exact ⟨_, _, _, rfl⟩
    · simp [ren] at h
  have mp : ∀ {p : Option Nat} {v' : Value}, ren ρ (.map p) = some v' → ∃ q, v' = .map q := fun {p} {v'} h => by
    cases p with
    | none => simp [ren] at h; exact ⟨_, h.symm⟩
    | some a => simp [ren] at h; obtain ⟨a, _, _, _, rfl⟩ := h; exact ⟨_, rfl⟩
  have fn : ∀ {f : Fn} {a c : Array Value} {v' : Value}, ren ρ (.func f a c) = some v' → ∃ f a c, v' = .func f a c := fun {f} {a} {c} {v'} h => by
    cases f <;> simp only [ren] at h
    · split at h <;> simp at h; exact ⟨_, _, _, h.symm⟩
    · cases h
    · cases h
    · cases h
    · split at h <;> simp at h; exact ⟨_, _, _, h.symm⟩
  unfold eqV at e
  split at e
  · rw [ren_bool.1 hx]; simp [numV]
  · obtain ⟨q, rfl⟩ := ptr hx; simp [numV]
  · obtain ⟨q, rfl⟩ := ptr hx; simp [numV]
  · simp [ren] at hx hy; subst hx; obtain ⟨v, _, rfl⟩ := hy; simp [numV]
  · simp [ren] at hx hy; subst hy; obtain ⟨v, _, rfl⟩ := hx; simp [numV]
  · obtain ⟨q, l, c, rfl⟩ := sl hx; simp [numV]
  · obtain ⟨q, l, c, rfl⟩ := sl hx; simp [numV]
  · obtain ⟨q, rfl⟩ := mp hx; simp [numV]
  · obtain ⟨q, rfl⟩ := mp hx; simp [numV]
  · simp [ren] at hx; subst hx; simp [numV]
  · simp [ren] at hx; subst hx; simp [numV]
  · obtain ⟨f, a, c, rfl⟩ := fn hx; simp [numV]
  · obtain ⟨q, rfl⟩ := ptr hx; simp [numV]
  · cases e

theorem aBin_sound (ok : Ok E P) {ρ : Rn} {h : AH} {w : World} (hr : WRel ρ h w) {op : BinOp} {t : TypeId} {xo yo : Operand} {x y x' y' v : Value} (hx : ren ρ x = some x') (hy : ren ρ y = some y') (e : aBin E op t (isCon xo || isCon yo) x y h = some v) :
    ∃ v', ren ρ v = some v' ∧ (do eqGuard op t xo yo x' y'; binOp op t x' y' : Sem Value).run P w = .ok v' w := by
  have hsz : ∀ {i : TInfo}, ptrOk E i.und x y = true → ∀ el, i.und = .pointer el → (∃ n, (sizeOf el).run P w = .ok n w ∧ n ≠ 0) ∨ (∃ a, x = .pointer none ∨ y = .pointer none ∧ a = ()) := by
    intro i hp el hu
    have isNil : ∀ {x : Value}, nilP x = true → x = .pointer none := fun {x} hh => by
      unfold nilP at hh
      split at hh
      · rfl
      · cases hh
    unfold ptrOk at hp
    rw [hu] at hp
    simp only [Bool.or_eq_true] at hp
    rcases hp with (hp | hp) | hp
    · exact .inr ⟨(), .inl (isNil hp)⟩
    · exact .inr ⟨(), .inr ⟨isNil hp, rfl⟩⟩
    · split at hp
      · rename_i ei hei
        exact .inl ⟨ei.size, ok.run_sizeOf hei w, Nat.pos_iff_ne_zero.1 (of_blt hp)⟩
      · cases hp
  have other : ∀ (i : TInfo) (b : Bool), tInfo E t = some i → ptrOk E i.und x y = true → eqV h i.und x y = some b →
      (do eqGuard .eql t xo yo x' y'; binOp .eql t x' y' : Sem Value).run P w = .ok (.bool b) w ∧ (do eqGuard .neq t xo yo x' y'; binOp .neq t x' y' : Sem Value).run P w = .ok (.bool (!b)) w := by
    intro i b hi hp he
    obtain ⟨n1, n2, n3⟩ := eqV_num he hx hy
    have hq := eqV_sound hr (ok.und hi).1 hx hy he (hsz hp) 9999
    have hq' : (Op.equal t x' y').run P w = .ok b w := hq
    constructor
    · simp only [Sem.run_bind, eqGuard_other n2 n3, Result.andThen_ok, binOp_eql t x' y' n1, hq', Sem.run_pure]
    · simp only [Sem.run_bind, eqGuard_other n2 n3, Result.andThen_ok, binOp_neq t x' y' n1, hq', Sem.run_pure]
  unfold aBin at e
  split at e
  · rw [ren_int.1 hx, ren_int.1 hy]
    obtain ⟨r1, r2⟩ := binInt_sound (t := t) e w (P := P)
    exact ⟨v, r2 ρ, by rw [Sem.run_bind, eqGuard_other (by simp) (by simp)]; exact r1⟩
  · rw [ren_string.1 hx, ren_string.1 hy]
    obtain ⟨r1, r2⟩ := binStr_sound (t := t) e w (P := P)
    exact ⟨v, r2 ρ, by rw [Sem.run_bind, eqGuard_other (by simp) (by simp)]; exact r1⟩
  · simp [ren] at hx hy; subst hx; subst hy
    have two : ∀ b, nilTwo E (isCon xo || isCon yo) t b = some v → v = .bool b ∧ (∃ ms, P.underlying t = some (.interface ms)) ∧ ((∃ c, xo = .const c) ∨ ∃ c, yo = .const c) := by
      intro b hb
      unfold nilTwo at hb
      rw [oget_some] at hb; obtain ⟨i, hi, hb⟩ := hb
      split at hb
      · rename_i ms hu hcon
        cases hb
        refine ⟨rfl, ⟨ms, by rw [(ok.und hi).1, hu]⟩, ?_⟩
        have : (isCon xo || isCon yo) = true := by assumption
        rcases Bool.or_eq_true_iff.1 this with hh | hh
        · cases xo <;> simp [isCon] at hh
          exact .inl ⟨_, rfl⟩
        · cases yo <;> simp [isCon] at hh
          exact .inr ⟨_, rfl⟩
      · cases hb
    split at e
    · obtain ⟨rfl, ⟨ms, hu⟩, hc⟩ := two true e
      refine ⟨.bool true, by simp [ren], ?_⟩
      have hq : (Op.equal t .nilIface .nilIface).run P w = .ok true w := nil_equal 9999 hu w
      have hg : ∀ op, (eqGuard op t xo yo .nilIface .nilIface).run P w = .ok () w := by
        intro op
        rcases hc with ⟨c, rfl⟩ | ⟨c, rfl⟩
        · cases op <;> rfl
        · cases op <;> cases xo <;> rfl
      simp only [Sem.run_bind, hg, Result.andThen_ok, binOp_eql t .nilIface .nilIface rfl, hq, Sem.run_pure]
    · obtain ⟨rfl, ⟨ms, hu⟩, hc⟩ := two false e
      refine ⟨.bool false, by simp [ren], ?_⟩
      have hq : (Op.equal t .nilIface .nilIface).run P w = .ok true w := nil_equal 9999 hu w
      have hg : ∀ op, (eqGuard op t xo yo .nilIface .nilIface).run P w = .ok () w := by
        intro op
        rcases hc with ⟨c, rfl⟩ | ⟨c, rfl⟩
        · cases op <;> rfl
        · cases op <;> cases xo <;> rfl
      simp only [Sem.run_bind, hg, Result.andThen_ok, binOp_neq t .nilIface .nilIface rfl, hq, Sem.run_pure]
      rfl
    · cases e
  · rename_i l l'
    rw [oget_some] at e; obtain ⟨i, hi, e⟩ := e
    rw [oget_some] at e; obtain ⟨us, hs, e⟩ := e
    have hg := eqGuard_struct ok hi hs
    obtain ⟨m, hm, rfl⟩ := ren_agg.1 hx
    obtain ⟨m', hm', rfl⟩ := ren_agg.1 hy
    have same : ∀ {us : List TypeDesc} {l l' : List Value} {b : Bool}, eqScals us l l' = some b → ∀ {m m' : List Value}, renL ρ l = some m → renL ρ l' = some m' → eqScals us m m' = some b := by
      intro us
      induction us with
      | nil =>
        intro l l' b he m m' h1 h2
        have := eqScals_len he
        obtain rfl := List.eq_nil_of_length_eq_zero this.1
        obtain rfl := List.eq_nil_of_length_eq_zero this.2
        rw [renL_nil.1 h1, renL_nil.1 h2]
        exact he
      | cons u us ih =>
        intro l l' b he m m' h1 h2
        cases l with
        | nil => simp [eqScals] at he
        | cons a l => cases l' with
          | nil => simp [eqScals] at he
          | cons a' l' =>
            obtain ⟨q, ml, k1, k2, rfl⟩ := renL_cons.1 h1
            obtain ⟨q', ml', k1', k2', rfl⟩ := renL_cons.1 h2
            have hl1 := renL_length k2
            have hl2 := renL_length k2'
            simp only [eqScals] at he ⊢
            split at he
            · rename_i hsn
              obtain ⟨s1, s2⟩ := sameN_ren hsn ρ
              rw [s1] at k1; rw [s2] at k1'; cases k1; cases k1'
              rw [hsn]
              have := ih he k2 k2'
              simpa using this
            · rename_i hsn
              rw [bif_some] at he
              obtain ⟨hb, he⟩ := he
              obtain ⟨s1, s2⟩ := sameN_ren he ρ
              rw [s1] at k1; rw [s2] at k1'; cases k1; cases k1'
              split
              · rename_i hh; exact absurd hh hsn
              · rw [bif_some, hl1, hl2]; exact ⟨hb, he⟩
    have hq : ∀ b, eqScals us l l' = some b → (Op.equalIn 10000 t (.agg ⟨m⟩) (.agg ⟨m'⟩)).run P w = .ok b w := fun b hb => equal_struct ok hi hs (same hb hm hm') 9998 w
    split at e
    · rw [oget_some] at e; obtain ⟨b, hb, e⟩ := e
      cases e
      refine ⟨.bool b, by simp [ren], ?_⟩
      rw [Sem.run_bind, run_eqGuard_agg w _ _ _ _ _ _ hg, Result.andThen_ok, run_eql_struct, hq b hb]
      rfl
    · rw [oget_some] at e; obtain ⟨b, hb, e⟩ := e
      cases e
      refine ⟨.bool (!b), by simp [ren], ?_⟩
      rw [Sem.run_bind, run_eqGuard_agg w _ _ _ _ _ _ hg, Result.andThen_ok, run_neq_struct, hq b hb]
      rfl
    · cases e
  · split at e
    · rw [oget_some] at e; obtain ⟨i, hi, e⟩ := e
      rw [bif_some] at e; obtain ⟨hp, e⟩ := e
      rw [oget_some] at e; obtain ⟨b, hb, e⟩ := e
      cases e
      exact ⟨.bool b, by simp [ren], (other i b hi hp hb).1⟩
    · rw [oget_some] at e; obtain ⟨i, hi, e⟩ := e
      rw [bif_some] at e; obtain ⟨hp, e⟩ := e
      rw [oget_some] at e; obtain ⟨b, hb, e⟩ := e
      cases e
      exact ⟨.bool (!b), by simp [ren], (other i b hi hp hb).2⟩
    · cases e

theorem aUn_sound {ρ : Rn} {w : World} {op : UnOp} {x x' v : Value} (hx : ren ρ x = some x') (e : aUn op x = some v) : ∃ v', ren ρ v = some v' ∧ (Op.unary op x').run P w = .ok v' w := by
  unfold aUn at e
  split at e
  · cases e; rw [ren_bool.1 hx]; exact ⟨_, ren_bool.2 rfl, rfl⟩
  · cases e; rw [ren_int.1 hx]; exact ⟨_, ren_int.2 rfl, rfl⟩
  · rename_i k n
    rw [ren_int.1 hx]
    have : v = .int k (k.wrap (BitVec.ofInt k.bits (if k.signed then -1 else k.max) ^^^ BitVec.ofInt k.bits n).toNat) := by
      simp [binInt] at e
      exact e.symm
    subst this
    exact ⟨_, ren_int.2 rfl, rfl⟩
  · cases e

end Go.Ev
end
section
/- A deterministic evaluator of the model's code over a memory of its own: conversions, maps, builtins. -/
namespace Go.Ev
variable {E : Env} {P : Program}

theorem bytesV_spec : ∀ {vs : List Value} {bs : List UInt8}, bytesV vs = some bs → ∃ ns : List Int, vs = ns.map (Value.int .u8) ∧ bs = ns.map fun n => UInt8.ofNat n.toNat
  | [], bs, e => by simp [bytesV] at e; subst e; exact ⟨[], rfl, rfl⟩
  | v :: l, bs, e => by
    cases v with
    | int k n =>
      cases k <;> simp only [bytesV] at e <;> try cases e
      rw [oget_some] at e; obtain ⟨b, hb, e⟩ := e
      cases e
      obtain ⟨ns, h1, h2⟩ := bytesV_spec hb
      exact ⟨n :: ns, by simp [h1], by simp [h2]⟩
    | _ => simp [bytesV] at e

theorem foldl_push (ns : List Int) : ∀ (r : ByteArray), ns.foldl (fun r n => r.push (UInt8.ofNat n.toNat)) r = ⟨⟨r.data.toList ++ ns.map fun n => UInt8.ofNat n.toNat⟩⟩ := by
  induction ns with
  | nil => intro r; simp
  | cons n ns ih =>
    intro r
    simp only [List.foldl_cons, ih]
    congr 2
    simp [ByteArray.push]

theorem plainL_ints (k : IntKind) (ns : List Int) : plainL (ns.map (Value.int k)) = true := by
  induction ns with
  | nil => rfl
  | cons n l ih => simp [plainL, plainZ, ih]

theorem rowAt_whole (fits : TypeId → Bool) (d : Nat) {e : TypeId} {n : Nat} (hc : P.cellsOf e = n) (hn : 0 < n) (hf : fits e = true) : rowAt P fits (d + 1) e 1 0 1 = true := by
  have : P.cellsOf e ≠ 0 := by omega
  simp [rowAt, this, hf]

theorem liesAt_whole {e : TypeId} (hn : 0 < P.cellsOf e) : liesAt P P.depth e 1 0 e 1 = true := by
  have hd : P.depth = (2 * (P.types.size + Made.depth) + 1) + 1 := rfl
  rw [hd]
  simp only [liesAt, Bool.or_eq_true]
  left
  rw [hd]
  exact rowAt_whole _ _ rfl hn (by simp [sameLayout])

theorem liesAt_row {e : TypeId} (hc : P.cellsOf e = 1) (count off n : Nat) (hn : off + n ≤ count) : liesAt P P.depth e count off e n = true := by
  have hd : P.depth = (2 * (P.types.size + Made.depth) + 1) + 1 := rfl
  rw [hd]
  simp only [liesAt, Bool.or_eq_true]
  left
  rw [hd]
  simp [rowAt, hc, hn, sameLayout, Nat.mod_one]

theorem Ok.cellsOf (ok : Ok E P) {t : TypeId} {i : TInfo} (h : tInfo E t = some i) : P.cellsOf t = i.size := by
  obtain ⟨_, info, h1, h2, _⟩ := ok.und h
  simp [Program.cellsOf, h1, h2]

theorem aConvert_sound (ok : Ok E P) {ρ : Rn} {h h' : AH} {w : World} (hr : WRel ρ h w) {src dst : TypeId} {x x' v : Value} (hx : ren ρ x = some x') (e : aConvert E src dst x h = some (v, h')) (room : Room ρ h.next h'.next) :
    Good P ρ h w (convert src dst x') v h' := by
  unfold aConvert at e
  rw [oget_some] at e; obtain ⟨si, hsi, e⟩ := e
  rw [oget_some] at e; obtain ⟨di, hdi, e⟩ := e
  have hs := ok.run_underlying hsi w
  have hd := ok.run_underlying hdi w
  split at e
  · rename_i k0 k k1 n hu1 hu2
    cases e
    rw [ren_int.1 hx]
    refine Good.same hr (v' := .int k (k.wrap n)) (by simp [ren]) ?_
    simp only [convert, Sem.run_bind, hs, hd, hu1, hu2, Result.andThen_ok]
    rfl
  · rename_i s hu1 hu2
    cases e
    rw [ren_string.1 hx]
    refine Good.same hr (v' := .string s) (by simp [ren]) ?_
    simp only [convert, Sem.run_bind, hs, hd, hu1, hu2, Result.andThen_ok]
    rfl
  · rename_i el l c hu1 hu2
    rw [oget_some] at e; obtain ⟨ei, hei, e⟩ := e
    split at e
    · rename_i hu3
      cases e
      simp [ren] at hx; subst hx
      refine Good.same hr (v' := .string ⟨⟨[]⟩⟩) (by simp [ren]) ?_
      simp only [convert, Sem.run_bind, hs, hd, hu1, hu2, Result.andThen_ok, ok.run_underlying hei w, hu3]
      rfl
    · cases e
  · rename_i el b off len cp hu1 hu2
    rw [oget_some] at e; obtain ⟨ei, hei, e⟩ := e
    split at e
    · rename_i hu3
      rw [oget_some] at e; obtain ⟨blk, hb, e⟩ := e
      rw [oget_some] at e; obtain ⟨vs, hvs, e⟩ := e
      rw [oget_some] at e; obtain ⟨bs, hbs, e⟩ := e
      cases e
      obtain ⟨c, s, x0, hρ, rfl⟩ := ren_slice hx
      obtain ⟨vs', h1, h2, h3⟩ := (hr.blk b blk hb c s x0 hρ).row hvs
      obtain ⟨ns, rfl, rfl⟩ := bytesV_spec hbs
      rw [plainL_ren ρ _ (plainL_ints .u8 ns)] at h1
      cases h1
      refine Good.same hr (v' := .string ⟨⟨ns.map fun n => UInt8.ofNat n.toNat⟩⟩) (by simp [ren]) ?_
      have := run_bytesToString (P := P) w ⟨c, s + off, none⟩ len (cp + x0) ns (run_row' h2 h3)
      simp only [convert, Sem.run_bind, hs, hd, hu1, hu2, Result.andThen_ok, ok.run_underlying hei w, hu3, this, foldl_push]
      simp
    · cases e
  · rename_i el s hu1 hu2
    rw [oget_some] at e; obtain ⟨ei, hei, e⟩ := e
    split at e
    · rename_i hu3
      rw [bif_some] at e; obtain ⟨hc, e⟩ := e
      simp only [Bool.and_eq_true] at hc
      cases e
      have hcap := of_blt hc.1
      have hlen := of_blt hc.2
      rw [ren_string.1 hx]
      have hn : ρ h.next = none := room _ (Nat.le_refl _) (Nat.lt_succ_self _)
      obtain ⟨t, ht⟩ : ∃ t, w.tape w.drawn (.appendCap s.size 0 el) = t := ⟨_, rfl⟩
      have hch : (choose (.appendCap s.size 0 el)).run P w = .ok (s.size + t % (2 ^ 63 - s.size)) { w with drawn := w.drawn + 1 } := by
        simp [run_choose, Question.forced, Question.cut, ht]
      obtain ⟨k, hk⟩ : ∃ k, t % (2 ^ 63 - s.size) = k := ⟨_, rfl⟩
      rw [hk] at hch
      obtain ⟨cs, hcs⟩ : ∃ cs, s.data.toList.map (fun (b : UInt8) => Value.int .u8 b.toNat) = cs := ⟨_, rfl⟩
      have hcl : cs.length = s.data.toList.length := by rw [← hcs]; simp
      have hcr : renL ρ cs = some cs := by rw [← hcs]; exact plainL_ren ρ _ (plainL_bytes _)
      have hsub : Sub ρ (ρ.ins h.next (w.heap.size, 0, k)) := Rn.sub_ins hn
      rw [hcs]
      let C : Array Value := ⟨cs ++ List.replicate k (Value.int .u8 0)⟩
      have hCs : C.size = s.data.toList.length + k := by simp [C, hcl]
      let w' : World := { w with drawn := w.drawn + 1, heap := w.heap.push (.cells C el (C.size, C.size + 1)) }
      have hsd : s.data.toList.length = s.size := by simp
      refine ⟨ρ.ins h.next (w.heap.size, 0, k), w', .slice (some ⟨w.heap.size, 0, none⟩) s.data.toList.length (s.data.toList.length + k), ?_, by simp [ren, ins_self], ?_⟩
      · refine Step.new hr hn hcap rfl ?_ (by simp [w']) (fun _ => Nat.le_refl _) (fun j hj => by simp [w', Array.getElem?_push, Nat.ne_of_lt hj]) rfl rfl rfl
        refine ⟨C, C.size, C.size + 1, by simp [w'], by rw [hCs]; omega, by simp, fun i hi => ?_, fun i hi => by omega, by simp⟩
        have hi' : i < cs.length := by omega
        obtain ⟨u', k1, k2⟩ := renL_get hcr i cs[i] (List.getElem?_eq_getElem hi')
        refine ⟨cs[i], u', ?_, ren_mono hsub _ _ k1, ?_⟩
        · rw [putNil_get (by have : cap = 1099511627776 := rfl; omega) i hi']
          exact List.getElem?_eq_getElem hi'
        · simp only [Nat.zero_add, C, List.getElem?_toArray]
          rw [List.getElem?_append_left hi']
          exact k2
      · have hrow : (newRow el C).run P { w with drawn := w.drawn + 1 } = .ok ⟨w.heap.size, 0, none⟩ { w with drawn := w.drawn + 1, heap := w.heap.push (.cells C el (0, 0)) } := by rw [run_newRow]
        have hmark : (markStringish ⟨w.heap.size, 0, none⟩).run P { w with drawn := w.drawn + 1, heap := w.heap.push (.cells C el (0, 0)) } = .ok () w' := by
          unfold markStringish
          have hsh : World.shape? { w with drawn := w.drawn + 1, heap := w.heap.push (.cells C el (0, 0)) } w.heap.size = some (el, C.size) := by simp [World.shape?]
          simp only [Sem.run_bind, run_shape, hsh, Result.andThen_ok, run_freeze]
          congr 1
          simp only [World.freeze, w']
          rw [if_neg (by omega)]
          congr 1
          apply Array.ext'
          apply List.ext_getElem?
          intro j
          simp only [Array.getElem?_toList, Array.getElem?_modify, Array.getElem?_push]
          by_cases hj : j = w.heap.size
          · subst hj; simp
          · have : ¬ w.heap.size = j := fun e => hj e.symm
            simp [this, hj]
        have hrep : s.data.map (fun (b : UInt8) => Value.int .u8 b.toNat) ++ Array.replicate (s.size + k - s.size) (Value.int .u8 0) = C := by
          apply Array.ext'
          simp [C, ← hcs]
        simp only [convert, Sem.run_bind, hs, hd, hu1, hu2, Result.andThen_ok, ok.run_underlying hei w, hu3, Conv.stringToBytes, hch]
        rw [hrep]
        simp only [hrow, Result.andThen_ok, hmark, Sem.run_pure, hsd]
    · cases e
  · rename_i el b off hu1 hu2
    rw [oget_some] at e; obtain ⟨ei, hei, e⟩ := e
    split at e
    · rename_i n t0 e0 o0 w0 hb
      rw [bif_some] at e; obtain ⟨hc, e⟩ := e
      simp only [Bool.and_eq_true] at hc
      cases e
      obtain ⟨c, s, x0, hρ, rfl⟩ := ren_ptr hx
      obtain ⟨C, lo, hi, b1, b2, _⟩ := hr.blk b _ hb c s x0 hρ
      have hlt := of_blt hc.1
      have hsz := of_blt hc.2
      refine Good.same hr (v' := .pointer (some ⟨c, s + off, none⟩)) (by simp [ren, Rn.addr, hρ]) ?_
      have hsh : w.shape? c = some (e0, C.size) := by simp [World.shape?, b1]
      simp only [convert, Sem.run_bind, hs, hd, hu1, hu2, Result.andThen_ok, Conv.unsafePointer, Conv.seenAt, viewAt, run_shape, hsh, Option.isSome_some, if_true, Sem.run_pure, cellsIn, ok.run_sizeOf hei w]
      have h1 : ¬ ei.size = 0 := by omega
      have h2 : ¬ C.size ≤ s + off := by omega
      simp [h1, h2]
    · cases e
  · rename_i el b off hu1 hu2
    rw [oget_some] at e; obtain ⟨ei, hei, e⟩ := e
    split at e
    · rename_i n t0 e0 o0 w0 hb
      rw [bif_some] at e; obtain ⟨hc, e⟩ := e
      simp only [Bool.and_eq_true] at hc
      obtain ⟨⟨⟨⟨c1, c2⟩, c3⟩, c4⟩, c5⟩ := hc
      have c1 := of_beq c1
      have c2 := of_beq c2
      have c3 := of_beq c3
      have c4 := of_beq c4
      have c5 := of_blt c5
      cases e
      subst c1; subst c2
      obtain ⟨c, s, x0, hρ, rfl⟩ := ren_ptr hx
      obtain ⟨C, lo, hi, b1, b2, b3, b4, b5, b6, b7⟩ := hr.blk b _ hb c s x0 hρ
      have hx0 := b3 c4
      have hs0 := b7 c4
      subst hx0; subst hs0
      have hCs : C.size = P.cellsOf e0 := by rw [ok.cellsOf hei]; omega
      have hpos : 0 < P.cellsOf e0 := by rw [ok.cellsOf hei]; exact c5
      refine Good.same hr (v' := .pointer (some ⟨c, 0 + 0, none⟩)) (by simp [ren, Rn.addr, hρ]) ?_
      have hsh : w.shape? c = some (e0, C.size) := by simp [World.shape?, b1]
      have hdiv : C.size / P.cellsOf e0 = 1 := by rw [hCs]; exact Nat.div_self hpos
      have hne : ¬ ei.size = 0 := by omega
      have hvar : (variablesAt ⟨c, 0, none⟩ e0 1).run P w = .ok true w := by
        simp only [variablesAt, Sem.run_bind, run_program, run_shape, hsh, Result.andThen_ok, Sem.run_pure, hdiv, liesAt_whole hpos]
      simp only [convert, Sem.run_bind, hs, hd, hu1, hu2, Result.andThen_ok, Conv.unsafePointer, Conv.seenAt, viewAt, run_shape, hsh, Option.isSome_some, if_true, Sem.run_pure, ok.run_sizeOf hei w, hne, if_false, Nat.add_zero, hvar]
      simp
    · cases e
  · cases e

end Go.Ev
end
