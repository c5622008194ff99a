/- A deterministic evaluator of the model's code over a memory of its own: rules on regions that draw their order. -/
import Derived.Test.YthhohhbkeaghnaaEVzi
import Derived.IntWalk
set_option linter.unusedSimpArgs false
set_option linter.unusedVariables false
set_option linter.unusedSectionVars false
namespace Go.Ev
variable {E : Env} {ft : Tr AFunc} {P : Program} {c : Ctx} {s : St} {C : CallS}

/-- The plan of a region: places, and what must be done ahead. -/
def planI (ops : Array Oper) : Option (List (Nat × Nat)) := (plan ops).map fun l => l.map fun p => (p.1, p.2.2)

def nthOp (l : List Oper) (i : Nat) : Option Oper := l[i]?

theorem zipIx_nth : ∀ {os : List Oper} {ms : List Nat} {k : Nat} {x : PO}, x ∈ zipIx k os ms → ∃ j, x.1 = k + j ∧ os[j]? = some x.2.1
  | [], _, _, _, h => by simp [zipIx] at h
  | _ :: _, [], _, _, h => by simp [zipIx] at h
  | o :: os, m :: ms, k, x, h => by
    simp only [zipIx] at h
    rcases List.mem_cons.1 h with e | h
    · subst e; exact ⟨0, rfl, rfl⟩
    · obtain ⟨j, h1, h2⟩ := zipIx_nth h
      exact ⟨j + 1, by omega, by simpa using h2⟩

/-- The operations at their places. -/
def fetch (l : List Oper) : List (Nat × Nat) → Option (List PO)
  | [] => some []
  | p :: ps => oget (nthOp l p.1) fun o => oget (fetch l ps) fun r => some ((p.1, o, p.2) :: r)

theorem fetch_of {l : List Oper} : ∀ {x : List PO}, (∀ p ∈ x, l[p.1]? = some p.2.1) → fetch l (x.map fun p => (p.1, p.2.2)) = some x
  | [], _ => rfl
  | p :: x, h => by
    have h1 := h p List.mem_cons_self
    have h2 := fetch_of (l := l) (x := x) fun q hq => h q (List.mem_cons_of_mem _ hq)
    simp only [List.map_cons, fetch, nthOp, h1, h2, oget]

noncomputable def drawL (E : Env) (ft : Tr AFunc) (c : Ctx) (all : Array Oper) (l : List PO) (ws : List Watch) (s : St) : Out := evDraw E (CL E ft) c all l ws s
noncomputable def drawF (E : Env) (ft : Tr AFunc) (c : Ctx) (all : Array Oper) (s : St) : Option (List PO) → Out
  | some l => drawL E ft c all l [] s
  | none => .fail
@[go_sem] theorem drawF_some {all : Array Oper} {l : List PO} : drawF E ft c all s (some l) = drawL E ft c all l [] s := rfl

/-- A region that draws, by its plan. -/
theorem drw (id : Nat) (l : List (Nat × Nat)) {ops : Array Oper} (h : planI ops = some l) : evC E ft c (.region id ops true) s = drawF E ft c ops s (fetch ops.toList l) := by
  unfold planI at h
  cases hp : plan ops with
  | none => rw [hp] at h; cases h
  | some x =>
    rw [hp] at h; cases h
    rw [evC_draw hp]
    have hm : ∀ p ∈ x, ops.toList[p.1]? = some p.2.1 := by
      intro p hpm
      have hp2 := hp
      unfold plan at hp2
      simp only [] at hp2
      cases hb : ((orderOps (zipIx 0 ops.toList (Region.before ops).toList).length 0 (zipIx 0 ops.toList (Region.before ops).toList)).length.beq ops.size && seqOk ops.size 0 (orderOps (zipIx 0 ops.toList (Region.before ops).toList).length 0 (zipIx 0 ops.toList (Region.before ops).toList)) && pairsOk ops (orderOps (zipIx 0 ops.toList (Region.before ops).toList).length 0 (zipIx 0 ops.toList (Region.before ops).toList)) && ((orderOps (zipIx 0 ops.toList (Region.before ops).toList).length 0 (zipIx 0 ops.toList (Region.before ops).toList)).all fun x => noSel x.2.1 && x.2.2.beq (orBits (Region.before ops).toList x.2.1.after.toList))) with
      | false => rw [hb] at hp2; cases hp2
      | true =>
        rw [hb] at hp2; cases hp2
        obtain ⟨j, h1, h2⟩ := zipIx_nth (orderOps_mem hpm)
        rw [h1, Nat.zero_add]; exact h2
    rw [fetch_of hm]; rfl

attribute [go_sem] fetch nthOp

/-- What comes of an operation of a region that draws. -/
noncomputable def dStep (E : Env) (ft : Tr AFunc) (c : Ctx) (all : Array Oper) (i : Nat) (o : Oper) (m : Nat) (l : List PO) (ws : List Watch) (s : St) : Cls → Out
  | .strict => bif checkW E s.h ws then (match evOp E (CL E ft) c o s with
      | .val v s => oOut (putD s o.dst v) fun s => drawL E ft c all l (moreW m ws) s
      | _ => .fail) else .fail
  | .read => oOut (aval E o (evalO E.ng s.r) s.h) fun x => bif x.2.next.beq s.h.next then oOut (putD s o.dst x.1) fun s' => drawL E ft c all l (⟨i, o, s.r, x.1⟩ :: ws) s' else .fail
  | _ => oOut (aval E o (evalO E.ng s.r) s.h) fun x => oOut (putD { s with h := x.2 } o.dst x.1) fun s => drawL E ft c all l ws s
noncomputable def dSkip (E : Env) (ft : Tr AFunc) (c : Ctx) (all : Array Oper) (o : Oper) (m : Nat) (l : List PO) (ws : List Watch) (s : St) : Bool → Out
  | true => bif checkW E s.h ws then oOut (putD s o.dst undef') fun s => drawL E ft c all l (moreW m ws) s else .fail
  | false => oOut (putD s o.dst undef') fun s => drawL E ft c all l ws s
noncomputable def dGuard (E : Env) (ft : Tr AFunc) (c : Ctx) (all : Array Oper) (i : Nat) (o : Oper) (m : Nat) (l : List PO) (ws : List Watch) (s : St) : Option Bool → Out
  | some true => dStep E ft c all i o m l ws s (clsOf o.op)
  | some false => dSkip E ft c all o m l ws s (isStrict o)
  | none => .fail

@[go_sem ↓] theorem drawL_nil {all : Array Oper} {ws : List Watch} : drawL E ft c all [] ws s = bif checkW E s.h ws then .nor s else .fail := rfl

theorem drawL_any {all : Array Oper} {i : Nat} {o : Oper} {m : Nat} {l : List PO} {ws : List Watch} (hc : checkW E s.h ws = true ∨ wantedT o all s.r ≠ none) : drawL E ft c all ((i, o, m) :: l) ws s = dGuard E ft c all i o m l ws s (wantedT o all s.r) := by
  unfold drawL
  rw [evDraw]
  unfold dGuard dStep dSkip
  simp only []
  cases hs : isStrict o with
  | true =>
    have hcl : clsOf o.op = .strict := by
      unfold isStrict at hs
      split at hs
      · assumption
      · cases hs
    simp only [hcl]
    cases hb : checkW E s.h ws with
    | false =>
      rcases hc with h | h
      · rw [hb] at h; cases h
      · cases hw : wantedT o all s.r with
        | none => exact absurd hw h
        | some b => cases b <;> rfl
    | true =>
      simp only [cond_true]
      cases hw : wantedT o all s.r with
      | none => rfl
      | some b => cases b with
        | false => rfl
        | true => simp only []; cases evOp E (CL E ft) c o s <;> rfl
  | false =>
    have hcl : clsOf o.op ≠ .strict := by
      intro h
      unfold isStrict at hs
      rw [h] at hs; cases hs
    simp only []
    cases hw : wantedT o all s.r with
    | none => rfl
    | some b => cases b with
      | false => rfl
      | true =>
        simp only []
        cases hx : aval E o (evalO E.ng s.r) s.h with
        | none => cases hk : clsOf o.op <;> first | rfl | exact absurd hk hcl
        | some x => cases hk : clsOf o.op <;> first | rfl | exact absurd hk hcl

@[go_sem ↓] theorem drawL_cons {all : Array Oper} {i : Nat} {dst : Option Tmp} {op : Op} {ty : TypeId} {pos : String} {after : Array Edge} {m : Nat} {l : List PO} {ws : List Watch} :
    drawL E ft c all ((i, ⟨dst, op, ty, pos, after, none⟩, m) :: l) ws s = dStep E ft c all i ⟨dst, op, ty, pos, after, none⟩ m l ws s (clsOf op) := drawL_any (.inr (by simp [wantedT]))

theorem wantedT_when {dst : Option Tmp} {op : Op} {ty : TypeId} {pos : String} {after : Array Edge} {j : Nat} {want : Bool} {all : Array Oper} {r : Tr Value} :
    wantedT ⟨dst, op, ty, pos, after, some (j, want)⟩ all r = whenV want (oget (dstAt all j) r.get) := by
  simp only [wantedT, dstAt]
  cases (all.toList[j]?).bind (·.dst) with
  | none => rfl
  | some d =>
    simp only [oget]
    unfold whenV
    rfl

/-- A guarded one. -/
noncomputable def dWhen (E : Env) (ft : Tr AFunc) (c : Ctx) (all : Array Oper) (i : Nat) (o : Oper) (m : Nat) (l : List PO) (ws : List Watch) (s : St) : Option Bool → Out
  | some true => dStep E ft c all i o m l ws s (clsOf o.op)
  | some false => dSkip E ft c all o m l ws s (isStrict o)
  | none => drawL E ft c all ((i, o, m) :: l) ws s
@[go_sem ↓] theorem dWhen_true {all : Array Oper} {i : Nat} {o : Oper} {m : Nat} {l : List PO} {ws : List Watch} : dWhen E ft c all i o m l ws s (some true) = dStep E ft c all i o m l ws s (clsOf o.op) := rfl
@[go_sem ↓] theorem dWhen_false {all : Array Oper} {i : Nat} {o : Oper} {m : Nat} {l : List PO} {ws : List Watch} : dWhen E ft c all i o m l ws s (some false) = dSkip E ft c all o m l ws s (isStrict o) := rfl
theorem dWhen_if {all : Array Oper} {i : Nat} {o : Oper} {m : Nat} {l : List PO} {ws : List Watch} {b : Bool} : dWhen E ft c all i o m l ws s (some b) = if b = true then dWhen E ft c all i o m l ws s (some true) else dWhen E ft c all i o m l ws s (some false) := by cases b <;> rfl
@[go_sem ↓] theorem drawL_guard {all : Array Oper} {i : Nat} {dst : Option Tmp} {op : Op} {ty : TypeId} {pos : String} {after : Array Edge} {j : Nat} {want : Bool} {m : Nat} {l : List PO} {ws : List Watch} :
    drawL E ft c all ((i, ⟨dst, op, ty, pos, after, some (j, want)⟩, m) :: l) ws s = dWhen E ft c all i ⟨dst, op, ty, pos, after, some (j, want)⟩ m l ws s (whenV want (oget (dstAt all j) s.r.get)) := by
  cases hw : whenV want (oget (dstAt all j) s.r.get) with
  | none => rfl
  | some b =>
    have := wantedT_when (dst := dst) (op := op) (ty := ty) (pos := pos) (after := after) (j := j) (want := want) (all := all) (r := s.r)
    rw [drawL_any (.inr (by rw [this, hw]; simp)), this, hw]
    cases b <;> rfl

/-- What comes of a strict one. -/
noncomputable def dOp (E : Env) (ft : Tr AFunc) (c : Ctx) (all : Array Oper) (o : Oper) (m : Nat) (l : List PO) (ws : List Watch) : OpR → Out
  | .val v s => oOut (putD s o.dst v) fun s => drawL E ft c all l (moreW m ws) s
  | _ => .fail
theorem dOp_val {all : Array Oper} {o : Oper} {m : Nat} {l : List PO} {ws : List Watch} {v : Value} : dOp E ft c all o m l ws (.val v s) = oOut (putD s o.dst v) fun s => drawL E ft c all l (moreW m ws) s := rfl
noncomputable def dRead (E : Env) (ft : Tr AFunc) (c : Ctx) (all : Array Oper) (i : Nat) (o : Oper) (l : List PO) (ws : List Watch) (s : St) (x : Option (Value × AH)) : Out :=
  oOut x fun x => bif x.2.next.beq s.h.next then oOut (putD s o.dst x.1) fun s' => drawL E ft c all l (⟨i, o, s.r, x.1⟩ :: ws) s' else .fail
theorem dRead_some {all : Array Oper} {i : Nat} {o : Oper} {l : List PO} {ws : List Watch} {v : Value} {h : AH} : dRead E ft c all i o l ws s (some (v, h)) = bif h.next.beq s.h.next then oOut (putD s o.dst v) fun s' => drawL E ft c all l (⟨i, o, s.r, v⟩ :: ws) s' else .fail := rfl
noncomputable def dPure (E : Env) (ft : Tr AFunc) (c : Ctx) (all : Array Oper) (o : Oper) (l : List PO) (ws : List Watch) (s : St) (x : Option (Value × AH)) : Out :=
  oOut x fun x => oOut (putD { s with h := x.2 } o.dst x.1) fun s => drawL E ft c all l ws s
theorem dPure_some {all : Array Oper} {o : Oper} {l : List PO} {ws : List Watch} {v : Value} {h : AH} {r : Tr Value} {n : Nat} {d : List Deferred} {h0 : AH} {rc : Bool} : dPure E ft c all o l ws ⟨r, n, d, h0, rc⟩ (some (v, h)) = oOut (putD ⟨r, n, d, h, rc⟩ o.dst v) fun s => drawL E ft c all l ws s := rfl
@[go_sem] theorem dStep_strict {all : Array Oper} {i : Nat} {o : Oper} {m : Nat} {l : List PO} {ws : List Watch} : dStep E ft c all i o m l ws s .strict = bif checkW E s.h ws then dOp E ft c all o m l ws (evOp E (CL E ft) c o s) else .fail := by
  unfold dStep
  simp only []
  cases evOp E (CL E ft) c o s <;> rfl
@[go_sem] theorem dStep_read {all : Array Oper} {i : Nat} {o : Oper} {m : Nat} {l : List PO} {ws : List Watch} : dStep E ft c all i o m l ws s .read = dRead E ft c all i o l ws s (aval E o (evalO E.ng s.r) s.h) := rfl
@[go_sem] theorem dStep_pure {all : Array Oper} {i : Nat} {o : Oper} {m : Nat} {l : List PO} {ws : List Watch} : dStep E ft c all i o m l ws s .pure = dPure E ft c all o l ws s (aval E o (evalO E.ng s.r) s.h) := rfl
@[go_sem] theorem dStep_alloc {all : Array Oper} {i : Nat} {o : Oper} {m : Nat} {l : List PO} {ws : List Watch} : dStep E ft c all i o m l ws s .alloc = dPure E ft c all o l ws s (aval E o (evalO E.ng s.r) s.h) := rfl
theorem dSkip_true {all : Array Oper} {o : Oper} {m : Nat} {l : List PO} {ws : List Watch} : dSkip E ft c all o m l ws s true = bif checkW E s.h ws then oOut (putD s o.dst undef') fun s => drawL E ft c all l (moreW m ws) s else .fail := rfl
theorem dSkip_false {all : Array Oper} {o : Oper} {m : Nat} {l : List PO} {ws : List Watch} : dSkip E ft c all o m l ws s false = oOut (putD s o.dst undef') fun s => drawL E ft c all l ws s := rfl
variable {all : Array Oper} {i d : Nat} {o : Oper} {m : Nat} {l : List PO} {ws : List Watch} {v : Value} {r : Tr Value} {n : Nat} {ds : List Deferred} {h h' : AH} {rc : Bool}
/-- A result laid where it belongs. -/
noncomputable def dPut (E : Env) (ft : Tr AFunc) (c : Ctx) (all : Array Oper) (l : List PO) (ws : List Watch) (s : St) (dst : Option Tmp) (v : Value) : Out := oOut (putD s dst v) fun s => drawL E ft c all l ws s
@[go_sem ↓] theorem dPut_none : dPut E ft c all l ws s none v = drawL E ft c all l ws s := rfl
@[go_sem ↓] theorem dPut_some : dPut E ft c all l ws ⟨r, n, ds, h, rc⟩ (some d) v = if d < n ∧ n < cap then drawL E ft c all l ws ⟨r.put d v, n, ds, h, rc⟩ else .fail := by
  unfold dPut; rw [putD_some']; split <;> rfl
@[go_sem ↓] theorem dOp_val' : dOp E ft c all o m l ws (.val v s) = dPut E ft c all l (moreW m ws) s o.dst v := rfl
@[go_sem ↓] theorem dPure_some' : dPure E ft c all o l ws ⟨r, n, ds, h', rc⟩ (some (v, h)) = dPut E ft c all l ws ⟨r, n, ds, h, rc⟩ o.dst v := rfl
@[go_sem ↓] theorem dRead_some' : dRead E ft c all i o l ws s (some (v, h)) = bif h.next.beq s.h.next then dPut E ft c all l (⟨i, o, s.r, v⟩ :: ws) s o.dst v else .fail := rfl
@[go_sem ↓] theorem dSkip_true' : dSkip E ft c all o m l ws s true = bif checkW E s.h ws then dPut E ft c all l (moreW m ws) s o.dst undef' else .fail := rfl
@[go_sem ↓] theorem dSkip_false' : dSkip E ft c all o m l ws s false = dPut E ft c all l ws s o.dst undef' := rfl
@[congr] theorem dOp_cg {x y : OpR} (e : x = y) : dOp E ft c all o m l ws x = dOp E ft c all o m l ws y := by rw [e]
@[congr] theorem dPure_cg {x y : Option (Value × AH)} (e : x = y) : dPure E ft c all o l ws s x = dPure E ft c all o l ws s y := by rw [e]
@[congr] theorem dRead_cg {x y : Option (Value × AH)} (e : x = y) : dRead E ft c all i o l ws s x = dRead E ft c all i o l ws s y := by rw [e]
@[congr] theorem dStep_cg {x y : Cls} (e : x = y) : dStep E ft c all i o m l ws s x = dStep E ft c all i o m l ws s y := by rw [e]
@[congr] theorem dSkip_cg {x y : Bool} (e : x = y) : dSkip E ft c all o m l ws s x = dSkip E ft c all o m l ws s y := by rw [e]
@[congr] theorem dWhen_cg {x y : Option Bool} (e : x = y) : dWhen E ft c all i o m l ws s x = dWhen E ft c all i o m l ws s y := by rw [e]
@[congr] theorem drawF_cg {x y : Option (List PO)} (e : x = y) : drawF E ft c all s x = drawF E ft c all s y := by rw [e]
@[congr] theorem bif_cg {α : Type} {a b : Bool} {x y : α} (e : a = b) : (bif a then x else y) = bif b then x else y := by rw [e]
attribute [go_sem] clsOf isStrict

/-! ### Readings that are looked at again -/
def chk (h : AH) (v : Value) : Option (Value × AH) → Bool
  | some (v', h') => veq v' v && h'.next.beq h.next
  | none => false
@[go_sem] theorem chk_some {h h' : AH} {v v' : Value} : chk h v (some (v', h')) = (veq v' v && h'.next.beq h.next) := rfl
@[go_sem] theorem checkW_nil {h : AH} : checkW E h [] = true := rfl
@[go_sem] theorem checkW_cons {h : AH} {i : Nat} {o : Oper} {r : Tr Value} {v : Value} {ws : List Watch} : checkW E h (⟨i, o, r, v⟩ :: ws) = (chk h v (aval E o (evalO E.ng r) h) && checkW E h ws) := by
  rw [checkW]
  unfold chk
  simp only []
  split <;> rename_i he <;> rw [he]
@[go_sem] theorem moreW_nil {m : Nat} : moreW m [] = [] := rfl
@[go_sem] theorem moreW_cons {m i : Nat} {o : Oper} {r : Tr Value} {v : Value} {ws : List Watch} : moreW m (⟨i, o, r, v⟩ :: ws) = if m / 2 ^ i % 2 = 1 then moreW m ws else ⟨i, o, r, v⟩ :: moreW m ws := by
  rw [moreW, Nat.testBit_eq_decide_div_mod_eq]
  by_cases h : m / 2 ^ i % 2 = 1 <;> simp [h]
@[go_sem] theorem veq_bool {a : Bool} : veq (.bool a) (.bool a) = true := by simp [veq]
@[go_sem] theorem veq_int {k : IntKind} {a : Int} : veq (.int k a) (.int k a) = true := by simp [veq]
@[go_sem] theorem veq_string {s : ByteArray} : veq (.string s) (.string s) = true := by simp [veq]
@[go_sem] theorem veq_ptr0 : veq (.pointer none) (.pointer none) = true := rfl
@[go_sem] theorem veq_ptr {b o : Nat} : veq (.pointer (some ⟨b, o, none⟩)) (.pointer (some ⟨b, o, none⟩)) = true := by simp [veq]
@[go_sem] theorem veq_slice0 {l c : Nat} : veq (.slice none l c) (.slice none l c) = true := by simp [veq]
@[go_sem] theorem veq_slice {b o l c : Nat} : veq (.slice (some ⟨b, o, none⟩) l c) (.slice (some ⟨b, o, none⟩) l c) = true := by simp [veq]
@[go_sem] theorem veq_map0 : veq (.map none) (.map none) = true := rfl
@[go_sem] theorem veq_map {r : Nat} : veq (.map (some r)) (.map (some r)) = true := by simp [veq]
@[go_sem] theorem veq_agg {l l' : List Value} : veq (.agg ⟨l⟩) (.agg ⟨l'⟩) = veq.veqs l l' := by simp [veq]
@[go_sem] theorem veqs_nil : veq.veqs [] [] = true := by simp [veq.veqs]
@[go_sem] theorem veqs_cons {x y : Value} {l l' : List Value} : veq.veqs (x :: l) (y :: l') = (veq x y && veq.veqs l l') := by simp [veq.veqs]
attribute [go_sem] IntWalk.i64_in IntWalk.u32_in IntWalk.u8_in
@[go_sem] theorem binInt_mul {k : IntKind} {a b : Int} : binInt .mul k k a b = some (.int k (k.wrap (a * b))) := by simp [binInt]
@[go_sem] theorem binInt_rem {k : IntKind} {a b : Int} (h : b ≠ 0) : binInt .rem k k a b = some (.int k (a.tmod b)) := by simp [binInt, h]
@[go_sem] theorem binInt_quo {k : IntKind} {a b : Int} (h : b ≠ 0) : binInt .quo k k a b = some (.int k (k.wrap (a.tdiv b))) := by simp [binInt, h]
@[go_sem] theorem binInt_and {k : IntKind} {a b : Int} : binInt .and k k a b = some (.int k (k.wrap (BitVec.ofInt k.bits a &&& BitVec.ofInt k.bits b).toNat)) := by simp [binInt]
@[go_sem] theorem binInt_or {k : IntKind} {a b : Int} : binInt .or k k a b = some (.int k (k.wrap (BitVec.ofInt k.bits a ||| BitVec.ofInt k.bits b).toNat)) := by simp [binInt]
@[go_sem] theorem binInt_xor {k : IntKind} {a b : Int} : binInt .xor k k a b = some (.int k (k.wrap (BitVec.ofInt k.bits a ^^^ BitVec.ofInt k.bits b).toNat)) := by simp [binInt]
@[go_sem] theorem binInt_andNot {k : IntKind} {a b : Int} : binInt .andNot k k a b = some (.int k (k.wrap (BitVec.ofInt k.bits a &&& ~~~ BitVec.ofInt k.bits b).toNat)) := by simp [binInt]
@[go_sem] theorem binInt_shl {k k' : IntKind} {a b : Int} (h : 0 ≤ b) : binInt .shl k k' a b = some (.int k (k.wrap (a * 2 ^ (min b.toNat k.bits)))) := by simp [binInt, show ¬ b < 0 by omega]
@[go_sem] theorem binInt_shr {k k' : IntKind} {a b : Int} (h : 0 ≤ b) : binInt .shr k k' a b = some (.int k (a.fdiv (2 ^ (min b.toNat k.bits)))) := by simp [binInt, show ¬ b < 0 by omega]
@[go_sem] theorem aUn_neg {k : IntKind} {a : Int} : aUn .neg (.int k a) = some (.int k (k.wrap (0 - a))) := rfl
end Go.Ev
