/- A deterministic evaluator of the model's code over a memory of its own: frames. -/
import Derived.Test.YthhohhbkeaghnaaEVp
import Derived.Defers
set_option linter.unusedSimpArgs false
set_option linter.unusedVariables false
set_option linter.unusedSectionVars false
namespace Go.Ev
variable {E : Env} {P : Program}

/-- No number that is not given out yet has a renaming. -/
def Top (ρ : Rn) (h : AH) : Prop := ∀ i, h.next ≤ i → ρ i = none

theorem Top.room {ρ : Rn} {h : AH} (t : Top ρ h) (n : Nat) : Room ρ h.next n := fun i hi _ => t i hi

theorem Step.top {ρ ρ' : Rn} {h h' : AH} {w w' : World} (s : Step ρ h w ρ' h' w') (t : Top ρ h) : Top ρ' h' :=
  fun i hi => s.dom i (t i (Nat.le_trans s.nxt hi)) (.inr hi)

theorem BlkRel.lt {ρ : Rn} {w : World} {c s x : Nat} {b : Blk} (h : BlkRel ρ w c s x b) (hb : b.own = true ∨ b.isRo = true) : c < w.heap.size := by
  have some_lt : ∀ {o : Obj}, w.heap[c]? = some o → c < w.heap.size := fun h => (Array.getElem?_eq_some_iff.1 h).1
  cases b with
  | cells n t e o wh => obtain ⟨C, lo, hi, h1, _⟩ := h; exact some_lt h1
  | map es cl => obtain ⟨es', h1, _⟩ := h; exact some_lt h1
  | loop st pend fn n r ps asg bo de => obtain ⟨tm, f, d, h1, _⟩ := h; exact some_lt h1
  | deferred ds => obtain ⟨_, d, h1⟩ := h; exact some_lt h1
  | ro n f => obtain ⟨⟨_, o, h1⟩, _⟩ := h; exact some_lt h1
  | dead => simp [Blk.own, Blk.isRo] at hb

theorem push_old {w : World} {o : Obj} {k : Nat} (h : k < w.heap.size) : ({ w with heap := w.heap.push o } : World).heap[k]? = w.heap[k]? := by
  simp [Array.getElem?_push, Nat.ne_of_lt h]

/-- The world makes a block that stands here already. -/
theorem Step.late {ρ0 ρ : Rn} {h0 h : AH} {w0 w : World} (st : Step ρ0 h0 w0 ρ h w) {b : Nat} {blk : Blk} (hb : h.b.get b = some blk) (hρ : ρ b = none) (hbase : h0.next ≤ b) (hlt : b < h.next) (hro : blk.isRo = false)
    {obj : Obj} (hrel : BlkRel ρ { w with heap := w.heap.push obj } w.heap.size 0 0 blk) : Step ρ0 h0 w0 (ρ.ins b (w.heap.size, 0, 0)) h { w with heap := w.heap.push obj } := by
  have hsub : Sub ρ (ρ.ins b (w.heap.size, 0, 0)) := Rn.sub_ins hρ
  have hr := st.rel
  have hins : ∀ {k r}, k ≠ b → (ρ.ins b (w.heap.size, 0, 0)) k = some r → ρ k = some r := fun hk e => by simpa [Rn.ins, hk] using e
  have hself : ∀ {r}, (ρ.ins b (w.heap.size, 0, 0)) b = some r → r = (w.heap.size, 0, 0) := fun e => by simpa [Rn.ins, eq_comm] using e
  refine ⟨st.sub.trans hsub, fun i e hi => ?_, st.nxt, ⟨hr.low, fun k bk hk c s x hc => ?_, fun k k' b1 b2 e1 e2 o1 o2 c s x s' x' r1 r2 => ?_, fun k k' b1 b2 e1 e2 o1 o2 c s x s' x' r1 r2 => ?_⟩, ?_, st.os, st.tape, st.output, fun c hc hf => ?_, st.same, fun k bk c s x e1 o1 r1 hc => ?_⟩
  · have : i ≠ b := by
      intro e'; subst e'
      rcases hi with hi | hi <;> omega
    simp only [Rn.ins, this, if_false]
    exact st.dom i e hi
  · by_cases e : k = b
    · subst e
      have := hself hc; cases this
      rw [hb] at hk; cases hk
      exact hrel.mono hsub
    · have hc' := hins e hc
      have hb' := hr.blk k bk hk c s x hc'
      by_cases hown : bk.own = true ∨ bk.isRo = true
      · exact (hb'.congr (push_old (hb'.lt hown))).mono hsub
      · cases bk <;> simp [Blk.own, Blk.isRo] at hown
        trivial
  · by_cases a1 : k = b
    · subst a1
      by_cases a2 : k' = k
      · exact a2.symm
      · have q1 := hself r1
        have := (hr.blk k' b2 e2 _ _ _ (hins a2 r2)).lt (.inl o2)
        cases q1; omega
    · by_cases a2 : k' = b
      · subst a2
        have q2 := hself r2
        have := (hr.blk k b1 e1 _ _ _ (hins a1 r1)).lt (.inl o1)
        cases q2; omega
      · exact hr.inj k k' b1 b2 e1 e2 o1 o2 _ _ _ _ _ (hins a1 r1) (hins a2 r2)
  · have a2 : k' ≠ b := by
      intro e; subst e; rw [hb] at e2; cases e2; rw [hro] at o2; cases o2
    by_cases a1 : k = b
    · subst a1
      have q1 := hself r1
      have := (hr.blk k' b2 e2 _ _ _ (hins a2 r2)).lt (.inr o2)
      cases q1; omega
    · exact hr.apart k k' b1 b2 e1 e2 o1 o2 _ _ _ _ _ (hins a1 r1) (hins a2 r2)
  · have := st.size
    simp only [Array.size_push]; omega
  · rw [push_old (Nat.lt_of_lt_of_le hc st.size)]; exact st.keep c hc hf
  · by_cases e : k = b
    · subst e
      have := hself r1; cases this
      have := st.size; omega
    · exact st.img k bk c s x e1 o1 (hins e r1) hc

/-- A block here that the world has not made yet. -/
theorem Step.early {ρ0 ρ : Rn} {h0 h : AH} {w0 w : World} (st : Step ρ0 h0 w0 ρ h w) (hn : ρ h.next = none) (hcap : h.next < cap) (blk : Blk) : Step ρ0 h0 w0 ρ (h.new blk) w := by
  have hg : ∀ k, (h.new blk).b.get k = if k = h.next then some blk else h.b.get k := fun k => Tr.get_put _ _ _ _ hcap
  have hr := st.rel
  have old : ∀ {k bk r}, (h.new blk).b.get k = some bk → ρ k = some r → h.b.get k = some bk := fun {k bk r} e q => by
    rw [hg] at e
    have : k ≠ h.next := by intro e'; subst e'; rw [hn] at q; cases q
    rwa [if_neg this] at e
  refine ⟨st.sub, fun i e hi => st.dom i e (hi.imp_right fun (q : h.next + 1 ≤ i) => by omega), Nat.le_succ_of_le st.nxt, ⟨fun k bk hk => ?_, fun k bk hk c s x hc => hr.blk k bk (old hk hc) c s x hc, fun k k' b1 b2 e1 e2 o1 o2 c s x s' x' r1 r2 => hr.inj k k' b1 b2 (old e1 r1) (old e2 r2) o1 o2 _ _ _ _ _ r1 r2,
    fun k k' b1 b2 e1 e2 o1 o2 c s x s' x' r1 r2 => hr.apart k k' b1 b2 (old e1 r1) (old e2 r2) o1 o2 _ _ _ _ _ r1 r2⟩, st.size, st.os, st.tape, st.output, st.keep, fun k e hk => ?_, fun k bk c s x e1 o1 r1 hc => st.img k bk c s x (old e1 r1) o1 r1 hc⟩
  · rw [hg] at hk
    by_cases e : k = h.next
    · rw [e]; exact hcap
    · rw [if_neg e] at hk; exact hr.low k bk hk
  · rw [hg, if_neg (by have := st.nxt; omega)]; exact st.same k e hk

theorem WRel.heap {ρ : Rn} {h : AH} {w w' : World} (hr : WRel ρ h w) (e : w'.heap = w.heap) : WRel ρ h w' :=
  ⟨hr.low, fun b blk hb c s x hc => (hr.blk b blk hb c s x hc).congr (by rw [e]), hr.inj, hr.apart⟩

theorem Step.drawn {ρ : Rn} {h : AH} {w : World} (hr : WRel ρ h w) (n : Nat) : Step ρ h w ρ h { w with drawn := n } :=
  ⟨Sub.refl _, fun _ e _ => e, Nat.le_refl _, hr.heap rfl, Nat.le_refl _, rfl, rfl, rfl, fun _ _ _ => rfl, fun _ _ _ => rfl, fun b blk c s x hb ho hc _ hf => hf b blk s x hb ho hc⟩

/-! ### Frames -/
def evT (tm : Array Value) : Operand → Value
  | .tmp t => tm.getD t undef
  | .const v => v
  | .global g => .pointer (some ⟨g, 0, none⟩)
  | .func f => .func (.func f) #[] #[]

def frm (b : Frame) (tm : Array Value) (ds : List Deferred) (todo : List Item) : Frame := { b with tmps := tm, todo := todo, defers := ds, mode := .run }

theorem eval_frm (b : Frame) (tm : Array Value) (ds : List Deferred) (todo : List Item) : (frm b tm ds todo).eval = evT tm := by
  funext x; cases x <;> rfl

def putT (tm : Array Value) (dst : Option Tmp) (v : Value) : Array Value :=
  match dst with
  | some d => tm.setIfInBounds d v
  | none => tm

theorem finish_frm (b : Frame) (tm : Array Value) (ds : List Deferred) (ops : Array Oper) (i : Nat) (rest : List Nat) (k : List Item) (v : Value) :
    (frm b tm ds (.inRegion ops (i :: rest) :: k)).finish v = frm b (putT tm ((ops[i]?).bind (·.dst)) v) ds (.inRegion ops rest :: k) := by
  cases h : (ops[i]?).bind (·.dst) <;> simp [Frame.finish, frm, putT, h]

/-- The package-level variables have their places. -/
def GlobOk (E : Env) (ρ : Rn) : Prop := ∀ g, g < E.ng → ∃ x, ρ g = some (g, 0, x)

theorem GlobOk.mono {ρ ρ' : Rn} (h : GlobOk E ρ) (s : Sub ρ ρ') : GlobOk E ρ' := fun g hg => let ⟨x, e⟩ := h g hg; ⟨x, s _ _ e⟩

/-- An operation's operands here and there. -/
def OpOn (E : Env) (ρ : Rn) (r : Tr Value) (tm : Array Value) (xs : Array Operand) : Prop := ∀ x ∈ xs, ∀ v, evalO E.ng r x = some v → ren ρ v = some (evT tm x)

theorem evalO_rel {ρ : Rn} (hg : GlobOk E ρ) {r : Tr Value} {tm : Array Value} {x : Operand} (h : ∀ t, x = .tmp t → ∀ v, r.get t = some v → ∃ v', ren ρ v = some v' ∧ tm[t]? = some v') {v : Value} (e : evalO E.ng r x = some v) : ren ρ v = some (evT tm x) := by
  cases x with
  | tmp t =>
    obtain ⟨v', h1, h2⟩ := h t rfl v e
    simp [evT, h1, h2]
  | const u =>
    simp only [evalO] at e
    rw [bif_some] at e
    obtain ⟨hp, e⟩ := e
    cases e
    exact plainZ_ren ρ _ hp
  | global g =>
    simp only [evalO] at e
    rw [bif_some] at e
    obtain ⟨hp, e⟩ := e
    cases e
    obtain ⟨x, hx⟩ := hg g (of_blt hp)
    simp [ren, Rn.addr, hx, evT]
  | func f =>
    simp only [evalO, Option.some.injEq] at e
    subst e
    simp [ren, renA, renL, evT]

theorem mem_looksAt {all : Array Oper} {o : Oper} {t : Tmp} (h : Operand.tmp t ∈ o.op.operands) : t ∈ o.looksAt all :=
  List.mem_append_left _ (List.mem_filterMap.2 ⟨.tmp t, by simpa using h, rfl⟩)

theorem OpOn.of_looks {ρ : Rn} (hg : GlobOk E ρ) {all : Array Oper} {r : Tr Value} {tm : Array Value} {o : Oper} (h : ∀ t ∈ o.looksAt all, ∀ v, r.get t = some v → ∃ v', ren ρ v = some v' ∧ tm[t]? = some v') : OpOn E ρ r tm o.op.operands :=
  fun _ hx _ e => evalO_rel hg (fun t ht => h t (mem_looksAt (ht ▸ hx))) e

theorem OpOn.rel {ρ : Rn} {r : Tr Value} {tm : Array Value} {o : Oper} (h : OpOn E ρ r tm o.op.operands) : ∃ f, OpRel ρ f (evT tm) ∧ ∀ m, aval E o f m = aval E o (evalO E.ng r) m := by
  classical
  refine ⟨fun x => if x ∈ o.op.operands then evalO E.ng r x else none, fun x v e => ?_, fun m => aval_congr o (fun x hx => by simp [hx]) m⟩
  by_cases hx : x ∈ o.op.operands
  · simp only [hx, if_true] at e; exact h x hx v e
  · simp [hx] at e

theorem aval_on (ok : Ok E P) {ρ : Rn} {h h' : AH} {w : World} (hr : WRel ρ h w) {o : Oper} {r : Tr Value} {tm : Array Value} (ho : OpOn E ρ r tm o.op.operands) {v : Value} (e : aval E o (evalO E.ng r) h = some (v, h')) (top : Top ρ h) :
    GoodOp P ρ h w (execOp (evT tm) o) v h' := by
  obtain ⟨f, h1, h2⟩ := ho.rel
  rw [← h2] at e
  exact aval_sound ok hr h1 e (top.room _)

theorem wantedT_rel {ρ : Rn} {all : Array Oper} {r : Tr Value} {tm : Array Value} {o : Oper} (h : ∀ t ∈ o.looksAt all, ∀ v, r.get t = some v → ∃ v', ren ρ v = some v' ∧ tm[t]? = some v') {b : Bool} (e : wantedT o all r = some b) :
    Region.wanted o (yielded all tm) = b := by
  unfold wantedT at e
  unfold Region.wanted
  cases hg : o.guard with
  | none => simp [hg] at e; simp [← e]
  | some jw =>
    obtain ⟨j, want⟩ := jw
    simp only [hg] at e
    cases hd : (all.toList[j]?).bind (·.dst) with
    | none => rw [hd] at e; simp at e
    | some d =>
      rw [hd] at e
      simp only at e
      have hd' : (all[j]?).bind (·.dst) = some d := by simpa using hd
      have hm : d ∈ o.looksAt all := List.mem_append_right _ (by simp [hg, hd'])
      cases hv : r.get d with
      | none => simp [hv] at e
      | some v =>
        obtain ⟨v', h1, h2⟩ := h d hm v hv
        simp only [hv] at e
        split at e
        · rename_i u hu
          cases hu
          simp [ren] at h1; subst h1
          cases e
          simp only [yielded, hd', Option.bind_some, h2]
          cases u <;> cases want <;> rfl
        · rename_i hu
          cases hu
          cases e
          obtain ⟨l', h3, h4⟩ := ren_tuple.1 h1
          simp [renL] at h3; subst h3; subst h4
          simp [yielded, hd', h2]
        · cases e

end Go.Ev
