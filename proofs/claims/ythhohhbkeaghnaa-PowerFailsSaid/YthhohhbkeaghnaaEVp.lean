/- A deterministic evaluator of the model's code over a memory of its own: readings and new blocks. -/
import Derived.Test.YthhohhbkeaghnaaEVo
set_option linter.unusedSimpArgs false
set_option linter.unusedVariables false
set_option linter.unusedSectionVars false
namespace Go.Ev
variable {E : Env} {P : Program}

theorem new_next {h : AH} {b : Blk} : (h.new b).next = h.next + 1 := rfl

theorem bif_or {α : Type} {b : Bool} {x y : Option α} {a : α} (e : (bif b then x else y) = some a) : (b = true ∧ x = some a) ∨ (b = false ∧ y = some a) := by
  cases b
  · exact .inr ⟨rfl, e⟩
  · exact .inl ⟨rfl, e⟩

theorem aSlice_read {t : TypeId} {x : Value} {lo hi : Option Value} {h h' : AH} {v : Value} (e : aSlice E t x lo hi h = some (v, h')) (hn : h'.next = h.next) : h' = h := by
  unfold aSlice at e
  rw [oget_some] at e; obtain ⟨i, _, e⟩ := e
  split at e
  · rw [oget_some] at e; obtain ⟨l, _, e⟩ := e
    rw [oget_some] at e; obtain ⟨u, _, e⟩ := e
    rw [bif_some] at e; cases e.2; rfl
  · rw [oget_some] at e; obtain ⟨ei, _, e⟩ := e
    rw [oget_some] at e; obtain ⟨l, _, e⟩ := e
    rw [oget_some] at e; obtain ⟨u, _, e⟩ := e
    rw [bif_some] at e; obtain ⟨_, e⟩ := e
    split at e
    · cases e; rfl
    · split at e
      · rcases bif_or e with ⟨_, e⟩ | ⟨_, e⟩
        · cases e; rfl
        · rcases bif_or e with ⟨_, e⟩ | ⟨_, e⟩
          · rw [bif_some] at e
            cases e.2
            simp [AH.new] at hn
          · cases e; rfl
      · cases e; rfl
      · cases e
    · cases e
  · rw [oget_some] at e; obtain ⟨ai, _, e⟩ := e
    split at e
    · rw [oget_some] at e; obtain ⟨ei, _, e⟩ := e
      rw [oget_some] at e; obtain ⟨l, _, e⟩ := e
      rw [oget_some] at e; obtain ⟨u, _, e⟩ := e
      rw [bif_some] at e; cases e.2; rfl
    · cases e
  · split at e
    · rw [oget_some] at e; obtain ⟨ei, _, e⟩ := e
      rw [oget_some] at e; obtain ⟨l, _, e⟩ := e
      rw [oget_some] at e; obtain ⟨u, _, e⟩ := e
      rw [bif_some] at e; cases e.2; rfl
    · cases e
  · cases e

theorem aConvert_read {s d : TypeId} {x : Value} {h h' : AH} {v : Value} (e : aConvert E s d x h = some (v, h')) (hn : h'.next = h.next) : h' = h := by
  unfold aConvert at e
  rw [oget_some] at e; obtain ⟨si, _, e⟩ := e
  rw [oget_some] at e; obtain ⟨di, _, e⟩ := e
  split at e
  · cases e; rfl
  · cases e; rfl
  · rw [oget_some] at e; obtain ⟨ei, _, e⟩ := e
    split at e
    · cases e; rfl
    · cases e
  · rw [oget_some] at e; obtain ⟨ei, _, e⟩ := e
    split at e
    · rw [oget_some] at e; obtain ⟨b, _, e⟩ := e
      rw [oget_some] at e; obtain ⟨b, _, e⟩ := e
      rw [oget_some] at e; obtain ⟨b, _, e⟩ := e
      cases e; rfl
    · cases e
  · rw [oget_some] at e; obtain ⟨ei, _, e⟩ := e
    split at e
    · rw [bif_some] at e
      cases e.2
      simp [AH.new] at hn
    · cases e
  · rw [oget_some] at e; obtain ⟨ei, _, e⟩ := e
    split at e
    · rw [bif_some] at e; cases e.2; rfl
    · cases e
  · rw [oget_some] at e; obtain ⟨ei, _, e⟩ := e
    split at e
    · rw [bif_some] at e; cases e.2; rfl
    · cases e
  · cases e

theorem aval_read {o : Oper} (hc : clsOf o.op = .read) {f : Operand → Option Value} {h h' : AH} {v : Value} (e : aval E o f h = some (v, h')) (hn : h'.next = h.next) : h' = h := by
  obtain ⟨dst, op, type, pos, after, guard⟩ := o
  cases op <;> simp only [clsOf, reduceCtorEq] at hc
  case load t a =>
    simp only [aval] at e
    rw [oget_some] at e; obtain ⟨a, _, e⟩ := e
    rw [oget_some] at e; obtain ⟨b, _, e⟩ := e
    cases e; rfl
  case lookup t m k b =>
    simp only [aval] at e
    rw [oget_some] at e; obtain ⟨a, _, e⟩ := e
    rw [oget_some] at e; obtain ⟨b, _, e⟩ := e
    rw [oget_some] at e; obtain ⟨c, _, e⟩ := e
    cases e; rfl
  case binOp op t x y yt =>
    simp only [aval] at e
    rw [oget_some] at e; obtain ⟨a, _, e⟩ := e
    rw [oget_some] at e; obtain ⟨b, _, e⟩ := e
    rw [oget_some] at e; obtain ⟨c, _, e⟩ := e
    cases e; rfl
  case slice t x lo hi mx =>
    cases mx with
    | some _ => simp [aval] at e
    | none =>
      simp only [aval] at e
      rw [oget_some] at e; obtain ⟨a, _, e⟩ := e
      rw [oget_some] at e; obtain ⟨b, _, e⟩ := e
      rw [oget_some] at e; obtain ⟨c, _, e⟩ := e
      exact aSlice_read e hn
  case convert s d x =>
    simp only [aval] at e
    rw [oget_some] at e; obtain ⟨a, _, e⟩ := e
    exact aConvert_read e hn
  case call c =>
    obtain ⟨callee, args, ats⟩ := c
    cases callee with
    | builtin b =>
      cases b <;> simp only [reduceCtorEq] at hc
      case len =>
        simp only [aval] at e
        rw [oget_some] at e; obtain ⟨vs, _, e⟩ := e
        unfold aBuiltin at e
        split at e <;> simp_all only [reduceCtorEq]
        rw [oget_some] at e; obtain ⟨c, _, e⟩ := e
        cases e; rfl
      case cap =>
        simp only [aval] at e
        rw [oget_some] at e; obtain ⟨vs, _, e⟩ := e
        unfold aBuiltin at e
        split at e <;> simp_all only [reduceCtorEq]
        · rw [oget_some] at e; obtain ⟨c, _, e⟩ := e
          rw [oget_some] at e; obtain ⟨c, _, e⟩ := e
          split at e
          · cases e; rfl
          · cases e
        · rw [oget_some] at e; obtain ⟨c, _, e⟩ := e
          rw [oget_some] at e; obtain ⟨c, _, e⟩ := e
          split at e
          · rw [bif_some] at e; cases e.2; rfl
          · cases e; rfl
          · cases e
    | value g => simp at hc
    | invoke r m => simp at hc

/-! ### New blocks -/
/-- A computation that makes a new block of the world and answers with its address. -/
def NewFact (P : Program) (ρ : Rn) (s : Sem Next) (blk : Blk) (mk : Nat → Value) : Prop :=
  ∃ (obj : Obj) (mk' : Nat → Value), (∀ w, s.run P w = .ok (.value (mk' w.heap.size)) { w with heap := w.heap.push obj }) ∧ blk.own = true ∧ blk.isRo = false ∧
    (∀ w c, w.heap[c]? = some obj → BlkRel ρ w c 0 0 blk) ∧ ∀ (ρ' : Rn) b c, ρ' b = some (c, 0, 0) → ren ρ' (mk b) = some (mk' c)

theorem cells_rel {ρ : Rn} {cs cs' : List Value} (hv : renL ρ cs = some cs') (hl : cs.length < cap) (t : TypeId) (wh : Bool) {n : Nat} (hn : n = cs.length) {w : World} {c : Nat} (hw : w.heap[c]? = some (.cells ⟨cs'⟩ t (0, 0))) :
    BlkRel ρ w c 0 0 (.cells n (putCells .nil 0 cs) t 0 wh) := by
  subst hn
  have hl' := renL_length hv
  refine ⟨⟨cs'⟩, 0, 0, hw, by simp [hl'], fun _ => rfl, fun i hi => ?_, by simp, by simp, fun _ => rfl⟩
  obtain ⟨u', e1, e2⟩ := renL_get hv i cs[i] (List.getElem?_eq_getElem hi)
  exact ⟨cs[i], u', by rw [putNil_get hl i hi]; exact List.getElem?_eq_getElem hi, e1, by simpa using e2⟩

theorem aNewCells_new {ρ : Rn} {h h' : AH} {cs cs' : List Value} (hv : renL ρ cs = some cs') {t : TypeId} {v : Value} (e : aNewCells h cs t = some (v, h')) {s : Sem Next} (hs : ∀ w, s.run P w = ((do pure (.value (.pointer (some (← newRow t ⟨cs'⟩)))) : Sem Next)).run P w) :
    ∃ blk mk, v = mk h.next ∧ h' = h.new blk ∧ h.next < cap ∧ NewFact P ρ s blk mk := by
  unfold aNewCells at e
  rw [bif_some] at e
  obtain ⟨hc, e⟩ := e
  simp only [Bool.and_eq_true] at hc
  cases e
  refine ⟨.cells cs.length (putCells .nil 0 cs) t 0 true, fun n => .pointer (some ⟨n, 0, none⟩), rfl, rfl, of_blt hc.1.2, .cells ⟨cs'⟩ t (0, 0), fun n => .pointer (some ⟨n, 0, none⟩), fun w => ?_, rfl, rfl, fun w c hw => cells_rel hv (of_blt hc.2) t true rfl hw, fun ρ' b c hb => by simp [ren, Rn.addr, hb]⟩
  rw [hs]
  simp [run_newRow]

theorem aMakeSlice_new (ok : Ok E P) {ρ : Rn} {h h' : AH} {t : TypeId} {l l' c c' v : Value} (hl : ren ρ l = some l') (hc : ren ρ c = some c')
    (e : aMakeSlice E t l c h = some (v, h')) : ∃ blk mk, v = mk h.next ∧ h' = h.new blk ∧ h.next < cap ∧ NewFact P ρ (do pure (.value (← Instr.makeSlice t l' c'))) blk mk := by
  unfold aMakeSlice at e
  rw [oget_some] at e; obtain ⟨i, hi, e⟩ := e
  split at e
  · rename_i el kl l kc c hu
    rw [oget_some] at e; obtain ⟨ei, hei, e⟩ := e
    rw [oget_some] at e; obtain ⟨z, hz, e⟩ := e
    rw [bif_some] at e
    obtain ⟨hcnd, e⟩ := e
    simp only [Bool.and_eq_true, decide_eq_true_eq] at hcnd
    obtain ⟨⟨⟨⟨⟨⟨⟨c1, c2⟩, c3⟩, c4⟩, c5⟩, c6⟩, c7⟩, c8⟩ := hcnd
    have c4 := of_blt c4
    have c5 := of_beq c5
    have c7 := of_blt c7
    have c8 := of_blt c8
    cases e
    simp [ren] at hl hc; subst hl; subst hc
    rw [Array.length_toList] at c5
    have hzr := ren_cells (ok.zero hei hz ρ)
    have hlen : (repl z.cells.toList c.toNat).length = c.toNat * ei.size := by rw [repl_length, Array.length_toList, c5]
    refine ⟨.cells (c.toNat * ei.size) (putCells .nil 0 (repl z.cells.toList c.toNat)) el 0 true, fun n => .slice (some ⟨n, 0, none⟩) l.toNat c.toNat, rfl, rfl, c7, .cells ⟨repl z.cells.toList c.toNat⟩ el (0, 0), fun n => .slice (some ⟨n, 0, none⟩) l.toNat c.toNat, fun w => ?_, rfl, rfl, fun w k hw => cells_rel (renL_repl hzr c.toNat) (by omega) el true hlen.symm hw, fun ρ' b k hb => by simp [ren, hb]⟩
    obtain ⟨info, hinfo, _, hbytes, _⟩ := ok.run_typeInfo hei w
    have htoo : ∀ m : Int, 0 ≤ m → m ≤ c → (decide (m < 0) || decide ((ei.bytes : Int) * m > 2 ^ 48)) = false := by
      intro m h0 h1
      have hm : (ei.bytes : Int) * m ≤ (ei.bytes : Int) * (c.toNat : Int) := Int.mul_le_mul_of_nonneg_left (by omega) (Int.natCast_nonneg _)
      rw [← Int.natCast_mul, Nat.mul_comm] at hm
      simp only [Bool.or_eq_false_iff, decide_eq_false_iff_not]
      constructor
      · omega
      · omega
    have hwl : IntKind.i64.wrap l = l := wrap_small c1 (by omega)
    have hwc : IntKind.i64.wrap c = c := wrap_small (by omega) c3
    have hasl : (asInt (.int kl l)).run P w = .ok l w := rfl
    have hasc : (asInt (.int kc c)).run P w = .ok c w := rfl
    unfold Instr.makeSlice
    simp only [Sem.run_bind, ok.run_underlying hi, hu, Result.andThen_ok, hasl, hasc, hinfo, hbytes, hwl, hwc, htoo c (by omega) (Int.le_refl _), Bool.false_or, show decide (l < 0) = false from by simpa using c1, show decide (l > c) = false from by simpa using c2, Bool.false_eq_true, if_false, run_askRoom, ok.run_sizeOf hei]
    by_cases hz0 : c.toNat * ei.size = 0
    · have hnil : repl z.cells.toList c.toNat = [] := List.eq_nil_of_length_eq_zero (by rw [hlen]; exact hz0)
      simp only [hz0, if_true, Sem.run_bind, Sem.run_pure, Result.andThen_ok, run_newRow, hnil]
      have : (Array.range 0).map (fun i => (#[] : Array Value)[i % (#[] : Array Value).size]!) = ⟨[]⟩ := by simp
      rw [this]
    · simp only [hz0, if_false, Sem.run_bind, ok.run_zero hei hz, Result.andThen_ok, Sem.run_pure, run_newRow]
      rw [range_repl z.cells c.toNat (c.toNat * ei.size) (by rw [c5])]
  · cases e

theorem aBuildSlice_new (ok : Ok E P) {ρ : Rn} {h h' : AH} {t : TypeId} {len : Nat} {parts parts' : List (Nat × Value)} {v : Value} (hp : PartsRel ρ parts parts') (e : aBuildSlice E t len parts h = some (v, h')) :
    ∃ blk mk, v = mk h.next ∧ h' = h.new blk ∧ h.next < cap ∧ NewFact P ρ (do pure (.value (← Instr.buildSlice t len ⟨parts'⟩))) blk mk := by
  unfold aBuildSlice at e
  rw [oget_some] at e; obtain ⟨i, hi, e⟩ := e
  split at e
  · rename_i el hu
    rw [oget_some] at e; obtain ⟨ei, hei, e⟩ := e
    rw [oget_some] at e; obtain ⟨z, hz, e⟩ := e
    rw [bif_some] at e
    obtain ⟨hc, e⟩ := e
    simp only [Bool.and_eq_true] at hc
    have c1 := of_beq hc.1
    have c2 := of_blt hc.2
    rw [Array.length_toList] at c1
    have hzr := ren_cells (ok.zero hei hz ρ)
    rw [oget_some] at e; obtain ⟨cs, hcs, e⟩ := e
    rw [bif_some] at e
    obtain ⟨hc2, e⟩ := e
    simp only [Bool.and_eq_true] at hc2
    cases e
    have hf : fillV (fun i => some (i * ei.size, ei.size)) (repl z.cells.toList len) parts = some cs := by
      split at hcs
      · rename_i cs0 hpk
        cases hcs
        cases hlen : parts.length.beq len with
        | false => simp [hlen] at hpk
        | true =>
          simp only [hlen, cond_true] at hpk
          have := packed_fill (pre := []) (mid := repl z.cells.toList len) hpk (by simp) (by rw [repl_length, Array.length_toList, c1, of_beq hlen])
          simpa using this
      · exact hcs
    obtain ⟨cs', h1, h2⟩ := fillV_sound hp (renL_repl hzr len) hf
    refine ⟨.cells cs.length (putCells .nil 0 cs) el 0 true, fun n => .slice (some ⟨n, 0, none⟩) len len, rfl, rfl, of_blt hc2.1.2, .cells ⟨cs'⟩ el (0, 0), fun n => .slice (some ⟨n, 0, none⟩) len len, fun w => ?_, rfl, rfl, fun w k hw => cells_rel h1 (of_blt hc2.2) el true rfl hw, fun ρ' b k hb => by simp [ren, hb]⟩
    unfold Instr.buildSlice
    simp only [Sem.run_bind, ok.run_underlying hi, hu, Result.andThen_ok, ok.run_sizeOf hei, show ¬ len * ei.size > 2 ^ 24 by omega, if_false]
    have harr : (Array.range (len * ei.size)).map (fun i => z.cells[i % z.cells.size]!) = ⟨repl z.cells.toList len⟩ := range_repl z.cells len _ (by rw [c1])
    by_cases h0 : len * ei.size = 0
    · have hnil : repl z.cells.toList len = [] := List.eq_nil_of_length_eq_zero (by rw [repl_length, Array.length_toList, c1]; exact h0)
      rw [hnil] at h2
      have harr0 : (Array.range 0).map (fun i => (#[] : Array Value)[i % (#[] : Array Value).size]!) = ⟨[]⟩ := by simp
      simp only [h0, if_true, Sem.run_bind, Sem.run_pure, Result.andThen_ok, harr0, h2, run_newRow]
    · simp only [h0, if_false, Sem.run_bind, ok.run_zero hei hz, Result.andThen_ok, Sem.run_pure, harr, h2, run_newRow]
  · cases e

theorem aval_alloc (ok : Ok E P) {o : Oper} (hc : clsOf o.op = .alloc) {ρ : Rn} {f : Operand → Option Value} {g : Operand → Value} (ho : OpRel ρ f g) {h h' : AH} {v : Value} (e : aval E o f h = some (v, h')) :
    ∃ blk mk, v = mk h.next ∧ h' = h.new blk ∧ h.next < cap ∧ NewFact P ρ (execOp g o) blk mk := by
  obtain ⟨dst, op, type, pos, after, guard⟩ := o
  cases op <;> simp only [clsOf, reduceCtorEq] at hc
  case binOp op t x y yt => cases op <;> simp at hc
  case call c =>
    obtain ⟨callee, args, ats⟩ := c
    cases callee with
    | builtin b => cases b <;> simp at hc
    | value g => simp at hc
    | invoke r m => simp at hc
  case alloc t =>
    simp only [aval] at e
    unfold aAlloc at e
    rw [oget_some] at e; obtain ⟨i, hi, e⟩ := e
    rw [oget_some] at e; obtain ⟨z, hz, e⟩ := e
    refine aNewCells_new (ren_cells (ok.zero hi hz ρ)) e fun w => ?_
    simp only [execOp, Instr.alloc, Sem.run_bind, ok.run_zero hi hz, Result.andThen_ok, newVar, run_newRow, Sem.run_pure]
  case box t x =>
    simp only [aval] at e
    rw [oget_some] at e; obtain ⟨u, hu, e⟩ := e
    refine aNewCells_new (ren_cells (ho _ _ hu)) e fun w => ?_
    simp only [execOp, Instr.box, newVar, Sem.run_bind, run_newRow, Result.andThen_ok, Sem.run_pure]
  case buildSlice t n ps =>
    simp only [aval] at e
    rw [oget_some] at e; obtain ⟨u, hu, e⟩ := e
    have hm : (ps.map fun (x : Nat × Operand) => (x.1, g x.2)) = ⟨ps.toList.map fun x => (x.1, g x.2)⟩ := by apply Array.ext'; simp
    have := aBuildSlice_new (P := P) ok (partsV_rel ho hu) e
    rw [← hm] at this
    exact this
  case makeMap t r =>
    cases r with
    | some _ => simp [aval] at e
    | none =>
      simp only [aval] at e
      rw [oget_some] at e; obtain ⟨i, hi, e⟩ := e
      rw [bif_some] at e; obtain ⟨hc, e⟩ := e
      cases e
      exact ⟨.map [] 0, fun n => .map (some n), rfl, rfl, of_blt hc, .map ⟨[]⟩ 0, fun n => .map (some n), fun w => by simp only [execOp, Instr.makeMap, Option.map_none, Sem.run_bind, run_newObj, Result.andThen_ok, Sem.run_pure], rfl, rfl, fun w c hw => ⟨[], hw, by simp [renEs]⟩, fun ρ' b c hb => by simp [ren, hb]⟩
  case makeSlice t l c =>
    simp only [aval] at e
    rw [oget_some] at e; obtain ⟨u, hu, e⟩ := e
    rw [oget_some] at e; obtain ⟨u2, hu2, e⟩ := e
    exact aMakeSlice_new ok (ho _ _ hu) (ho _ _ hu2) e

end Go.Ev
