/- A deterministic evaluator of the model's code over a memory of its own: rules on memory. -/
import Derived.Test.YthhohhbkeaghnaaEVzh
set_option linter.unusedSimpArgs false
set_option linter.unusedVariables false
set_option linter.unusedSectionVars false
namespace Go.Ev
variable {E : Env} {ft : Tr AFunc} {P : Program}

@[go_sem] theorem cell_cells {n i : Nat} {c : Tr Value} {e : TypeId} {o : Nat} {w : Bool} : (Blk.cells n c e o w).cell i = if i < n then c.get i else none := by
  by_cases h : i < n
  · simp [Blk.cell, h, show Nat.blt i n = true from Nat.ble_eq_true_of_le h]
  · have : Nat.blt i n = false := by
      cases hb : Nat.blt i n with
      | false => rfl
      | true => exact absurd (of_blt hb) h
    simp [Blk.cell, h, this]
@[go_sem] theorem cell_ro {n i : Nat} {f : Nat → Value} : (Blk.ro n f).cell i = if i < n then some (f i) else none := by
  by_cases h : i < n
  · simp [Blk.cell, h, show Nat.blt i n = true from Nat.ble_eq_true_of_le h]
  · have : Nat.blt i n = false := by
      cases hb : Nat.blt i n with
      | false => rfl
      | true => exact absurd (of_blt hb) h
    simp [Blk.cell, h, this]
@[go_sem] theorem getCells_zero {f : Nat → Option Value} {off : Nat} : getCells f off 0 = some [] := rfl
@[go_sem] theorem getCells_succ {f : Nat → Option Value} {off n : Nat} : getCells f off (n + 1) = oget (f off) fun v => oget (getCells f (off + 1) n) fun vs => some (v :: vs) := by
  simp only [getCells]
  cases f off with
  | none => rfl
  | some v => cases getCells f (off + 1) n <;> rfl
@[go_sem] theorem new_next' {h : AH} {b : Blk} : (h.new b).next = h.next + 1 := Nat.le_antisymm (Nat.le_refl _) (Nat.le_refl _)
@[go_sem] theorem upd_next {h : AH} {b : Blk} {i : Nat} : (h.upd i b).next = h.next := Nat.le_antisymm (Nat.le_refl _) (Nat.le_refl _)
theorem get_new_self {h : AH} {b : Blk} (hc : h.next < cap) : (h.new b).b.get h.next = some b := by
  show (h.b.put h.next b).get h.next = _
  rw [Tr.get_put _ _ _ _ hc]; simp
theorem get_new_ne {h : AH} {b : Blk} {i : Nat} (hi : i < h.next) (hc : h.next < cap) : (h.new b).b.get i = h.b.get i := by
  show (h.b.put h.next b).get i = _
  rw [Tr.get_put _ _ _ _ hc, if_neg (by omega)]
@[go_sem] theorem get_new_if {h : AH} {b : Blk} {i : Nat} (hc : h.next < cap) : (h.new b).b.get i = if i = h.next then some b else h.b.get i := by
  show (h.b.put h.next b).get i = _
  rw [Tr.get_put _ _ _ _ hc]
@[go_sem] theorem eq_next_F {h : AH} {i : Nat} (hi : i < h.next) : (i = h.next) = False := eq_false (by omega)
@[go_sem] theorem eq_next_F' {h : AH} {i k : Nat} (hi : i < h.next) : (i = h.next + k) = False := eq_false (by omega)
@[go_sem] theorem next_eq_F {h : AH} {i : Nat} (hi : i < h.next) : (h.next = i) = False := eq_false (by omega)
@[go_sem] theorem get_upd_if {h : AH} {b : Blk} {i j : Nat} (hc : j < cap) : (h.upd j b).b.get i = if i = j then some b else h.b.get i := by
  show (h.b.put j b).get i = _
  rw [Tr.get_put _ _ _ _ hc]
theorem get_upd_self {h : AH} {b : Blk} {i : Nat} (hc : i < cap) : (h.upd i b).b.get i = some b := by
  show (h.b.put i b).get i = _
  rw [Tr.get_put _ _ _ _ hc]; simp
theorem get_upd_ne {h : AH} {b : Blk} {i j : Nat} (hi : i ≠ j) (hc : j < cap) : (h.upd j b).b.get i = h.b.get i := by
  show (h.b.put j b).get i = _
  rw [Tr.get_put _ _ _ _ hc, if_neg hi]
@[go_sem] theorem aNewCells_if {h : AH} {cs : List Value} {t : TypeId} : aNewCells h cs t = if cs.all plainCell = true ∧ h.next < cap ∧ cs.length < cap then
    some (.pointer (some ⟨h.next, 0, none⟩), h.new (.cells cs.length (putCells .nil 0 cs) t 0 true)) else none := by
  unfold aNewCells
  by_cases hc : cs.all plainCell = true ∧ h.next < cap ∧ cs.length < cap
  · have e2 : Nat.blt h.next cap = true := Nat.ble_eq_true_of_le hc.2.1
    have e3 : Nat.blt cs.length cap = true := Nat.ble_eq_true_of_le hc.2.2
    simp only [hc, e2, e3, Bool.and_self, cond_true, and_self, if_true]
  · rw [if_neg hc]
    cases h1 : (cs.all plainCell && Nat.blt h.next cap && Nat.blt cs.length cap) with
    | false => rfl
    | true =>
      simp only [Bool.and_eq_true] at h1
      exact absurd ⟨h1.1.1, of_blt h1.1.2, of_blt h1.2⟩ hc
theorem lt_big {a : Nat} (h : a < 1099511627776) : (a < 1099511627776) = True := eq_true h
/-- A block written to. -/
def wr (h : AH) (b off : Nat) (vs : List Value) : Option Blk → Option AH
  | some (.cells n c e o w) => if off + vs.length ≤ n ∧ vs.all plainCell = true ∧ n < cap then some (h.upd b (.cells n (putCells c off vs) e o w)) else none
  | _ => none
@[go_sem] theorem aWrite_wr {h : AH} {b off : Nat} {vs : List Value} : aWrite h b off vs = wr h b off vs (h.b.get b) := by
  unfold aWrite wr
  split
  · rename_i n c e o w hb
    rw [hb]
    by_cases hc : off + vs.length ≤ n ∧ vs.all plainCell = true ∧ n < cap
    · have e1 : Nat.ble (off + vs.length) n = true := Nat.ble_eq_true_of_le hc.1
      have e3 : Nat.blt n cap = true := Nat.ble_eq_true_of_le hc.2.2
      simp only [hc, e1, e3, Bool.and_self, cond_true, and_self, if_true]
    · simp only [if_neg hc]
      cases h1 : (Nat.ble (off + vs.length) n && vs.all plainCell && Nat.blt n cap) with
      | false => rfl
      | true =>
        simp only [Bool.and_eq_true] at h1
        exact absurd ⟨of_ble h1.1.1, h1.1.2, of_blt h1.2⟩ hc
  · rename_i h1
    split
    · rename_i n c e o w hb; exact absurd hb (h1 n c e o w)
    · rfl
@[go_sem] theorem wr_cells {h : AH} {b off : Nat} {vs : List Value} {n : Nat} {c : Tr Value} {e : TypeId} {o : Nat} {w : Bool} : wr h b off vs (some (.cells n c e o w)) = if off + vs.length ≤ n ∧ vs.all plainCell = true ∧ n < cap then some (h.upd b (.cells n (putCells c off vs) e o w)) else none := rfl
@[go_sem] theorem cells_int {k : IntKind} {n : Int} : (Value.int k n).cells.toList = [.int k n] := rfl
@[go_sem] theorem cells_bool {b : Bool} : (Value.bool b).cells.toList = [.bool b] := rfl
@[go_sem] theorem cells_slice {a : Option Addr} {l c : Nat} : (Value.slice a l c).cells.toList = [.slice a l c] := rfl
@[go_sem] theorem cells_ptr {a : Option Addr} : (Value.pointer a).cells.toList = [.pointer a] := rfl
@[go_sem] theorem cells_agg {l : List Value} : (Value.agg ⟨l⟩).cells.toList = l := rfl
@[go_sem] theorem bif_decide {α : Type} {p : Prop} [Decidable p] {x y : α} : (bif decide p then x else y) = if p then x else y := by by_cases h : p <;> simp [h]
@[go_sem] theorem ble_decide {a b : Nat} : Nat.ble a b = decide (a ≤ b) := by
  by_cases h : a ≤ b
  · rw [Nat.ble_eq_true_of_le h]; simp [h]
  · cases hb : Nat.ble a b with
    | false => simp [h]
    | true => exact absurd (of_ble hb) h
@[go_sem] theorem blt_decide {a b : Nat} : Nat.blt a b = decide (a < b) := by
  by_cases h : a < b
  · rw [show Nat.blt a b = true from Nat.ble_eq_true_of_le h]; simp [h]
  · cases hb : Nat.blt a b with
    | false => simp [h]
    | true => exact absurd (of_blt hb) h
@[go_sem] theorem beq_decide {a b : Nat} : Nat.beq a b = decide (a = b) := by
  by_cases h : a = b
  · rw [beqT h]; simp [h]
  · rw [beqF h]; simp [h]
@[go_sem] theorem and_decide {p q : Prop} [Decidable p] [Decidable q] : (decide p && decide q) = decide (p ∧ q) := by by_cases h : p <;> by_cases h2 : q <;> simp [h, h2]
@[go_sem] theorem aBuiltin_len {ats : List TypeId} {x : Value} {h : AH} : aBuiltin E .len ats [x] h = oget (aLen E ats[0]? x h) fun v => some (v, h) := rfl
@[go_sem] theorem aBuiltin_min {ats : List TypeId} {x : Value} {l : List Value} {h : AH} : aBuiltin E .min ats (x :: l) h = oget (foldV minV x l) fun v => some (v, h) := rfl
@[go_sem] theorem aBuiltin_max {ats : List TypeId} {x : Value} {l : List Value} {h : AH} : aBuiltin E .max ats (x :: l) h = oget (foldV maxV x l) fun v => some (v, h) := rfl
attribute [go_sem] foldV minV maxV plainCell List.all_cons List.all_nil Bool.and_true Bool.true_and List.length_cons List.length_nil
/-- What a call hands back. -/
def callR (s : St) : CRes → OpR
  | .ret v h _ => .val v { s with h := h }
  | .pan v h => .pan v { s with h := h }
  | .fail => .fail
@[go_sem ↓] theorem callR_ret {r : Tr Value} {n : Nat} {d : List Deferred} {h h' : AH} {rc rc' : Bool} {v : Value} : callR ⟨r, n, d, h, rc⟩ (.ret v h' rc') = .val v ⟨r, n, d, h', rc⟩ := rfl
@[congr] theorem callR_cg {s : St} {x y : CRes} (e : x = y) : callR s x = callR s y := by rw [e]
@[go_sem] theorem callV_fn {C : CallS} {g : FuncId} {first args cp : List Value} {s : St} : callV C (.func (.func g) ⟨first⟩ ⟨cp⟩) args s = callR s (C (.fn g) (first ++ args ++ cp) none s.h) := by
  simp only [callV]; cases C (.fn g) (first ++ args ++ cp) none s.h <;> rfl
@[go_sem] theorem callV_yield {C : CallS} {l : Nat} {first args : List Value} {s : St} : callV C (.func (.yield l) ⟨first⟩ ⟨[]⟩) args s = callR s (C (.yield l) (first ++ args) none s.h) := by
  simp only [callV]; cases C (.yield l) (first ++ args) none s.h <;> rfl
attribute [go_sem] List.nil_append List.append_nil List.cons_append

@[go_sem] theorem lt_add_of {i k : Nat} {h : AH} (hi : i < h.next) : (i < h.next + k) = True := eq_true (by omega)
@[go_sem] theorem add_1_1 {a : Nat} : a + 1 + 1 = a + 2 := by omega
@[go_sem] theorem add_2_1 {a : Nat} : a + 2 + 1 = a + 3 := by omega
@[go_sem] theorem add_3_1 {a : Nat} : a + 3 + 1 = a + 4 := by omega
@[go_sem] theorem add_4_1 {a : Nat} : a + 4 + 1 = a + 5 := by omega
@[go_sem] theorem add_5_1 {a : Nat} : a + 5 + 1 = a + 6 := by omega
@[go_sem] theorem add_6_1 {a : Nat} : a + 6 + 1 = a + 7 := by omega
@[go_sem] theorem add_7_1 {a : Nat} : a + 7 + 1 = a + 8 := by omega
attribute [go_sem] Nat.left_eq_add Nat.add_eq_left
end Go.Ev
