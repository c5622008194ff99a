/- A deterministic evaluator of the model's code over a memory of its own: what grows, and what a slice holds. -/
import Derived.Test.YthhohhbkeaghnaaEVzk
set_option linter.unusedSimpArgs false
set_option linter.unusedVariables false
set_option linter.unusedSectionVars false
namespace Go.Ev

/-- Memory that has grown: what was there is there still. -/
def Ext (h h' : AH) : Prop := h.next ≤ h'.next ∧ ∀ i, i < h.next → h'.b.get i = h.b.get i
theorem Ext.refl (h : AH) : Ext h h := ⟨Nat.le_refl _, fun _ _ => rfl⟩
theorem Ext.trans {a b c : AH} (h1 : Ext a b) (h2 : Ext b c) : Ext a c := ⟨Nat.le_trans h1.1 h2.1, fun i hi => by rw [h2.2 i (Nat.lt_of_lt_of_le hi h1.1), h1.2 i hi]⟩
theorem Ext.new {h h' : AH} (e : Ext h h') (b : Blk) (hc : h'.next < cap) : Ext h (h'.new b) := ⟨by have := e.1; show h.next ≤ h'.next + 1; omega, fun i hi => by rw [get_new_ne (by have := e.1; omega) hc, e.2 i hi]⟩
theorem Ext.upd {h h' : AH} (e : Ext h h') {j : Nat} (b : Blk) (hj : h.next ≤ j) (hc : j < cap) : Ext h (h'.upd j b) := ⟨e.1, fun i hi => by rw [get_upd_ne (by omega) hc, e.2 i hi]⟩
theorem Ext.get {h h' : AH} (e : Ext h h') {i : Nat} (hi : i < h.next) : h'.b.get i = h.b.get i := e.2 i hi

/-- The cells that a slice of small elements holds. -/
def Holds {α : Type} (h : AH) (f : α → Value) (a : Option Addr) (len : Nat) (l : List α) : Prop :=
  l.length = len ∧ ((a = none ∧ l = []) ∨ ∃ b off blk, a = some ⟨b, off, none⟩ ∧ b < h.next ∧ h.b.get b = some blk ∧ ∀ i x, l[i]? = some x → blk.cell (off + i) = some (f x))
variable {α : Type} {f : α → Value} {h h' : AH} {a : Option Addr} {len : Nat} {l : List α}
theorem Holds.len_eq (H : Holds h f a len l) : l.length = len := H.1
theorem Holds.ext (H : Holds h f a len l) (e : Ext h h') : Holds h' f a len l := by
  obtain ⟨h1, h2 | ⟨b, off, blk, e1, e2, e3, e4⟩⟩ := H
  · exact ⟨h1, .inl h2⟩
  · exact ⟨h1, .inr ⟨b, off, blk, e1, Nat.lt_of_lt_of_le e2 e.1, by rw [e.2 b e2, e3], e4⟩⟩
theorem Holds.new (H : Holds h f a len l) (b : Blk) (hc : h.next < cap) : Holds h f a len l ∧ Holds (h.new b) f a len l := ⟨H, H.ext ((Ext.refl h).new b hc)⟩
/-- An element. -/
theorem Holds.at (H : Holds h f a len l) {i : Nat} (hi : i < len) : ∃ b off blk x, a = some ⟨b, off, none⟩ ∧ b < h.next ∧ h.b.get b = some blk ∧ l[i]? = some x ∧ blk.cell (off + i) = some (f x) := by
  obtain ⟨h1, ⟨_, rfl⟩ | ⟨b, off, blk, e1, e2, e3, e4⟩⟩ := H
  · simp at h1; omega
  · have hx : l[i]? = some (l[i]'(by omega)) := List.getElem?_eq_getElem (by omega)
    exact ⟨b, off, blk, _, e1, e2, e3, hx, e4 i _ hx⟩
/-- A value that lies in a block of its own. -/
def Box (h : AH) (b : Nat) (v : Value) : Prop := b < h.next ∧ ∃ c e o w, h.b.get b = some (.cells 1 c e o w) ∧ c.get 0 = some v
theorem Box.ext {b : Nat} {v : Value} (B : Box h b v) (x : Ext h h') : Box h' b v := by
  obtain ⟨h1, c, e, o, w, h2, h3⟩ := B
  exact ⟨Nat.lt_of_lt_of_le h1 x.1, c, e, o, w, by rw [x.2 b h1, h2], h3⟩
theorem Box.made {v : Value} {e : TypeId} {o : Nat} {w : Bool} (hc : h.next < cap) : Box (h.new (.cells 1 (Tr.nil.put 0 v) e o w)) h.next v :=
  ⟨Nat.lt_succ_self _, _, e, o, w, get_new_self hc, by rw [Tr.get_put _ _ _ _ (by decide)]; simp⟩
theorem Box.keep {b : Nat} {v : Value} (B : Box h b v) (h1 : h.next ≤ h'.next) (h2 : h'.b.get b = h.b.get b) : Box h' b v := by
  obtain ⟨g1, c, e, o, w, g2, g3⟩ := B
  exact ⟨Nat.lt_of_lt_of_le g1 h1, c, e, o, w, by rw [h2, g2], g3⟩
def vI64 (n : Int) : Value := .int .i64 n
def vU8 (n : Nat) : Value := .int .u8 n
def vU32 (n : Nat) : Value := .int .u32 n
end Go.Ev
attribute [go_sem] Go.Ev.vI64 Go.Ev.vU8 Go.Ev.vU32
