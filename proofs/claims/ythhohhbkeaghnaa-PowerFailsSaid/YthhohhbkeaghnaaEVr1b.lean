/- Seat r1: what is known of its slices. -/
import Derived.Test.YthhohhbkeaghnaaEVr1a
import Derived.Test.YthhohhbkeaghnaaEVzn
set_option linter.unusedSimpArgs false
set_option linter.unusedVariables false
set_option linter.unusedSectionVars false
open Go Go.Ev Go.Proofs Go.Proofs.Ythhohhbkeaghnaa
namespace S1
theorem st22 : ∃ i, tInfo E0 22 = some i ∧ i.und = .slice 3 ∧ tInfo E0 3 = some ⟨.int .i64, 1, 8, some (.int .i64 0), none⟩ := by
  have h : (oget (tInfo E0 22) fun i => some i.und) = some (.slice 3) := by kernel_rfl
  have h3 : tInfo E0 3 = some ⟨.int .i64, 1, 8, some (.int .i64 0), none⟩ := by kernel_rfl
  cases hx : tInfo E0 22 with
  | none => rw [hx] at h; cases h
  | some i => rw [hx] at h; exact ⟨i, rfl, by simpa [oget] using h, h3⟩
theorem T22 : SliceT E0 22 3 1 8 [.int .i64 0] := by
  obtain ⟨i, h1, h2, h3⟩ := st22
  exact ⟨⟨i, h1, h2⟩, ⟨_, h3, rfl, rfl, _, rfl, rfl⟩, by decide, rfl, rfl⟩
@[go_sem] theorem bs22 (x : Int) (h : AH) : aBuildSlice E0 22 1 [(0, .int .i64 x)] h = bif Nat.blt h.next cap && true then some (.slice (some ⟨h.next, 0, none⟩) 1 1, h.new (.cells 1 (putCells .nil 0 [.int .i64 x]) 3 0 true)) else none := by kernel_rfl
@[go_sem] theorem bd53 (x y z : Value) : aBuild E0 53 [(0, .agg ⟨[x, y, z]⟩)] = some (.agg ⟨[x, y, z, .int .i64 0, .bool false, .int .i64 0, .slice none 0 0]⟩) := by kernel_rfl
@[go_sem] theorem bb4 (cn a b : Bool) (h : AH) : aBin E0 .neq 4 cn (.bool a) (.bool b) h = some (.bool (!(a == b))) := by kernel_rfl
@[go_sem] theorem bb4e (cn a b : Bool) (h : AH) : aBin E0 .eql 4 cn (.bool a) (.bool b) h = some (.bool (a == b)) := by kernel_rfl
end S1
