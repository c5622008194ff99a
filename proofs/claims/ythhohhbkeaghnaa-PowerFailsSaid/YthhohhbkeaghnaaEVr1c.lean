/- Seat r1: the two examples, evaluated. -/
import Derived.Test.YthhohhbkeaghnaaEVr1b
set_option linter.unusedSimpArgs false
set_option linter.unusedVariables false
set_option linter.unusedSectionVars false
open Go Go.Ev Go.Proofs Go.Proofs.Ythhohhbkeaghnaa
namespace S1
def isT : CRes → Bool
  | .ret (.bool true) _ _ => true
  | _ => false
theorem isT_iff {x : CRes} (h : isT x = true) : ∃ h' rc, x = .ret (.bool true) h' rc := by
  unfold isT at h
  split at h
  · exact ⟨_, _, rfl⟩
  · cases h
theorem aw8 : isT (callN E1 ft1 300 (.fn 8) [] none AH.none) = true := by kernel_rfl
theorem aw16 : isT (callN E1 ft1 300 (.fn 16) [] none AH.none) = true := by kernel_rfl
theorem order : Try.prog.follows .mixedOrders = true := by kernel_rfl
theorem ok1 : Ok E1 Try.prog := ok_of Try.prog (List.range 98) 0 _ order
theorem ok0 : Ok E0 Try.prog := ok_of Try.prog (List.range 98) 0 _ order
theorem kn1 : KnownOk E1 Try.prog := fun f v h => by cases h
theorem tab1 : TabOk Try.prog ft1 := tabOk_of _ _
theorem tab0 : TabOk Try.prog ft0 := tabOk_of _ _
theorem has8 : ∃ af, ft1.get 8 = some af := Option.isSome_iff_exists.1 (by kernel_rfl)
theorem has16 : ∃ af, ft1.get 16 = some af := Option.isSome_iff_exists.1 (by kernel_rfl)
theorem kn0 : KnownOk E0 Try.prog := by
  intro f v h ρ hh w hr top hg
  have hf : (bif f.beq 8 || f.beq 16 then some (Value.bool true) else none) = some v := h
  cases h8 : f.beq 8 with
  | true =>
    rw [h8] at hf; cases hf
    obtain rfl : f = 8 := Nat.eq_of_beq_eq_true h8
    obtain ⟨h', rc, e⟩ := isT_iff aw8
    exact known_of ok1 kn1 tab1 rfl e has8 hr top
  | false =>
    rw [h8] at hf
    cases h16 : f.beq 16 with
    | true =>
      rw [h16] at hf; cases hf
      obtain rfl : f = 16 := Nat.eq_of_beq_eq_true h16
      obtain ⟨h', rc, e⟩ := isT_iff aw16
      exact known_of ok1 kn1 tab1 rfl e has16 hr top
    | false => rw [h16] at hf; cases hf
theorem no8 : ft0.get 8 = none := by kernel_rfl
theorem no16 : ft0.get 16 = none := by kernel_rfl
@[go_sem] theorem awake8 (h : AH) : CL E0 ft0 (.fn 8) [] none h = .ret (.bool true) h false := CL_known no8 rfl rfl
@[go_sem] theorem awake16 (h : AH) : CL E0 ft0 (.fn 16) [] none h = .ret (.bool true) h false := CL_known no16 rfl rfl
end S1
