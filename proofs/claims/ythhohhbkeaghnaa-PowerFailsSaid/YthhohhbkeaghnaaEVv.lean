/- A deterministic evaluator of the model's code over a memory of its own: drawing regions. -/
import Derived.Test.YthhohhbkeaghnaaEVu
set_option linter.unusedSimpArgs false
set_option linter.unusedVariables false
set_option linter.unusedSectionVars false
namespace Go.Ev
variable {E : Env} {P : Program}

theorem aval_alloc0 {o : Oper} (hc : clsOf o.op = .alloc) {f : Operand → Option Value} {h h' : AH} {v : Value} (e : aval E o f h = some (v, h')) : ∃ blk, h' = h.new blk ∧ h.next < cap := by
  have hcells : ∀ {cs t v h'}, aNewCells h cs t = some (v, h') → ∃ blk, h' = h.new blk ∧ h.next < cap := fun e => by
    unfold aNewCells at e
    rw [bif_some] at e
    obtain ⟨hc, e⟩ := e
    simp only [Bool.and_eq_true] at hc
    cases e
    exact ⟨_, rfl, of_blt hc.1.2⟩
  obtain ⟨dst, op, type, pos, after, guard⟩ := o
  cases op <;> simp only [clsOf, reduceCtorEq] at hc
  case binOp op t x y yt => cases op <;> simp at hc
  case call c =>
    obtain ⟨callee, args, ats⟩ := c
    cases callee with
    | builtin b => cases b <;> simp at hc
    | value g => simp at hc
    | invoke r m => simp at hc
  case alloc t =>
    simp only [aval] at e
    unfold aAlloc at e
    rw [oget_some] at e; obtain ⟨i, hi, e⟩ := e
    rw [oget_some] at e; obtain ⟨z, hz, e⟩ := e
    exact hcells e
  case box t x =>
    simp only [aval] at e
    rw [oget_some] at e; obtain ⟨u, hu, e⟩ := e
    exact hcells e
  case buildSlice t n ps =>
    simp only [aval] at e
    rw [oget_some] at e; obtain ⟨u, hu, e⟩ := e
    unfold aBuildSlice at e
    rw [oget_some] at e; obtain ⟨i, hi, e⟩ := e
    split at e
    · rw [oget_some] at e; obtain ⟨ei, hei, e⟩ := e
      rw [oget_some] at e; obtain ⟨z, hz, e⟩ := e
      rw [bif_some] at e
      obtain ⟨hc, e⟩ := e
      rw [oget_some] at e; obtain ⟨cs, hcs, e⟩ := e
      rw [bif_some] at e
      obtain ⟨hc2, e⟩ := e
      simp only [Bool.and_eq_true] at hc2
      cases e
      exact ⟨_, rfl, of_blt hc2.1.2⟩
    · cases e
  case makeMap t r =>
    cases r with
    | some _ => simp [aval] at e
    | none =>
      simp only [aval] at e
      rw [oget_some] at e; obtain ⟨i, hi, e⟩ := e
      rw [bif_some] at e; obtain ⟨hc, e⟩ := e
      cases e
      exact ⟨_, rfl, of_blt hc⟩
  case makeSlice t l c =>
    simp only [aval] at e
    rw [oget_some] at e; obtain ⟨u, hu, e⟩ := e
    rw [oget_some] at e; obtain ⟨u2, hu2, e⟩ := e
    unfold aMakeSlice at e
    rw [oget_some] at e; obtain ⟨i, hi, e⟩ := e
    split at e
    · rw [oget_some] at e; obtain ⟨ei, hei, e⟩ := e
      rw [oget_some] at e; obtain ⟨z, hz, e⟩ := e
      rw [bif_some] at e
      obtain ⟨hcnd, e⟩ := e
      simp only [Bool.and_eq_true] at hcnd
      cases e
      exact ⟨_, rfl, of_blt hcnd.1.2⟩
    · cases e

mutual
theorem veq_eq (a b : Value) (h : veq a b = true) : a = b := by
  unfold veq at h
  split at h
  · simp at h; rw [h]
  · simp at h; rw [h.1, h.2]
  · rename_i a b
    obtain ⟨⟨a⟩⟩ := a; obtain ⟨⟨b⟩⟩ := b
    simp at h; rw [h]
  · rfl
  · simp only [Bool.and_eq_true] at h
    rw [of_beq h.1, of_beq h.2]
  · simp only [Bool.and_eq_true] at h
    rw [of_beq h.1, of_beq h.2]
  · simp only [Bool.and_eq_true] at h
    rw [of_beq h.1.1.1, of_beq h.1.1.2, of_beq h.1.2, of_beq h.2]
  · rfl
  · rw [of_beq h]
  · rfl
  · rfl
  · rename_i l l'
    rw [veqs_eq l l' h]
  · rename_i l l'
    rw [veqs_eq l l' h]
  · cases h
termination_by SizeOf.sizeOf a
theorem veqs_eq (l l' : List Value) (h : veq.veqs l l' = true) : l = l' := by
  match l, l', h with
  | [], [], _ => rfl
  | x :: l, y :: l', h =>
    simp only [veq.veqs, Bool.and_eq_true] at h
    rw [veq_eq x y h.1, veqs_eq l l' h.2]
  | [], _ :: _, h => simp [veq.veqs] at h
  | _ :: _, [], h => simp [veq.veqs] at h
termination_by SizeOf.sizeOf l
end

end Go.Ev
