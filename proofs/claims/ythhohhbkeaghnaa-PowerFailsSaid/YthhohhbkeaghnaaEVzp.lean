/- A deterministic evaluator of the model's code over a memory of its own: how arguments come in. -/
import Derived.Test.YthhohhbkeaghnaaEVzo
import Derived.WalkKit
import Derived.ProofKit
import Derived.OpenShut
import Derived.ShutString
import Derived.ChangeOld
import Derived.SizedLaws
import Derived.Carry
import Derived.Lib.SmallJoins
set_option linter.unusedSimpArgs false
set_option linter.unusedVariables false
set_option linter.unusedSectionVars false
namespace Go.Ev
open Go.ChangeShapes Go.WideShapes Go.ChangeAt Go.RowKit Go.Joins
section opens
variable {H : Type} {enc : TypeId × Value → H} {W : World}
/-- A slice of whole numbers that came in, with what is known of it. -/
theorem came_ints {P : Program} {t e : TypeId} {k : IntKind} {base : Nat} {v : Value} {fuel : Nat} {y : DataW H × List MemPlace} (ht : P.underlying t = some (.slice e)) (he : P.underlying e = some (.int k)) (hc : P.cellsOf e = 1)
    (hv : Cell.okWide P W .any base t v) (h : DataW.trod enc P W 0 (fun _ => true) true fuel t [v] = some y) :
    ∃ a len cp zs, v = .slice a len cp ∧ Came W k a len cp zs ∧ len ≤ 9223372036854775807 ∧ (∀ n ∈ zs, (Lit.int k n).wf = true) := by
  rcases open_ints ht he hc h with ⟨hcs, _⟩ | ⟨x, l, c, zs, hcs, _, hl, hm, hz, hx, hcell, hwz⟩
  · simp only [List.cons.injEq, and_true] at hcs
    exact ⟨none, 0, 0, [], hcs, ⟨rfl, .inl ⟨rfl, rfl, rfl⟩⟩, by omega, fun n hn => by cases hn⟩
  · simp only [List.cons.injEq, and_true] at hcs
    subst hcs
    simp only [Cell.okWide, ht, Cell.ok] at hv
    obtain ⟨h1, h2, h3, h4, row, cells, h5, _⟩ := hv
    simp only [if_true] at hz
    have hob : ∃ o, W.heap[x.block]? = some o := by
      cases ho : W.heap[x.block]? with
      | none => simp [World.shape?, ho] at h5
      | some o => exact ⟨o, rfl⟩
    have hi : (c : Int) ≤ 9223372036854775807 := by
      have : IntKind.i64.max = 9223372036854775807 := by decide
      rw [this] at h2; exact h2
    refine ⟨some x, l, c, zs.take l, rfl, ⟨by rw [List.length_take]; omega, .inr ⟨x, rfl, h4, hl, hob, fun i z hzi => ?_⟩⟩, by omega, fun n hn => hwz n (List.mem_of_mem_take hn)⟩
    rw [List.getElem?_take] at hzi
    split at hzi
    · have hil : i < zs.length := by omega
      have := hcell i hil
      rw [List.getD_eq_getElem?_getD, hzi] at this
      exact this
    · cases hzi
end opens
/-- The cells of a struct that came in are values of their own types. -/
theorem okWide_cell {P : Program} {W : World} {base : Nat} {t : TypeId} {cs : Array Value} {fs : Array Field} {ts : List TypeId} (ht : P.underlying t = some (.struct fs)) (hts : P.cellTypes P.depth t = some ts) (h : Value.okWide P W .any base t (.agg cs)) (i : Nat) (u : TypeId) (v : Value) (hu : ts[i]? = some u) (hv : cs[i]? = some v) : Cell.okWide P W .any base u v := by
  simp only [Value.okWide, ht] at h
  obtain ⟨cs', e, hsz, ts', h1, ⟨n, h2⟩, h3⟩ := h
  cases e
  rw [hts] at h1; cases h1
  obtain ⟨u', h4, h5⟩ := h3 i v hv
  have hi : i < ts.length := (List.getElem?_eq_some_iff.1 hu).1
  rw [Nat.mod_eq_of_lt hi, hu] at h4
  cases h4
  exact h5
end Go.Ev
