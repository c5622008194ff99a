/- Layer 33 (power): the row of PowerApart. -/
import Derived.Test.YthhohhbkeaghnaaPWf
import Derived.Test.YthhohhbkeaghnaaEVzo
import Derived.WalkKit
import Derived.ProofKit
import Derived.OpenShut
import Derived.ShutString
import Derived.ChangeOld
import Derived.SizedLaws
import Derived.Carry
import Derived.Lib.SmallJoins
set_option linter.unusedSimpArgs false
set_option linter.unusedVariables false
set_option linter.unusedSectionVars false
open Go Go.Ev Go.Proofs Go.Proofs.Ythhohhbkeaghnaa
namespace S1
open Go.ChangeShapes Go.WideShapes Go.ChangeAt Go.RowKit Go.Joins
set_option linter.unusedVariables false
theorem own : ownKnob Try.prog.godebug = none := by kernel_rfl
theorem laidOut : laidOutB Try.prog = true := by kernel_rfl

section opens
variable {H : Type} {enc : TypeId × Value → H} {W : World}
/-- A slice of whole numbers that came in, with what is known of it. -/
theorem came_ints {P : Program} {t e : TypeId} {k : IntKind} {base : Nat} {v : Value} {fuel : Nat} {y : DataW H × List MemPlace} (ht : P.underlying t = some (.slice e)) (he : P.underlying e = some (.int k)) (hc : P.cellsOf e = 1)
    (hv : Cell.okWide P W .any base t v) (h : DataW.trod enc P W 0 (fun _ => true) true fuel t [v] = some y) :
    ∃ a len cp zs, v = .slice a len cp ∧ Came W k a len cp zs ∧ len ≤ 9223372036854775807 ∧ (∀ n ∈ zs, (Lit.int k n).wf = true) := by
  rcases open_ints ht he hc h with ⟨hcs, _⟩ | ⟨x, l, c, zs, hcs, _, hl, hm, hz, hx, hcell, hwz⟩
  · simp only [List.cons.injEq, and_true] at hcs
    exact ⟨none, 0, 0, [], hcs, ⟨rfl, .inl ⟨rfl, rfl, rfl⟩⟩, by omega, fun n hn => by cases hn⟩
  · simp only [List.cons.injEq, and_true] at hcs
    subst hcs
    simp only [Cell.okWide, ht, Cell.ok] at hv
    obtain ⟨h1, h2, h3, h4, row, cells, h5, _⟩ := hv
    simp only [if_true] at hz
    have hob : ∃ o, W.heap[x.block]? = some o := by
      cases ho : W.heap[x.block]? with
      | none => simp [World.shape?, ho] at h5
      | some o => exact ⟨o, rfl⟩
    have hi : (c : Int) ≤ 9223372036854775807 := by
      have : IntKind.i64.max = 9223372036854775807 := by decide
      rw [this] at h2; exact h2
    refine ⟨some x, l, c, zs.take l, rfl, ⟨by rw [List.length_take]; omega, .inr ⟨x, rfl, h4, hl, hob, fun i z hzi => ?_⟩⟩, by omega, fun n hn => hwz n (List.mem_of_mem_take hn)⟩
    rw [List.getElem?_take] at hzi
    split at hzi
    · have hil : i < zs.length := by omega
      have := hcell i hil
      rw [List.getD_eq_getElem?_getD, hzi] at this
      exact this
    · cases hzi
end opens
/-- The cells of a struct that came in are values of their own types. -/
theorem okWide_cell {P : Program} {W : World} {base : Nat} {t : TypeId} {cs : Array Value} {fs : Array Field} {ts : List TypeId} (ht : P.underlying t = some (.struct fs)) (hts : P.cellTypes P.depth t = some ts) (h : Value.okWide P W .any base t (.agg cs)) (i : Nat) (u : TypeId) (v : Value) (hu : ts[i]? = some u) (hv : cs[i]? = some v) : Cell.okWide P W .any base u v := by
  simp only [Value.okWide, ht] at h
  obtain ⟨cs', e, hsz, ts', h1, ⟨n, h2⟩, h3⟩ := h
  cases e
  rw [hts] at h1; cases h1
  obtain ⟨u', h4, h5⟩ := h3 i v hv
  have hi : i < ts.length := (List.getElem?_eq_some_iff.1 hu).1
  rw [Nat.mod_eq_of_lt hi, hu] at h4
  cases h4
  exact h5
set_option maxRecDepth 100000 in
theorem lifted3 (os : Os) (started : os.Started) (H : Type) (enc : TypeId × Value → H) :
    ReturnsInHanded {} Try.checked os 3 .any (Rows.powerApartSpec.pre6 enc Try.prog Try.f3 Rows.powerApartRow.domain false) (Rows.powerApartSpec.post enc Try.prog Try.f3 false true false false) := by
  refine returnsInHanded_of_change_sized (C := Try.checked) own started (by kernel_rfl) Try.func3
    (ChangeSpec.witness6 (enc := enc) (C := Try.checked) false ⟨#[], #[.agg #[.slice none 0 0, .int .i64 0, .int .i64 0], .int .i64 0], []⟩ 8 (by kernel_rfl) (by kernel_rfl) (by kernel_rfl) (by kernel_rfl)) ?_
  intro W base args ds gs before hval0 hW hcnd hsz0 _
  have hval : ∀ (j : Nat) t v, Try.f3.params[j]? = some t → args[j]? = some v → Value.okWide Try.prog W .any base t v := hval0
  have hW' := hW
  obtain ⟨p, q, hA0, hV, rfl, hfz, hnd⟩ := hW
  have hA : DataW.TrodAll enc Try.prog W 0 (fun _ => true) true Try.f3.params.toList args.toList ds p := hA0
  rw [Try.params3] at hA hval
  obtain ⟨v0, vs0, d0, ds0, p0, q0, hargs, rfl, rfl, h0, r0⟩ := trodAll_cons hA
  obtain ⟨v1, vs1, d1, ds1, p1, q1, rfl, rfl, rfl, h1, r1⟩ := trodAll_cons r0
  obtain ⟨rfl, rfl, rfl⟩ := trodAll_nil r1
  obtain rfl : args = #[v0, v1] := by cases args; simp_all
  obtain ⟨rfl, rfl⟩ := trodVars_none hV
  have k0 := h0
  have lt0 : ∀ x ∈ p0, x.block < W.heap.size := by obtain ⟨m, hm⟩ := k0; exact DataW.trod_lt m _ _ _ hm
  have u0 := hval 0 24 v0 rfl rfl
  obtain ⟨c0, c1, c2, y0, y1, y2, m, rfl, rfl, rfl, hy0, hy1, hy2⟩ := open_agg3 Try.underlying24 (by kernel_rfl) (by kernel_rfl) u0 h0
  obtain ⟨a, len, cp, zs, rfl, hcame, hlen, hwf⟩ := came_ints Try.underlying22 Try.underlying3 (by kernel_rfl) (okWide_cell Try.underlying24 (ts := [22, 3, 3]) (by kernel_rfl) u0 0 22 _ rfl rfl) hy0
  obtain ⟨room, e1, rfl, w1⟩ := DataW.trod_int Try.underlying3 hy1
  obtain ⟨lim, e2, rfl, w2⟩ := DataW.trod_int Try.underlying3 hy2
  simp only [List.cons.injEq, and_true] at e1 e2
  subst e1 e2
  obtain ⟨time, rfl, rfl, rfl, w3⟩ := open_int Try.underlying3 (hval 1 3 v1 rfl rfl) h1
  obtain ⟨ρ, h, a', S, _, _, hn, HD, hren⟩ := (Start.nothing W).slice (by decide) hcame
  obtain ⟨h', e⟩ := specApart a' len cp zs room lim time h HD hlen (by rw [hn]; decide)
  refine (calls_true ok0 kn0 tab0 rfl ft3 S e (args' := [.agg ⟨[.slice a len cp, .int .i64 room, .int .i64 lim]⟩, .int .i64 time]) (by simp [renL, ren, renA, hren])).mono fun e W' ⟨he, bel⟩ => ?_
  subst he
  exact ⟨_, rfl, _, _, _, [], _, [], hW', trodAll_mk1 (shut_bool Try.underlying4 _), trodAll_cons_mk (Below.trod laidOut (by kernel_rfl) (of_decide_eq_true (by kernel_rfl)) k0 bel lt0) (trodAll_cons_mk (shut_int Try.underlying3 w3) trodAll_mk0), rfl, bel.frame _, fun h => by cases h⟩
theorem over3 : Rows.powerApartRow.holds Try.pinned (OpenSpec.ofChange Rows.powerApartSpec) :=
  OpenClaim.holds_of_wide 3 Try.f3 rfl rfl rfl rfl rfl rfl rfl ⟨rfl, rfl, rfl, rfl, rfl⟩ rfl rfl rfl rfl rfl (by kernel_rfl) Try.func3 (by kernel_rfl)
    (of_decide_eq_true (by kernel_rfl)) (by unfold Func.isWrapper; first | (rw [if_pos (by decide +kernel)]; kernel_rfl) | (rw [if_neg (by decide +kernel)]; exact ⟨rfl, rfl⟩))
    (fun os started H enc _ => lifted3 os started H enc)
theorem proved3 : Rows.PowerApartSaid := over3
end S1
