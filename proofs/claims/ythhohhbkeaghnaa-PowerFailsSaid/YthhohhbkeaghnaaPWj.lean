/- Layer 33 (power): the row of PowerFails. -/
import Derived.Test.YthhohhbkeaghnaaPWi
import Derived.Test.YthhohhbkeaghnaaEVr1d
set_option linter.unusedSimpArgs false
set_option linter.unusedVariables false
set_option linter.unusedSectionVars false
open Go Go.Ev Go.Proofs Go.Proofs.Ythhohhbkeaghnaa
namespace S1
open Go.ChangeShapes Go.WideShapes Go.ChangeAt Go.RowKit Go.Joins
set_option linter.unusedVariables false
set_option maxRecDepth 100000 in
theorem lifted4 (os : Os) (started : os.Started) (H : Type) (enc : TypeId × Value → H) :
    ReturnsInHanded {} Try.checked os 4 .any (Rows.powerFailsSpec.pre6 enc Try.prog Try.f4 Rows.powerFailsRow.domain false) (Rows.powerFailsSpec.post enc Try.prog Try.f4 false true false false) := by
  refine returnsInHanded_of_change_sized (C := Try.checked) own started (by kernel_rfl) Try.func4
    (ChangeSpec.witness6 (enc := enc) (C := Try.checked) false ⟨#[], #[.agg #[.slice none 0 0, .int .i64 0, .int .i64 0], .int .i64 0], []⟩ 8 (by kernel_rfl) (by kernel_rfl) (by kernel_rfl) (by kernel_rfl)) ?_
  intro W base args ds gs before hval0 hW hcnd hsz0 _
  have hval : ∀ (j : Nat) t v, Try.f4.params[j]? = some t → args[j]? = some v → Value.okWide Try.prog W .any base t v := hval0
  have hW' := hW
  obtain ⟨p, q, hA0, hV, rfl, hfz, hnd⟩ := hW
  have hA : DataW.TrodAll enc Try.prog W 0 (fun _ => true) true Try.f4.params.toList args.toList ds p := hA0
  rw [Try.params4] at hA hval
  obtain ⟨v0, vs0, d0, ds0, p0, q0, hargs, rfl, rfl, h0, r0⟩ := trodAll_cons hA
  obtain ⟨v1, vs1, d1, ds1, p1, q1, rfl, rfl, rfl, h1, r1⟩ := trodAll_cons r0
  obtain ⟨rfl, rfl, rfl⟩ := trodAll_nil r1
  obtain rfl : args = #[v0, v1] := by cases args; simp_all
  obtain ⟨rfl, rfl⟩ := trodVars_none hV
  have k0 := h0
  have lt0 : ∀ x ∈ p0, x.block < W.heap.size := by obtain ⟨m, hm⟩ := k0; exact DataW.trod_lt m _ _ _ hm
  have u0 := hval 0 24 v0 rfl rfl
  obtain ⟨c0, c1, c2, y0, y1, y2, m, rfl, rfl, rfl, hy0, hy1, hy2⟩ := open_agg3 Try.underlying24 (by kernel_rfl) (by kernel_rfl) u0 h0
  obtain ⟨a, len, cp, zs, rfl, hcame, hlen, hwf⟩ := came_ints Try.underlying22 Try.underlying3 (by kernel_rfl) (okWide_cell Try.underlying24 (ts := [22, 3, 3]) (by kernel_rfl) u0 0 22 _ rfl rfl) hy0
  obtain ⟨room, e1, rfl, w1⟩ := DataW.trod_int Try.underlying3 hy1
  obtain ⟨lim, e2, rfl, w2⟩ := DataW.trod_int Try.underlying3 hy2
  simp only [List.cons.injEq, and_true] at e1 e2
  subst e1 e2
  obtain ⟨time, rfl, rfl, rfl, w3⟩ := open_int Try.underlying3 (hval 1 3 v1 rfl rfl) h1
  obtain ⟨ρ, h, a', S, _, _, hn, HD, hren⟩ := (Start.nothing W).slice (by decide) hcame
  obtain ⟨h', e⟩ := specFails a' len cp zs room lim time h HD hlen (by rw [hn]; decide)
  refine (calls_true ok0 kn0 tab0 rfl ft4 S e (args' := [.agg ⟨[.slice a len cp, .int .i64 room, .int .i64 lim]⟩, .int .i64 time]) (by simp [renL, ren, renA, hren])).mono fun e W' ⟨he, bel⟩ => ?_
  subst he
  exact ⟨_, rfl, _, _, _, [], _, [], hW', trodAll_mk1 (shut_bool Try.underlying4 _), trodAll_cons_mk (Below.trod laidOut (by kernel_rfl) (of_decide_eq_true (by kernel_rfl)) k0 bel lt0) (trodAll_cons_mk (shut_int Try.underlying3 w3) trodAll_mk0), rfl, bel.frame _, fun h => by cases h⟩
theorem over4 : Rows.powerFailsRow.holds Try.pinned (OpenSpec.ofChange Rows.powerFailsSpec) :=
  OpenClaim.holds_of_wide 4 Try.f4 rfl rfl rfl rfl rfl rfl rfl ⟨rfl, rfl, rfl, rfl, rfl⟩ rfl rfl rfl rfl rfl (by kernel_rfl) Try.func4 (by kernel_rfl)
    (of_decide_eq_true (by kernel_rfl)) (by unfold Func.isWrapper; first | (rw [if_pos (by decide +kernel)]; kernel_rfl) | (rw [if_neg (by decide +kernel)]; exact ⟨rfl, rfl⟩))
    (fun os started H enc _ => lifted4 os started H enc)
theorem proved4 : Rows.PowerFailsSaid := over4
end S1
