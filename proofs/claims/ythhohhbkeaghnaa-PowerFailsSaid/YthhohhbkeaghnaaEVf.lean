/- A deterministic evaluator of the model's code over a memory of its own: slices, append, copy. -/
import Derived.Test.YthhohhbkeaghnaaEVe
set_option linter.unusedSimpArgs false
set_option linter.unusedVariables false
set_option linter.unusedSectionVars false
namespace Go.Ev
variable {E : Env} {P : Program}

def RelO (ρ : Rn) : Option Value → Option Value → Prop
  | none, none => True
  | some v, some v' => ren ρ v = some v'
  | _, _ => False

theorem bound_run {ρ : Rn} {lo lo' : Option Value} {d l y : Nat} {code : BoundsCode} (hr : RelO ρ lo lo') (e : bound? lo d = some l) (hy : l ≤ y) (w : World) :
    (match lo' with | some v => Instr.sliceBound v y code | none => (pure d : Sem Nat)).run P w = .ok l w := by
  cases lo with
  | none => cases lo' with
    | none => simp [bound?] at e; subst e; rfl
    | some _ => exact hr.elim
  | some v => cases lo' with
    | none => exact hr.elim
    | some v' =>
      cases v with
      | int k i =>
        simp only [bound?] at e
        rw [bif_some] at e
        obtain ⟨h0, e⟩ := e
        have h0 := of_decide_eq_true h0
        cases e
        have : v' = .int k i := by simp [RelO, ren] at hr; exact hr.symm
        subst this
        have h1 : i ≤ (y : Int) := by omega
        simp [Instr.sliceBound, asIntOf, h0, h1]
      | _ => simp [bound?] at e

theorem run_sliceBounds {ρ : Rn} {lo lo' hi hi' : Option Value} {b : Bool} {len cp l u : Nat} (hl : RelO ρ lo lo') (hh : RelO ρ hi hi') (el : bound? lo 0 = some l) (eu : bound? hi len = some u) (h1 : l ≤ u) (h2 : u ≤ cp) (w : World) :
    (Instr.sliceBounds b len cp lo' hi' none).run P w = .ok (l, u, cp) w := by
  unfold Instr.sliceBounds
  have a1 := bound_run (P := P) (code := if b then .sliceAcap else .sliceAlen) hh eu h2 w
  have a2 := bound_run (P := P) (code := .sliceB) hl el h1 w
  cases hi' with
  | none =>
    cases lo' with
    | none => simp at a1 a2; simp [a1, a2]
    | some v => simp at a1; simp [a1]; simp at a2; simp [a2]
  | some v =>
    simp at a1
    cases lo' with
    | none => simp at a2; simp [a1, a2]
    | some v => simp at a2; simp [a1, a2]

theorem data_extract (s : ByteArray) (l u : Nat) : s.extract l u = ⟨⟨(s.data.toList.drop l).take (u - l)⟩⟩ := by
  apply ByteArray.ext
  rw [ByteArray.data_extract]
  apply Array.ext'
  simp [List.extract_eq_take_drop]

theorem aSlice_sound (ok : Ok E P) {ρ : Rn} {h h' : AH} {w : World} (hr : WRel ρ h w) {t : TypeId} {x x' v : Value} {lo lo' hi hi' : Option Value} (hx : ren ρ x = some x') (hl : RelO ρ lo lo') (hh : RelO ρ hi hi')
    (e : aSlice E t x lo hi h = some (v, h')) (room : Room ρ h.next h'.next) : Good P ρ h w (Instr.sliceAt t x' lo' hi' none) v h' := by
  unfold aSlice at e
  rw [oget_some] at e; obtain ⟨i, hi0, e⟩ := e
  split at e
  · -- a string
    rename_i s hu
    rw [oget_some] at e; obtain ⟨l, el, e⟩ := e
    rw [oget_some] at e; obtain ⟨u, eu, e⟩ := e
    simp only [bif_some, Bool.and_eq_true, Option.some.injEq, Prod.mk.injEq] at e
    obtain ⟨⟨h1, h2⟩, rfl, rfl⟩ := e
    simp [ren] at hx; subst hx
    refine Good.same hr (v' := .string ⟨⟨(s.data.toList.drop l).take (u - l)⟩⟩) (by simp [ren]) ?_
    have := run_sliceBounds (P := P) (b := false) hl hh el (by rw [Array.length_toList] at eu; exact eu) (of_ble h1) (cp := s.size) (by have := of_ble h2; simpa using this) w
    simp only [Instr.sliceAt, Sem.run_bind, ok.run_underlying hi0, hu, Result.andThen_ok, Instr.slice, Option.isSome_none, Bool.false_eq_true, if_false, Sem.run_pure]
    rw [show s.data.size = s.size from rfl] at this
    simp only [this, Result.andThen_ok, data_extract]
  · -- a slice
    rename_i el a len cp hu
    rw [oget_some] at e; obtain ⟨ei, hei, e⟩ := e
    rw [oget_some] at e; obtain ⟨l, el', e⟩ := e
    rw [oget_some] at e; obtain ⟨u, eu, e⟩ := e
    rw [bif_some] at e
    obtain ⟨hc, e⟩ := e
    simp only [Bool.and_eq_true] at hc
    have h1 := of_ble hc.1
    have h2 := of_ble hc.2
    have run : ∀ (a' : Option Addr) (cp' : Nat), cp ≤ cp' → (Instr.sliceAt t (.slice a' len cp') lo' hi' none).run P w = .ok (.slice (if cp' = l then a' else a'.map (·.add (l * ei.size))) (u - l) (cp' - l)) w := by
      intro a' cp' hcp
      have := run_sliceBounds (P := P) (b := true) hl hh el' eu h1 (cp := cp') (by omega) w
      simp only [Instr.sliceAt, Sem.run_bind, ok.run_underlying hi0, hu, Result.andThen_ok, Instr.slice, this, ok.run_sizeOf hei, Sem.run_pure]
    split at e
    · cases e
      simp [ren] at hx; subst hx
      exact Good.same hr (v' := .slice none (u - l) (cp - l)) (by simp [ren]) (by rw [run none cp (Nat.le_refl _)]; simp)
    · rename_i b off
      obtain ⟨c, s, x0, hρ, rfl⟩ := ren_slice hx
      split at e
      · rename_i n ct et opn wh hblk
        have hB := hr.blk b _ hblk c s x0 hρ
        obtain ⟨C, lo0, hi0', b1, b2, b3, b4, b5, b6⟩ := hB
        cases ho : opn.beq 0 with
        | true =>
          simp only [ho, cond_true, Option.some.injEq, Prod.mk.injEq] at e
          obtain ⟨rfl, rfl⟩ := e
          have hx0 := b3 (of_beq ho)
          subst hx0
          refine Good.same hr (v' := .slice (if cp = l then some ⟨c, s + off, none⟩ else (some ⟨c, s + off, none⟩ : Option Addr).map (·.add (l * ei.size))) (u - l) (cp - l)) ?_ (run _ _ (Nat.le_refl _))
          by_cases hcl : cp = l
          · simp [ren, hρ, hcl]
          · simp [ren, hρ, beqF hcl, hcl, addr_add, Nat.add_assoc]
        | false =>
          simp only [ho, cond_false] at e
          cases hcl : cp.beq l with
          | true =>
            simp only [hcl, cond_true, bif_some, Option.some.injEq, Prod.mk.injEq] at e
            obtain ⟨hcap, rfl, rfl⟩ := e
            have hcl' := of_beq hcl
            have hn : ρ h.next = none := room _ (Nat.le_refl _) (Nat.lt_succ_self _)
            refine ⟨ρ.ins h.next (c, (if x0 = 0 then s + off else s + off + l * ei.size), x0), w, .slice (if x0 = 0 then some ⟨c, s + off, none⟩ else some ⟨c, s + off + l * ei.size, none⟩) 0 x0,
              Step.new hr hn (of_blt hcap) rfl trivial (Nat.le_refl _) (by simp [Blk.own]) (fun _ _ => rfl) rfl rfl rfl, ?_, ?_⟩
            · by_cases hx0 : x0 = 0
              · simp [ren, ins_self, hx0]
              · simp [ren, ins_self, hx0]
            · rw [run _ _ (Nat.le_add_right _ _)]
              have hul : u = l := by omega
              by_cases hx0 : x0 = 0
              · simp [hx0, hcl', hul]
              · simp [hx0, hcl', hul, addr_add]
          | false =>
            simp only [hcl, cond_false, Option.some.injEq, Prod.mk.injEq] at e
            obtain ⟨rfl, rfl⟩ := e
            have hne := of_beqF hcl
            refine Good.same hr (v' := .slice (some ⟨c, s + off + l * ei.size, none⟩) (u - l) (cp + x0 - l)) ?_ ?_
            · simp [ren, hρ, Nat.add_assoc]; omega
            · rw [run _ _ (Nat.le_add_right _ _), if_neg (by omega)]
              simp [addr_add]
      · rename_i n f hblk
        simp only [Option.some.injEq, Prod.mk.injEq] at e
        obtain ⟨rfl, rfl⟩ := e
        have hB := hr.blk b _ hblk c s x0 hρ
        have hx0 := hB.1.1
        subst hx0
        refine Good.same hr (v' := .slice (if cp = l then some ⟨c, s + off, none⟩ else (some ⟨c, s + off, none⟩ : Option Addr).map (·.add (l * ei.size))) (u - l) (cp - l)) ?_ (run _ _ (Nat.le_refl _))
        by_cases hcl : cp = l
        · simp [ren, hρ, hcl]
        · simp [ren, hρ, beqF hcl, hcl, addr_add, Nat.add_assoc]
      · cases e
    · cases e
  · -- a pointer to an array
    rename_i arr b off hu
    rw [oget_some] at e; obtain ⟨ai, hai, e⟩ := e
    split at e
    · rename_i n el m ct et opn wh hau hblk
      rw [oget_some] at e; obtain ⟨ei, hei, e⟩ := e
      rw [oget_some] at e; obtain ⟨l, el', e⟩ := e
      rw [oget_some] at e; obtain ⟨u, eu, e⟩ := e
      simp only [bif_some, Bool.and_eq_true, Option.some.injEq, Prod.mk.injEq] at e
      obtain ⟨⟨⟨h1, h2⟩, h3⟩, rfl, rfl⟩ := e
      obtain ⟨c, s, x0, hρ, rfl⟩ := ren_ptr hx
      obtain ⟨C, lo0, hi0', b1, b2, b3, _⟩ := hr.blk b _ hblk c s x0 hρ
      have hx0 := b3 (of_beq h3)
      subst hx0
      have := run_sliceBounds (P := P) (b := false) hl hh el' eu (of_ble h1) (cp := n) (of_ble h2) w
      refine Good.same hr (v' := .slice (some (if n = l then ⟨c, s + off, none⟩ else ⟨c, s + off + l * ei.size, none⟩)) (u - l) (n - l)) ?_ ?_
      · by_cases hcl : n = l
        · simp [ren, hρ, hcl]
        · simp [ren, hρ, beqF hcl, hcl, Nat.add_assoc]
      · simp only [Instr.sliceAt, Sem.run_bind, ok.run_underlying hi0, hu, Result.andThen_ok, Instr.slice, asAddr, Sem.run_pure, ok.run_underlying hai, hau, this, ok.run_sizeOf hei, addr_add]
    · cases e
  · -- an array behind its address
    rename_i n el b off hu
    split at e
    · rename_i m ct et opn wh hblk
      rw [oget_some] at e; obtain ⟨ei, hei, e⟩ := e
      rw [oget_some] at e; obtain ⟨l, el', e⟩ := e
      rw [oget_some] at e; obtain ⟨u, eu, e⟩ := e
      simp only [bif_some, Bool.and_eq_true, Option.some.injEq, Prod.mk.injEq] at e
      obtain ⟨⟨⟨h1, h2⟩, h3⟩, rfl, rfl⟩ := e
      obtain ⟨c, s, x0, hρ, rfl⟩ := ren_ptr hx
      obtain ⟨C, lo0, hi0', b1, b2, b3, _⟩ := hr.blk b _ hblk c s x0 hρ
      have hx0 := b3 (of_beq h3)
      subst hx0
      have := run_sliceBounds (P := P) (b := false) hl hh el' eu (of_ble h1) (cp := n) (of_ble h2) w
      refine Good.same hr (v' := .slice (some (if n = l then ⟨c, s + off, none⟩ else ⟨c, s + off + l * ei.size, none⟩)) (u - l) (n - l)) ?_ ?_
      · by_cases hcl : n = l
        · simp [ren, hρ, hcl]
        · simp [ren, hρ, beqF hcl, hcl, Nat.add_assoc]
      · simp only [Instr.sliceAt, Sem.run_bind, ok.run_underlying hi0, hu, Result.andThen_ok, Instr.sureAddr, Sem.run_pure, this, ok.run_sizeOf hei, addr_add]
    · cases e
  · cases e

end Go.Ev
