/- A deterministic evaluator of the model's code over a memory of its own: operators, conversions, maps. -/
import Derived.Test.YthhohhbkeaghnaaEVi
set_option linter.unusedSimpArgs false
set_option linter.unusedVariables false
set_option linter.unusedSectionVars false
namespace Go.Ev
variable {E : Env} {P : Program}

def numV : Value → Bool
  | .int _ _ | .float _ _ | .complex _ _ _ | .string _ => true
  | _ => false

theorem binOp_eql (t : TypeId) (x y : Value) (h : numV x = false) : binOp .eql t x y = (do pure (.bool (← Op.equal t x y))) := by
  cases x <;> first | rfl | (simp [numV] at h)
theorem binOp_neq (t : TypeId) (x y : Value) (h : numV x = false) : binOp .neq t x y = (do pure (.bool (!(← Op.equal t x y)))) := by
  cases x <;> first | rfl | (simp [numV] at h)

/-- What is neither two structs nor two nil interface values needs no look ahead. -/
theorem eqGuard_other {op : BinOp} {t : TypeId} {x y : Operand} {a b : Value} (h1 : ¬ (a = .nilIface ∧ b = .nilIface)) (h2 : ∀ l m, ¬ (a = .agg l ∧ b = .agg m)) (w : World) : (eqGuard op t x y a b).run P w = .ok () w := by
  cases op <;> first
    | rfl
    | (cases a <;> cases b <;> first
        | rfl
        | exact absurd ⟨rfl, rfl⟩ h1
        | exact absurd ⟨rfl, rfl⟩ (h2 _ _))

theorem nil_equal (d : Nat) {t : TypeId} {ms : Array (String × TypeId)} (hu : P.underlying t = some (.interface ms)) (w : World) : (Op.equalIn (d + 1) t .nilIface .nilIface).run P w = .ok true w := by
  simp [Op.equalIn, Go.run_underlying hu w]

theorem eqV_num {h : AH} {u : TypeDesc} {x y : Value} {b : Bool} (e : eqV h u x y = some b) {ρ : Rn} {x' y' : Value} (hx : ren ρ x = some x') (hy : ren ρ y = some y') : numV x' = false ∧ ¬ (x' = .nilIface ∧ y' = .nilIface) ∧ ∀ l m, ¬ (x' = .agg l ∧ y' = .agg m) := by
  have ptr : ∀ {p : Option Addr} {v' : Value}, ren ρ (.pointer p) = some v' → ∃ q, v' = .pointer q := fun {p} {v'} h => by
    cases p with
    | none => simp [ren] at h; exact ⟨_, h.symm⟩
    | some a => simp [ren] at h; obtain ⟨q, _, rfl⟩ := h; exact ⟨_, rfl⟩
  have sl : ∀ {p : Option Addr} {l c : Nat} {v' : Value}, ren ρ (.slice p l c) = some v' → ∃ q l c, v' = .slice q l c := fun {p} {l} {c} {v'} h => by
    rcases p with _ | ⟨pb, po, _ | _⟩
    · simp [ren] at h; exact ⟨_, _, _, h.symm⟩
    · obtain ⟨c, s, x0, _, rfl⟩ := ren_slice h; exact ⟨_, _, _, rfl⟩
    · simp [ren] at h
  have mp : ∀ {p : Option Nat} {v' : Value}, ren ρ (.map p) = some v' → ∃ q, v' = .map q := fun {p} {v'} h => by
    cases p with
    | none => simp [ren] at h; exact ⟨_, h.symm⟩
    | some a => simp [ren] at h; obtain ⟨a, _, _, _, rfl⟩ := h; exact ⟨_, rfl⟩
  have fn : ∀ {f : Fn} {a c : Array Value} {v' : Value}, ren ρ (.func f a c) = some v' → ∃ f a c, v' = .func f a c := fun {f} {a} {c} {v'} h => by
    cases f <;> simp only [ren] at h
    · split at h <;> simp at h; exact ⟨_, _, _, h.symm⟩
    · cases h
    · cases h
    · cases h
    · split at h <;> simp at h; exact ⟨_, _, _, h.symm⟩
  unfold eqV at e
  split at e
  · rw [ren_bool.1 hx]; simp [numV]
  · obtain ⟨q, rfl⟩ := ptr hx; simp [numV]
  · obtain ⟨q, rfl⟩ := ptr hx; simp [numV]
  · simp [ren] at hx hy; subst hx; obtain ⟨v, _, rfl⟩ := hy; simp [numV]
  · simp [ren] at hx hy; subst hy; obtain ⟨v, _, rfl⟩ := hx; simp [numV]
  · obtain ⟨q, l, c, rfl⟩ := sl hx; simp [numV]
  · obtain ⟨q, l, c, rfl⟩ := sl hx; simp [numV]
  · obtain ⟨q, rfl⟩ := mp hx; simp [numV]
  · obtain ⟨q, rfl⟩ := mp hx; simp [numV]
  · simp [ren] at hx; subst hx; simp [numV]
  · simp [ren] at hx; subst hx; simp [numV]
  · obtain ⟨f, a, c, rfl⟩ := fn hx; simp [numV]
  · obtain ⟨q, rfl⟩ := ptr hx; simp [numV]
  · cases e

theorem aBin_sound (ok : Ok E P) {ρ : Rn} {h : AH} {w : World} (hr : WRel ρ h w) {op : BinOp} {t : TypeId} {xo yo : Operand} {x y x' y' v : Value} (hx : ren ρ x = some x') (hy : ren ρ y = some y') (e : aBin E op t (isCon xo || isCon yo) x y h = some v) :
    ∃ v', ren ρ v = some v' ∧ (do eqGuard op t xo yo x' y'; binOp op t x' y' : Sem Value).run P w = .ok v' w := by
  have hsz : ∀ {i : TInfo}, ptrOk E i.und x y = true → ∀ el, i.und = .pointer el → (∃ n, (sizeOf el).run P w = .ok n w ∧ n ≠ 0) ∨ (∃ a, x = .pointer none ∨ y = .pointer none ∧ a = ()) := by
    intro i hp el hu
    have isNil : ∀ {x : Value}, nilP x = true → x = .pointer none := fun {x} hh => by
      unfold nilP at hh
      split at hh
      · rfl
      · cases hh
    unfold ptrOk at hp
    rw [hu] at hp
    simp only [Bool.or_eq_true] at hp
    rcases hp with (hp | hp) | hp
    · exact .inr ⟨(), .inl (isNil hp)⟩
    · exact .inr ⟨(), .inr ⟨isNil hp, rfl⟩⟩
    · split at hp
      · rename_i ei hei
        exact .inl ⟨ei.size, ok.run_sizeOf hei w, Nat.pos_iff_ne_zero.1 (of_blt hp)⟩
      · cases hp
  have other : ∀ (i : TInfo) (b : Bool), tInfo E t = some i → ptrOk E i.und x y = true → eqV h i.und x y = some b →
      (do eqGuard .eql t xo yo x' y'; binOp .eql t x' y' : Sem Value).run P w = .ok (.bool b) w ∧ (do eqGuard .neq t xo yo x' y'; binOp .neq t x' y' : Sem Value).run P w = .ok (.bool (!b)) w := by
    intro i b hi hp he
    obtain ⟨n1, n2, n3⟩ := eqV_num he hx hy
    have hq := eqV_sound hr (ok.und hi).1 hx hy he (hsz hp) 9999
    have hq' : (Op.equal t x' y').run P w = .ok b w := hq
    constructor
    · simp only [Sem.run_bind, eqGuard_other n2 n3, Result.andThen_ok, binOp_eql t x' y' n1, hq', Sem.run_pure]
    · simp only [Sem.run_bind, eqGuard_other n2 n3, Result.andThen_ok, binOp_neq t x' y' n1, hq', Sem.run_pure]
  unfold aBin at e
  split at e
  · rw [ren_int.1 hx, ren_int.1 hy]
    obtain ⟨r1, r2⟩ := binInt_sound (t := t) e w (P := P)
    exact ⟨v, r2 ρ, by rw [Sem.run_bind, eqGuard_other (by simp) (by simp)]; exact r1⟩
  · rw [ren_string.1 hx, ren_string.1 hy]
    obtain ⟨r1, r2⟩ := binStr_sound (t := t) e w (P := P)
    exact ⟨v, r2 ρ, by rw [Sem.run_bind, eqGuard_other (by simp) (by simp)]; exact r1⟩
  · simp [ren] at hx hy; subst hx; subst hy
    have two : ∀ b, nilTwo E (isCon xo || isCon yo) t b = some v → v = .bool b ∧ (∃ ms, P.underlying t = some (.interface ms)) ∧ ((∃ c, xo = .const c) ∨ ∃ c, yo = .const c) := by
      intro b hb
      unfold nilTwo at hb
      rw [oget_some] at hb; obtain ⟨i, hi, hb⟩ := hb
      split at hb
      · rename_i ms hu hcon
        cases hb
        refine ⟨rfl, ⟨ms, by rw [(ok.und hi).1, hu]⟩, ?_⟩
        have : (isCon xo || isCon yo) = true := by assumption
        rcases Bool.or_eq_true_iff.1 this with hh | hh
        · cases xo <;> simp [isCon] at hh
          exact .inl ⟨_, rfl⟩
        · cases yo <;> simp [isCon] at hh
          exact .inr ⟨_, rfl⟩
      · cases hb
    split at e
    · obtain ⟨rfl, ⟨ms, hu⟩, hc⟩ := two true e
      refine ⟨.bool true, by simp [ren], ?_⟩
      have hq : (Op.equal t .nilIface .nilIface).run P w = .ok true w := nil_equal 9999 hu w
      have hg : ∀ op, (eqGuard op t xo yo .nilIface .nilIface).run P w = .ok () w := by
        intro op
        rcases hc with ⟨c, rfl⟩ | ⟨c, rfl⟩
        · cases op <;> rfl
        · cases op <;> cases xo <;> rfl
      simp only [Sem.run_bind, hg, Result.andThen_ok, binOp_eql t .nilIface .nilIface rfl, hq, Sem.run_pure]
    · obtain ⟨rfl, ⟨ms, hu⟩, hc⟩ := two false e
      refine ⟨.bool false, by simp [ren], ?_⟩
      have hq : (Op.equal t .nilIface .nilIface).run P w = .ok true w := nil_equal 9999 hu w
      have hg : ∀ op, (eqGuard op t xo yo .nilIface .nilIface).run P w = .ok () w := by
        intro op
        rcases hc with ⟨c, rfl⟩ | ⟨c, rfl⟩
        · cases op <;> rfl
        · cases op <;> cases xo <;> rfl
      simp only [Sem.run_bind, hg, Result.andThen_ok, binOp_neq t .nilIface .nilIface rfl, hq, Sem.run_pure]
      rfl
    · cases e
  · rename_i l l'
    rw [oget_some] at e; obtain ⟨i, hi, e⟩ := e
    rw [oget_some] at e; obtain ⟨us, hs, e⟩ := e
    have hg := eqGuard_struct ok hi hs
    obtain ⟨m, hm, rfl⟩ := ren_agg.1 hx
    obtain ⟨m', hm', rfl⟩ := ren_agg.1 hy
    have same : ∀ {us : List TypeDesc} {l l' : List Value} {b : Bool}, eqScals us l l' = some b → ∀ {m m' : List Value}, renL ρ l = some m → renL ρ l' = some m' → eqScals us m m' = some b := by
      intro us
      induction us with
      | nil =>
        intro l l' b he m m' h1 h2
        have := eqScals_len he
        obtain rfl := List.eq_nil_of_length_eq_zero this.1
        obtain rfl := List.eq_nil_of_length_eq_zero this.2
        rw [renL_nil.1 h1, renL_nil.1 h2]
        exact he
      | cons u us ih =>
        intro l l' b he m m' h1 h2
        cases l with
        | nil => simp [eqScals] at he
        | cons a l => cases l' with
          | nil => simp [eqScals] at he
          | cons a' l' =>
            obtain ⟨q, ml, k1, k2, rfl⟩ := renL_cons.1 h1
            obtain ⟨q', ml', k1', k2', rfl⟩ := renL_cons.1 h2
            have hl1 := renL_length k2
            have hl2 := renL_length k2'
            simp only [eqScals] at he ⊢
            split at he
            · rename_i hsn
              obtain ⟨s1, s2⟩ := sameN_ren hsn ρ
              rw [s1] at k1; rw [s2] at k1'; cases k1; cases k1'
              rw [hsn]
              have := ih he k2 k2'
              simpa using this
            · rename_i hsn
              rw [bif_some] at he
              obtain ⟨hb, he⟩ := he
              obtain ⟨s1, s2⟩ := sameN_ren he ρ
              rw [s1] at k1; rw [s2] at k1'; cases k1; cases k1'
              split
              · rename_i hh; exact absurd hh hsn
              · rw [bif_some, hl1, hl2]; exact ⟨hb, he⟩
    have hq : ∀ b, eqScals us l l' = some b → (Op.equalIn 10000 t (.agg ⟨m⟩) (.agg ⟨m'⟩)).run P w = .ok b w := fun b hb => equal_struct ok hi hs (same hb hm hm') 9998 w
    split at e
    · rw [oget_some] at e; obtain ⟨b, hb, e⟩ := e
      cases e
      refine ⟨.bool b, by simp [ren], ?_⟩
      rw [Sem.run_bind, run_eqGuard_agg w _ _ _ _ _ _ hg, Result.andThen_ok, run_eql_struct, hq b hb]
      rfl
    · rw [oget_some] at e; obtain ⟨b, hb, e⟩ := e
      cases e
      refine ⟨.bool (!b), by simp [ren], ?_⟩
      rw [Sem.run_bind, run_eqGuard_agg w _ _ _ _ _ _ hg, Result.andThen_ok, run_neq_struct, hq b hb]
      rfl
    · cases e
  · split at e
    · rw [oget_some] at e; obtain ⟨i, hi, e⟩ := e
      rw [bif_some] at e; obtain ⟨hp, e⟩ := e
      rw [oget_some] at e; obtain ⟨b, hb, e⟩ := e
      cases e
      exact ⟨.bool b, by simp [ren], (other i b hi hp hb).1⟩
    · rw [oget_some] at e; obtain ⟨i, hi, e⟩ := e
      rw [bif_some] at e; obtain ⟨hp, e⟩ := e
      rw [oget_some] at e; obtain ⟨b, hb, e⟩ := e
      cases e
      exact ⟨.bool (!b), by simp [ren], (other i b hi hp hb).2⟩
    · cases e

theorem aUn_sound {ρ : Rn} {w : World} {op : UnOp} {x x' v : Value} (hx : ren ρ x = some x') (e : aUn op x = some v) : ∃ v', ren ρ v = some v' ∧ (Op.unary op x').run P w = .ok v' w := by
  unfold aUn at e
  split at e
  · cases e; rw [ren_bool.1 hx]; exact ⟨_, ren_bool.2 rfl, rfl⟩
  · cases e; rw [ren_int.1 hx]; exact ⟨_, ren_int.2 rfl, rfl⟩
  · rename_i k n
    rw [ren_int.1 hx]
    have : v = .int k (k.wrap (BitVec.ofInt k.bits (if k.signed then -1 else k.max) ^^^ BitVec.ofInt k.bits n).toNat) := by
      simp [binInt] at e
      exact e.symm
    subst this
    exact ⟨_, ren_int.2 rfl, rfl⟩
  · cases e

end Go.Ev
