/- Part 1 of the proof: WHATEVER THE INPUT: true; the input reads as it did. -/
import Derived.Test.YthhohhbkeaghnaaT0
import Derived.Defers
set_option linter.unusedSimpArgs false
set_option linter.unusedVariables false
set_option linter.unusedSectionVars false
section
/- A deterministic evaluator of the model's code over a memory of its own: maps, builtins, assertions. -/
namespace Go.Ev
variable {E : Env} {P : Program}

/-! ### Maps -/
theorem plainKey_ren {ρ : Rn} {k : Value} (h : plainKey k = true) : ren ρ k = some k := by
  cases k <;> simp [plainKey] at h <;> simp [ren]

theorem plainKeys_ren {ρ : Rn} : ∀ {l : List Value}, l.all plainKey = true → renL ρ l = some l
  | [], _ => by simp [renL]
  | k :: l, h => by
    simp at h
    exact renL_cons.2 ⟨k, l, plainKey_ren h.1, plainKeys_ren (by simpa using h.2), rfl⟩

theorem sameNow_of {u : TypeDesc} {x y : Value} {b : Bool} (e : sameN u x y = some b) : Instr.sameNow u x y = some b := by
  unfold sameN at e
  split at e
  · rw [bif_some] at e
    obtain ⟨hk, e⟩ := e
    have hk := of_decide_eq_true hk
    cases e; subst hk
    simp [Instr.sameNow]
  · cases e
    simp only [Instr.sameNow, beq_toListBytes, ByteArray.toList_eq]
  · cases e; rfl
  · cases e

theorem sameBits_of {u : TypeDesc} {x y : Value} (e : sameN u x y = some true) (n : Nat) : Instr.sameBits n x y = true := by
  unfold sameN at e
  split at e
  · rw [bif_some] at e
    obtain ⟨hk, e⟩ := e
    have hk := of_decide_eq_true hk
    simp at e
    subst hk; subst e
    cases n <;> simp [Instr.sameBits]
  · rename_i a b
    have : (a == b) = true := by rw [beq_toListBytes, ByteArray.toList_eq, ByteArray.toList_eq]; simpa using e
    cases n <;> simpa [Instr.sameBits] using this
  · simp at e; subst e
    cases n <;> simp [Instr.sameBits]
  · cases e

theorem sameN_symm {u : TypeDesc} {x y : Value} (e : sameN u x y = some true) : sameN u y x = some true := by
  unfold sameN at e
  split at e
  · rw [bif_some] at e
    obtain ⟨hk, e⟩ := e
    have hk := of_decide_eq_true hk
    simp at e; subst hk; subst e
    simp [sameN]
  · simp at e; simp [sameN, e]
  · simp at e; subst e; simp [sameN]
  · cases e

/-- What is found, in both. -/
def FoundRel (ρ : Rn) (k : Value) (es' : List MapEntry) : Option (Nat × Value) → Option (Nat × Value) → Prop
  | none, none => True
  | some (i, v), some (j, v') => i = j ∧ ren ρ v = some v' ∧ ∃ e, es'[i]? = some e ∧ ∀ n, Instr.sameBits (n + 1) e.key k = true
  | _, _ => False

theorem FoundRel.shift {ρ : Rn} {k : Value} {es' : List MapEntry} {e0 : MapEntry} {i : Nat} {r r' : Option (Nat × Value)}
    (h : FoundRel ρ k es' (r.map fun x => (x.1 - (i + 1), x.2)) (r'.map fun x => (x.1 - (i + 1), x.2))) (hr : ∀ x, r = some x → i + 1 ≤ x.1) (hr' : ∀ x, r' = some x → i + 1 ≤ x.1) :
    FoundRel ρ k (e0 :: es') (r.map fun x => (x.1 - i, x.2)) (r'.map fun x => (x.1 - i, x.2)) := by
  cases r with
  | none => cases r' with
    | none => trivial
    | some _ => exact h.elim
  | some x => cases r' with
    | none => exact h.elim
    | some x' =>
      obtain ⟨h1, h2, e, h3, h4⟩ := h
      have := hr x rfl
      have := hr' x' rfl
      simp only [Option.map_some] at h1 h3 ⊢
      refine ⟨by omega, h2, e, ?_, h4⟩
      rw [show x.1 - i = x.1 - (i + 1) + 1 by omega]
      simpa using h3

theorem findN_sound {ρ : Rn} {u : TypeDesc} {k : Value} : ∀ {es es' : List MapEntry} {i : Nat} {r : Option (Nat × Value)}, renEs ρ es = some es' → findN u k es i = some r →
    ∃ r', Instr.findNow u k es' i = some r' ∧ (∀ x, r = some x → i ≤ x.1) ∧ (∀ x, r' = some x → i ≤ x.1) ∧ FoundRel ρ k es' (r.map fun x => (x.1 - i, x.2)) (r'.map fun x => (x.1 - i, x.2))
  | [], es', i, r, hes, e => by
    simp [renEs] at hes; subst hes
    simp [findN] at e; subst e
    exact ⟨none, rfl, by simp, by simp, trivial⟩
  | x :: es, es', i, r, hes, e => by
    obtain ⟨k0, v0, m, h1, h2, h3, rfl⟩ := renEs_cons.1 hes
    simp only [findN] at e
    split at e
    · rename_i hs
      cases e
      have hk0 := (sameN_ren hs ρ).2
      rw [hk0] at h1; cases h1
      refine ⟨some (i, v0), ?_, by simp, by simp, ?_⟩
      · simp only [Instr.findNow, sameNow_of hs]
      · simp only [Option.map_some, FoundRel, Nat.sub_self]
        exact ⟨trivial, h2, _, rfl, fun n => sameBits_of (sameN_symm hs) _⟩
    · rename_i hs
      have hk0 := (sameN_ren hs ρ).2
      rw [hk0] at h1; cases h1
      obtain ⟨r', g1, g2, g3, g4⟩ := findN_sound h3 e
      refine ⟨r', ?_, fun x hx => by have := g2 x hx; omega, fun x hx => by have := g3 x hx; omega, FoundRel.shift g4 g2 g3⟩
      simp only [Instr.findNow, sameNow_of hs, g1]
    · cases e

theorem eqScals_symm : ∀ {us : List TypeDesc} {xs ys : List Value}, eqScals us xs ys = some true → eqScals us ys xs = some true
  | [], xs, ys, e => by
    have := eqScals_len e
    obtain rfl := List.eq_nil_of_length_eq_zero this.1
    obtain rfl := List.eq_nil_of_length_eq_zero this.2
    exact e
  | u :: us, [], ys, e => by simp [eqScals] at e
  | u :: us, x :: l, [], e => by simp [eqScals] at e
  | u :: us, x :: l, y :: l', e => by
    simp only [eqScals] at e ⊢
    split at e
    · rename_i hs
      rw [sameN_symm hs]
      exact eqScals_symm e
    · rename_i hs
      rw [bif_some] at e
      exact absurd e.2 hs

theorem eqScals_bits (n : Nat) : ∀ {us : List TypeDesc} {xs ys : List Value}, eqScals us xs ys = some true → ((xs.zip ys).all fun (x, y) => Instr.sameBits n x y) = true
  | [], xs, ys, e => by
    have := eqScals_len e
    obtain rfl := List.eq_nil_of_length_eq_zero this.1
    rfl
  | u :: us, [], ys, e => by simp [eqScals] at e
  | u :: us, x :: l, [], e => by simp [eqScals] at e
  | u :: us, x :: l, y :: l', e => by
    simp only [eqScals] at e
    split at e
    · rename_i hs
      simp only [List.zip_cons_cons, List.all_cons, Bool.and_eq_true]
      exact ⟨sameBits_of hs n, eqScals_bits n e⟩
    · rename_i hs
      rw [bif_some] at e
      exact absurd e.2 hs

theorem eqScals_plain : ∀ {us : List TypeDesc} {xs ys : List Value} {b : Bool}, eqScals us xs ys = some true → ∀ (ρ : Rn), b = b → renL ρ ys = some ys
  | [], xs, ys, b, e, ρ, _ => by
    have := eqScals_len e
    obtain rfl := List.eq_nil_of_length_eq_zero this.2
    simp [renL]
  | u :: us, [], ys, b, e, ρ, _ => by simp [eqScals] at e
  | u :: us, x :: l, [], b, e, ρ, _ => by simp [eqScals] at e
  | u :: us, x :: l, y :: l', b, e, ρ, _ => by
    simp only [eqScals] at e
    split at e
    · rename_i hs
      exact renL_cons.2 ⟨y, l', (sameN_ren hs ρ).2, eqScals_plain (b := b) e ρ rfl, rfl⟩
    · rename_i hs
      rw [bif_some] at e
      exact absurd e.2 hs

/-- The renaming of a struct's fields that were compared: as far as they were. -/
theorem eqScals_ren : ∀ {us : List TypeDesc} {xs ys ys' : List Value} {b : Bool}, eqScals us xs ys = some b → ∀ {ρ : Rn}, renL ρ ys = some ys' → eqScals us xs ys' = some b
  | [], xs, ys, ys', b, e, ρ, hr => by
    have := eqScals_len e
    obtain rfl := List.eq_nil_of_length_eq_zero this.2
    rw [renL_nil.1 hr]; exact e
  | u :: us, [], ys, ys', b, e, ρ, hr => by simp [eqScals] at e
  | u :: us, x :: l, [], ys', b, e, ρ, hr => by simp [eqScals] at e
  | u :: us, x :: l, y :: l', ys', b, e, ρ, hr => by
    obtain ⟨y', m, h1, h2, rfl⟩ := renL_cons.1 hr
    have hl := renL_length h2
    simp only [eqScals] at e ⊢
    split at e
    · rename_i hs
      rw [(sameN_ren hs ρ).2] at h1; cases h1
      rw [hs]
      have := eqScals_ren e h2
      simpa using this
    · rename_i hs
      rw [bif_some] at e
      obtain ⟨hb, e⟩ := e
      rw [(sameN_ren e ρ).2] at h1; cases h1
      split
      · rename_i hh; exact absurd hh hs
      · rw [bif_some, hl]; exact ⟨hb, e⟩

theorem findS_sound (ok : Ok E P) {t : TypeId} {i0 : TInfo} (hi : tInfo E t = some i0) {us : List TypeDesc} (hs : i0.skey = some us) {ρ : Rn} {l : List Value} (w : World) : ∀ {es es' : List MapEntry} {i : Nat} {r : Option (Nat × Value)}, renEs ρ es = some es' → findS us l es i = some r →
    ∃ r', (Instr.findAsking t (.agg ⟨l⟩) es' i).run P w = .ok r' w ∧ (∀ x, r = some x → i ≤ x.1) ∧ (∀ x, r' = some x → i ≤ x.1) ∧ FoundRel ρ (.agg ⟨l⟩) es' (r.map fun x => (x.1 - i, x.2)) (r'.map fun x => (x.1 - i, x.2))
  | [], es', i, r, hes, e => by
    simp [renEs] at hes; subst hes
    simp [findS] at e; subst e
    exact ⟨none, rfl, by simp, by simp, trivial⟩
  | x :: es, es', i, r, hes, e => by
    obtain ⟨k0, v0, m, h1, h2, h3, rfl⟩ := renEs_cons.1 hes
    simp only [findS] at e
    split at e
    · rename_i l0 hkey
      rw [hkey] at h1
      obtain ⟨l0', hl0, rfl⟩ := ren_agg.1 h1
      split at e
      · rename_i hs'
        cases e
        have heq := eqScals_ren hs' hl0
        have hq : (Op.equal t (.agg ⟨l⟩) (.agg ⟨l0'⟩)).run P w = .ok true w := equal_struct ok hi hs heq 9998 w
        refine ⟨some (i, v0), ?_, by simp, by simp, ?_⟩
        · simp only [Instr.findAsking, Sem.run_bind, hq, Result.andThen_ok, if_true, Sem.run_pure]
        · simp only [Option.map_some, FoundRel, Nat.sub_self]
          refine ⟨trivial, h2, _, rfl, fun n => ?_⟩
          have hl := eqScals_len heq
          simp only [Instr.sameBits, Bool.and_eq_true]
          exact ⟨by simp [hl.1, hl.2], eqScals_bits n (eqScals_symm heq)⟩
      · rename_i hs'
        have heq := eqScals_ren hs' hl0
        have hq : (Op.equal t (.agg ⟨l⟩) (.agg ⟨l0'⟩)).run P w = .ok false w := equal_struct ok hi hs heq 9998 w
        obtain ⟨r', g1, g2, g3, g4⟩ := findS_sound ok hi hs w h3 e
        refine ⟨r', ?_, fun x hx => by have := g2 x hx; omega, fun x hx => by have := g3 x hx; omega, FoundRel.shift g4 g2 g3⟩
        simp only [Instr.findAsking, Sem.run_bind, hq, Result.andThen_ok, Bool.false_eq_true, if_false, g1]
      · cases e
    · cases e

theorem checkKey_plain (ok : Ok E P) {t : TypeId} {i : TInfo} (hi : tInfo E t = some i) (hk : keyOk i.und = true) (b : Bool) (n : Nat) (k : Value) (w : World) : (Instr.checkKey b (n + 1) t k).run P w = .ok () w := by
  simp only [Instr.checkKey, Sem.run_bind, ok.run_underlying hi, Result.andThen_ok]
  cases hu : i.und <;> rw [hu] at hk <;> simp [keyOk] at hk <;> rfl

theorem checkKey_of {t : TypeId} {u : TypeDesc} (hu : P.underlying t = some u) (hk : keyOk u = true) (b : Bool) (n : Nat) (k : Value) (w : World) : (Instr.checkKey b (n + 1) t k).run P w = .ok () w := by
  simp only [Instr.checkKey, Sem.run_bind, Go.run_underlying hu, Result.andThen_ok]
  cases u <;> simp [keyOk] at hk <;> rfl

theorem checkFields (b : Bool) (n : Nat) (xs : List Value) (w : World) : ∀ {fs : List Field} {us : List TypeDesc} {k : Nat}, fieldsOk P k fs = some us → k + fs.length ≤ xs.length →
    (forIn fs PUnit.unit fun f _ => (if f.name ≠ "_" then (do
        let p ← part f.type ⟨xs⟩ f.offset
        Instr.checkKey b (n + 1) f.type p
        pure (ForInStep.yield PUnit.unit)) else pure (ForInStep.yield PUnit.unit) : Sem (ForInStep PUnit))).run P w = .ok PUnit.unit w
  | [], us, k, _, _ => by simp
  | f :: fs, us, k, h, hl => by
    simp only [fieldsOk, bif_some, Bool.and_eq_true] at h
    obtain ⟨⟨hn, ho⟩, h⟩ := h
    have ho := of_beq ho
    split at h
    · rename_i u hu
      rw [bif_some] at h
      obtain ⟨hk, h⟩ := h
      rw [oget_some] at h; obtain ⟨l, hl', h⟩ := h
      have hne : f.name ≠ "_" := by simpa using hn
      simp only [List.length_cons] at hl
      have hlt : k < xs.length := by omega
      have px : (part f.type ⟨xs⟩ f.offset).run P w = .ok xs[k] w := by
        simp only [part, Sem.run_bind, run_isAgg_of hu, isAgg_keyOk hk, Result.andThen_ok, Bool.false_eq_true, if_false, ho]
        simp [List.getElem?_eq_getElem hlt]
      have ih := checkFields b n xs w hl' (by omega)
      simp only [List.forIn_cons, Sem.run_bind, hne, ne_eq, not_false_eq_true, if_true, px, Result.andThen_ok, checkKey_of hu hk, Sem.run_pure]
      exact ih
    · cases h

theorem checkKey_struct (ok : Ok E P) {t : TypeId} {i : TInfo} (hi : tInfo E t = some i) {us : List TypeDesc} (hs : i.skey = some us) (b : Bool) (n : Nat) {xs : List Value} (hl : xs.length = us.length) (w : World) : (Instr.checkKey b (n + 2) t (.agg ⟨xs⟩)).run P w = .ok () w := by
  obtain ⟨fs, hu, _, hf⟩ := skey_spec ok hi hs
  have hlen : ∀ {fs : List Field} {us : List TypeDesc} {k : Nat}, fieldsOk P k fs = some us → fs.length = us.length := by
    intro fs
    induction fs with
    | nil => intro us k h; simp [fieldsOk] at h; subst h; rfl
    | cons f fs ih =>
      intro us k h
      simp only [fieldsOk, bif_some] at h
      obtain ⟨_, h⟩ := h
      split at h
      · rw [bif_some] at h
        obtain ⟨_, h⟩ := h
        rw [oget_some] at h; obtain ⟨l, hl', h⟩ := h
        cases h
        simp [ih hl']
      · cases h
  have := checkFields (P := P) b n xs w hf (by rw [hlen hf]; omega)
  obtain ⟨m, hm⟩ : ∃ m, m = n + 1 := ⟨_, rfl⟩
  rw [← hm] at this
  rw [show n + 2 = m + 1 from by omega]
  simp only [Instr.checkKey, Sem.run_bind, ok.run_underlying hi, hu, Result.andThen_ok]
  rw [← Array.forIn_toList]
  exact andThen_of this rfl

/-- A key's search, in both. -/
theorem findK_sound (ok : Ok E P) {t : TypeId} {ki : TInfo} (hi : tInfo E t = some ki) {ρ : Rn} {k : Value} {es es' : List MapEntry} {r : Option (Nat × Value)} (hes : renEs ρ es = some es') (e : findK ki k es = some r) (w : World) :
    ren ρ k = some k ∧ (∀ b, (Instr.checkKey b 10000 t k).run P w = .ok () w) ∧ ∃ r', (Instr.findKey t k es').run P w = .ok r' w ∧ FoundRel ρ k es' r r' := by
  unfold findK at e
  split at e
  · rename_i l
    split at e
    · rename_i us hs
      rw [bif_some] at e
      obtain ⟨hc, e⟩ := e
      simp only [Bool.and_eq_true] at hc
      have hl := of_beq hc.1
      refine ⟨ren_agg.2 ⟨l, plainKeys_ren hc.2, rfl⟩, fun b => checkKey_struct ok hi hs b 9998 hl w, ?_⟩
      obtain ⟨r', g1, g2, g3, g4⟩ := findS_sound ok hi hs w hes e
      have g4' : FoundRel ρ (.agg ⟨l⟩) es' r r' := by
        have e1 : (r.map fun x => (x.1 - 0, x.2)) = r := by cases r <;> rfl
        have e2 : (r'.map fun x => (x.1 - 0, x.2)) = r' := by cases r' <;> rfl
        rwa [e1, e2] at g4
      obtain ⟨fs, hu, _, _⟩ := skey_spec ok hi hs
      cases es' with
      | nil =>
        simp [Instr.findAsking] at g1
        refine ⟨none, ?_, by rw [← g1] at g4'; exact g4'⟩
        simp [Instr.findKey, ok.run_underlying hi, hu, Instr.findNow]
      | cons e0 es0 =>
        refine ⟨r', ?_, g4'⟩
        simp only [Instr.findKey, Sem.run_bind, ok.run_underlying hi, hu, Result.andThen_ok, Instr.findNow, Instr.sameNow]
        exact g1
    · cases e
  · rename_i hna
    rw [bif_some] at e
    obtain ⟨hc, e⟩ := e
    simp only [Bool.and_eq_true] at hc
    refine ⟨plainKey_ren hc.2, fun b => checkKey_plain ok hi hc.1 b 9999 k w, ?_⟩
    obtain ⟨r', g1, g2, g3, g4⟩ := findN_sound hes e
    have g4' : FoundRel ρ k es' r r' := by
      have e1 : (r.map fun x => (x.1 - 0, x.2)) = r := by cases r <;> rfl
      have e2 : (r'.map fun x => (x.1 - 0, x.2)) = r' := by cases r' <;> rfl
      rwa [e1, e2] at g4
    refine ⟨r', ?_, g4'⟩
    simp only [Instr.findKey, Sem.run_bind, ok.run_underlying hi, Result.andThen_ok, g1, Sem.run_pure]

theorem run_getObj {w : World} {r : Nat} {o : Obj} (h : w.heap[r]? = some o) (hc : ∀ c e f, o ≠ .cells c e f) : (getObj r).run P w = .ok o w := by
  cases o with
  | cells c e f => exact absurd rfl (hc c e f)
  | _ => simp [getObj, Sem.run, h]

theorem run_setObj {w : World} {r : Nat} {o o' : Obj} (h : w.heap[r]? = some o) (hc : ∀ c e f, o ≠ .cells c e f) : (setObj r o').run P w = .ok () { w with heap := w.heap.setIfInBounds r o' } := by
  cases o with
  | cells c e f => exact absurd rfl (hc c e f)
  | _ => simp [setObj, Sem.run, h]

theorem aLookup_sound (ok : Ok E P) {ρ : Rn} {h : AH} {w : World} (hr : WRel ρ h w) {t : TypeId} {m k m' k' v : Value} {b : Bool} (hm : ren ρ m = some m') (hk : ren ρ k = some k') (e : aLookup E t m k b h = some v) :
    ∃ v', ren ρ v = some v' ∧ (Instr.lookup t m' k' b).run P w = .ok v' w := by
  unfold aLookup at e
  rw [oget_some] at e; obtain ⟨i, hi, e⟩ := e
  split at e
  · rename_i kt et hu
    rw [oget_some] at e; obtain ⟨ki, hki, e⟩ := e
    rw [oget_some] at e; obtain ⟨ei, hei, e⟩ := e
    rw [oget_some] at e; obtain ⟨z, hz, e⟩ := e
    rw [oget_some] at e; obtain ⟨r, hf, e⟩ := e
    have core : ∀ es es', renEs ρ es = some es' → findK ki k es = some r → k' = k ∧ (∀ b, (Instr.checkKey b 10000 kt k).run P w = .ok () w) ∧ ∃ r', (Instr.findKey kt k es').run P w = .ok r' w ∧ FoundRel ρ k es' r r' := by
      intro es es' h1 h2
      obtain ⟨a1, a2, a3⟩ := findK_sound ok hki h1 h2 w
      rw [a1] at hk; cases hk
      exact ⟨rfl, a2, a3⟩
    have fin : ∀ (r' : Option (Nat × Value)) es', FoundRel ρ k es' r r' →
        ∃ v', ren ρ v = some v' ∧ ((match r' with
          | some (_, v) => pure (v, true)
          | none => do pure (← zeroValue et, false) : Sem (Value × Bool)) >>= fun x => pure (if b then .tuple #[x.1, .bool x.2] else x.1)).run P w = .ok v' w := by
      intro r' es' hfr
      cases r with
      | none => cases r' with
        | none =>
          simp only [Option.some.injEq] at e; subst e
          have hzz := ok.zero hei hz ρ
          simp only [Sem.run_bind, ok.run_zero hei hz, Result.andThen_ok, Sem.run_pure]
          cases b with
          | true => exact ⟨_, ren_tuple.2 ⟨[z, .bool false], by simp [renL, ren, hzz], rfl⟩, rfl⟩
          | false => exact ⟨z, hzz, rfl⟩
        | some _ => exact hfr.elim
      | some x => cases r' with
        | none => exact hfr.elim
        | some x' =>
          obtain ⟨_, h2, _⟩ := hfr
          simp only [Option.some.injEq] at e; subst e
          simp only [Sem.run_bind, Result.andThen_ok, Sem.run_pure]
          cases b with
          | true => exact ⟨_, ren_tuple.2 ⟨[x'.2, .bool true], by simp [renL, ren, h2], rfl⟩, rfl⟩
          | false => exact ⟨x'.2, h2, rfl⟩
    split at hf
    · simp [ren] at hm; subst hm
      obtain ⟨rfl, c1, r', c2, c3⟩ := core [] [] (by simp [renEs]) hf
      obtain ⟨v', f1, f2⟩ := fin r' [] c3
      refine ⟨v', f1, ?_⟩
      simp only [Sem.run_bind] at f2
      simp only [Instr.lookup, Sem.run_bind, ok.run_underlying hi, hu, Result.andThen_ok, Sem.run_pure, c1, c2]
      rw [← f2]
      cases r' with
      | none => simp; cases (zeroValue et).run P w <;> rfl
      | some x => simp
    · rename_i rb
      simp [ren] at hm
      obtain ⟨c, ⟨s, x, hρ⟩, rfl⟩ := hm
      split at hf
      · rename_i es cl hb
        obtain ⟨es', h1, h2⟩ := hr.blk rb _ hb c s x hρ
        obtain ⟨rfl, c1, r', c2, c3⟩ := core es es' h2 hf
        obtain ⟨v', f1, f2⟩ := fin r' es' c3
        refine ⟨v', f1, ?_⟩
        simp only [Sem.run_bind] at f2
        simp only [Instr.lookup, Sem.run_bind, ok.run_underlying hi, hu, Result.andThen_ok, run_getObj h1 (by simp), Sem.run_pure, c1, c2]
        rw [← f2]
        cases r' with
        | none => simp; cases (zeroValue et).run P w <;> rfl
        | some x => simp
      · cases hf
    · cases hf
  · cases e

end Go.Ev
end
section
/- A deterministic evaluator of the model's code over a memory of its own: every operation. -/
namespace Go.Ev
variable {E : Env} {P : Program}

theorem renEs_append {ρ : Rn} : ∀ {a b a' b' : List MapEntry}, renEs ρ a = some a' → renEs ρ b = some b' → renEs ρ (a ++ b) = some (a' ++ b')
  | [], b, a', b', h, k => by simp [renEs] at h; subst h; simpa using k
  | x :: a, b, a', b', h, k => by
    obtain ⟨k0, v0, m, h1, h2, h3, rfl⟩ := renEs_cons.1 h
    exact renEs_cons.2 ⟨k0, v0, m ++ b', h1, h2, renEs_append h3 k, rfl⟩

theorem renEs_length {ρ : Rn} : ∀ {a a' : List MapEntry}, renEs ρ a = some a' → a'.length = a.length
  | [], a', h => by simp [renEs] at h; subst h; rfl
  | x :: a, a', h => by
    obtain ⟨k0, v0, m, _, _, h3, rfl⟩ := renEs_cons.1 h
    simp [renEs_length h3]

theorem renEs_modify {ρ : Rn} {k x x' : Value} (hk : ren ρ k = some k) (hx : ren ρ x = some x') : ∀ {es es' : List MapEntry} (j : Nat), renEs ρ es = some es' → renEs ρ (es.modify j fun e => { e with key := k, val := x }) = some (es'.modify j fun e => { e with key := k, val := x' })
  | [], es', j, h => by simp [renEs] at h; subst h; cases j <;> simp [renEs, List.modify_nil]
  | e :: es, es', j, h => by
    obtain ⟨k0, v0, m, h1, h2, h3, rfl⟩ := renEs_cons.1 h
    cases j with
    | zero => simp only [List.modify_zero_cons]; exact renEs_cons.2 ⟨k, x', m, hk, hx, h3, rfl⟩
    | succ j => simp only [List.modify_succ_cons]; exact renEs_cons.2 ⟨k0, v0, _, h1, h2, renEs_modify hk hx j h3, rfl⟩

theorem put_but {w : World} {c : Nat} (o : Obj) : But c w { w with heap := w.heap.setIfInBounds c o } :=
  ⟨by simp, fun k hk => by rw [Array.getElem?_setIfInBounds, if_neg (fun e => hk e.symm)], rfl, rfl, rfl⟩

theorem put_at {w : World} {c : Nat} {o o' : Obj} (h : w.heap[c]? = some o) : (w.heap.setIfInBounds c o')[c]? = some o' := by
  have := (Array.getElem?_eq_some_iff.1 h).1
  simp [this]

theorem aMapUpdate_sound (ok : Ok E P) {ρ : Rn} {h h' : AH} {w : World} (hr : WRel ρ h w) {t : TypeId} {m k x m' k' x' : Value} (hm : ren ρ m = some m') (hk : ren ρ k = some k') (hx : ren ρ x = some x') (e : aMapUpdate E t m k x h = some h') :
    ∃ w', (Instr.mapUpdate t m' k' x').run P w = .ok () w' ∧ Step ρ h w ρ h' w' := by
  unfold aMapUpdate at e
  rw [oget_some] at e; obtain ⟨i, hi, e⟩ := e
  split at e
  · rename_i kt et r hu
    rw [oget_some] at e; obtain ⟨ki, hki, e⟩ := e
    split at e
    · rename_i es cl hb
      rw [oget_some] at e; obtain ⟨f, hf, e⟩ := e
      simp [ren] at hm
      obtain ⟨c, ⟨s, x0, hρ⟩, rfl⟩ := hm
      obtain ⟨es', h1, h2⟩ := hr.blk r _ hb c s x0 hρ
      obtain ⟨a1, a2, r', a3, a4⟩ := findK_sound ok hki h2 hf w
      rw [a1] at hk; cases hk
      have hcap := hr.low r _ hb
      have hget := run_getObj (P := P) h1 (by simp)
      cases f with
      | none => cases r' with
        | some _ => exact a4.elim
        | none =>
          simp only [Option.some.injEq] at e; subst e
          let o' : Obj := .map ⟨es' ++ [{ key := k, val := x', born := cl }]⟩ (cl + 1)
          refine ⟨{ w with heap := w.heap.setIfInBounds c o' }, ?_, Step.upd hr hb rfl hρ hcap rfl ?_ (put_but o').size (put_but o').oth rfl rfl rfl⟩
          · have hset := run_setObj (P := P) (o' := o') h1 (by simp)
            simp only [Instr.mapUpdate, Sem.run_bind, ok.run_underlying hi, hu, Result.andThen_ok, hget, a2 false, a3]
            have : (⟨es'⟩ : Array MapEntry).push { key := k, val := x', born := cl } = ⟨es' ++ [{ key := k, val := x', born := cl }]⟩ := by simp
            rw [this, hset]
          · exact ⟨_, put_at h1, renEs_append h2 (renEs_cons.2 ⟨k, x', [], a1, hx, by simp [renEs], rfl⟩)⟩
      | some fx => cases r' with
        | none => exact a4.elim
        | some rx =>
          obtain ⟨j, v⟩ := fx
          obtain ⟨j', v'⟩ := rx
          obtain ⟨rfl, b2, e0, b3, b4⟩ := a4
          simp only [Option.some.injEq] at e; subst e
          let o' : Obj := .map ⟨es'.modify j fun e => { e with key := k, val := x' }⟩ cl
          refine ⟨{ w with heap := w.heap.setIfInBounds c o' }, ?_, Step.upd hr hb rfl hρ hcap rfl ?_ (put_but o').size (put_but o').oth rfl rfl rfl⟩
          · have hset := run_setObj (P := P) (o' := o') h1 (by simp)
            have hstay : ∀ w, (Instr.keyThatStays e0.key k).run P w = .ok k w := by
              intro w
              unfold Instr.keyThatStays
              rw [if_pos (b4 9999)]
              rfl
            simp only [Instr.mapUpdate, Sem.run_bind, ok.run_underlying hi, hu, Result.andThen_ok, hget, a2 false, a3, List.getElem?_toArray, b3, Option.map_some, Option.getD_some, hstay]
            have : ((⟨es'⟩ : Array MapEntry).modify j fun e => { e with key := k, val := x' }) = ⟨es'.modify j fun e => { e with key := k, val := x' }⟩ := by
              apply Array.ext'
              simp
            rw [this, hset]
          · exact ⟨_, put_at h1, renEs_modify a1 hx j h2⟩
    · cases e
  · cases e

/-! ### Builtins -/
theorem aLen_sound (ok : Ok E P) {ρ : Rn} {h : AH} {w : World} (hr : WRel ρ h w) {ats : Array TypeId} {ty : TypeId} {x x' v : Value} (hx : ren ρ x = some x') (e : aLen E ats[0]? x h = some v) :
    ∃ v', ren ρ v = some v' ∧ (Builtin.len_ ats ty #[x']).run P w = .ok v' w := by
  unfold aLen at e
  rw [oget_some] at e; obtain ⟨t, ht, e⟩ := e
  rw [oget_some] at e; obtain ⟨i, hi, e⟩ := e
  have hun := ok.run_underlying hi w
  split at e
  · rename_i el a n c hu
    cases e
    refine ⟨.int .i64 n, by simp [ren], ?_⟩
    rcases a with _ | ⟨b, o, _ | _⟩
    · simp [ren] at hx; subst hx
      simp [Builtin.len_, ht, hun, hu, goInt]
    · obtain ⟨c', s, x0, _, rfl⟩ := ren_slice hx
      simp [Builtin.len_, ht, hun, hu, goInt]
    · simp [ren] at hx
  · rename_i s hu
    cases e
    rw [ren_string.1 hx]
    refine ⟨.int .i64 s.data.toList.length, by simp [ren], ?_⟩
    simp [Builtin.len_, ht, hun, hu, goInt]
  · rename_i n el hu
    cases e
    refine ⟨.int .i64 n, by simp [ren], ?_⟩
    simp [Builtin.len_, ht, hun, hu, goInt]
  · rename_i kt et hu
    cases e
    simp [ren] at hx; subst hx
    refine ⟨.int .i64 0, by simp [ren], ?_⟩
    simp [Builtin.len_, ht, hun, hu, goInt]
  · rename_i kt et r hu
    split at e
    · rename_i es cl hb
      cases e
      simp [ren] at hx
      obtain ⟨c, ⟨s, x0, hρ⟩, rfl⟩ := hx
      obtain ⟨es', h1, h2⟩ := hr.blk r _ hb c s x0 hρ
      refine ⟨.int .i64 es.length, by simp [ren], ?_⟩
      have hget := run_getObj (P := P) h1 (by simp)
      simp [Builtin.len_, ht, hun, hu, goInt, hget, renEs_length h2]
    · cases e
  · cases e

theorem foldV_sound {f : Value → Value → Option Value} {g : Value → Value → Sem Value} (hfg : ∀ x y z, f x y = some z → (∀ ρ : Rn, ren ρ x = some x ∧ ren ρ y = some y ∧ ren ρ z = some z) ∧ ∀ w, (g x y).run P w = .ok z w) (ρ : Rn) (w : World) :
    ∀ {l l' : List Value} {x x' v : Value}, ren ρ x = some x' → renL ρ l = some l' → foldV f x l = some v → (ren ρ v = some v ∨ v = x ∧ l = []) ∧ ∃ v', ren ρ v = some v' ∧ (l'.foldlM g x').run P w = .ok v' w
  | [], l', x, x', v, hx, hl, e => by
    simp [foldV] at e; subst e
    rw [renL_nil.1 hl]
    exact ⟨.inr ⟨rfl, rfl⟩, x', hx, by simp⟩
  | y :: l, l', x, x', v, hx, hl, e => by
    obtain ⟨y', m, h1, h2, rfl⟩ := renL_cons.1 hl
    simp only [foldV] at e
    rw [oget_some] at e; obtain ⟨z, hz, e⟩ := e
    obtain ⟨q1, q2⟩ := hfg x y z hz
    obtain ⟨a1, a2, a3⟩ := q1 ρ
    rw [a1] at hx; rw [a2] at h1; cases hx; cases h1
    obtain ⟨r1, v', r2, r3⟩ := foldV_sound hfg ρ w a3 h2 e
    refine ⟨?_, v', r2, ?_⟩
    · rcases r1 with r1 | ⟨r1, _⟩
      · exact .inl r1
      · exact .inl (by rw [r1]; exact a3)
    · simp only [List.foldlM_cons, Sem.run_bind, q2 w, Result.andThen_ok, r3]

theorem minV_spec (x y z : Value) (e : minV x y = some z) : (∀ ρ : Rn, ren ρ x = some x ∧ ren ρ y = some y ∧ ren ρ z = some z) ∧ ∀ w, (Builtin.min2 x y).run P w = .ok z w := by
  unfold minV at e
  split at e
  · rename_i k a k' b
    cases e
    refine ⟨fun ρ => by simp [ren], fun w => ?_⟩
    simp only [Builtin.min2, Sem.run_pure]
    congr 2
    by_cases hh : b < a <;> simp [hh]
  · cases e

theorem maxV_spec (x y z : Value) (e : maxV x y = some z) : (∀ ρ : Rn, ren ρ x = some x ∧ ren ρ y = some y ∧ ren ρ z = some z) ∧ ∀ w, (Builtin.max2 x y).run P w = .ok z w := by
  unfold maxV at e
  split at e
  · rename_i k a k' b
    cases e
    refine ⟨fun ρ => by simp [ren], fun w => ?_⟩
    simp only [Builtin.max2, Sem.run_pure]
    congr 2
    by_cases hh : b > a
    · simp [hh]
    · simp [hh]
  · cases e

/-- A builtin's answer, as the model has it. -/
def GoodN (P : Program) (ρ : Rn) (h : AH) (w : World) (s : Sem Next) (v : Value) (h' : AH) : Prop :=
  ∃ ρ' w' v', Step ρ h w ρ' h' w' ∧ ren ρ' v = some v' ∧ s.run P w = .ok (.value v') w'

theorem Good.next {ρ : Rn} {h h' : AH} {w : World} {s : Sem Value} {v : Value} (g : Good P ρ h w s v h') : GoodN P ρ h w (do pure (.value (← s))) v h' := by
  obtain ⟨ρ', w', v', a, b, c⟩ := g
  exact ⟨ρ', w', v', a, b, by simp [c]⟩

theorem aBuiltin_sound (ok : Ok E P) {ρ : Rn} {h h' : AH} {w : World} (hr : WRel ρ h w) {b : Builtin} {ats : Array TypeId} {ty : TypeId} {cs : Array Bool} {vs vs' : List Value} {v : Value} (hv : renL ρ vs = some vs') (e : aBuiltin E b ats.toList vs h = some (v, h')) (room : Room ρ h.next h'.next) :
    GoodN P ρ h w (builtin b ats ty cs ⟨vs'⟩) v h' := by
  have get0 : ats.toList[0]? = ats[0]? := Array.getElem?_toList
  have get1 : ats.toList[1]? = ats[1]? := Array.getElem?_toList
  unfold aBuiltin at e
  split at e
  · -- len
    obtain ⟨x', m, h1, h2, rfl⟩ := renL_cons.1 hv
    obtain rfl := renL_nil.1 h2
    rw [get0] at e
    rw [oget_some] at e; obtain ⟨u, hu, e⟩ := e
    cases e
    obtain ⟨v', g1, g2⟩ := aLen_sound (ty := ty) ok hr h1 hu
    exact Good.next (Good.same hr g1 g2)
  · -- cap of nil
    rename_i l c
    obtain ⟨x', m, h1, h2, rfl⟩ := renL_cons.1 hv
    obtain rfl := renL_nil.1 h2
    rw [get0] at e
    rw [oget_some] at e; obtain ⟨t, ht, e⟩ := e
    rw [oget_some] at e; obtain ⟨i, hi, e⟩ := e
    split at e
    · rename_i el hu
      cases e
      simp [ren] at h1; subst h1
      refine Good.next (Good.same hr (v' := .int .i64 c) (by simp [ren]) ?_)
      simp [Builtin.cap_, ht, ok.run_underlying hi, hu, goInt]
    · cases e
  · -- cap
    rename_i bk o l c
    obtain ⟨x', m, h1, h2, rfl⟩ := renL_cons.1 hv
    obtain rfl := renL_nil.1 h2
    rw [get0] at e
    rw [oget_some] at e; obtain ⟨t, ht, e⟩ := e
    rw [oget_some] at e; obtain ⟨i, hi, e⟩ := e
    obtain ⟨c', s, x0, hρ, rfl⟩ := ren_slice h1
    split at e
    · rename_i el n t0 e0 opn wh hu hb
      rw [bif_some] at e; obtain ⟨ho, e⟩ := e
      cases e
      obtain ⟨C, lo, hi', _, _, b3, _⟩ := hr.blk bk _ hb c' s x0 hρ
      have := b3 (of_beq ho)
      subst this
      refine Good.next (Good.same hr (v' := .int .i64 c) (by simp [ren]) ?_)
      simp [Builtin.cap_, ht, ok.run_underlying hi, hu, goInt]
    · rename_i el n f hu hb
      cases e
      have := (hr.blk bk _ hb c' s x0 hρ).1.1
      subst this
      refine Good.next (Good.same hr (v' := .int .i64 c) (by simp [ren]) ?_)
      simp [Builtin.cap_, ht, ok.run_underlying hi, hu, goInt]
    · cases e
  · -- min
    rw [oget_some] at e; obtain ⟨u, hu, e⟩ := e
    cases e
    obtain ⟨x', m, h1, h2, rfl⟩ := renL_cons.1 hv
    obtain ⟨_, v', g1, g2⟩ := foldV_sound (P := P) minV_spec ρ w h1 h2 hu
    exact Good.next (Good.same hr g1 g2)
  · -- max
    rw [oget_some] at e; obtain ⟨u, hu, e⟩ := e
    cases e
    obtain ⟨x', m, h1, h2, rfl⟩ := renL_cons.1 hv
    obtain ⟨_, v', g1, g2⟩ := foldV_sound (P := P) maxV_spec ρ w h1 h2 hu
    exact Good.next (Good.same hr g1 g2)
  · -- append
    obtain ⟨s', m, h1, h2, rfl⟩ := renL_cons.1 hv
    obtain ⟨x', m', h3, h4, rfl⟩ := renL_cons.1 h2
    obtain rfl := renL_nil.1 h4
    rw [oget_some] at e; obtain ⟨t, ht, e⟩ := e
    rw [get0] at ht
    rw [get1] at e
    exact Good.next (aAppend_sound ok hr h1 h3 ht e room)
  · -- copy
    obtain ⟨s', m, h1, h2, rfl⟩ := renL_cons.1 hv
    obtain ⟨x', m', h3, h4, rfl⟩ := renL_cons.1 h2
    obtain rfl := renL_nil.1 h4
    rw [oget_some] at e; obtain ⟨t, ht, e⟩ := e
    rw [get0] at ht
    exact Good.next (aCopy_sound ok hr h1 h3 ht e)
  · -- clear
    rename_i base n c
    obtain ⟨s', m, h1, h2, rfl⟩ := renL_cons.1 hv
    obtain rfl := renL_nil.1 h2
    rw [oget_some] at e; obtain ⟨t, ht, e⟩ := e
    rw [get0] at ht
    rw [oget_some] at e; obtain ⟨i, hi, e⟩ := e
    split at e
    · rename_i el hu
      rw [oget_some] at e; obtain ⟨ei, hei, e⟩ := e
      rw [oget_some] at e; obtain ⟨z, hz, e⟩ := e
      rw [bif_some] at e; obtain ⟨hzl, e⟩ := e
      cases hn : n.beq 0 with
      | true =>
        simp only [hn, cond_true, Option.some.injEq, Prod.mk.injEq] at e
        obtain ⟨rfl, rfl⟩ := e
        have hn := of_beq hn
        subst hn
        refine Good.next (Good.same hr (v' := .tuple ⟨[]⟩) (by simp [ren, renA, renL]) ?_)
        rcases base with _ | ⟨bk, o, _ | _⟩
        · simp [ren] at h1; subst h1
          simp [Builtin.clear_, ht, ok.run_underlying hi, hu]
        · obtain ⟨c', s, x0, hρ, rfl⟩ := ren_slice h1
          simp [Builtin.clear_, ht, ok.run_underlying hi, hu]
        · simp [ren] at h1
      | false =>
        simp only [hn, cond_false] at e
        split at e
        · rename_i bk off
          rw [oget_some] at e; obtain ⟨h1', hw, e⟩ := e
          cases e
          obtain ⟨c', s, x0, hρ, rfl⟩ := ren_slice h1
          have hbcap : bk < cap := by
            unfold aWrite at hw
            split at hw
            · rename_i hblk; exact hr.low bk _ hblk
            · cases hw
          have hzr := renL_repl (ren_cells (ok.zero hei hz ρ)) n
          obtain ⟨w', g1, g2⟩ := aWrite_sound (P := P) hr hzr hρ hbcap hw
          obtain ⟨k, rfl⟩ : ∃ k, n = k + 1 := ⟨n - 1, by have := of_beqF hn; omega⟩
          refine Good.next ⟨ρ, w', .tuple ⟨[]⟩, g2, by simp [ren, renA, renL], ?_⟩
          simp only [Builtin.clear_, ht, List.getElem?_toArray, List.getElem?_cons_zero, Sem.run_bind, ok.run_underlying hi, hu, Result.andThen_ok, ok.run_zero hei hz, zeroCells_repl, g1, Sem.run_pure]
        · cases e
    · cases e
  · cases e
    obtain ⟨s', m, h1, h2, rfl⟩ := renL_cons.1 hv
    obtain rfl := renL_nil.1 h2
    simp [ren] at h1; subst h1
    exact Good.next (Good.same hr (v' := .pointer none) (by simp [ren]) (Lib.run_unsafeSliceData_nil w _ _ _ _))
  · rename_i a l c
    cases hc : c.beq 0 with
    | true => simp [hc] at e
    | false =>
      simp only [hc, cond_false, Option.some.injEq, Prod.mk.injEq] at e
      obtain ⟨rfl, rfl⟩ := e
      obtain ⟨s', m, h1, h2, rfl⟩ := renL_cons.1 hv
      obtain rfl := renL_nil.1 h2
      obtain ⟨bk, o, _ | _⟩ := a
      · obtain ⟨c', s, x0, hρ, rfl⟩ := ren_slice h1
        refine Good.next (Good.same hr (v' := .pointer (some ⟨c', s + o, none⟩)) (by simp [ren, Rn.addr, hρ]) (Lib.run_unsafeSliceData_row w _ _ _ _ _ ?_))
        have := of_beqF hc
        omega
      · simp [ren] at h1
  · rw [oget_some] at e; obtain ⟨t, ht, e⟩ := e
    rw [get0] at ht
    rename_i kn n
    rw [bif_some] at e; obtain ⟨hc, e⟩ := e
    have hc := of_decide_eq_true hc
    cases e; subst hc
    obtain ⟨s', m, h1, h2, rfl⟩ := renL_cons.1 hv
    obtain ⟨x', m', h3, h4, rfl⟩ := renL_cons.1 h2
    obtain rfl := renL_nil.1 h4
    simp [ren] at h1 h3; subst h1; subst h3
    refine Good.next (Good.same hr (v' := .string ⟨⟨[]⟩⟩) (by simp [ren]) ?_)
    have hmx : ¬ ((0 : Int) > IntKind.i64.max) := by
      show ¬ ((0 : Int) > 9223372036854775807)
      omega
    have has : (asInt (.int kn 0 : Value)).run P w = .ok 0 w := rfl
    have hU : Builtin.unsafeString_ ats ty #[.pointer none, .int kn 0] = (asInt (.int kn 0) >>= _) := rfl
    rw [hU]
    simp only [Sem.run_bind, ht, has, Result.andThen_ok, show ¬ (0 : Int) < 0 by omega, if_false, hmx, if_true, Sem.run_pure]
    rfl
  · rename_i bk off kn n
    rw [oget_some] at e; obtain ⟨t, ht, e⟩ := e
    rw [get0] at ht
    rw [oget_some] at e; obtain ⟨i, hi, e⟩ := e
    split at e
    · rename_i el m0 t0 be opn wh hu hb
      rw [oget_some] at e; obtain ⟨ei, hei, e⟩ := e
      split at e
      · rename_i hu3
        rw [bif_some] at e; obtain ⟨hc, e⟩ := e
        simp only [Bool.and_eq_true, decide_eq_true_eq] at hc
        obtain ⟨⟨⟨c1, c2⟩, c3⟩, c4⟩ := hc
        have c3 := of_beq c3
        have c4 := of_beq c4
        rw [oget_some] at e; obtain ⟨vs0, hvs, e⟩ := e
        rw [oget_some] at e; obtain ⟨bs, hbs, e⟩ := e
        cases e
        obtain ⟨s', m, h1, h2, rfl⟩ := renL_cons.1 hv
        obtain ⟨x', m', h3, h4, rfl⟩ := renL_cons.1 h2
        obtain rfl := renL_nil.1 h4
        obtain ⟨c', s, x0, hρ, rfl⟩ := ren_ptr h1
        rw [ren_int.1 h3]
        have hB := hr.blk bk _ hb c' s x0 hρ
        obtain ⟨vs1, g1, g2, g3⟩ := hB.row hvs
        obtain ⟨ns, rfl, rfl⟩ := bytesV_spec hbs
        rw [plainL_ren ρ _ (plainL_ints .u8 ns)] at g1
        cases g1
        obtain ⟨C, lo, hi', b1, b2, _⟩ := hB
        have hlen : ns.length = n.toNat := by simpa using g2
        have hoff : s + off + n.toNat ≤ C.size := by
          have hpos : 0 < n.toNat := by omega
          have hlast : n.toNat - 1 < ns.length := by omega
          have := g3 (n.toNat - 1) (.int .u8 ns[n.toNat - 1]) (by simp [List.getElem?_eq_getElem hlast])
          have hlt : s + off + (n.toNat - 1) < C.size := by
            simp only [World.cell?, b1] at this
            exact (Array.getElem?_eq_some_iff.1 (by simpa using this)).1
          omega
        have hcell : P.cellsOf el = 1 := by rw [ok.cellsOf hei, c4]
        subst c3
        have hsh : w.shape? c' = some (be, C.size) := by simp [World.shape?, b1]
        have hvar : (variablesAt ⟨c', s + off, none⟩ be n.toNat).run P w = .ok true w := by
          simp only [variablesAt, Sem.run_bind, run_program, run_shape, hsh, Result.andThen_ok, Sem.run_pure, hcell, Nat.div_one, liesAt_row hcell C.size (s + off) n.toNat hoff]
        have hload : ∀ (ns : List Int) (k : Nat) (acc : ByteArray), (∀ j x, ns[j]? = some x → w.cell? ⟨c', k + j, none⟩ = some (.int .u8 x)) → (loadBytes ⟨c', k, none⟩ acc ns.length).run P w = .ok ⟨⟨acc.data.toList ++ ns.map fun n => UInt8.ofNat n.toNat⟩⟩ w := by
          intro ns
          induction ns with
          | nil => intro k acc _; simp [loadBytes]
          | cons x ns ih =>
            intro k acc hk
            have h0 := hk 0 x rfl
            simp only [Nat.add_zero] at h0
            have := ih (k + 1) (acc.push x.toNat.toUInt8) (fun j y hy => by have := hk (j + 1) y (by simpa using hy); rwa [show k + (j + 1) = k + 1 + j by omega] at this)
            simp only [List.length_cons, loadBytes, Sem.run_bind, run_load, h0, Result.andThen_ok, addr_add, this]
            congr 2
            simp [ByteArray.push]
        have hl := hload ns (s + off) ByteArray.empty (fun j x hx => g3 j (.int .u8 x) (by simp [hx]))
        rw [hlen] at hl
        have hbcap := hr.low bk _ hb
        have hbut : But c' w (w.freeze ⟨c', s + off, none⟩ n.toNat) := by
          unfold World.freeze
          split
          · exact But.refl _ _
          · exact ⟨by simp, fun k hk => by simp only [Array.getElem?_modify]; rw [if_neg (fun e => hk e.symm)], rfl, rfl, rfl⟩
        refine Good.next ⟨ρ, w.freeze ⟨c', s + off, none⟩ n.toNat, .string ⟨⟨ns.map fun n => UInt8.ofNat n.toNat⟩⟩, Step.upd hr hb rfl hρ hbcap rfl trivial hbut.size hbut.oth hbut.os hbut.tape hbut.output, by simp [ren], ?_⟩
        have hmx : ¬ (n > IntKind.i64.max) := by
          show ¬ (n > 9223372036854775807)
          omega
        have hel : (elemOf t).run P w = .ok be w := by simp [elemOf, ok.run_underlying hi, hu]
        have hn0 : ¬ n = 0 := by omega
        have hneg : ¬ n < 0 := by omega
        have hasn : (asInt (.int kn n)).run P w = .ok n w := rfl
        have hU : ∀ a, Builtin.unsafeString_ ats ty #[.pointer (some a), .int kn n] = (asInt (.int kn n) >>= _) := fun a => rfl
        rw [hU]
        simp only [Sem.run_bind, ht, hasn, Result.andThen_ok, hneg, if_false, hmx, hn0, hel, hvar, if_true, hl, run_freeze, Sem.run_pure]
        rfl
      · cases e
    · cases e
  · cases e

end Go.Ev
end
section
/- A deterministic evaluator of the model's code over a memory of its own: every operation is the model's. -/
namespace Go.Ev
variable {E : Env} {P : Program}

theorem aTypeAssert_sound (ok : Ok E P) {ρ : Rn} {w : World} {x x' v : Value} {xt t : TypeId} {b : Bool} (hx : ren ρ x = some x') (e : aTypeAssert E x t b = some v) :
    ∃ v', ren ρ v = some v' ∧ (Instr.typeAssert x' xt t b).run P w = .ok v' w := by
  unfold aTypeAssert at e
  rw [oget_some] at e; obtain ⟨i, hi, e⟩ := e
  have hun := ok.run_underlying hi w
  have zer : ∀ z, i.zero = some z → ren ρ (.tuple ⟨[z, .bool false]⟩) = some (.tuple ⟨[z, .bool false]⟩) := fun z hz => ren_tuple.2 ⟨[z, .bool false], by simp [renL, ren, ok.zero hi hz ρ], rfl⟩
  split at e
  · cases e
  · rename_i d u hni
    simp [ren] at hx
    obtain ⟨u', hu', rfl⟩ := hx
    cases hd : d.beq t with
    | true =>
      have hd := of_beq hd
      subst hd
      simp only [beqT rfl, cond_true, Option.some.injEq] at e
      subst e
      cases b with
      | true =>
        refine ⟨_, ren_tuple.2 ⟨[u', .bool true], by simp [renL, ren, hu'], rfl⟩, ?_⟩
        unfold Instr.typeAssert
        simp only [Sem.run_bind, hun, Result.andThen_ok]
        cases hu : i.und with
        | interface ms => exact (hni ms hu).elim
        | _ => simp
      | false =>
        refine ⟨u', hu', ?_⟩
        unfold Instr.typeAssert
        simp only [Sem.run_bind, hun, Result.andThen_ok]
        cases hu : i.und with
        | interface ms => exact (hni ms hu).elim
        | _ => simp
    | false =>
      have hd' := of_beqF hd
      simp only [hd, cond_false] at e
      cases b with
      | false => simp at e
      | true =>
        simp only [cond_true] at e
        rw [oget_some] at e; obtain ⟨z, hz, e⟩ := e
        cases e
        refine ⟨_, zer z hz, ?_⟩
        unfold Instr.typeAssert
        simp only [Sem.run_bind, hun, Result.andThen_ok]
        cases hu : i.und with
        | interface ms => exact (hni ms hu).elim
        | _ => simp [hd', ok.run_zero hi hz]
  · rename_i hni
    simp [ren] at hx; subst hx
    cases b with
    | false => simp at e
    | true =>
      simp only [cond_true] at e
      rw [oget_some] at e; obtain ⟨z, hz, e⟩ := e
      cases e
      refine ⟨_, zer z hz, ?_⟩
      unfold Instr.typeAssert
      simp only [Sem.run_bind, hun, Result.andThen_ok]
      cases hu : i.und with
      | interface ms => exact (hni ms hu).elim
      | _ => simp [ok.run_zero hi hz]
  · cases e

/-- The operands here and in the model. -/
def OpRel (ρ : Rn) (f : Operand → Option Value) (g : Operand → Value) : Prop := ∀ x v, f x = some v → ren ρ v = some (g x)

theorem valsV_rel {ρ : Rn} {f : Operand → Option Value} {g : Operand → Value} (ho : OpRel ρ f g) : ∀ {l : List Operand} {vs : List Value}, valsV f l = some vs → renL ρ vs = some (l.map g)
  | [], vs, e => by simp [valsV] at e; subst e; simp [renL]
  | x :: l, vs, e => by
    simp only [valsV] at e
    rw [oget_some] at e; obtain ⟨v, hv, e⟩ := e
    rw [oget_some] at e; obtain ⟨us, hus, e⟩ := e
    cases e
    exact renL_cons.2 ⟨g x, l.map g, ho x v hv, valsV_rel ho hus, rfl⟩

theorem partsV_rel {ρ : Rn} {f : Operand → Option Value} {g : Operand → Value} (ho : OpRel ρ f g) : ∀ {l : List (Nat × Operand)} {ps : List (Nat × Value)}, partsV f l = some ps → PartsRel ρ ps (l.map fun x => (x.1, g x.2))
  | [], ps, e => by simp [partsV] at e; subst e; trivial
  | (i, x) :: l, ps, e => by
    simp only [partsV] at e
    rw [oget_some] at e; obtain ⟨v, hv, e⟩ := e
    rw [oget_some] at e; obtain ⟨us, hus, e⟩ := e
    cases e
    exact ⟨rfl, ho x v hv, partsV_rel ho hus⟩

theorem relO_of {ρ : Rn} {f : Operand → Option Value} {g : Operand → Value} (ho : OpRel ρ f g) {lo : Option Operand} {r : Option Value} (e : (match lo with | none => some none | some v => oget (f v) fun v => some (some v)) = some r) : RelO ρ r (lo.map g) := by
  cases lo with
  | none => simp at e; subst e; trivial
  | some x =>
    rw [oget_some] at e; obtain ⟨v, hv, e⟩ := e
    cases e
    exact ho x v hv

/-- What an operation comes to: a value, or nothing. -/
def GoodOp (P : Program) (ρ : Rn) (h : AH) (w : World) (s : Sem Next) (v : Value) (h' : AH) : Prop :=
  ∃ ρ' w' v', Step ρ h w ρ' h' w' ∧ ren ρ' v = some v' ∧ (s.run P w = .ok (.value v') w' ∨ (s.run P w = .ok .skip w' ∧ v' = undef))

theorem GoodN.op {ρ : Rn} {h h' : AH} {w : World} {s : Sem Next} {v : Value} (g : GoodN P ρ h w s v h') : GoodOp P ρ h w s v h' :=
  let ⟨ρ', w', v', a, b, c⟩ := g
  ⟨ρ', w', v', a, b, .inl c⟩

theorem Good.op {ρ : Rn} {h h' : AH} {w : World} {s : Sem Value} {v : Value} (g : Good P ρ h w s v h') : GoodOp P ρ h w (do pure (.value (← s))) v h' := (Good.next g).op

theorem ren_undef (ρ : Rn) : ren ρ undef' = some undef := ren_tuple.2 ⟨[], by simp [renL], rfl⟩

theorem aval_sound (ok : Ok E P) {ρ : Rn} {h h' : AH} {w : World} (hr : WRel ρ h w) {o : Oper} {f : Operand → Option Value} {g : Operand → Value} (ho : OpRel ρ f g) {v : Value} (e : aval E o f h = some (v, h')) (room : Room ρ h.next h'.next) :
    GoodOp P ρ h w (execOp g o) v h' := by
  unfold aval at e
  unfold execOp
  split at e
  · rename_i x hop
    rw [hop]
    rw [oget_some] at e; obtain ⟨u, hu, e⟩ := e
    cases e
    exact ⟨ρ, w, g x, Step.refl hr, ho _ _ hu, .inl rfl⟩
  · rename_i x hop
    rw [hop]
    rw [oget_some] at e; obtain ⟨u, hu, e⟩ := e
    cases e
    exact ⟨ρ, w, g x, Step.refl hr, ho _ _ hu, .inl rfl⟩
  · -- pick
    rename_i c a b hop
    rw [hop]
    rw [oget_some] at e; obtain ⟨uc, hc, e⟩ := e
    rw [oget_some] at e; obtain ⟨ua, ha, e⟩ := e
    rw [oget_some] at e; obtain ⟨ub, hb, e⟩ := e
    split at e
    · rename_i t
      cases e
      have hc' := ren_bool.1 (ho _ _ hc)
      refine ⟨ρ, w, if t then g a else g b, Step.refl hr, ?_, .inl ?_⟩
      · cases t
        · exact ho _ _ hb
        · exact ho _ _ ha
      · simp [hc', asBool]
    · cases e
  · -- alloc
    rename_i t hop
    rw [hop]
    exact (aAlloc_sound ok hr e room).op
  · -- box
    rename_i t x hop
    rw [hop]
    rw [oget_some] at e; obtain ⟨u, hu, e⟩ := e
    exact (aBox_sound (P := P) hr (ho _ _ hu) e room).op
  · -- build
    rename_i t parts hop
    rw [hop]
    rw [oget_some] at e; obtain ⟨ps, hps, e⟩ := e
    rw [oget_some] at e; obtain ⟨u, hu, e⟩ := e
    cases e
    obtain ⟨v', g1, g2⟩ := aBuild_sound ok (w := w) (partsV_rel ho hps) hu
    have : (parts.map fun (x : Nat × Operand) => (x.1, g x.2)) = ⟨parts.toList.map fun x => (x.1, g x.2)⟩ := by apply Array.ext'; simp
    refine (Good.same hr g1 ?_).op
    rw [← this] at g2
    exact g2
  · -- buildSlice
    rename_i t len parts hop
    rw [hop]
    rw [oget_some] at e; obtain ⟨ps, hps, e⟩ := e
    have := aBuildSlice_sound ok hr (partsV_rel ho hps) e room
    have hm : (parts.map fun (x : Nat × Operand) => (x.1, g x.2)) = ⟨parts.toList.map fun x => (x.1, g x.2)⟩ := by apply Array.ext'; simp
    rw [← hm] at this
    exact this.op
  · -- load
    rename_i t a hop
    rw [hop]
    rw [oget_some] at e; obtain ⟨u, hu, e⟩ := e
    rw [oget_some] at e; obtain ⟨u2, hu2, e⟩ := e
    cases e
    obtain ⟨v', g1, g2⟩ := aLoad_sound ok hr (ho _ _ hu) hu2
    exact (Good.same hr g1 g2).op
  · -- store
    rename_i t a x hop
    rw [hop]
    rw [oget_some] at e; obtain ⟨u, hu, e⟩ := e
    rw [oget_some] at e; obtain ⟨u2, hu2, e⟩ := e
    rw [oget_some] at e; obtain ⟨h1, hh, e⟩ := e
    cases e
    obtain ⟨w', g1, g2⟩ := aStore_sound ok hr (ho _ _ hu) (ho _ _ hu2) hh
    exact ⟨ρ, w', undef, g2, ren_undef ρ, .inr ⟨by simp [g1], rfl⟩⟩
  · -- nilCheck
    rename_i x hop
    rw [hop]
    rw [oget_some] at e; obtain ⟨u, hu, e⟩ := e
    split at e
    · rename_i a
      cases e
      obtain ⟨b, o2, _ | _⟩ := a
      · have hx := ho _ _ hu
        obtain ⟨c, s, x0, hρ, hx'⟩ := ren_ptr hx
        refine ⟨ρ, w, g x, Step.refl hr, hx, .inl ?_⟩
        show (match g x with | _ => _) = _
        simp [hx']
      · have := ho _ _ hu; simp [ren, Rn.addr] at this
    · cases e
  · -- binOp
    rename_i op t x y yt hop
    rw [hop]
    simp only at e
    rw [oget_some] at e; obtain ⟨u, hu, e⟩ := e
    rw [oget_some] at e; obtain ⟨u2, hu2, e⟩ := e
    rw [oget_some] at e; obtain ⟨u3, hu3, e⟩ := e
    cases e
    obtain ⟨v', g1, g2⟩ := aBin_sound ok hr (ho _ _ hu) (ho _ _ hu2) hu3
    exact (Good.same hr g1 g2).op
  · -- unOp
    rename_i op t x hop
    rw [hop]
    rw [oget_some] at e; obtain ⟨u, hu, e⟩ := e
    rw [oget_some] at e; obtain ⟨u2, hu2, e⟩ := e
    cases e
    obtain ⟨v', g1, g2⟩ := aUn_sound (P := P) (w := w) (ho _ _ hu) hu2
    exact (Good.same hr g1 g2).op
  · -- convert
    rename_i s d x hop
    rw [hop]
    rw [oget_some] at e; obtain ⟨u, hu, e⟩ := e
    exact (aConvert_sound ok hr (ho _ _ hu) e room).op
  · -- makeInterface
    rename_i t x hop
    rw [hop]
    rw [oget_some] at e; obtain ⟨u, hu, e⟩ := e
    rw [oget_some] at e; obtain ⟨i, hi, e⟩ := e
    split at e
    · cases e
    · rename_i hni
      cases e
      refine (Good.same hr (v' := .iface t (g x)) (by simp [ren, ho _ _ hu]) ?_).op
      simp only [Instr.makeInterface, Sem.run_bind, ok.run_underlying hi, Result.andThen_ok]
      cases hu : i.und with
      | interface ms => exact (hni ms hu).elim
      | _ => rfl
  · -- makeFunc
    rename_i fn first cp hop
    rw [hop]
    rw [oget_some] at e; obtain ⟨a, ha, e⟩ := e
    rw [oget_some] at e; obtain ⟨b, hb, e⟩ := e
    split at e
    · rename_i fid
      cases e
      have h1 := valsV_rel ho ha
      have h2 := valsV_rel ho hb
      have m1 : first.map g = ⟨first.toList.map g⟩ := by apply Array.ext'; simp
      have m2 : cp.map g = ⟨cp.toList.map g⟩ := by apply Array.ext'; simp
      refine (Good.same hr (v' := .func (.func fid) (first.map g) (cp.map g)) ?_ rfl).op
      rw [m1, m2]
      simp [ren, renA, h1, h2]
    · cases e
  · -- makeMap
    rename_i t hop
    rw [hop]
    rw [oget_some] at e; obtain ⟨i, hi, e⟩ := e
    rw [bif_some] at e; obtain ⟨hc, e⟩ := e
    cases e
    have hn : ρ h.next = none := room _ (Nat.le_refl _) (Nat.lt_succ_self _)
    refine Good.op (s := Instr.makeMap t (Option.map g none)) ⟨ρ.ins h.next (w.heap.size, 0, 0), { w with heap := w.heap.push (.map ⟨[]⟩ 0) }, .map (some w.heap.size), ?_, by simp [ren, ins_self], ?_⟩
    · refine Step.new hr hn (of_blt hc) rfl ⟨[], by simp, by simp [renEs]⟩ (by simp) (fun _ => Nat.le_refl _) (fun k hk => by simp [Array.getElem?_push, Nat.ne_of_lt hk]) rfl rfl rfl
    · simp only [Instr.makeMap, Option.map_none, Sem.run_bind, run_newObj, Result.andThen_ok, Sem.run_pure]
  · -- makeSlice
    rename_i t l c hop
    rw [hop]
    rw [oget_some] at e; obtain ⟨u, hu, e⟩ := e
    rw [oget_some] at e; obtain ⟨u2, hu2, e⟩ := e
    exact (aMakeSlice_sound ok hr (ho _ _ hu) (ho _ _ hu2) e room).op
  · -- slice
    rename_i t x lo hi hop
    rw [hop]
    rw [oget_some] at e; obtain ⟨u, hu, e⟩ := e
    rw [oget_some] at e; obtain ⟨l, hl, e⟩ := e
    rw [oget_some] at e; obtain ⟨k, hk, e⟩ := e
    exact (aSlice_sound ok hr (ho _ _ hu) (relO_of ho hl) (relO_of ho hk) e room).op
  · -- fieldAddr
    rename_i t x fd hop
    rw [hop]
    rw [oget_some] at e; obtain ⟨u, hu, e⟩ := e
    rw [oget_some] at e; obtain ⟨u2, hu2, e⟩ := e
    cases e
    obtain ⟨v', g1, g2⟩ := aFieldAddr_sound ok (w := w) (ho _ _ hu) hu2
    exact (Good.same hr g1 g2).op
  · -- field
    rename_i t x fd hop
    rw [hop]
    rw [oget_some] at e; obtain ⟨u, hu, e⟩ := e
    rw [oget_some] at e; obtain ⟨u2, hu2, e⟩ := e
    cases e
    obtain ⟨v', g1, g2⟩ := aField_sound ok (w := w) (ho _ _ hu) hu2
    exact (Good.same hr g1 g2).op
  · -- indexAddr
    rename_i t x ix hop
    rw [hop]
    rw [oget_some] at e; obtain ⟨u, hu, e⟩ := e
    rw [oget_some] at e; obtain ⟨u2, hu2, e⟩ := e
    rw [oget_some] at e; obtain ⟨u3, hu3, e⟩ := e
    cases e
    obtain ⟨v', g1, g2⟩ := aIndexAddr_sound ok (w := w) (ho _ _ hu) (ho _ _ hu2) hu3
    exact (Good.same hr g1 g2).op
  · -- index
    rename_i t x ix hop
    rw [hop]
    rw [oget_some] at e; obtain ⟨u, hu, e⟩ := e
    rw [oget_some] at e; obtain ⟨u2, hu2, e⟩ := e
    rw [oget_some] at e; obtain ⟨u3, hu3, e⟩ := e
    cases e
    obtain ⟨v', g1, g2⟩ := aIndex_sound ok (w := w) (ho _ _ hu) (ho _ _ hu2) hu3
    exact (Good.same hr g1 g2).op
  · -- lookup
    rename_i t m k okb hop
    rw [hop]
    rw [oget_some] at e; obtain ⟨u, hu, e⟩ := e
    rw [oget_some] at e; obtain ⟨u2, hu2, e⟩ := e
    rw [oget_some] at e; obtain ⟨u3, hu3, e⟩ := e
    cases e
    obtain ⟨v', g1, g2⟩ := aLookup_sound ok hr (ho _ _ hu) (ho _ _ hu2) hu3
    exact (Good.same hr g1 g2).op
  · -- mapUpdate
    rename_i t m k x hop
    rw [hop]
    rw [oget_some] at e; obtain ⟨u, hu, e⟩ := e
    rw [oget_some] at e; obtain ⟨u2, hu2, e⟩ := e
    rw [oget_some] at e; obtain ⟨u3, hu3, e⟩ := e
    rw [oget_some] at e; obtain ⟨h1, hh, e⟩ := e
    cases e
    obtain ⟨w', g1, g2⟩ := aMapUpdate_sound ok hr (ho _ _ hu) (ho _ _ hu2) (ho _ _ hu3) hh
    exact ⟨ρ, w', undef, g2, ren_undef ρ, .inr ⟨by simp [g1], rfl⟩⟩
  · -- typeAssert
    rename_i x xt t okb hop
    rw [hop]
    rw [oget_some] at e; obtain ⟨u, hu, e⟩ := e
    rw [oget_some] at e; obtain ⟨u2, hu2, e⟩ := e
    cases e
    obtain ⟨v', g1, g2⟩ := aTypeAssert_sound (xt := xt) ok (w := w) (ho _ _ hu) hu2
    exact (Good.same hr g1 g2).op
  · -- extract
    rename_i t ix hop
    rw [hop]
    rw [oget_some] at e; obtain ⟨u, hu, e⟩ := e
    split at e
    · rename_i vs
      rw [oget_some] at e; obtain ⟨u2, hu2, e⟩ := e
      cases e
      obtain ⟨l', hl, ht⟩ := ren_tuple.1 (ho _ _ hu)
      obtain ⟨v', g1, g2⟩ := renL_get hl _ _ hu2
      refine (Good.same hr g1 ?_).op
      rw [ht]
      simp only [Instr.extract, List.getElem?_toArray, g2, Sem.run_pure]
    · cases e
  · -- a builtin
    rename_i b args ats hop
    rw [hop]
    rw [oget_some] at e; obtain ⟨vs, hvs, e⟩ := e
    have hv := valsV_rel ho hvs
    obtain ⟨ρ', w', v', g1, g2, g3⟩ := aBuiltin_sound (ty := o.type) (cs := args.map fun | .const _ => true | _ => false) ok hr hv e room
    refine ⟨ρ', w', v', g1, g2, .inl ?_⟩
    have m1 : args.map g = ⟨args.toList.map g⟩ := by apply Array.ext'; simp
    simp only [resolve, Sem.run_bind, Sem.run_pure, Result.andThen_ok, invoke, m1]
    exact g3
  · cases e

end Go.Ev
end
section
/- A deterministic evaluator of the model's code over a memory of its own: operations that may be done later. -/
namespace Go.Ev
variable {E : Env} {P : Program}

/-! ### Only the operands are looked at -/
theorem valsV_congr {f f' : Operand → Option Value} : ∀ {l : List Operand}, (∀ x ∈ l, f x = f' x) → valsV f l = valsV f' l
  | [], _ => rfl
  | x :: l, h => by simp only [valsV, h x (by simp), valsV_congr (l := l) fun y hy => h y (by simp [hy])]

theorem partsV_congr {f f' : Operand → Option Value} : ∀ {l : List (Nat × Operand)}, (∀ x ∈ l.map (·.2), f x = f' x) → partsV f l = partsV f' l
  | [], _ => rfl
  | (i, x) :: l, h => by simp only [partsV, h x (by simp), partsV_congr (l := l) fun y hy => h y (by simp only [List.map_cons, List.mem_cons]; exact .inr hy)]

theorem aval_congr (o : Oper) {f f' : Operand → Option Value} (h : ∀ x ∈ o.op.operands, f x = f' x) (m : AH) : aval E o f m = aval E o f' m := by
  obtain ⟨dst, op, type, pos, after, guard⟩ := o
  cases op <;> simp only [Op.operands] at h <;> simp only [aval]
  case move x => rw [h x (by simp)]
  case assign x => rw [h x (by simp)]
  case pick c a b => rw [h c (by simp), h a (by simp), h b (by simp)]
  case box t x => rw [h x (by simp)]
  case build t ps => rw [partsV_congr (f := f) (f' := f') fun x hx => h x (by simpa using hx)]
  case buildSlice t n ps => rw [partsV_congr (f := f) (f' := f') fun x hx => h x (by simpa using hx)]
  case load t a => rw [h a (by simp)]
  case store t a x => rw [h a (by simp), h x (by simp)]
  case nilCheck x => rw [h x (by simp)]
  case binOp op t x y yt => rw [h x (by simp), h y (by simp)]
  case unOp op t x => rw [h x (by simp)]
  case convert s d x => rw [h x (by simp)]
  case makeInterface t x => rw [h x (by simp)]
  case makeFunc fn a b => rw [valsV_congr (f := f) (f' := f') fun x hx => h x (by simp at hx; simp [hx]), valsV_congr (f := f) (f' := f') (l := b.toList) fun x hx => h x (by simp at hx; simp [hx])]
  case makeMap t r => cases r <;> rfl
  case makeSlice t l c => rw [h l (by simp), h c (by simp)]
  case slice t x lo hi mx =>
    cases mx with
    | some _ => rfl
    | none =>
      have h1 := h x (by simp)
      cases lo <;> cases hi <;> simp_all
  case fieldAddr t x i => rw [h x (by simp)]
  case field t x i => rw [h x (by simp)]
  case indexAddr t x i => rw [h x (by simp), h i (by simp)]
  case index t x i => rw [h x (by simp), h i (by simp)]
  case lookup t m k b => rw [h m (by simp), h k (by simp)]
  case mapUpdate t m k x => rw [h m (by simp), h k (by simp), h x (by simp)]
  case typeAssert x t u b => rw [h x (by simp)]
  case extract x i => rw [h x (by simp)]
  case call c =>
    obtain ⟨callee, args, ats⟩ := c
    cases callee with
    | builtin b =>
      simp only [Call.operands] at h
      simp only []
      rw [valsV_congr (f := f) (f' := f') fun x hx => h x (by simp at hx; simp [hx])]
    | _ => rfl

/-! ### Classes -/
theorem oget_eq {α β : Type} {x : Option α} {f : α → Option β} {b : β} (h : ∃ a, x = some a ∧ f a = some b) : oget x f = some b := oget_some.2 h

theorem aBin_pure {op : BinOp} (h1 : op ≠ .eql) (h2 : op ≠ .neq) {t : TypeId} {c : Bool} {x y : Value} (h h' : AH) : aBin E op t c x y h = aBin E op t c x y h' := by
  cases op <;> first | exact absurd rfl h1 | exact absurd rfl h2 | (unfold aBin; rfl)

def funcV (fn : Fn) (a b : List Value) : Option Value := match fn with
  | .func f => some (.func (.func f) ⟨a⟩ ⟨b⟩)
  | _ => none

def dataV (vs : List Value) : Option Value := match vs with
  | [.slice none _ _] => some (.pointer none)
  | [.slice (some a) _ c] => bif c.beq 0 then none else some (.pointer (some a))
  | _ => none

theorem aBuiltin_data {ats : List TypeId} {vs : List Value} (m : AH) : aBuiltin E .unsafeSliceData ats vs m = oget (dataV vs) fun v => some (v, m) := by
  rcases vs with _ | ⟨x, _ | ⟨y, l⟩⟩
  · rfl
  · cases x with
    | slice base l c => cases base with
      | none => rfl
      | some a => simp only [aBuiltin, dataV]; cases c.beq 0 <;> rfl
    | _ => rfl
  · simp [aBuiltin, dataV, oget]

theorem aval_pure {o : Oper} (hc : clsOf o.op = .pure) {f : Operand → Option Value} {h h' : AH} {v : Value} (e : aval E o f h = some (v, h')) : h' = h ∧ ∀ m, aval E o f m = some (v, m) := by
  have key : ∀ (F : Option Value), (∀ m, aval E o f m = oget F fun v => some (v, m)) → h' = h ∧ ∀ m, aval E o f m = some (v, m) := fun F hF => by
    rw [hF, oget_some] at e
    obtain ⟨u, hu, e⟩ := e
    cases e
    exact ⟨rfl, fun m => by rw [hF, hu]; rfl⟩
  obtain ⟨dst, op, type, pos, after, guard⟩ := o
  cases op <;> simp only [clsOf, reduceCtorEq] at hc <;> simp only [aval] at e key ⊢
  case move x =>
    exact key (f x) fun m => rfl
  case pick c a b =>
    exact key (oget (f c) fun c => oget (f a) fun a => oget (f b) fun b => match c with | .bool t => some (bif t then a else b) | _ => none) fun m => by
      cases f c with
      | none => rfl
      | some c => cases f a with
        | none => rfl
        | some a => cases f b with
          | none => rfl
          | some b => cases c <;> rfl
  case build t ps =>
    exact key (oget (partsV f ps.toList) fun ps => aBuild E t ps) fun m => by cases partsV f ps.toList <;> rfl
  case nilCheck x =>
    exact key (oget (f x) fun x => match x with | .pointer (some a) => some (.pointer (some a)) | _ => none) fun m => by
      cases f x with
      | none => rfl
      | some v => cases v <;> first | rfl | (rename_i a; cases a <;> rfl)
  case binOp op t x y yt =>
    have h1 : op ≠ .eql := by intro h; subst h; simp at hc
    have h2 : op ≠ .neq := by intro h; subst h; simp at hc
    exact key (oget (f x) fun x' => oget (f y) fun y' => aBin E op t (isCon x || isCon y) x' y' h) fun m => by
      cases f x with
      | none => rfl
      | some a => cases f y with
        | none => rfl
        | some b => simp only [oget]; rw [aBin_pure h1 h2 m h]
  case unOp op t x =>
    exact key (oget (f x) fun x => aUn op x) fun m => by cases f x <;> rfl
  case makeInterface t x =>
    exact key (oget (f x) fun x => oget (tInfo E t) fun i => match i.und with | .interface _ => none | _ => some (.iface t x)) fun m => by
      cases f x with
      | none => rfl
      | some v => cases tInfo E t with
        | none => rfl
        | some i => simp only [oget]; cases i.und <;> rfl
  case makeFunc fn a b =>
    exact key (oget (valsV f a.toList) fun a => oget (valsV f b.toList) fun b => funcV fn a b) fun m => by
      cases valsV f a.toList with
      | none => rfl
      | some a => cases valsV f b.toList with
        | none => rfl
        | some b => clear e key; cases fn <;> rfl
  case fieldAddr t x i =>
    exact key (oget (f x) fun x => aFieldAddr E t x i) fun m => by cases f x <;> rfl
  case field t x i =>
    exact key (oget (f x) fun x => aField E t x i) fun m => by cases f x <;> rfl
  case indexAddr t x i =>
    exact key (oget (f x) fun x => oget (f i) fun i => aIndexAddr E t x i) fun m => by
      cases f x with
      | none => rfl
      | some a => cases f i <;> rfl
  case index t x i =>
    exact key (oget (f x) fun x => oget (f i) fun i => aIndex E t x i) fun m => by
      cases f x with
      | none => rfl
      | some a => cases f i <;> rfl
  case typeAssert x t u b =>
    exact key (oget (f x) fun x => aTypeAssert E x u b) fun m => by cases f x <;> rfl
  case extract x i =>
    exact key (oget (f x) fun t => match t with | .tuple ⟨vs⟩ => vs[i]? | _ => none) fun m => by
      cases f x with
      | none => rfl
      | some v => cases v <;> rfl
  case call c =>
    obtain ⟨callee, args, ats⟩ := c
    cases callee with
    | builtin b =>
      cases b <;> simp only [reduceCtorEq] at hc
      case min =>
        exact key (oget (valsV f args.toList) fun vs => match vs with | x :: l => foldV minV x l | [] => none) fun m => by
          simp only [aval]
          cases valsV f args.toList with
          | none => rfl
          | some vs => cases vs <;> rfl
      case max =>
        exact key (oget (valsV f args.toList) fun vs => match vs with | x :: l => foldV maxV x l | [] => none) fun m => by
          simp only [aval]
          cases valsV f args.toList with
          | none => rfl
          | some vs => cases vs <;> rfl
      case unsafeSliceData =>
        exact key (oget (valsV f args.toList) dataV) fun m => by
          simp only [aval]
          cases valsV f args.toList with
          | none => rfl
          | some vs => exact aBuiltin_data m
    | value g => simp at hc
    | invoke r m => simp at hc

end Go.Ev
end
section
/- A deterministic evaluator of the model's code over a memory of its own: readings and new blocks. -/
namespace Go.Ev
variable {E : Env} {P : Program}

theorem new_next {h : AH} {b : Blk} : (h.new b).next = h.next + 1 := rfl

theorem bif_or {α : Type} {b : Bool} {x y : Option α} {a : α} (e : (bif b then x else y) = some a) : (b = true ∧ x = some a) ∨ (b = false ∧ y = some a) := by
  cases b
  · exact .inr ⟨rfl, e⟩
  · exact .inl ⟨rfl, e⟩

theorem aSlice_read {t : TypeId} {x : Value} {lo hi : Option Value} {h h' : AH} {v : Value} (e : aSlice E t x lo hi h = some (v, h')) (hn : h'.next = h.next) : h' = h := by
  unfold aSlice at e
  rw [oget_some] at e; obtain ⟨i, _, e⟩ := e
  split at e
  · rw [oget_some] at e; obtain ⟨l, _, e⟩ := e
    rw [oget_some] at e; obtain ⟨u, _, e⟩ := e
    rw [bif_some] at e; cases e.2; rfl
  · rw [oget_some] at e; obtain ⟨ei, _, e⟩ := e
    rw [oget_some] at e; obtain ⟨l, _, e⟩ := e
    rw [oget_some] at e; obtain ⟨u, _, e⟩ := e
    rw [bif_some] at e; obtain ⟨_, e⟩ := e
    split at e
    · cases e; rfl
    · rcases bif_or e with ⟨_, e⟩ | ⟨_, e⟩
      · cases e; rfl
      split at e
      · rcases bif_or e with ⟨_, e⟩ | ⟨_, e⟩
        · cases e; rfl
        · rcases bif_or e with ⟨_, e⟩ | ⟨_, e⟩
          · rw [bif_some] at e
            cases e.2
            simp [AH.new] at hn
          · cases e; rfl
      · cases e; rfl
      · cases e
    · cases e
  · rw [oget_some] at e; obtain ⟨ai, _, e⟩ := e
    split at e
    · rw [oget_some] at e; obtain ⟨ei, _, e⟩ := e
      rw [oget_some] at e; obtain ⟨l, _, e⟩ := e
      rw [oget_some] at e; obtain ⟨u, _, e⟩ := e
      rw [bif_some] at e; cases e.2; rfl
    · cases e
  · split at e
    · rw [oget_some] at e; obtain ⟨ei, _, e⟩ := e
      rw [oget_some] at e; obtain ⟨l, _, e⟩ := e
      rw [oget_some] at e; obtain ⟨u, _, e⟩ := e
      rw [bif_some] at e; cases e.2; rfl
    · cases e
  · cases e

theorem aConvert_read {s d : TypeId} {x : Value} {h h' : AH} {v : Value} (e : aConvert E s d x h = some (v, h')) (hn : h'.next = h.next) : h' = h := by
  unfold aConvert at e
  rw [oget_some] at e; obtain ⟨si, _, e⟩ := e
  rw [oget_some] at e; obtain ⟨di, _, e⟩ := e
  split at e
  · cases e; rfl
  · cases e; rfl
  · rw [oget_some] at e; obtain ⟨ei, _, e⟩ := e
    split at e
    · cases e; rfl
    · cases e
  · rw [oget_some] at e; obtain ⟨ei, _, e⟩ := e
    split at e
    · rw [oget_some] at e; obtain ⟨b, _, e⟩ := e
      rw [oget_some] at e; obtain ⟨b, _, e⟩ := e
      rw [oget_some] at e; obtain ⟨b, _, e⟩ := e
      cases e; rfl
    · cases e
  · rw [oget_some] at e; obtain ⟨ei, _, e⟩ := e
    split at e
    · rw [bif_some] at e
      cases e.2
      simp [AH.new] at hn
    · cases e
  · rw [oget_some] at e; obtain ⟨ei, _, e⟩ := e
    split at e
    · rw [bif_some] at e; cases e.2; rfl
    · cases e
  · rw [oget_some] at e; obtain ⟨ei, _, e⟩ := e
    split at e
    · rw [bif_some] at e; cases e.2; rfl
    · cases e
  · cases e

theorem aval_read {o : Oper} (hc : clsOf o.op = .read) {f : Operand → Option Value} {h h' : AH} {v : Value} (e : aval E o f h = some (v, h')) (hn : h'.next = h.next) : h' = h := by
  obtain ⟨dst, op, type, pos, after, guard⟩ := o
  cases op <;> simp only [clsOf, reduceCtorEq] at hc
  case load t a =>
    simp only [aval] at e
    rw [oget_some] at e; obtain ⟨a, _, e⟩ := e
    rw [oget_some] at e; obtain ⟨b, _, e⟩ := e
    cases e; rfl
  case lookup t m k b =>
    simp only [aval] at e
    rw [oget_some] at e; obtain ⟨a, _, e⟩ := e
    rw [oget_some] at e; obtain ⟨b, _, e⟩ := e
    rw [oget_some] at e; obtain ⟨c, _, e⟩ := e
    cases e; rfl
  case binOp op t x y yt =>
    simp only [aval] at e
    rw [oget_some] at e; obtain ⟨a, _, e⟩ := e
    rw [oget_some] at e; obtain ⟨b, _, e⟩ := e
    rw [oget_some] at e; obtain ⟨c, _, e⟩ := e
    cases e; rfl
  case slice t x lo hi mx =>
    cases mx with
    | some _ => simp [aval] at e
    | none =>
      simp only [aval] at e
      rw [oget_some] at e; obtain ⟨a, _, e⟩ := e
      rw [oget_some] at e; obtain ⟨b, _, e⟩ := e
      rw [oget_some] at e; obtain ⟨c, _, e⟩ := e
      exact aSlice_read e hn
  case convert s d x =>
    simp only [aval] at e
    rw [oget_some] at e; obtain ⟨a, _, e⟩ := e
    exact aConvert_read e hn
  case call c =>
    obtain ⟨callee, args, ats⟩ := c
    cases callee with
    | builtin b =>
      cases b <;> simp only [reduceCtorEq] at hc
      case len =>
        simp only [aval] at e
        rw [oget_some] at e; obtain ⟨vs, _, e⟩ := e
        unfold aBuiltin at e
        split at e <;> simp_all only [reduceCtorEq]
        rw [oget_some] at e; obtain ⟨c, _, e⟩ := e
        cases e; rfl
      case cap =>
        simp only [aval] at e
        rw [oget_some] at e; obtain ⟨vs, _, e⟩ := e
        unfold aBuiltin at e
        split at e <;> simp_all only [reduceCtorEq]
        · rw [oget_some] at e; obtain ⟨c, _, e⟩ := e
          rw [oget_some] at e; obtain ⟨c, _, e⟩ := e
          split at e
          · cases e; rfl
          · cases e
        · rw [oget_some] at e; obtain ⟨c, _, e⟩ := e
          rw [oget_some] at e; obtain ⟨c, _, e⟩ := e
          split at e
          · rw [bif_some] at e; cases e.2; rfl
          · cases e; rfl
          · cases e
    | value g => simp at hc
    | invoke r m => simp at hc

/-! ### New blocks -/
/-- A computation that makes a new block of the world and answers with its address. -/
def NewFact (P : Program) (ρ : Rn) (s : Sem Next) (blk : Blk) (mk : Nat → Value) : Prop :=
  ∃ (obj : Obj) (mk' : Nat → Value), (∀ w, s.run P w = .ok (.value (mk' w.heap.size)) { w with heap := w.heap.push obj }) ∧ blk.own = true ∧ blk.isRo = false ∧
    (∀ w c, w.heap[c]? = some obj → BlkRel ρ w c 0 0 blk) ∧ ∀ (ρ' : Rn) b c, ρ' b = some (c, 0, 0) → ren ρ' (mk b) = some (mk' c)

theorem cells_rel {ρ : Rn} {cs cs' : List Value} (hv : renL ρ cs = some cs') (hl : cs.length < cap) (t : TypeId) (wh : Bool) {n : Nat} (hn : n = cs.length) {w : World} {c : Nat} (hw : w.heap[c]? = some (.cells ⟨cs'⟩ t (0, 0))) :
    BlkRel ρ w c 0 0 (.cells n (putCells .nil 0 cs) t 0 wh) := by
  subst hn
  have hl' := renL_length hv
  refine ⟨⟨cs'⟩, 0, 0, hw, by simp [hl'], fun _ => rfl, fun i hi => ?_, by simp, by simp, fun _ => rfl⟩
  obtain ⟨u', e1, e2⟩ := renL_get hv i cs[i] (List.getElem?_eq_getElem hi)
  exact ⟨cs[i], u', by rw [putNil_get hl i hi]; exact List.getElem?_eq_getElem hi, e1, by simpa using e2⟩

theorem aNewCells_new {ρ : Rn} {h h' : AH} {cs cs' : List Value} (hv : renL ρ cs = some cs') {t : TypeId} {v : Value} (e : aNewCells h cs t = some (v, h')) {s : Sem Next} (hs : ∀ w, s.run P w = ((do pure (.value (.pointer (some (← newRow t ⟨cs'⟩)))) : Sem Next)).run P w) :
    ∃ blk mk, v = mk h.next ∧ h' = h.new blk ∧ h.next < cap ∧ NewFact P ρ s blk mk := by
  unfold aNewCells at e
  rw [bif_some] at e
  obtain ⟨hc, e⟩ := e
  simp only [Bool.and_eq_true] at hc
  cases e
  refine ⟨.cells cs.length (putCells .nil 0 cs) t 0 true, fun n => .pointer (some ⟨n, 0, none⟩), rfl, rfl, of_blt hc.1.2, .cells ⟨cs'⟩ t (0, 0), fun n => .pointer (some ⟨n, 0, none⟩), fun w => ?_, rfl, rfl, fun w c hw => cells_rel hv (of_blt hc.2) t true rfl hw, fun ρ' b c hb => by simp [ren, Rn.addr, hb]⟩
  rw [hs]
  simp [run_newRow]

theorem aMakeSlice_new (ok : Ok E P) {ρ : Rn} {h h' : AH} {t : TypeId} {l l' c c' v : Value} (hl : ren ρ l = some l') (hc : ren ρ c = some c')
    (e : aMakeSlice E t l c h = some (v, h')) : ∃ blk mk, v = mk h.next ∧ h' = h.new blk ∧ h.next < cap ∧ NewFact P ρ (do pure (.value (← Instr.makeSlice t l' c'))) blk mk := by
  unfold aMakeSlice at e
  rw [oget_some] at e; obtain ⟨i, hi, e⟩ := e
  split at e
  · rename_i el kl l kc c hu
    rw [oget_some] at e; obtain ⟨ei, hei, e⟩ := e
    rw [oget_some] at e; obtain ⟨z, hz, e⟩ := e
    rw [bif_some] at e
    obtain ⟨hcnd, e⟩ := e
    simp only [Bool.and_eq_true, decide_eq_true_eq] at hcnd
    obtain ⟨⟨⟨⟨⟨⟨⟨c1, c2⟩, c3⟩, c4⟩, c5⟩, c6⟩, c7⟩, c8⟩ := hcnd
    have c4 := of_blt c4
    have c5 := of_beq c5
    have c7 := of_blt c7
    have c8 := of_blt c8
    cases e
    simp [ren] at hl hc; subst hl; subst hc
    rw [Array.length_toList] at c5
    have hzr := ren_cells (ok.zero hei hz ρ)
    have hlen : (repl z.cells.toList c.toNat).length = c.toNat * ei.size := by rw [repl_length, Array.length_toList, c5]
    refine ⟨.cells (c.toNat * ei.size) (putCells .nil 0 (repl z.cells.toList c.toNat)) el 0 true, fun n => .slice (some ⟨n, 0, none⟩) l.toNat c.toNat, rfl, rfl, c7, .cells ⟨repl z.cells.toList c.toNat⟩ el (0, 0), fun n => .slice (some ⟨n, 0, none⟩) l.toNat c.toNat, fun w => ?_, rfl, rfl, fun w k hw => cells_rel (renL_repl hzr c.toNat) (by omega) el true hlen.symm hw, fun ρ' b k hb => by simp [ren, hb]⟩
    obtain ⟨info, hinfo, _, hbytes, _⟩ := ok.run_typeInfo hei w
    have htoo : ∀ m : Int, 0 ≤ m → m ≤ c → (decide (m < 0) || decide ((ei.bytes : Int) * m > 2 ^ 48)) = false := by
      intro m h0 h1
      have hm : (ei.bytes : Int) * m ≤ (ei.bytes : Int) * (c.toNat : Int) := Int.mul_le_mul_of_nonneg_left (by omega) (Int.natCast_nonneg _)
      rw [← Int.natCast_mul, Nat.mul_comm] at hm
      simp only [Bool.or_eq_false_iff, decide_eq_false_iff_not]
      constructor
      · omega
      · omega
    have hwl : IntKind.i64.wrap l = l := wrap_small c1 (by omega)
    have hwc : IntKind.i64.wrap c = c := wrap_small (by omega) c3
    have hasl : (asInt (.int kl l)).run P w = .ok l w := rfl
    have hasc : (asInt (.int kc c)).run P w = .ok c w := rfl
    unfold Instr.makeSlice
    simp only [Sem.run_bind, ok.run_underlying hi, hu, Result.andThen_ok, hasl, hasc, hinfo, hbytes, hwl, hwc, htoo c (by omega) (Int.le_refl _), Bool.false_or, show decide (l < 0) = false from by simpa using c1, show decide (l > c) = false from by simpa using c2, Bool.false_eq_true, if_false, run_askRoom, ok.run_sizeOf hei]
    by_cases hz0 : c.toNat * ei.size = 0
    · have hnil : repl z.cells.toList c.toNat = [] := List.eq_nil_of_length_eq_zero (by rw [hlen]; exact hz0)
      simp only [hz0, if_true, Sem.run_bind, Sem.run_pure, Result.andThen_ok, run_newRow, hnil]
      have : (Array.range 0).map (fun i => (#[] : Array Value)[i % (#[] : Array Value).size]!) = ⟨[]⟩ := by simp
      rw [this]
    · simp only [hz0, if_false, Sem.run_bind, ok.run_zero hei hz, Result.andThen_ok, Sem.run_pure, run_newRow]
      rw [range_repl z.cells c.toNat (c.toNat * ei.size) (by rw [c5])]
  · cases e

theorem aBuildSlice_new (ok : Ok E P) {ρ : Rn} {h h' : AH} {t : TypeId} {len : Nat} {parts parts' : List (Nat × Value)} {v : Value} (hp : PartsRel ρ parts parts') (e : aBuildSlice E t len parts h = some (v, h')) :
    ∃ blk mk, v = mk h.next ∧ h' = h.new blk ∧ h.next < cap ∧ NewFact P ρ (do pure (.value (← Instr.buildSlice t len ⟨parts'⟩))) blk mk := by
  unfold aBuildSlice at e
  rw [oget_some] at e; obtain ⟨i, hi, e⟩ := e
  split at e
  · rename_i el hu
    rw [oget_some] at e; obtain ⟨ei, hei, e⟩ := e
    rw [oget_some] at e; obtain ⟨z, hz, e⟩ := e
    rw [bif_some] at e
    obtain ⟨hc, e⟩ := e
    simp only [Bool.and_eq_true] at hc
    have c1 := of_beq hc.1
    have c2 := of_blt hc.2
    rw [Array.length_toList] at c1
    have hzr := ren_cells (ok.zero hei hz ρ)
    rw [oget_some] at e; obtain ⟨cs, hcs, e⟩ := e
    rw [bif_some] at e
    obtain ⟨hc2, e⟩ := e
    simp only [Bool.and_eq_true] at hc2
    cases e
    have hf : fillV (fun i => some (i * ei.size, ei.size)) (repl z.cells.toList len) parts = some cs := by
      split at hcs
      · rename_i cs0 hpk
        cases hcs
        cases hlen : parts.length.beq len with
        | false => simp [hlen] at hpk
        | true =>
          simp only [hlen, cond_true] at hpk
          have := packed_fill (pre := []) (mid := repl z.cells.toList len) hpk (by simp) (by rw [repl_length, Array.length_toList, c1, of_beq hlen])
          simpa using this
      · exact hcs
    obtain ⟨cs', h1, h2⟩ := fillV_sound hp (renL_repl hzr len) hf
    refine ⟨.cells cs.length (putCells .nil 0 cs) el 0 true, fun n => .slice (some ⟨n, 0, none⟩) len len, rfl, rfl, of_blt hc2.1.2, .cells ⟨cs'⟩ el (0, 0), fun n => .slice (some ⟨n, 0, none⟩) len len, fun w => ?_, rfl, rfl, fun w k hw => cells_rel h1 (of_blt hc2.2) el true rfl hw, fun ρ' b k hb => by simp [ren, hb]⟩
    unfold Instr.buildSlice
    simp only [Sem.run_bind, ok.run_underlying hi, hu, Result.andThen_ok, ok.run_sizeOf hei, show ¬ len * ei.size > 2 ^ 24 by omega, if_false]
    have harr : (Array.range (len * ei.size)).map (fun i => z.cells[i % z.cells.size]!) = ⟨repl z.cells.toList len⟩ := range_repl z.cells len _ (by rw [c1])
    by_cases h0 : len * ei.size = 0
    · have hnil : repl z.cells.toList len = [] := List.eq_nil_of_length_eq_zero (by rw [repl_length, Array.length_toList, c1]; exact h0)
      rw [hnil] at h2
      have harr0 : (Array.range 0).map (fun i => (#[] : Array Value)[i % (#[] : Array Value).size]!) = ⟨[]⟩ := by simp
      simp only [h0, if_true, Sem.run_bind, Sem.run_pure, Result.andThen_ok, harr0, h2, run_newRow]
    · simp only [h0, if_false, Sem.run_bind, ok.run_zero hei hz, Result.andThen_ok, Sem.run_pure, harr, h2, run_newRow]
  · cases e

theorem aval_alloc (ok : Ok E P) {o : Oper} (hc : clsOf o.op = .alloc) {ρ : Rn} {f : Operand → Option Value} {g : Operand → Value} (ho : OpRel ρ f g) {h h' : AH} {v : Value} (e : aval E o f h = some (v, h')) :
    ∃ blk mk, v = mk h.next ∧ h' = h.new blk ∧ h.next < cap ∧ NewFact P ρ (execOp g o) blk mk := by
  obtain ⟨dst, op, type, pos, after, guard⟩ := o
  cases op <;> simp only [clsOf, reduceCtorEq] at hc
  case binOp op t x y yt => cases op <;> simp at hc
  case call c =>
    obtain ⟨callee, args, ats⟩ := c
    cases callee with
    | builtin b => cases b <;> simp at hc
    | value g => simp at hc
    | invoke r m => simp at hc
  case alloc t =>
    simp only [aval] at e
    unfold aAlloc at e
    rw [oget_some] at e; obtain ⟨i, hi, e⟩ := e
    rw [oget_some] at e; obtain ⟨z, hz, e⟩ := e
    refine aNewCells_new (ren_cells (ok.zero hi hz ρ)) e fun w => ?_
    simp only [execOp, Instr.alloc, Sem.run_bind, ok.run_zero hi hz, Result.andThen_ok, newVar, run_newRow, Sem.run_pure]
  case box t x =>
    simp only [aval] at e
    rw [oget_some] at e; obtain ⟨u, hu, e⟩ := e
    refine aNewCells_new (ren_cells (ho _ _ hu)) e fun w => ?_
    simp only [execOp, Instr.box, newVar, Sem.run_bind, run_newRow, Result.andThen_ok, Sem.run_pure]
  case buildSlice t n ps =>
    simp only [aval] at e
    rw [oget_some] at e; obtain ⟨u, hu, e⟩ := e
    have hm : (ps.map fun (x : Nat × Operand) => (x.1, g x.2)) = ⟨ps.toList.map fun x => (x.1, g x.2)⟩ := by apply Array.ext'; simp
    have := aBuildSlice_new (P := P) ok (partsV_rel ho hu) e
    rw [← hm] at this
    exact this
  case makeMap t r =>
    cases r with
    | some _ => simp [aval] at e
    | none =>
      simp only [aval] at e
      rw [oget_some] at e; obtain ⟨i, hi, e⟩ := e
      rw [bif_some] at e; obtain ⟨hc, e⟩ := e
      cases e
      exact ⟨.map [] 0, fun n => .map (some n), rfl, rfl, of_blt hc, .map ⟨[]⟩ 0, fun n => .map (some n), fun w => by simp only [execOp, Instr.makeMap, Option.map_none, Sem.run_bind, run_newObj, Result.andThen_ok, Sem.run_pure], rfl, rfl, fun w c hw => ⟨[], hw, by simp [renEs]⟩, fun ρ' b c hb => by simp [ren, hb]⟩
  case makeSlice t l c =>
    simp only [aval] at e
    rw [oget_some] at e; obtain ⟨u, hu, e⟩ := e
    rw [oget_some] at e; obtain ⟨u2, hu2, e⟩ := e
    exact aMakeSlice_new ok (ho _ _ hu) (ho _ _ hu2) e

end Go.Ev
end
section
/- A deterministic evaluator of the model's code over a memory of its own: frames. -/
namespace Go.Ev
variable {E : Env} {P : Program}

/-- No number that is not given out yet has a renaming. -/
def Top (ρ : Rn) (h : AH) : Prop := ∀ i, h.next ≤ i → ρ i = none

theorem Top.room {ρ : Rn} {h : AH} (t : Top ρ h) (n : Nat) : Room ρ h.next n := fun i hi _ => t i hi

theorem Step.top {ρ ρ' : Rn} {h h' : AH} {w w' : World} (s : Step ρ h w ρ' h' w') (t : Top ρ h) : Top ρ' h' :=
  fun i hi => s.dom i (t i (Nat.le_trans s.nxt hi)) (.inr hi)

theorem BlkRel.lt {ρ : Rn} {w : World} {c s x : Nat} {b : Blk} (h : BlkRel ρ w c s x b) (hb : b.own = true ∨ b.isRo = true) : c < w.heap.size := by
  have some_lt : ∀ {o : Obj}, w.heap[c]? = some o → c < w.heap.size := fun h => (Array.getElem?_eq_some_iff.1 h).1
  cases b with
  | cells n t e o wh => obtain ⟨C, lo, hi, h1, _⟩ := h; exact some_lt h1
  | map es cl => obtain ⟨es', h1, _⟩ := h; exact some_lt h1
  | loop st pend fn n r ps asg bo de => obtain ⟨tm, f, d, h1, _⟩ := h; exact some_lt h1
  | deferred ds => obtain ⟨_, d, h1⟩ := h; exact some_lt h1
  | ro n f => obtain ⟨⟨_, o, h1⟩, _⟩ := h; exact some_lt h1
  | dead => simp [Blk.own, Blk.isRo] at hb

theorem push_old {w : World} {o : Obj} {k : Nat} (h : k < w.heap.size) : ({ w with heap := w.heap.push o } : World).heap[k]? = w.heap[k]? := by
  simp [Array.getElem?_push, Nat.ne_of_lt h]

/-- The world makes a block that stands here already. -/
theorem Step.late {ρ0 ρ : Rn} {h0 h : AH} {w0 w : World} (st : Step ρ0 h0 w0 ρ h w) {b : Nat} {blk : Blk} (hb : h.b.get b = some blk) (hρ : ρ b = none) (hbase : h0.next ≤ b) (hlt : b < h.next) (hro : blk.isRo = false)
    {obj : Obj} (hrel : BlkRel ρ { w with heap := w.heap.push obj } w.heap.size 0 0 blk) : Step ρ0 h0 w0 (ρ.ins b (w.heap.size, 0, 0)) h { w with heap := w.heap.push obj } := by
  have hsub : Sub ρ (ρ.ins b (w.heap.size, 0, 0)) := Rn.sub_ins hρ
  have hr := st.rel
  have hins : ∀ {k r}, k ≠ b → (ρ.ins b (w.heap.size, 0, 0)) k = some r → ρ k = some r := fun hk e => by simpa [Rn.ins, hk] using e
  have hself : ∀ {r}, (ρ.ins b (w.heap.size, 0, 0)) b = some r → r = (w.heap.size, 0, 0) := fun e => by simpa [Rn.ins, eq_comm] using e
  refine ⟨st.sub.trans hsub, fun i e hi => ?_, st.nxt, ⟨hr.low, fun k bk hk c s x hc => ?_, fun k k' b1 b2 e1 e2 o1 o2 c s x s' x' r1 r2 => ?_, fun k k' b1 b2 e1 e2 o1 o2 c s x s' x' r1 r2 => ?_⟩, ?_, st.os, st.tape, st.output, fun c hc hf => ?_, st.same, fun k bk c s x e1 o1 r1 hc => ?_⟩
  · have : i ≠ b := by
      intro e'; subst e'
      rcases hi with hi | hi <;> omega
    simp only [Rn.ins, this, if_false]
    exact st.dom i e hi
  · by_cases e : k = b
    · subst e
      have := hself hc; cases this
      rw [hb] at hk; cases hk
      exact hrel.mono hsub
    · have hc' := hins e hc
      have hb' := hr.blk k bk hk c s x hc'
      by_cases hown : bk.own = true ∨ bk.isRo = true
      · exact (hb'.congr (push_old (hb'.lt hown))).mono hsub
      · cases bk <;> simp [Blk.own, Blk.isRo] at hown
        trivial
  · by_cases a1 : k = b
    · subst a1
      by_cases a2 : k' = k
      · exact a2.symm
      · have q1 := hself r1
        have := (hr.blk k' b2 e2 _ _ _ (hins a2 r2)).lt (.inl o2)
        cases q1; omega
    · by_cases a2 : k' = b
      · subst a2
        have q2 := hself r2
        have := (hr.blk k b1 e1 _ _ _ (hins a1 r1)).lt (.inl o1)
        cases q2; omega
      · exact hr.inj k k' b1 b2 e1 e2 o1 o2 _ _ _ _ _ (hins a1 r1) (hins a2 r2)
  · have a2 : k' ≠ b := by
      intro e; subst e; rw [hb] at e2; cases e2; rw [hro] at o2; cases o2
    by_cases a1 : k = b
    · subst a1
      have q1 := hself r1
      have := (hr.blk k' b2 e2 _ _ _ (hins a2 r2)).lt (.inr o2)
      cases q1; omega
    · exact hr.apart k k' b1 b2 e1 e2 o1 o2 _ _ _ _ _ (hins a1 r1) (hins a2 r2)
  · have := st.size
    simp only [Array.size_push]; omega
  · rw [push_old (Nat.lt_of_lt_of_le hc st.size)]; exact st.keep c hc hf
  · by_cases e : k = b
    · subst e
      have := hself r1; cases this
      have := st.size; omega
    · exact st.img k bk c s x e1 o1 (hins e r1) hc

/-- A block here that the world has not made yet. -/
theorem Step.early {ρ0 ρ : Rn} {h0 h : AH} {w0 w : World} (st : Step ρ0 h0 w0 ρ h w) (hn : ρ h.next = none) (hcap : h.next < cap) (blk : Blk) : Step ρ0 h0 w0 ρ (h.new blk) w := by
  have hg : ∀ k, (h.new blk).b.get k = if k = h.next then some blk else h.b.get k := fun k => Tr.get_put _ _ _ _ hcap
  have hr := st.rel
  have old : ∀ {k bk r}, (h.new blk).b.get k = some bk → ρ k = some r → h.b.get k = some bk := fun {k bk r} e q => by
    rw [hg] at e
    have : k ≠ h.next := by intro e'; subst e'; rw [hn] at q; cases q
    rwa [if_neg this] at e
  refine ⟨st.sub, fun i e hi => st.dom i e (hi.imp_right fun (q : h.next + 1 ≤ i) => by omega), Nat.le_succ_of_le st.nxt, ⟨fun k bk hk => ?_, fun k bk hk c s x hc => hr.blk k bk (old hk hc) c s x hc, fun k k' b1 b2 e1 e2 o1 o2 c s x s' x' r1 r2 => hr.inj k k' b1 b2 (old e1 r1) (old e2 r2) o1 o2 _ _ _ _ _ r1 r2,
    fun k k' b1 b2 e1 e2 o1 o2 c s x s' x' r1 r2 => hr.apart k k' b1 b2 (old e1 r1) (old e2 r2) o1 o2 _ _ _ _ _ r1 r2⟩, st.size, st.os, st.tape, st.output, st.keep, fun k e hk => ?_, fun k bk c s x e1 o1 r1 hc => st.img k bk c s x (old e1 r1) o1 r1 hc⟩
  · rw [hg] at hk
    by_cases e : k = h.next
    · rw [e]; exact hcap
    · rw [if_neg e] at hk; exact hr.low k bk hk
  · rw [hg, if_neg (by have := st.nxt; omega)]; exact st.same k e hk

theorem WRel.heap {ρ : Rn} {h : AH} {w w' : World} (hr : WRel ρ h w) (e : w'.heap = w.heap) : WRel ρ h w' :=
  ⟨hr.low, fun b blk hb c s x hc => (hr.blk b blk hb c s x hc).congr (by rw [e]), hr.inj, hr.apart⟩

theorem Step.drawn {ρ : Rn} {h : AH} {w : World} (hr : WRel ρ h w) (n : Nat) : Step ρ h w ρ h { w with drawn := n } :=
  ⟨Sub.refl _, fun _ e _ => e, Nat.le_refl _, hr.heap rfl, Nat.le_refl _, rfl, rfl, rfl, fun _ _ _ => rfl, fun _ _ _ => rfl, fun b blk c s x hb ho hc _ hf => hf b blk s x hb ho hc⟩

/-! ### Frames -/
def evT (tm : Array Value) : Operand → Value
  | .tmp t => tm.getD t undef
  | .const v => v
  | .global g => .pointer (some ⟨g, 0, none⟩)
  | .func f => .func (.func f) #[] #[]

def frm (b : Frame) (tm : Array Value) (ds : List Deferred) (todo : List Item) : Frame := { b with tmps := tm, todo := todo, defers := ds, mode := .run }

theorem eval_frm (b : Frame) (tm : Array Value) (ds : List Deferred) (todo : List Item) : (frm b tm ds todo).eval = evT tm := by
  funext x; cases x <;> rfl

def putT (tm : Array Value) (dst : Option Tmp) (v : Value) : Array Value :=
  match dst with
  | some d => tm.setIfInBounds d v
  | none => tm

theorem finish_frm (b : Frame) (tm : Array Value) (ds : List Deferred) (ops : Array Oper) (i : Nat) (rest : List Nat) (k : List Item) (v : Value) :
    (frm b tm ds (.inRegion ops (i :: rest) :: k)).finish v = frm b (putT tm ((ops[i]?).bind (·.dst)) v) ds (.inRegion ops rest :: k) := by
  cases h : (ops[i]?).bind (·.dst) <;> simp [Frame.finish, frm, putT, h]

/-- The package-level variables have their places. -/
def GlobOk (E : Env) (ρ : Rn) : Prop := ∀ g, g < E.ng → ∃ x, ρ g = some (g, 0, x)

theorem GlobOk.mono {ρ ρ' : Rn} (h : GlobOk E ρ) (s : Sub ρ ρ') : GlobOk E ρ' := fun g hg => let ⟨x, e⟩ := h g hg; ⟨x, s _ _ e⟩

/-- An operation's operands here and there. -/
def OpOn (E : Env) (ρ : Rn) (r : Tr Value) (tm : Array Value) (xs : Array Operand) : Prop := ∀ x ∈ xs, ∀ v, evalO E.ng r x = some v → ren ρ v = some (evT tm x)

theorem evalO_rel {ρ : Rn} (hg : GlobOk E ρ) {r : Tr Value} {tm : Array Value} {x : Operand} (h : ∀ t, x = .tmp t → ∀ v, r.get t = some v → ∃ v', ren ρ v = some v' ∧ tm[t]? = some v') {v : Value} (e : evalO E.ng r x = some v) : ren ρ v = some (evT tm x) := by
  cases x with
  | tmp t =>
    obtain ⟨v', h1, h2⟩ := h t rfl v e
    simp [evT, h1, h2]
  | const u =>
    simp only [evalO] at e
    rw [bif_some] at e
    obtain ⟨hp, e⟩ := e
    cases e
    exact plainZ_ren ρ _ hp
  | global g =>
    simp only [evalO] at e
    rw [bif_some] at e
    obtain ⟨hp, e⟩ := e
    cases e
    obtain ⟨x, hx⟩ := hg g (of_blt hp)
    simp [ren, Rn.addr, hx, evT]
  | func f =>
    simp only [evalO, Option.some.injEq] at e
    subst e
    simp [ren, renA, renL, evT]

theorem mem_looksAt {all : Array Oper} {o : Oper} {t : Tmp} (h : Operand.tmp t ∈ o.op.operands) : t ∈ o.looksAt all :=
  List.mem_append_left _ (List.mem_filterMap.2 ⟨.tmp t, by simpa using h, rfl⟩)

theorem OpOn.of_looks {ρ : Rn} (hg : GlobOk E ρ) {all : Array Oper} {r : Tr Value} {tm : Array Value} {o : Oper} (h : ∀ t ∈ o.looksAt all, ∀ v, r.get t = some v → ∃ v', ren ρ v = some v' ∧ tm[t]? = some v') : OpOn E ρ r tm o.op.operands :=
  fun _ hx _ e => evalO_rel hg (fun t ht => h t (mem_looksAt (ht ▸ hx))) e

theorem OpOn.rel {ρ : Rn} {r : Tr Value} {tm : Array Value} {o : Oper} (h : OpOn E ρ r tm o.op.operands) : ∃ f, OpRel ρ f (evT tm) ∧ ∀ m, aval E o f m = aval E o (evalO E.ng r) m := by
  classical
  refine ⟨fun x => if x ∈ o.op.operands then evalO E.ng r x else none, fun x v e => ?_, fun m => aval_congr o (fun x hx => by simp [hx]) m⟩
  by_cases hx : x ∈ o.op.operands
  · simp only [hx, if_true] at e; exact h x hx v e
  · simp [hx] at e

theorem aval_on (ok : Ok E P) {ρ : Rn} {h h' : AH} {w : World} (hr : WRel ρ h w) {o : Oper} {r : Tr Value} {tm : Array Value} (ho : OpOn E ρ r tm o.op.operands) {v : Value} (e : aval E o (evalO E.ng r) h = some (v, h')) (top : Top ρ h) :
    GoodOp P ρ h w (execOp (evT tm) o) v h' := by
  obtain ⟨f, h1, h2⟩ := ho.rel
  rw [← h2] at e
  exact aval_sound ok hr h1 e (top.room _)

theorem wantedT_rel {ρ : Rn} {all : Array Oper} {r : Tr Value} {tm : Array Value} {o : Oper} (h : ∀ t ∈ o.looksAt all, ∀ v, r.get t = some v → ∃ v', ren ρ v = some v' ∧ tm[t]? = some v') {b : Bool} (e : wantedT o all r = some b) :
    Region.wanted o (yielded all tm) = b := by
  unfold wantedT at e
  unfold Region.wanted
  cases hg : o.guard with
  | none => simp [hg] at e; simp [← e]
  | some jw =>
    obtain ⟨j, want⟩ := jw
    simp only [hg] at e
    cases hd : (all.toList[j]?).bind (·.dst) with
    | none => rw [hd] at e; simp at e
    | some d =>
      rw [hd] at e
      simp only at e
      have hd' : (all[j]?).bind (·.dst) = some d := by simpa using hd
      have hm : d ∈ o.looksAt all := List.mem_append_right _ (by simp [hg, hd'])
      cases hv : r.get d with
      | none => simp [hv] at e
      | some v =>
        obtain ⟨v', h1, h2⟩ := h d hm v hv
        simp only [hv] at e
        split at e
        · rename_i u hu
          cases hu
          simp [ren] at h1; subst h1
          cases e
          simp only [yielded, hd', Option.bind_some, h2]
          cases u <;> cases want <;> rfl
        · rename_i hu
          cases hu
          cases e
          obtain ⟨l', h3, h4⟩ := ren_tuple.1 h1
          simp [renL] at h3; subst h3; subst h4
          simp [yielded, hd', h2]
        · cases e

end Go.Ev
end
section
/- A deterministic evaluator of the model's code over a memory of its own: operations that call. -/
namespace Go.Ev
variable {E : Env} {P : Program}

/-- The panicking frame ahead has been recovered. -/
def markRec : List Frame → List Frame
  | c :: r => (match c.mode with
    | .panicking (e :: old) => { c with mode := .panicking ({ v := e.v, recovered := true } :: old) }
    | _ => c) :: r
  | [] => []

def recd (rc : Bool) (cs : List Frame) : List Frame := bif rc then markRec cs else cs

/-- How a function is entered, and over what. -/
def KindOk (ρ : Rn) (pan : Option Value) (kind : CallKind) (cs : List Frame) : Prop :=
  match pan with
  | none => kind = .normal ∨ (kind = .deferred ∧ ∃ c r, cs = c :: r ∧ c.mode = .returning)
  | some v => kind = .deferred ∧ ∃ c r v', cs = c :: r ∧ c.mode = .panicking [{ v := v', recovered := false }] ∧ ren ρ v = some v'

theorem KindOk.mono {ρ ρ' : Rn} (s : Sub ρ ρ') {pan : Option Value} {kind : CallKind} {cs : List Frame} (h : KindOk ρ pan kind cs) : KindOk ρ' pan kind cs := by
  cases pan with
  | none => exact h
  | some v => obtain ⟨h1, c, r, v', h2, h3, h4⟩ := h; exact ⟨h1, c, r, v', h2, h3, ren_mono s _ _ h4⟩

/-- A frame that is about to hand its result back. -/
structure Fin (P : Program) (fr : Frame) (f : FuncId) (kind : CallKind) (w : World) (v : Value) : Prop where
  mode : fr.mode = .returning
  defers : fr.defers = []
  kind : fr.kind = kind
  fn : fr.fn = f
  res : ∃ fn, P.funcs[f]? = some fn ∧ (results fn fr.tmps).run P w = .ok v w

theorem Fin.leaving {fr : Frame} {f : FuncId} {w : World} {v : Value} (h : Fin P fr f .normal w v) : fr.leaving P w (.returned v) := by
  obtain ⟨fn, h1, h2⟩ := h.res
  exact ⟨h.mode, h.defers, h.kind, fn, by rw [h.fn]; exact h1, h2⟩

/-- What a call comes to is what the model's call comes to. -/
structure CallOk (P : Program) (E : Env) (C : CallS) : Prop where
  ret : ∀ {f args pan h v h' rc}, C (.fn f) args pan h = .ret v h' rc → ∀ {ρ w args'}, WRel ρ h w → Top ρ h → GlobOk E ρ → renL ρ args = some args' → (pan = none → rc = false) ∧
    ((∃ v', ren ρ v = some v' ∧ h' = h ∧ rc = false ∧ (callFunc f ⟨args'⟩).run P w = .ok (.value v') w) ∨
    ((callFunc f ⟨args'⟩).run P w = .ok (.enter f ⟨args'⟩) w ∧ ∀ kind cs, KindOk ρ pan kind cs → ∃ ρ' w' v' fr, Step ρ h w ρ' h' w' ∧ ren ρ' v = some v' ∧
      Steps P (lone (Frame.enter P f ⟨args'⟩ kind) cs w) (lone fr (recd rc cs) w') ∧ Fin P fr f kind w' v'))
  pan : ∀ {f args h v h'}, C (.fn f) args none h = .pan v h' → ∀ {ρ w args'}, WRel ρ h w → Top ρ h → GlobOk E ρ → renL ρ args = some args' →
    (callFunc f ⟨args'⟩).run P w = .ok (.enter f ⟨args'⟩) w ∧ ∀ cs, ∃ ρ' w' v' fr, Step ρ h w ρ' h' w' ∧ ren ρ' v = some v' ∧
      Steps P (lone (Frame.enter P f ⟨args'⟩ .normal) cs w) (lone fr cs w') ∧ fr.leaving P w' (.panicked [{ v := v', recovered := false }])
  yret : ∀ {l args h v h' rc}, C (.yield l) args none h = .ret v h' rc → ∀ {ρ w args' lw s x}, WRel ρ h w → Top ρ h → GlobOk E ρ → ρ l = some (lw, s, x) → renL ρ args = some args' →
    ∃ f tm a b, (Instr.yield lw ⟨args'⟩).run P w = .ok (.round lw f tm a b) w ∧ ∀ c cs, ∃ ρ' w' v', Step ρ h w ρ' h' w' ∧ ren ρ' v = some v' ∧
      Steps P (lone (Frame.round lw f tm a b .normal) (c :: cs) w) (lone (c.finish v') cs w')
  ypan : ∀ {l args h v h'}, C (.yield l) args none h = .pan v h' → ∀ {ρ w args' lw s x}, WRel ρ h w → Top ρ h → GlobOk E ρ → ρ l = some (lw, s, x) → renL ρ args = some args' →
    ∃ f tm a b, (Instr.yield lw ⟨args'⟩).run P w = .ok (.round lw f tm a b) w ∧ ∀ c cs, ∃ ρ' w' v', Step ρ h w ρ' h' w' ∧ ren ρ' v = some v' ∧
      Steps P (lone (Frame.round lw f tm a b .normal) (c :: cs) w) (lone (c.raise [{ v := v', recovered := false }]) cs w')

/-- What is known of calls is so. -/
def KnownOk (E : Env) (P : Program) : Prop := ∀ f v, E.known f = some v → ∀ {ρ h w}, WRel ρ h w → Top ρ h → GlobOk E ρ →
    (callFunc f #[]).run P w = .ok (.enter f #[]) w ∧ ∀ kind cs, KindOk ρ none kind cs → ∃ w' v' fr, Step ρ h w ρ h w' ∧ ren ρ v = some v' ∧
      Steps P (lone (Frame.enter P f #[] kind) cs w) (lone fr (recd false cs) w') ∧ Fin P fr f kind w' v'

def gor (fr : Frame) (cs : List Frame) : Goroutine := { frame := fr, callers := cs, status := .running, dying := none }

def notCall (fr : Frame) : Prop := (match fr.todo with | .call _ true _ _ :: _ => CallKind.wrapped | _ => .normal) = .normal

theorem apply_value {fr : Frame} {cs : List Frame} {X : Sem Next} {w w' : World} {v : Value} (h : X.run P w = .ok (.value v) w') :
    (stepG.apply P true fr cs none X w).bare = .go (gor (fr.finish v) cs) w' := by
  simp [stepG.apply, h, gor]

theorem apply_skip {fr : Frame} {cs : List Frame} {X : Sem Next} {w w' : World} (h : X.run P w = .ok .skip w') :
    (stepG.apply P true fr cs none X w).bare = .go (gor (fr.finish undef) cs) w' := by
  simp [stepG.apply, h, gor]

theorem apply_enter {fr : Frame} {cs : List Frame} {X : Sem Next} {w w' : World} {f : FuncId} {args : Array Value} (hk : notCall fr) (h : X.run P w = .ok (.enter f args) w') :
    (stepG.apply P true fr cs none X w).bare = .go (gor (Frame.enter P f args .normal) (fr :: cs)) w' := by
  unfold notCall at hk
  simp only [stepG.apply, Sem.runT_eq, h, GStep.bare_after, if_true]
  exact congrArg (fun kd => GStep.go (gor (Frame.enter P f args kd) (fr :: cs)) w') hk

theorem apply_round {fr : Frame} {cs : List Frame} {X : Sem Next} {w w' : World} {l : Nat} {f : FuncId} {tm : Array Value} {a b : Code} (h : X.run P w = .ok (.round l f tm a b) w') :
    (stepG.apply P true fr cs none X w).bare = .go (gor (Frame.round l f tm a b .normal) (fr :: cs)) w' := by
  simp [stepG.apply, h, gor]

theorem apply_defer {fr : Frame} {cs : List Frame} {X : Sem Next} {w w' : World} {d : Deferred} (h : X.run P w = .ok (.defer d) w') :
    (stepG.apply P true fr cs none X w).bare = .go (gor ({ fr with defers := d :: fr.defers }.finish undef) cs) w' := by
  simp [stepG.apply, h, gor]

theorem apply_panic {fr : Frame} {cs : List Frame} {X : Sem Next} {w w' : World} {v : Value} (h : X.run P w = .halt (.panic v) w') :
    (stepG.apply P true fr cs none X w).bare = .go (gor (fr.raise [{ v, recovered := false }]) cs) w' := by
  simp [stepG.apply, h, gor]

theorem apply_recover {fr : Frame} {cs : List Frame} {X : Sem Next} {w w' : World} (hn : fr.roundOf = none) (h : X.run P w = .ok .recover w') :
    (stepG.apply P true fr cs none X w).bare = match tryRecover fr cs with
      | some (v, cs) => .go (gor (fr.finish v) cs) w'
      | none => .go (gor (fr.finish .nilIface) cs) w' := by
  simp only [stepG.apply, Sem.runT_eq, h, GStep.bare_after, hn]
  cases tryRecover fr cs with
  | none => rfl
  | some x => rfl

theorem steps_of_bare {fr fr' : Frame} {cs cs' : List Frame} {w w' : World} (h : (stepG P true (gor fr cs) w).bare = .go (gor fr' cs') w') : Steps P (lone fr cs w) (lone fr' cs' w') :=
  .one (step_lone_go h)

/-- A call of a function value. -/
theorem call_val {C : CallS} (hC : CallOk P E C) {f : Value} {args : List Value} {s s1 : St} {v : Value} (e : callV C f args s = .val v s1) {ρ : Rn} {w : World} (hr : WRel ρ s.h w) (top : Top ρ s.h) (hg : GlobOk E ρ)
    {f' : Value} {args' : List Value} (hf : ren ρ f = some f') (ha : renL ρ args = some args') {fr0 fr : Frame} {cs : List Frame} {w0 : World} {X : Sem Next} (hk : notCall fr)
    (hX : X.run P w = (do let d ← Deferred.ofValue f' ⟨args'⟩; invoke d.target d.args : Sem Next).run P w) (hst : (stepG P true (gor fr0 cs) w0).bare = (stepG.apply P true fr cs none X w).bare) :
    s1 = { s with h := s1.h } ∧ ∃ ρ' w' v', Step ρ s.h w ρ' s1.h w' ∧ ren ρ' v = some v' ∧ Steps P (lone fr0 cs w0) (lone (fr.finish v') cs w') := by
  unfold callV at e
  split at e
  · rename_i g first cp
    split at e
    · rename_i v1 h1 rc1 hc
      cases e
      refine ⟨rfl, ?_⟩
      obtain ⟨a, ha1, b, hb1, rfl⟩ : ∃ a, renL ρ first = some a ∧ ∃ b, renL ρ cp = some b ∧ f' = .func (.func g) ⟨a⟩ ⟨b⟩ := by
        simp only [ren, renA] at hf
        cases h1 : renL ρ first with
        | none => simp [h1] at hf
        | some a => cases h2 : renL ρ cp with
          | none => simp [h1, h2] at hf
          | some b => simp [h1, h2] at hf; exact ⟨a, rfl, b, rfl, hf.symm⟩
      have hX' : X.run P w = (callFunc g ⟨a ++ args' ++ b⟩).run P w := by
        rw [hX]
        simp [Deferred.ofValue, invoke]
      obtain ⟨hrc, H⟩ := hC.ret hc hr top hg (renL_append (renL_append ha1 ha) hb1)
      cases hrc rfl
      rcases H with ⟨v', h1', h2', _, h3'⟩ | ⟨h1', H⟩
      · rw [h2']
        exact ⟨ρ, w, v', Step.refl hr, h1', steps_of_bare (by rw [hst, apply_value (hX'.trans h3')])⟩
      · obtain ⟨ρ', w', v', fr', g1, g2, g3, g4⟩ := H .normal (fr :: cs) (.inl rfl)
        exact ⟨ρ', w', v', g1, g2, (steps_of_bare (by rw [hst, apply_enter hk (hX'.trans h1')])).trans (g3.trans (.one (step_leave_returned g4.leaving)))⟩
    · cases e
    · cases e
  · rename_i l first
    split at e
    · rename_i v1 h1 rc1 hc
      cases e
      refine ⟨rfl, ?_⟩
      obtain ⟨lw, s0, x0, hl, a, ha1, rfl⟩ : ∃ lw s0 x0, ρ l = some (lw, s0, x0) ∧ ∃ a, renL ρ first = some a ∧ f' = .func (.yield lw) ⟨a⟩ ⟨[]⟩ := by
        simp only [ren, renA, renL] at hf
        cases h0 : ρ l with
        | none => simp [h0] at hf
        | some r => cases h1 : renL ρ first with
          | none => simp [h0, h1] at hf
          | some a => simp [h0, h1] at hf; exact ⟨r.1, r.2.1, r.2.2, rfl, a, rfl, hf.symm⟩
      have hX' : X.run P w = (Instr.yield lw ⟨a ++ args'⟩).run P w := by
        rw [hX]
        simp [Deferred.ofValue, invoke]
      obtain ⟨fn, tm, as, bo, h1', H⟩ := hC.yret hc hr top hg hl (renL_append ha1 ha)
      obtain ⟨ρ', w', v', g1, g2, g3⟩ := H fr cs
      exact ⟨ρ', w', v', g1, g2, (steps_of_bare (by rw [hst, apply_round (hX'.trans h1')])).trans g3⟩
    · cases e
    · cases e
  · cases e

theorem call_pan {C : CallS} (hC : CallOk P E C) {f : Value} {args : List Value} {s s1 : St} {v : Value} (e : callV C f args s = .pan v s1) {ρ : Rn} {w : World} (hr : WRel ρ s.h w) (top : Top ρ s.h) (hg : GlobOk E ρ)
    {f' : Value} {args' : List Value} (hf : ren ρ f = some f') (ha : renL ρ args = some args') {fr0 fr : Frame} {cs : List Frame} {w0 : World} {X : Sem Next} (hk : notCall fr)
    (hX : X.run P w = (do let d ← Deferred.ofValue f' ⟨args'⟩; invoke d.target d.args : Sem Next).run P w) (hst : (stepG P true (gor fr0 cs) w0).bare = (stepG.apply P true fr cs none X w).bare) :
    s1 = { s with h := s1.h } ∧ ∃ ρ' w' v', Step ρ s.h w ρ' s1.h w' ∧ ren ρ' v = some v' ∧ Steps P (lone fr0 cs w0) (lone (fr.raise [{ v := v', recovered := false }]) cs w') := by
  unfold callV at e
  split at e
  · rename_i g first cp
    split at e
    · cases e
    · rename_i v1 h1 hc
      cases e
      refine ⟨rfl, ?_⟩
      obtain ⟨a, ha1, b, hb1, rfl⟩ : ∃ a, renL ρ first = some a ∧ ∃ b, renL ρ cp = some b ∧ f' = .func (.func g) ⟨a⟩ ⟨b⟩ := by
        simp only [ren, renA] at hf
        cases h1 : renL ρ first with
        | none => simp [h1] at hf
        | some a => cases h2 : renL ρ cp with
          | none => simp [h1, h2] at hf
          | some b => simp [h1, h2] at hf; exact ⟨a, rfl, b, rfl, hf.symm⟩
      have hX' : X.run P w = (callFunc g ⟨a ++ args' ++ b⟩).run P w := by
        rw [hX]
        simp [Deferred.ofValue, invoke]
      obtain ⟨h1', H⟩ := hC.pan hc hr top hg (renL_append (renL_append ha1 ha) hb1)
      obtain ⟨ρ', w', v', fr', g1, g2, g3, g4⟩ := H (fr :: cs)
      exact ⟨ρ', w', v', g1, g2, (steps_of_bare (by rw [hst, apply_enter hk (hX'.trans h1')])).trans (g3.trans (.one (step_leave_panicked g4)))⟩
    · cases e
  · rename_i l first
    split at e
    · cases e
    · rename_i v1 h1 hc
      cases e
      refine ⟨rfl, ?_⟩
      obtain ⟨lw, s0, x0, hl, a, ha1, rfl⟩ : ∃ lw s0 x0, ρ l = some (lw, s0, x0) ∧ ∃ a, renL ρ first = some a ∧ f' = .func (.yield lw) ⟨a⟩ ⟨[]⟩ := by
        simp only [ren, renA, renL] at hf
        cases h0 : ρ l with
        | none => simp [h0] at hf
        | some r => cases h1 : renL ρ first with
          | none => simp [h0, h1] at hf
          | some a => simp [h0, h1] at hf; exact ⟨r.1, r.2.1, r.2.2, rfl, a, rfl, hf.symm⟩
      have hX' : X.run P w = (Instr.yield lw ⟨a ++ args'⟩).run P w := by
        rw [hX]
        simp [Deferred.ofValue, invoke]
      obtain ⟨fn, tm, as, bo, h1', H⟩ := hC.ypan hc hr top hg hl (renL_append ha1 ha)
      obtain ⟨ρ', w', v', g1, g2, g3⟩ := H fr cs
      exact ⟨ρ', w', v', g1, g2, (steps_of_bare (by rw [hst, apply_round (hX'.trans h1')])).trans g3⟩
    · cases e
  · cases e

end Go.Ev
end
section
/- A deterministic evaluator of the model's code over a memory of its own: one operation of a region. -/
namespace Go.Ev
variable {E : Env} {P : Program}

def DefOne (ρ : Rn) (d d' : Deferred) : Prop :=
  match d.target with
  | .fn (.func f) ⟨cp⟩ => ∃ cp' as', renL ρ cp = some cp' ∧ renL ρ d.args.toList = some as' ∧ d' = { target := .fn (.func f) ⟨cp'⟩, args := ⟨as'⟩ }
  | .collected b => ∃ c s x, ρ b = some (c, s, x) ∧ d' = { target := .collected c, args := #[] }
  | _ => False

/-- The deferred calls here and there. -/
def DefRel (ρ : Rn) : List Deferred → List Deferred → Prop
  | [], [] => True
  | d :: ds, d' :: ds' => DefOne ρ d d' ∧ DefRel ρ ds ds'
  | _, _ => False

theorem DefOne.mono {ρ ρ' : Rn} (s : Sub ρ ρ') {d d' : Deferred} (h : DefOne ρ d d') : DefOne ρ' d d' := by
  unfold DefOne at *
  split
  · rename_i f cp ht
    simp only [ht] at h
    obtain ⟨cp', as', h1, h2, h3⟩ := h
    exact ⟨cp', as', renL_mono s _ _ h1, renL_mono s _ _ h2, h3⟩
  · rename_i b ht
    simp only [ht] at h
    obtain ⟨c, s0, x, h1, h2⟩ := h
    exact ⟨c, s0, x, s _ _ h1, h2⟩
  · rename_i h1 h2
    split at h
    · rename_i f cp ht; exact h1 _ _ ht
    · rename_i b ht; exact h2 _ ht
    · exact h

theorem DefRel.mono {ρ ρ' : Rn} (s : Sub ρ ρ') : ∀ {ds ds' : List Deferred}, DefRel ρ ds ds' → DefRel ρ' ds ds'
  | [], [], _ => trivial
  | [], _ :: _, h => h
  | _ :: _, [], h => h
  | _ :: _, _ :: _, h => ⟨h.1.mono s, h.2.mono s⟩

/-- The frame below and the round in which we are. -/
def CtxOk (ρ : Rn) (c : Ctx) (b : Frame) (cs : List Frame) : Prop :=
  match c.rnd with
  | none => b.roundOf = none ∧ KindOk ρ c.pan b.kind cs
  | some l => c.pan = none ∧ b.kind = .normal ∧ ∃ lw s x, ρ l = some (lw, s, x) ∧ b.roundOf = some lw

theorem CtxOk.mono {ρ ρ' : Rn} (s : Sub ρ ρ') {c : Ctx} {b : Frame} {cs : List Frame} (h : CtxOk ρ c b cs) : CtxOk ρ' c b cs := by
  unfold CtxOk at *
  split
  · rename_i hn; simp only [hn] at h; exact ⟨h.1, h.2.mono s⟩
  · rename_i l hn; simp only [hn] at h; obtain ⟨h1, h2, lw, s0, x, h3, h4⟩ := h; exact ⟨h1, h2, lw, s0, x, s _ _ h3, h4⟩

theorem stepG_frm {b : Frame} {tm : Array Value} {ds : List Deferred} {ops : Array Oper} {i : Nat} {rest : List Nat} {k : List Item} {cs : List Frame} {w : World} {o : Oper} (ho : ops[i]? = some o)
    (hw : Region.wanted o (yielded ops tm) = true) (hd : b.roundOf = none ∨ ∀ c, o.op ≠ .defer c) :
    stepG P true (gor (frm b tm ds (.inRegion ops (i :: rest) :: k)) cs) w = stepG.apply P true (frm b tm ds (.inRegion ops (i :: rest) :: k)) cs none (execOp (evT tm) o) w := by
  have he := eval_frm b tm ds (.inRegion ops (i :: rest) :: k)
  have h1 : stepG P true (gor (frm b tm ds (.inRegion ops (i :: rest) :: k)) cs) w = stepG.oper P true (frm b tm ds (.inRegion ops (i :: rest) :: k)) cs none w := by
    simp [stepG, stepG.exec, gor, frm, ho, hw]
  rw [h1]
  unfold stepG.oper
  have h2 : (frm b tm ds (.inRegion ops (i :: rest) :: k)).oper? = some o := by simp [Frame.oper?, frm, ho]
  simp only [h2, he]
  rcases hd with hd | hd
  · have : (frm b tm ds (.inRegion ops (i :: rest) :: k)).roundOf = none := hd
    simp only [this]
  · split
    · rename_i hdef; exact absurd hdef (hd _)
    · rfl

theorem step_skipOp {b : Frame} {tm : Array Value} {ds : List Deferred} {ops : Array Oper} {i : Nat} {rest : List Nat} {k : List Item} {cs : List Frame} {w : World} {o : Oper} (ho : ops[i]? = some o)
    (hw : Region.wanted o (yielded ops tm) = false) :
    Steps P (lone (frm b tm ds (.inRegion ops (i :: rest) :: k)) cs w) (lone (frm b (putT tm o.dst undef) ds (.inRegion ops rest :: k)) cs w) := by
  have := finish_frm b tm ds ops i rest k undef
  simp only [ho, Option.bind_some] at this
  rw [← this]
  refine steps_of_bare ?_
  simp [stepG, stepG.exec, gor, frm, ho, hw]

theorem run_panicI (t : TypeId) (v : Value) (w : World) : (Instr.panic (.iface t v)).run P w = .halt (.panic (.iface t v)) w := rfl

theorem putT_frm {b : Frame} {tm : Array Value} {ds : List Deferred} {ops : Array Oper} {i : Nat} {rest : List Nat} {k : List Item} {o : Oper} (ho : ops[i]? = some o) (v : Value) :
    (frm b tm ds (.inRegion ops (i :: rest) :: k)).finish v = frm b (putT tm o.dst v) ds (.inRegion ops rest :: k) := by
  rw [finish_frm, ho]; rfl

theorem valsV_on {ρ : Rn} {r : Tr Value} {tm : Array Value} {xs : Array Operand} {l : List Operand} (h : OpOn E ρ r tm xs) (hl : ∀ x ∈ l, x ∈ xs) {vs : List Value} (e : valsV (evalO E.ng r) l = some vs) : renL ρ vs = some (l.map (evT tm)) := by
  induction l generalizing vs with
  | nil => simp [valsV] at e; subst e; simp [renL]
  | cons x l ih =>
    simp only [valsV] at e
    rw [oget_some] at e; obtain ⟨v, hv, e⟩ := e
    rw [oget_some] at e; obtain ⟨us, hus, e⟩ := e
    cases e
    exact renL_cons.2 ⟨evT tm x, l.map (evT tm), h x (hl x (by simp)) v hv, ih (fun y hy => hl y (by simp [hy])) hus, rfl⟩

theorem oOp_val {α : Type} {x : Option α} {f : α → OpR} {v : Value} {s : St} (e : oOp x f = .val v s) : ∃ a, x = some a ∧ f a = .val v s := by
  cases x with
  | none => cases e
  | some a => exact ⟨a, rfl, e⟩

theorem oOp_pan {α : Type} {x : Option α} {f : α → OpR} {v : Value} {s : St} (e : oOp x f = .pan v s) : ∃ a, x = some a ∧ f a = .pan v s := by
  cases x with
  | none => cases e
  | some a => exact ⟨a, rfl, e⟩

theorem recover_steps {ρ : Rn} {pan : Option Value} {b : Frame} {cs : List Frame} {rc : Bool} (hx : KindOk ρ pan b.kind cs) (hrc : pan = none → rc = false) {fr : Frame} (hf : fr.kind = b.kind) :
    (∃ v v', pan = some v ∧ rc = false ∧ ren ρ v = some v' ∧ tryRecover fr (recd rc cs) = some (v', recd true cs)) ∨ ((pan = none ∨ rc = true) ∧ tryRecover fr (recd rc cs) = none) := by
  unfold KindOk at hx
  cases pan with
  | none =>
    have := hrc rfl; subst this
    refine .inr ⟨.inl rfl, ?_⟩
    rcases hx with h | ⟨h, c, r, rfl, hm⟩
    · simp [tryRecover, hf, h]
    · simp [tryRecover, hf, h, recd, hm]
  | some v =>
    obtain ⟨h, c, r, v', rfl, hm, hv⟩ := hx
    cases rc with
    | false => exact .inl ⟨v, v', rfl, rfl, hv, by simp [tryRecover, hf, h, recd, markRec, hm]⟩
    | true => exact .inr ⟨.inr rfl, by simp [tryRecover, hf, h, recd, markRec, hm]⟩

/-- One operation. -/
theorem evOp_val (ok : Ok E P) {C : CallS} (hC : CallOk P E C) {c : Ctx} {b : Frame} {cs : List Frame} {o : Oper} {s s1 : St} {v : Value} (e : evOp E C c o s = .val v s1)
    {ρ : Rn} {w : World} {tm : Array Value} {ds : List Deferred} (hr : WRel ρ s.h w) (top : Top ρ s.h) (hg : GlobOk E ρ) (ho : OpOn E ρ s.r tm o.op.operands) (hd : DefRel ρ s.d ds) (hx : CtxOk ρ c b cs) (hrc : c.pan = none → s.rc = false)
    {ops : Array Oper} {i : Nat} {rest : List Nat} {k : List Item} (hi : ops[i]? = some o) (hw : Region.wanted o (yielded ops tm) = true) :
    s1.r = s.r ∧ s1.n = s.n ∧ (c.pan = none → s1.rc = false) ∧ ∃ ρ' w' v' ds', Step ρ s.h w ρ' s1.h w' ∧ ren ρ' v = some v' ∧ DefRel ρ' s1.d ds' ∧
      Steps P (lone (frm b tm ds (.inRegion ops (i :: rest) :: k)) (recd s.rc cs) w) (lone (frm b (putT tm o.dst v') ds' (.inRegion ops rest :: k)) (recd s1.rc cs) w') := by
  unfold evOp at e
  split at e
  · -- a call of a value
    rename_i f args ats hop
    obtain ⟨f1, hf1, e⟩ := oOp_val e
    obtain ⟨vs, hvs, e⟩ := oOp_val e
    have hf' := ho f (by simp [hop, Op.operands, Call.operands]) _ hf1
    have ha' := valsV_on ho (l := args.toList) (fun x hx => by simp [hop, Op.operands, Call.operands]; exact .inr (by simpa using hx)) hvs
    have hm : args.map (evT tm) = ⟨args.toList.map (evT tm)⟩ := by apply Array.ext'; simp
    have hst := stepG_frm (P := P) (b := b) (ds := ds) (rest := rest) (k := k) (cs := recd s.rc cs) (w := w) hi hw (.inr (by rw [hop]; intro c h; cases h))
    obtain ⟨h1, ρ', w', v', g1, g2, g3⟩ := call_val hC e hr top hg hf' ha' (fr := frm b tm ds (.inRegion ops (i :: rest) :: k)) (X := execOp (evT tm) o) (by rfl)
      (by simp only [execOp, hop, resolve, hm]) (congrArg GStep.bare hst)
    rw [putT_frm hi] at g3
    rw [h1]
    exact ⟨rfl, rfl, hrc, ρ', w', v', ds, g1, g2, hd.mono g1.sub, g3⟩
  · -- recover
    rename_i args ats hop
    have hst := stepG_frm (P := P) (b := b) (ds := ds) (rest := rest) (k := k) (cs := recd s.rc cs) (w := w) hi hw (.inr (by rw [hop]; intro c h; cases h))
    cases hrnd : c.rnd with
    | some l => simp [hrnd] at e
    | none =>
      simp only [hrnd] at e
      unfold CtxOk at hx
      simp only [hrnd] at hx
      have hrun : (execOp (evT tm) o).run P w = .ok .recover w := by simp [execOp, hop, resolve, invoke, builtin]
      have hap := apply_recover (P := P) (fr := frm b tm ds (.inRegion ops (i :: rest) :: k)) (cs := recd s.rc cs) hx.1 hrun
      rcases recover_steps hx.2 hrc (fr := frm b tm ds (.inRegion ops (i :: rest) :: k)) rfl with ⟨u, u', h1, h2, h3, h4⟩ | ⟨h1, h4⟩
      · simp only [h1, h2] at e
        cases e
        rw [h4] at hap
        refine ⟨rfl, rfl, fun h => (by rw [h1] at h; cases h), ρ, w, u', ds, Step.refl hr, h3, hd, ?_⟩
        rw [← putT_frm (b := b) (ds := ds) hi]
        exact steps_of_bare (by rw [hst, hap])
      · have e' : OpR.val .nilIface s = .val v s1 := by
          rw [← e]
          rcases h1 with h1 | h1
          · simp [h1]
          · rw [h1]; cases c.pan <;> rfl
        cases e'
        rw [h4] at hap
        refine ⟨rfl, rfl, hrc, ρ, w, .nilIface, ds, Step.refl hr, by simp [ren], hd, ?_⟩
        rw [← putT_frm (b := b) (ds := ds) hi]
        exact steps_of_bare (by rw [hst, hap])
  · -- panic
    obtain ⟨vs, hvs, e⟩ := oOp_val e
    split at e <;> cases e
  · obtain ⟨vs, hvs, e⟩ := oOp_val e
    split at e <;> cases e
  · -- defer
    rename_i f args ats hop
    cases hrnd : c.rnd with
    | some l => simp [hrnd] at e
    | none =>
      simp only [hrnd] at e
      unfold CtxOk at hx
      simp only [hrnd] at hx
      obtain ⟨f1, hf1, e⟩ := oOp_val e
      obtain ⟨vs, hvs, e⟩ := oOp_val e
      have key : ∃ g first cp, f1 = .func (.func g) ⟨first⟩ cp ∧ v = undef' ∧ s1 = { s with d := { target := .fn (.func g) cp, args := ⟨first ++ vs⟩ } :: s.d } := by
        cases f1 with
        | func fn first cp => cases fn with
          | func g => cases e; exact ⟨g, first.toList, cp, rfl, rfl, rfl⟩
          | _ => cases e
        | _ => cases e
      obtain ⟨g, first, cp, rfl, rfl, rfl⟩ := key
      have hf' := ho f (by simp [hop, Op.operands, Call.operands]) _ hf1
      have ha' := valsV_on ho (l := args.toList) (fun x hx => by simp [hop, Op.operands, Call.operands]; exact .inr (by simpa using hx)) hvs
      obtain ⟨cp⟩ := cp
      obtain ⟨a, ha1, bb, hb1, hfe⟩ : ∃ a, renL ρ first = some a ∧ ∃ b, renL ρ cp = some b ∧ evT tm f = .func (.func g) ⟨a⟩ ⟨b⟩ := by
        simp only [ren, renA] at hf'
        cases h1 : renL ρ first with
        | none => simp [h1] at hf'
        | some a => cases h2 : renL ρ cp with
          | none => simp [h1, h2] at hf'
          | some b => simp [h1, h2] at hf'; exact ⟨a, rfl, b, rfl, hf'.symm⟩
      have hm : args.map (evT tm) = ⟨args.toList.map (evT tm)⟩ := by apply Array.ext'; simp
      have hst := stepG_frm (P := P) (b := b) (ds := ds) (rest := rest) (k := k) (cs := recd s.rc cs) (w := w) hi hw (.inl hx.1)
      have hrun : (execOp (evT tm) o).run P w = .ok (.defer { target := .fn (.func g) ⟨bb⟩, args := ⟨a ++ args.toList.map (evT tm)⟩ }) w := by
        simp [execOp, hop, resolve, hm, hfe, Deferred.ofValue]
      refine ⟨rfl, rfl, hrc, ρ, w, undef, { target := .fn (.func g) ⟨bb⟩, args := ⟨a ++ args.toList.map (evT tm)⟩ } :: ds, Step.refl hr, ren_undef ρ, ⟨⟨bb, _, hb1, renL_append ha1 ha', rfl⟩, hd⟩, ?_⟩
      rw [← putT_frm (b := b) hi]
      refine steps_of_bare ?_
      rw [hst, apply_defer hrun]
      rfl
  · -- no call
    obtain ⟨x, hav, e⟩ := oOp_val e
    obtain ⟨u, h1⟩ := x
    cases e
    have hnd : ∀ c, o.op ≠ .defer c := by
      intro c hc
      simp [aval, hc] at hav
    have hst := stepG_frm (P := P) (b := b) (ds := ds) (rest := rest) (k := k) (cs := recd s.rc cs) (w := w) hi hw (.inr hnd)
    obtain ⟨ρ', w', v', g1, g2, g3⟩ := aval_on ok hr ho hav top
    refine ⟨rfl, rfl, hrc, ρ', w', v', ds, g1, g2, hd.mono g1.sub, ?_⟩
    rw [← putT_frm (b := b) hi]
    rcases g3 with g3 | ⟨g3, rfl⟩
    · exact steps_of_bare (by rw [hst, apply_value g3])
    · exact steps_of_bare (by rw [hst, apply_skip g3])

theorem evOp_pan {C : CallS} (hC : CallOk P E C) {c : Ctx} {b : Frame} {cs : List Frame} {o : Oper} {s s1 : St} {v : Value} (e : evOp E C c o s = .pan v s1)
    {ρ : Rn} {w : World} {tm : Array Value} {ds : List Deferred} (hr : WRel ρ s.h w) (top : Top ρ s.h) (hg : GlobOk E ρ) (ho : OpOn E ρ s.r tm o.op.operands)
    {ops : Array Oper} {i : Nat} {rest : List Nat} {k : List Item} (hi : ops[i]? = some o) (hw : Region.wanted o (yielded ops tm) = true) :
    s1 = { s with h := s1.h } ∧ ∃ ρ' w' v', Step ρ s.h w ρ' s1.h w' ∧ ren ρ' v = some v' ∧
      Steps P (lone (frm b tm ds (.inRegion ops (i :: rest) :: k)) (recd s.rc cs) w) (lone { frm b tm ds (.inRegion ops (i :: rest) :: k) with mode := .panicking [{ v := v', recovered := false }] } (recd s.rc cs) w') := by
  unfold evOp at e
  split at e
  · -- a call of a value
    rename_i f args ats hop
    obtain ⟨f1, hf1, e⟩ := oOp_pan e
    obtain ⟨vs, hvs, e⟩ := oOp_pan e
    have hf' := ho f (by simp [hop, Op.operands, Call.operands]) _ hf1
    have ha' := valsV_on ho (l := args.toList) (fun x hx => by simp [hop, Op.operands, Call.operands]; exact .inr (by simpa using hx)) hvs
    have hm : args.map (evT tm) = ⟨args.toList.map (evT tm)⟩ := by apply Array.ext'; simp
    have hst := stepG_frm (P := P) (b := b) (ds := ds) (rest := rest) (k := k) (cs := recd s.rc cs) (w := w) hi hw (.inr (by rw [hop]; intro c h; cases h))
    obtain ⟨h1, ρ', w', v', g1, g2, g3⟩ := call_pan hC e hr top hg hf' ha' (fr := frm b tm ds (.inRegion ops (i :: rest) :: k)) (X := execOp (evT tm) o) (by rfl)
      (by simp only [execOp, hop, resolve, hm]) (congrArg GStep.bare hst)
    exact ⟨h1, ρ', w', v', g1, g2, g3⟩
  · cases hrnd : c.rnd with
    | some l => simp [hrnd] at e
    | none =>
      simp only [hrnd] at e
      split at e <;> cases e
  · -- panic
    rename_i args ats hop
    obtain ⟨vs, hvs, e⟩ := oOp_pan e
    split at e
    · rename_i t u
      cases e
      have hst := stepG_frm (P := P) (b := b) (ds := ds) (rest := rest) (k := k) (cs := recd s.rc cs) (w := w) hi hw (.inr (by rw [hop]; intro c h; cases h))
      have ha' := valsV_on ho (l := args.toList) (fun x hx => by simp [hop, Op.operands, Call.operands]; simpa using hx) hvs
      obtain ⟨v', m, h1, h2, h3⟩ := renL_cons.1 ha'
      simp [renL] at h2; subst h2
      have hm : args.map (evT tm) = ⟨[v']⟩ := by apply Array.ext'; simpa using h3
      have h1' := h1
      simp only [ren, Option.map_eq_some_iff] at h1
      obtain ⟨u', hu', rfl⟩ := h1
      have hrun : (execOp (evT tm) o).run P w = .halt (.panic (.iface t u')) w := by
        simp only [execOp, hop, resolve, hm, invoke, builtin, Sem.run_bind, Sem.run_pure, Result.andThen_ok]
        rfl
      exact ⟨rfl, ρ, w, _, Step.refl hr, h1', steps_of_bare (by rw [hst, apply_panic hrun]; rfl)⟩
    · cases e
  · rename_i x hop
    obtain ⟨u, hu, e⟩ := oOp_pan e
    split at e
    · rename_i t u
      cases e
      have hst := stepG_frm (P := P) (b := b) (ds := ds) (rest := rest) (k := k) (cs := recd s.rc cs) (w := w) hi hw (.inr (by rw [hop]; intro c h; cases h))
      have h1 := ho x (by simp [hop, Op.operands]) _ hu
      have h1' := h1
      simp only [ren, Option.map_eq_some_iff] at h1
      obtain ⟨u', hu', h2⟩ := h1
      have hrun : (execOp (evT tm) o).run P w = .halt (.panic (.iface t u')) w := by
        simp only [execOp, hop, ← h2]
        rfl
      exact ⟨rfl, ρ, w, _, Step.refl hr, by rw [h1', ← h2], steps_of_bare (by rw [hst, apply_panic hrun]; rfl)⟩
    · cases e
  · cases hrnd : c.rnd with
    | some l => simp [hrnd] at e
    | none =>
      simp only [hrnd] at e
      obtain ⟨f1, hf1, e⟩ := oOp_pan e
      obtain ⟨vs, hvs, e⟩ := oOp_pan e
      split at e <;> cases e
  · obtain ⟨x, hav, e⟩ := oOp_pan e
    cases e

end Go.Ev
end
section
/- A deterministic evaluator of the model's code over a memory of its own: plain regions. -/
namespace Go.Ev
variable {E : Env} {P : Program}

/-- Where we are, here and there. -/
structure SRel (E : Env) (c : Ctx) (b : Frame) (cs : List Frame) (ρ : Rn) (s : St) (w : World) (tm : Array Value) (ds : List Deferred) : Prop where
  rel : WRel ρ s.h w
  top : Top ρ s.h
  glob : GlobOk E ρ
  regs : RegRel ρ tm s.r
  size : tm.size = s.n
  defs : DefRel ρ s.d ds
  ctx : CtxOk ρ c b cs
  rc : c.pan = none → s.rc = false

def noCall (k : List Item) : Prop := ∀ d wr r sv t, k ≠ .call d wr r sv :: t

/-- How a piece of code ends. -/
def Ends (P : Program) (E : Env) (c : Ctx) (b : Frame) (cs : List Frame) (ρ : Rn) (h : AH) (w : World) (m : Machine) (k : List Item) : Out → Prop
  | .fail => True
  | .nor s' => ∃ ρ' w' tm' ds', Step ρ h w ρ' s'.h w' ∧ SRel E c b cs ρ' s' w' tm' ds' ∧ Steps P m (lone (frm b tm' ds' k) (recd s'.rc cs) w')
  | .exit i s' => ∃ ρ' w' tm' ds' k', Step ρ h w ρ' s'.h w' ∧ SRel E c b cs ρ' s' w' tm' ds' ∧ exitTo i k' = exitTo i k ∧ Steps P m (lone (frm b tm' ds' (.code (.exit i) :: k')) (recd s'.rc cs) w')
  | .goto l s' => ∃ ρ' w' tm' ds' k', Step ρ h w ρ' s'.h w' ∧ SRel E c b cs ρ' s' w' tm' ds' ∧ gotoIn l k' = gotoIn l k ∧ Steps P m (lone (frm b tm' ds' (.code (.goto l) :: k')) (recd s'.rc cs) w')
  | .ret s' => ∃ ρ' w' tm' ds' k', Step ρ h w ρ' s'.h w' ∧ SRel E c b cs ρ' s' w' tm' ds' ∧ Steps P m (lone (frm b tm' ds' (.code .ret :: k')) (recd s'.rc cs) w')
  | .pan v s' => ∃ ρ' w' tm' ds' k' v', Step ρ h w ρ' s'.h w' ∧ SRel E c b cs ρ' s' w' tm' ds' ∧ ren ρ' v = some v' ∧ noCall k' ∧
      Steps P m (lone { frm b tm' ds' k' with mode := .panicking [{ v := v', recovered := false }] } (recd s'.rc cs) w')

theorem Ends.of_steps {c : Ctx} {b : Frame} {cs : List Frame} {ρ : Rn} {h : AH} {w : World} {m m1 : Machine} {k : List Item} {x : Out} (st : Steps P m m1) (e : Ends P E c b cs ρ h w m1 k x) : Ends P E c b cs ρ h w m k x := by
  cases x with
  | fail => trivial
  | nor s => obtain ⟨ρ', w', tm', ds', h1, h2, h3⟩ := e; exact ⟨ρ', w', tm', ds', h1, h2, st.trans h3⟩
  | exit i s => obtain ⟨ρ', w', tm', ds', k', h1, h2, h3, h4⟩ := e; exact ⟨ρ', w', tm', ds', k', h1, h2, h3, st.trans h4⟩
  | goto i s => obtain ⟨ρ', w', tm', ds', k', h1, h2, h3, h4⟩ := e; exact ⟨ρ', w', tm', ds', k', h1, h2, h3, st.trans h4⟩
  | ret s => obtain ⟨ρ', w', tm', ds', k', h1, h2, h3⟩ := e; exact ⟨ρ', w', tm', ds', k', h1, h2, st.trans h3⟩
  | pan v s => obtain ⟨ρ', w', tm', ds', k', v', h1, h2, h3, h4, h5⟩ := e; exact ⟨ρ', w', tm', ds', k', v', h1, h2, h3, h4, st.trans h5⟩

theorem Ends.of_step {c : Ctx} {b : Frame} {cs : List Frame} {ρ ρ1 : Rn} {h h1 : AH} {w w1 : World} {m : Machine} {k : List Item} {x : Out} (st : Step ρ h w ρ1 h1 w1) (e : Ends P E c b cs ρ1 h1 w1 m k x) : Ends P E c b cs ρ h w m k x := by
  cases x with
  | fail => trivial
  | nor s => obtain ⟨ρ', w', tm', ds', h1, h2, h3⟩ := e; exact ⟨ρ', w', tm', ds', st.trans h1, h2, h3⟩
  | exit i s => obtain ⟨ρ', w', tm', ds', k', h1, h2, h3, h4⟩ := e; exact ⟨ρ', w', tm', ds', k', st.trans h1, h2, h3, h4⟩
  | goto i s => obtain ⟨ρ', w', tm', ds', k', h1, h2, h3, h4⟩ := e; exact ⟨ρ', w', tm', ds', k', st.trans h1, h2, h3, h4⟩
  | ret s => obtain ⟨ρ', w', tm', ds', k', h1, h2, h3⟩ := e; exact ⟨ρ', w', tm', ds', k', st.trans h1, h2, h3⟩
  | pan v s => obtain ⟨ρ', w', tm', ds', k', v', h1, h2, h3, h4, h5⟩ := e; exact ⟨ρ', w', tm', ds', k', v', st.trans h1, h2, h3, h4, h5⟩

theorem putD_some {s s' : St} {d : Option Tmp} {v : Value} (e : putD s d v = some s') : (d = none ∧ s' = s) ∨ ∃ t, d = some t ∧ t < s.n ∧ s.n < cap ∧ s' = { s with r := s.r.put t v } := by
  unfold putD at e
  cases d with
  | none => simp at e; exact .inl ⟨rfl, e.symm⟩
  | some t =>
    simp only at e
    rw [bif_some] at e
    obtain ⟨hc, e⟩ := e
    simp only [Bool.and_eq_true] at hc
    exact .inr ⟨t, rfl, of_blt hc.1, of_blt hc.2, by cases e; rfl⟩

theorem putT_size (tm : Array Value) (d : Option Tmp) (v : Value) : (putT tm d v).size = tm.size := by
  cases d <;> simp [putT]

theorem putT_get {tm : Array Value} {d t : Tmp} {v : Value} (hd : d < tm.size) : (putT tm (some d) v)[t]? = if t = d then some v else tm[t]? := by
  by_cases e : t = d
  · subst e; simp [putT, hd]
  · simp [putT, Array.getElem?_setIfInBounds_ne (Ne.symm e), e]

theorem SRel.put {c : Ctx} {b : Frame} {cs : List Frame} {ρ : Rn} {s s' : St} {w : World} {tm : Array Value} {ds : List Deferred} (h : SRel E c b cs ρ s w tm ds) {d : Option Tmp} {v v' : Value} (hv : ren ρ v = some v') (e : putD s d v = some s') :
    SRel E c b cs ρ s' w (putT tm d v') ds ∧ s'.h = s.h ∧ s'.rc = s.rc := by
  rcases putD_some e with ⟨rfl, rfl⟩ | ⟨t, rfl, h1, h2, rfl⟩
  · exact ⟨h, rfl, rfl⟩
  · refine ⟨⟨h.rel, h.top, h.glob, fun u x hx => ?_, by rw [putT_size]; exact h.size, h.defs, h.ctx, h.rc⟩, rfl, rfl⟩
    have hx : (s.r.put t v).get u = some x := hx
    rw [Tr.get_put _ _ _ _ (Nat.lt_trans h1 h2)] at hx
    rw [putT_get (by rw [h.size]; exact h1)]
    by_cases eu : u = t
    · simp only [eu, if_true, Option.some.injEq] at hx ⊢
      subst hx
      exact ⟨v', hv, rfl⟩
    · simp only [eu, if_false] at hx ⊢
      exact h.regs u x hx

theorem oOut_ends {c : Ctx} {b : Frame} {cs : List Frame} {ρ : Rn} {h : AH} {w : World} {m : Machine} {k : List Item} {α : Type} {x : Option α} {f : α → Out} (hx : ∀ a, x = some a → Ends P E c b cs ρ h w m k (f a)) : Ends P E c b cs ρ h w m k (oOut x f) := by
  cases x with
  | none => trivial
  | some a => exact hx a rfl

theorem step_regionEnd {b : Frame} {tm : Array Value} {ds : List Deferred} {ops : Array Oper} {k : List Item} {cs : List Frame} {w : World} :
    Steps P (lone (frm b tm ds (.inRegion ops [] :: k)) cs w) (lone (frm b tm ds k) cs w) :=
  steps_of_bare (by simp [stepG, stepG.exec, gor, frm])

theorem step_regionPlain {b : Frame} {tm : Array Value} {ds : List Deferred} {ops : Array Oper} {k : List Item} {cs : List Frame} {w : World} {id : Nat} :
    Steps P (lone (frm b tm ds (.code (.region id ops false) :: k)) cs w) (lone (frm b tm ds (.inRegion ops (List.range ops.size) :: k)) cs w) :=
  steps_of_bare (by simp [stepG, stepG.exec, gor, frm])

/-- The operations in their order. -/
theorem evOps_ends (ok : Ok E P) {C : CallS} (hC : CallOk P E C) {c : Ctx} {b : Frame} {cs : List Frame} {all : Array Oper} {k : List Item} : ∀ {l : List Oper} {idx : List Nat} {s : St}, idx.map (all[·]?) = l.map some → ∀ {ρ w tm ds}, SRel E c b cs ρ s w tm ds →
    Ends P E c b cs ρ s.h w (lone (frm b tm ds (.inRegion all idx :: k)) (recd s.rc cs) w) k (evOps E C c all l s)
  | [], idx, s, hi, ρ, w, tm, ds, h => by
    have : idx = [] := by simpa using hi
    subst this
    exact ⟨ρ, w, tm, ds, Step.refl h.rel, h, step_regionEnd⟩
  | o :: l, [], s, hi, ρ, w, tm, ds, h => by simp at hi
  | o :: l, i :: idx, s, hi, ρ, w, tm, ds, h => by
    simp only [List.map_cons, List.cons.injEq] at hi
    obtain ⟨ho, hi⟩ := hi
    have looks : ∀ t ∈ o.looksAt all, ∀ v, s.r.get t = some v → ∃ v', ren ρ v = some v' ∧ tm[t]? = some v' := fun t _ v e => h.regs t v e
    unfold evOps
    split
    · trivial
    · rename_i hw
      have hw' := wantedT_rel looks hw
      refine oOut_ends fun s1 hs1 => ?_
      obtain ⟨q1, q2, q3⟩ := h.put (ren_undef ρ) hs1
      have := evOps_ends ok hC (l := l) (k := k) hi q1
      rw [q2, q3] at this
      exact .of_steps (step_skipOp ho hw') this
    · rename_i hw
      have hw' := wantedT_rel looks hw
      split
      · trivial
      · rename_i v s1 hv
        obtain ⟨g0, ρ', w', v', g1, g2, g3⟩ := evOp_pan hC hv h.rel h.top h.glob (OpOn.of_looks h.glob looks) (b := b) (cs := cs) (ds := ds) (rest := idx) (k := k) ho hw'
        have g0' : s1.rc = s.rc := by rw [g0]
        refine ⟨ρ', w', tm, ds, .inRegion all (i :: idx) :: k, v', g1, ?_, g2, (fun _ _ _ _ _ e => by cases e), by rw [g0']; exact g3⟩
        have sub := g1.sub
        exact ⟨g1.rel, g1.top h.top, h.glob.mono sub, by rw [g0]; exact h.regs.mono sub, by rw [g0]; exact h.size, by rw [g0]; exact h.defs.mono sub, h.ctx.mono sub, fun e => by rw [g0']; exact h.rc e⟩
      · rename_i v s1 hv
        obtain ⟨a1, a2, a3, ρ', w', v', ds', g1, g2, g3, g4⟩ := evOp_val ok hC hv h.rel h.top h.glob (OpOn.of_looks h.glob looks) h.defs h.ctx h.rc (rest := idx) (k := k) ho hw'
        refine oOut_ends fun s2 hs2 => ?_
        have sub := g1.sub
        have h1 : SRel E c b cs ρ' s1 w' tm ds' := ⟨g1.rel, g1.top h.top, h.glob.mono sub, by rw [a1]; exact h.regs.mono sub, by rw [a2]; exact h.size, g3, h.ctx.mono sub, a3⟩
        obtain ⟨q1, q2, q3⟩ := h1.put g2 hs2
        have := evOps_ends ok hC (l := l) (k := k) hi q1
        rw [q2, q3] at this
        exact .of_step g1 (.of_steps g4 this)

end Go.Ev
end
section
/- A deterministic evaluator of the model's code over a memory of its own: the order of a drawing region. -/
namespace Go.Ev
variable {E : Env} {P : Program}

theorem pickOp_mem {d : Nat} : ∀ {l : List PO} {x : PO}, pickOp d l = some x → x ∈ l
  | [], _, e => by simp [pickOp] at e
  | y :: l, x, e => by
    unfold pickOp at e
    rcases bif_or e with ⟨_, e⟩ | ⟨_, e⟩
    · rcases bif_or e with ⟨_, e⟩ | ⟨_, e⟩
      · split at e
        · rename_i z hz
          rcases bif_or e with ⟨_, e⟩ | ⟨_, e⟩
          · cases e; exact List.mem_cons_self
          · cases e; exact List.mem_cons_of_mem _ (pickOp_mem hz)
        · cases e; exact List.mem_cons_self
      · cases e; exact List.mem_cons_self
    · exact List.mem_cons_of_mem _ (pickOp_mem e)

theorem dropOp_mem {i : Nat} : ∀ {l : List PO} {x : PO}, x ∈ dropOp i l → x ∈ l
  | [], _, h => by simp [dropOp] at h
  | y :: l, x, h => by
    unfold dropOp at h
    cases hb : y.1.beq i with
    | true => simp only [hb, cond_true] at h; exact List.mem_cons_of_mem _ h
    | false =>
      simp only [hb, cond_false, List.mem_cons] at h
      rcases h with rfl | h
      · exact List.mem_cons_self
      · exact List.mem_cons_of_mem _ (dropOp_mem h)

theorem orderOps_mem : ∀ {n d : Nat} {l : List PO} {x : PO}, x ∈ orderOps n d l → x ∈ l
  | 0, _, _, _, h => by simp [orderOps] at h
  | n + 1, d, l, x, h => by
    unfold orderOps at h
    split at h
    · simp at h
    · rename_i y hy
      rcases List.mem_cons.1 h with rfl | h
      · exact pickOp_mem hy
      · exact dropOp_mem (orderOps_mem h)

theorem zipIx_mem : ∀ {k : Nat} {os : List Oper} {ms : List Nat} {x : PO}, x ∈ zipIx k os ms → ∃ j, x.1 = k + j ∧ os[j]? = some x.2.1 ∧ ms[j]? = some x.2.2
  | _, [], _, _, h => by simp [zipIx] at h
  | _, _ :: _, [], _, h => by simp [zipIx] at h
  | k, o :: os, m :: ms, x, h => by
    unfold zipIx at h
    rcases List.mem_cons.1 h with rfl | h
    · exact ⟨0, by simp⟩
    · obtain ⟨j, h1, h2, h3⟩ := zipIx_mem h
      exact ⟨j + 1, by omega, by simpa using h2, by simpa using h3⟩

theorem bits_sub {m d j : Nat} (h : (m &&& d).beq m = true) (hj : m.testBit j = true) : d.testBit j = true := by
  have := of_beq h
  rw [← this] at hj
  simp [Nat.testBit_and] at hj
  exact hj.2

theorem testBit_add {d i j : Nat} : (d ||| 2 ^ i).testBit j = true ↔ d.testBit j = true ∨ i = j := by
  simp [Nat.testBit_or, Nat.testBit_two_pow]

structure SeqOk (n done : Nat) (l : List PO) : Prop where
  inC : ∀ x ∈ l, ∀ j, x.2.2.testBit j = true → done.testBit j = true ∨ ∃ u ∈ l, u.1 = j
  new : ∀ x ∈ l, done.testBit x.1 = false
  fwd : l.Pairwise fun x y => x.2.2.testBit y.1 = false ∧ x.1 ≠ y.1
  self : ∀ x ∈ l, x.2.2.testBit x.1 = false
  full : ∀ j, j < n → done.testBit j = true ∨ ∃ u ∈ l, u.1 = j

theorem seqOk_spec {n : Nat} : ∀ {l : List PO} {done : Nat}, seqOk n done l = true → SeqOk n done l
  | [], done, h => by
    unfold seqOk at h
    have := of_beq h
    subst this
    exact ⟨by simp, by simp, List.Pairwise.nil, by simp, fun j hj => .inl (by simp [Nat.testBit_two_pow_sub_one, hj])⟩
  | x :: l, done, h => by
    unfold seqOk at h
    simp only [Bool.and_eq_true, Bool.not_eq_true'] at h
    obtain ⟨⟨h1, h2⟩, h3⟩ := h
    have ih := seqOk_spec h3
    have xm : ∀ j, x.2.2.testBit j = true → done.testBit j = true := fun j hj => bits_sub h2 hj
    have ext : ∀ {j}, ((done ||| 2 ^ x.1).testBit j = true ∨ ∃ u ∈ l, u.1 = j) → done.testBit j = true ∨ ∃ u ∈ x :: l, u.1 = j := fun {j} h => by
      rcases h with h | ⟨u, hu, e⟩
      · rcases testBit_add.1 h with h | h
        · exact .inl h
        · exact .inr ⟨x, List.mem_cons_self, h⟩
      · exact .inr ⟨u, List.mem_cons_of_mem _ hu, e⟩
    have notNew : ∀ y ∈ l, done.testBit y.1 = false ∧ x.1 ≠ y.1 := fun y hy => by
      have := ih.new y hy
      constructor
      · cases hb : done.testBit y.1 with
        | false => rfl
        | true => rw [testBit_add.2 (.inl hb)] at this; cases this
      · intro e
        rw [testBit_add.2 (.inr e)] at this; cases this
    refine ⟨fun y hy j hj => ?_, fun y hy => ?_, List.Pairwise.cons (fun y hy => ?_) ih.fwd, fun y hy => ?_, fun j hj => ext (ih.full j hj)⟩
    · rcases List.mem_cons.1 hy with rfl | hy
      · exact .inl (xm j hj)
      · exact ext (ih.inC y hy j hj)
    · rcases List.mem_cons.1 hy with rfl | hy
      · exact h1
      · exact (notNew y hy).1
    · refine ⟨?_, (notNew y hy).2⟩
      cases hb : x.2.2.testBit y.1 with
      | false => rfl
      | true => have := xm _ hb; rw [(notNew y hy).1] at this; cases this
    · rcases List.mem_cons.1 hy with rfl | hy
      · cases hb : y.2.2.testBit y.1 with
        | false => rfl
        | true => have := xm _ hb; rw [h1] at this; cases this
      · exact ih.self y hy

theorem orBits_spec {ms : List Nat} : ∀ {es : List Edge} {j : Nat}, (orBits ms es).testBit j = true ↔ ∃ e ∈ es, Region.binds .any e = true ∧ (e.on = j ∨ (ms.getD e.on 0).testBit j = true)
  | [], j => by simp [orBits]
  | e :: es, j => by
    unfold orBits
    rw [Nat.testBit_or, Bool.or_eq_true, orBits_spec]
    constructor
    · rintro (h | ⟨e', h1, h2⟩)
      · cases hb : Region.binds .any e with
        | false => simp [hb] at h
        | true =>
          simp only [hb, cond_true] at h
          rw [Nat.testBit_or, Bool.or_eq_true] at h
          refine ⟨e, List.mem_cons_self, hb, h.imp_left fun h => ?_⟩
          simpa [Nat.testBit_two_pow] using h
      · exact ⟨e', List.mem_cons_of_mem _ h1, h2⟩
    · rintro ⟨e', h1, h2, h3⟩
      rcases List.mem_cons.1 h1 with rfl | h1
      · left
        simp only [h2, cond_true]
        rw [Nat.testBit_or, Bool.or_eq_true]
        exact h3.imp_left fun h => by simp [Nat.testBit_two_pow, h]
      · exact .inr ⟨e', h1, h2, h3⟩

theorem pairsOk_spec {all : Array Oper} : ∀ {l : List PO}, pairsOk all l = true → l.Pairwise (fun x y => pairOk all x y = true) ∧ ∀ x ∈ l, isStrict x.2.1 = true ∨ selfOk all x.2.1 = true
  | [], _ => ⟨List.Pairwise.nil, by simp⟩
  | x :: l, h => by
    unfold pairsOk at h
    simp only [Bool.and_eq_true, Bool.or_eq_true, List.all_eq_true] at h
    obtain ⟨⟨h1, h2⟩, h3⟩ := h
    obtain ⟨g1, g2⟩ := pairsOk_spec h3
    exact ⟨List.Pairwise.cons h2 g1, fun y hy => by
      rcases List.mem_cons.1 hy with rfl | hy
      · exact h1
      · exact g2 y hy⟩

structure PlanOk (all : Array Oper) (ms : List Nat) (c : List PO) : Prop where
  mem : ∀ x ∈ c, all[x.1]? = some x.2.1 ∧ ms[x.1]? = some x.2.2
  inC : ∀ x ∈ c, ∀ j, x.2.2.testBit j = true → ∃ u ∈ c, u.1 = j
  fwd : c.Pairwise fun x y => x.2.2.testBit y.1 = false ∧ x.1 ≠ y.1
  self : ∀ x ∈ c, x.2.2.testBit x.1 = false
  full : ∀ j, j < all.size → ∃ u ∈ c, u.1 = j
  bits : ∀ x ∈ c, ∀ j, x.2.2.testBit j = true ↔ ∃ e ∈ x.2.1.after.toList, Region.binds .any e = true ∧ (e.on = j ∨ (ms.getD e.on 0).testBit j = true)
  pairs : c.Pairwise fun x y => pairOk all x y = true
  len : c.length = all.size
  selfD : ∀ x ∈ c, isStrict x.2.1 = true ∨ selfOk all x.2.1 = true

theorem plan_spec {all : Array Oper} {c : List PO} (h : plan all = some c) : ∃ ms, PlanOk all ms c := by
  unfold plan at h
  simp only at h
  rw [bif_some] at h
  obtain ⟨hc, h⟩ := h
  simp only [Bool.and_eq_true, List.all_eq_true] at hc
  obtain ⟨⟨⟨h0, h1⟩, h2⟩, h3⟩ := hc
  cases h
  have s := seqOk_spec h1
  obtain ⟨p1, p2⟩ := pairsOk_spec h2
  refine ⟨(Region.before all).toList, fun x hx => ?_, fun x hx j hj => (s.inC x hx j hj).resolve_left (by simp), s.fwd, s.self, fun j hj => (s.full j hj).resolve_left (by simp), fun x hx j => ?_, p1, of_beq h0, p2⟩
  · obtain ⟨j, e1, e2, e3⟩ := zipIx_mem (orderOps_mem hx)
    have : j = x.1 := by omega
    subst this
    exact ⟨by simpa using e2, e3⟩
  · rw [of_beq (h3 x hx).2, orBits_spec]

/-- An operation is named by its place. -/
theorem PlanOk.uniq {all : Array Oper} {ms : List Nat} {c : List PO} (p : PlanOk all ms c) {x y : PO} (hx : x ∈ c) (hy : y ∈ c) (e : x.1 = y.1) : x = y := by
  obtain ⟨a1, a2⟩ := p.mem x hx
  obtain ⟨b1, b2⟩ := p.mem y hy
  rw [e, b1] at a1
  rw [e, b2] at a2
  obtain ⟨i, o, m⟩ := x
  obtain ⟨i', o', m'⟩ := y
  simp at a1 a2 e
  subst a1; subst a2; subst e
  rfl

theorem noDst_spec {all : Array Oper} {x y : Oper} (h : noDst all x y = true) {d : Tmp} (hd : x.dst = some d) : y.dst ≠ some d ∧ d ∉ y.looksAt all := by
  unfold noDst at h
  simp only [hd, Bool.and_eq_true, Bool.not_eq_true'] at h
  obtain ⟨h1, h2⟩ := h
  refine ⟨fun e => ?_, by simpa using h2⟩
  simp only [e, Nat.beq_refl] at h1
  simp at h1

theorem selfOk_spec {all : Array Oper} {x : Oper} (h : selfOk all x = true) {d : Tmp} (hd : x.dst = some d) : d ∉ x.looksAt all := by
  unfold selfOk at h
  simpa [hd] using h

end Go.Ev
end
section
/- A deterministic evaluator of the model's code over a memory of its own: drawing regions. -/
namespace Go.Ev
variable {E : Env} {P : Program}

theorem aval_alloc0 {o : Oper} (hc : clsOf o.op = .alloc) {f : Operand → Option Value} {h h' : AH} {v : Value} (e : aval E o f h = some (v, h')) : ∃ blk, h' = h.new blk ∧ h.next < cap := by
  have hcells : ∀ {cs t v h'}, aNewCells h cs t = some (v, h') → ∃ blk, h' = h.new blk ∧ h.next < cap := fun e => by
    unfold aNewCells at e
    rw [bif_some] at e
    obtain ⟨hc, e⟩ := e
    simp only [Bool.and_eq_true] at hc
    cases e
    exact ⟨_, rfl, of_blt hc.1.2⟩
  obtain ⟨dst, op, type, pos, after, guard⟩ := o
  cases op <;> simp only [clsOf, reduceCtorEq] at hc
  case binOp op t x y yt => cases op <;> simp at hc
  case call c =>
    obtain ⟨callee, args, ats⟩ := c
    cases callee with
    | builtin b => cases b <;> simp at hc
    | value g => simp at hc
    | invoke r m => simp at hc
  case alloc t =>
    simp only [aval] at e
    unfold aAlloc at e
    rw [oget_some] at e; obtain ⟨i, hi, e⟩ := e
    rw [oget_some] at e; obtain ⟨z, hz, e⟩ := e
    exact hcells e
  case box t x =>
    simp only [aval] at e
    rw [oget_some] at e; obtain ⟨u, hu, e⟩ := e
    exact hcells e
  case buildSlice t n ps =>
    simp only [aval] at e
    rw [oget_some] at e; obtain ⟨u, hu, e⟩ := e
    unfold aBuildSlice at e
    rw [oget_some] at e; obtain ⟨i, hi, e⟩ := e
    split at e
    · rw [oget_some] at e; obtain ⟨ei, hei, e⟩ := e
      rw [oget_some] at e; obtain ⟨z, hz, e⟩ := e
      rw [bif_some] at e
      obtain ⟨hc, e⟩ := e
      rw [oget_some] at e; obtain ⟨cs, hcs, e⟩ := e
      rw [bif_some] at e
      obtain ⟨hc2, e⟩ := e
      simp only [Bool.and_eq_true] at hc2
      cases e
      exact ⟨_, rfl, of_blt hc2.1.2⟩
    · cases e
  case makeMap t r =>
    cases r with
    | some _ => simp [aval] at e
    | none =>
      simp only [aval] at e
      rw [oget_some] at e; obtain ⟨i, hi, e⟩ := e
      rw [bif_some] at e; obtain ⟨hc, e⟩ := e
      cases e
      exact ⟨_, rfl, of_blt hc⟩
  case makeSlice t l c =>
    simp only [aval] at e
    rw [oget_some] at e; obtain ⟨u, hu, e⟩ := e
    rw [oget_some] at e; obtain ⟨u2, hu2, e⟩ := e
    unfold aMakeSlice at e
    rw [oget_some] at e; obtain ⟨i, hi, e⟩ := e
    split at e
    · rw [oget_some] at e; obtain ⟨ei, hei, e⟩ := e
      rw [oget_some] at e; obtain ⟨z, hz, e⟩ := e
      rw [bif_some] at e
      obtain ⟨hcnd, e⟩ := e
      simp only [Bool.and_eq_true] at hcnd
      cases e
      exact ⟨_, rfl, of_blt hcnd.1.2⟩
    · cases e

mutual
theorem veq_eq (a b : Value) (h : veq a b = true) : a = b := by
  unfold veq at h
  split at h
  · simp at h; rw [h]
  · simp at h; rw [h.1, h.2]
  · rename_i a b
    obtain ⟨⟨a⟩⟩ := a; obtain ⟨⟨b⟩⟩ := b
    simp at h; rw [h]
  · rfl
  · simp only [Bool.and_eq_true] at h
    rw [of_beq h.1, of_beq h.2]
  · simp only [Bool.and_eq_true] at h
    rw [of_beq h.1, of_beq h.2]
  · simp only [Bool.and_eq_true] at h
    rw [of_beq h.1.1.1, of_beq h.1.1.2, of_beq h.1.2, of_beq h.2]
  · rfl
  · rw [of_beq h]
  · rfl
  · rfl
  · rename_i l l'
    rw [veqs_eq l l' h]
  · rename_i l l'
    rw [veqs_eq l l' h]
  · cases h
termination_by SizeOf.sizeOf a
theorem veqs_eq (l l' : List Value) (h : veq.veqs l l' = true) : l = l' := by
  match l, l', h with
  | [], [], _ => rfl
  | x :: l, y :: l', h =>
    simp only [veq.veqs, Bool.and_eq_true] at h
    rw [veq_eq x y h.1, veqs_eq l l' h.2]
  | [], _ :: _, h => simp [veq.veqs] at h
  | _ :: _, [], h => simp [veq.veqs] at h
termination_by SizeOf.sizeOf l
end

end Go.Ev
end
section
/- A deterministic evaluator of the model's code over a memory of its own: drawing regions, any order. -/
namespace Go.Ev
variable {E : Env} {P : Program}

theorem pairwise_or {α : Type} {R : α → α → Prop} {u v : α} : ∀ {l : List α}, l.Pairwise R → u ∈ l → v ∈ l → u ≠ v → R u v ∨ R v u
  | [], _, h, _, _ => by simp at h
  | a :: l, h, hu, hv, ne => by
    rw [List.pairwise_cons] at h
    rcases List.mem_cons.1 hu with e | hu'
    · rcases List.mem_cons.1 hv with e' | hv'
      · exact absurd (e.trans e'.symm) ne
      · exact .inl (e ▸ h.1 v hv')
    · rcases List.mem_cons.1 hv with e' | hv'
      · exact .inr (e' ▸ h.1 u hu')
      · exact pairwise_or h.2 hu' hv' ne

/-- What has been done, and what has not. -/
structure Lst (all : Array Oper) (ms : List Nat) (c : List PO) (listed : Array Bool) (L : List PO) : Prop where
  sub : L.Sublist c
  lst : ∀ x ∈ c, listed.getD x.1 true = false ↔ x ∈ L
  size : listed.size = all.size
  closed : ∀ i j, listed.getD i false = true → (ms.getD i 0).testBit j = true → listed.getD j false = true

theorem Lst.mask {all : Array Oper} {ms : List Nat} {c : List PO} {listed : Array Bool} {L : List PO} (p : PlanOk all ms c) (h : Lst all ms c listed L) {x : PO} (hx : x ∈ c) (hr : x.1 ∈ Region.ready .any all listed) {j : Nat} (hj : x.2.2.testBit j = true) : listed.getD j false = true := by
  obtain ⟨_, o, ho, hall⟩ := mem_ready.1 hr
  have := (p.mem x hx).1
  rw [ho] at this
  cases this
  obtain ⟨e, he, hb, hj⟩ := (p.bits x hx j).1 hj
  have hl := hall e (by simpa using he) hb
  rcases hj with rfl | hj
  · exact hl
  · exact h.closed _ _ hl hj

theorem Lst.next {all : Array Oper} {ms : List Nat} {c : List PO} {listed : Array Bool} {l1 l2 : List PO} {x : PO} (p : PlanOk all ms c) (h : Lst all ms c listed (l1 ++ x :: l2)) (hr : x.1 ∈ Region.ready .any all listed) :
    Lst all ms c (listed.setIfInBounds x.1 true) (l1 ++ l2) := by
  have hx : x ∈ c := h.sub.subset (by simp)
  have pw := p.fwd.sublist h.sub
  rw [List.pairwise_append, List.pairwise_cons] at pw
  obtain ⟨_, ⟨pw1, _⟩, pw2⟩ := pw
  have hlt : x.1 < listed.size := by
    obtain ⟨_, o, ho, _⟩ := mem_ready.1 hr
    rw [h.size]; exact (Array.getElem?_eq_some_iff.1 ho).1
  refine ⟨(List.Sublist.append_left (List.sublist_cons_self x l2) l1).trans h.sub, fun y hy => ?_, by simp [h.size], fun i j hi hj => ?_⟩
  · by_cases e : y.1 = x.1
    · have := p.uniq hy hx e
      subst this
      constructor
      · intro hf
        simp [hlt] at hf
      · intro hm
        rcases List.mem_append.1 hm with hm | hm
        · exact absurd rfl (pw2 y hm y List.mem_cons_self).2
        · exact absurd rfl (pw1 y hm).2
    · rw [getD_set_ne true (Ne.symm e), h.lst y hy]
      have : y ≠ x := fun e' => e (e' ▸ rfl)
      simp [this]
  · by_cases e : i = x.1
    · subst e
      refine getD_set_true (h.mask p hx hr ?_)
      have := (p.mem x hx).2
      simpa [List.getD, this] using hj
    · rw [getD_set_ne false (Ne.symm e)] at hi
      exact getD_set_true (h.closed i j hi hj)

theorem Lst.ready {all : Array Oper} {ms : List Nat} {c : List PO} {listed : Array Bool} {x : PO} {L : List PO} (p : PlanOk all ms c) (h : Lst all ms c listed (x :: L)) : x.1 ∈ Region.ready .any all listed := by
  have hx : x ∈ c := h.sub.subset List.mem_cons_self
  refine mem_ready.2 ⟨(h.lst x hx).2 List.mem_cons_self, x.2.1, (p.mem x hx).1, fun e he hb => ?_⟩
  have hbit : x.2.2.testBit e.on = true := (p.bits x hx _).2 ⟨e, by simpa using he, hb, .inl rfl⟩
  obtain ⟨u, hu, hue⟩ := p.inC x hx _ hbit
  have hlt : u.1 < listed.size := by rw [h.size]; exact (Array.getElem?_eq_some_iff.1 (p.mem u hu).1).1
  cases hl : listed.getD e.on false with
  | true => rfl
  | false =>
    exfalso
    have hl' : listed.getD u.1 true = false := by
      rw [hue]; rw [hue] at hlt
      simpa [hlt] using hl
    have hm := (h.lst u hu).1 hl'
    rcases List.mem_cons.1 hm with e' | hm
    · subst e'
      have := p.self u hu
      rw [hue, hbit] at this; cases this
    · have pw := p.fwd.sublist h.sub
      rw [List.pairwise_cons] at pw
      have := (pw.1 u hm).1
      rw [hue, hbit] at this; cases this

theorem Lst.pick {all : Array Oper} {ms : List Nat} {c : List PO} {listed : Array Bool} {L : List PO} (p : PlanOk all ms c) (h : Lst all ms c listed L) {i : Nat} (hr : i ∈ Region.ready .any all listed) : ∃ x ∈ L, x.1 = i := by
  obtain ⟨h0, o, ho, _⟩ := mem_ready.1 hr
  obtain ⟨u, hu, e⟩ := p.full i (Array.getElem?_eq_some_iff.1 ho).1
  exact ⟨u, (h.lst u hu).1 (by rw [e]; exact h0), e⟩

theorem Lst.unlisted {all : Array Oper} {ms : List Nat} {c : List PO} {listed : Array Bool} {L : List PO} (h : Lst all ms c listed L) {x : PO} (hx : x ∈ L) (hl : listed.getD x.1 false = true) : False := by
  have := (h.lst x (h.sub.subset hx)).2 hx
  rw [Array.getD_eq_getD_getElem?] at hl this
  cases hg : listed[x.1]? with
  | none => simp [hg] at hl
  | some b => simp [hg] at hl this; rw [hl] at this; cases this

/-- An operation that is done here and not yet there. -/
structure Pe where
  x : PO
  r : Tr Value
  v : Value
  w : Bool
  bk : Nat

def Pe.al (y : Pe) : Prop := y.w = true ∧ clsOf y.x.2.1.op = .alloc

def Fact (E : Env) (n0 : Nat) (ws : List Watch) (ρ : Rn) (h : AH) (y : Pe) : Prop :=
  match y.w with
  | false => y.v = undef'
  | true => match clsOf y.x.2.1.op with
    | .pure => ∀ m, aval E y.x.2.1 (evalO E.ng y.r) m = some (y.v, m)
    | .read => ∃ k ∈ ws, k.i = y.x.1 ∧ k.o = y.x.2.1 ∧ k.r = y.r ∧ k.v = y.v
    | .alloc => ∃ H blk, H.next = y.bk ∧ aval E y.x.2.1 (evalO E.ng y.r) H = some (y.v, H.new blk) ∧ h.b.get y.bk = some blk ∧ n0 ≤ y.bk ∧ y.bk < h.next ∧ ρ y.bk = none
    | .strict => False

/-- One that waits. -/
structure PeOk (E : Env) (all : Array Oper) (n0 : Nat) (ws : List Watch) (ρ : Rn) (s : St) (y : Pe) : Prop where
  want : wantedT y.x.2.1 all y.r = some y.w
  lazy : isStrict y.x.2.1 = false
  looks : ∀ t ∈ y.x.2.1.looksAt all, y.r.get t = s.r.get t
  dst : ∀ d, y.x.2.1.dst = some d → s.r.get d = some y.v ∧ d < s.n
  fact : Fact E n0 ws ρ s.h y

structure Inv (E : Env) (all : Array Oper) (ms : List Nat) (c : List PO) (cx : Ctx) (b : Frame) (cs : List Frame) (ρ0 : Rn) (h0 : AH) (w0 : World) (listed : Array Bool) (pend : List Pe) (ps : List PO) (ws : List Watch) (ρ : Rn) (s : St) (w : World) (tm : Array Value) (ds : List Deferred) : Prop where
  L : Lst all ms c listed (pend.map (·.x) ++ ps)
  step : Step ρ0 h0 w0 ρ s.h w
  top : Top ρ s.h
  glob : GlobOk E ρ
  regs : ∀ t v, s.r.get t = some v → (∀ y ∈ pend, y.x.2.1.dst ≠ some t) → ∃ v', ren ρ v = some v' ∧ tm[t]? = some v'
  size : tm.size = s.n
  defs : DefRel ρ s.d ds
  ctx : CtxOk ρ cx b cs
  rc : cx.pan = none → s.rc = false
  pe : ∀ y ∈ pend, PeOk E all h0.next ws ρ s y
  blks : ∀ y ∈ pend, ∀ z ∈ pend, y.x.1 ≠ z.x.1 → y.al → z.al → y.bk ≠ z.bk

theorem checkW_spec {h : AH} : ∀ {ws : List Watch}, checkW E h ws = true → ∀ k ∈ ws, ∃ h2, aval E k.o (evalO E.ng k.r) h = some (k.v, h2) ∧ h2.next = h.next
  | [], _, k, hk => by simp at hk
  | u :: ws, h, k, hk => by
    simp only [checkW, Bool.and_eq_true] at h
    rcases List.mem_cons.1 hk with rfl | hk
    · obtain ⟨h1, _⟩ := h
      split at h1
      · cases h1
      · rename_i x hx
        simp only [Bool.and_eq_true] at h1
        obtain ⟨v, h2⟩ := x
        exact ⟨h2, by rw [hx, ← veq_eq _ _ h1.1], of_beq h1.2⟩
    · exact checkW_spec h.2 k hk

/-- What a waiting one looks at stands there. -/
theorem Inv.looks {all : Array Oper} {ms : List Nat} {c : List PO} {cx : Ctx} {b : Frame} {cs : List Frame} {ρ0 : Rn} {h0 : AH} {w0 : World} {listed : Array Bool} {pend : List Pe} {ps : List PO} {ws : List Watch} {ρ : Rn} {s : St} {w : World} {tm : Array Value} {ds : List Deferred}
    (p : PlanOk all ms c) (I : Inv E all ms c cx b cs ρ0 h0 w0 listed pend ps ws ρ s w tm ds) {y : Pe} (hy : y ∈ pend) (hr : y.x.1 ∈ Region.ready .any all listed) :
    ∀ t ∈ y.x.2.1.looksAt all, ∀ v, y.r.get t = some v → ∃ v', ren ρ v = some v' ∧ tm[t]? = some v' := by
  intro t ht v hv
  have q := I.pe y hy
  rw [q.looks t ht] at hv
  refine I.regs t v hv fun z hz hd => ?_
  have zL : z.x ∈ pend.map (·.x) ++ ps := List.mem_append_left _ (List.mem_map_of_mem hz)
  have yL : y.x ∈ pend.map (·.x) ++ ps := List.mem_append_left _ (List.mem_map_of_mem hy)
  by_cases e : z.x = y.x
  · rw [e] at hd
    rcases p.selfD y.x (I.L.sub.subset yL) with hs | hs
    · rw [q.lazy] at hs; cases hs
    · exact selfOk_spec hs hd ht
  · have qz := (I.pe z hz).lazy
    rcases pairwise_or (p.pairs.sublist I.L.sub) zL yL e with h | h
    · unfold pairOk at h
      simp only [qz, cond_false, q.lazy, Bool.false_and, Bool.false_or, Bool.and_eq_true, Bool.or_eq_true] at h
      rcases h.2 with h | h
      · exact I.L.unlisted zL (I.L.mask p (I.L.sub.subset yL) hr h)
      · exact (noDst_spec h hd).2 ht
    · unfold pairOk at h
      simp only [qz, cond_false, q.lazy, Bool.false_and, Bool.false_or, Bool.and_eq_true, Bool.or_eq_true] at h
      exact (noDst_spec h.1 hd).2 ht

theorem Fact.mono {n0 : Nat} {ws ws' : List Watch} {ρ ρ' : Rn} {h h' : AH} {y : Pe} (f : Fact E n0 ws ρ h y) (h1 : ∀ k ∈ ws, k.i = y.x.1 → k ∈ ws') (h2 : y.al → ρ y.bk = none → y.bk < h.next → ρ' y.bk = none ∧ h'.b.get y.bk = h.b.get y.bk ∧ h.next ≤ h'.next) : Fact E n0 ws' ρ' h' y := by
  unfold Fact at *
  split
  · rename_i hw; simp only [hw] at f; exact f
  · rename_i hw
    simp only [hw] at f
    split
    · rename_i hc; simp only [hc] at f; exact f
    · rename_i hc; simp only [hc] at f
      obtain ⟨k, k1, k2, k3⟩ := f
      exact ⟨k, h1 k k1 k2, k2, k3⟩
    · rename_i hc; simp only [hc] at f
      obtain ⟨H, blk, f1, f2, f3, f4, f5, f6⟩ := f
      obtain ⟨g1, g2, g3⟩ := h2 ⟨hw, hc⟩ f6 f5
      exact ⟨H, blk, f1, f2, by rw [g2]; exact f3, f4, by omega, g1⟩
    · rename_i hc; simp only [hc] at f

/-- A waiting one is done. -/
theorem Inv.exec (ok : Ok E P) {all : Array Oper} {ms : List Nat} {c : List PO} {cx : Ctx} {b : Frame} {cs : List Frame} {ρ0 : Rn} {h0 : AH} {w0 : World} {listed : Array Bool} {l1 l2 : List Pe} {y : Pe} {ps : List PO} {ws : List Watch} {ρ : Rn} {s : St} {w : World} {tm : Array Value} {ds : List Deferred}
    (p : PlanOk all ms c) (I : Inv E all ms c cx b cs ρ0 h0 w0 listed (l1 ++ y :: l2) ps ws ρ s w tm ds) (hr : y.x.1 ∈ Region.ready .any all listed) (chk : checkW E s.h ws = true) {rest : List Nat} {k : List Item} {cs' : List Frame} :
    ∃ ρ' w' tm', Inv E all ms c cx b cs ρ0 h0 w0 (listed.setIfInBounds y.x.1 true) (l1 ++ l2) ps ws ρ' s w' tm' ds ∧
      Steps P (lone (frm b tm ds (.inRegion all (y.x.1 :: rest) :: k)) cs' w) (lone (frm b tm' ds (.inRegion all rest :: k)) cs' w') := by
  have hy : y ∈ l1 ++ y :: l2 := by simp
  have sub : ∀ z, z ∈ l1 ++ l2 → z ∈ l1 ++ y :: l2 := fun z hz => by
    rcases List.mem_append.1 hz with hz | hz <;> simp [hz]
  have looks := I.looks p hy hr
  have q := I.pe y hy
  have yc : y.x ∈ c := I.L.sub.subset (by simp)
  have ho := (p.mem y.x yc).1
  have hL : Lst all ms c (listed.setIfInBounds y.x.1 true) ((l1 ++ l2).map (·.x) ++ ps) := by
    have := I.L
    simp only [List.map_append, List.map_cons, List.append_assoc, List.cons_append] at this
    have := this.next p hr
    simpa [List.map_append] using this
  have other : ∀ z ∈ l1 ++ l2, y.x.1 ≠ z.x.1 := fun z hz e => by
    have pw := p.fwd.sublist I.L.sub
    simp only [List.map_append, List.map_cons, List.append_assoc, List.cons_append] at pw
    rw [List.pairwise_append, List.pairwise_cons] at pw
    obtain ⟨_, ⟨pw1, _⟩, pw2⟩ := pw
    rcases List.mem_append.1 hz with hz | hz
    · exact (pw2 z.x (List.mem_map_of_mem hz) y.x List.mem_cons_self).2 e.symm
    · exact (pw1 z.x (List.mem_append_left _ (List.mem_map_of_mem hz))).2 e
  -- what is left to show once the operation is done there
  have fin : ∀ ρ' w' v', Step ρ0 h0 w0 ρ' s.h w' → Top ρ' s.h → Sub ρ ρ' → ren ρ' y.v = some v' → (∀ z ∈ l1 ++ l2, z.al → ρ z.bk = none → z.bk < s.h.next → ρ' z.bk = none) →
      Inv E all ms c cx b cs ρ0 h0 w0 (listed.setIfInBounds y.x.1 true) (l1 ++ l2) ps ws ρ' s w' (putT tm y.x.2.1.dst v') ds := by
    intro ρ' w' v' g1 g2 g3 g4 g5
    refine ⟨hL, g1, g2, I.glob.mono g3, fun t v e hno => ?_, by rw [putT_size]; exact I.size, I.defs.mono g3, I.ctx.mono g3, I.rc, fun z hz => ?_, fun z hz u hu => I.blks z (sub z hz) u (sub u hu)⟩
    · by_cases hd : y.x.2.1.dst = some t
      · obtain ⟨d1, d2⟩ := q.dst t hd
        rw [d1] at e
        cases e
        refine ⟨v', g4, ?_⟩
        rw [hd, putT_get (by rw [I.size]; exact d2)]
        simp
      · obtain ⟨u, u1, u2⟩ := I.regs t v e fun z hz => by
          rcases List.mem_append.1 hz with hz | hz
          · exact hno z (List.mem_append_left _ hz)
          · rcases List.mem_cons.1 hz with rfl | hz
            · exact hd
            · exact hno z (List.mem_append_right _ hz)
        refine ⟨u, ren_mono g3 _ _ u1, ?_⟩
        cases hdd : y.x.2.1.dst with
        | none => exact u2
        | some d =>
          have hne : t ≠ d := fun e' => hd (by rw [hdd, e'])
          rw [putT_get (by rw [I.size]; exact (q.dst d hdd).2), if_neg hne]
          exact u2
    · have qz := I.pe z (sub z hz)
      exact ⟨qz.want, qz.lazy, qz.looks, qz.dst, qz.fact.mono (fun _ h _ => h) fun ha hn hl => ⟨g5 z hz ha hn hl, rfl, Nat.le_refl _⟩⟩
  have on : OpOn E ρ y.r tm y.x.2.1.op.operands := OpOn.of_looks I.glob looks
  have hnd : ∀ d, aval E y.x.2.1 (evalO E.ng y.r) s.h = some (y.v, s.h) → y.x.2.1.op ≠ .defer d := by
    intro d e hc
    simp [aval, hc] at e
  have plainRun : y.w = true → aval E y.x.2.1 (evalO E.ng y.r) s.h = some (y.v, s.h) → ∃ ρ' w' tm', Inv E all ms c cx b cs ρ0 h0 w0 (listed.setIfInBounds y.x.1 true) (l1 ++ l2) ps ws ρ' s w' tm' ds ∧
      Steps P (lone (frm b tm ds (.inRegion all (y.x.1 :: rest) :: k)) cs' w) (lone (frm b tm' ds (.inRegion all rest :: k)) cs' w') := by
    intro hw e
    have hw' := wantedT_rel looks (q.want.trans (by rw [hw]))
    obtain ⟨ρ', w', v', g1, g2, g3⟩ := aval_on ok I.step.rel on e I.top
    refine ⟨ρ', w', putT tm y.x.2.1.dst v', fin ρ' w' v' (I.step.trans g1) (g1.top I.top) g1.sub g2 (fun z _ _ hn hl => g1.dom _ hn (.inl hl)), ?_⟩
    have hst := stepG_frm (P := P) (b := b) (ds := ds) (rest := rest) (k := k) (cs := cs') (w := w) ho hw' (.inr fun d => hnd d e)
    rw [← putT_frm (b := b) ho]
    rcases g3 with g3 | ⟨g3, rfl⟩
    · exact steps_of_bare (by rw [hst, apply_value g3])
    · exact steps_of_bare (by rw [hst, apply_skip g3])
  have f := q.fact
  unfold Fact at f
  split at f
  · rename_i hw
    have hw' := wantedT_rel looks (q.want.trans (by rw [hw]))
    exact ⟨ρ, w, _, fin ρ w undef I.step I.top (Sub.refl _) (by rw [f]; exact ren_undef ρ) (fun _ _ _ h _ => h), step_skipOp ho hw'⟩
  · rename_i hw
    split at f
    · exact plainRun hw (f s.h)
    · rename_i hc
      obtain ⟨u, u1, u2, u3, u4, u5⟩ := f
      obtain ⟨h2, e1, e2⟩ := checkW_spec chk u u1
      rw [u3, u4, u5] at e1
      have := aval_read hc e1 e2
      subst this
      exact plainRun hw e1
    · rename_i hc
      obtain ⟨H, blk, f1, f2, f3, f4, f5, f6⟩ := f
      obtain ⟨fo, fo1, fo2⟩ := on.rel
      have hw' := wantedT_rel looks (q.want.trans (by rw [hw]))
      obtain ⟨blk', mk, n1, n2, n3, obj, mk', n4, n5, n6, n7, n8⟩ := aval_alloc ok hc fo1 ((fo2 H).trans f2)
      have hb : blk' = blk := by
        have g1 : (H.new blk).b.get H.next = some blk := by
          show (H.b.put H.next blk).get H.next = _
          rw [Tr.get_put _ _ _ _ n3]; simp
        have g2 : (H.new blk').b.get H.next = some blk' := by
          show (H.b.put H.next blk').get H.next = _
          rw [Tr.get_put _ _ _ _ n3]; simp
        rw [n2, g2] at g1
        cases g1; rfl
      subst hb
      have hs : ({ w with heap := w.heap.push obj } : World).heap[w.heap.size]? = some obj := by simp
      have late := I.step.late f3 f6 f4 f5 n6 (n7 _ _ hs)
      have hins : (ρ.ins y.bk (w.heap.size, 0, 0)) y.bk = some (w.heap.size, 0, 0) := by simp [Rn.ins]
      have hv : ren (ρ.ins y.bk (w.heap.size, 0, 0)) y.v = some (mk' w.heap.size) := by
        rw [n1, f1]; exact n8 _ _ _ hins
      refine ⟨_, _, _, fin _ _ _ late (fun i hi => ?_) (Rn.sub_ins f6) hv (fun z hz ha hn hl => ?_), ?_⟩
      · have : i ≠ y.bk := by omega
        simp only [Rn.ins, this, if_false]
        exact I.top i hi
      · have : z.bk ≠ y.bk := Ne.symm (I.blks y hy z (sub z hz) (other z hz) ⟨hw, hc⟩ ha)
        simp only [Rn.ins, this, if_false]
        exact hn
      · have hst := stepG_frm (P := P) (b := b) (ds := ds) (rest := rest) (k := k) (cs := cs') (w := w) ho hw' (.inr fun d hcd => by rw [hcd] at hc; simp [clsOf] at hc)
        rw [← putT_frm (b := b) ho]
        exact steps_of_bare (by rw [hst, apply_value (n4 w)])
    · exact f.elim

end Go.Ev
end
section
/- A deterministic evaluator of the model's code over a memory of its own: drawing regions come to the same in any order. -/
namespace Go.Ev
variable {E : Env} {P : Program}

section
variable {all : Array Oper} {ms : List Nat} {c : List PO} {cx : Ctx} {b : Frame} {cs : List Frame} {ρ0 : Rn} {h0 : AH} {w0 : World} {C : CallS}

theorem Fact.bk {n0 : Nat} {ws : List Watch} {ρ : Rn} {h : AH} {y : Pe} (f : Fact E n0 ws ρ h y) (ha : y.al) : y.bk < h.next := by
  unfold Fact at f
  simp only [ha.1, ha.2] at f
  obtain ⟨_, _, _, _, _, _, h, _⟩ := f
  exact h

theorem Inv.wait {listed : Array Bool} {pend : List Pe} {ps : List PO} {ws ws' : List Watch} {ρ : Rn} {s s2 : St} {h1 : AH} {w : World} {tm : Array Value} {ds : List Deferred} {y : Pe}
    (p : PlanOk all ms c) (I : Inv E all ms c cx b cs ρ0 h0 w0 listed pend (y.x :: ps) ws ρ s w tm ds) (hlazy : isStrict y.x.2.1 = false) (hr : y.r = s.r) (hput : putD { s with h := h1 } y.x.2.1.dst y.v = some s2)
    (hstep : Step ρ0 h0 w0 ρ h1 w) (htop : Top ρ h1) (hh : ∀ i, i < s.h.next → h1.b.get i = s.h.b.get i) (hn : s.h.next ≤ h1.next) (hws : ∀ k ∈ ws, k ∈ ws') (hwant : wantedT y.x.2.1 all s.r = some y.w) (hfact : Fact E h0.next ws' ρ h1 y)
    (hbk : y.al → y.bk = s.h.next) : Inv E all ms c cx b cs ρ0 h0 w0 listed (pend ++ [y]) ps ws' ρ s2 w tm ds ∧ s2.rc = s.rc := by
  have yL : y.x ∈ pend.map (·.x) ++ y.x :: ps := by simp
  have yc : y.x ∈ c := I.L.sub.subset yL
  have self := (p.selfD y.x yc).resolve_left (by rw [hlazy]; simp)
  have nod : ∀ z ∈ pend, noDst all y.x.2.1 z.x.2.1 = true := fun z hz => by
    have pw := p.pairs.sublist I.L.sub
    rw [List.pairwise_append] at pw
    have := pw.2.2 z.x (List.mem_map_of_mem hz) y.x List.mem_cons_self
    unfold pairOk at this
    simp only [(I.pe z hz).lazy, cond_false, hlazy, Bool.false_and, Bool.false_or, Bool.and_eq_true] at this
    exact this.1
  -- what stands in the registers
  have reg : s2.h = h1 ∧ s2.n = s.n ∧ s2.d = s.d ∧ s2.rc = s.rc ∧ (∀ t, y.x.2.1.dst ≠ some t → s2.r.get t = s.r.get t) ∧ (∀ d, y.x.2.1.dst = some d → s2.r.get d = some y.v ∧ d < s.n) := by
    rcases putD_some hput with ⟨hd, rfl⟩ | ⟨d, hd, h2, h3, rfl⟩
    · exact ⟨rfl, rfl, rfl, rfl, fun _ _ => rfl, fun d e => by rw [hd] at e; cases e⟩
    · refine ⟨rfl, rfl, rfl, rfl, fun t e => ?_, fun d' e => ?_⟩
      · show (s.r.put d y.v).get t = _
        rw [Tr.get_put _ _ _ _ (Nat.lt_trans h2 h3), if_neg]
        intro e'; exact e (by rw [hd, e'])
      · rw [hd] at e; cases e
        refine ⟨?_, h2⟩
        show (s.r.put d y.v).get d = _
        rw [Tr.get_put _ _ _ _ (Nat.lt_trans h2 h3)]; simp
  obtain ⟨r1, r2, r3, r4, r5, r6⟩ := reg
  refine ⟨⟨by simpa using I.L, by rw [r1]; exact hstep, by rw [r1]; exact htop, I.glob, fun t v e hno => ?_, by rw [r2]; exact I.size, by rw [r3]; exact I.defs, I.ctx, fun e => by rw [r4]; exact I.rc e, fun z hz => ?_, fun z hz u hu e1 e2 e3 => ?_⟩, r4⟩
  · have hy := hno y (by simp)
    rw [r5 t hy] at e
    exact I.regs t v e fun z hz => hno z (by simp [hz])
  · rcases List.mem_append.1 hz with hz | hz
    · have q := I.pe z hz
      refine ⟨q.want, q.lazy, fun t ht => ?_, fun d hd => ?_, ?_⟩
      · rw [r5 t fun e => (noDst_spec (nod z hz) e).2 ht]; exact q.looks t ht
      · rw [r5 d fun e => (noDst_spec (nod z hz) e).1 hd, r2]; exact q.dst d hd
      · rw [r1]
        exact q.fact.mono (fun k hk _ => hws k hk) fun _ hn' hl => ⟨hn', hh _ hl, hn⟩
    · have : z = y := by simpa using hz
      subst this
      refine ⟨by rw [hr]; exact hwant, hlazy, fun t ht => ?_, fun d hd => by rw [r2]; exact r6 d hd, by rw [r1]; exact hfact⟩
      rw [hr, r5 t fun e => selfOk_spec self e ht]
  · rcases List.mem_append.1 hz with hz' | hz'
    · rcases List.mem_append.1 hu with hu' | hu'
      · exact I.blks z hz' u hu' e1 e2 e3
      · have : u = y := by simpa using hu'
        have h1 := hbk (this ▸ e3)
        have h2 := (I.pe z hz').fact.bk e2
        rw [this]
        omega
    · have : z = y := by simpa using hz'
      rcases List.mem_append.1 hu with hu' | hu'
      · have h1 := hbk (this ▸ e2)
        have h2 := (I.pe u hu').fact.bk e3
        rw [this]
        omega
      · have h3 : u = y := by simpa using hu'
        exact absurd (by rw [this, h3]) e1

def Norm (ps : List PO) : Prop := match ps with
  | [] => True
  | p :: _ => isStrict p.2.1 = true

theorem isStrict_cls {o : Oper} (h : isStrict o = false) : clsOf o.op ≠ .strict := by
  intro e
  unfold isStrict at h
  rw [e] at h; cases h

theorem advance (p : PlanOk all ms c) {listed : Array Bool} {ρ : Rn} {w : World} {tm : Array Value} {ds : List Deferred} : ∀ {ps : List PO} {pend : List Pe} {ws : List Watch} {s : St}, Inv E all ms c cx b cs ρ0 h0 w0 listed pend ps ws ρ s w tm ds →
    evDraw E C cx all ps ws s = .fail ∨ ∃ pend' ps' ws' s', Inv E all ms c cx b cs ρ0 h0 w0 listed pend' ps' ws' ρ s' w tm ds ∧ evDraw E C cx all ps ws s = evDraw E C cx all ps' ws' s' ∧ Norm ps' ∧ pend'.length + ps'.length = pend.length + ps.length ∧ s'.rc = s.rc
  | [], pend, ws, s, I => .inr ⟨pend, [], ws, s, I, rfl, trivial, rfl, rfl⟩
  | x :: ps, pend, ws, s, I => by
    cases hst : isStrict x.2.1 with
    | true => exact .inr ⟨pend, x :: ps, ws, s, I, rfl, hst, rfl, rfl⟩
    | false =>
      -- one more that waits
      have go : ∀ (y : Pe) (ws' : List Watch) (h1 : AH), y.x = x → y.r = s.r → wantedT x.2.1 all s.r = some y.w → Step ρ0 h0 w0 ρ h1 w → Top ρ h1 → (∀ i, i < s.h.next → h1.b.get i = s.h.b.get i) → s.h.next ≤ h1.next → (∀ k ∈ ws, k ∈ ws') →
          Fact E h0.next ws' ρ h1 y → (y.al → y.bk = s.h.next) → evDraw E C cx all (x :: ps) ws s = oOut (putD { s with h := h1 } x.2.1.dst y.v) (fun s => evDraw E C cx all ps ws' s) →
          evDraw E C cx all (x :: ps) ws s = .fail ∨ ∃ pend' ps' ws' s', Inv E all ms c cx b cs ρ0 h0 w0 listed pend' ps' ws' ρ s' w tm ds ∧ evDraw E C cx all (x :: ps) ws s = evDraw E C cx all ps' ws' s' ∧ Norm ps' ∧ pend'.length + ps'.length = pend.length + (x :: ps).length ∧ s'.rc = s.rc := by
        intro y ws' h1 e1 e2 e3 e4 e5 e6 e7 e8 e9 e10 e11
        subst e1
        rw [e11]
        cases hp : putD { s with h := h1 } y.x.2.1.dst y.v with
        | none => exact .inl rfl
        | some s2 =>
          obtain ⟨I', hrc⟩ := I.wait p hst e2 hp e4 e5 e6 e7 e8 e3 e9 e10
          simp only [oOut]
          rcases advance p I' with h | ⟨pend', ps', ws2, s', q1, q2, q3, q4, q5⟩
          · exact .inl h
          · exact .inr ⟨pend', ps', ws2, s', q1, q2, q3, by rw [q4]; simp; omega, q5.trans hrc⟩
      cases hw : wantedT x.2.1 all s.r with
      | none => left; unfold evDraw; simp only [hst, hw]
      | some wd =>
        cases wd with
        | false => exact go ⟨x, s.r, undef', false, 0⟩ ws s.h rfl rfl hw I.step I.top (fun _ _ => rfl) (Nat.le_refl _) (fun _ h => h) rfl (fun h => by cases h.1) (by rw [evDraw]; simp only [hst, hw])
        | true =>
          cases ha : aval E x.2.1 (evalO E.ng s.r) s.h with
          | none => left; unfold evDraw; simp only [hst, hw, ha]
          | some r =>
            obtain ⟨v, h1⟩ := r
            cases hc : clsOf x.2.1.op with
            | strict => exact absurd hc (isStrict_cls hst)
            | pure =>
              obtain ⟨g1, g2⟩ := aval_pure hc ha
              subst g1
              exact go ⟨x, s.r, v, true, 0⟩ ws s.h rfl rfl hw I.step I.top (fun _ _ => rfl) (Nat.le_refl _) (fun _ h => h) (by unfold Fact; simp only [hc]; exact g2) (fun h => by rw [show clsOf x.2.1.op = _ from h.2] at hc; cases hc)
                (by rw [evDraw]; simp only [hst, hw, ha, hc])
            | read =>
              cases hn : h1.next.beq s.h.next with
              | false => left; unfold evDraw; simp only [hst, hw, ha, hc, hn, cond_false]
              | true =>
                exact go ⟨x, s.r, v, true, 0⟩ (⟨x.1, x.2.1, s.r, v⟩ :: ws) s.h rfl rfl hw I.step I.top (fun _ _ => rfl) (Nat.le_refl _) (fun _ h => List.mem_cons_of_mem _ h) (by unfold Fact; simp only [hc]; exact ⟨_, List.mem_cons_self, rfl, rfl, rfl, rfl⟩) (fun h => by rw [show clsOf x.2.1.op = _ from h.2] at hc; cases hc)
                  (by rw [evDraw]; simp only [hst, hw, ha, hc, hn, cond_true])
            | alloc =>
              obtain ⟨blk, g1, g2⟩ := aval_alloc0 hc ha
              subst g1
              have hg : ∀ i, (s.h.new blk).b.get i = if i = s.h.next then some blk else s.h.b.get i := fun i => Tr.get_put _ _ _ _ g2
              have hn := I.top s.h.next (Nat.le_refl _)
              refine go ⟨x, s.r, v, true, s.h.next⟩ ws (s.h.new blk) rfl rfl hw (I.step.early hn g2 blk) (fun i hi => I.top i (Nat.le_of_succ_le hi)) (fun i hi => by rw [hg, if_neg (Nat.ne_of_lt hi)]) (Nat.le_succ _) (fun _ h => h) ?_ (fun _ => rfl)
                (by rw [evDraw]; simp only [hst, hw, ha, hc])
              unfold Fact
              simp only [hc]
              exact ⟨s.h, blk, rfl, ha, by rw [hg]; simp, I.step.nxt, Nat.lt_succ_self _, hn⟩

theorem mem_moreW {m : Nat} {k : Watch} : ∀ {ws : List Watch}, k ∈ ws → m.testBit k.i = false → k ∈ moreW m ws
  | [], h, _ => by simp at h
  | u :: ws, h, hk => by
    unfold moreW
    rcases List.mem_cons.1 h with rfl | h
    · simp [hk]
    · cases m.testBit u.i with
      | true => exact mem_moreW h hk
      | false => exact List.mem_cons_of_mem _ (mem_moreW h hk)

/-- The strict one is done, here and there. -/
theorem Inv.strict {listed : Array Bool} {pend : List Pe} {x : PO} {ps : List PO} {ws : List Watch} {ρ ρ' : Rn} {s s1 s2 : St} {w w' : World} {tm : Array Value} {ds ds' : List Deferred} {v v' : Value}
    (p : PlanOk all ms c) (I : Inv E all ms c cx b cs ρ0 h0 w0 listed pend (x :: ps) ws ρ s w tm ds) (hstr : isStrict x.2.1 = true) (hr : x.1 ∈ Region.ready .any all listed) (hst : Step ρ s.h w ρ' s1.h w') (e1 : s1.r = s.r) (e2 : s1.n = s.n) (e3 : cx.pan = none → s1.rc = false)
    (hd : DefRel ρ' s1.d ds') (hv : ren ρ' v = some v') (hput : putD s1 x.2.1.dst v = some s2) :
    Inv E all ms c cx b cs ρ0 h0 w0 (listed.setIfInBounds x.1 true) pend ps (moreW x.2.2 ws) ρ' s2 w' (putT tm x.2.1.dst v') ds' ∧ s2.rc = s1.rc := by
  have xL : x ∈ pend.map (·.x) ++ x :: ps := by simp
  have xc := I.L.sub.subset xL
  have nobit : ∀ z ∈ pend, x.2.2.testBit z.x.1 = false := fun z hz => by
    cases hb : x.2.2.testBit z.x.1 with
    | false => rfl
    | true => exact (I.L.unlisted (List.mem_append_left _ (List.mem_map_of_mem hz)) (I.L.mask p xc hr hb)).elim
  have nod : ∀ z ∈ pend, noDst all x.2.1 z.x.2.1 = true := fun z hz => by
    have pw := p.pairs.sublist I.L.sub
    rw [List.pairwise_append] at pw
    have := pw.2.2 z.x (List.mem_map_of_mem hz) x List.mem_cons_self
    unfold pairOk at this
    simp only [(I.pe z hz).lazy, cond_false, nobit z hz, Bool.and_false, Bool.false_or, Bool.and_eq_true] at this
    exact this.1
  have reg : s2.h = s1.h ∧ s2.n = s.n ∧ s2.d = s1.d ∧ s2.rc = s1.rc ∧ (∀ t, x.2.1.dst ≠ some t → s2.r.get t = s.r.get t) ∧ (∀ d, x.2.1.dst = some d → s2.r.get d = some v ∧ d < s.n) := by
    rcases putD_some hput with ⟨hdd, rfl⟩ | ⟨d, hdd, h2, h3, rfl⟩
    · exact ⟨rfl, e2, rfl, rfl, fun _ _ => by rw [e1], fun d e => by rw [hdd] at e; cases e⟩
    · refine ⟨rfl, e2, rfl, rfl, fun t e => ?_, fun d' e => ?_⟩
      · show (s1.r.put d v).get t = _
        rw [Tr.get_put _ _ _ _ (Nat.lt_trans h2 h3), if_neg, e1]
        intro e'; exact e (by rw [hdd, e'])
      · rw [hdd] at e; cases e
        refine ⟨?_, by rw [← e2]; exact h2⟩
        show (s1.r.put d v).get d = _
        rw [Tr.get_put _ _ _ _ (Nat.lt_trans h2 h3)]; simp
  obtain ⟨r1, r2, r3, r4, r5, r6⟩ := reg
  have sub := hst.sub
  refine ⟨⟨I.L.next p hr, by rw [r1]; exact I.step.trans hst, by rw [r1]; exact hst.top I.top, I.glob.mono sub, fun t u e hno => ?_, by rw [putT_size, r2]; exact I.size, by rw [r3]; exact hd, I.ctx.mono sub, fun e => by rw [r4]; exact e3 e, fun z hz => ?_, I.blks⟩, r4⟩
  · by_cases hdx : x.2.1.dst = some t
    · obtain ⟨d1, d2⟩ := r6 t hdx
      rw [d1] at e; cases e
      refine ⟨v', hv, ?_⟩
      rw [hdx, putT_get (by rw [I.size]; exact d2)]; simp
    · rw [r5 t hdx] at e
      obtain ⟨u', u1, u2⟩ := I.regs t u e hno
      refine ⟨u', ren_mono sub _ _ u1, ?_⟩
      cases hdd : x.2.1.dst with
      | none => exact u2
      | some d =>
        have hne : t ≠ d := fun e' => hdx (by rw [hdd, e'])
        rw [putT_get (by rw [I.size]; exact (r6 d hdd).2), if_neg hne]
        exact u2
  · have q := I.pe z hz
    refine ⟨q.want, q.lazy, fun t ht => ?_, fun d hd => ?_, ?_⟩
    · rw [r5 t fun e => (noDst_spec (nod z hz) e).2 ht]; exact q.looks t ht
    · rw [r5 d fun e => (noDst_spec (nod z hz) e).1 hd, r2]; exact q.dst d hd
    · rw [r1]
      exact q.fact.mono (fun k hk hi => mem_moreW hk (by rw [hi]; exact nobit z hz)) fun _ hn hl => ⟨hst.dom _ hn (.inl hl), hst.same _ hn hl, hst.nxt⟩

/-- What the strict one looks at stands there. -/
theorem Inv.looksS {listed : Array Bool} {pend : List Pe} {x : PO} {ps : List PO} {ws : List Watch} {ρ : Rn} {s : St} {w : World} {tm : Array Value} {ds : List Deferred}
    (p : PlanOk all ms c) (I : Inv E all ms c cx b cs ρ0 h0 w0 listed pend (x :: ps) ws ρ s w tm ds) (hr : x.1 ∈ Region.ready .any all listed) :
    ∀ t ∈ x.2.1.looksAt all, ∀ v, s.r.get t = some v → ∃ v', ren ρ v = some v' ∧ tm[t]? = some v' := by
  intro t ht v hv
  have xL : x ∈ pend.map (·.x) ++ x :: ps := by simp
  have xc := I.L.sub.subset xL
  refine I.regs t v hv fun z hz hd => ?_
  have pw := p.pairs.sublist I.L.sub
  rw [List.pairwise_append] at pw
  have := pw.2.2 z.x (List.mem_map_of_mem hz) x List.mem_cons_self
  have nb : x.2.2.testBit z.x.1 = false := by
    cases hb : x.2.2.testBit z.x.1 with
    | false => rfl
    | true => exact (I.L.unlisted (List.mem_append_left _ (List.mem_map_of_mem hz)) (I.L.mask p xc hr hb)).elim
  unfold pairOk at this
  simp only [(I.pe z hz).lazy, cond_false, nb, Bool.and_false, Bool.false_or, Bool.and_eq_true] at this
  exact (noDst_spec this.2 hd).2 ht

theorem Tr.get_del {α : Type} : ∀ (f : Nat) (t : Tr α) (n m : Nat) (v : α), (Tr.del f t n).get m = some v → m ≠ n ∧ t.get m = some v
  | 0, t, n, m, v, h => by simp [Tr.del, Tr.get] at h
  | f + 1, .nil, n, m, v, h => by simp [Tr.del, Tr.get] at h
  | f + 1, .node u l r, n, m, v, h => by
    rw [Tr.del] at h
    by_cases hn : n = 0
    · subst hn
      simp only [Nat.beq_refl, cond_true] at h
      by_cases hm : m = 0
      · subst hm; simp [Tr.get] at h
      · have hm0 : m.beq 0 = false := beqF hm
        simp only [Tr.get, hm0, cond_false] at h ⊢
        exact ⟨hm, h⟩
    · have hn0 : n.beq 0 = false := beqF hn
      simp only [hn0, cond_false] at h
      by_cases hodd : n % 2 = 1
      · have h1 : (Nat.mod n 2).beq 1 = true := beqT hodd
        simp only [h1, cond_true, Tr.get] at h
        by_cases hm : m = 0
        · subst hm
          simp only [Nat.beq_refl, cond_true] at h
          refine ⟨fun e => hn e.symm, ?_⟩
          simp only [Tr.get, Nat.beq_refl, cond_true]; exact h
        · have hm0 : m.beq 0 = false := beqF hm
          simp only [hm0, cond_false] at h
          simp only [Tr.get, hm0, cond_false]
          cases hb : (Nat.mod m 2).beq 1 with
          | true =>
            simp only [hb, cond_true] at h ⊢
            obtain ⟨g1, g2⟩ := Tr.get_del f l (Nat.div n 2) (Nat.div m 2) v h
            exact ⟨fun e => g1 (by rw [e]), g2⟩
          | false =>
            simp only [hb, cond_false] at h ⊢
            exact ⟨fun e => absurd hb (by rw [e, h1]; simp), h⟩
      · have h1 : (Nat.mod n 2).beq 1 = false := beqF hodd
        simp only [h1, cond_false, Tr.get] at h
        by_cases hm : m = 0
        · subst hm
          simp only [Nat.beq_refl, cond_true] at h
          refine ⟨fun e => hn e.symm, ?_⟩
          simp only [Tr.get, Nat.beq_refl, cond_true]; exact h
        · have hm0 : m.beq 0 = false := beqF hm
          simp only [hm0, cond_false] at h
          simp only [Tr.get, hm0, cond_false]
          cases hb : (Nat.mod m 2).beq 1 with
          | true =>
            simp only [hb, cond_true] at h ⊢
            exact ⟨fun e => absurd hb (by rw [e, h1]; simp), h⟩
          | false =>
            simp only [hb, cond_false] at h ⊢
            obtain ⟨g1, g2⟩ := Tr.get_del f r (Nat.sub (Nat.div n 2) 1) (Nat.sub (Nat.div m 2) 1) v h
            exact ⟨fun e => g1 (by rw [e]), g2⟩

theorem dropD_spec {t : Nat} {v : Value} : ∀ {l : List Oper} {r : Tr Value}, (dropD l r).get t = some v → r.get t = some v ∧ ∀ o ∈ l, isStrict o = false → o.dst ≠ some t
  | [], r, h => ⟨h, by simp⟩
  | o :: l, r, h => by
    rw [dropD] at h
    cases hs : isStrict o with
    | true =>
      rw [hs] at h
      obtain ⟨g1, g2⟩ := dropD_spec (l := l) (r := r) h
      refine ⟨g1, fun o' ho' hs' => ?_⟩
      rcases List.mem_cons.1 ho' with e | ho'
      · rw [e, hs] at hs'; cases hs'
      · exact g2 o' ho' hs'
    | false =>
      rw [hs, cond_false] at h
      cases hd : o.dst with
      | none =>
        simp only [hd] at h
        obtain ⟨g1, g2⟩ := dropD_spec (l := l) (r := r) h
        refine ⟨g1, fun o' ho' hs' => ?_⟩
        rcases List.mem_cons.1 ho' with e | ho'
        · rw [e, hd]; simp
        · exact g2 o' ho' hs'
      | some d =>
        simp only [hd] at h
        obtain ⟨g0, h⟩ := Tr.get_del _ _ _ _ _ h
        obtain ⟨g1, g2⟩ := dropD_spec (l := l) (r := r) h
        refine ⟨g1, fun o' ho' hs' => ?_⟩
        rcases List.mem_cons.1 ho' with e | ho'
        · rw [e, hd]; intro e; cases e; exact g0 rfl
        · exact g2 o' ho' hs'

/-- A drawing region, in the order that is drawn. -/
theorem draw_go (ok : Ok E P) (hC : CallOk P E C) (p : PlanOk all ms c) {k : List Item} : ∀ (fuel t : Nat) {listed : Array Bool} {pend : List Pe} {ps : List PO} {ws : List Watch} {ρ : Rn} {s : St} {w : World} {tm : Array Value} {ds : List Deferred},
    Inv E all ms c cx b cs ρ0 h0 w0 listed pend ps ws ρ s w tm ds → Norm ps → pend.length + ps.length = fuel →
    Ends P E cx b cs ρ0 h0 w0 (lone (frm b tm ds (.inRegion all (Region.linearise.go .any all fuel t listed []) :: k)) (recd s.rc cs) w) k (evDraw E C cx all ps ws s)
  | 0, t, listed, pend, ps, ws, ρ, s, w, tm, ds, I, hn, hf => by
    have h1 : pend = [] := List.eq_nil_of_length_eq_zero (by omega)
    have h2 : ps = [] := List.eq_nil_of_length_eq_zero (by omega)
    subst h1; subst h2
    unfold evDraw
    cases checkW E s.h ws with
    | false => trivial
    | true =>
      simp only [Region.linearise.go, List.reverse_nil, cond_true]
      exact ⟨ρ, w, tm, ds, I.step, ⟨I.step.rel, I.top, I.glob, fun t v e => I.regs t v e (by simp), I.size, I.defs, I.ctx, I.rc⟩, step_regionEnd⟩
  | fuel + 1, t, listed, pend, ps, ws, ρ, s, w, tm, ds, I, hn, hf => by
    cases hchk : checkW E s.h ws with
    | false =>
      have : evDraw E C cx all ps ws s = .fail := by
        cases ps with
        | nil => unfold evDraw; simp only [hchk, cond_false]
        | cons x ps => unfold evDraw; simp only [show isStrict x.2.1 = true from hn, hchk, cond_false]
      rw [this]; trivial
    | true =>
      simp only [Region.linearise.go]
      change Ends P E cx b cs ρ0 h0 w0 (lone (frm b tm ds (.inRegion all (match (Region.ready .any all listed)[t % (Region.ready .any all listed).length]? with
        | some i => Region.linearise.go .any all fuel (t / (Region.ready .any all listed).length) (listed.setIfInBounds i true) [i]
        | none => [].reverse) :: k)) (recd s.rc cs) w) k (evDraw E C cx all ps ws s)
      cases hi : (Region.ready .any all listed)[t % (Region.ready .any all listed).length]? with
      | none =>
        exfalso
        cases hL : pend.map (·.x) ++ ps with
        | nil =>
          have h9 := congrArg List.length hL
          simp only [List.length_append, List.length_map, List.length_nil] at h9
          omega
        | cons z rest =>
          have I2 := I.L
          rw [hL] at I2
          have hz := I2.ready p
          have hlt : t % (Region.ready .any all listed).length < (Region.ready .any all listed).length := Nat.mod_lt _ (List.length_pos_of_mem hz)
          rw [List.getElem?_eq_getElem hlt] at hi
          cases hi
      | some i =>
        have hr : i ∈ Region.ready .any all listed := List.mem_of_getElem? hi
        simp only []
        rw [linearise_go_acc, List.reverse_singleton, List.singleton_append]
        obtain ⟨x, hx, rfl⟩ := I.L.pick p hr
        rcases List.mem_append.1 hx with hx' | hx'
        · -- one that waits
          obtain ⟨y, hy, rfl⟩ := List.mem_map.1 hx'
          obtain ⟨l1, l2, rfl⟩ := List.append_of_mem hy
          obtain ⟨ρ', w', tm', I', hs⟩ := I.exec ok p hr hchk (rest := Region.linearise.go .any all fuel (t / (Region.ready .any all listed).length) (listed.setIfInBounds y.x.1 true) []) (k := k) (cs' := recd s.rc cs)
          refine .of_steps hs (draw_go ok hC p fuel _ I' hn ?_)
          simp at hf ⊢; omega
        · -- the strict one
          cases ps with
          | nil => simp at hx'
          | cons x0 ps =>
            have hstr : isStrict x0.2.1 = true := hn
            have : x = x0 := by
              rcases List.mem_cons.1 hx' with e | hx2
              · exact e
              · exfalso
                have pw := p.pairs.sublist I.L.sub
                rw [List.pairwise_append, List.pairwise_cons] at pw
                have h1 := pw.2.1.1 x hx2
                unfold pairOk at h1
                simp only [hstr, cond_true] at h1
                exact I.L.unlisted (x := x0) (by simp) (I.L.mask p (I.L.sub.subset hx) hr h1)
            subst this
            have xc : x ∈ c := I.L.sub.subset hx
            have ho := (p.mem x xc).1
            have looks := I.looksS p hr
            -- on with the rest
            have on : ∀ {ρ' : Rn} {w' : World} {tm' : Array Value} {ds' : List Deferred} {s2 : St}, Inv E all ms c cx b cs ρ0 h0 w0 (listed.setIfInBounds x.1 true) pend ps (moreW x.2.2 ws) ρ' s2 w' tm' ds' →
                Ends P E cx b cs ρ0 h0 w0 (lone (frm b tm' ds' (.inRegion all (Region.linearise.go .any all fuel (t / (Region.ready .any all listed).length) (listed.setIfInBounds x.1 true) []) :: k)) (recd s2.rc cs) w') k (evDraw E C cx all ps (moreW x.2.2 ws) s2) := by
              intro ρ' w' tm' ds' s2 I'
              rcases advance p (C := C) I' with h | ⟨pend', ps', ws', s', q1, q2, q3, q4, q5⟩
              · rw [h]; trivial
              · rw [q2, ← q5]
                have h9 : pend.length + ps.length = fuel := by
                  have h8 : pend.length + (ps.length + 1) = fuel + 1 := hf
                  omega
                exact draw_go ok hC p fuel _ q1 q3 (q4.trans h9)
            unfold evDraw
            simp only [hstr, hchk, cond_true]
            cases hw : wantedT x.2.1 all s.r with
            | none => trivial
            | some wd =>
              have hw' := wantedT_rel looks hw
              cases wd with
              | false =>
                refine oOut_ends fun s2 hs2 => ?_
                obtain ⟨I', hrc⟩ := I.strict p hstr hr (Step.refl I.step.rel) rfl rfl I.rc I.defs (ren_undef ρ) hs2
                have := on I'
                rw [hrc] at this
                exact .of_steps (step_skipOp ho hw') this
              | true =>
                simp only []
                split
                · rename_i v s1 hv
                  obtain ⟨a1, a2, a3, ρ', w', v', ds', g1, g2, g3, g4⟩ := evOp_val ok hC hv I.step.rel I.top I.glob (OpOn.of_looks I.glob looks) I.defs I.ctx I.rc (rest := Region.linearise.go .any all fuel (t / (Region.ready .any all listed).length) (listed.setIfInBounds x.1 true) []) (k := k) ho hw'
                  refine oOut_ends fun s2 hs2 => ?_
                  obtain ⟨I', hrc⟩ := I.strict p hstr hr g1 a1 a2 a3 g3 g2 hs2
                  have := on I'
                  rw [hrc] at this
                  exact .of_steps g4 this
                · rename_i v s1 hv
                  obtain ⟨g0, ρ', w', v', g1, g2, g3⟩ := evOp_pan hC hv I.step.rel I.top I.glob (OpOn.of_looks I.glob looks) (b := b) (cs := cs) (ds := ds) (rest := Region.linearise.go .any all fuel (t / (Region.ready .any all listed).length) (listed.setIfInBounds x.1 true) []) (k := k) ho hw'
                  have g0' : s1.rc = s.rc := by rw [g0]
                  refine ⟨ρ', w', tm, ds, .inRegion all (x.1 :: Region.linearise.go .any all fuel (t / (Region.ready .any all listed).length) (listed.setIfInBounds x.1 true) []) :: k, v', I.step.trans g1, ?_, g2, (fun _ _ _ _ _ e => by cases e), by show Steps P _ (lone _ (recd s1.rc cs) w'); rw [g0']; exact g3⟩
                  have sub := g1.sub
                  refine ⟨g1.rel, g1.top I.top, I.glob.mono sub, fun t u e => ?_, by show tm.size = s1.n; rw [g0]; exact I.size, by show DefRel ρ' s1.d ds; rw [g0]; exact I.defs.mono sub, I.ctx.mono sub, fun e => by show s1.rc = false; rw [g0']; exact I.rc e⟩
                  have e' : (dropD all.toList s1.r).get t = some u := e
                  rw [g0] at e'
                  obtain ⟨e1, e2⟩ := dropD_spec e'
                  obtain ⟨u', u1, u2⟩ := I.regs t u e1 fun z hz => by
                    have zc : z.x ∈ c := I.L.sub.subset (List.mem_append_left _ (List.mem_map_of_mem hz))
                    have hm : z.x.2.1 ∈ all.toList := by
                      have := (p.mem z.x zc).1
                      exact Array.mem_toList_iff.2 (Array.mem_of_getElem? this)
                    exact e2 _ hm (I.pe z hz).lazy
                  exact ⟨u', ren_mono sub _ _ u1, u2⟩
                · trivial

end
end Go.Ev
end
section
/- A deterministic evaluator of the model's code over a memory of its own: code. -/
namespace Go.Ev
variable {E : Env} {P : Program}

theorem linearise_eq (all : Array Oper) (t : Nat) : Region.linearise .any all t = Region.linearise.go .any all all.size t (Array.replicate all.size false) [] := rfl

theorem step_regionDraw (ok : Ok E P) {b : Frame} {tm : Array Value} {ds : List Deferred} {ops : Array Oper} {k : List Item} {cs : List Frame} {w : World} {id : Nat} :
    Steps P (lone (frm b tm ds (.code (.region id ops true) :: k)) cs w) (lone (frm b tm ds (.inRegion ops (Region.linearise .any ops (w.tape w.drawn (.order b.fn id))) :: k)) cs { w with drawn := w.drawn + 1 }) :=
  steps_of_bare (by simp [stepG, stepG.exec, gor, frm, choose, Sem.run, Question.forced, Question.cut, Region.schedule, ok.order])

theorem draw_ends (ok : Ok E P) {C : CallS} (hC : CallOk P E C) {c : List PO} {all : Array Oper} (hp : plan all = some c) {cx : Ctx} {b : Frame} {cs : List Frame} {ρ : Rn} {s : St} {w : World} {tm : Array Value} {ds : List Deferred} (h : SRel E cx b cs ρ s w tm ds) {k : List Item} {id : Nat} :
    Ends P E cx b cs ρ s.h w (lone (frm b tm ds (.code (.region id all true) :: k)) (recd s.rc cs) w) k (evDraw E C cx all c [] s) := by
  obtain ⟨ms, p⟩ := plan_spec hp
  have hst := Step.drawn h.rel (w.drawn + 1)
  refine .of_steps (step_regionDraw ok) ?_
  have I : Inv E all ms c cx b cs ρ s.h w (Array.replicate all.size false) [] c [] ρ s { w with drawn := w.drawn + 1 } tm ds := by
    refine ⟨⟨by simp, fun x hx => ?_, by simp, fun i j hi => ?_⟩, hst, h.top, h.glob, fun t v e _ => h.regs t v e, h.size, h.defs, h.ctx, h.rc, by simp, by simp⟩
    · have hlt := (Array.getElem?_eq_some_iff.1 (p.mem x hx).1).1
      simp [hlt, hx]
    · exfalso
      rw [Array.getD_eq_getD_getElem?, Array.getElem?_replicate] at hi
      split at hi <;> simp at hi
  rw [linearise_eq]
  rcases advance p (C := C) I with e | ⟨pend', ps', ws', s', q1, q2, q3, q4, q5⟩
  · rw [e]; trivial
  · rw [q2, ← q5]
    exact draw_go ok hC p all.size _ q1 q3 (by rw [q4]; simp [p.len])

theorem Ends.passE {cx : Ctx} {b : Frame} {cs : List Frame} {ρ : Rn} {h : AH} {w : World} {m : Machine} {k k2 : List Item} {i : Nat} {s : St} (he : exitTo i k2 = exitTo i k)
    (e : Ends P E cx b cs ρ h w m k2 (.exit i s)) : Ends P E cx b cs ρ h w m k (.exit i s) :=
  let ⟨ρ', w', tm', ds', k', h1, h2, h3, h4⟩ := e; ⟨ρ', w', tm', ds', k', h1, h2, h3.trans he, h4⟩

theorem Ends.passG {cx : Ctx} {b : Frame} {cs : List Frame} {ρ : Rn} {h : AH} {w : World} {m : Machine} {k k2 : List Item} {i : Nat} {s : St} (he : gotoIn i k2 = gotoIn i k)
    (e : Ends P E cx b cs ρ h w m k2 (.goto i s)) : Ends P E cx b cs ρ h w m k (.goto i s) :=
  let ⟨ρ', w', tm', ds', k', h1, h2, h3, h4⟩ := e; ⟨ρ', w', tm', ds', k', h1, h2, h3.trans he, h4⟩

section steps
variable {b : Frame} {tm : Array Value} {ds : List Deferred} {k : List Item} {cs : List Frame} {w : World}

theorem to_skip : Steps P (lone (frm b tm ds (.code .skip :: k)) cs w) (lone (frm b tm ds k) cs w) := steps_of_bare (by simp [stepG, stepG.exec, gor, frm])
theorem to_label {l : Nat} : Steps P (lone (frm b tm ds (.code (.label l) :: k)) cs w) (lone (frm b tm ds k) cs w) := steps_of_bare (by simp [stepG, stepG.exec, gor, frm])
theorem to_inBlock {l : Nat} : Steps P (lone (frm b tm ds (.inBlock l :: k)) cs w) (lone (frm b tm ds k) cs w) := steps_of_bare (by simp [stepG, stepG.exec, gor, frm])
theorem to_inScope {c : Code} : Steps P (lone (frm b tm ds (.inScope c :: k)) cs w) (lone (frm b tm ds k) cs w) := steps_of_bare (by simp [stepG, stepG.exec, gor, frm])
theorem to_seq {x y : Code} : Steps P (lone (frm b tm ds (.code (.seq x y) :: k)) cs w) (lone (frm b tm ds (.code x :: .code y :: k)) cs w) := steps_of_bare (by simp [stepG, stepG.exec, gor, frm])
theorem to_block {id : Nat} {x : Code} : Steps P (lone (frm b tm ds (.code (.block id x) :: k)) cs w) (lone (frm b tm ds (.code x :: .inBlock id :: k)) cs w) := steps_of_bare (by simp [stepG, stepG.exec, gor, frm])
theorem to_loop {x : Code} : Steps P (lone (frm b tm ds (.code (.loop x) :: k)) cs w) (lone (frm b tm ds (.code x :: .inLoop x :: k)) cs w) := steps_of_bare (by simp [stepG, stepG.exec, gor, frm])
theorem to_inLoop {x : Code} : Steps P (lone (frm b tm ds (.inLoop x :: k)) cs w) (lone (frm b tm ds (.code x :: .inLoop x :: k)) cs w) := steps_of_bare (by simp [stepG, stepG.exec, gor, frm])
theorem to_scope {x : Code} : Steps P (lone (frm b tm ds (.code (.scope x) :: k)) cs w) (lone (frm b tm ds (.code x :: .inScope x :: k)) cs w) := steps_of_bare (by simp [stepG, stepG.exec, gor, frm])
theorem to_exit {id : Nat} {k' : List Item} (h : exitTo id k = some k') : Steps P (lone (frm b tm ds (.code (.exit id) :: k)) cs w) (lone (frm b tm ds k') cs w) := steps_of_bare (by simp [stepG, stepG.exec, gor, frm, h])
theorem to_goto {l : Nat} {k' : List Item} (h : gotoIn l k = some k') : Steps P (lone (frm b tm ds (.code (.goto l) :: k)) cs w) (lone (frm b tm ds k') cs w) := steps_of_bare (by simp [stepG, stepG.exec, gor, frm, h])
theorem to_cond {c : Operand} {x y : Code} {t : Bool} (h : evT tm c = .bool t) : Steps P (lone (frm b tm ds (.code (.cond c x y) :: k)) cs w) (lone (frm b tm ds (.code (if t then x else y) :: k)) cs w) :=
  steps_of_bare (by
    have he := congrFun (eval_frm b tm ds (.code (.cond c x y) :: k)) c
    simp only [frm] at he
    simp [stepG, stepG.exec, gor, frm, he, h])

theorem to_endRange {l : Nat} {jump : Option Code} {w' : World} (h : (Instr.endLoop l).run P w = .ok jump w') : Steps P (lone (frm b tm ds (.endRangeFunc l :: k)) cs w) (lone (frm b tm ds ((jump.map Item.code).toList ++ k)) cs w') :=
  steps_of_bare (by simp [stepG, stepG.exec, gor, frm, h])

end steps

theorem run_getLoop {w : World} {l : Nat} {r : Loop} (h : w.heap[l]? = some (.loop r)) : (Instr.getLoop l).run P w = .ok r w := by
  simp only [Instr.getLoop, Sem.run_bind, run_getObj h (by intro _ _ _ e; cases e), Result.andThen_ok, Sem.run_pure]

theorem run_setLoop {w : World} {l : Nat} {r : Loop} (h : w.heap[l]? = some (.loop r)) (o : Obj) : (setObj l o).run P w = .ok () { w with heap := w.heap.setIfInBounds l o } :=
  run_setObj h (by intro _ _ _ e; cases e)

/-- A loop's record turned. -/
theorem Step.loop {ρ : Rn} {h : AH} {w : World} (hr : WRel ρ h w) {l lw s x : Nat} (hl : ρ l = some (lw, s, x)) {st : LoopState} {pend : Option Code} {fn n : Nat} {r : Tr Value} {ps : List Tmp} {asg bo : Code} {de : Nat}
    (hb : h.b.get l = some (.loop st pend fn n r ps asg bo de)) : ∃ rec : Loop, w.heap[lw]? = some (.loop rec) ∧ rec.state = st ∧ rec.pending = pend ∧ rec.params = ⟨ps⟩ ∧ rec.assign = asg ∧ rec.body = bo ∧ rec.tmps.size = n ∧ RegRel ρ rec.tmps r ∧
      ∀ st' pend', Step ρ h w ρ (h.upd l (.loop st' pend' fn n r ps asg bo de)) { w with heap := w.heap.setIfInBounds lw (.loop { rec with state := st', pending := pend' }) } := by
  obtain ⟨tmps, fn', de', h1, h2, h3⟩ := hr.blk l _ hb lw s x hl
  refine ⟨_, h1, rfl, rfl, rfl, rfl, rfl, h2, h3, fun st' pend' => ?_⟩
  have hlt : lw < w.heap.size := (Array.getElem?_eq_some_iff.1 h1).1
  refine Step.upd hr hb rfl hl (hr.low _ _ hb) rfl ⟨tmps, fn', de', by simp [hlt], h2, h3⟩ (by simp) (fun k hk => by simp [Array.getElem?_setIfInBounds_ne (Ne.symm hk)]) rfl rfl rfl


section eqs
variable {C : CallS} {cx : Ctx} {n : Nat} {s : St}
theorem ev_seq {x y : AC} : ev E C cx (n + 1) (.seq x y) s = (match ev E C cx n x s with | .nor s => ev E C cx n y s | x => x) := rfl
theorem ev_cond {x : Operand} {t e : AC} : ev E C cx (n + 1) (.cond x t e) s = (match evalO E.ng s.r x with | some (.bool true) => ev E C cx n t s | some (.bool false) => ev E C cx n e s | _ => .fail) := rfl
theorem ev_block {id : Nat} {x : AC} : ev E C cx (n + 1) (.block id x) s = (match ev E C cx n x s with | .exit i s => bif i.beq id then .nor s else .exit i s | x => x) := rfl
theorem ev_loop {x : AC} : ev E C cx (n + 1) (.loop x) s = (match ev E C cx n x s with | .nor s => ev E C cx n (.loop x) s | x => x) := rfl
theorem ev_scope {x : Code} : ev E C cx (n + 1) (.scope x) s = (match ev E C cx n (comp x) s with | .goto l s => ev E C cx n (.scopeAt x l) s | x => x) := rfl
theorem ev_scopeAt {x : Code} {l : Nat} : ev E C cx (n + 1) (.scopeAt x l) s = (match findLabel x l with | none => .goto l s | some rest => match ev E C cx n (comp rest) s with | .goto l s => ev E C cx n (.scopeAt x l) s | x => x) := rfl
end eqs

def jumpOut (pend : Option Code) (s : St) : Out := match pend with
  | none => .nor s
  | some .ret => .ret s
  | some (.exit i) => .exit i s
  | _ => .fail

def loopOut (l : Nat) (s : St) : Out := match s.h.b.get l with
  | some (.loop st pend fn n r ps asg bo de) => match st with
    | .busy => .fail
    | _ => jumpOut pend { s with h := s.h.upd l (.loop .exhausted pend fn n r ps asg bo de) }
  | _ => .fail

theorem ev_rfunc {C : CallS} {cx : Ctx} {n : Nat} {s : St} {f : Operand} {ps : List Tmp} {asg bo : Code} : ev E C cx (n + 1) (.rfunc f ps asg bo) s = (match cx.rnd with
      | some _ => .fail
      | none => oOut (evalO E.ng s.r f) fun fv =>
        bif Nat.blt (s.h.next + 1) cap then
          match callV C fv [.func (.yield (s.h.next + 1)) ⟨[]⟩ ⟨[]⟩] { s with h := (s.h.new (.deferred (some []))).new (.loop .ready none 0 s.n s.r ps asg bo s.h.next), d := { target := .collected s.h.next, args := ⟨[]⟩ } :: s.d } with
          | .fail => .fail
          | .pan v s => .pan v s
          | .val _ s' => loopOut (s.h.next + 1) s'
        else .fail) := rfl

/-- A loop over a function begins. -/
theorem Step.enter {ρ : Rn} {h : AH} {w : World} (hr : WRel ρ h w) (top : Top ρ h) (hcap : h.next + 1 < cap) {tm : Array Value} {r : Tr Value} (hreg : RegRel ρ tm r) {n : Nat} (hn : tm.size = n) (fn : FuncId) (ps : List Tmp) (asg bo : Code) :
    ∃ ρ2, Step ρ h w ρ2 ((h.new (.deferred (some []))).new (.loop .ready none 0 n r ps asg bo h.next)) { w with heap := (w.heap.push (.deferred (some []))).push (.loop { state := .ready, pending := none, fn := fn, tmps := tm, params := ⟨ps⟩, assign := asg, body := bo, defers := w.heap.size }) } ∧
      ρ2 h.next = some (w.heap.size, 0, 0) ∧ ρ2 (h.next + 1) = some (w.heap.size + 1, 0, 0) := by
  have a1 : Step ρ h w (ρ.ins h.next (w.heap.size, 0, 0)) (h.new (.deferred (some []))) { w with heap := w.heap.push (.deferred (some [])) } :=
    Step.new hr (top _ (Nat.le_refl _)) (by omega) rfl ⟨fun _ => by simp, some [], by simp⟩ (by simp) (fun _ => Nat.le_refl _) (fun k hk => by simp [Array.getElem?_push, Nat.ne_of_lt hk]) rfl rfl rfl
  have t1 := a1.top top
  have a2 : Step (ρ.ins h.next (w.heap.size, 0, 0)) (h.new (.deferred (some []))) { w with heap := w.heap.push (.deferred (some [])) } ((ρ.ins h.next (w.heap.size, 0, 0)).ins (h.next + 1) (w.heap.size + 1, 0, 0))
      ((h.new (.deferred (some []))).new (.loop .ready none 0 n r ps asg bo h.next)) { w with heap := (w.heap.push (.deferred (some []))).push (.loop { state := .ready, pending := none, fn := fn, tmps := tm, params := ⟨ps⟩, assign := asg, body := bo, defers := w.heap.size }) } := by
    refine Step.new (h := h.new (.deferred (some []))) a1.rel (t1 _ (Nat.le_refl _)) hcap rfl ?_ (by simp) (fun _ => by simp) (fun k hk => ?_) rfl rfl rfl
    · exact ⟨tm, fn, w.heap.size, by rw [show w.heap.size + 1 = (w.heap.push (Obj.deferred (some []))).size by simp]; exact Array.getElem?_push_size, hn, hreg.mono (a1.sub.trans (Rn.sub_ins (t1 _ (Nat.le_refl _))))⟩
    · have : k ≠ w.heap.size + 1 := by simp at hk; omega
      show ((w.heap.push _).push _)[k]? = _
      rw [Array.getElem?_push, if_neg (by simpa using this)]
  exact ⟨_, a1.trans a2, by simp [Rn.ins], by simp [Rn.ins]⟩

theorem run_enterLoop {w : World} {fn : FuncId} {tm : Array Value} {ps : Array Tmp} {asg bo : Code} : (Instr.enterLoop fn tm ps asg bo none).run P w =
    .ok (w.heap.size + 1, [{ target := .collected w.heap.size, args := #[] }]) { w with heap := (w.heap.push (.deferred (some []))).push (.loop { state := .ready, pending := none, fn := fn, tmps := tm, params := ps, assign := asg, body := bo, defers := w.heap.size }) } := by
  simp only [Instr.enterLoop, Sem.run_bind, run_newObj, Result.andThen_ok, Sem.run_pure, Array.size_push]

theorem stepG_range {b : Frame} {tm : Array Value} {ds : List Deferred} {k : List Item} {cs : List Frame} {w : World} {f : Operand} {ps : Array Tmp} {asg bo : Code} (hn : b.roundOf = none) :
    (stepG P true (gor (frm b tm ds (.code (.rangeFunc f ps asg bo) :: k)) cs) w).bare =
      (stepG.apply P true (frm b tm ({ target := .collected w.heap.size, args := #[] } :: ds) (.inRangeFunc (w.heap.size + 1) :: k)) cs none
        (do let d ← Deferred.ofValue (evT tm f) #[.func (.yield (w.heap.size + 1)) #[] #[]]; invoke d.target d.args)
        { w with heap := (w.heap.push (.deferred (some []))).push (.loop { state := .ready, pending := none, fn := b.fn, tmps := tm, params := ps, assign := asg, body := bo, defers := w.heap.size }) }).bare := by
  have he := eval_frm b tm ({ target := .collected w.heap.size, args := #[] } :: ds) (.inRangeFunc (w.heap.size + 1) :: k)
  simp only [stepG, stepG.exec, gor, frm, hn, Sem.runT_eq, run_enterLoop, GStep.bare_after]
  simp only [frm, hn] at he
  simp only [List.cons_append, List.nil_append]
  congr 2
  simp only [resolve, List.map_toArray, List.map_cons, List.map_nil]
  rw [he]
  rfl

theorem jump_ends {cx : Ctx} {b : Frame} {cs : List Frame} {ρ ρ' : Rn} {h : AH} {w w3 : World} {m : Machine} {k : List Item} {pend : Option Code} {s3 : St} {tm : Array Value} {ds : List Deferred} (h1 : Step ρ h w ρ' s3.h w3) (h2 : SRel E cx b cs ρ' s3 w3 tm ds)
    (st : Steps P m (lone (frm b tm ds ((pend.map Item.code).toList ++ k)) (recd s3.rc cs) w3)) : Ends P E cx b cs ρ h w m k (jumpOut pend s3) := by
  unfold jumpOut
  split
  · exact ⟨ρ', w3, tm, ds, h1, h2, st⟩
  · exact ⟨ρ', w3, tm, ds, k, h1, h2, st⟩
  · exact ⟨ρ', w3, tm, ds, k, h1, h2, rfl, st⟩
  · trivial

theorem rfunc_ends {C : CallS} (hC : CallOk P E C) {cx : Ctx} {b : Frame} {cs : List Frame} {n : Nat} {f : Operand} {ps : Array Tmp} {asg bo : Code} {ρ : Rn} {s : St} {w : World} {tm : Array Value} {ds : List Deferred} {k : List Item} (h : SRel E cx b cs ρ s w tm ds) :
    Ends P E cx b cs ρ s.h w (lone (frm b tm ds (.code (.rangeFunc f ps asg bo) :: k)) (recd s.rc cs) w) k (ev E C cx (n + 1) (.rfunc f ps.toList asg bo) s) := by
  rw [ev_rfunc]
  cases hrnd : cx.rnd with
  | some l => trivial
  | none =>
    have hx := h.ctx
    unfold CtxOk at hx
    simp only [hrnd] at hx
    simp only []
    refine oOut_ends fun fv hfv => ?_
    cases hc : Nat.blt (s.h.next + 1) cap with
    | false => trivial
    | true =>
      have hc := of_blt hc
      simp only [cond_true]
      have hf' := evalO_rel h.glob (tm := tm) (fun t _ v e => h.regs t v e) hfv
      obtain ⟨ρ2, g1, g2, g3⟩ := Step.enter h.rel h.top hc h.regs h.size b.fn ps.toList asg bo
      have ha : renL ρ2 [.func (.yield (s.h.next + 1)) ⟨[]⟩ ⟨[]⟩] = some [.func (.yield (w.heap.size + 1)) #[] #[]] := by simp [renL, ren, renA, g3]
      have hst := stepG_range (P := P) (b := b) (tm := tm) (ds := ds) (k := k) (cs := recd s.rc cs) (w := w) (f := f) (ps := ps) (asg := asg) (bo := bo) hx.1
      have top2 := g1.top h.top
      have hd2 : DefRel ρ2 ({ target := .collected s.h.next, args := ⟨[]⟩ } :: s.d) ({ target := .collected w.heap.size, args := #[] } :: ds) := ⟨⟨w.heap.size, 0, 0, g2, rfl⟩, h.defs.mono g1.sub⟩
      split
      · trivial
      · rename_i v s' hv
        obtain ⟨q1, ρ', w', v', q2, q3, q4⟩ := call_pan hC hv g1.rel top2 (h.glob.mono g1.sub) (ren_mono g1.sub _ _ hf') ha (by rfl) (by rfl) hst
        have sub := g1.sub.trans q2.sub
        have e1 : s'.rc = s.rc := by rw [q1]
        refine ⟨ρ', w', tm, _, .inRangeFunc (w.heap.size + 1) :: k, v', g1.trans q2, ?_, q3, (fun _ _ _ _ _ e => by cases e), by rw [e1]; exact q4⟩
        exact ⟨q2.rel, q2.top top2, h.glob.mono sub, by rw [q1]; exact h.regs.mono sub, by rw [q1]; exact h.size, by rw [q1]; exact hd2.mono q2.sub, h.ctx.mono sub, by rw [e1]; exact h.rc⟩
      · rename_i v s' hv
        obtain ⟨q1, ρ', w', v', q2, q3, q4⟩ := call_val hC hv g1.rel top2 (h.glob.mono g1.sub) (ren_mono g1.sub _ _ hf') ha (by rfl) (by rfl) hst
        have sub := g1.sub.trans q2.sub
        have e1 : s'.rc = s.rc := by rw [q1]
        have q4 : Steps P _ (lone (frm b tm ({ target := .collected w.heap.size, args := #[] } :: ds) (.endRangeFunc (w.heap.size + 1) :: k)) (recd s.rc cs) w') := q4
        unfold loopOut
        split
        · rename_i st pend fn n' r ps' asg' bo' de hb
          have hl := q2.sub _ _ g3
          obtain ⟨rec, r1, r2, r3, r4, r5, r6, r7, r8, r9⟩ := Step.loop q2.rel hl hb
          have r9' := r9 .exhausted pend
          have hsr : SRel E cx b cs ρ' { s' with h := s'.h.upd (s.h.next + 1) (.loop .exhausted pend fn n' r ps' asg' bo' de) } { w' with heap := w'.heap.setIfInBounds (w.heap.size + 1) (.loop { rec with state := .exhausted, pending := pend }) } tm ({ target := .collected w.heap.size, args := #[] } :: ds) :=
            ⟨r9'.rel, r9'.top (q2.top top2), h.glob.mono sub, by rw [q1]; exact h.regs.mono sub, by rw [q1]; exact h.size, by rw [q1]; exact hd2.mono q2.sub, h.ctx.mono sub, by rw [q1]; exact h.rc⟩
          have hend : st ≠ .busy → (Instr.endLoop (w.heap.size + 1)).run P w' = .ok pend { w' with heap := w'.heap.setIfInBounds (w.heap.size + 1) (.loop { rec with state := .exhausted, pending := pend }) } := fun hst => by
            have hsb : (rec.state == .busy) = false := by rw [r2]; cases st <;> first | rfl | exact absurd rfl hst
            simp only [Instr.endLoop, Sem.run_bind, run_getLoop r1, Result.andThen_ok, hsb, Bool.false_eq_true, if_false, run_setLoop r1, Sem.run_pure, r3]
          have goal : st ≠ .busy → Ends P E cx b cs ρ s.h w (lone (frm b tm ds (.code (.rangeFunc f ps asg bo) :: k)) (recd s.rc cs) w) k (jumpOut pend { s' with h := s'.h.upd (s.h.next + 1) (.loop .exhausted pend fn n' r ps' asg' bo' de) }) := fun hbu => by
            have st1 := q4.trans (to_endRange (hend hbu))
            refine jump_ends ((g1.trans q2).trans r9') hsr ?_
            show Steps P _ (lone _ (recd s'.rc cs) _)
            rw [e1]
            exact st1
          cases st with
          | busy => trivial
          | ready => exact goal (by simp)
          | done => exact goal (by simp)
          | exhausted => exact goal (by simp)
        · trivial

/-- A piece of code, or a loop that goes on. -/
def Entry (code : Code) (k : List Item) (T : List Item) : Prop := T = .code code :: k ∨ ∃ a, code = .loop a ∧ T = .inLoop a :: k

theorem Entry.one {code : Code} {k T : List Item} (h : Entry code k T) (hn : ∀ a, code ≠ .loop a) : T = .code code :: k := by
  rcases h with h | ⟨a, h, _⟩
  · exact h
  · exact absurd h (hn a)

theorem ev_ends (ok : Ok E P) {C : CallS} (hC : CallOk P E C) {cx : Ctx} {b : Frame} {cs : List Frame} : ∀ (n : Nat),
    (∀ (code : Code) {ρ s w tm ds k T}, Entry code k T → SRel E cx b cs ρ s w tm ds → Ends P E cx b cs ρ s.h w (lone (frm b tm ds T) (recd s.rc cs) w) k (ev E C cx n (comp code) s)) ∧
    (∀ (body : Code) (l : Nat) {ρ s w tm ds k k'}, gotoIn l k' = gotoIn l (.inScope body :: k) → SRel E cx b cs ρ s w tm ds → Ends P E cx b cs ρ s.h w (lone (frm b tm ds (.code (.goto l) :: k')) (recd s.rc cs) w) k (ev E C cx n (.scopeAt body l) s))
  | 0 => ⟨fun _ _ _ _ _ _ _ _ _ _ => by unfold ev; trivial, fun _ _ _ _ _ _ _ _ _ _ _ => by unfold ev; trivial⟩
  | n + 1 => by
    obtain ⟨ih, ihs⟩ := ev_ends ok hC (cx := cx) (b := b) (cs := cs) n
    -- a scope's body, and what follows
    have scp : ∀ (body rest : Code) {ρ s w tm ds k}, SRel E cx b cs ρ s w tm ds → Ends P E cx b cs ρ s.h w (lone (frm b tm ds (.code rest :: .inScope body :: k)) (recd s.rc cs) w) k
        (match ev E C cx n (comp rest) s with | .goto l s => ev E C cx n (.scopeAt body l) s | x => x) := by
      intro body rest ρ s w tm ds k h
      have h1 := ih rest (k := .inScope body :: k) (.inl rfl) h
      cases hx : ev E C cx n (comp rest) s with
      | fail => trivial
      | nor s' =>
        rw [hx] at h1
        obtain ⟨ρ', w', tm', ds', g1, g2, g3⟩ := h1
        exact ⟨ρ', w', tm', ds', g1, g2, g3.trans to_inScope⟩
      | exit i s' => rw [hx] at h1; exact h1.passE (by simp [exitTo])
      | goto l s' =>
        rw [hx] at h1
        obtain ⟨ρ', w', tm', ds', k', g1, g2, g3, g4⟩ := h1
        exact .of_step g1 (.of_steps g4 (ihs body l g3 g2))
      | ret s' => rw [hx] at h1; exact h1
      | pan v s' => rw [hx] at h1; exact h1
    refine ⟨fun code {ρ s w tm ds k T} hT h => ?_, fun body l {ρ s w tm ds k k'} hg h => ?_⟩
    · cases code with
      | skip => rw [hT.one (by simp)]; unfold comp ev; exact ⟨ρ, w, tm, ds, Step.refl h.rel, h, to_skip⟩
      | label l => rw [hT.one (by simp)]; unfold comp ev; exact ⟨ρ, w, tm, ds, Step.refl h.rel, h, to_label⟩
      | region id ops draw =>
        rw [hT.one (by simp)]
        cases draw with
        | false =>
          simp only [comp, cond_false]; unfold ev
          exact .of_steps step_regionPlain (evOps_ends ok hC (by apply List.ext_getElem <;> simp) h)
        | true =>
          simp only [comp, cond_true]
          cases hp : plan ops with
          | none => unfold ev; trivial
          | some c => unfold ev; exact draw_ends ok hC hp h
      | seq x y =>
        rw [hT.one (by simp)]
        rw [comp, ev_seq]
        refine .of_steps to_seq ?_
        have h1 := ih x (k := .code y :: k) (.inl rfl) h
        cases hx : ev E C cx n (comp x) s with
        | fail => trivial
        | nor s' =>
          rw [hx] at h1
          obtain ⟨ρ', w', tm', ds', g1, g2, g3⟩ := h1
          exact .of_step g1 (.of_steps g3 (ih y (.inl rfl) g2))
        | exit i s' => rw [hx] at h1; exact h1.passE (by simp [exitTo])
        | goto i s' => rw [hx] at h1; exact h1.passG (by simp [gotoIn])
        | ret s' => rw [hx] at h1; exact h1
        | pan v s' => rw [hx] at h1; exact h1
      | cond x y z =>
        rw [hT.one (by simp)]
        rw [comp, ev_cond]
        split
        · rename_i hx
          have := evalO_rel h.glob (tm := tm) (fun t _ v e => h.regs t v e) hx
          simp [ren] at this
          exact .of_steps (to_cond this.symm) (ih y (.inl rfl) h)
        · rename_i hx
          have := evalO_rel h.glob (tm := tm) (fun t _ v e => h.regs t v e) hx
          simp [ren] at this
          exact .of_steps (to_cond this.symm) (ih z (.inl rfl) h)
        · trivial
      | block id x =>
        rw [hT.one (by simp)]
        rw [comp, ev_block]
        refine .of_steps to_block ?_
        have h1 := ih x (k := .inBlock id :: k) (.inl rfl) h
        cases hx : ev E C cx n (comp x) s with
        | fail => trivial
        | nor s' =>
          rw [hx] at h1
          obtain ⟨ρ', w', tm', ds', g1, g2, g3⟩ := h1
          exact ⟨ρ', w', tm', ds', g1, g2, g3.trans to_inBlock⟩
        | exit i s' =>
          rw [hx] at h1
          simp only []
          cases hi : i.beq id with
          | true =>
            obtain ⟨ρ', w', tm', ds', k', g1, g2, g3, g4⟩ := h1
            have := of_beq hi
            subst this
            exact ⟨ρ', w', tm', ds', g1, g2, g4.trans (to_exit (g3.trans (by simp [exitTo])))⟩
          | false =>
            obtain ⟨ρ', w', tm', ds', k', g1, g2, g3, g4⟩ := h1
            refine ⟨ρ', w', tm', ds', k', g1, g2, g3.trans ?_, g4⟩
            have : (id == i) = false := by simpa using Ne.symm (of_beqF hi)
            simp [exitTo, this]
        | goto i s' => rw [hx] at h1; exact h1.passG (by simp [gotoIn])
        | ret s' => rw [hx] at h1; exact h1
        | pan v s' => rw [hx] at h1; exact h1
      | loop x =>
        have hT' : Steps P (lone (frm b tm ds T) (recd s.rc cs) w) (lone (frm b tm ds (.code x :: .inLoop x :: k)) (recd s.rc cs) w) := by
          rcases hT with rfl | ⟨a, ha, rfl⟩
          · exact to_loop
          · cases ha; exact to_inLoop
        rw [comp, ev_loop]
        refine .of_steps hT' ?_
        have h1 := ih x (k := .inLoop x :: k) (.inl rfl) h
        cases hx : ev E C cx n (comp x) s with
        | fail => trivial
        | nor s' =>
          rw [hx] at h1
          obtain ⟨ρ', w', tm', ds', g1, g2, g3⟩ := h1
          exact .of_step g1 (.of_steps g3 (ih (.loop x) (.inr ⟨x, rfl, rfl⟩) g2))
        | exit i s' => rw [hx] at h1; exact h1.passE (by simp [exitTo])
        | goto i s' => rw [hx] at h1; exact h1.passG (by simp [gotoIn])
        | ret s' => rw [hx] at h1; exact h1
        | pan v s' => rw [hx] at h1; exact h1
      | scope x =>
        rw [hT.one (by simp)]
        rw [comp, ev_scope]
        exact .of_steps to_scope (scp x x h)
      | exit i => rw [hT.one (by simp)]; unfold comp ev; exact ⟨ρ, w, tm, ds, k, Step.refl h.rel, h, rfl, .refl _ _⟩
      | goto l => rw [hT.one (by simp)]; unfold comp ev; exact ⟨ρ, w, tm, ds, k, Step.refl h.rel, h, rfl, .refl _ _⟩
      | ret => rw [hT.one (by simp)]; unfold comp ev; exact ⟨ρ, w, tm, ds, k, Step.refl h.rel, h, .refl _ _⟩
      | rangeFunc f ps asg bo => rw [hT.one (by simp)]; exact rfunc_ends hC h
      | _ => unfold comp ev; trivial
    · rw [ev_scopeAt]
      split
      · rename_i hf
        exact ⟨ρ, w, tm, ds, k', Step.refl h.rel, h, hg.trans (by simp [gotoIn, hf]), .refl _ _⟩
      · rename_i rest hf
        exact .of_steps (to_goto (hg.trans (by simp [gotoIn, hf]))) (scp body rest h)

end Go.Ev
end
