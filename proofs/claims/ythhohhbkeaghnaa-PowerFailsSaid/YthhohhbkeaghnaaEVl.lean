/- A deterministic evaluator of the model's code over a memory of its own: maps, builtins, assertions. -/
import Derived.Test.YthhohhbkeaghnaaEVk
set_option linter.unusedSimpArgs false
set_option linter.unusedVariables false
set_option linter.unusedSectionVars false
namespace Go.Ev
variable {E : Env} {P : Program}

/-! ### Maps -/
theorem plainKey_ren {ρ : Rn} {k : Value} (h : plainKey k = true) : ren ρ k = some k := by
  cases k <;> simp [plainKey] at h <;> simp [ren]

theorem plainKeys_ren {ρ : Rn} : ∀ {l : List Value}, l.all plainKey = true → renL ρ l = some l
  | [], _ => by simp [renL]
  | k :: l, h => by
    simp at h
    exact renL_cons.2 ⟨k, l, plainKey_ren h.1, plainKeys_ren (by simpa using h.2), rfl⟩

theorem sameNow_of {u : TypeDesc} {x y : Value} {b : Bool} (e : sameN u x y = some b) : Instr.sameNow u x y = some b := by
  unfold sameN at e
  split at e
  · rw [bif_some] at e
    obtain ⟨hk, e⟩ := e
    have hk := of_decide_eq_true hk
    cases e; subst hk
    simp [Instr.sameNow]
  · cases e
    simp only [Instr.sameNow, beq_toListBytes, ByteArray.toList_eq]
  · cases e; rfl
  · cases e

theorem sameBits_of {u : TypeDesc} {x y : Value} (e : sameN u x y = some true) (n : Nat) : Instr.sameBits n x y = true := by
  unfold sameN at e
  split at e
  · rw [bif_some] at e
    obtain ⟨hk, e⟩ := e
    have hk := of_decide_eq_true hk
    simp at e
    subst hk; subst e
    cases n <;> simp [Instr.sameBits]
  · rename_i a b
    have : (a == b) = true := by rw [beq_toListBytes, ByteArray.toList_eq, ByteArray.toList_eq]; simpa using e
    cases n <;> simpa [Instr.sameBits] using this
  · simp at e; subst e
    cases n <;> simp [Instr.sameBits]
  · cases e

theorem sameN_symm {u : TypeDesc} {x y : Value} (e : sameN u x y = some true) : sameN u y x = some true := by
  unfold sameN at e
  split at e
  · rw [bif_some] at e
    obtain ⟨hk, e⟩ := e
    have hk := of_decide_eq_true hk
    simp at e; subst hk; subst e
    simp [sameN]
  · simp at e; simp [sameN, e]
  · simp at e; subst e; simp [sameN]
  · cases e

/-- What is found, in both. -/
def FoundRel (ρ : Rn) (k : Value) (es' : List MapEntry) : Option (Nat × Value) → Option (Nat × Value) → Prop
  | none, none => True
  | some (i, v), some (j, v') => i = j ∧ ren ρ v = some v' ∧ ∃ e, es'[i]? = some e ∧ ∀ n, Instr.sameBits (n + 1) e.key k = true
  | _, _ => False

theorem FoundRel.shift {ρ : Rn} {k : Value} {es' : List MapEntry} {e0 : MapEntry} {i : Nat} {r r' : Option (Nat × Value)}
    (h : FoundRel ρ k es' (r.map fun x => (x.1 - (i + 1), x.2)) (r'.map fun x => (x.1 - (i + 1), x.2))) (hr : ∀ x, r = some x → i + 1 ≤ x.1) (hr' : ∀ x, r' = some x → i + 1 ≤ x.1) :
    FoundRel ρ k (e0 :: es') (r.map fun x => (x.1 - i, x.2)) (r'.map fun x => (x.1 - i, x.2)) := by
  cases r with
  | none => cases r' with
    | none => trivial
    | some _ => exact h.elim
  | some x => cases r' with
    | none => exact h.elim
    | some x' =>
      obtain ⟨h1, h2, e, h3, h4⟩ := h
      have := hr x rfl
      have := hr' x' rfl
      simp only [Option.map_some] at h1 h3 ⊢
      refine ⟨by omega, h2, e, ?_, h4⟩
      rw [show x.1 - i = x.1 - (i + 1) + 1 by omega]
      simpa using h3

theorem findN_sound {ρ : Rn} {u : TypeDesc} {k : Value} : ∀ {es es' : List MapEntry} {i : Nat} {r : Option (Nat × Value)}, renEs ρ es = some es' → findN u k es i = some r →
    ∃ r', Instr.findNow u k es' i = some r' ∧ (∀ x, r = some x → i ≤ x.1) ∧ (∀ x, r' = some x → i ≤ x.1) ∧ FoundRel ρ k es' (r.map fun x => (x.1 - i, x.2)) (r'.map fun x => (x.1 - i, x.2))
  | [], es', i, r, hes, e => by
    simp [renEs] at hes; subst hes
    simp [findN] at e; subst e
    exact ⟨none, rfl, by simp, by simp, trivial⟩
  | x :: es, es', i, r, hes, e => by
    obtain ⟨k0, v0, m, h1, h2, h3, rfl⟩ := renEs_cons.1 hes
    simp only [findN] at e
    split at e
    · rename_i hs
      cases e
      have hk0 := (sameN_ren hs ρ).2
      rw [hk0] at h1; cases h1
      refine ⟨some (i, v0), ?_, by simp, by simp, ?_⟩
      · simp only [Instr.findNow, sameNow_of hs]
      · simp only [Option.map_some, FoundRel, Nat.sub_self]
        exact ⟨trivial, h2, _, rfl, fun n => sameBits_of (sameN_symm hs) _⟩
    · rename_i hs
      have hk0 := (sameN_ren hs ρ).2
      rw [hk0] at h1; cases h1
      obtain ⟨r', g1, g2, g3, g4⟩ := findN_sound h3 e
      refine ⟨r', ?_, fun x hx => by have := g2 x hx; omega, fun x hx => by have := g3 x hx; omega, FoundRel.shift g4 g2 g3⟩
      simp only [Instr.findNow, sameNow_of hs, g1]
    · cases e

theorem eqScals_symm : ∀ {us : List TypeDesc} {xs ys : List Value}, eqScals us xs ys = some true → eqScals us ys xs = some true
  | [], xs, ys, e => by
    have := eqScals_len e
    obtain rfl := List.eq_nil_of_length_eq_zero this.1
    obtain rfl := List.eq_nil_of_length_eq_zero this.2
    exact e
  | u :: us, [], ys, e => by simp [eqScals] at e
  | u :: us, x :: l, [], e => by simp [eqScals] at e
  | u :: us, x :: l, y :: l', e => by
    simp only [eqScals] at e ⊢
    split at e
    · rename_i hs
      rw [sameN_symm hs]
      exact eqScals_symm e
    · rename_i hs
      rw [bif_some] at e
      exact absurd e.2 hs

theorem eqScals_bits (n : Nat) : ∀ {us : List TypeDesc} {xs ys : List Value}, eqScals us xs ys = some true → ((xs.zip ys).all fun (x, y) => Instr.sameBits n x y) = true
  | [], xs, ys, e => by
    have := eqScals_len e
    obtain rfl := List.eq_nil_of_length_eq_zero this.1
    rfl
  | u :: us, [], ys, e => by simp [eqScals] at e
  | u :: us, x :: l, [], e => by simp [eqScals] at e
  | u :: us, x :: l, y :: l', e => by
    simp only [eqScals] at e
    split at e
    · rename_i hs
      simp only [List.zip_cons_cons, List.all_cons, Bool.and_eq_true]
      exact ⟨sameBits_of hs n, eqScals_bits n e⟩
    · rename_i hs
      rw [bif_some] at e
      exact absurd e.2 hs

theorem eqScals_plain : ∀ {us : List TypeDesc} {xs ys : List Value} {b : Bool}, eqScals us xs ys = some true → ∀ (ρ : Rn), b = b → renL ρ ys = some ys
  | [], xs, ys, b, e, ρ, _ => by
    have := eqScals_len e
    obtain rfl := List.eq_nil_of_length_eq_zero this.2
    simp [renL]
  | u :: us, [], ys, b, e, ρ, _ => by simp [eqScals] at e
  | u :: us, x :: l, [], b, e, ρ, _ => by simp [eqScals] at e
  | u :: us, x :: l, y :: l', b, e, ρ, _ => by
    simp only [eqScals] at e
    split at e
    · rename_i hs
      exact renL_cons.2 ⟨y, l', (sameN_ren hs ρ).2, eqScals_plain (b := b) e ρ rfl, rfl⟩
    · rename_i hs
      rw [bif_some] at e
      exact absurd e.2 hs

/-- The renaming of a struct's fields that were compared: as far as they were. -/
theorem eqScals_ren : ∀ {us : List TypeDesc} {xs ys ys' : List Value} {b : Bool}, eqScals us xs ys = some b → ∀ {ρ : Rn}, renL ρ ys = some ys' → eqScals us xs ys' = some b
  | [], xs, ys, ys', b, e, ρ, hr => by
    have := eqScals_len e
    obtain rfl := List.eq_nil_of_length_eq_zero this.2
    rw [renL_nil.1 hr]; exact e
  | u :: us, [], ys, ys', b, e, ρ, hr => by simp [eqScals] at e
  | u :: us, x :: l, [], ys', b, e, ρ, hr => by simp [eqScals] at e
  | u :: us, x :: l, y :: l', ys', b, e, ρ, hr => by
    obtain ⟨y', m, h1, h2, rfl⟩ := renL_cons.1 hr
    have hl := renL_length h2
    simp only [eqScals] at e ⊢
    split at e
    · rename_i hs
      rw [(sameN_ren hs ρ).2] at h1; cases h1
      rw [hs]
      have := eqScals_ren e h2
      simpa using this
    · rename_i hs
      rw [bif_some] at e
      obtain ⟨hb, e⟩ := e
      rw [(sameN_ren e ρ).2] at h1; cases h1
      split
      · rename_i hh; exact absurd hh hs
      · rw [bif_some, hl]; exact ⟨hb, e⟩

theorem findS_sound (ok : Ok E P) {t : TypeId} {i0 : TInfo} (hi : tInfo E t = some i0) {us : List TypeDesc} (hs : i0.skey = some us) {ρ : Rn} {l : List Value} (w : World) : ∀ {es es' : List MapEntry} {i : Nat} {r : Option (Nat × Value)}, renEs ρ es = some es' → findS us l es i = some r →
    ∃ r', (Instr.findAsking t (.agg ⟨l⟩) es' i).run P w = .ok r' w ∧ (∀ x, r = some x → i ≤ x.1) ∧ (∀ x, r' = some x → i ≤ x.1) ∧ FoundRel ρ (.agg ⟨l⟩) es' (r.map fun x => (x.1 - i, x.2)) (r'.map fun x => (x.1 - i, x.2))
  | [], es', i, r, hes, e => by
    simp [renEs] at hes; subst hes
    simp [findS] at e; subst e
    exact ⟨none, rfl, by simp, by simp, trivial⟩
  | x :: es, es', i, r, hes, e => by
    obtain ⟨k0, v0, m, h1, h2, h3, rfl⟩ := renEs_cons.1 hes
    simp only [findS] at e
    split at e
    · rename_i l0 hkey
      rw [hkey] at h1
      obtain ⟨l0', hl0, rfl⟩ := ren_agg.1 h1
      split at e
      · rename_i hs'
        cases e
        have heq := eqScals_ren hs' hl0
        have hq : (Op.equal t (.agg ⟨l⟩) (.agg ⟨l0'⟩)).run P w = .ok true w := equal_struct ok hi hs heq 9998 w
        refine ⟨some (i, v0), ?_, by simp, by simp, ?_⟩
        · simp only [Instr.findAsking, Sem.run_bind, hq, Result.andThen_ok, if_true, Sem.run_pure]
        · simp only [Option.map_some, FoundRel, Nat.sub_self]
          refine ⟨trivial, h2, _, rfl, fun n => ?_⟩
          have hl := eqScals_len heq
          simp only [Instr.sameBits, Bool.and_eq_true]
          exact ⟨by simp [hl.1, hl.2], eqScals_bits n (eqScals_symm heq)⟩
      · rename_i hs'
        have heq := eqScals_ren hs' hl0
        have hq : (Op.equal t (.agg ⟨l⟩) (.agg ⟨l0'⟩)).run P w = .ok false w := equal_struct ok hi hs heq 9998 w
        obtain ⟨r', g1, g2, g3, g4⟩ := findS_sound ok hi hs w h3 e
        refine ⟨r', ?_, fun x hx => by have := g2 x hx; omega, fun x hx => by have := g3 x hx; omega, FoundRel.shift g4 g2 g3⟩
        simp only [Instr.findAsking, Sem.run_bind, hq, Result.andThen_ok, Bool.false_eq_true, if_false, g1]
      · cases e
    · cases e

theorem checkKey_plain (ok : Ok E P) {t : TypeId} {i : TInfo} (hi : tInfo E t = some i) (hk : keyOk i.und = true) (b : Bool) (n : Nat) (k : Value) (w : World) : (Instr.checkKey b (n + 1) t k).run P w = .ok () w := by
  simp only [Instr.checkKey, Sem.run_bind, ok.run_underlying hi, Result.andThen_ok]
  cases hu : i.und <;> rw [hu] at hk <;> simp [keyOk] at hk <;> rfl

theorem checkKey_of {t : TypeId} {u : TypeDesc} (hu : P.underlying t = some u) (hk : keyOk u = true) (b : Bool) (n : Nat) (k : Value) (w : World) : (Instr.checkKey b (n + 1) t k).run P w = .ok () w := by
  simp only [Instr.checkKey, Sem.run_bind, Go.run_underlying hu, Result.andThen_ok]
  cases u <;> simp [keyOk] at hk <;> rfl

theorem checkFields (b : Bool) (n : Nat) (xs : List Value) (w : World) : ∀ {fs : List Field} {us : List TypeDesc} {k : Nat}, fieldsOk P k fs = some us → k + fs.length ≤ xs.length →
    (forIn fs PUnit.unit fun f _ => (if f.name ≠ "_" then (do
        let p ← part f.type ⟨xs⟩ f.offset
        Instr.checkKey b (n + 1) f.type p
        pure (ForInStep.yield PUnit.unit)) else pure (ForInStep.yield PUnit.unit) : Sem (ForInStep PUnit))).run P w = .ok PUnit.unit w
  | [], us, k, _, _ => by simp
  | f :: fs, us, k, h, hl => by
    simp only [fieldsOk, bif_some, Bool.and_eq_true] at h
    obtain ⟨⟨hn, ho⟩, h⟩ := h
    have ho := of_beq ho
    split at h
    · rename_i u hu
      rw [bif_some] at h
      obtain ⟨hk, h⟩ := h
      rw [oget_some] at h; obtain ⟨l, hl', h⟩ := h
      have hne : f.name ≠ "_" := by simpa using hn
      simp only [List.length_cons] at hl
      have hlt : k < xs.length := by omega
      have px : (part f.type ⟨xs⟩ f.offset).run P w = .ok xs[k] w := by
        simp only [part, Sem.run_bind, run_isAgg_of hu, isAgg_keyOk hk, Result.andThen_ok, Bool.false_eq_true, if_false, ho]
        simp [List.getElem?_eq_getElem hlt]
      have ih := checkFields b n xs w hl' (by omega)
      simp only [List.forIn_cons, Sem.run_bind, hne, ne_eq, not_false_eq_true, if_true, px, Result.andThen_ok, checkKey_of hu hk, Sem.run_pure]
      exact ih
    · cases h

theorem checkKey_struct (ok : Ok E P) {t : TypeId} {i : TInfo} (hi : tInfo E t = some i) {us : List TypeDesc} (hs : i.skey = some us) (b : Bool) (n : Nat) {xs : List Value} (hl : xs.length = us.length) (w : World) : (Instr.checkKey b (n + 2) t (.agg ⟨xs⟩)).run P w = .ok () w := by
  obtain ⟨fs, hu, _, hf⟩ := skey_spec ok hi hs
  have hlen : ∀ {fs : List Field} {us : List TypeDesc} {k : Nat}, fieldsOk P k fs = some us → fs.length = us.length := by
    intro fs
    induction fs with
    | nil => intro us k h; simp [fieldsOk] at h; subst h; rfl
    | cons f fs ih =>
      intro us k h
      simp only [fieldsOk, bif_some] at h
      obtain ⟨_, h⟩ := h
      split at h
      · rw [bif_some] at h
        obtain ⟨_, h⟩ := h
        rw [oget_some] at h; obtain ⟨l, hl', h⟩ := h
        cases h
        simp [ih hl']
      · cases h
  have := checkFields (P := P) b n xs w hf (by rw [hlen hf]; omega)
  obtain ⟨m, hm⟩ : ∃ m, m = n + 1 := ⟨_, rfl⟩
  rw [← hm] at this
  rw [show n + 2 = m + 1 from by omega]
  simp only [Instr.checkKey, Sem.run_bind, ok.run_underlying hi, hu, Result.andThen_ok]
  rw [← Array.forIn_toList]
  exact andThen_of this rfl

/-- A key's search, in both. -/
theorem findK_sound (ok : Ok E P) {t : TypeId} {ki : TInfo} (hi : tInfo E t = some ki) {ρ : Rn} {k : Value} {es es' : List MapEntry} {r : Option (Nat × Value)} (hes : renEs ρ es = some es') (e : findK ki k es = some r) (w : World) :
    ren ρ k = some k ∧ (∀ b, (Instr.checkKey b 10000 t k).run P w = .ok () w) ∧ ∃ r', (Instr.findKey t k es').run P w = .ok r' w ∧ FoundRel ρ k es' r r' := by
  unfold findK at e
  split at e
  · rename_i l
    split at e
    · rename_i us hs
      rw [bif_some] at e
      obtain ⟨hc, e⟩ := e
      simp only [Bool.and_eq_true] at hc
      have hl := of_beq hc.1
      refine ⟨ren_agg.2 ⟨l, plainKeys_ren hc.2, rfl⟩, fun b => checkKey_struct ok hi hs b 9998 hl w, ?_⟩
      obtain ⟨r', g1, g2, g3, g4⟩ := findS_sound ok hi hs w hes e
      have g4' : FoundRel ρ (.agg ⟨l⟩) es' r r' := by
        have e1 : (r.map fun x => (x.1 - 0, x.2)) = r := by cases r <;> rfl
        have e2 : (r'.map fun x => (x.1 - 0, x.2)) = r' := by cases r' <;> rfl
        rwa [e1, e2] at g4
      obtain ⟨fs, hu, _, _⟩ := skey_spec ok hi hs
      cases es' with
      | nil =>
        simp [Instr.findAsking] at g1
        refine ⟨none, ?_, by rw [← g1] at g4'; exact g4'⟩
        simp [Instr.findKey, ok.run_underlying hi, hu, Instr.findNow]
      | cons e0 es0 =>
        refine ⟨r', ?_, g4'⟩
        simp only [Instr.findKey, Sem.run_bind, ok.run_underlying hi, hu, Result.andThen_ok, Instr.findNow, Instr.sameNow]
        exact g1
    · cases e
  · rename_i hna
    rw [bif_some] at e
    obtain ⟨hc, e⟩ := e
    simp only [Bool.and_eq_true] at hc
    refine ⟨plainKey_ren hc.2, fun b => checkKey_plain ok hi hc.1 b 9999 k w, ?_⟩
    obtain ⟨r', g1, g2, g3, g4⟩ := findN_sound hes e
    have g4' : FoundRel ρ k es' r r' := by
      have e1 : (r.map fun x => (x.1 - 0, x.2)) = r := by cases r <;> rfl
      have e2 : (r'.map fun x => (x.1 - 0, x.2)) = r' := by cases r' <;> rfl
      rwa [e1, e2] at g4
    refine ⟨r', ?_, g4'⟩
    simp only [Instr.findKey, Sem.run_bind, ok.run_underlying hi, Result.andThen_ok, g1, Sem.run_pure]

theorem run_getObj {w : World} {r : Nat} {o : Obj} (h : w.heap[r]? = some o) (hc : ∀ c e f, o ≠ .cells c e f) : (getObj r).run P w = .ok o w := by
  cases o with
  | cells c e f => exact absurd rfl (hc c e f)
  | _ => simp [getObj, Sem.run, h]

theorem run_setObj {w : World} {r : Nat} {o o' : Obj} (h : w.heap[r]? = some o) (hc : ∀ c e f, o ≠ .cells c e f) : (setObj r o').run P w = .ok () { w with heap := w.heap.setIfInBounds r o' } := by
  cases o with
  | cells c e f => exact absurd rfl (hc c e f)
  | _ => simp [setObj, Sem.run, h]

theorem aLookup_sound (ok : Ok E P) {ρ : Rn} {h : AH} {w : World} (hr : WRel ρ h w) {t : TypeId} {m k m' k' v : Value} {b : Bool} (hm : ren ρ m = some m') (hk : ren ρ k = some k') (e : aLookup E t m k b h = some v) :
    ∃ v', ren ρ v = some v' ∧ (Instr.lookup t m' k' b).run P w = .ok v' w := by
  unfold aLookup at e
  rw [oget_some] at e; obtain ⟨i, hi, e⟩ := e
  split at e
  · rename_i kt et hu
    rw [oget_some] at e; obtain ⟨ki, hki, e⟩ := e
    rw [oget_some] at e; obtain ⟨ei, hei, e⟩ := e
    rw [oget_some] at e; obtain ⟨z, hz, e⟩ := e
    rw [oget_some] at e; obtain ⟨r, hf, e⟩ := e
    have core : ∀ es es', renEs ρ es = some es' → findK ki k es = some r → k' = k ∧ (∀ b, (Instr.checkKey b 10000 kt k).run P w = .ok () w) ∧ ∃ r', (Instr.findKey kt k es').run P w = .ok r' w ∧ FoundRel ρ k es' r r' := by
      intro es es' h1 h2
      obtain ⟨a1, a2, a3⟩ := findK_sound ok hki h1 h2 w
      rw [a1] at hk; cases hk
      exact ⟨rfl, a2, a3⟩
    have fin : ∀ (r' : Option (Nat × Value)) es', FoundRel ρ k es' r r' →
        ∃ v', ren ρ v = some v' ∧ ((match r' with
          | some (_, v) => pure (v, true)
          | none => do pure (← zeroValue et, false) : Sem (Value × Bool)) >>= fun x => pure (if b then .tuple #[x.1, .bool x.2] else x.1)).run P w = .ok v' w := by
      intro r' es' hfr
      cases r with
      | none => cases r' with
        | none =>
          simp only [Option.some.injEq] at e; subst e
          have hzz := ok.zero hei hz ρ
          simp only [Sem.run_bind, ok.run_zero hei hz, Result.andThen_ok, Sem.run_pure]
          cases b with
          | true => exact ⟨_, ren_tuple.2 ⟨[z, .bool false], by simp [renL, ren, hzz], rfl⟩, rfl⟩
          | false => exact ⟨z, hzz, rfl⟩
        | some _ => exact hfr.elim
      | some x => cases r' with
        | none => exact hfr.elim
        | some x' =>
          obtain ⟨_, h2, _⟩ := hfr
          simp only [Option.some.injEq] at e; subst e
          simp only [Sem.run_bind, Result.andThen_ok, Sem.run_pure]
          cases b with
          | true => exact ⟨_, ren_tuple.2 ⟨[x'.2, .bool true], by simp [renL, ren, h2], rfl⟩, rfl⟩
          | false => exact ⟨x'.2, h2, rfl⟩
    split at hf
    · simp [ren] at hm; subst hm
      obtain ⟨rfl, c1, r', c2, c3⟩ := core [] [] (by simp [renEs]) hf
      obtain ⟨v', f1, f2⟩ := fin r' [] c3
      refine ⟨v', f1, ?_⟩
      simp only [Sem.run_bind] at f2
      simp only [Instr.lookup, Sem.run_bind, ok.run_underlying hi, hu, Result.andThen_ok, Sem.run_pure, c1, c2]
      rw [← f2]
      cases r' with
      | none => simp; cases (zeroValue et).run P w <;> rfl
      | some x => simp
    · rename_i rb
      simp [ren] at hm
      obtain ⟨c, ⟨s, x, hρ⟩, rfl⟩ := hm
      split at hf
      · rename_i es cl hb
        obtain ⟨es', h1, h2⟩ := hr.blk rb _ hb c s x hρ
        obtain ⟨rfl, c1, r', c2, c3⟩ := core es es' h2 hf
        obtain ⟨v', f1, f2⟩ := fin r' es' c3
        refine ⟨v', f1, ?_⟩
        simp only [Sem.run_bind] at f2
        simp only [Instr.lookup, Sem.run_bind, ok.run_underlying hi, hu, Result.andThen_ok, run_getObj h1 (by simp), Sem.run_pure, c1, c2]
        rw [← f2]
        cases r' with
        | none => simp; cases (zeroValue et).run P w <;> rfl
        | some x => simp
      · cases hf
    · cases hf
  · cases e

end Go.Ev
