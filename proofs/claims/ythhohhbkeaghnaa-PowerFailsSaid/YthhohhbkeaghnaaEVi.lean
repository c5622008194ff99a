/- A deterministic evaluator of the model's code over a memory of its own: conversions, comparisons, arithmetic. -/
import Derived.Test.YthhohhbkeaghnaaEVh
import Derived.Laws.BytesString
import Derived.Laws.StructEq
import Derived.Laws.Strings
import Derived.Lib.UnsafeStr
set_option linter.unusedSimpArgs false
set_option linter.unusedVariables false
set_option linter.unusedSectionVars false
namespace Go.Ev
variable {E : Env} {P : Program}

/-! ### Integers, texts, bools -/
theorem ren_int {ρ : Rn} {k : IntKind} {n : Int} {v' : Value} : ren ρ (.int k n) = some v' ↔ v' = .int k n := by simp [ren, eq_comm]
theorem ren_bool {ρ : Rn} {b : Bool} {v' : Value} : ren ρ (.bool b) = some v' ↔ v' = .bool b := by simp [ren, eq_comm]
theorem ren_string {ρ : Rn} {s : ByteArray} {v' : Value} : ren ρ (.string s) = some v' ↔ v' = .string s := by simp [ren, eq_comm]

theorem binInt_sound {op : BinOp} {t : TypeId} {k k' : IntKind} {a b : Int} {v : Value} (e : binInt op k k' a b = some v) (w : World) :
    (binOp op t (.int k a) (.int k' b)).run P w = .ok v w ∧ ∀ ρ, ren ρ v = some v := by
  unfold binInt at e
  have nn : ∀ b : Int, decide (b < 0) = false → ¬ b < 0 := fun b h => by simpa using h
  have nz : ∀ b : Int, decide (b = 0) = false → ¬ b = 0 := fun b h => by simpa using h
  split at e
  · cases hb : decide (b < 0) with
    | true => simp [hb] at e
    | false =>
      simp only [hb, cond_false, Option.some.injEq] at e; subst e
      exact ⟨by simp [binOp, Op.shift, nn b hb], fun ρ => by simp [ren]⟩
  · cases hb : decide (b < 0) with
    | true => simp [hb] at e
    | false =>
      simp only [hb, cond_false, Option.some.injEq] at e; subst e
      exact ⟨by simp [binOp, Op.shift, nn b hb], fun ρ => by simp [ren]⟩
  · rename_i hs1 hs2
    split at e
    · cases e
    · rename_i hk
      have hk := of_decide_eq_true hk
      subst hk
      split at e
      all_goals first
        | (simp only [Option.some.injEq] at e; subst e; exact ⟨by simp [binOp, Op.intArith, Op.intBits, Op.intCmp], fun ρ => by simp [ren]⟩)
        | (cases hb : decide (b = 0) with
            | true => simp [hb] at e
            | false =>
              simp only [hb, cond_false, Option.some.injEq] at e; subst e
              exact ⟨by simp [binOp, Op.intDiv, nz b hb], fun ρ => by simp [ren]⟩)
        | cases e

theorem bytesLt_eq : ∀ (a b : List UInt8), Op.bytesLess a b = bytesLt a b
  | _, [] => by cases ‹List UInt8› <;> simp [Op.bytesLess, bytesLt]
  | [], _ :: _ => by simp [Op.bytesLess, bytesLt]
  | a :: x, b :: y => by simp [Op.bytesLess, bytesLt, bytesLt_eq x y]

theorem str_append (a b : ByteArray) : a ++ b = ⟨⟨a.data.toList ++ b.data.toList⟩⟩ := by
  apply ByteArray.ext
  apply Array.ext'
  simp

theorem binStr_sound {op : BinOp} {t : TypeId} {a b : ByteArray} {v : Value} (e : binStr op a b = some v) (w : World) :
    (binOp op t (.string a) (.string b)).run P w = .ok v w ∧ ∀ ρ, ren ρ v = some v := by
  unfold binStr at e
  split at e
  · simp only [bif_some, Option.some.injEq] at e
    obtain ⟨h, rfl⟩ := e
    have h := of_blt h
    have : ¬ (((a.size + b.size : Nat) : Int) > IntKind.i64.max) := by
      show ¬ (((a.size + b.size : Nat) : Int) > 9223372036854775807)
      have e1 : a.data.toList.length = a.size := by simp
      have e2 : b.data.toList.length = b.size := by simp
      omega
    refine ⟨?_, fun ρ => by simp [ren]⟩
    simp only [binOp, Op.stringOp, Sem.run_ite, this, if_false, Sem.run_pure, str_append]
  all_goals first
    | (simp only [Option.some.injEq] at e; subst e; exact ⟨by simp [binOp, Op.stringOp, ByteArray.toList_eq, bytesLt_eq], fun ρ => by simp [ren]⟩)
    | cases e

theorem sameN_sound {u : TypeDesc} {x y : Value} {b : Bool} (e : sameN u x y = some b) {t : TypeId} (ht : P.underlying t = some u) (d : Nat) (w : World) :
    (Op.equalIn (d + 1) t x y).run P w = .ok b w := by
  unfold sameN at e
  split at e
  · rw [bif_some] at e
    obtain ⟨hk, e⟩ := e
    have hk := of_decide_eq_true hk
    cases e; subst hk
    exact run_equalIn_int w d t _ _ _ _ ht
  · cases e
    rw [run_equalIn_string w d t _ _ ht, ByteArray.toList_eq, ByteArray.toList_eq]
  · cases e
    exact run_equalIn_bool' w d t _ _ ht
  · cases e

theorem sameN_ren {u : TypeDesc} {x y : Value} {b : Bool} (e : sameN u x y = some b) (ρ : Rn) : ren ρ x = some x ∧ ren ρ y = some y := by
  unfold sameN at e
  split at e <;> first | exact ⟨by simp [ren], by simp [ren]⟩ | cases e

theorem isAgg_keyOk {u : TypeDesc} (h : keyOk u = true) : isAggD u = false := by cases u <;> simp [keyOk] at h <;> rfl

theorem run_isAgg_of {t : TypeId} {u : TypeDesc} (h : P.underlying t = some u) (w : World) : (isAgg t).run P w = .ok (isAggD u) w := by
  unfold isAgg isAggD
  simp only [Sem.run_bind, Go.run_underlying h, Result.andThen_ok]
  cases u <;> rfl

theorem eqScals_len : ∀ {us : List TypeDesc} {xs ys : List Value} {b : Bool}, eqScals us xs ys = some b → xs.length = us.length ∧ ys.length = us.length
  | [], [], [], _, _ => ⟨rfl, rfl⟩
  | [], _ :: _, _, _, e => by simp [eqScals] at e
  | [], [], _ :: _, _, e => by simp [eqScals] at e
  | _ :: _, [], _, _, e => by simp [eqScals] at e
  | _ :: _, _ :: _, [], _, e => by simp [eqScals] at e
  | u :: us, x :: l, y :: l', b, e => by
    simp only [eqScals] at e
    split at e
    · have := eqScals_len e; simp [this.1, this.2]
    · rw [bif_some] at e
      obtain ⟨h, _⟩ := e
      simp only [Bool.and_eq_true] at h
      simp [of_beq h.1, of_beq h.2]

theorem eqFields_sound (d : Nat) (xs ys : List Value) (w : World) : ∀ {fs : List Field} {us : List TypeDesc} {k : Nat} {b : Bool}, fieldsOk P k fs = some us → eqScals us (xs.drop k) (ys.drop k) = some b →
    (Op.eqFields (d + 1) ⟨xs⟩ ⟨ys⟩ fs).run P w = .ok b w
  | [], us, k, b, hf, e => by
    simp [fieldsOk] at hf; subst hf
    have := eqScals_len e
    rw [List.eq_nil_of_length_eq_zero this.1, List.eq_nil_of_length_eq_zero this.2] at e
    simp [eqScals] at e; subst e
    simp [Op.eqFields]
  | f :: fs, us, k, b, hf, e => by
    simp only [fieldsOk, bif_some, Bool.and_eq_true] at hf
    obtain ⟨⟨hn, ho⟩, hf⟩ := hf
    have ho := of_beq ho
    split at hf
    · rename_i u hu
      rw [bif_some] at hf
      obtain ⟨hk, hf⟩ := hf
      rw [oget_some] at hf; obtain ⟨l, hl, hf⟩ := hf
      cases hf
      have hlen := eqScals_len e
      cases hx : xs.drop k with
      | nil => rw [hx] at hlen; simp at hlen
      | cons x xl =>
        cases hy : ys.drop k with
        | nil => rw [hy] at hlen; simp at hlen
        | cons y yl =>
          rw [hx, hy] at e
          have gx : xs[k]? = some x := by have := congrArg (·[0]?) hx; simpa using this
          have gy : ys[k]? = some y := by have := congrArg (·[0]?) hy; simpa using this
          have px : (part f.type ⟨xs⟩ f.offset).run P w = .ok x w := by
            simp only [part, Sem.run_bind, run_isAgg_of hu, isAgg_keyOk hk, Result.andThen_ok, Bool.false_eq_true, if_false, ho]
            simp [gx]
          have py : (part f.type ⟨ys⟩ f.offset).run P w = .ok y w := by
            simp only [part, Sem.run_bind, run_isAgg_of hu, isAgg_keyOk hk, Result.andThen_ok, Bool.false_eq_true, if_false, ho]
            simp [gy]
          have hne : f.name ≠ "_" := by simpa using hn
          have dx : xs.drop (k + 1) = xl := by rw [← List.drop_drop, hx]; rfl
          have dy : ys.drop (k + 1) = yl := by rw [← List.drop_drop, hy]; rfl
          simp only [Op.eqFields, hne, if_true, ne_eq, not_false_eq_true, Sem.run_bind, px, py, Result.andThen_ok]
          simp only [eqScals] at e
          split at e
          · rename_i hs
            simp only [sameN_sound hs hu d w, Result.andThen_ok, Bool.not_true, Bool.false_eq_true, if_false]
            exact eqFields_sound d xs ys w hl (by rw [dx, dy]; exact e)
          · rename_i hs
            rw [bif_some] at e
            obtain ⟨_, e⟩ := e
            cases b with
            | true => exact absurd e hs
            | false => simp [sameN_sound e hu d w]
    · cases hf

theorem skey_spec (ok : Ok E P) {t : TypeId} {i : TInfo} (hi : tInfo E t = some i) {us : List TypeDesc} (hs : i.skey = some us) : ∃ fs, i.und = .struct fs ∧ P.stoodInHeld t = false ∧ fieldsOk P 0 fs.toList = some us := by
  obtain ⟨_, info, _, _, _, _, h⟩ := ok.und hi
  rw [hs] at h
  unfold skeyOf at h
  split at h
  · rename_i fs hu
    cases hst : P.stoodInHeld t with
    | true => simp [hst] at h
    | false => exact ⟨fs, hu, rfl, by simpa [hst] using h⟩
  · cases h

theorem equal_struct (ok : Ok E P) {t : TypeId} {i : TInfo} (hi : tInfo E t = some i) {us : List TypeDesc} (hs : i.skey = some us) {xs ys : List Value} {b : Bool} (e : eqScals us xs ys = some b) (d : Nat) (w : World) :
    (Op.equalIn (d + 2) t (.agg ⟨xs⟩) (.agg ⟨ys⟩)).run P w = .ok b w := by
  obtain ⟨fs, hu, hst, hf⟩ := skey_spec ok hi hs
  have hund := (ok.und hi).1
  rw [hu] at hund
  have hfo : P.fieldsOf t = fs := by simp [Program.fieldsOf, hund]
  rw [run_equalIn_struct w (d + 1) t ⟨xs⟩ ⟨ys⟩ (by rw [hfo]; exact hund) hst, hfo]
  exact eqFields_sound d xs ys w hf (by simpa using e)

theorem eqGuard_fields : ∀ (d : Nat) {fs : List Field} {us : List TypeDesc} {k : Nat}, fieldsOk P k fs = some us → (fs.any fun f => f.name != "_" && P.eqGuardType (d + 1) f.type) = false
  | d, [], us, k, _ => rfl
  | d, f :: fs, us, k, h => by
    simp only [fieldsOk, bif_some, Bool.and_eq_true] at h
    obtain ⟨_, h⟩ := h
    split at h
    · rename_i u hu
      rw [bif_some] at h
      obtain ⟨hk, h⟩ := h
      rw [oget_some] at h; obtain ⟨l, hl, h⟩ := h
      simp only [List.any_cons, eqGuard_fields d hl, Bool.or_false]
      have : P.eqGuardType (d + 1) f.type = false := by
        simp only [Program.eqGuardType, hu]
        cases u <;> simp [keyOk] at hk <;> rfl
      simp [this]
    · cases h

theorem eqGuard_struct (ok : Ok E P) {t : TypeId} {i : TInfo} (hi : tInfo E t = some i) {us : List TypeDesc} (hs : i.skey = some us) : P.eqGuardType P.depth t = false := by
  obtain ⟨fs, hu, _, hf⟩ := skey_spec ok hi hs
  have hund := (ok.und hi).1
  rw [hu] at hund
  have hd : P.depth = (2 * (P.types.size + Made.depth)) + 1 + 1 := rfl
  rw [hd]
  have := eqGuard_fields (P := P) (2 * (P.types.size + Made.depth)) hf
  rw [Program.eqGuardType, hund]
  simpa [← Array.any_toList] using this

/-- Equality of what is no number and no text. -/
theorem eqV_sound {ρ : Rn} {h : AH} {w : World} (hr : WRel ρ h w) {u : TypeDesc} {t : TypeId} (hu : P.underlying t = some u) {x y x' y' : Value} (hx : ren ρ x = some x') (hy : ren ρ y = some y') {b : Bool} (e : eqV h u x y = some b)
    (hsz : ∀ el, u = .pointer el → (∃ n, (sizeOf el).run P w = .ok n w ∧ n ≠ 0) ∨ (∃ a, x = .pointer none ∨ y = .pointer none ∧ a = ())) (d : Nat) : (Op.equalIn (d + 1) t x' y').run P w = .ok b w := by
  have hun := Go.run_underlying hu w
  unfold eqV at e
  split at e
  · cases e
    rw [ren_bool.1 hx, ren_bool.1 hy]
    exact run_equalIn_bool' w d t _ _ hu
  · rename_i el p
    cases e
    simp [ren] at hx; subst hx
    rcases p with _ | ⟨pb, po, _ | _⟩
    · simp [ren] at hy; subst hy; simp [Op.equalIn, hun]
    · obtain ⟨c, s, x0, _, rfl⟩ := ren_ptr hy; simp [Op.equalIn, hun]
    · simp [ren, Rn.addr] at hy
  · rename_i el p
    cases e
    simp [ren] at hy; subst hy
    obtain ⟨pb, po, _ | _⟩ := p
    · obtain ⟨c, s, x0, _, rfl⟩ := ren_ptr hx; simp [Op.equalIn, hun]
    · simp [ren, Rn.addr] at hx
  · cases e
    simp [ren] at hx hy; subst hx
    obtain ⟨v, _, rfl⟩ := hy
    simp [Op.equalIn, hun]
  · cases e
    simp [ren] at hx hy; subst hy
    obtain ⟨v, _, rfl⟩ := hx
    simp [Op.equalIn, hun]
  · rename_i el l1 c1 p l2 c2
    cases e
    simp [ren] at hx; subst hx
    rcases p with _ | ⟨pb, po, _ | _⟩
    · simp [ren] at hy; subst hy; simp [Op.equalIn, hun]
    · obtain ⟨c, s, x0, _, rfl⟩ := ren_slice hy; simp [Op.equalIn, hun]
    · simp [ren] at hy
  · rename_i el p l1 c1 l2 c2
    cases e
    simp [ren] at hy; subst hy
    obtain ⟨pb, po, _ | _⟩ := p
    · obtain ⟨c, s, x0, _, rfl⟩ := ren_slice hx; simp [Op.equalIn, hun]
    · simp [ren] at hx
  · rename_i k el p
    cases e
    simp [ren] at hx; subst hx
    cases p with
    | none => simp [ren] at hy; subst hy; simp [Op.equalIn, hun]
    | some r => simp [ren] at hy; obtain ⟨a, c, s, _, rfl⟩ := hy; simp [Op.equalIn, hun]
  · rename_i k el p
    cases e
    simp [ren] at hy hx; subst hy
    obtain ⟨a, c, s, _, rfl⟩ := hx
    simp [Op.equalIn, hun]
  · cases e
    simp [ren] at hx hy; subst hx; subst hy
    simp [Op.equalIn, hun]
  · rename_i fn a c
    cases e
    simp [ren] at hx; subst hx
    have : ∃ fn' a' c', y' = .func fn' a' c' := by
      cases fn <;> simp only [ren] at hy
      · split at hy <;> simp at hy; exact ⟨_, _, _, hy.symm⟩
      · cases hy
      · cases hy
      · cases hy
      · split at hy <;> simp at hy; exact ⟨_, _, _, hy.symm⟩
    obtain ⟨fn', a', c', rfl⟩ := this
    simp [Op.equalIn, hun]
  · rename_i fn a c
    cases e
    simp [ren] at hy; subst hy
    have : ∃ fn' a' c', x' = .func fn' a' c' := by
      cases fn <;> simp only [ren] at hx
      · split at hx <;> simp at hx; exact ⟨_, _, _, hx.symm⟩
      · cases hx
      · cases hx
      · cases hx
      · split at hx <;> simp at hx; exact ⟨_, _, _, hx.symm⟩
    obtain ⟨fn', a', c', rfl⟩ := this
    simp [Op.equalIn, hun]
  · rename_i el pb po pb' po'
    split at e
    · rename_i n1 t1 e1 o1 n2 t2 e2 o2 hb1 hb2
      simp only [bif_some, Bool.and_eq_true, Option.some.injEq] at e
      obtain ⟨⟨l1, l2⟩, rfl⟩ := e
      obtain ⟨c, s, x0, hρ, rfl⟩ := ren_ptr hx
      obtain ⟨c', s', x0', hρ', rfl⟩ := ren_ptr hy
      obtain ⟨C, lo, hi, a1, a2, _, _, _, a6⟩ := hr.blk pb _ hb1 c s x0 hρ
      obtain ⟨C', lo', hi', b1, b2, _, _, _, b6⟩ := hr.blk pb' _ hb2 c' s' x0' hρ'
      have a6 := a6.1 rfl
      have b6 := b6.1 rfl
      rcases hsz el rfl with ⟨n, hn, hn0⟩ | ⟨_, hh⟩
      · simp only [Op.equalIn, Sem.run_bind, hun, Result.andThen_ok, hn, hn0, if_true, ne_eq, not_false_eq_true]
        have hc : c = c' ↔ pb = pb' := by
          constructor
          · intro e; subst e; exact hr.inj pb pb' _ _ hb1 hb2 rfl rfl _ _ _ _ _ hρ hρ'
          · intro e; subst e; rw [hρ] at hρ'; cases hρ'; rfl
        unfold sameAddr
        by_cases hbb : pb = pb'
        · have hcc := hc.2 hbb
          subst hbb; subst hcc
          rw [hρ] at hρ'; cases hρ'
          simp only [beq_self_eq_true, if_true, Sem.run_pure]
          congr 1
          rw [beqT rfl, Bool.true_and]
          by_cases ho : po = po'
          · subst ho; simp [beqT]
          · simp [beqF ho, ho]
        · have hcc : ¬ c = c' := fun e => hbb (hc.1 e)
          have f1 : w.frozen? ⟨c, s + po, none⟩ = false := by
            simp only [World.frozen?, a1]
            by_cases hh : lo ≤ s + po
            · have : ¬ s + po < hi := by omega
              simp [this]
            · simp [hh]
          have f1e : w.frozen? { block := c, off := C.size } = false := by
            simp only [World.frozen?, a1]
            by_cases hh : lo ≤ C.size
            · have : ¬ C.size < hi := by omega
              simp [this]
            · simp [hh]
          have f2 : w.frozen? ⟨c', s' + po', none⟩ = false := by
            simp only [World.frozen?, b1]
            by_cases hh : lo' ≤ s' + po'
            · have : ¬ s' + po' < hi' := by omega
              simp [this]
            · simp [hh]
          have f2e : w.frozen? { block := c', off := C'.size } = false := by
            simp only [World.frozen?, b1]
            by_cases hh : lo' ≤ C'.size
            · have : ¬ C'.size < hi' := by omega
              simp [this]
            · simp [hh]
          have sh1 : w.shape? c = some (e1, C.size) := by simp [World.shape?, a1]
          have sh2 : w.shape? c' = some (e2, C'.size) := by simp [World.shape?, b1]
          simp [hcc, f1, f2, noView, viewAt, sh1, sh2, mayBeOne, stringish, f1e, f2e, beqF hbb]
      · rcases hh with hh | ⟨hh, _⟩ <;> cases hh
    · cases e
  · cases e

end Go.Ev
