/- A deterministic evaluator of the model's code over a memory of its own: every operation. -/
import Derived.Test.YthhohhbkeaghnaaEVl
set_option linter.unusedSimpArgs false
set_option linter.unusedVariables false
set_option linter.unusedSectionVars false
namespace Go.Ev
variable {E : Env} {P : Program}

theorem renEs_append {ρ : Rn} : ∀ {a b a' b' : List MapEntry}, renEs ρ a = some a' → renEs ρ b = some b' → renEs ρ (a ++ b) = some (a' ++ b')
  | [], b, a', b', h, k => by simp [renEs] at h; subst h; simpa using k
  | x :: a, b, a', b', h, k => by
    obtain ⟨k0, v0, m, h1, h2, h3, rfl⟩ := renEs_cons.1 h
    exact renEs_cons.2 ⟨k0, v0, m ++ b', h1, h2, renEs_append h3 k, rfl⟩

theorem renEs_length {ρ : Rn} : ∀ {a a' : List MapEntry}, renEs ρ a = some a' → a'.length = a.length
  | [], a', h => by simp [renEs] at h; subst h; rfl
  | x :: a, a', h => by
    obtain ⟨k0, v0, m, _, _, h3, rfl⟩ := renEs_cons.1 h
    simp [renEs_length h3]

theorem renEs_modify {ρ : Rn} {k x x' : Value} (hk : ren ρ k = some k) (hx : ren ρ x = some x') : ∀ {es es' : List MapEntry} (j : Nat), renEs ρ es = some es' → renEs ρ (es.modify j fun e => { e with key := k, val := x }) = some (es'.modify j fun e => { e with key := k, val := x' })
  | [], es', j, h => by simp [renEs] at h; subst h; cases j <;> simp [renEs, List.modify_nil]
  | e :: es, es', j, h => by
    obtain ⟨k0, v0, m, h1, h2, h3, rfl⟩ := renEs_cons.1 h
    cases j with
    | zero => simp only [List.modify_zero_cons]; exact renEs_cons.2 ⟨k, x', m, hk, hx, h3, rfl⟩
    | succ j => simp only [List.modify_succ_cons]; exact renEs_cons.2 ⟨k0, v0, _, h1, h2, renEs_modify hk hx j h3, rfl⟩

theorem put_but {w : World} {c : Nat} (o : Obj) : But c w { w with heap := w.heap.setIfInBounds c o } :=
  ⟨by simp, fun k hk => by rw [Array.getElem?_setIfInBounds, if_neg (fun e => hk e.symm)], rfl, rfl, rfl⟩

theorem put_at {w : World} {c : Nat} {o o' : Obj} (h : w.heap[c]? = some o) : (w.heap.setIfInBounds c o')[c]? = some o' := by
  have := (Array.getElem?_eq_some_iff.1 h).1
  simp [this]

theorem aMapUpdate_sound (ok : Ok E P) {ρ : Rn} {h h' : AH} {w : World} (hr : WRel ρ h w) {t : TypeId} {m k x m' k' x' : Value} (hm : ren ρ m = some m') (hk : ren ρ k = some k') (hx : ren ρ x = some x') (e : aMapUpdate E t m k x h = some h') :
    ∃ w', (Instr.mapUpdate t m' k' x').run P w = .ok () w' ∧ Step ρ h w ρ h' w' := by
  unfold aMapUpdate at e
  rw [oget_some] at e; obtain ⟨i, hi, e⟩ := e
  split at e
  · rename_i kt et r hu
    rw [oget_some] at e; obtain ⟨ki, hki, e⟩ := e
    split at e
    · rename_i es cl hb
      rw [oget_some] at e; obtain ⟨f, hf, e⟩ := e
      simp [ren] at hm
      obtain ⟨c, ⟨s, x0, hρ⟩, rfl⟩ := hm
      obtain ⟨es', h1, h2⟩ := hr.blk r _ hb c s x0 hρ
      obtain ⟨a1, a2, r', a3, a4⟩ := findK_sound ok hki h2 hf w
      rw [a1] at hk; cases hk
      have hcap := hr.low r _ hb
      have hget := run_getObj (P := P) h1 (by simp)
      cases f with
      | none => cases r' with
        | some _ => exact a4.elim
        | none =>
          simp only [Option.some.injEq] at e; subst e
          let o' : Obj := .map ⟨es' ++ [{ key := k, val := x', born := cl }]⟩ (cl + 1)
          refine ⟨{ w with heap := w.heap.setIfInBounds c o' }, ?_, Step.upd hr hb rfl hρ hcap rfl ?_ (put_but o').size (put_but o').oth rfl rfl rfl⟩
          · have hset := run_setObj (P := P) (o' := o') h1 (by simp)
            simp only [Instr.mapUpdate, Sem.run_bind, ok.run_underlying hi, hu, Result.andThen_ok, hget, a2 false, a3]
            have : (⟨es'⟩ : Array MapEntry).push { key := k, val := x', born := cl } = ⟨es' ++ [{ key := k, val := x', born := cl }]⟩ := by simp
            rw [this, hset]
          · exact ⟨_, put_at h1, renEs_append h2 (renEs_cons.2 ⟨k, x', [], a1, hx, by simp [renEs], rfl⟩)⟩
      | some fx => cases r' with
        | none => exact a4.elim
        | some rx =>
          obtain ⟨j, v⟩ := fx
          obtain ⟨j', v'⟩ := rx
          obtain ⟨rfl, b2, e0, b3, b4⟩ := a4
          simp only [Option.some.injEq] at e; subst e
          let o' : Obj := .map ⟨es'.modify j fun e => { e with key := k, val := x' }⟩ cl
          refine ⟨{ w with heap := w.heap.setIfInBounds c o' }, ?_, Step.upd hr hb rfl hρ hcap rfl ?_ (put_but o').size (put_but o').oth rfl rfl rfl⟩
          · have hset := run_setObj (P := P) (o' := o') h1 (by simp)
            have hstay : ∀ w, (Instr.keyThatStays e0.key k).run P w = .ok k w := by
              intro w
              unfold Instr.keyThatStays
              rw [if_pos (b4 9999)]
              rfl
            simp only [Instr.mapUpdate, Sem.run_bind, ok.run_underlying hi, hu, Result.andThen_ok, hget, a2 false, a3, List.getElem?_toArray, b3, Option.map_some, Option.getD_some, hstay]
            have : ((⟨es'⟩ : Array MapEntry).modify j fun e => { e with key := k, val := x' }) = ⟨es'.modify j fun e => { e with key := k, val := x' }⟩ := by
              apply Array.ext'
              simp
            rw [this, hset]
          · exact ⟨_, put_at h1, renEs_modify a1 hx j h2⟩
    · cases e
  · cases e

/-! ### Builtins -/
theorem aLen_sound (ok : Ok E P) {ρ : Rn} {h : AH} {w : World} (hr : WRel ρ h w) {ats : Array TypeId} {ty : TypeId} {x x' v : Value} (hx : ren ρ x = some x') (e : aLen E ats[0]? x h = some v) :
    ∃ v', ren ρ v = some v' ∧ (Builtin.len_ ats ty #[x']).run P w = .ok v' w := by
  unfold aLen at e
  rw [oget_some] at e; obtain ⟨t, ht, e⟩ := e
  rw [oget_some] at e; obtain ⟨i, hi, e⟩ := e
  have hun := ok.run_underlying hi w
  split at e
  · rename_i el a n c hu
    cases e
    refine ⟨.int .i64 n, by simp [ren], ?_⟩
    rcases a with _ | ⟨b, o, _ | _⟩
    · simp [ren] at hx; subst hx
      simp [Builtin.len_, ht, hun, hu, goInt]
    · obtain ⟨c', s, x0, _, rfl⟩ := ren_slice hx
      simp [Builtin.len_, ht, hun, hu, goInt]
    · simp [ren] at hx
  · rename_i s hu
    cases e
    rw [ren_string.1 hx]
    refine ⟨.int .i64 s.data.toList.length, by simp [ren], ?_⟩
    simp [Builtin.len_, ht, hun, hu, goInt]
  · rename_i n el hu
    cases e
    refine ⟨.int .i64 n, by simp [ren], ?_⟩
    simp [Builtin.len_, ht, hun, hu, goInt]
  · rename_i kt et hu
    cases e
    simp [ren] at hx; subst hx
    refine ⟨.int .i64 0, by simp [ren], ?_⟩
    simp [Builtin.len_, ht, hun, hu, goInt]
  · rename_i kt et r hu
    split at e
    · rename_i es cl hb
      cases e
      simp [ren] at hx
      obtain ⟨c, ⟨s, x0, hρ⟩, rfl⟩ := hx
      obtain ⟨es', h1, h2⟩ := hr.blk r _ hb c s x0 hρ
      refine ⟨.int .i64 es.length, by simp [ren], ?_⟩
      have hget := run_getObj (P := P) h1 (by simp)
      simp [Builtin.len_, ht, hun, hu, goInt, hget, renEs_length h2]
    · cases e
  · cases e

theorem foldV_sound {f : Value → Value → Option Value} {g : Value → Value → Sem Value} (hfg : ∀ x y z, f x y = some z → (∀ ρ : Rn, ren ρ x = some x ∧ ren ρ y = some y ∧ ren ρ z = some z) ∧ ∀ w, (g x y).run P w = .ok z w) (ρ : Rn) (w : World) :
    ∀ {l l' : List Value} {x x' v : Value}, ren ρ x = some x' → renL ρ l = some l' → foldV f x l = some v → (ren ρ v = some v ∨ v = x ∧ l = []) ∧ ∃ v', ren ρ v = some v' ∧ (l'.foldlM g x').run P w = .ok v' w
  | [], l', x, x', v, hx, hl, e => by
    simp [foldV] at e; subst e
    rw [renL_nil.1 hl]
    exact ⟨.inr ⟨rfl, rfl⟩, x', hx, by simp⟩
  | y :: l, l', x, x', v, hx, hl, e => by
    obtain ⟨y', m, h1, h2, rfl⟩ := renL_cons.1 hl
    simp only [foldV] at e
    rw [oget_some] at e; obtain ⟨z, hz, e⟩ := e
    obtain ⟨q1, q2⟩ := hfg x y z hz
    obtain ⟨a1, a2, a3⟩ := q1 ρ
    rw [a1] at hx; rw [a2] at h1; cases hx; cases h1
    obtain ⟨r1, v', r2, r3⟩ := foldV_sound hfg ρ w a3 h2 e
    refine ⟨?_, v', r2, ?_⟩
    · rcases r1 with r1 | ⟨r1, _⟩
      · exact .inl r1
      · exact .inl (by rw [r1]; exact a3)
    · simp only [List.foldlM_cons, Sem.run_bind, q2 w, Result.andThen_ok, r3]

theorem minV_spec (x y z : Value) (e : minV x y = some z) : (∀ ρ : Rn, ren ρ x = some x ∧ ren ρ y = some y ∧ ren ρ z = some z) ∧ ∀ w, (Builtin.min2 x y).run P w = .ok z w := by
  unfold minV at e
  split at e
  · rename_i k a k' b
    cases e
    refine ⟨fun ρ => by simp [ren], fun w => ?_⟩
    simp only [Builtin.min2, Sem.run_pure]
    congr 2
    by_cases hh : b < a <;> simp [hh]
  · cases e

theorem maxV_spec (x y z : Value) (e : maxV x y = some z) : (∀ ρ : Rn, ren ρ x = some x ∧ ren ρ y = some y ∧ ren ρ z = some z) ∧ ∀ w, (Builtin.max2 x y).run P w = .ok z w := by
  unfold maxV at e
  split at e
  · rename_i k a k' b
    cases e
    refine ⟨fun ρ => by simp [ren], fun w => ?_⟩
    simp only [Builtin.max2, Sem.run_pure]
    congr 2
    by_cases hh : b > a
    · simp [hh]
    · simp [hh]
  · cases e

/-- A builtin's answer, as the model has it. -/
def GoodN (P : Program) (ρ : Rn) (h : AH) (w : World) (s : Sem Next) (v : Value) (h' : AH) : Prop :=
  ∃ ρ' w' v', Step ρ h w ρ' h' w' ∧ ren ρ' v = some v' ∧ s.run P w = .ok (.value v') w'

theorem Good.next {ρ : Rn} {h h' : AH} {w : World} {s : Sem Value} {v : Value} (g : Good P ρ h w s v h') : GoodN P ρ h w (do pure (.value (← s))) v h' := by
  obtain ⟨ρ', w', v', a, b, c⟩ := g
  exact ⟨ρ', w', v', a, b, by simp [c]⟩

theorem aBuiltin_sound (ok : Ok E P) {ρ : Rn} {h h' : AH} {w : World} (hr : WRel ρ h w) {b : Builtin} {ats : Array TypeId} {ty : TypeId} {cs : Array Bool} {vs vs' : List Value} {v : Value} (hv : renL ρ vs = some vs') (e : aBuiltin E b ats.toList vs h = some (v, h')) (room : Room ρ h.next h'.next) :
    GoodN P ρ h w (builtin b ats ty cs ⟨vs'⟩) v h' := by
  have get0 : ats.toList[0]? = ats[0]? := Array.getElem?_toList
  have get1 : ats.toList[1]? = ats[1]? := Array.getElem?_toList
  unfold aBuiltin at e
  split at e
  · -- len
    obtain ⟨x', m, h1, h2, rfl⟩ := renL_cons.1 hv
    obtain rfl := renL_nil.1 h2
    rw [get0] at e
    rw [oget_some] at e; obtain ⟨u, hu, e⟩ := e
    cases e
    obtain ⟨v', g1, g2⟩ := aLen_sound (ty := ty) ok hr h1 hu
    exact Good.next (Good.same hr g1 g2)
  · -- cap of nil
    rename_i l c
    obtain ⟨x', m, h1, h2, rfl⟩ := renL_cons.1 hv
    obtain rfl := renL_nil.1 h2
    rw [get0] at e
    rw [oget_some] at e; obtain ⟨t, ht, e⟩ := e
    rw [oget_some] at e; obtain ⟨i, hi, e⟩ := e
    split at e
    · rename_i el hu
      cases e
      simp [ren] at h1; subst h1
      refine Good.next (Good.same hr (v' := .int .i64 c) (by simp [ren]) ?_)
      simp [Builtin.cap_, ht, ok.run_underlying hi, hu, goInt]
    · cases e
  · -- cap
    rename_i bk o l c
    obtain ⟨x', m, h1, h2, rfl⟩ := renL_cons.1 hv
    obtain rfl := renL_nil.1 h2
    rw [get0] at e
    rw [oget_some] at e; obtain ⟨t, ht, e⟩ := e
    rw [oget_some] at e; obtain ⟨i, hi, e⟩ := e
    obtain ⟨c', s, x0, hρ, rfl⟩ := ren_slice h1
    split at e
    · rename_i el n t0 e0 opn wh hu hb
      rw [bif_some] at e; obtain ⟨ho, e⟩ := e
      cases e
      obtain ⟨C, lo, hi', _, _, b3, _⟩ := hr.blk bk _ hb c' s x0 hρ
      have := b3 (of_beq ho)
      subst this
      refine Good.next (Good.same hr (v' := .int .i64 c) (by simp [ren]) ?_)
      simp [Builtin.cap_, ht, ok.run_underlying hi, hu, goInt]
    · rename_i el n f hu hb
      cases e
      have := (hr.blk bk _ hb c' s x0 hρ).1.1
      subst this
      refine Good.next (Good.same hr (v' := .int .i64 c) (by simp [ren]) ?_)
      simp [Builtin.cap_, ht, ok.run_underlying hi, hu, goInt]
    · cases e
  · -- min
    rw [oget_some] at e; obtain ⟨u, hu, e⟩ := e
    cases e
    obtain ⟨x', m, h1, h2, rfl⟩ := renL_cons.1 hv
    obtain ⟨_, v', g1, g2⟩ := foldV_sound (P := P) minV_spec ρ w h1 h2 hu
    exact Good.next (Good.same hr g1 g2)
  · -- max
    rw [oget_some] at e; obtain ⟨u, hu, e⟩ := e
    cases e
    obtain ⟨x', m, h1, h2, rfl⟩ := renL_cons.1 hv
    obtain ⟨_, v', g1, g2⟩ := foldV_sound (P := P) maxV_spec ρ w h1 h2 hu
    exact Good.next (Good.same hr g1 g2)
  · -- append
    obtain ⟨s', m, h1, h2, rfl⟩ := renL_cons.1 hv
    obtain ⟨x', m', h3, h4, rfl⟩ := renL_cons.1 h2
    obtain rfl := renL_nil.1 h4
    rw [oget_some] at e; obtain ⟨t, ht, e⟩ := e
    rw [get0] at ht
    rw [get1] at e
    exact Good.next (aAppend_sound ok hr h1 h3 ht e room)
  · -- copy
    obtain ⟨s', m, h1, h2, rfl⟩ := renL_cons.1 hv
    obtain ⟨x', m', h3, h4, rfl⟩ := renL_cons.1 h2
    obtain rfl := renL_nil.1 h4
    rw [oget_some] at e; obtain ⟨t, ht, e⟩ := e
    rw [get0] at ht
    exact Good.next (aCopy_sound ok hr h1 h3 ht e)
  · -- clear
    rename_i base n c
    obtain ⟨s', m, h1, h2, rfl⟩ := renL_cons.1 hv
    obtain rfl := renL_nil.1 h2
    rw [oget_some] at e; obtain ⟨t, ht, e⟩ := e
    rw [get0] at ht
    rw [oget_some] at e; obtain ⟨i, hi, e⟩ := e
    split at e
    · rename_i el hu
      rw [oget_some] at e; obtain ⟨ei, hei, e⟩ := e
      rw [oget_some] at e; obtain ⟨z, hz, e⟩ := e
      rw [bif_some] at e; obtain ⟨hzl, e⟩ := e
      cases hn : n.beq 0 with
      | true =>
        simp only [hn, cond_true, Option.some.injEq, Prod.mk.injEq] at e
        obtain ⟨rfl, rfl⟩ := e
        have hn := of_beq hn
        subst hn
        refine Good.next (Good.same hr (v' := .tuple ⟨[]⟩) (by simp [ren, renA, renL]) ?_)
        rcases base with _ | ⟨bk, o, _ | _⟩
        · simp [ren] at h1; subst h1
          simp [Builtin.clear_, ht, ok.run_underlying hi, hu]
        · obtain ⟨c', s, x0, hρ, rfl⟩ := ren_slice h1
          simp [Builtin.clear_, ht, ok.run_underlying hi, hu]
        · simp [ren] at h1
      | false =>
        simp only [hn, cond_false] at e
        split at e
        · rename_i bk off
          rw [oget_some] at e; obtain ⟨h1', hw, e⟩ := e
          cases e
          obtain ⟨c', s, x0, hρ, rfl⟩ := ren_slice h1
          have hbcap : bk < cap := by
            unfold aWrite at hw
            split at hw
            · rename_i hblk; exact hr.low bk _ hblk
            · cases hw
          have hzr := renL_repl (ren_cells (ok.zero hei hz ρ)) n
          obtain ⟨w', g1, g2⟩ := aWrite_sound (P := P) hr hzr hρ hbcap hw
          obtain ⟨k, rfl⟩ : ∃ k, n = k + 1 := ⟨n - 1, by have := of_beqF hn; omega⟩
          refine Good.next ⟨ρ, w', .tuple ⟨[]⟩, g2, by simp [ren, renA, renL], ?_⟩
          simp only [Builtin.clear_, ht, List.getElem?_toArray, List.getElem?_cons_zero, Sem.run_bind, ok.run_underlying hi, hu, Result.andThen_ok, ok.run_zero hei hz, zeroCells_repl, g1, Sem.run_pure]
        · cases e
    · cases e
  · cases e
    obtain ⟨s', m, h1, h2, rfl⟩ := renL_cons.1 hv
    obtain rfl := renL_nil.1 h2
    simp [ren] at h1; subst h1
    exact Good.next (Good.same hr (v' := .pointer none) (by simp [ren]) (Lib.run_unsafeSliceData_nil w _ _ _ _))
  · rename_i a l c
    cases hc : c.beq 0 with
    | true => simp [hc] at e
    | false =>
      simp only [hc, cond_false, Option.some.injEq, Prod.mk.injEq] at e
      obtain ⟨rfl, rfl⟩ := e
      obtain ⟨s', m, h1, h2, rfl⟩ := renL_cons.1 hv
      obtain rfl := renL_nil.1 h2
      obtain ⟨bk, o, _ | _⟩ := a
      · obtain ⟨c', s, x0, hρ, rfl⟩ := ren_slice h1
        refine Good.next (Good.same hr (v' := .pointer (some ⟨c', s + o, none⟩)) (by simp [ren, Rn.addr, hρ]) (Lib.run_unsafeSliceData_row w _ _ _ _ _ ?_))
        have := of_beqF hc
        omega
      · simp [ren] at h1
  · rw [oget_some] at e; obtain ⟨t, ht, e⟩ := e
    rw [get0] at ht
    rename_i kn n
    rw [bif_some] at e; obtain ⟨hc, e⟩ := e
    have hc := of_decide_eq_true hc
    cases e; subst hc
    obtain ⟨s', m, h1, h2, rfl⟩ := renL_cons.1 hv
    obtain ⟨x', m', h3, h4, rfl⟩ := renL_cons.1 h2
    obtain rfl := renL_nil.1 h4
    simp [ren] at h1 h3; subst h1; subst h3
    refine Good.next (Good.same hr (v' := .string ⟨⟨[]⟩⟩) (by simp [ren]) ?_)
    have hmx : ¬ ((0 : Int) > IntKind.i64.max) := by
      show ¬ ((0 : Int) > 9223372036854775807)
      omega
    have has : (asInt (.int kn 0 : Value)).run P w = .ok 0 w := rfl
    have hU : Builtin.unsafeString_ ats ty #[.pointer none, .int kn 0] = (asInt (.int kn 0) >>= _) := rfl
    rw [hU]
    simp only [Sem.run_bind, ht, has, Result.andThen_ok, show ¬ (0 : Int) < 0 by omega, if_false, hmx, if_true, Sem.run_pure]
    rfl
  · rename_i bk off kn n
    rw [oget_some] at e; obtain ⟨t, ht, e⟩ := e
    rw [get0] at ht
    rw [oget_some] at e; obtain ⟨i, hi, e⟩ := e
    split at e
    · rename_i el m0 t0 be opn wh hu hb
      rw [oget_some] at e; obtain ⟨ei, hei, e⟩ := e
      split at e
      · rename_i hu3
        rw [bif_some] at e; obtain ⟨hc, e⟩ := e
        simp only [Bool.and_eq_true, decide_eq_true_eq] at hc
        obtain ⟨⟨⟨c1, c2⟩, c3⟩, c4⟩ := hc
        have c3 := of_beq c3
        have c4 := of_beq c4
        rw [oget_some] at e; obtain ⟨vs0, hvs, e⟩ := e
        rw [oget_some] at e; obtain ⟨bs, hbs, e⟩ := e
        cases e
        obtain ⟨s', m, h1, h2, rfl⟩ := renL_cons.1 hv
        obtain ⟨x', m', h3, h4, rfl⟩ := renL_cons.1 h2
        obtain rfl := renL_nil.1 h4
        obtain ⟨c', s, x0, hρ, rfl⟩ := ren_ptr h1
        rw [ren_int.1 h3]
        have hB := hr.blk bk _ hb c' s x0 hρ
        obtain ⟨vs1, g1, g2, g3⟩ := hB.row hvs
        obtain ⟨ns, rfl, rfl⟩ := bytesV_spec hbs
        rw [plainL_ren ρ _ (plainL_ints .u8 ns)] at g1
        cases g1
        obtain ⟨C, lo, hi', b1, b2, _⟩ := hB
        have hlen : ns.length = n.toNat := by simpa using g2
        have hoff : s + off + n.toNat ≤ C.size := by
          have hpos : 0 < n.toNat := by omega
          have hlast : n.toNat - 1 < ns.length := by omega
          have := g3 (n.toNat - 1) (.int .u8 ns[n.toNat - 1]) (by simp [List.getElem?_eq_getElem hlast])
          have hlt : s + off + (n.toNat - 1) < C.size := by
            simp only [World.cell?, b1] at this
            exact (Array.getElem?_eq_some_iff.1 (by simpa using this)).1
          omega
        have hcell : P.cellsOf el = 1 := by rw [ok.cellsOf hei, c4]
        subst c3
        have hsh : w.shape? c' = some (be, C.size) := by simp [World.shape?, b1]
        have hvar : (variablesAt ⟨c', s + off, none⟩ be n.toNat).run P w = .ok true w := by
          simp only [variablesAt, Sem.run_bind, run_program, run_shape, hsh, Result.andThen_ok, Sem.run_pure, hcell, Nat.div_one, liesAt_row hcell C.size (s + off) n.toNat hoff]
        have hload : ∀ (ns : List Int) (k : Nat) (acc : ByteArray), (∀ j x, ns[j]? = some x → w.cell? ⟨c', k + j, none⟩ = some (.int .u8 x)) → (loadBytes ⟨c', k, none⟩ acc ns.length).run P w = .ok ⟨⟨acc.data.toList ++ ns.map fun n => UInt8.ofNat n.toNat⟩⟩ w := by
          intro ns
          induction ns with
          | nil => intro k acc _; simp [loadBytes]
          | cons x ns ih =>
            intro k acc hk
            have h0 := hk 0 x rfl
            simp only [Nat.add_zero] at h0
            have := ih (k + 1) (acc.push x.toNat.toUInt8) (fun j y hy => by have := hk (j + 1) y (by simpa using hy); rwa [show k + (j + 1) = k + 1 + j by omega] at this)
            simp only [List.length_cons, loadBytes, Sem.run_bind, run_load, h0, Result.andThen_ok, addr_add, this]
            congr 2
            simp [ByteArray.push]
        have hl := hload ns (s + off) ByteArray.empty (fun j x hx => g3 j (.int .u8 x) (by simp [hx]))
        rw [hlen] at hl
        have hbcap := hr.low bk _ hb
        have hbut : But c' w (w.freeze ⟨c', s + off, none⟩ n.toNat) := by
          unfold World.freeze
          split
          · exact But.refl _ _
          · exact ⟨by simp, fun k hk => by simp only [Array.getElem?_modify]; rw [if_neg (fun e => hk e.symm)], rfl, rfl, rfl⟩
        refine Good.next ⟨ρ, w.freeze ⟨c', s + off, none⟩ n.toNat, .string ⟨⟨ns.map fun n => UInt8.ofNat n.toNat⟩⟩, Step.upd hr hb rfl hρ hbcap rfl trivial hbut.size hbut.oth hbut.os hbut.tape hbut.output, by simp [ren], ?_⟩
        have hmx : ¬ (n > IntKind.i64.max) := by
          show ¬ (n > 9223372036854775807)
          omega
        have hel : (elemOf t).run P w = .ok be w := by simp [elemOf, ok.run_underlying hi, hu]
        have hn0 : ¬ n = 0 := by omega
        have hneg : ¬ n < 0 := by omega
        have hasn : (asInt (.int kn n)).run P w = .ok n w := rfl
        have hU : ∀ a, Builtin.unsafeString_ ats ty #[.pointer (some a), .int kn n] = (asInt (.int kn n) >>= _) := fun a => rfl
        rw [hU]
        simp only [Sem.run_bind, ht, hasn, Result.andThen_ok, hneg, if_false, hmx, hn0, hel, hvar, if_true, hl, run_freeze, Sem.run_pure]
        rfl
      · cases e
    · cases e
  · cases e

end Go.Ev
