/- A deterministic evaluator of the model's code over a memory of its own: append, copy, make. -/
import Derived.Test.YthhohhbkeaghnaaEVf
set_option linter.unusedSimpArgs false
set_option linter.unusedVariables false
set_option linter.unusedSectionVars false
namespace Go.Ev
variable {E : Env} {P : Program}

theorem plainL_bytes (l : List UInt8) : plainL (l.map fun (b : UInt8) => Value.int .u8 b.toNat) = true := by
  induction l with
  | nil => rfl
  | cons b l ih => simp [plainL, plainZ, ih]

theorem aFirst_sound {ρ : Rn} {h : AH} {w : World} (hr : WRel ρ h w) {size n : Nat} {x x' : Value} {vs : List Value} (hx : ren ρ x = some x') (e : aFirst size n x h = some vs) :
    ∃ vs', renL ρ vs = some vs' ∧ (Builtin.firstCells size n x').run P w = .ok ⟨vs'⟩ w := by
  unfold aFirst at e
  split at e
  · cases e
    simp [ren] at hx; subst hx
    exact ⟨[], by simp [renL], by simp [Builtin.firstCells]⟩
  · rename_i b off len cp
    rw [oget_some] at e; obtain ⟨blk, hb, e⟩ := e
    obtain ⟨c, s, x0, hρ, rfl⟩ := ren_slice hx
    obtain ⟨vs', h1, h2, h3⟩ := (hr.blk b blk hb c s x0 hρ).row e
    exact ⟨vs', h1, by simp only [Builtin.firstCells]; exact run_row' h2 h3⟩
  · rename_i s
    cases e
    simp [ren] at hx; subst hx
    refine ⟨_, plainL_ren ρ _ (plainL_bytes _), ?_⟩
    simp only [Builtin.firstCells, Sem.run_pure, data_extract, List.drop_zero, Nat.sub_zero]
    congr 1
    apply Array.ext'
    simp
  · cases e

theorem lenV_sound {ρ : Rn} {w : World} {x x' : Value} {n : Nat} (hx : ren ρ x = some x') (e : lenV x = some n) : (Builtin.lenOf x').run P w = .ok n w := by
  cases x with
  | slice a l c =>
    simp [lenV] at e; subst e
    rcases a with _ | ⟨b, o, _ | _⟩
    · simp [ren] at hx; subst hx; rfl
    · obtain ⟨c', s, x0, _, rfl⟩ := ren_slice hx; rfl
    · simp [ren] at hx
  | string s => simp [lenV] at e; simp [ren] at hx; subst hx; subst e; rfl
  | _ => simp [lenV] at e

theorem repl_length (z : List Value) : ∀ n, (repl z n).length = n * z.length
  | 0 => by simp [repl]
  | n + 1 => by simp [repl, repl_length z n, Nat.succ_mul]; omega

theorem repl_get (z : List Value) : ∀ n i, i < n * z.length → (repl z n)[i]? = z[i % z.length]?
  | 0, i, h => by omega
  | n + 1, i, h => by
    have hz : 0 < z.length := by
      rcases Nat.eq_zero_or_pos z.length with e | e
      · rw [e] at h; omega
      · exact e
    simp only [repl]
    by_cases hi : i < z.length
    · rw [List.getElem?_append_left hi, Nat.mod_eq_of_lt hi]
    · rw [List.getElem?_append_right (by omega), repl_get z n (i - z.length) (by rw [Nat.add_one_mul] at h; omega)]
      congr 1
      exact (Nat.mod_eq_sub_mod (by omega)).symm

theorem range_repl (z : Array Value) (n m : Nat) (hm : m = n * z.size) : (Array.range m).map (fun i => z[i % z.size]!) = ⟨repl z.toList n⟩ := by
  apply Array.ext'
  apply List.ext_getElem?
  intro i
  simp only [Array.toList_map, Array.toList_range, List.getElem?_map]
  by_cases hi : i < m
  · have hz : 0 < z.size := by
      rcases Nat.eq_zero_or_pos z.size with e | e
      · rw [hm, e] at hi; omega
      · exact e
    have hlt : i % z.size < z.size := Nat.mod_lt _ hz
    rw [repl_get _ _ _ (by simpa [← hm] using hi)]
    simp [hi, getElem!_pos z (i % z.size) hlt, Array.getElem?_eq_getElem hlt]
  · rw [List.getElem?_eq_none (by simpa using hi), List.getElem?_eq_none (by rw [repl_length]; simp [← hm]; omega)]
    rfl

theorem renL_repl {ρ : Rn} {z : List Value} (hz : renL ρ z = some z) : ∀ n, renL ρ (repl z n) = some (repl z n)
  | 0 => by simp [repl, renL]
  | n + 1 => renL_append hz (renL_repl hz n)

/-- What append's second argument is. -/
structure NewRun (P : Program) (w : World) (xt : Option TypeId) (size : Nat) (el : TypeId) (x' : Value) (n : Nat) (vs' : List Value) (zeros : Bool) : Prop where
  kind : ∃ t u, xt = some t ∧ (underlying t).run P w = .ok u w ∧ ((zeros = true ∧ ∃ k, u = .int k) ∨ (zeros = false ∧ ∀ k, u ≠ .int k))
  plain : zeros = false → (Builtin.lenOf x').run P w = .ok n w ∧ (Builtin.firstCells size n x').run P w = .ok ⟨vs'⟩ w
  zero : zeros = true → ∃ k m z, x' = .int k m ∧ IntKind.i64.wrap m = m ∧ 0 ≤ m ∧ m.toNat = n ∧ (zeroValue el).run P w = .ok z w ∧ z.cells.size = size ∧ vs' = repl z.cells.toList n

theorem wrap_small {m : Int} (h0 : 0 ≤ m) (h1 : m < 4294967296) : IntKind.i64.wrap m = m := by
  have e : m % (18446744073709551616 : Int) = m := Int.emod_eq_of_lt h0 (by omega)
  have h2 : ¬ (m % (18446744073709551616 : Int) ≥ 9223372036854775808) := by omega
  show (if (true && decide (m % (18446744073709551616 : Int) ≥ 9223372036854775808)) = true then _ else m % (18446744073709551616 : Int)) = m
  rw [if_neg (by simpa using h2), e]

theorem aNew_sound (ok : Ok E P) {ρ : Rn} {h : AH} {w : World} (hr : WRel ρ h w) {el : TypeId} {ei : TInfo} (hei : tInfo E el = some ei) {xt : Option TypeId} {x x' : Value} {n : Nat} {vs : List Value} (hx : ren ρ x = some x') (e : aNew E ei xt x h = some (n, vs)) :
    ∃ vs' zeros, renL ρ vs = some vs' ∧ NewRun P w xt ei.size el x' n vs' zeros ∧ (zeros = true → n * ei.bytes < 4294967296) := by
  have other : ∀ ti, (xt.bind (tInfo E)) = some ti → (∀ k, ti.und ≠ .int k) → (oget (lenV x) fun n => oget (aFirst ei.size n x h) fun vs => some (n, vs)) = some (n, vs) →
      ∃ vs' zeros, renL ρ vs = some vs' ∧ NewRun P w xt ei.size el x' n vs' zeros ∧ (zeros = true → n * ei.bytes < 4294967296) := by
    intro ti ht hk e
    rw [oget_some] at e; obtain ⟨n', hn, e⟩ := e
    rw [oget_some] at e; obtain ⟨us, hu, e⟩ := e
    cases e
    obtain ⟨vs', h1, h2⟩ := aFirst_sound (P := P) hr hx hu
    refine ⟨vs', false, h1, ⟨?_, fun _ => ⟨lenV_sound hx hn, h2⟩, by simp⟩, by simp⟩
    cases xt with
    | none => simp at ht
    | some t => exact ⟨t, ti.und, rfl, ok.run_underlying ht w, .inr ⟨rfl, hk⟩⟩
  unfold aNew at e
  split at e
  · rename_i k m
    split at e
    · rename_i k' sz by' zr sk z ht hz
      rw [bif_some] at e
      obtain ⟨hc, e⟩ := e
      simp only [Bool.and_eq_true, decide_eq_true_eq] at hc
      cases e
      have hzr := ren_cells (ok.zero hei hz ρ)
      simp [ren] at hx; subst hx
      refine ⟨_, true, renL_repl hzr _, ⟨?_, by simp, fun _ => ⟨k, m, z, rfl, wrap_small hc.1.1.1 hc.1.1.2, hc.1.1.1, rfl, ok.run_zero hei hz w, ?_, rfl⟩⟩, fun _ => of_blt hc.2⟩
      · cases xt with
        | none => simp at ht
        | some t => exact ⟨t, _, rfl, ok.run_underlying ht w, .inl ⟨rfl, _, rfl⟩⟩
      · have := of_beq hc.1.2
        simpa using this
    · cases e
  · split at e
    · cases e
    · cases e
    · rename_i hnn hns
      cases hxt : xt.bind (tInfo E) with
      | none => exact absurd hxt hns
      | some ti =>
        refine other ti hxt (fun k hk => ?_) e
        obtain ⟨u, a, b, c, d⟩ := ti
        simp at hk
        subst hk
        exact hnn _ _ _ _ _ hxt

theorem zeroCells_repl (z : Array Value) (n : Nat) : Builtin.zeroCells z n = ⟨repl z.toList n⟩ := range_repl z n _ rfl

theorem andThen_of {α β : Type} {r r' : Result α} {f : α → World → Result β} {x : Result β} (h : r = r') (k : r'.andThen f = x) : r.andThen f = x := by subst h; exact k

/-- The beginning of append, done. -/
theorem append_fits (ok : Ok E P) {w : World} {st el : TypeId} {i ei : TInfo} (hi : tInfo E st = some i) (hu : i.und = .slice el) (hei : tInfo E el = some ei) {ats : Array TypeId} {ty : TypeId} (h0 : ats[0]? = some st)
    {x' : Value} {n : Nat} {vs' : List Value} {zeros : Bool} (nr : NewRun P w ats[1]? ei.size el x' n vs' zeros) (hb : zeros = true → n * ei.bytes < 4294967296)
    {base : Option Addr} {sl cp : Nat} (hfit : sl + n ≤ cp) :
    (Builtin.append_ ats ty #[.slice base sl cp, x']).run P w = (match base with
      | some a => ((storeCells (a.add (sl * ei.size)) vs').run P w).andThen fun _ w => .ok (.slice base (sl + n) cp) w
      | none => .ok (.slice base (sl + n) cp) w) := by
  obtain ⟨info, hinfo, _, hbytes, _⟩ := ok.run_typeInfo hei w
  obtain ⟨xt, u, hxt, hxu, hk⟩ := nr.kind
  unfold Builtin.append_
  simp only [h0, hxt, List.getElem?_toArray, List.getElem?_cons_zero, List.getElem?_cons_succ, Sem.run_bind, ok.run_underlying hi, hu, Result.andThen_ok, ok.run_sizeOf hei, hxu]
  rcases hk with ⟨rfl, kk, rfl⟩ | ⟨rfl, hk⟩
  rotate_left
  · obtain ⟨p1, p2⟩ := nr.plain rfl
    refine andThen_of (r' := .ok false w) (by cases u <;> first | rfl | exact absurd rfl (hk _)) ?_
    simp only [Bool.false_eq_true, if_false, p1, Result.andThen_ok, hfit, if_true, Bool.not_false, p2, Sem.run_bind]
    cases base <;> simp
  · obtain ⟨k, m, z, rfl, hm, h0m, hmn, hz, hzs, rfl⟩ := nr.zero rfl
    have hb := hb rfl
    have hle : ¬ (m * (ei.bytes : Int) > 2 ^ 48) := by
      have : m = (n : Int) := by omega
      subst this
      rw [← Int.natCast_mul]
      omega
    refine andThen_of (r' := .ok true w) rfl ?_
    have hai : (asInt (.int k m)).run P w = .ok m w := rfl
    have hneg : ¬ m < 0 := by omega
    simp only [if_true, hai, Sem.run_bind, Sem.run_pure, Result.andThen_ok, hm, hneg, if_false, hinfo, hbytes, hle, hmn, hfit, Bool.not_true, Bool.false_eq_true]
    by_cases hns : n * ei.size = 0
    · have : repl z.cells.toList n = [] := by
        apply List.eq_nil_of_length_eq_zero
        rw [repl_length, Array.length_toList, hzs]; exact hns
      simp only [hns, if_true, this]
      cases base <;> simp
    · simp only [hns, if_false, Sem.run_bind, hz, Result.andThen_ok, Sem.run_pure, zeroCells_repl]
      cases base <;> simp

theorem append_grows (ok : Ok E P) {w : World} {st el : TypeId} {i ei : TInfo} (hi : tInfo E st = some i) (hu : i.und = .slice el) (hei : tInfo E el = some ei) {z : Value} (hz : ei.zero = some z) {ats : Array TypeId} {ty : TypeId} (h0 : ats[0]? = some st)
    {x' : Value} {n : Nat} {vs' : List Value} {zeros : Bool} (nr : NewRun P w ats[1]? ei.size el x' n vs' zeros) (hb : zeros = true → n * ei.bytes < 4294967296)
    {base : Option Addr} {sl cp : Nat} (hgrow : cp < sl + n) (hsz : 0 < ei.size) (hn1 : (sl + n) * ei.size < 4294967296) (hn2 : (sl + n) * ei.bytes < 4294967296) (hzl : z.cells.size = ei.size)
    {old : List Value} (hold : (Builtin.firstCells ei.size sl (.slice base sl cp)).run P w = .ok ⟨old⟩ w) (hfr : ∀ w', w'.heap = w.heap → (Builtin.firstCells ei.size sl (.slice base sl cp)).run P w' = .ok ⟨old⟩ w')
    (hnew : zeros = false → ∀ w', w'.heap = w.heap → (Builtin.firstCells ei.size n x').run P w' = .ok ⟨vs'⟩ w') :
    ∃ k rest w', (Builtin.append_ ats ty #[.slice base sl cp, x']).run P w = .ok (.slice (some ⟨w.heap.size, 0, none⟩) (sl + n) (sl + n + k)) w' ∧ rest.length = k * ei.size ∧
      w'.heap = w.heap.push (.cells ⟨old ++ vs' ++ rest⟩ el (0, 0)) ∧ w'.os = w.os ∧ w'.tape = w.tape ∧ w'.output = w.output := by
  obtain ⟨info, hinfo, _, hbytes, _⟩ := ok.run_typeInfo hei w
  have hinfo' : ∀ w, (typeInfo el).run P w = .ok info w := by
    intro w2
    obtain ⟨_, inf, h1, h2, h3, _⟩ := ok.und hei
    have a1 : (typeInfo el).run P w2 = .ok inf w2 := by simp [typeInfo, h1]
    have a2 : (typeInfo el).run P w = .ok inf w := by simp [typeInfo, h1]
    rw [a2] at hinfo; cases hinfo; exact a1
  have hneed : sl + n < 4294967296 := Nat.lt_of_le_of_lt (Nat.le_mul_of_pos_right _ hsz) hn1
  have hslice : ¬ ((sl + n : Nat) : Int) > IntKind.i64.max := by
    show ¬ ((sl + n : Nat) : Int) > 9223372036854775807
    omega
  have hcapfits : ¬ (Builtin.nextslicecap (sl + n) cp * ei.bytes > 2 ^ 48) := by
    have := growslice_fits (bytes := ei.bytes) hgrow (by omega)
    omega
  obtain ⟨t, ht⟩ : ∃ t, w.tape w.drawn (.appendCap (sl + n) cp el) = t := ⟨_, rfl⟩
  refine ⟨t % (2 ^ 63 - (sl + n)), repl z.cells.toList (t % (2 ^ 63 - (sl + n))), { w with drawn := w.drawn + 1, heap := w.heap.push (.cells ⟨old ++ vs' ++ repl z.cells.toList (t % (2 ^ 63 - (sl + n)))⟩ el (0, 0)) }, ?_, by rw [repl_length, Array.length_toList, hzl], rfl, rfl, rfl, rfl⟩
  obtain ⟨xt, u, hxt, hxu, hk⟩ := nr.kind
  unfold Builtin.append_
  simp only [h0, hxt, List.getElem?_toArray, List.getElem?_cons_zero, List.getElem?_cons_succ, Sem.run_bind, ok.run_underlying hi, hu, Result.andThen_ok, ok.run_sizeOf hei, hxu]
  have choose : ∀ (w : World), w.tape w.drawn (.appendCap (sl + n) cp el) = t → (Go.choose (.appendCap (sl + n) cp el)).run P w = .ok (sl + n + t % (2 ^ 63 - (sl + n))) { w with drawn := w.drawn + 1 } := by
    intro w ht
    simp [run_choose, Question.forced, Question.cut, ht]
  rcases hk with ⟨rfl, kk, rfl⟩ | ⟨rfl, hk⟩
  rotate_left
  · obtain ⟨p1, p2⟩ := nr.plain rfl
    refine andThen_of (r' := .ok false w) (by cases u <;> first | rfl | exact absurd rfl (hk _)) ?_
    simp only [Bool.false_eq_true, if_false, p1, Result.andThen_ok, show ¬ sl + n ≤ cp by omega, Bool.not_false, if_true, Sem.run_bind, hinfo', hbytes, hslice, false_and, hcapfits, choose w ht, run_askRoom, hfr { w with drawn := w.drawn + 1 } rfl, hnew rfl { w with drawn := w.drawn + 1 } rfl,
      ok.run_zero hei hz, run_newRow, Sem.run_pure, zeroCells_repl]
    simp [Nat.add_sub_cancel_left]
  · obtain ⟨k, m, z', rfl, hm, h0m, hmn, hz', hzs, rfl⟩ := nr.zero rfl
    have hzz : z' = z := by
      have := ok.run_zero hei hz w
      rw [hz'] at this; cases this; rfl
    subst hzz
    have hb := hb rfl
    have hle : ¬ (m * (ei.bytes : Int) > 2 ^ 48) := by
      have : m = (n : Int) := by omega
      subst this
      rw [← Int.natCast_mul]
      omega
    refine andThen_of (r' := .ok true w) rfl ?_
    have hai : (asInt (.int k m)).run P w = .ok m w := rfl
    have hneg : ¬ m < 0 := by omega
    simp only [if_true, hai, Sem.run_bind, Sem.run_pure, Result.andThen_ok, hm, hneg, if_false, hinfo', hbytes, hle, hmn, show ¬ sl + n ≤ cp by omega, hslice, false_and, hcapfits, choose w ht, run_askRoom, hfr { w with drawn := w.drawn + 1 } rfl, Bool.not_true, Bool.false_eq_true,
      ok.run_zero hei hz]
    by_cases hns : n * ei.size = 0
    · have : repl z'.cells.toList n = [] := by
        apply List.eq_nil_of_length_eq_zero
        rw [repl_length, Array.length_toList, hzs]; exact hns
      simp only [hns, if_true, this, Sem.run_pure, Result.andThen_ok, run_newRow, zeroCells_repl]
      simp [Nat.add_sub_cancel_left]
    · simp only [hns, if_false, Sem.run_bind, ok.run_zero hei hz, Result.andThen_ok, Sem.run_pure, zeroCells_repl, run_newRow]
      simp [Nat.add_sub_cancel_left]

/-- A block gives way to a new one in the same place of the world. -/
theorem Step.move {ρ : Rn} {h : AH} {w w' : World} (hr : WRel ρ h w) {b : Nat} {blk0 blk : Blk} {c s x s' x' : Nat} (hb : h.b.get b = some blk0) (ho : blk0.own = true) (hc : ρ b = some (c, s, x)) (hn : ρ h.next = none) (hcap : h.next < cap)
    (hro : blk.isRo = false) (hk : BlkRel (ρ.ins h.next (c, s', x')) w' c s' x' blk) (hw : But c w w') :
    Step ρ h w (ρ.ins h.next (c, s', x')) ((h.upd b .dead).new blk) w' := by
  have hbc := hr.low b _ hb
  have S1 : Step ρ h w ρ (h.upd b .dead) w' := Step.upd hr hb ho hc hbc rfl trivial hw.size hw.oth hw.os hw.tape hw.output
  have hsub : Sub ρ (ρ.ins h.next (c, s', x')) := Rn.sub_ins hn
  have hg1 : ∀ k, (h.upd b .dead).b.get k = if k = b then some .dead else h.b.get k := fun k => Tr.get_put _ _ _ _ hbc
  have hg : ∀ k, ((h.upd b .dead).new blk).b.get k = if k = h.next then some blk else (h.upd b .dead).b.get k := fun k => Tr.get_put _ _ _ _ hcap
  have hins : ∀ k r, k ≠ h.next → ρ.ins h.next (c, s', x') k = some r → ρ k = some r := fun k r e q => by unfold Rn.ins at q; rwa [if_neg e] at q
  have hself : ∀ r, ρ.ins h.next (c, s', x') h.next = some r → r = (c, s', x') := fun r q => by unfold Rn.ins at q; rw [if_pos rfl] at q; cases q; rfl
  have alone : ∀ k blk', (h.upd b .dead).b.get k = some blk' → blk'.own = true → ∀ c1 s1 x1, ρ k = some (c1, s1, x1) → c1 ≠ c := fun k blk' e o c1 s1 x1 q ec => by
    subst ec
    rw [hg1] at e
    by_cases ek : k = b
    · rw [if_pos ek] at e; cases e; simp [Blk.own] at o
    · rw [if_neg ek] at e; exact ek (hr.inj k b blk' blk0 e hb o ho _ _ _ _ _ q hc)
  have aloneRo : ∀ k blk', (h.upd b .dead).b.get k = some blk' → blk'.isRo = true → ∀ c1 s1 x1, ρ k = some (c1, s1, x1) → c1 ≠ c := fun k blk' e o c1 s1 x1 q ec => by
    subst ec
    rw [hg1] at e
    by_cases ek : k = b
    · rw [if_pos ek] at e; cases e; simp [Blk.isRo] at o
    · rw [if_neg ek] at e; exact hr.apart b k blk0 blk' hb e ho o _ _ _ _ _ hc q
  refine ⟨hsub, fun k e hk' => ?_, Nat.le_succ _, ⟨fun k blk' hk' => ?_, fun k blk' hk' c1 s1 x1 hc' => ?_, fun k k' blk1 blk2 e1 e2 o1 o2 c1 s1 x1 s2 x2 r1 r2 => ?_, fun k k' blk1 blk2 e1 e2 o1 o2 c1 s1 x1 s2 x2 r1 r2 => ?_⟩, S1.size, S1.os, S1.tape, S1.output, S1.keep, fun k e hk' => ?_, fun k blk' c1 s1 x1 e1 o1 r1 hlt hf => ?_⟩
  · unfold Rn.ins
    have : k ≠ h.next := by
      intro e'; subst e'
      have hs : ((h.upd b .dead).new blk).next = h.next + 1 := rfl
      rcases hk' with hk' | hk' <;> omega
    rw [if_neg this]; exact e
  · rw [hg] at hk'
    by_cases e : k = h.next
    · rw [e]; exact hcap
    · rw [if_neg e] at hk'; exact S1.rel.low k blk' hk'
  · rw [hg] at hk'
    by_cases e : k = h.next
    · rw [if_pos e] at hk'; cases hk'
      subst e
      have := hself _ hc'; cases this
      exact hk
    · rw [if_neg e] at hk'
      exact (S1.rel.blk k blk' hk' c1 s1 x1 (hins _ _ e hc')).mono hsub
  · rw [hg] at e1 e2
    by_cases a1 : k = h.next
    · rw [if_pos a1] at e1; cases e1
      subst a1
      have q1 := hself _ r1
      by_cases a2 : k' = h.next
      · exact a2.symm
      · rw [if_neg a2] at e2
        cases q1
        exact absurd rfl (alone k' blk2 e2 o2 _ _ _ (hins _ _ a2 r2))
    · rw [if_neg a1] at e1
      by_cases a2 : k' = h.next
      · rw [if_pos a2] at e2; cases e2
        subst a2
        have q2 := hself _ r2
        cases q2
        exact absurd rfl (alone k blk1 e1 o1 _ _ _ (hins _ _ a1 r1))
      · rw [if_neg a2] at e2
        exact S1.rel.inj k k' blk1 blk2 e1 e2 o1 o2 _ _ _ _ _ (hins _ _ a1 r1) (hins _ _ a2 r2)
  · rw [hg] at e1 e2
    have a2 : k' ≠ h.next := by
      intro e; rw [if_pos e] at e2; cases e2; rw [hro] at o2; cases o2
    rw [if_neg a2] at e2
    by_cases a1 : k = h.next
    · subst a1
      have q1 := hself _ r1
      cases q1
      exact absurd rfl (aloneRo k' blk2 e2 o2 _ _ _ (hins _ _ a2 r2))
    · rw [if_neg a1] at e1
      exact S1.rel.apart k k' blk1 blk2 e1 e2 o1 o2 _ _ _ _ _ (hins _ _ a1 r1) (hins _ _ a2 r2)
  · rw [hg, if_neg (by omega)]
    exact S1.same k e hk'
  · rw [hg] at e1
    by_cases a1 : k = h.next
    · subst a1
      have q1 := hself _ r1
      cases q1
      exact hf b blk0 s x hb ho hc
    · rw [if_neg a1] at e1
      exact S1.img k blk' c1 s1 x1 e1 o1 (hins _ _ a1 r1) hlt hf

theorem row_of {ρ : Rn} {w : World} {c s x n : Nat} {t : Tr Value} {el : TypeId} {o : Nat} {wh : Bool} (h : BlkRel ρ w c s x (.cells n t el o wh)) {off m : Nat} (hm : off + m ≤ n) :
    ∃ old, getCells (Blk.cells n t el o wh).cell off m = some old ∧ getCells t.get off m = some old := by
  obtain ⟨C, lo, hi, _, _, _, h4, _⟩ := h
  have ex : ∀ i, i < m → ∃ v, t.get (off + i) = some v := fun i hi => let ⟨v, _, e, _⟩ := h4 (off + i) (by omega); ⟨v, e⟩
  have hc : ∀ i, i < m → t.get (off + i) = some ((t.get (off + i)).getD undef') := fun i hi => by obtain ⟨v, e⟩ := ex i hi; rw [e]; rfl
  refine ⟨(List.range m).map fun i => (t.get (off + i)).getD undef', getCells_ok _ (fun i hi => ?_), getCells_ok _ hc⟩
  simp only [Blk.cell]
  rw [show Nat.blt (off + i) n = true from Nat.ble_eq_true_of_le (by omega)]
  exact hc i hi

theorem aAppend_sound (ok : Ok E P) {ρ : Rn} {h h' : AH} {w : World} (hr : WRel ρ h w) {st : TypeId} {s s' x x' v : Value} (hs : ren ρ s = some s') (hx : ren ρ x = some x') {ats : Array TypeId} {ty : TypeId} (h0 : ats[0]? = some st)
    (e : aAppend E st ats[1]? s x h = some (v, h')) (room : Room ρ h.next h'.next) : Good P ρ h w (Builtin.append_ ats ty #[s', x']) v h' := by
  unfold aAppend at e
  rw [oget_some] at e; obtain ⟨i, hi, e⟩ := e
  split at e
  · rename_i el base sl cp hu
    rw [oget_some] at e; obtain ⟨ei, hei, e⟩ := e
    rw [oget_some] at e; obtain ⟨⟨n, vs⟩, hnew, e⟩ := e
    obtain ⟨vs', zeros, hv, nr, hbz⟩ := aNew_sound ok hr hei hx hnew
    simp only at e
    cases hfit : Nat.ble (sl + n) cp with
    | true =>
      have hfit' := of_ble hfit
      simp only [hfit, cond_true] at e
      split at e
      · -- nil
        simp only [bif_some, Option.some.injEq, Prod.mk.injEq] at e
        obtain ⟨_, rfl, rfl⟩ := e
        simp [ren] at hs; subst hs
        exact Good.same hr (v' := .slice none (sl + n) cp) (by simp [ren]) (by rw [append_fits ok hi hu hei h0 nr hbz hfit'])
      · rename_i b off
        obtain ⟨c, sh, x0, hρ, rfl⟩ := ren_slice hs
        have run := append_fits (ty := ty) ok hi hu hei h0 nr hbz (base := some ⟨c, sh + off, none⟩) (sl := sl) (cp := cp + x0) (by omega)
        simp only [addr_add] at run
        cases hl : vs.length.beq 0 with
        | true =>
          simp only [hl, cond_true, Option.some.injEq, Prod.mk.injEq] at e
          obtain ⟨rfl, rfl⟩ := e
          have hvs : vs = [] := List.eq_nil_of_length_eq_zero (of_beq hl)
          subst hvs
          rw [renL_nil.1 hv] at run
          exact Good.same hr (v' := .slice (some ⟨c, sh + off, none⟩) (sl + n) (cp + x0)) (by simp [ren, hρ]) (by rw [run]; simp [storeCells])
        | false =>
          simp only [hl, cond_false] at e
          rw [oget_some] at e; obtain ⟨h1, hw, e⟩ := e
          cases e
          have hbcap : b < cap := by
            unfold aWrite at hw
            split at hw
            · rename_i hblk; exact hr.low b _ hblk
            · cases hw
          obtain ⟨w', g1, g2⟩ := aWrite_sound (P := P) hr hv hρ hbcap hw
          refine ⟨ρ, w', .slice (some ⟨c, sh + off, none⟩) (sl + n) (cp + x0), g2, by simp [ren, hρ], ?_⟩
          rw [run, show sh + off + sl * ei.size = sh + (off + sl * ei.size) by omega, g1]
          rfl
      · cases e
    | false =>
      have hfit' : cp < sl + n := by
        have : ¬ sl + n ≤ cp := fun hh => by rw [Nat.ble_eq_true_of_le hh] at hfit; cases hfit
        omega
      simp only [hfit, cond_false] at e
      split at e
      · cases e
      · rename_i z hz
        rw [bif_some] at e
        obtain ⟨hc, e⟩ := e
        simp only [Bool.and_eq_true] at hc
        obtain ⟨⟨⟨⟨⟨⟨⟨q1, q2⟩, q3⟩, q4⟩, q5⟩, q6⟩, q7⟩, q8⟩ := hc
        have q1 := of_blt q1
        have q2 := of_blt q2
        have q3 := of_blt q3
        have q4 := of_beq q4
        have q6 := of_blt q6
        have q7 := of_beq q7
        rw [Array.length_toList] at q7
        have hvl := renL_length hv
        have hcap : cap = 1099511627776 := rfl
        have hnewrun : zeros = false → ∀ w', w'.heap = w.heap → (Builtin.firstCells ei.size n x').run P w' = .ok ⟨vs'⟩ w' := by
          intro hz' w' hw'
          have hr' : WRel ρ h w' := ⟨hr.low, fun b blk hb c s x hρ => (hr.blk b blk hb c s x hρ).congr (by rw [hw']), hr.inj, hr.apart⟩
          obtain ⟨_, p2⟩ := nr.plain hz'
          -- the same cells are read
          cases x' with
          | slice a l cc =>
            cases a with
            | none => simp [Builtin.firstCells] at p2 ⊢; exact p2
            | some a =>
              unfold aNew at hnew
              split at hnew
              · simp [ren] at hx
              · split at hnew
                · cases hnew
                · cases hnew
                · rw [oget_some] at hnew; obtain ⟨n', hn', hnew⟩ := hnew
                  rw [oget_some] at hnew; obtain ⟨us, hus, hnew⟩ := hnew
                  cases hnew
                  obtain ⟨vs2, k1, k2⟩ := aFirst_sound (P := P) hr' hx hus
                  rw [hv] at k1; cases k1
                  exact k2
          | string s => simp [Builtin.firstCells] at p2 ⊢; exact p2
          | _ => simp [Builtin.firstCells] at p2
        have rest_len : ∀ {rest : List Value} {k : Nat}, rest.length = k * ei.size → ei.size = 0 → k = 0 := fun _ h => by omega
        split at e
        · -- nil
          simp only [bif_some, Bool.and_eq_true, Option.some.injEq, Prod.mk.injEq] at e
          obtain ⟨⟨a1, a2⟩, rfl, rfl⟩ := e
          have a1 := of_beq a1
          have a2 := of_beq a2
          subst a1; subst a2
          simp [ren] at hs; subst hs
          obtain ⟨k, rest, w', r1, r2, r3, r4, r5, r6⟩ := append_grows (ty := ty) ok hi hu hei hz h0 nr hbz (base := none) hfit' q1 q2 q3 q7 (old := []) (by simp [Builtin.firstCells]) (fun _ _ => by simp [Builtin.firstCells]) hnewrun
          have hn : ρ h.next = none := room _ (Nat.le_refl _) (Nat.lt_succ_self _)
          refine ⟨_, w', .slice (some ⟨w.heap.size, 0, none⟩) n (n + k), Step.newCells hr hv q6 hn rest ei.size k r2 (fun hh => by omega) el (by simpa using r3) r4 r5 r6 q4.symm _ ?_, by simp [ren, ins_self], by simpa using r1⟩
          intro j hj
          rw [Nat.zero_add] at q2
          exact putNil_get (by omega) j (by omega)
        · rename_i b off
          obtain ⟨c, sh, x0, hρ, rfl⟩ := ren_slice hs
          have hn : ρ h.next = none := by
            refine room _ (Nat.le_refl _) ?_
            split at e
            · rename_i m ct be o wh hblk
              rw [bif_some] at e; obtain ⟨_, e⟩ := e
              rw [oget_some] at e; obtain ⟨_, _, e⟩ := e
              cases ho : o.beq 0 with
              | true => simp only [ho, cond_true, Option.some.injEq, Prod.mk.injEq] at e; rw [← e.2]; exact Nat.lt_succ_self _
              | false =>
                simp only [ho, cond_false, bif_some, Option.some.injEq, Prod.mk.injEq] at e; rw [← e.2.2]; exact Nat.lt_succ_self _
            · rw [oget_some] at e; obtain ⟨_, _, e⟩ := e
              simp only [Option.some.injEq, Prod.mk.injEq] at e; rw [← e.2]; exact Nat.lt_succ_self _
            · cases e
          split at e
          · rename_i m ct be o wh hblk
            rw [bif_some] at e; obtain ⟨hm, e⟩ := e
            have hm := of_ble hm
            have hB := hr.blk b _ hblk c sh x0 hρ
            obtain ⟨old, ho1, ho2⟩ := row_of hB hm
            obtain ⟨old', ho3, ho4, ho5⟩ := hB.row ho1
            have hol : old.length = sl * ei.size := (getCells_spec ho2).1
            rw [oget_some] at e; obtain ⟨c0, hc0, e⟩ := e
            have hall : renL ρ (old ++ vs) = some (old' ++ vs') := renL_append ho3 hv
            have htot : (sl + n) * ei.size = (old ++ vs).length := by rw [List.length_append, hol, q4, Nat.add_mul]
            have htr : ∀ j, j < (sl + n) * ei.size → (putCells c0 (sl * ei.size) vs).get j = (old ++ vs)[j]? := by
              intro j hj
              rw [putCells_get _ _ _ _ (by rw [Nat.add_mul] at q2; omega)]
              by_cases hjo : j < sl * ei.size
              · rw [if_neg (by omega), List.getElem?_append_left (by omega)]
                cases hoff : off.beq 0 with
                | true =>
                  simp only [hoff, cond_true, Option.some.injEq] at hc0
                  subst hc0
                  have := (getCells_spec ho2).2 j old[j] (List.getElem?_eq_getElem (by omega))
                  rw [of_beq hoff, Nat.zero_add] at this
                  rw [this, List.getElem?_eq_getElem (by omega)]
                | false =>
                  simp only [hoff, cond_false] at hc0
                  rw [oget_some] at hc0; obtain ⟨old2, hc1, hc0⟩ := hc0
                  rw [ho2] at hc1; cases hc1
                  cases hc0
                  exact putNil_get (by rw [Nat.add_mul] at q2; omega) j (by omega)
              · rw [if_pos (by rw [Nat.add_mul] at hj; omega), List.getElem?_append_right (by omega), hol]
            have hold : ∀ w', w'.heap = w.heap → (Builtin.firstCells ei.size sl (.slice (some ⟨c, sh + off, none⟩) sl (cp + x0))).run P w' = .ok ⟨old'⟩ w' := by
              intro w' hw'
              simp only [Builtin.firstCells]
              exact run_row' ho4 (fun j v' hj => by rw [cell_congr (w := w) (by rw [hw'])]; exact ho5 j v' hj)
            obtain ⟨C, lo, hi', b1, b2, b3, b4, b5, b6⟩ := hB
            cases hoo : o.beq 0 with
            | true =>
              simp only [hoo, cond_true, Option.some.injEq, Prod.mk.injEq] at e
              obtain ⟨rfl, rfl⟩ := e
              have hx0 := b3 (of_beq hoo)
              subst hx0
              obtain ⟨k, rest, w', r1, r2, r3, r4, r5, r6⟩ := append_grows (ty := ty) ok hi hu hei hz h0 nr hbz (base := some ⟨c, sh + off, none⟩) hfit' q1 q2 q3 q7 (old := old') (hold w rfl) hold hnewrun
              exact ⟨_, w', .slice (some ⟨w.heap.size, 0, none⟩) (sl + n) (sl + n + k), Step.newCells hr hall q6 hn rest ei.size k r2 (fun hh => by omega) el r3 r4 r5 r6 htot _ htr wh, by simp [ren, ins_self], r1⟩
            | false =>
              simp only [hoo, cond_false, bif_some, Bool.and_eq_true, Option.some.injEq, Prod.mk.injEq] at e
              obtain ⟨⟨⟨o1, o2⟩, o3⟩, rfl, rfl⟩ := e
              have o1 := of_beq o1
              have o2 := of_beq o2
              have o3 := of_beq o3
              subst o1; subst o3
              have hbcap := hr.low b _ hblk
              by_cases hin : sl + n ≤ cp + x0
              · -- there is room behind
                have run := append_fits (ty := ty) ok hi hu hei h0 nr hbz (base := some ⟨c, sh + off, none⟩) (sl := sl) (cp := cp + x0) hin
                simp only [addr_add] at run
                have hmul : (sl + n) * ei.size ≤ cp * ei.size + x0 * ei.size := by rw [← Nat.add_mul]; exact Nat.mul_le_mul_right _ hin
                have hsn : (sl + n) * ei.size = sl * ei.size + n * ei.size := Nat.add_mul _ _ _
                obtain ⟨w', C', g1, g2, g3, g4, g5⟩ := run_storeCells (P := P) (c := c) (k := sh + off + sl * ei.size) vs' 0 C w b1 (by omega) b5 (all_plain hv q5)
                refine ⟨_, w', .slice (some ⟨c, sh + off, none⟩) (sl + n) (cp + x0), Step.move (s' := sh + off) (x' := cp + x0 - (sl + n)) hr hblk rfl hρ hn q6 rfl ?_ g5, ?_, ?_⟩
                · refine ⟨C', lo, hi', g2, ?_, fun hh => by omega, fun j hj => ?_, fun j hj => b5 j (by omega), b6.1, fun hh => by omega⟩
                  · have : (cp + x0 - (sl + n)) * ei.size + (sl + n) * ei.size = cp * ei.size + x0 * ei.size := by rw [← Nat.add_mul, ← Nat.add_mul, Nat.sub_add_cancel hin]
                    omega
                  · have hlt : j < (old ++ vs).length := by omega
                    obtain ⟨u', k1, k2⟩ := renL_get hall j _ (List.getElem?_eq_getElem hlt)
                    refine ⟨_, u', by rw [htr j hj]; exact List.getElem?_eq_getElem hlt, ren_mono (Rn.sub_ins hn) _ _ k1, ?_⟩
                    rw [g4]
                    by_cases hjo : j < sl * ei.size
                    · rw [if_neg (by omega)]
                      rw [List.getElem?_append_left (by omega)] at k2
                      have := ho5 j u' k2
                      simpa [World.cell?, b1] using this
                    · rw [if_pos (by omega)]
                      rw [List.getElem?_append_right (by omega)] at k2
                      rw [show sh + off + j - (sh + off + sl * ei.size + 0) = j - old'.length by omega]
                      exact k2
                · simp [ren, ins_self]; omega
                · rw [run, g1]; rfl
              · -- it moves
                obtain ⟨k, rest, w', r1, r2, r3, r4, r5, r6⟩ := append_grows (ty := ty) ok hi hu hei hz h0 nr hbz (base := some ⟨c, sh + off, none⟩) (cp := cp + x0) (by omega) q1 q2 q3 q7 (old := old') (hold w rfl) hold hnewrun
                have S1 : Step ρ h w ρ (h.upd b .dead) w := Step.upd hr hblk rfl hρ hbcap rfl trivial rfl (fun _ _ => rfl) rfl rfl rfl
                have S2 := Step.newCells (h := h.upd b .dead) S1.rel hall q6 hn rest ei.size k r2 (fun hh => by omega) be r3 r4 r5 r6 htot _ htr wh
                exact ⟨_, w', .slice (some ⟨w.heap.size, 0, none⟩) (sl + n) (sl + n + k), S1.trans S2, by simp [ren, AH.upd, ins_self], r1⟩
          · rename_i m f hblk
            rw [oget_some] at e; obtain ⟨old, hold, e⟩ := e
            simp only [Option.some.injEq, Prod.mk.injEq] at e
            obtain ⟨rfl, rfl⟩ := e
            have hx0 := (hr.blk b _ hblk c sh x0 hρ).1.1
            subst hx0
            obtain ⟨old', ho1, ho2⟩ := aFirst_sound (P := P) hr hs hold
            have hol : old.length = sl * ei.size := by
              simp only [aFirst, hblk, oget] at hold
              exact (getCells_spec hold).1
            have hold' : ∀ w', w'.heap = w.heap → (Builtin.firstCells ei.size sl (.slice (some ⟨c, sh + off, none⟩) sl (cp + 0))).run P w' = .ok ⟨old'⟩ w' := by
              intro w' hw'
              have hr' : WRel ρ h w' := ⟨hr.low, fun b blk hb c s x hρ => (hr.blk b blk hb c s x hρ).congr (by rw [hw']), hr.inj, hr.apart⟩
              obtain ⟨o2, k1, k2⟩ := aFirst_sound (P := P) hr' hs hold
              rw [ho1] at k1; cases k1
              exact k2
            obtain ⟨k, rest, w', r1, r2, r3, r4, r5, r6⟩ := append_grows (ty := ty) ok hi hu hei hz h0 nr hbz (base := some ⟨c, sh + off, none⟩) hfit' q1 q2 q3 q7 (old := old') (hold' w rfl) hold' hnewrun
            have htot : (sl + n) * ei.size = (old ++ vs).length := by rw [List.length_append, hol, q4, Nat.add_mul]
            exact ⟨_, w', .slice (some ⟨w.heap.size, 0, none⟩) (sl + n) (sl + n + k), Step.newCells hr (renL_append ho1 hv) q6 hn rest ei.size k r2 (fun hh => by omega) el r3 r4 r5 r6 htot _ (fun j hj => putNil_get (by omega) j (by omega)), by simp [ren, ins_self], r1⟩
          · cases e
        · cases e
  · cases e

end Go.Ev
