/- A deterministic evaluator of the model's code over a memory of its own: conversions, maps, builtins. -/
import Derived.Test.YthhohhbkeaghnaaEVj
set_option linter.unusedSimpArgs false
set_option linter.unusedVariables false
set_option linter.unusedSectionVars false
namespace Go.Ev
variable {E : Env} {P : Program}

theorem bytesV_spec : ∀ {vs : List Value} {bs : List UInt8}, bytesV vs = some bs → ∃ ns : List Int, vs = ns.map (Value.int .u8) ∧ bs = ns.map fun n => UInt8.ofNat n.toNat
  | [], bs, e => by simp [bytesV] at e; subst e; exact ⟨[], rfl, rfl⟩
  | v :: l, bs, e => by
    cases v with
    | int k n =>
      cases k <;> simp only [bytesV] at e <;> try cases e
      rw [oget_some] at e; obtain ⟨b, hb, e⟩ := e
      cases e
      obtain ⟨ns, h1, h2⟩ := bytesV_spec hb
      exact ⟨n :: ns, by simp [h1], by simp [h2]⟩
    | _ => simp [bytesV] at e

theorem foldl_push (ns : List Int) : ∀ (r : ByteArray), ns.foldl (fun r n => r.push (UInt8.ofNat n.toNat)) r = ⟨⟨r.data.toList ++ ns.map fun n => UInt8.ofNat n.toNat⟩⟩ := by
  induction ns with
  | nil => intro r; simp
  | cons n ns ih =>
    intro r
    simp only [List.foldl_cons, ih]
    congr 2
    simp [ByteArray.push]

theorem plainL_ints (k : IntKind) (ns : List Int) : plainL (ns.map (Value.int k)) = true := by
  induction ns with
  | nil => rfl
  | cons n l ih => simp [plainL, plainZ, ih]

theorem rowAt_whole (fits : TypeId → Bool) (d : Nat) {e : TypeId} {n : Nat} (hc : P.cellsOf e = n) (hn : 0 < n) (hf : fits e = true) : rowAt P fits (d + 1) e 1 0 1 = true := by
  have : P.cellsOf e ≠ 0 := by omega
  simp [rowAt, this, hf]

theorem liesAt_whole {e : TypeId} (hn : 0 < P.cellsOf e) : liesAt P P.depth e 1 0 e 1 = true := by
  have hd : P.depth = (2 * (P.types.size + Made.depth) + 1) + 1 := rfl
  rw [hd]
  simp only [liesAt, Bool.or_eq_true]
  left
  rw [hd]
  exact rowAt_whole _ _ rfl hn (by simp [sameLayout])

theorem liesAt_row {e : TypeId} (hc : P.cellsOf e = 1) (count off n : Nat) (hn : off + n ≤ count) : liesAt P P.depth e count off e n = true := by
  have hd : P.depth = (2 * (P.types.size + Made.depth) + 1) + 1 := rfl
  rw [hd]
  simp only [liesAt, Bool.or_eq_true]
  left
  rw [hd]
  simp [rowAt, hc, hn, sameLayout, Nat.mod_one]

theorem Ok.cellsOf (ok : Ok E P) {t : TypeId} {i : TInfo} (h : tInfo E t = some i) : P.cellsOf t = i.size := by
  obtain ⟨_, info, h1, h2, _⟩ := ok.und h
  simp [Program.cellsOf, h1, h2]

theorem aConvert_sound (ok : Ok E P) {ρ : Rn} {h h' : AH} {w : World} (hr : WRel ρ h w) {src dst : TypeId} {x x' v : Value} (hx : ren ρ x = some x') (e : aConvert E src dst x h = some (v, h')) (room : Room ρ h.next h'.next) :
    Good P ρ h w (convert src dst x') v h' := by
  unfold aConvert at e
  rw [oget_some] at e; obtain ⟨si, hsi, e⟩ := e
  rw [oget_some] at e; obtain ⟨di, hdi, e⟩ := e
  have hs := ok.run_underlying hsi w
  have hd := ok.run_underlying hdi w
  split at e
  · rename_i k0 k k1 n hu1 hu2
    cases e
    rw [ren_int.1 hx]
    refine Good.same hr (v' := .int k (k.wrap n)) (by simp [ren]) ?_
    simp only [convert, Sem.run_bind, hs, hd, hu1, hu2, Result.andThen_ok]
    rfl
  · rename_i s hu1 hu2
    cases e
    rw [ren_string.1 hx]
    refine Good.same hr (v' := .string s) (by simp [ren]) ?_
    simp only [convert, Sem.run_bind, hs, hd, hu1, hu2, Result.andThen_ok]
    rfl
  · rename_i el l c hu1 hu2
    rw [oget_some] at e; obtain ⟨ei, hei, e⟩ := e
    split at e
    · rename_i hu3
      cases e
      simp [ren] at hx; subst hx
      refine Good.same hr (v' := .string ⟨⟨[]⟩⟩) (by simp [ren]) ?_
      simp only [convert, Sem.run_bind, hs, hd, hu1, hu2, Result.andThen_ok, ok.run_underlying hei w, hu3]
      rfl
    · cases e
  · rename_i el b off len cp hu1 hu2
    rw [oget_some] at e; obtain ⟨ei, hei, e⟩ := e
    split at e
    · rename_i hu3
      rw [oget_some] at e; obtain ⟨blk, hb, e⟩ := e
      rw [oget_some] at e; obtain ⟨vs, hvs, e⟩ := e
      rw [oget_some] at e; obtain ⟨bs, hbs, e⟩ := e
      cases e
      obtain ⟨c, s, x0, hρ, rfl⟩ := ren_slice hx
      obtain ⟨vs', h1, h2, h3⟩ := (hr.blk b blk hb c s x0 hρ).row hvs
      obtain ⟨ns, rfl, rfl⟩ := bytesV_spec hbs
      rw [plainL_ren ρ _ (plainL_ints .u8 ns)] at h1
      cases h1
      refine Good.same hr (v' := .string ⟨⟨ns.map fun n => UInt8.ofNat n.toNat⟩⟩) (by simp [ren]) ?_
      have := run_bytesToString (P := P) w ⟨c, s + off, none⟩ len (cp + x0) ns (run_row' h2 h3)
      simp only [convert, Sem.run_bind, hs, hd, hu1, hu2, Result.andThen_ok, ok.run_underlying hei w, hu3, this, foldl_push]
      simp
    · cases e
  · rename_i el s hu1 hu2
    rw [oget_some] at e; obtain ⟨ei, hei, e⟩ := e
    split at e
    · rename_i hu3
      rw [bif_some] at e; obtain ⟨hc, e⟩ := e
      simp only [Bool.and_eq_true] at hc
      cases e
      have hcap := of_blt hc.1
      have hlen := of_blt hc.2
      rw [ren_string.1 hx]
      have hn : ρ h.next = none := room _ (Nat.le_refl _) (Nat.lt_succ_self _)
      obtain ⟨t, ht⟩ : ∃ t, w.tape w.drawn (.appendCap s.size 0 el) = t := ⟨_, rfl⟩
      have hch : (choose (.appendCap s.size 0 el)).run P w = .ok (s.size + t % (2 ^ 63 - s.size)) { w with drawn := w.drawn + 1 } := by
        simp [run_choose, Question.forced, Question.cut, ht]
      obtain ⟨k, hk⟩ : ∃ k, t % (2 ^ 63 - s.size) = k := ⟨_, rfl⟩
      rw [hk] at hch
      obtain ⟨cs, hcs⟩ : ∃ cs, s.data.toList.map (fun (b : UInt8) => Value.int .u8 b.toNat) = cs := ⟨_, rfl⟩
      have hcl : cs.length = s.data.toList.length := by rw [← hcs]; simp
      have hcr : renL ρ cs = some cs := by rw [← hcs]; exact plainL_ren ρ _ (plainL_bytes _)
      have hsub : Sub ρ (ρ.ins h.next (w.heap.size, 0, k)) := Rn.sub_ins hn
      rw [hcs]
      let C : Array Value := ⟨cs ++ List.replicate k (Value.int .u8 0)⟩
      have hCs : C.size = s.data.toList.length + k := by simp [C, hcl]
      let w' : World := { w with drawn := w.drawn + 1, heap := w.heap.push (.cells C el (C.size, C.size + 1)) }
      have hsd : s.data.toList.length = s.size := by simp
      refine ⟨ρ.ins h.next (w.heap.size, 0, k), w', .slice (some ⟨w.heap.size, 0, none⟩) s.data.toList.length (s.data.toList.length + k), ?_, by simp [ren, ins_self], ?_⟩
      · refine Step.new hr hn hcap rfl ?_ (by simp [w']) (fun _ => Nat.le_refl _) (fun j hj => by simp [w', Array.getElem?_push, Nat.ne_of_lt hj]) rfl rfl rfl
        refine ⟨C, C.size, C.size + 1, by simp [w'], by rw [hCs]; omega, by simp, fun i hi => ?_, fun i hi => by omega, by simp⟩
        have hi' : i < cs.length := by omega
        obtain ⟨u', k1, k2⟩ := renL_get hcr i cs[i] (List.getElem?_eq_getElem hi')
        refine ⟨cs[i], u', ?_, ren_mono hsub _ _ k1, ?_⟩
        · rw [putNil_get (by have : cap = 1099511627776 := rfl; omega) i hi']
          exact List.getElem?_eq_getElem hi'
        · simp only [Nat.zero_add, C, List.getElem?_toArray]
          rw [List.getElem?_append_left hi']
          exact k2
      · have hrow : (newRow el C).run P { w with drawn := w.drawn + 1 } = .ok ⟨w.heap.size, 0, none⟩ { w with drawn := w.drawn + 1, heap := w.heap.push (.cells C el (0, 0)) } := by rw [run_newRow]
        have hmark : (markStringish ⟨w.heap.size, 0, none⟩).run P { w with drawn := w.drawn + 1, heap := w.heap.push (.cells C el (0, 0)) } = .ok () w' := by
          unfold markStringish
          have hsh : World.shape? { w with drawn := w.drawn + 1, heap := w.heap.push (.cells C el (0, 0)) } w.heap.size = some (el, C.size) := by simp [World.shape?]
          simp only [Sem.run_bind, run_shape, hsh, Result.andThen_ok, run_freeze]
          congr 1
          simp only [World.freeze, w']
          rw [if_neg (by omega)]
          congr 1
          apply Array.ext'
          apply List.ext_getElem?
          intro j
          simp only [Array.getElem?_toList, Array.getElem?_modify, Array.getElem?_push]
          by_cases hj : j = w.heap.size
          · subst hj; simp
          · have : ¬ w.heap.size = j := fun e => hj e.symm
            simp [this, hj]
        have hrep : s.data.map (fun (b : UInt8) => Value.int .u8 b.toNat) ++ Array.replicate (s.size + k - s.size) (Value.int .u8 0) = C := by
          apply Array.ext'
          simp [C, ← hcs]
        simp only [convert, Sem.run_bind, hs, hd, hu1, hu2, Result.andThen_ok, ok.run_underlying hei w, hu3, Conv.stringToBytes, hch]
        rw [hrep]
        simp only [hrow, Result.andThen_ok, hmark, Sem.run_pure, hsd]
    · cases e
  · rename_i el b off hu1 hu2
    rw [oget_some] at e; obtain ⟨ei, hei, e⟩ := e
    split at e
    · rename_i n t0 e0 o0 w0 hb
      rw [bif_some] at e; obtain ⟨hc, e⟩ := e
      simp only [Bool.and_eq_true] at hc
      cases e
      obtain ⟨c, s, x0, hρ, rfl⟩ := ren_ptr hx
      obtain ⟨C, lo, hi, b1, b2, _⟩ := hr.blk b _ hb c s x0 hρ
      have hlt := of_blt hc.1
      have hsz := of_blt hc.2
      refine Good.same hr (v' := .pointer (some ⟨c, s + off, none⟩)) (by simp [ren, Rn.addr, hρ]) ?_
      have hsh : w.shape? c = some (e0, C.size) := by simp [World.shape?, b1]
      simp only [convert, Sem.run_bind, hs, hd, hu1, hu2, Result.andThen_ok, Conv.unsafePointer, Conv.seenAt, viewAt, run_shape, hsh, Option.isSome_some, if_true, Sem.run_pure, cellsIn, ok.run_sizeOf hei w]
      have h1 : ¬ ei.size = 0 := by omega
      have h2 : ¬ C.size ≤ s + off := by omega
      simp [h1, h2]
    · cases e
  · rename_i el b off hu1 hu2
    rw [oget_some] at e; obtain ⟨ei, hei, e⟩ := e
    split at e
    · rename_i n t0 e0 o0 w0 hb
      rw [bif_some] at e; obtain ⟨hc, e⟩ := e
      simp only [Bool.and_eq_true] at hc
      obtain ⟨⟨⟨⟨c1, c2⟩, c3⟩, c4⟩, c5⟩ := hc
      have c1 := of_beq c1
      have c2 := of_beq c2
      have c3 := of_beq c3
      have c4 := of_beq c4
      have c5 := of_blt c5
      cases e
      subst c1; subst c2
      obtain ⟨c, s, x0, hρ, rfl⟩ := ren_ptr hx
      obtain ⟨C, lo, hi, b1, b2, b3, b4, b5, b6, b7⟩ := hr.blk b _ hb c s x0 hρ
      have hx0 := b3 c4
      have hs0 := b7 c4
      subst hx0; subst hs0
      have hCs : C.size = P.cellsOf e0 := by rw [ok.cellsOf hei]; omega
      have hpos : 0 < P.cellsOf e0 := by rw [ok.cellsOf hei]; exact c5
      refine Good.same hr (v' := .pointer (some ⟨c, 0 + 0, none⟩)) (by simp [ren, Rn.addr, hρ]) ?_
      have hsh : w.shape? c = some (e0, C.size) := by simp [World.shape?, b1]
      have hdiv : C.size / P.cellsOf e0 = 1 := by rw [hCs]; exact Nat.div_self hpos
      have hne : ¬ ei.size = 0 := by omega
      have hvar : (variablesAt ⟨c, 0, none⟩ e0 1).run P w = .ok true w := by
        simp only [variablesAt, Sem.run_bind, run_program, run_shape, hsh, Result.andThen_ok, Sem.run_pure, hdiv, liesAt_whole hpos]
      simp only [convert, Sem.run_bind, hs, hd, hu1, hu2, Result.andThen_ok, Conv.unsafePointer, Conv.seenAt, viewAt, run_shape, hsh, Option.isSome_some, if_true, Sem.run_pure, ok.run_sizeOf hei w, hne, if_false, Nat.add_zero, hvar]
      simp
    · cases e
  · cases e

end Go.Ev
