/- A deterministic evaluator of the model's code over a memory of its own: what its steps on memory are in the model. -/
import Derived.Test.YthhohhbkeaghnaaEVc
import Derived.Laws.Cells
import Derived.Laws.Entries
set_option linter.unusedSimpArgs false
set_option linter.unusedVariables false
set_option linter.unusedSectionVars false
namespace Go.Ev

structure Ok (E : Env) (P : Program) : Prop where
  tt : ∀ t i, E.tt.get t = some i → tinfoOf P t = some i
  order : P.follows .mixedOrders = true
  same : ∀ f, E.same f = true → ∀ (a : Option Addr) (w : World), (callFunc f #[.pointer a]).run P w = .ok (.value (.pointer a)) w

variable {E : Env} {P : Program}

theorem Ok.und (ok : Ok E P) {t : TypeId} {i : TInfo} (h : tInfo E t = some i) : P.underlying t = some i.und ∧ ∃ info, P.info? t = some info ∧ info.size = i.size ∧ info.bytes = i.bytes ∧ (∀ z, i.zero = some z → info.zero = some z ∧ plainZ z = true) ∧ skeyOf P t i.und = i.skey := by
  have := ok.tt t i h
  unfold tinfoOf at this
  cases hu : P.underlying t with
  | none => simp [hu] at this
  | some u => cases hi : P.info? t with
    | none => simp [hu, hi] at this
    | some info =>
      simp only [hu, hi, Option.some.injEq] at this
      subst this
      refine ⟨rfl, info, rfl, rfl, rfl, fun z hz => ?_, rfl⟩
      simp only [Option.bind_eq_some_iff] at hz
      obtain ⟨z', h1, h2⟩ := hz
      cases hp : plainZ z' with
      | true => simp [hp] at h2; subst h2; exact ⟨h1, hp⟩
      | false => simp [hp] at h2

theorem Ok.run_underlying (ok : Ok E P) {t : TypeId} {i : TInfo} (h : tInfo E t = some i) (w : World) : (underlying t).run P w = .ok i.und w :=
  Go.run_underlying (ok.und h).1 w

theorem Ok.run_typeInfo (ok : Ok E P) {t : TypeId} {i : TInfo} (h : tInfo E t = some i) (w : World) : ∃ info, (typeInfo t).run P w = .ok info w ∧ info.size = i.size ∧ info.bytes = i.bytes ∧ (∀ z, i.zero = some z → info.zero = some z ∧ plainZ z = true) := by
  obtain ⟨_, info, h1, h2, h3, h4, _⟩ := ok.und h
  exact ⟨info, by simp [typeInfo, h1], h2, h3, h4⟩

theorem Ok.run_sizeOf (ok : Ok E P) {t : TypeId} {i : TInfo} (h : tInfo E t = some i) (w : World) : (sizeOf t).run P w = .ok i.size w := by
  obtain ⟨info, h1, h2, _⟩ := ok.run_typeInfo h w
  simp [sizeOf, h1, h2]

theorem Ok.run_bytes (ok : Ok E P) {t : TypeId} {i : TInfo} (h : tInfo E t = some i) (w : World) : ((fun (x : TypeInfo) => x.bytes) <$> typeInfo t).run P w = .ok i.bytes w := by
  obtain ⟨info, h1, _, h2, _⟩ := ok.run_typeInfo h w
  simp [h1, h2]

theorem Ok.run_zero (ok : Ok E P) {t : TypeId} {i : TInfo} {z : Value} (h : tInfo E t = some i) (hz : i.zero = some z) (w : World) : (zeroValue t).run P w = .ok z w := by
  obtain ⟨info, h1, _, _, h2⟩ := ok.run_typeInfo h w
  simp [zeroValue, h1, (h2 z hz).1]

theorem Ok.run_isAgg (ok : Ok E P) {t : TypeId} {i : TInfo} (h : tInfo E t = some i) (w : World) : (isAgg t).run P w = .ok (isAggD i.und) w := by
  unfold isAgg isAggD
  simp only [Sem.run_bind, ok.run_underlying h, Result.andThen_ok]
  cases i.und <;> rfl

theorem oget_some {α β : Type} {x : Option α} {f : α → Option β} {b : β} : oget x f = some b ↔ ∃ a, x = some a ∧ f a = some b := by
  cases x <;> simp [oget]

theorem addr_add (c k n : Nat) : Addr.add ⟨c, k, none⟩ n = ⟨c, k + n, none⟩ := by
  unfold Addr.add
  by_cases h : n = 0
  · subst h; simp
  · simp [h]

theorem cell_lt {w : World} {c o : Nat} {v : Value} (h : w.cell? ⟨c, o, none⟩ = some v) : c < w.heap.size := by
  unfold World.cell? at h
  by_cases hc : c < w.heap.size
  · exact hc
  · simp [Array.getElem?_eq_none (Nat.le_of_not_lt hc)] at h

theorem bif_some {α : Type} {b : Bool} {x : Option α} {a : α} : (bif b then x else none) = some a ↔ b = true ∧ x = some a := by
  cases b <;> simp

/-- A block's cell is the world's. -/
theorem BlkRel.cell {ρ : Rn} {w : World} {c s x : Nat} {blk : Blk} (h : BlkRel ρ w c s x blk) {i : Nat} {v : Value} (e : blk.cell i = some v) : ∃ v', ren ρ v = some v' ∧ w.cell? ⟨c, s + i, none⟩ = some v' := by
  cases blk with
  | cells n t el o wh =>
    obtain ⟨C, lo, hi, h1, h2, h3, h4, h5, h6⟩ := h
    simp only [Blk.cell, bif_some] at e
    obtain ⟨hlt, e⟩ := e
    obtain ⟨u, u', e1, e2, e3⟩ := h4 i (of_blt hlt)
    rw [e1] at e; cases e
    exact ⟨u', e2, by simp [World.cell?, h1, e3]⟩
  | ro n f =>
    simp only [Blk.cell, bif_some] at e
    obtain ⟨hlt, e⟩ := e
    cases e
    exact h.2 i (of_blt hlt)
  | _ => simp [Blk.cell] at e

theorem getCells_spec {f : Nat → Option Value} : ∀ {n off : Nat} {vs : List Value}, getCells f off n = some vs → vs.length = n ∧ ∀ i v, vs[i]? = some v → f (off + i) = some v
  | 0, off, vs, h => by simp [getCells] at h; subst h; simp
  | n + 1, off, vs, h => by
    simp only [getCells] at h
    cases h0 : f off with
    | none => simp [h0] at h
    | some v => cases h1 : getCells f (off + 1) n with
      | none => simp [h0, h1] at h
      | some us =>
        simp [h0, h1] at h
        subst h
        obtain ⟨hl, hg⟩ := getCells_spec h1
        refine ⟨by simp [hl], fun i u hu => ?_⟩
        cases i with
        | zero => simp at hu; subst hu; simpa using h0
        | succ i => simp at hu; have := hg i u hu; rwa [show off + 1 + i = off + (i + 1) by omega] at this

theorem getCells_ok {f : Nat → Option Value} : ∀ {n off : Nat} (g : Nat → Value), (∀ i, i < n → f (off + i) = some (g i)) → getCells f off n = some ((List.range n).map g)
  | 0, off, g, _ => by simp [getCells]
  | n + 1, off, g, h => by
    have h0 := h 0 (by omega)
    have h1 := getCells_ok (n := n) (off := off + 1) (fun i => g (i + 1)) (fun i hi => by have := h (i + 1) (by omega); rwa [show off + (i + 1) = off + 1 + i by omega] at this)
    simp only [Nat.add_zero] at h0
    simp only [getCells, h0, h1, List.range_succ_eq_map, List.map_cons, List.map_map]
    rfl

/-- A row of cells is the world's. -/
theorem BlkRel.row {ρ : Rn} {w : World} {c s x : Nat} {blk : Blk} (h : BlkRel ρ w c s x blk) : ∀ {n off : Nat} {vs : List Value}, getCells blk.cell off n = some vs →
    ∃ vs', renL ρ vs = some vs' ∧ vs'.length = n ∧ ∀ i v', vs'[i]? = some v' → w.cell? ⟨c, s + off + i, none⟩ = some v'
  | 0, off, vs, e => by simp [getCells] at e; subst e; exact ⟨[], by simp [renL], by simp, by simp⟩
  | n + 1, off, vs, e => by
    simp only [getCells] at e
    cases h0 : blk.cell off with
    | none => simp [h0] at e
    | some v => cases h1 : getCells blk.cell (off + 1) n with
      | none => simp [h0, h1] at e
      | some us =>
        simp [h0, h1] at e
        subst e
        obtain ⟨v', hv, hc⟩ := h.cell h0
        obtain ⟨us', hu, hl, hg⟩ := h.row h1
        refine ⟨v' :: us', renL_cons.2 ⟨v', us', hv, hu, rfl⟩, by simp [hl], fun i u he => ?_⟩
        cases i with
        | zero => simp at he; subst he; simpa using hc
        | succ i => simp at he; have := hg i u he; rwa [show s + (off + 1) + i = s + off + (i + 1) by omega] at this

theorem run_row {w : World} {c k : Nat} {vs' : List Value} (h : ∀ i v', vs'[i]? = some v' → w.cell? ⟨c, k + i, none⟩ = some v') : (loadCells ⟨c, k, none⟩ vs'.length).run P w = .ok ⟨vs'⟩ w := by
  have := run_loadCells_list (P := P) w ⟨c, k, none⟩ vs' (fun j v e => by rw [addr_add]; exact h j v e)
  rw [this]

theorem run_row' {w : World} {c k n : Nat} {vs' : List Value} (hn : vs'.length = n) (h : ∀ i v', vs'[i]? = some v' → w.cell? ⟨c, k + i, none⟩ = some v') : (loadCells ⟨c, k, none⟩ n).run P w = .ok ⟨vs'⟩ w := by
  subst hn; exact run_row h

/-- The pointer's block. -/
theorem ren_ptr {ρ : Rn} {b off : Nat} {v' : Value} (h : ren ρ (.pointer (some ⟨b, off, none⟩)) = some v') : ∃ c s x, ρ b = some (c, s, x) ∧ v' = .pointer (some ⟨c, s + off, none⟩) := by
  simp only [ren, Rn.addr] at h
  cases hb : ρ b with
  | none => simp [hb] at h
  | some r => obtain ⟨c, s, x⟩ := r; simp [hb] at h; exact ⟨c, s, x, rfl, h.symm⟩

theorem ren_slice {ρ : Rn} {b off l k : Nat} {v' : Value} (h : ren ρ (.slice (some ⟨b, off, none⟩) l k) = some v') : ∃ c s x, ρ b = some (c, s, x) ∧ v' = .slice (some ⟨c, s + off, none⟩) l (k + x) := by
  simp only [ren] at h
  cases hb : ρ b with
  | none => simp [hb] at h
  | some r => obtain ⟨c, s, x⟩ := r; simp [hb] at h; exact ⟨c, s, x, rfl, h.symm⟩

theorem aLoad_sound (ok : Ok E P) {ρ : Rn} {h : AH} {w : World} (hr : WRel ρ h w) {t : TypeId} {a a' v : Value} (ha : ren ρ a = some a') (e : aLoad E t a h = some v) :
    ∃ v', ren ρ v = some v' ∧ (Instr.loadAt t a').run P w = .ok v' w := by
  unfold aLoad at e
  split at e
  · rename_i b off
    rw [oget_some] at e; obtain ⟨i, hi, e⟩ := e
    rw [oget_some] at e; obtain ⟨blk, hb, e⟩ := e
    obtain ⟨c, s, x, hρ, rfl⟩ := ren_ptr ha
    have hB := hr.blk b blk hb c s x hρ
    cases hag : isAggD i.und with
    | true =>
      rw [hag] at e
      obtain ⟨vs, hv, e⟩ := oget_some.1 (by simpa using e)
      cases e
      obtain ⟨vs', h1, h2, h3⟩ := hB.row hv
      refine ⟨.agg ⟨vs'⟩, ren_agg.2 ⟨vs', h1, rfl⟩, ?_⟩
      simp only [Instr.loadAt, Instr.sureAddr, loadVar, Sem.run_bind, Sem.run_pure, Result.andThen_ok, ok.run_isAgg hi, hag, if_true, ok.run_sizeOf hi, run_row' h2 h3]
    | false =>
      rw [hag] at e
      simp only [cond_false] at e
      obtain ⟨v', h1, h2⟩ := hB.cell e
      refine ⟨v', h1, ?_⟩
      simp only [Instr.loadAt, Instr.sureAddr, loadVar, Sem.run_bind, Sem.run_pure, Result.andThen_ok, ok.run_isAgg hi, hag, Bool.false_eq_true, if_false, run_load, h2]
  · cases e

/-! ### Stores -/
theorem plain_one {v : Value} (h : plainCell v = true) : v.oneCell' = true := by
  cases v <;> simp [plainCell] at h <;> rfl

/-- Two worlds that are one but for block c. -/
structure But (c : Nat) (w w' : World) : Prop where
  size : w'.heap.size = w.heap.size
  oth : ∀ k, k ≠ c → w'.heap[k]? = w.heap[k]?
  os : w'.os = w.os
  tape : w'.tape = w.tape
  output : w'.output = w.output

theorem But.refl (c : Nat) (w : World) : But c w w := ⟨rfl, fun _ _ => rfl, rfl, rfl, rfl⟩
theorem But.trans {c : Nat} {a b d : World} (h : But c a b) (k : But c b d) : But c a d :=
  ⟨k.size.trans h.size, fun i hi => (k.oth i hi).trans (h.oth i hi), k.os.trans h.os, k.tape.trans h.tape, k.output.trans h.output⟩

theorem setCell_but (w : World) (c k : Nat) (v : Value) : But c w (w.setCell ⟨c, k, none⟩ v) :=
  ⟨by simp [World.setCell], fun j hj => by simp only [World.setCell, Array.getElem?_modify]; rw [if_neg (fun e => hj e.symm)], rfl, rfl, rfl⟩

theorem setCell_at {w : World} {c k : Nat} {C : Array Value} {e : TypeId} {fr : Nat × Nat} (v : Value) (h : w.heap[c]? = some (.cells C e fr)) : (w.setCell ⟨c, k, none⟩ v).heap[c]? = some (.cells (C.setIfInBounds k v) e fr) := by
  simp [World.setCell, Array.getElem?_modify, h]

theorem run_storeCells {c k : Nat} {el : TypeId} {lo hi : Nat} : ∀ (vs : List Value) (i : Nat) (C : Array Value) (w : World), w.heap[c]? = some (.cells C el (lo, hi)) → k + i + vs.length ≤ C.size → (∀ j, j < C.size → ¬ (lo ≤ j ∧ j < hi)) → (∀ v ∈ vs, plainCell v = true) →
    ∃ w' C', (storeCells ⟨c, k, none⟩ vs i).run P w = .ok () w' ∧ w'.heap[c]? = some (.cells C' el (lo, hi)) ∧ C'.size = C.size ∧ (∀ j, C'[j]? = if k + i ≤ j ∧ j < k + i + vs.length then vs[j - (k + i)]? else C[j]?) ∧ But c w w'
  | [], i, C, w, h, _, _, _ => ⟨w, C, by simp [storeCells], h, rfl, fun j => by rw [if_neg (by simp only [List.length_nil]; omega)], But.refl _ _⟩
  | v :: vs, i, C, w, h, hl, hf, hp => by
    simp only [List.length_cons] at hl
    have hcell : (w.cell? ⟨c, k + i, none⟩) = some C[k + i] := by
      simp [World.cell?, h, Array.getElem?_eq_getElem (show k + i < C.size by omega)]
    have hfr : w.frozen? ⟨c, k + i, none⟩ = false := by
      have := hf (k + i) (by omega)
      simp only [World.frozen?, h]
      simpa using this
    have hs : (store (Addr.add ⟨c, k, none⟩ i) v).run P w = .ok () (w.setCell ⟨c, k + i, none⟩ v) := by
      rw [addr_add, run_store P w _ v _ (plain_one (hp v (by simp)))]
      simp [hcell, hfr]
    obtain ⟨w', C', h1, h2, h3, h4, h5⟩ := run_storeCells (c := c) (k := k) vs (i + 1) (C.setIfInBounds (k + i) v) (w.setCell ⟨c, k + i, none⟩ v) (setCell_at v h) (by simp; omega) (by simpa using hf) (fun u hu => hp u (by simp [hu]))
    refine ⟨w', C', ?_, h2, by simpa using h3, fun j => ?_, (setCell_but w c (k + i) v).trans h5⟩
    · simp only [storeCells, Sem.run_bind, hs, Result.andThen_ok, h1]
    · rw [h4 j]
      by_cases e : j = k + i
      · subst e
        rw [if_neg (by omega), if_pos (by simp only [List.length_cons]; omega)]
        simp [show k + i < C.size by omega]
      · by_cases hj : k + (i + 1) ≤ j ∧ j < k + (i + 1) + vs.length
        · rw [if_pos hj, if_pos (by simp only [List.length_cons]; omega)]
          rw [show j - (k + i) = j - (k + (i + 1)) + 1 by omega]
          simp
        · rw [if_neg hj, if_neg (by simp only [List.length_cons]; omega)]
          rw [Array.getElem?_setIfInBounds, if_neg (fun e' => e e'.symm)]

theorem putCells_get : ∀ (vs : List Value) (t : Tr Value) (off i : Nat), off + vs.length ≤ cap → (putCells t off vs).get i = if off ≤ i ∧ i < off + vs.length then vs[i - off]? else t.get i
  | [], t, off, i, _ => by simp [putCells]; omega
  | v :: vs, t, off, i, h => by
    simp only [List.length_cons] at h
    simp only [putCells]
    rw [putCells_get vs _ (off + 1) i (by omega), Tr.get_put _ _ _ _ (by omega)]
    by_cases e : i = off
    · subst e
      rw [if_neg (by omega), if_pos rfl, if_pos (by simp)]
      simp
    · by_cases hj : off + 1 ≤ i ∧ i < off + 1 + vs.length
      · rw [if_pos hj, if_pos (by simp; omega)]
        rw [show i - off = i - (off + 1) + 1 by omega]
        simp
      · rw [if_neg hj, if_neg e, if_neg (by simp; omega)]

theorem all_plain {ρ : Rn} : ∀ {vs vs' : List Value}, renL ρ vs = some vs' → vs.all plainCell = true → ∀ v ∈ vs', plainCell v = true
  | [], vs', h, _ => by rw [renL_nil.1 h]; simp
  | v :: vs, vs', h, hp => by
    obtain ⟨v', m, h1, h2, rfl⟩ := renL_cons.1 h
    simp at hp
    intro u hu
    rcases List.mem_cons.1 hu with rfl | hu
    · exact plainCell_ren h1 hp.1
    · exact all_plain h2 (by simpa using hp.2) u hu

theorem aWrite_sound {ρ : Rn} {h h' : AH} {w : World} (hr : WRel ρ h w) {b off : Nat} {vs vs' : List Value} (hv : renL ρ vs = some vs') {c s x : Nat} (hb : ρ b = some (c, s, x)) (hcap : b < cap) (e : aWrite h b off vs = some h') :
    ∃ w', (storeCells ⟨c, s + off, none⟩ vs').run P w = .ok () w' ∧ Step ρ h w ρ h' w' := by
  unfold aWrite at e
  split at e
  · rename_i n t el o wh hblk
    rw [bif_some] at e
    obtain ⟨hc, e⟩ := e
    cases e
    simp only [Bool.and_eq_true] at hc
    obtain ⟨⟨h1, h2⟩, h3⟩ := hc
    have h1 := of_ble h1
    have h3 := of_blt h3
    have hB := hr.blk b _ hblk c s x hb
    obtain ⟨C, lo, hi, b1, b2, b3, b4, b5, b6⟩ := hB
    have hlen := renL_length hv
    obtain ⟨w', C', g1, g2, g3, g4, g5⟩ := run_storeCells (P := P) (c := c) (k := s + off) vs' 0 C w b1 (by omega) b5 (all_plain hv h2)
    refine ⟨w', g1, Step.upd hr hblk rfl hb hcap rfl ?_ g5.size g5.oth g5.os g5.tape g5.output⟩
    refine ⟨C', lo, hi, g2, by omega, b3, fun i hi' => ?_, fun i hi' => b5 i (by omega), b6⟩
    rw [putCells_get _ _ _ _ (by unfold cap at *; omega), g4]
    by_cases hj : off ≤ i ∧ i < off + vs.length
    · rw [if_pos hj, if_pos (by omega)]
      have hlt : i - off < vs.length := by omega
      obtain ⟨u', e1, e2⟩ := renL_get hv (i - off) vs[i - off] (List.getElem?_eq_getElem hlt)
      exact ⟨_, u', List.getElem?_eq_getElem hlt, e1, by rw [show s + i - (s + off + 0) = i - off by omega]; exact e2⟩
    · rw [if_neg hj, if_neg (by omega)]
      exact b4 i hi'
  · cases e

theorem aStore_sound (ok : Ok E P) {ρ : Rn} {h h' : AH} {w : World} (hr : WRel ρ h w) {t : TypeId} {a a' v v' : Value} (ha : ren ρ a = some a') (hv : ren ρ v = some v') (e : aStore E t a v h = some h') :
    ∃ w', (Instr.storeAt t a' v').run P w = .ok () w' ∧ Step ρ h w ρ h' w' := by
  unfold aStore at e
  split at e
  · rename_i b off
    rw [oget_some] at e; obtain ⟨i, hi, e⟩ := e
    rw [bif_some] at e
    obtain ⟨hsz, e⟩ := e
    obtain ⟨c, s, x, hρ, rfl⟩ := ren_ptr ha
    have hcs := ren_cells hv
    have hbcap : b < cap := by
      unfold aWrite at e
      split at e
      · rename_i hblk; exact hr.low b _ hblk
      · cases e
    obtain ⟨w', g1, g2⟩ := aWrite_sound (P := P) hr hcs hρ hbcap e
    refine ⟨w', ?_, g2⟩
    have hlen : v'.cells.size = i.size := by
      have := renL_length hcs
      rw [Array.length_toList] at this
      rw [this]; exact of_beq hsz
    simp only [Instr.storeAt, Instr.sureAddr, storeVar, Sem.run_bind, Sem.run_pure, Result.andThen_ok, ok.run_sizeOf hi, hlen, ne_eq, not_true_eq_false, if_false, g1]
  · cases e

end Go.Ev
