/- A deterministic evaluator of the model's code over a memory of its own: slices that grow. -/
import Derived.Test.YthhohhbkeaghnaaEVzl
set_option linter.unusedSimpArgs false
set_option linter.unusedVariables false
set_option linter.unusedSectionVars false
namespace Go.Ev
variable {E : Env} {ft : Tr AFunc} {c : Ctx} {s : St} {K : Out → Prop}

/-! ### append, where the walk comes to it -/
def appK (E : Env) (ft : Tr AFunc) (c : Ctx) (all : Array Oper) (dst : Option Tmp) (l : List Oper) (s : St) (K : Out → Prop) (x : Option (Value × AH)) : Prop := K (stepO E ft c all dst l (avalR s x))
def dappK (E : Env) (ft : Tr AFunc) (c : Ctx) (all : Array Oper) (o : Oper) (m : Nat) (l : List PO) (ws : List Watch) (s : St) (K : Out → Prop) (x : Option (Value × AH)) : Prop := K (dOp E ft c all o m l ws (avalR s x))
@[go_sem] theorem aBuiltin_append {ats : List TypeId} {x y : Value} {h : AH} : aBuiltin E .append ats [x, y] h = oget ats[0]? fun t => aAppend E t ats[1]? x y h := rfl
section app
variable {all : Array Oper} {dst : Option Tmp} {l : List Oper} {st : St} {o : Oper} {m : Nat} {pl : List PO} {ws : List Watch} {t : TypeId} {xt : Option TypeId} {x y : Value} {h : AH}
@[go_sem] theorem kSeq_app {b : Code} : kSeq E ft c b K (stepO E ft c all dst l (avalR st (aAppend E t xt x y h))) = appK E ft c all dst l st (kSeq E ft c b K) (aAppend E t xt x y h) := rfl
@[go_sem] theorem kBlk_app {id : Nat} : kBlk id K (stepO E ft c all dst l (avalR st (aAppend E t xt x y h))) = appK E ft c all dst l st (kBlk id K) (aAppend E t xt x y h) := rfl
@[go_sem] theorem kLoop_app {M : Nat → St → Prop} {k : Nat} : kLoop M k K (stepO E ft c all dst l (avalR st (aAppend E t xt x y h))) = appK E ft c all dst l st (kLoop M k K) (aAppend E t xt x y h) := rfl
@[go_sem] theorem kBody_app {K : CRes → Prop} {res : List ResultVar} : kBody E ft res K (stepO E ft c all dst l (avalR st (aAppend E t xt x y h))) = appK E ft c all dst l st (kBody E ft res K) (aAppend E t xt x y h) := rfl
@[go_sem] theorem kMid_app {M : St → Prop} : kMid M K (stepO E ft c all dst l (avalR st (aAppend E t xt x y h))) = appK E ft c all dst l st (kMid M K) (aAppend E t xt x y h) := rfl
@[go_sem] theorem kMid_dapp {M : St → Prop} : kMid M K (dOp E ft c all o m pl ws (avalR st (aAppend E t xt x y h))) = dappK E ft c all o m pl ws st (kMid M K) (aAppend E t xt x y h) := rfl
@[go_sem] theorem kSeq_dapp {b : Code} : kSeq E ft c b K (dOp E ft c all o m pl ws (avalR st (aAppend E t xt x y h))) = dappK E ft c all o m pl ws st (kSeq E ft c b K) (aAppend E t xt x y h) := rfl
@[go_sem] theorem kBlk_dapp {id : Nat} : kBlk id K (dOp E ft c all o m pl ws (avalR st (aAppend E t xt x y h))) = dappK E ft c all o m pl ws st (kBlk id K) (aAppend E t xt x y h) := rfl
@[go_sem] theorem kLoop_dapp {M : Nat → St → Prop} {k : Nat} : kLoop M k K (dOp E ft c all o m pl ws (avalR st (aAppend E t xt x y h))) = dappK E ft c all o m pl ws st (kLoop M k K) (aAppend E t xt x y h) := rfl
@[go_sem ↓] theorem appK_some {r : Tr Value} {n : Nat} {d : List Deferred} {h h' : AH} {rc : Bool} {v : Value} : appK E ft c all dst l ⟨r, n, d, h, rc⟩ K (some (v, h')) = K (stepO E ft c all dst l (.val v ⟨r, n, d, h', rc⟩)) := rfl
@[go_sem ↓] theorem dappK_some {r : Tr Value} {n : Nat} {d : List Deferred} {h h' : AH} {rc : Bool} {v : Value} : dappK E ft c all o m pl ws ⟨r, n, d, h, rc⟩ K (some (v, h')) = K (dOp E ft c all o m pl ws (.val v ⟨r, n, d, h', rc⟩)) := rfl
@[congr] theorem appK_cg {x y : Option (Value × AH)} (e : x = y) : appK E ft c all dst l s K x = appK E ft c all dst l s K y := by rw [e]
@[congr] theorem dappK_cg {x y : Option (Value × AH)} (e : x = y) : dappK E ft c all o m pl ws s K x = dappK E ft c all o m pl ws s K y := by rw [e]
end app

/-! ### A slice that nobody else leads to -/
/-- Its cells lie at a block's start, in a block of lo or behind; n elements of sz cells, of type e. -/
def OwnC (h : AH) (e sz lo : Nat) (a : Option Addr) (n : Nat) (cs : List Value) : Prop :=
  cs.length = n * sz ∧ ((a = none ∧ n = 0) ∨ ∃ b c o w, a = some ⟨b, 0, none⟩ ∧ 0 < n ∧ lo ≤ b ∧ b < h.next ∧ h.b.get b = some (.cells (n * sz) c e o w) ∧ (o = 0 ∨ o = sz) ∧ ∀ i x, cs[i]? = some x → c.get i = some x)
variable {h h' : AH} {e sz lo : Nat} {a : Option Addr} {n : Nat} {cs : List Value}
theorem OwnC.nil (h : AH) (e sz lo : Nat) : OwnC h e sz lo none 0 [] := ⟨by simp, .inl ⟨rfl, rfl⟩⟩
theorem OwnC.keep (O : OwnC h e sz lo a n cs) (h1 : h.next ≤ h'.next) (h2 : ∀ b, a = some ⟨b, 0, none⟩ → h'.b.get b = h.b.get b) : OwnC h' e sz lo a n cs := by
  obtain ⟨l1, l2 | ⟨b, c, o, w, e1, e2, e3, e4, e5, e6⟩⟩ := O
  · exact ⟨l1, .inl l2⟩
  · exact ⟨l1, .inr ⟨b, c, o, w, e1, e2, e3, Nat.lt_of_lt_of_le e4 h1, by rw [h2 b e1, e5], e6⟩⟩
theorem OwnC.ext (O : OwnC h e sz lo a n cs) (x : Ext h h') : OwnC h' e sz lo a n cs := by
  obtain ⟨l1, l2 | ⟨b, c, o, w, e1, e2, e3, e4, e5, e6⟩⟩ := O
  · exact ⟨l1, .inl l2⟩
  · exact ⟨l1, .inr ⟨b, c, o, w, e1, e2, e3, Nat.lt_of_lt_of_le e4 x.1, by rw [x.2 b e4, e5], e6⟩⟩
/-- Blocks at lo or behind it alone may hold it. -/
theorem OwnC.off (O : OwnC h e sz lo a n cs) {b : Nat} (hb : b < lo) : ∀ x, a = some ⟨x, 0, none⟩ → x ≠ b := by
  obtain ⟨_, ⟨e1, _⟩ | ⟨b', c, o, w, e1, e2, e3, e4, e5, e6⟩⟩ := O
  · intro x hx; rw [e1] at hx; cases hx
  · intro x hx; rw [e1] at hx; cases hx; omega
theorem OwnC.upd (O : OwnC h e sz lo a n cs) {b : Nat} (hb : b < lo) (hl : lo ≤ h.next) (hc : h.next < cap) (x : Blk) : OwnC (h.upd b x) e sz lo a n cs :=
  O.keep (Nat.le_refl _) fun y hy => get_upd_ne (O.off hb y hy) (by omega)
theorem OwnC.low {lo' : Nat} (O : OwnC h e sz lo a n cs) (hl : lo' ≤ lo) : OwnC h e sz lo' a n cs := by
  obtain ⟨l1, l2 | ⟨b, c, o, w, e1, e2, e3, e4⟩⟩ := O
  · exact ⟨l1, .inl l2⟩
  · exact ⟨l1, .inr ⟨b, c, o, w, e1, e2, by omega, e4⟩⟩
/-- A block that has just been made. -/
theorem OwnC.fresh {k : Nat} {w : Bool} (hl : cs.length = n * sz) (hn : 0 < n) (hlo : lo ≤ h.next) (hc : h.next < cap) (hs : n * sz < cap) (hk : k = n * sz) : OwnC (h.new (.cells k (putCells .nil 0 cs) e 0 w)) e sz lo (some ⟨h.next, 0, none⟩) n cs := by
  subst hk
  refine ⟨hl, .inr ⟨h.next, putCells .nil 0 cs, 0, w, rfl, hn, hlo, Nat.lt_succ_self _, get_new_self hc, .inl rfl, fun i x hx => ?_⟩⟩
  have hi : i < cs.length := by
    by_cases hi : i < cs.length
    · exact hi
    · rw [List.getElem?_eq_none (by omega)] at hx; cases hx
  rw [putCells_get cs .nil 0 i (by omega), if_pos (by omega)]; simpa using hx

/-- What is known of a type of slices and its elements. -/
structure SliceT (E : Env) (st e sz by' : Nat) (z : List Value) : Prop where
  i : ∃ i, tInfo E st = some i ∧ i.und = .slice e
  ei : ∃ ei, tInfo E e = some ei ∧ ei.size = sz ∧ ei.bytes = by' ∧ ∃ v, ei.zero = some v ∧ v.cells.toList = z
  pos : 0 < sz
  zl : z.length = sz
  zp : z.all plainCell = true

/-- What is appended to it. -/
theorem append_own {st by' : Nat} {z : List Value} (T : SliceT E st e sz by' z) {xt : Option TypeId} {x : Value} {k : Nat} {vs : List Value} (hn : ∀ ei, tInfo E e = some ei → ei.size = sz → ei.bytes = by' → (∃ v, ei.zero = some v ∧ v.cells.toList = z) → aNew E ei xt x h = some (k, vs))
    (hk : 0 < k) (hv : vs.length = k * sz) (hp : vs.all plainCell = true) (b1 : (n + k) * sz < 4294967296) (b2 : (n + k) * by' < 4294967296) (hc : h.next < cap) (O : OwnC h e sz lo a n cs) (hlo : lo ≤ h.next) :
    ∃ h', aAppend E st xt (.slice a n n) x h = some (.slice (some ⟨h.next, 0, none⟩) (n + k) (n + k), h') ∧ OwnC h' e sz lo (some ⟨h.next, 0, none⟩) (n + k) (cs ++ vs) ∧ h'.next = h.next + 1 ∧ ∀ i, i < h.next → (∀ b, a = some ⟨b, 0, none⟩ → i ≠ b) → h'.b.get i = h.b.get i := by
  obtain ⟨i, hi, hu⟩ := T.i
  obtain ⟨ei, he, hs, hb, v, hz, hzc⟩ := T.ei
  have hN := hn ei he hs hb ⟨v, hz, hzc⟩
  have pos := T.pos
  have e1 : Nat.ble (n + k) n = false := by
    cases hx : Nat.ble (n + k) n with
    | false => rfl
    | true => have := of_ble hx; omega
  have t1 : Nat.blt 0 ei.size = true := Nat.ble_eq_true_of_le (by omega)
  have t2 : Nat.blt ((n + k) * ei.size) 4294967296 = true := Nat.ble_eq_true_of_le (by rw [hs]; exact b1)
  have t3 : Nat.blt ((n + k) * ei.bytes) 4294967296 = true := Nat.ble_eq_true_of_le (by rw [hb]; exact b2)
  have t4 : vs.length.beq (k * ei.size) = true := by rw [hs]; exact beqT hv
  have t5 : Nat.blt h.next cap = true := Nat.ble_eq_true_of_le hc
  have t6 : v.cells.toList.length.beq ei.size = true := by rw [hs, hzc]; exact beqT T.zl
  have t7 : v.cells.toList.all plainCell = true := by rw [hzc]; exact T.zp
  have hcap : ∀ x, x < 4294967296 → x < cap := fun x hx => Nat.lt_trans hx (by decide)
  unfold aAppend
  simp only [hi, hu, oget, he, hN, e1, cond_false, hz, t1, t2, t3, t4, t5, t6, t7, hp, Bool.and_self, cond_true]
  obtain ⟨hl, ⟨rfl, rfl⟩ | ⟨b, c, o, w, rfl, hn0, hlb, hbn, hget, ho, hcs⟩⟩ := O
  · simp only [Nat.zero_mul] at hl
    have hcs : cs = [] := List.eq_nil_of_length_eq_zero hl
    subst hcs
    have q1 : Nat.beq 0 0 = true := rfl
    simp only [q1, Bool.and_self, cond_true, hs, Nat.zero_add, List.nil_append]
    refine ⟨_, rfl, ⟨hv, .inr ⟨h.next, putCells .nil 0 vs, sz, true, rfl, hk, hlo, Nat.lt_succ_self _, get_new_self hc, .inr rfl, fun i x hx => ?_⟩⟩, rfl, fun i hi _ => get_new_ne hi hc⟩
    have hiv : i < vs.length := by
      by_cases hi : i < vs.length
      · exact hi
      · rw [List.getElem?_eq_none (by omega)] at hx; cases hx
    rw [putCells_get vs .nil 0 i (by rw [hv]; have := hcap _ b1; simp only [Nat.zero_add] at this ⊢; omega), if_pos (by omega)]
    simpa using hx
  · have q1 : Nat.beq 0 0 = true := rfl
    have q2 : Nat.ble (0 + n * ei.size) (n * sz) = true := Nat.ble_eq_true_of_le (by rw [hs]; omega)
    simp only [hget, q1, q2, cond_true]
    have cells : ∀ i x, (cs ++ vs)[i]? = some x → (putCells c (n * ei.size) vs).get i = some x := by
      intro i x hx
      rw [hs, putCells_get vs c (n * sz) i (by rw [hv]; have := hcap _ b1; rw [← Nat.add_mul]; omega)]
      by_cases hi : i < cs.length
      · rw [if_neg (by omega)]
        rw [List.getElem?_append_left hi] at hx
        exact hcs i x hx
      · rw [List.getElem?_append_right (by omega)] at hx
        have hi2 : i - cs.length < vs.length := by
          by_cases hi2 : i - cs.length < vs.length
          · exact hi2
          · rw [List.getElem?_eq_none (by omega)] at hx; cases hx
        rw [if_pos (by omega), ← hl]; exact hx
    have hlen : (cs ++ vs).length = (n + k) * sz := by rw [List.length_append, hl, hv, Nat.add_mul]
    rcases ho with rfl | rfl
    · simp only [q1, cond_true]
      exact ⟨_, rfl, ⟨hlen, .inr ⟨h.next, _, ei.size, w, rfl, by omega, hlo, Nat.lt_succ_self _, by rw [get_new_self hc, hs], .inr hs, cells⟩⟩, rfl, fun i hi _ => get_new_ne hi hc⟩
    · have q3 : Nat.beq o 0 = false := beqF (by omega)
      have q4 : Nat.beq o ei.size = true := by rw [hs]; exact beqT rfl
      have q5 : Nat.beq (0 + n * ei.size) (n * o) = true := by rw [hs, Nat.zero_add]; exact beqT rfl
      have q6 : Nat.beq e e = true := beqT rfl
      simp only [q3, q4, q5, q6, cond_false, Bool.and_self, cond_true]
      have hc' : (h.upd b .dead).next < cap := hc
      refine ⟨_, rfl, ⟨hlen, .inr ⟨h.next, _, ei.size, w, rfl, by omega, hlo, Nat.lt_succ_self _, ?_, .inr hs, cells⟩⟩, rfl, fun i hi hne => ?_⟩
      · have := get_new_self (h := h.upd b .dead) (b := Blk.cells ((n + k) * ei.size) (putCells c (n * ei.size) vs) e ei.size w) hc'
        rw [hs] at this ⊢
        exact this
      · have := get_new_ne (h := h.upd b .dead) (b := Blk.cells ((n + k) * ei.size) (putCells c (n * ei.size) vs) e ei.size w) (i := i) hi hc'
        rw [this, get_upd_ne (hne b rfl) (by omega)]

theorem aNew_of {st by' : Nat} {z : List Value} (T : SliceT E st e sz by' z) {x : Value} {k : Nat} {vs : List Value} (hl : lenV x = some k) (hf : aFirst sz k x h = some vs) (ei : TInfo) (hs : ei.size = sz) : aNew E ei (some st) x h = some (k, vs) := by
  obtain ⟨i, hi, hu⟩ := T.i
  obtain ⟨u, s1, s2, s3, s4⟩ := i
  simp only at hu
  subst hu
  unfold aNew
  cases x <;> simp only [lenV] at hl <;> try cases hl
  all_goals simp only [Option.bind_some, hi, lenV, oget, hs, hf]

/-- 'append(s, x..)'. -/
theorem app_cps {K : Option (Value × AH) → Prop} {st by' : Nat} {z : List Value} (T : SliceT E st e sz by' z) {x : Value} {k : Nat} {vs : List Value} (hl : lenV x = some k) (hf : aFirst sz k x h = some vs)
    (hk : 0 < k) (hv : vs.length = k * sz) (hp : vs.all plainCell = true) (b1 : (n + k) * sz < 4294967296) (b2 : (n + k) * by' < 4294967296) (hc : h.next < cap) (O : OwnC h e sz lo a n cs) (hlo : lo ≤ h.next)
    (hK : ∀ h', OwnC h' e sz lo (some ⟨h.next, 0, none⟩) (n + k) (cs ++ vs) → h'.next = h.next + 1 → (∀ i, i < h.next → (∀ b, a = some ⟨b, 0, none⟩ → i ≠ b) → h'.b.get i = h.b.get i) → K (some (.slice (some ⟨h.next, 0, none⟩) (n + k) (n + k), h'))) :
    K (aAppend E st (some st) (.slice a n n) x h) := by
  obtain ⟨h', h1, h2, h3, h4⟩ := append_own T (fun ei _ hs _ _ => aNew_of T hl hf ei hs) hk hv hp b1 b2 hc O hlo
  rw [h1]
  exact hK h' h2 h3 h4
@[go_sem] theorem aFirst_none {z n l cp : Nat} {h : AH} : aFirst z n (.slice none l cp) h = some [] := rfl
@[go_sem] theorem aFirst_some {z n l cp b off : Nat} {h : AH} : aFirst z n (.slice (some ⟨b, off, none⟩) l cp) h = oget (h.b.get b) fun blk => getCells blk.cell off (n * z) := rfl
/-- A slice that nobody else leads to, element by element. -/
def Own {α : Type} (h : AH) (f : α → Value) (e lo : Nat) (a : Option Addr) (l : List α) : Prop := OwnC h e 1 lo a l.length (l.map f)
theorem Own.ext {α : Type} {f : α → Value} {l : List α} (O : Own h f e lo a l) (x : Ext h h') : Own h' f e lo a l := OwnC.ext O x
theorem Own.upd {α : Type} {f : α → Value} {l : List α} (O : Own h f e lo a l) {b : Nat} (hb : b < lo) (hl : lo ≤ h.next) (hc : h.next < cap) (x : Blk) : Own (h.upd b x) f e lo a l := OwnC.upd O hb hl hc x
theorem Own.off {α : Type} {f : α → Value} {l : List α} (O : Own h f e lo a l) {b : Nat} (hb : b < lo) : ∀ x, a = some ⟨x, 0, none⟩ → b ≠ x := fun x hx h => OwnC.off O hb x hx h.symm
theorem Own.holds {α : Type} {f : α → Value} {l : List α} {n : Nat} (O : Own h f e lo a l) (hn : l.length = n) : Holds h f a n l := by
  subst hn
  obtain ⟨l1, ⟨rfl, l2⟩ | ⟨b, c, o, w, e1, e2, e3, e4, e5, e6, e7⟩⟩ := O
  · exact ⟨rfl, .inl ⟨rfl, List.eq_nil_of_length_eq_zero l2⟩⟩
  · refine ⟨rfl, .inr ⟨b, 0, _, e1, e4, e5, fun i x hx => ?_⟩⟩
    have hi : i < l.length := by
      by_cases hi : i < l.length
      · exact hi
      · rw [List.getElem?_eq_none (by omega)] at hx; cases hx
    rw [cell_cells, if_pos (by omega), Nat.zero_add]
    exact e7 i _ (by rw [List.getElem?_map, hx]; rfl)
/-- 'append(s, x)' of one small thing, that lies in a block of its own. -/
theorem app_one {α : Type} {f : α → Value} {l : List α} {K : Option (Value × AH) → Prop} {st by' : Nat} {z : List Value} (T : SliceT E st e 1 by' z) {bx : Nat} {cx : Tr Value} {ex ox : Nat} {wx : Bool} {x : α}
    (hb : h.b.get bx = some (.cells 1 cx ex ox wx)) (hx : cx.get 0 = some (f x)) (hp : plainCell (f x) = true) (hl : l.length = n) (b1 : n + 1 < 4294967296) (b2 : (n + 1) * by' < 4294967296) (hc : h.next < cap) (O : Own h f e lo a l) (hlo : lo ≤ h.next)
    (hK : ∀ h', Own h' f e lo (some ⟨h.next, 0, none⟩) (l ++ [x]) → h'.next = h.next + 1 → (∀ i, i < h.next → (∀ b, a = some ⟨b, 0, none⟩ → i ≠ b) → h'.b.get i = h.b.get i) → K (some (.slice (some ⟨h.next, 0, none⟩) (n + 1) (n + 1), h'))) :
    K (aAppend E st (some st) (.slice a n n) (.slice (some ⟨bx, 0, none⟩) 1 1) h) := by
  subst hl
  refine app_cps T (k := 1) (vs := [f x]) (cs := l.map f) rfl ?_ (by omega) rfl (by simp [hp]) (by omega) b2 hc O hlo fun h' O' hn hfr => ?_
  · rw [aFirst_some, hb]
    simp [oget, getCells, Blk.cell, Nat.blt, hx]
    rfl
  · refine hK h' ?_ hn hfr
    unfold Own
    rw [List.length_append, List.map_append]
    exact O'
theorem OwnC.veq (O : OwnC h e sz lo a n cs) (x y : Nat) : veq (.slice a x y) (.slice a x y) = true := by
  obtain ⟨_, ⟨rfl, _⟩ | ⟨b, c, o, w, rfl, _⟩⟩ := O
  · exact veq_slice0
  · exact veq_slice
theorem Own.veq {α : Type} {f : α → Value} {l : List α} (O : Own h f e lo a l) (x y : Nat) : veq (.slice a x y) (.slice a x y) = true := OwnC.veq O x y
theorem Holds.veq {α : Type} {f : α → Value} {l : List α} (O : Holds h f a n l) (x y : Nat) : veq (.slice a x y) (.slice a x y) = true := by
  obtain ⟨_, ⟨rfl, _⟩ | ⟨b, off, blk, rfl, _⟩⟩ := O
  · exact veq_slice0
  · exact veq_slice
/-- The same, where the block has just been made. -/
theorem app_new {α : Type} {f : α → Value} {l : List α} {K : Option (Value × AH) → Prop} {st by' : Nat} {z : List Value} (T : SliceT E st e 1 by' z) {ex ox : Nat} {wx : Bool} {x : α} {v : Value}
    (hv : v = f x) (hp : plainCell (f x) = true) (hl : l.length = n) (b1 : n + 1 < 4294967296) (b2 : (n + 1) * by' < 4294967296) (hc : h.next + 1 < 1099511627776) (O : Own h f e lo a l) (hlo : lo ≤ h.next)
    (hK : ∀ h', Own h' f e lo (some ⟨h.next + 1, 0, none⟩) (l ++ [x]) → h'.next = h.next + 2 → (∀ i, i < h.next → (∀ b, a = some ⟨b, 0, none⟩ → i ≠ b) → h'.b.get i = h.b.get i) → K (some (.slice (some ⟨h.next + 1, 0, none⟩) (n + 1) (n + 1), h'))) :
    K (aAppend E st (some st) (.slice a n n) (.slice (some ⟨h.next, 0, none⟩) 1 1) (h.new (.cells 1 (Tr.nil.put 0 v) ex ox wx))) := by
  subst hv
  have hc0 : h.next < cap := by show _ < 1099511627776; omega
  refine app_one T (get_new_self hc0) (by rw [Tr.get_put _ _ _ _ (by decide)]; simp) hp hl b1 b2 (by show _ < 1099511627776; rw [new_next']; exact hc) (O.ext ((Ext.refl h).new _ hc0)) (by rw [new_next']; omega) fun h' O' hn hfr => ?_
  rw [new_next'] at O' hn hfr ⊢
  exact hK h' O' hn fun i hi hne => by rw [hfr i (by omega) hne, get_new_ne hi hc0]
end Go.Ev
