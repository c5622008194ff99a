/- A deterministic evaluator of the model's code over a memory of its own: the order of a drawing region. -/
import Derived.Test.YthhohhbkeaghnaaEVt
set_option linter.unusedSimpArgs false
set_option linter.unusedVariables false
set_option linter.unusedSectionVars false
namespace Go.Ev
variable {E : Env} {P : Program}

theorem pickOp_mem {d : Nat} : ∀ {l : List PO} {x : PO}, pickOp d l = some x → x ∈ l
  | [], _, e => by simp [pickOp] at e
  | y :: l, x, e => by
    unfold pickOp at e
    rcases bif_or e with ⟨_, e⟩ | ⟨_, e⟩
    · rcases bif_or e with ⟨_, e⟩ | ⟨_, e⟩
      · split at e
        · rename_i z hz
          rcases bif_or e with ⟨_, e⟩ | ⟨_, e⟩
          · cases e; exact List.mem_cons_self
          · cases e; exact List.mem_cons_of_mem _ (pickOp_mem hz)
        · cases e; exact List.mem_cons_self
      · cases e; exact List.mem_cons_self
    · exact List.mem_cons_of_mem _ (pickOp_mem e)

theorem dropOp_mem {i : Nat} : ∀ {l : List PO} {x : PO}, x ∈ dropOp i l → x ∈ l
  | [], _, h => by simp [dropOp] at h
  | y :: l, x, h => by
    unfold dropOp at h
    cases hb : y.1.beq i with
    | true => simp only [hb, cond_true] at h; exact List.mem_cons_of_mem _ h
    | false =>
      simp only [hb, cond_false, List.mem_cons] at h
      rcases h with rfl | h
      · exact List.mem_cons_self
      · exact List.mem_cons_of_mem _ (dropOp_mem h)

theorem orderOps_mem : ∀ {n d : Nat} {l : List PO} {x : PO}, x ∈ orderOps n d l → x ∈ l
  | 0, _, _, _, h => by simp [orderOps] at h
  | n + 1, d, l, x, h => by
    unfold orderOps at h
    split at h
    · simp at h
    · rename_i y hy
      rcases List.mem_cons.1 h with rfl | h
      · exact pickOp_mem hy
      · exact dropOp_mem (orderOps_mem h)

theorem zipIx_mem : ∀ {k : Nat} {os : List Oper} {ms : List Nat} {x : PO}, x ∈ zipIx k os ms → ∃ j, x.1 = k + j ∧ os[j]? = some x.2.1 ∧ ms[j]? = some x.2.2
  | _, [], _, _, h => by simp [zipIx] at h
  | _, _ :: _, [], _, h => by simp [zipIx] at h
  | k, o :: os, m :: ms, x, h => by
    unfold zipIx at h
    rcases List.mem_cons.1 h with rfl | h
    · exact ⟨0, by simp⟩
    · obtain ⟨j, h1, h2, h3⟩ := zipIx_mem h
      exact ⟨j + 1, by omega, by simpa using h2, by simpa using h3⟩

theorem bits_sub {m d j : Nat} (h : (m &&& d).beq m = true) (hj : m.testBit j = true) : d.testBit j = true := by
  have := of_beq h
  rw [← this] at hj
  simp [Nat.testBit_and] at hj
  exact hj.2

theorem testBit_add {d i j : Nat} : (d ||| 2 ^ i).testBit j = true ↔ d.testBit j = true ∨ i = j := by
  simp [Nat.testBit_or, Nat.testBit_two_pow]

structure SeqOk (n done : Nat) (l : List PO) : Prop where
  inC : ∀ x ∈ l, ∀ j, x.2.2.testBit j = true → done.testBit j = true ∨ ∃ u ∈ l, u.1 = j
  new : ∀ x ∈ l, done.testBit x.1 = false
  fwd : l.Pairwise fun x y => x.2.2.testBit y.1 = false ∧ x.1 ≠ y.1
  self : ∀ x ∈ l, x.2.2.testBit x.1 = false
  full : ∀ j, j < n → done.testBit j = true ∨ ∃ u ∈ l, u.1 = j

theorem seqOk_spec {n : Nat} : ∀ {l : List PO} {done : Nat}, seqOk n done l = true → SeqOk n done l
  | [], done, h => by
    unfold seqOk at h
    have := of_beq h
    subst this
    exact ⟨by simp, by simp, List.Pairwise.nil, by simp, fun j hj => .inl (by simp [Nat.testBit_two_pow_sub_one, hj])⟩
  | x :: l, done, h => by
    unfold seqOk at h
    simp only [Bool.and_eq_true, Bool.not_eq_true'] at h
    obtain ⟨⟨h1, h2⟩, h3⟩ := h
    have ih := seqOk_spec h3
    have xm : ∀ j, x.2.2.testBit j = true → done.testBit j = true := fun j hj => bits_sub h2 hj
    have ext : ∀ {j}, ((done ||| 2 ^ x.1).testBit j = true ∨ ∃ u ∈ l, u.1 = j) → done.testBit j = true ∨ ∃ u ∈ x :: l, u.1 = j := fun {j} h => by
      rcases h with h | ⟨u, hu, e⟩
      · rcases testBit_add.1 h with h | h
        · exact .inl h
        · exact .inr ⟨x, List.mem_cons_self, h⟩
      · exact .inr ⟨u, List.mem_cons_of_mem _ hu, e⟩
    have notNew : ∀ y ∈ l, done.testBit y.1 = false ∧ x.1 ≠ y.1 := fun y hy => by
      have := ih.new y hy
      constructor
      · cases hb : done.testBit y.1 with
        | false => rfl
        | true => rw [testBit_add.2 (.inl hb)] at this; cases this
      · intro e
        rw [testBit_add.2 (.inr e)] at this; cases this
    refine ⟨fun y hy j hj => ?_, fun y hy => ?_, List.Pairwise.cons (fun y hy => ?_) ih.fwd, fun y hy => ?_, fun j hj => ext (ih.full j hj)⟩
    · rcases List.mem_cons.1 hy with rfl | hy
      · exact .inl (xm j hj)
      · exact ext (ih.inC y hy j hj)
    · rcases List.mem_cons.1 hy with rfl | hy
      · exact h1
      · exact (notNew y hy).1
    · refine ⟨?_, (notNew y hy).2⟩
      cases hb : x.2.2.testBit y.1 with
      | false => rfl
      | true => have := xm _ hb; rw [(notNew y hy).1] at this; cases this
    · rcases List.mem_cons.1 hy with rfl | hy
      · cases hb : y.2.2.testBit y.1 with
        | false => rfl
        | true => have := xm _ hb; rw [h1] at this; cases this
      · exact ih.self y hy

theorem orBits_spec {ms : List Nat} : ∀ {es : List Edge} {j : Nat}, (orBits ms es).testBit j = true ↔ ∃ e ∈ es, Region.binds .any e = true ∧ (e.on = j ∨ (ms.getD e.on 0).testBit j = true)
  | [], j => by simp [orBits]
  | e :: es, j => by
    unfold orBits
    rw [Nat.testBit_or, Bool.or_eq_true, orBits_spec]
    constructor
    · rintro (h | ⟨e', h1, h2⟩)
      · cases hb : Region.binds .any e with
        | false => simp [hb] at h
        | true =>
          simp only [hb, cond_true] at h
          rw [Nat.testBit_or, Bool.or_eq_true] at h
          refine ⟨e, List.mem_cons_self, hb, h.imp_left fun h => ?_⟩
          simpa [Nat.testBit_two_pow] using h
      · exact ⟨e', List.mem_cons_of_mem _ h1, h2⟩
    · rintro ⟨e', h1, h2, h3⟩
      rcases List.mem_cons.1 h1 with rfl | h1
      · left
        simp only [h2, cond_true]
        rw [Nat.testBit_or, Bool.or_eq_true]
        exact h3.imp_left fun h => by simp [Nat.testBit_two_pow, h]
      · exact .inr ⟨e', h1, h2, h3⟩

theorem pairsOk_spec {all : Array Oper} : ∀ {l : List PO}, pairsOk all l = true → l.Pairwise (fun x y => pairOk all x y = true) ∧ ∀ x ∈ l, isStrict x.2.1 = true ∨ selfOk all x.2.1 = true
  | [], _ => ⟨List.Pairwise.nil, by simp⟩
  | x :: l, h => by
    unfold pairsOk at h
    simp only [Bool.and_eq_true, Bool.or_eq_true, List.all_eq_true] at h
    obtain ⟨⟨h1, h2⟩, h3⟩ := h
    obtain ⟨g1, g2⟩ := pairsOk_spec h3
    exact ⟨List.Pairwise.cons h2 g1, fun y hy => by
      rcases List.mem_cons.1 hy with rfl | hy
      · exact h1
      · exact g2 y hy⟩

structure PlanOk (all : Array Oper) (ms : List Nat) (c : List PO) : Prop where
  mem : ∀ x ∈ c, all[x.1]? = some x.2.1 ∧ ms[x.1]? = some x.2.2
  inC : ∀ x ∈ c, ∀ j, x.2.2.testBit j = true → ∃ u ∈ c, u.1 = j
  fwd : c.Pairwise fun x y => x.2.2.testBit y.1 = false ∧ x.1 ≠ y.1
  self : ∀ x ∈ c, x.2.2.testBit x.1 = false
  full : ∀ j, j < all.size → ∃ u ∈ c, u.1 = j
  bits : ∀ x ∈ c, ∀ j, x.2.2.testBit j = true ↔ ∃ e ∈ x.2.1.after.toList, Region.binds .any e = true ∧ (e.on = j ∨ (ms.getD e.on 0).testBit j = true)
  pairs : c.Pairwise fun x y => pairOk all x y = true
  len : c.length = all.size
  selfD : ∀ x ∈ c, isStrict x.2.1 = true ∨ selfOk all x.2.1 = true

theorem plan_spec {all : Array Oper} {c : List PO} (h : plan all = some c) : ∃ ms, PlanOk all ms c := by
  unfold plan at h
  simp only at h
  rw [bif_some] at h
  obtain ⟨hc, h⟩ := h
  simp only [Bool.and_eq_true, List.all_eq_true] at hc
  obtain ⟨⟨⟨h0, h1⟩, h2⟩, h3⟩ := hc
  cases h
  have s := seqOk_spec h1
  obtain ⟨p1, p2⟩ := pairsOk_spec h2
  refine ⟨(Region.before all).toList, fun x hx => ?_, fun x hx j hj => (s.inC x hx j hj).resolve_left (by simp), s.fwd, s.self, fun j hj => (s.full j hj).resolve_left (by simp), fun x hx j => ?_, p1, of_beq h0, p2⟩
  · obtain ⟨j, e1, e2, e3⟩ := zipIx_mem (orderOps_mem hx)
    have : j = x.1 := by omega
    subst this
    exact ⟨by simpa using e2, e3⟩
  · rw [of_beq (h3 x hx).2, orBits_spec]

/-- An operation is named by its place. -/
theorem PlanOk.uniq {all : Array Oper} {ms : List Nat} {c : List PO} (p : PlanOk all ms c) {x y : PO} (hx : x ∈ c) (hy : y ∈ c) (e : x.1 = y.1) : x = y := by
  obtain ⟨a1, a2⟩ := p.mem x hx
  obtain ⟨b1, b2⟩ := p.mem y hy
  rw [e, b1] at a1
  rw [e, b2] at a2
  obtain ⟨i, o, m⟩ := x
  obtain ⟨i', o', m'⟩ := y
  simp at a1 a2 e
  subst a1; subst a2; subst e
  rfl

theorem noDst_spec {all : Array Oper} {x y : Oper} (h : noDst all x y = true) {d : Tmp} (hd : x.dst = some d) : y.dst ≠ some d ∧ d ∉ y.looksAt all := by
  unfold noDst at h
  simp only [hd, Bool.and_eq_true, Bool.not_eq_true'] at h
  obtain ⟨h1, h2⟩ := h
  refine ⟨fun e => ?_, by simpa using h2⟩
  simp only [e, Nat.beq_refl] at h1
  simp at h1

theorem selfOk_spec {all : Array Oper} {x : Oper} (h : selfOk all x = true) {d : Tmp} (hd : x.dst = some d) : d ∉ x.looksAt all := by
  unfold selfOk at h
  simpa [hd] using h

end Go.Ev
