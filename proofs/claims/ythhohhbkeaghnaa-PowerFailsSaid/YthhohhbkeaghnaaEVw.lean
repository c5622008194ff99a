/- A deterministic evaluator of the model's code over a memory of its own: drawing regions, any order. -/
import Derived.Test.YthhohhbkeaghnaaEVv
set_option linter.unusedSimpArgs false
set_option linter.unusedVariables false
set_option linter.unusedSectionVars false
namespace Go.Ev
variable {E : Env} {P : Program}

theorem pairwise_or {α : Type} {R : α → α → Prop} {u v : α} : ∀ {l : List α}, l.Pairwise R → u ∈ l → v ∈ l → u ≠ v → R u v ∨ R v u
  | [], _, h, _, _ => by simp at h
  | a :: l, h, hu, hv, ne => by
    rw [List.pairwise_cons] at h
    rcases List.mem_cons.1 hu with e | hu'
    · rcases List.mem_cons.1 hv with e' | hv'
      · exact absurd (e.trans e'.symm) ne
      · exact .inl (e ▸ h.1 v hv')
    · rcases List.mem_cons.1 hv with e' | hv'
      · exact .inr (e' ▸ h.1 u hu')
      · exact pairwise_or h.2 hu' hv' ne

/-- What has been done, and what has not. -/
structure Lst (all : Array Oper) (ms : List Nat) (c : List PO) (listed : Array Bool) (L : List PO) : Prop where
  sub : L.Sublist c
  lst : ∀ x ∈ c, listed.getD x.1 true = false ↔ x ∈ L
  size : listed.size = all.size
  closed : ∀ i j, listed.getD i false = true → (ms.getD i 0).testBit j = true → listed.getD j false = true

theorem Lst.mask {all : Array Oper} {ms : List Nat} {c : List PO} {listed : Array Bool} {L : List PO} (p : PlanOk all ms c) (h : Lst all ms c listed L) {x : PO} (hx : x ∈ c) (hr : x.1 ∈ Region.ready .any all listed) {j : Nat} (hj : x.2.2.testBit j = true) : listed.getD j false = true := by
  obtain ⟨_, o, ho, hall⟩ := mem_ready.1 hr
  have := (p.mem x hx).1
  rw [ho] at this
  cases this
  obtain ⟨e, he, hb, hj⟩ := (p.bits x hx j).1 hj
  have hl := hall e (by simpa using he) hb
  rcases hj with rfl | hj
  · exact hl
  · exact h.closed _ _ hl hj

theorem Lst.next {all : Array Oper} {ms : List Nat} {c : List PO} {listed : Array Bool} {l1 l2 : List PO} {x : PO} (p : PlanOk all ms c) (h : Lst all ms c listed (l1 ++ x :: l2)) (hr : x.1 ∈ Region.ready .any all listed) :
    Lst all ms c (listed.setIfInBounds x.1 true) (l1 ++ l2) := by
  have hx : x ∈ c := h.sub.subset (by simp)
  have pw := p.fwd.sublist h.sub
  rw [List.pairwise_append, List.pairwise_cons] at pw
  obtain ⟨_, ⟨pw1, _⟩, pw2⟩ := pw
  have hlt : x.1 < listed.size := by
    obtain ⟨_, o, ho, _⟩ := mem_ready.1 hr
    rw [h.size]; exact (Array.getElem?_eq_some_iff.1 ho).1
  refine ⟨(List.Sublist.append_left (List.sublist_cons_self x l2) l1).trans h.sub, fun y hy => ?_, by simp [h.size], fun i j hi hj => ?_⟩
  · by_cases e : y.1 = x.1
    · have := p.uniq hy hx e
      subst this
      constructor
      · intro hf
        simp [hlt] at hf
      · intro hm
        rcases List.mem_append.1 hm with hm | hm
        · exact absurd rfl (pw2 y hm y List.mem_cons_self).2
        · exact absurd rfl (pw1 y hm).2
    · rw [getD_set_ne true (Ne.symm e), h.lst y hy]
      have : y ≠ x := fun e' => e (e' ▸ rfl)
      simp [this]
  · by_cases e : i = x.1
    · subst e
      refine getD_set_true (h.mask p hx hr ?_)
      have := (p.mem x hx).2
      simpa [List.getD, this] using hj
    · rw [getD_set_ne false (Ne.symm e)] at hi
      exact getD_set_true (h.closed i j hi hj)

theorem Lst.ready {all : Array Oper} {ms : List Nat} {c : List PO} {listed : Array Bool} {x : PO} {L : List PO} (p : PlanOk all ms c) (h : Lst all ms c listed (x :: L)) : x.1 ∈ Region.ready .any all listed := by
  have hx : x ∈ c := h.sub.subset List.mem_cons_self
  refine mem_ready.2 ⟨(h.lst x hx).2 List.mem_cons_self, x.2.1, (p.mem x hx).1, fun e he hb => ?_⟩
  have hbit : x.2.2.testBit e.on = true := (p.bits x hx _).2 ⟨e, by simpa using he, hb, .inl rfl⟩
  obtain ⟨u, hu, hue⟩ := p.inC x hx _ hbit
  have hlt : u.1 < listed.size := by rw [h.size]; exact (Array.getElem?_eq_some_iff.1 (p.mem u hu).1).1
  cases hl : listed.getD e.on false with
  | true => rfl
  | false =>
    exfalso
    have hl' : listed.getD u.1 true = false := by
      rw [hue]; rw [hue] at hlt
      simpa [hlt] using hl
    have hm := (h.lst u hu).1 hl'
    rcases List.mem_cons.1 hm with e' | hm
    · subst e'
      have := p.self u hu
      rw [hue, hbit] at this; cases this
    · have pw := p.fwd.sublist h.sub
      rw [List.pairwise_cons] at pw
      have := (pw.1 u hm).1
      rw [hue, hbit] at this; cases this

theorem Lst.pick {all : Array Oper} {ms : List Nat} {c : List PO} {listed : Array Bool} {L : List PO} (p : PlanOk all ms c) (h : Lst all ms c listed L) {i : Nat} (hr : i ∈ Region.ready .any all listed) : ∃ x ∈ L, x.1 = i := by
  obtain ⟨h0, o, ho, _⟩ := mem_ready.1 hr
  obtain ⟨u, hu, e⟩ := p.full i (Array.getElem?_eq_some_iff.1 ho).1
  exact ⟨u, (h.lst u hu).1 (by rw [e]; exact h0), e⟩

theorem Lst.unlisted {all : Array Oper} {ms : List Nat} {c : List PO} {listed : Array Bool} {L : List PO} (h : Lst all ms c listed L) {x : PO} (hx : x ∈ L) (hl : listed.getD x.1 false = true) : False := by
  have := (h.lst x (h.sub.subset hx)).2 hx
  rw [Array.getD_eq_getD_getElem?] at hl this
  cases hg : listed[x.1]? with
  | none => simp [hg] at hl
  | some b => simp [hg] at hl this; rw [hl] at this; cases this

/-- An operation that is done here and not yet there. -/
structure Pe where
  x : PO
  r : Tr Value
  v : Value
  w : Bool
  bk : Nat

def Pe.al (y : Pe) : Prop := y.w = true ∧ clsOf y.x.2.1.op = .alloc

def Fact (E : Env) (n0 : Nat) (ws : List Watch) (ρ : Rn) (h : AH) (y : Pe) : Prop :=
  match y.w with
  | false => y.v = undef'
  | true => match clsOf y.x.2.1.op with
    | .pure => ∀ m, aval E y.x.2.1 (evalO E.ng y.r) m = some (y.v, m)
    | .read => ∃ k ∈ ws, k.i = y.x.1 ∧ k.o = y.x.2.1 ∧ k.r = y.r ∧ k.v = y.v
    | .alloc => ∃ H blk, H.next = y.bk ∧ aval E y.x.2.1 (evalO E.ng y.r) H = some (y.v, H.new blk) ∧ h.b.get y.bk = some blk ∧ n0 ≤ y.bk ∧ y.bk < h.next ∧ ρ y.bk = none
    | .strict => False

/-- One that waits. -/
structure PeOk (E : Env) (all : Array Oper) (n0 : Nat) (ws : List Watch) (ρ : Rn) (s : St) (y : Pe) : Prop where
  want : wantedT y.x.2.1 all y.r = some y.w
  lazy : isStrict y.x.2.1 = false
  looks : ∀ t ∈ y.x.2.1.looksAt all, y.r.get t = s.r.get t
  dst : ∀ d, y.x.2.1.dst = some d → s.r.get d = some y.v ∧ d < s.n
  fact : Fact E n0 ws ρ s.h y

structure Inv (E : Env) (all : Array Oper) (ms : List Nat) (c : List PO) (cx : Ctx) (b : Frame) (cs : List Frame) (ρ0 : Rn) (h0 : AH) (w0 : World) (listed : Array Bool) (pend : List Pe) (ps : List PO) (ws : List Watch) (ρ : Rn) (s : St) (w : World) (tm : Array Value) (ds : List Deferred) : Prop where
  L : Lst all ms c listed (pend.map (·.x) ++ ps)
  step : Step ρ0 h0 w0 ρ s.h w
  top : Top ρ s.h
  glob : GlobOk E ρ
  regs : ∀ t v, s.r.get t = some v → (∀ y ∈ pend, y.x.2.1.dst ≠ some t) → ∃ v', ren ρ v = some v' ∧ tm[t]? = some v'
  size : tm.size = s.n
  defs : DefRel ρ s.d ds
  ctx : CtxOk ρ cx b cs
  rc : cx.pan = none → s.rc = false
  pe : ∀ y ∈ pend, PeOk E all h0.next ws ρ s y
  blks : ∀ y ∈ pend, ∀ z ∈ pend, y.x.1 ≠ z.x.1 → y.al → z.al → y.bk ≠ z.bk

theorem checkW_spec {h : AH} : ∀ {ws : List Watch}, checkW E h ws = true → ∀ k ∈ ws, ∃ h2, aval E k.o (evalO E.ng k.r) h = some (k.v, h2) ∧ h2.next = h.next
  | [], _, k, hk => by simp at hk
  | u :: ws, h, k, hk => by
    simp only [checkW, Bool.and_eq_true] at h
    rcases List.mem_cons.1 hk with rfl | hk
    · obtain ⟨h1, _⟩ := h
      split at h1
      · cases h1
      · rename_i x hx
        simp only [Bool.and_eq_true] at h1
        obtain ⟨v, h2⟩ := x
        exact ⟨h2, by rw [hx, ← veq_eq _ _ h1.1], of_beq h1.2⟩
    · exact checkW_spec h.2 k hk

/-- What a waiting one looks at stands there. -/
theorem Inv.looks {all : Array Oper} {ms : List Nat} {c : List PO} {cx : Ctx} {b : Frame} {cs : List Frame} {ρ0 : Rn} {h0 : AH} {w0 : World} {listed : Array Bool} {pend : List Pe} {ps : List PO} {ws : List Watch} {ρ : Rn} {s : St} {w : World} {tm : Array Value} {ds : List Deferred}
    (p : PlanOk all ms c) (I : Inv E all ms c cx b cs ρ0 h0 w0 listed pend ps ws ρ s w tm ds) {y : Pe} (hy : y ∈ pend) (hr : y.x.1 ∈ Region.ready .any all listed) :
    ∀ t ∈ y.x.2.1.looksAt all, ∀ v, y.r.get t = some v → ∃ v', ren ρ v = some v' ∧ tm[t]? = some v' := by
  intro t ht v hv
  have q := I.pe y hy
  rw [q.looks t ht] at hv
  refine I.regs t v hv fun z hz hd => ?_
  have zL : z.x ∈ pend.map (·.x) ++ ps := List.mem_append_left _ (List.mem_map_of_mem hz)
  have yL : y.x ∈ pend.map (·.x) ++ ps := List.mem_append_left _ (List.mem_map_of_mem hy)
  by_cases e : z.x = y.x
  · rw [e] at hd
    rcases p.selfD y.x (I.L.sub.subset yL) with hs | hs
    · rw [q.lazy] at hs; cases hs
    · exact selfOk_spec hs hd ht
  · have qz := (I.pe z hz).lazy
    rcases pairwise_or (p.pairs.sublist I.L.sub) zL yL e with h | h
    · unfold pairOk at h
      simp only [qz, cond_false, q.lazy, Bool.false_and, Bool.false_or, Bool.and_eq_true, Bool.or_eq_true] at h
      rcases h.2 with h | h
      · exact I.L.unlisted zL (I.L.mask p (I.L.sub.subset yL) hr h)
      · exact (noDst_spec h hd).2 ht
    · unfold pairOk at h
      simp only [qz, cond_false, q.lazy, Bool.false_and, Bool.false_or, Bool.and_eq_true, Bool.or_eq_true] at h
      exact (noDst_spec h.1 hd).2 ht

theorem Fact.mono {n0 : Nat} {ws ws' : List Watch} {ρ ρ' : Rn} {h h' : AH} {y : Pe} (f : Fact E n0 ws ρ h y) (h1 : ∀ k ∈ ws, k.i = y.x.1 → k ∈ ws') (h2 : y.al → ρ y.bk = none → y.bk < h.next → ρ' y.bk = none ∧ h'.b.get y.bk = h.b.get y.bk ∧ h.next ≤ h'.next) : Fact E n0 ws' ρ' h' y := by
  unfold Fact at *
  split
  · rename_i hw; simp only [hw] at f; exact f
  · rename_i hw
    simp only [hw] at f
    split
    · rename_i hc; simp only [hc] at f; exact f
    · rename_i hc; simp only [hc] at f
      obtain ⟨k, k1, k2, k3⟩ := f
      exact ⟨k, h1 k k1 k2, k2, k3⟩
    · rename_i hc; simp only [hc] at f
      obtain ⟨H, blk, f1, f2, f3, f4, f5, f6⟩ := f
      obtain ⟨g1, g2, g3⟩ := h2 ⟨hw, hc⟩ f6 f5
      exact ⟨H, blk, f1, f2, by rw [g2]; exact f3, f4, by omega, g1⟩
    · rename_i hc; simp only [hc] at f

/-- A waiting one is done. -/
theorem Inv.exec (ok : Ok E P) {all : Array Oper} {ms : List Nat} {c : List PO} {cx : Ctx} {b : Frame} {cs : List Frame} {ρ0 : Rn} {h0 : AH} {w0 : World} {listed : Array Bool} {l1 l2 : List Pe} {y : Pe} {ps : List PO} {ws : List Watch} {ρ : Rn} {s : St} {w : World} {tm : Array Value} {ds : List Deferred}
    (p : PlanOk all ms c) (I : Inv E all ms c cx b cs ρ0 h0 w0 listed (l1 ++ y :: l2) ps ws ρ s w tm ds) (hr : y.x.1 ∈ Region.ready .any all listed) (chk : checkW E s.h ws = true) {rest : List Nat} {k : List Item} {cs' : List Frame} :
    ∃ ρ' w' tm', Inv E all ms c cx b cs ρ0 h0 w0 (listed.setIfInBounds y.x.1 true) (l1 ++ l2) ps ws ρ' s w' tm' ds ∧
      Steps P (lone (frm b tm ds (.inRegion all (y.x.1 :: rest) :: k)) cs' w) (lone (frm b tm' ds (.inRegion all rest :: k)) cs' w') := by
  have hy : y ∈ l1 ++ y :: l2 := by simp
  have sub : ∀ z, z ∈ l1 ++ l2 → z ∈ l1 ++ y :: l2 := fun z hz => by
    rcases List.mem_append.1 hz with hz | hz <;> simp [hz]
  have looks := I.looks p hy hr
  have q := I.pe y hy
  have yc : y.x ∈ c := I.L.sub.subset (by simp)
  have ho := (p.mem y.x yc).1
  have hL : Lst all ms c (listed.setIfInBounds y.x.1 true) ((l1 ++ l2).map (·.x) ++ ps) := by
    have := I.L
    simp only [List.map_append, List.map_cons, List.append_assoc, List.cons_append] at this
    have := this.next p hr
    simpa [List.map_append] using this
  have other : ∀ z ∈ l1 ++ l2, y.x.1 ≠ z.x.1 := fun z hz e => by
    have pw := p.fwd.sublist I.L.sub
    simp only [List.map_append, List.map_cons, List.append_assoc, List.cons_append] at pw
    rw [List.pairwise_append, List.pairwise_cons] at pw
    obtain ⟨_, ⟨pw1, _⟩, pw2⟩ := pw
    rcases List.mem_append.1 hz with hz | hz
    · exact (pw2 z.x (List.mem_map_of_mem hz) y.x List.mem_cons_self).2 e.symm
    · exact (pw1 z.x (List.mem_append_left _ (List.mem_map_of_mem hz))).2 e
  -- what is left to show once the operation is done there
  have fin : ∀ ρ' w' v', Step ρ0 h0 w0 ρ' s.h w' → Top ρ' s.h → Sub ρ ρ' → ren ρ' y.v = some v' → (∀ z ∈ l1 ++ l2, z.al → ρ z.bk = none → z.bk < s.h.next → ρ' z.bk = none) →
      Inv E all ms c cx b cs ρ0 h0 w0 (listed.setIfInBounds y.x.1 true) (l1 ++ l2) ps ws ρ' s w' (putT tm y.x.2.1.dst v') ds := by
    intro ρ' w' v' g1 g2 g3 g4 g5
    refine ⟨hL, g1, g2, I.glob.mono g3, fun t v e hno => ?_, by rw [putT_size]; exact I.size, I.defs.mono g3, I.ctx.mono g3, I.rc, fun z hz => ?_, fun z hz u hu => I.blks z (sub z hz) u (sub u hu)⟩
    · by_cases hd : y.x.2.1.dst = some t
      · obtain ⟨d1, d2⟩ := q.dst t hd
        rw [d1] at e
        cases e
        refine ⟨v', g4, ?_⟩
        rw [hd, putT_get (by rw [I.size]; exact d2)]
        simp
      · obtain ⟨u, u1, u2⟩ := I.regs t v e fun z hz => by
          rcases List.mem_append.1 hz with hz | hz
          · exact hno z (List.mem_append_left _ hz)
          · rcases List.mem_cons.1 hz with rfl | hz
            · exact hd
            · exact hno z (List.mem_append_right _ hz)
        refine ⟨u, ren_mono g3 _ _ u1, ?_⟩
        cases hdd : y.x.2.1.dst with
        | none => exact u2
        | some d =>
          have hne : t ≠ d := fun e' => hd (by rw [hdd, e'])
          rw [putT_get (by rw [I.size]; exact (q.dst d hdd).2), if_neg hne]
          exact u2
    · have qz := I.pe z (sub z hz)
      exact ⟨qz.want, qz.lazy, qz.looks, qz.dst, qz.fact.mono (fun _ h _ => h) fun ha hn hl => ⟨g5 z hz ha hn hl, rfl, Nat.le_refl _⟩⟩
  have on : OpOn E ρ y.r tm y.x.2.1.op.operands := OpOn.of_looks I.glob looks
  have hnd : ∀ d, aval E y.x.2.1 (evalO E.ng y.r) s.h = some (y.v, s.h) → y.x.2.1.op ≠ .defer d := by
    intro d e hc
    simp [aval, hc] at e
  have plainRun : y.w = true → aval E y.x.2.1 (evalO E.ng y.r) s.h = some (y.v, s.h) → ∃ ρ' w' tm', Inv E all ms c cx b cs ρ0 h0 w0 (listed.setIfInBounds y.x.1 true) (l1 ++ l2) ps ws ρ' s w' tm' ds ∧
      Steps P (lone (frm b tm ds (.inRegion all (y.x.1 :: rest) :: k)) cs' w) (lone (frm b tm' ds (.inRegion all rest :: k)) cs' w') := by
    intro hw e
    have hw' := wantedT_rel looks (q.want.trans (by rw [hw]))
    obtain ⟨ρ', w', v', g1, g2, g3⟩ := aval_on ok I.step.rel on e I.top
    refine ⟨ρ', w', putT tm y.x.2.1.dst v', fin ρ' w' v' (I.step.trans g1) (g1.top I.top) g1.sub g2 (fun z _ _ hn hl => g1.dom _ hn (.inl hl)), ?_⟩
    have hst := stepG_frm (P := P) (b := b) (ds := ds) (rest := rest) (k := k) (cs := cs') (w := w) ho hw' (.inr fun d => hnd d e)
    rw [← putT_frm (b := b) ho]
    rcases g3 with g3 | ⟨g3, rfl⟩
    · exact steps_of_bare (by rw [hst, apply_value g3])
    · exact steps_of_bare (by rw [hst, apply_skip g3])
  have f := q.fact
  unfold Fact at f
  split at f
  · rename_i hw
    have hw' := wantedT_rel looks (q.want.trans (by rw [hw]))
    exact ⟨ρ, w, _, fin ρ w undef I.step I.top (Sub.refl _) (by rw [f]; exact ren_undef ρ) (fun _ _ _ h _ => h), step_skipOp ho hw'⟩
  · rename_i hw
    split at f
    · exact plainRun hw (f s.h)
    · rename_i hc
      obtain ⟨u, u1, u2, u3, u4, u5⟩ := f
      obtain ⟨h2, e1, e2⟩ := checkW_spec chk u u1
      rw [u3, u4, u5] at e1
      have := aval_read hc e1 e2
      subst this
      exact plainRun hw e1
    · rename_i hc
      obtain ⟨H, blk, f1, f2, f3, f4, f5, f6⟩ := f
      obtain ⟨fo, fo1, fo2⟩ := on.rel
      have hw' := wantedT_rel looks (q.want.trans (by rw [hw]))
      obtain ⟨blk', mk, n1, n2, n3, obj, mk', n4, n5, n6, n7, n8⟩ := aval_alloc ok hc fo1 ((fo2 H).trans f2)
      have hb : blk' = blk := by
        have g1 : (H.new blk).b.get H.next = some blk := by
          show (H.b.put H.next blk).get H.next = _
          rw [Tr.get_put _ _ _ _ n3]; simp
        have g2 : (H.new blk').b.get H.next = some blk' := by
          show (H.b.put H.next blk').get H.next = _
          rw [Tr.get_put _ _ _ _ n3]; simp
        rw [n2, g2] at g1
        cases g1; rfl
      subst hb
      have hs : ({ w with heap := w.heap.push obj } : World).heap[w.heap.size]? = some obj := by simp
      have late := I.step.late f3 f6 f4 f5 n6 (n7 _ _ hs)
      have hins : (ρ.ins y.bk (w.heap.size, 0, 0)) y.bk = some (w.heap.size, 0, 0) := by simp [Rn.ins]
      have hv : ren (ρ.ins y.bk (w.heap.size, 0, 0)) y.v = some (mk' w.heap.size) := by
        rw [n1, f1]; exact n8 _ _ _ hins
      refine ⟨_, _, _, fin _ _ _ late (fun i hi => ?_) (Rn.sub_ins f6) hv (fun z hz ha hn hl => ?_), ?_⟩
      · have : i ≠ y.bk := by omega
        simp only [Rn.ins, this, if_false]
        exact I.top i hi
      · have : z.bk ≠ y.bk := Ne.symm (I.blks y hy z (sub z hz) (other z hz) ⟨hw, hc⟩ ha)
        simp only [Rn.ins, this, if_false]
        exact hn
      · have hst := stepG_frm (P := P) (b := b) (ds := ds) (rest := rest) (k := k) (cs := cs') (w := w) ho hw' (.inr fun d hcd => by rw [hcd] at hc; simp [clsOf] at hc)
        rw [← putT_frm (b := b) ho]
        exact steps_of_bare (by rw [hst, apply_value (n4 w)])
    · exact f.elim

end Go.Ev
