/- A deterministic evaluator of the model's code over a memory of its own: drawing regions come to the same in any order. -/
import Derived.Test.YthhohhbkeaghnaaEVw
set_option linter.unusedSimpArgs false
set_option linter.unusedVariables false
set_option linter.unusedSectionVars false
namespace Go.Ev
variable {E : Env} {P : Program}

section
variable {all : Array Oper} {ms : List Nat} {c : List PO} {cx : Ctx} {b : Frame} {cs : List Frame} {ρ0 : Rn} {h0 : AH} {w0 : World} {C : CallS}

theorem Fact.bk {n0 : Nat} {ws : List Watch} {ρ : Rn} {h : AH} {y : Pe} (f : Fact E n0 ws ρ h y) (ha : y.al) : y.bk < h.next := by
  unfold Fact at f
  simp only [ha.1, ha.2] at f
  obtain ⟨_, _, _, _, _, _, h, _⟩ := f
  exact h

theorem Inv.wait {listed : Array Bool} {pend : List Pe} {ps : List PO} {ws ws' : List Watch} {ρ : Rn} {s s2 : St} {h1 : AH} {w : World} {tm : Array Value} {ds : List Deferred} {y : Pe}
    (p : PlanOk all ms c) (I : Inv E all ms c cx b cs ρ0 h0 w0 listed pend (y.x :: ps) ws ρ s w tm ds) (hlazy : isStrict y.x.2.1 = false) (hr : y.r = s.r) (hput : putD { s with h := h1 } y.x.2.1.dst y.v = some s2)
    (hstep : Step ρ0 h0 w0 ρ h1 w) (htop : Top ρ h1) (hh : ∀ i, i < s.h.next → h1.b.get i = s.h.b.get i) (hn : s.h.next ≤ h1.next) (hws : ∀ k ∈ ws, k ∈ ws') (hwant : wantedT y.x.2.1 all s.r = some y.w) (hfact : Fact E h0.next ws' ρ h1 y)
    (hbk : y.al → y.bk = s.h.next) : Inv E all ms c cx b cs ρ0 h0 w0 listed (pend ++ [y]) ps ws' ρ s2 w tm ds ∧ s2.rc = s.rc := by
  have yL : y.x ∈ pend.map (·.x) ++ y.x :: ps := by simp
  have yc : y.x ∈ c := I.L.sub.subset yL
  have self := (p.selfD y.x yc).resolve_left (by rw [hlazy]; simp)
  have nod : ∀ z ∈ pend, noDst all y.x.2.1 z.x.2.1 = true := fun z hz => by
    have pw := p.pairs.sublist I.L.sub
    rw [List.pairwise_append] at pw
    have := pw.2.2 z.x (List.mem_map_of_mem hz) y.x List.mem_cons_self
    unfold pairOk at this
    simp only [(I.pe z hz).lazy, cond_false, hlazy, Bool.false_and, Bool.false_or, Bool.and_eq_true] at this
    exact this.1
  -- what stands in the registers
  have reg : s2.h = h1 ∧ s2.n = s.n ∧ s2.d = s.d ∧ s2.rc = s.rc ∧ (∀ t, y.x.2.1.dst ≠ some t → s2.r.get t = s.r.get t) ∧ (∀ d, y.x.2.1.dst = some d → s2.r.get d = some y.v ∧ d < s.n) := by
    rcases putD_some hput with ⟨hd, rfl⟩ | ⟨d, hd, h2, h3, rfl⟩
    · exact ⟨rfl, rfl, rfl, rfl, fun _ _ => rfl, fun d e => by rw [hd] at e; cases e⟩
    · refine ⟨rfl, rfl, rfl, rfl, fun t e => ?_, fun d' e => ?_⟩
      · show (s.r.put d y.v).get t = _
        rw [Tr.get_put _ _ _ _ (Nat.lt_trans h2 h3), if_neg]
        intro e'; exact e (by rw [hd, e'])
      · rw [hd] at e; cases e
        refine ⟨?_, h2⟩
        show (s.r.put d y.v).get d = _
        rw [Tr.get_put _ _ _ _ (Nat.lt_trans h2 h3)]; simp
  obtain ⟨r1, r2, r3, r4, r5, r6⟩ := reg
  refine ⟨⟨by simpa using I.L, by rw [r1]; exact hstep, by rw [r1]; exact htop, I.glob, fun t v e hno => ?_, by rw [r2]; exact I.size, by rw [r3]; exact I.defs, I.ctx, fun e => by rw [r4]; exact I.rc e, fun z hz => ?_, fun z hz u hu e1 e2 e3 => ?_⟩, r4⟩
  · have hy := hno y (by simp)
    rw [r5 t hy] at e
    exact I.regs t v e fun z hz => hno z (by simp [hz])
  · rcases List.mem_append.1 hz with hz | hz
    · have q := I.pe z hz
      refine ⟨q.want, q.lazy, fun t ht => ?_, fun d hd => ?_, ?_⟩
      · rw [r5 t fun e => (noDst_spec (nod z hz) e).2 ht]; exact q.looks t ht
      · rw [r5 d fun e => (noDst_spec (nod z hz) e).1 hd, r2]; exact q.dst d hd
      · rw [r1]
        exact q.fact.mono (fun k hk _ => hws k hk) fun _ hn' hl => ⟨hn', hh _ hl, hn⟩
    · have : z = y := by simpa using hz
      subst this
      refine ⟨by rw [hr]; exact hwant, hlazy, fun t ht => ?_, fun d hd => by rw [r2]; exact r6 d hd, by rw [r1]; exact hfact⟩
      rw [hr, r5 t fun e => selfOk_spec self e ht]
  · rcases List.mem_append.1 hz with hz' | hz'
    · rcases List.mem_append.1 hu with hu' | hu'
      · exact I.blks z hz' u hu' e1 e2 e3
      · have : u = y := by simpa using hu'
        have h1 := hbk (this ▸ e3)
        have h2 := (I.pe z hz').fact.bk e2
        rw [this]
        omega
    · have : z = y := by simpa using hz'
      rcases List.mem_append.1 hu with hu' | hu'
      · have h1 := hbk (this ▸ e2)
        have h2 := (I.pe u hu').fact.bk e3
        rw [this]
        omega
      · have h3 : u = y := by simpa using hu'
        exact absurd (by rw [this, h3]) e1

def Norm (ps : List PO) : Prop := match ps with
  | [] => True
  | p :: _ => isStrict p.2.1 = true

theorem isStrict_cls {o : Oper} (h : isStrict o = false) : clsOf o.op ≠ .strict := by
  intro e
  unfold isStrict at h
  rw [e] at h; cases h

theorem advance (p : PlanOk all ms c) {listed : Array Bool} {ρ : Rn} {w : World} {tm : Array Value} {ds : List Deferred} : ∀ {ps : List PO} {pend : List Pe} {ws : List Watch} {s : St}, Inv E all ms c cx b cs ρ0 h0 w0 listed pend ps ws ρ s w tm ds →
    evDraw E C cx all ps ws s = .fail ∨ ∃ pend' ps' ws' s', Inv E all ms c cx b cs ρ0 h0 w0 listed pend' ps' ws' ρ s' w tm ds ∧ evDraw E C cx all ps ws s = evDraw E C cx all ps' ws' s' ∧ Norm ps' ∧ pend'.length + ps'.length = pend.length + ps.length ∧ s'.rc = s.rc
  | [], pend, ws, s, I => .inr ⟨pend, [], ws, s, I, rfl, trivial, rfl, rfl⟩
  | x :: ps, pend, ws, s, I => by
    cases hst : isStrict x.2.1 with
    | true => exact .inr ⟨pend, x :: ps, ws, s, I, rfl, hst, rfl, rfl⟩
    | false =>
      -- one more that waits
      have go : ∀ (y : Pe) (ws' : List Watch) (h1 : AH), y.x = x → y.r = s.r → wantedT x.2.1 all s.r = some y.w → Step ρ0 h0 w0 ρ h1 w → Top ρ h1 → (∀ i, i < s.h.next → h1.b.get i = s.h.b.get i) → s.h.next ≤ h1.next → (∀ k ∈ ws, k ∈ ws') →
          Fact E h0.next ws' ρ h1 y → (y.al → y.bk = s.h.next) → evDraw E C cx all (x :: ps) ws s = oOut (putD { s with h := h1 } x.2.1.dst y.v) (fun s => evDraw E C cx all ps ws' s) →
          evDraw E C cx all (x :: ps) ws s = .fail ∨ ∃ pend' ps' ws' s', Inv E all ms c cx b cs ρ0 h0 w0 listed pend' ps' ws' ρ s' w tm ds ∧ evDraw E C cx all (x :: ps) ws s = evDraw E C cx all ps' ws' s' ∧ Norm ps' ∧ pend'.length + ps'.length = pend.length + (x :: ps).length ∧ s'.rc = s.rc := by
        intro y ws' h1 e1 e2 e3 e4 e5 e6 e7 e8 e9 e10 e11
        subst e1
        rw [e11]
        cases hp : putD { s with h := h1 } y.x.2.1.dst y.v with
        | none => exact .inl rfl
        | some s2 =>
          obtain ⟨I', hrc⟩ := I.wait p hst e2 hp e4 e5 e6 e7 e8 e3 e9 e10
          simp only [oOut]
          rcases advance p I' with h | ⟨pend', ps', ws2, s', q1, q2, q3, q4, q5⟩
          · exact .inl h
          · exact .inr ⟨pend', ps', ws2, s', q1, q2, q3, by rw [q4]; simp; omega, q5.trans hrc⟩
      cases hw : wantedT x.2.1 all s.r with
      | none => left; unfold evDraw; simp only [hst, hw]
      | some wd =>
        cases wd with
        | false => exact go ⟨x, s.r, undef', false, 0⟩ ws s.h rfl rfl hw I.step I.top (fun _ _ => rfl) (Nat.le_refl _) (fun _ h => h) rfl (fun h => by cases h.1) (by rw [evDraw]; simp only [hst, hw])
        | true =>
          cases ha : aval E x.2.1 (evalO E.ng s.r) s.h with
          | none => left; unfold evDraw; simp only [hst, hw, ha]
          | some r =>
            obtain ⟨v, h1⟩ := r
            cases hc : clsOf x.2.1.op with
            | strict => exact absurd hc (isStrict_cls hst)
            | pure =>
              obtain ⟨g1, g2⟩ := aval_pure hc ha
              subst g1
              exact go ⟨x, s.r, v, true, 0⟩ ws s.h rfl rfl hw I.step I.top (fun _ _ => rfl) (Nat.le_refl _) (fun _ h => h) (by unfold Fact; simp only [hc]; exact g2) (fun h => by rw [show clsOf x.2.1.op = _ from h.2] at hc; cases hc)
                (by rw [evDraw]; simp only [hst, hw, ha, hc])
            | read =>
              cases hn : h1.next.beq s.h.next with
              | false => left; unfold evDraw; simp only [hst, hw, ha, hc, hn, cond_false]
              | true =>
                exact go ⟨x, s.r, v, true, 0⟩ (⟨x.1, x.2.1, s.r, v⟩ :: ws) s.h rfl rfl hw I.step I.top (fun _ _ => rfl) (Nat.le_refl _) (fun _ h => List.mem_cons_of_mem _ h) (by unfold Fact; simp only [hc]; exact ⟨_, List.mem_cons_self, rfl, rfl, rfl, rfl⟩) (fun h => by rw [show clsOf x.2.1.op = _ from h.2] at hc; cases hc)
                  (by rw [evDraw]; simp only [hst, hw, ha, hc, hn, cond_true])
            | alloc =>
              obtain ⟨blk, g1, g2⟩ := aval_alloc0 hc ha
              subst g1
              have hg : ∀ i, (s.h.new blk).b.get i = if i = s.h.next then some blk else s.h.b.get i := fun i => Tr.get_put _ _ _ _ g2
              have hn := I.top s.h.next (Nat.le_refl _)
              refine go ⟨x, s.r, v, true, s.h.next⟩ ws (s.h.new blk) rfl rfl hw (I.step.early hn g2 blk) (fun i hi => I.top i (Nat.le_of_succ_le hi)) (fun i hi => by rw [hg, if_neg (Nat.ne_of_lt hi)]) (Nat.le_succ _) (fun _ h => h) ?_ (fun _ => rfl)
                (by rw [evDraw]; simp only [hst, hw, ha, hc])
              unfold Fact
              simp only [hc]
              exact ⟨s.h, blk, rfl, ha, by rw [hg]; simp, I.step.nxt, Nat.lt_succ_self _, hn⟩

theorem mem_moreW {m : Nat} {k : Watch} : ∀ {ws : List Watch}, k ∈ ws → m.testBit k.i = false → k ∈ moreW m ws
  | [], h, _ => by simp at h
  | u :: ws, h, hk => by
    unfold moreW
    rcases List.mem_cons.1 h with rfl | h
    · simp [hk]
    · cases m.testBit u.i with
      | true => exact mem_moreW h hk
      | false => exact List.mem_cons_of_mem _ (mem_moreW h hk)

/-- The strict one is done, here and there. -/
theorem Inv.strict {listed : Array Bool} {pend : List Pe} {x : PO} {ps : List PO} {ws : List Watch} {ρ ρ' : Rn} {s s1 s2 : St} {w w' : World} {tm : Array Value} {ds ds' : List Deferred} {v v' : Value}
    (p : PlanOk all ms c) (I : Inv E all ms c cx b cs ρ0 h0 w0 listed pend (x :: ps) ws ρ s w tm ds) (hstr : isStrict x.2.1 = true) (hr : x.1 ∈ Region.ready .any all listed) (hst : Step ρ s.h w ρ' s1.h w') (e1 : s1.r = s.r) (e2 : s1.n = s.n) (e3 : cx.pan = none → s1.rc = false)
    (hd : DefRel ρ' s1.d ds') (hv : ren ρ' v = some v') (hput : putD s1 x.2.1.dst v = some s2) :
    Inv E all ms c cx b cs ρ0 h0 w0 (listed.setIfInBounds x.1 true) pend ps (moreW x.2.2 ws) ρ' s2 w' (putT tm x.2.1.dst v') ds' ∧ s2.rc = s1.rc := by
  have xL : x ∈ pend.map (·.x) ++ x :: ps := by simp
  have xc := I.L.sub.subset xL
  have nobit : ∀ z ∈ pend, x.2.2.testBit z.x.1 = false := fun z hz => by
    cases hb : x.2.2.testBit z.x.1 with
    | false => rfl
    | true => exact (I.L.unlisted (List.mem_append_left _ (List.mem_map_of_mem hz)) (I.L.mask p xc hr hb)).elim
  have nod : ∀ z ∈ pend, noDst all x.2.1 z.x.2.1 = true := fun z hz => by
    have pw := p.pairs.sublist I.L.sub
    rw [List.pairwise_append] at pw
    have := pw.2.2 z.x (List.mem_map_of_mem hz) x List.mem_cons_self
    unfold pairOk at this
    simp only [(I.pe z hz).lazy, cond_false, nobit z hz, Bool.and_false, Bool.false_or, Bool.and_eq_true] at this
    exact this.1
  have reg : s2.h = s1.h ∧ s2.n = s.n ∧ s2.d = s1.d ∧ s2.rc = s1.rc ∧ (∀ t, x.2.1.dst ≠ some t → s2.r.get t = s.r.get t) ∧ (∀ d, x.2.1.dst = some d → s2.r.get d = some v ∧ d < s.n) := by
    rcases putD_some hput with ⟨hdd, rfl⟩ | ⟨d, hdd, h2, h3, rfl⟩
    · exact ⟨rfl, e2, rfl, rfl, fun _ _ => by rw [e1], fun d e => by rw [hdd] at e; cases e⟩
    · refine ⟨rfl, e2, rfl, rfl, fun t e => ?_, fun d' e => ?_⟩
      · show (s1.r.put d v).get t = _
        rw [Tr.get_put _ _ _ _ (Nat.lt_trans h2 h3), if_neg, e1]
        intro e'; exact e (by rw [hdd, e'])
      · rw [hdd] at e; cases e
        refine ⟨?_, by rw [← e2]; exact h2⟩
        show (s1.r.put d v).get d = _
        rw [Tr.get_put _ _ _ _ (Nat.lt_trans h2 h3)]; simp
  obtain ⟨r1, r2, r3, r4, r5, r6⟩ := reg
  have sub := hst.sub
  refine ⟨⟨I.L.next p hr, by rw [r1]; exact I.step.trans hst, by rw [r1]; exact hst.top I.top, I.glob.mono sub, fun t u e hno => ?_, by rw [putT_size, r2]; exact I.size, by rw [r3]; exact hd, I.ctx.mono sub, fun e => by rw [r4]; exact e3 e, fun z hz => ?_, I.blks⟩, r4⟩
  · by_cases hdx : x.2.1.dst = some t
    · obtain ⟨d1, d2⟩ := r6 t hdx
      rw [d1] at e; cases e
      refine ⟨v', hv, ?_⟩
      rw [hdx, putT_get (by rw [I.size]; exact d2)]; simp
    · rw [r5 t hdx] at e
      obtain ⟨u', u1, u2⟩ := I.regs t u e hno
      refine ⟨u', ren_mono sub _ _ u1, ?_⟩
      cases hdd : x.2.1.dst with
      | none => exact u2
      | some d =>
        have hne : t ≠ d := fun e' => hdx (by rw [hdd, e'])
        rw [putT_get (by rw [I.size]; exact (r6 d hdd).2), if_neg hne]
        exact u2
  · have q := I.pe z hz
    refine ⟨q.want, q.lazy, fun t ht => ?_, fun d hd => ?_, ?_⟩
    · rw [r5 t fun e => (noDst_spec (nod z hz) e).2 ht]; exact q.looks t ht
    · rw [r5 d fun e => (noDst_spec (nod z hz) e).1 hd, r2]; exact q.dst d hd
    · rw [r1]
      exact q.fact.mono (fun k hk hi => mem_moreW hk (by rw [hi]; exact nobit z hz)) fun _ hn hl => ⟨hst.dom _ hn (.inl hl), hst.same _ hn hl, hst.nxt⟩

/-- What the strict one looks at stands there. -/
theorem Inv.looksS {listed : Array Bool} {pend : List Pe} {x : PO} {ps : List PO} {ws : List Watch} {ρ : Rn} {s : St} {w : World} {tm : Array Value} {ds : List Deferred}
    (p : PlanOk all ms c) (I : Inv E all ms c cx b cs ρ0 h0 w0 listed pend (x :: ps) ws ρ s w tm ds) (hr : x.1 ∈ Region.ready .any all listed) :
    ∀ t ∈ x.2.1.looksAt all, ∀ v, s.r.get t = some v → ∃ v', ren ρ v = some v' ∧ tm[t]? = some v' := by
  intro t ht v hv
  have xL : x ∈ pend.map (·.x) ++ x :: ps := by simp
  have xc := I.L.sub.subset xL
  refine I.regs t v hv fun z hz hd => ?_
  have pw := p.pairs.sublist I.L.sub
  rw [List.pairwise_append] at pw
  have := pw.2.2 z.x (List.mem_map_of_mem hz) x List.mem_cons_self
  have nb : x.2.2.testBit z.x.1 = false := by
    cases hb : x.2.2.testBit z.x.1 with
    | false => rfl
    | true => exact (I.L.unlisted (List.mem_append_left _ (List.mem_map_of_mem hz)) (I.L.mask p xc hr hb)).elim
  unfold pairOk at this
  simp only [(I.pe z hz).lazy, cond_false, nb, Bool.and_false, Bool.false_or, Bool.and_eq_true] at this
  exact (noDst_spec this.2 hd).2 ht

/-- A drawing region, in the order that is drawn. -/
theorem draw_go (ok : Ok E P) (hC : CallOk P E C) (p : PlanOk all ms c) {k : List Item} : ∀ (fuel t : Nat) {listed : Array Bool} {pend : List Pe} {ps : List PO} {ws : List Watch} {ρ : Rn} {s : St} {w : World} {tm : Array Value} {ds : List Deferred},
    Inv E all ms c cx b cs ρ0 h0 w0 listed pend ps ws ρ s w tm ds → Norm ps → pend.length + ps.length = fuel →
    Ends P E cx b cs ρ0 h0 w0 (lone (frm b tm ds (.inRegion all (Region.linearise.go .any all fuel t listed []) :: k)) (recd s.rc cs) w) k (evDraw E C cx all ps ws s)
  | 0, t, listed, pend, ps, ws, ρ, s, w, tm, ds, I, hn, hf => by
    have h1 : pend = [] := List.eq_nil_of_length_eq_zero (by omega)
    have h2 : ps = [] := List.eq_nil_of_length_eq_zero (by omega)
    subst h1; subst h2
    unfold evDraw
    cases checkW E s.h ws with
    | false => trivial
    | true =>
      simp only [Region.linearise.go, List.reverse_nil, cond_true]
      exact ⟨ρ, w, tm, ds, I.step, ⟨I.step.rel, I.top, I.glob, fun t v e => I.regs t v e (by simp), I.size, I.defs, I.ctx, I.rc⟩, step_regionEnd⟩
  | fuel + 1, t, listed, pend, ps, ws, ρ, s, w, tm, ds, I, hn, hf => by
    cases hchk : checkW E s.h ws with
    | false =>
      have : evDraw E C cx all ps ws s = .fail := by
        cases ps with
        | nil => unfold evDraw; simp only [hchk, cond_false]
        | cons x ps => unfold evDraw; simp only [show isStrict x.2.1 = true from hn, hchk, cond_false]
      rw [this]; trivial
    | true =>
      simp only [Region.linearise.go]
      change Ends P E cx b cs ρ0 h0 w0 (lone (frm b tm ds (.inRegion all (match (Region.ready .any all listed)[t % (Region.ready .any all listed).length]? with
        | some i => Region.linearise.go .any all fuel (t / (Region.ready .any all listed).length) (listed.setIfInBounds i true) [i]
        | none => [].reverse) :: k)) (recd s.rc cs) w) k (evDraw E C cx all ps ws s)
      cases hi : (Region.ready .any all listed)[t % (Region.ready .any all listed).length]? with
      | none =>
        exfalso
        cases hL : pend.map (·.x) ++ ps with
        | nil =>
          have h9 := congrArg List.length hL
          simp only [List.length_append, List.length_map, List.length_nil] at h9
          omega
        | cons z rest =>
          have I2 := I.L
          rw [hL] at I2
          have hz := I2.ready p
          have hlt : t % (Region.ready .any all listed).length < (Region.ready .any all listed).length := Nat.mod_lt _ (List.length_pos_of_mem hz)
          rw [List.getElem?_eq_getElem hlt] at hi
          cases hi
      | some i =>
        have hr : i ∈ Region.ready .any all listed := List.mem_of_getElem? hi
        simp only []
        rw [linearise_go_acc, List.reverse_singleton, List.singleton_append]
        obtain ⟨x, hx, rfl⟩ := I.L.pick p hr
        rcases List.mem_append.1 hx with hx' | hx'
        · -- one that waits
          obtain ⟨y, hy, rfl⟩ := List.mem_map.1 hx'
          obtain ⟨l1, l2, rfl⟩ := List.append_of_mem hy
          obtain ⟨ρ', w', tm', I', hs⟩ := I.exec ok p hr hchk (rest := Region.linearise.go .any all fuel (t / (Region.ready .any all listed).length) (listed.setIfInBounds y.x.1 true) []) (k := k) (cs' := recd s.rc cs)
          refine .of_steps hs (draw_go ok hC p fuel _ I' hn ?_)
          simp at hf ⊢; omega
        · -- the strict one
          cases ps with
          | nil => simp at hx'
          | cons x0 ps =>
            have hstr : isStrict x0.2.1 = true := hn
            have : x = x0 := by
              rcases List.mem_cons.1 hx' with e | hx2
              · exact e
              · exfalso
                have pw := p.pairs.sublist I.L.sub
                rw [List.pairwise_append, List.pairwise_cons] at pw
                have h1 := pw.2.1.1 x hx2
                unfold pairOk at h1
                simp only [hstr, cond_true] at h1
                exact I.L.unlisted (x := x0) (by simp) (I.L.mask p (I.L.sub.subset hx) hr h1)
            subst this
            have xc : x ∈ c := I.L.sub.subset hx
            have ho := (p.mem x xc).1
            have looks := I.looksS p hr
            -- on with the rest
            have on : ∀ {ρ' : Rn} {w' : World} {tm' : Array Value} {ds' : List Deferred} {s2 : St}, Inv E all ms c cx b cs ρ0 h0 w0 (listed.setIfInBounds x.1 true) pend ps (moreW x.2.2 ws) ρ' s2 w' tm' ds' →
                Ends P E cx b cs ρ0 h0 w0 (lone (frm b tm' ds' (.inRegion all (Region.linearise.go .any all fuel (t / (Region.ready .any all listed).length) (listed.setIfInBounds x.1 true) []) :: k)) (recd s2.rc cs) w') k (evDraw E C cx all ps (moreW x.2.2 ws) s2) := by
              intro ρ' w' tm' ds' s2 I'
              rcases advance p (C := C) I' with h | ⟨pend', ps', ws', s', q1, q2, q3, q4, q5⟩
              · rw [h]; trivial
              · rw [q2, ← q5]
                have h9 : pend.length + ps.length = fuel := by
                  have h8 : pend.length + (ps.length + 1) = fuel + 1 := hf
                  omega
                exact draw_go ok hC p fuel _ q1 q3 (q4.trans h9)
            unfold evDraw
            simp only [hstr, hchk, cond_true]
            cases hw : wantedT x.2.1 all s.r with
            | none => trivial
            | some wd =>
              have hw' := wantedT_rel looks hw
              cases wd with
              | false =>
                refine oOut_ends fun s2 hs2 => ?_
                obtain ⟨I', hrc⟩ := I.strict p hstr hr (Step.refl I.step.rel) rfl rfl I.rc I.defs (ren_undef ρ) hs2
                have := on I'
                rw [hrc] at this
                exact .of_steps (step_skipOp ho hw') this
              | true =>
                simp only []
                split
                · rename_i v s1 hv
                  obtain ⟨a1, a2, a3, ρ', w', v', ds', g1, g2, g3, g4⟩ := evOp_val ok hC hv I.step.rel I.top I.glob (OpOn.of_looks I.glob looks) I.defs I.ctx I.rc (rest := Region.linearise.go .any all fuel (t / (Region.ready .any all listed).length) (listed.setIfInBounds x.1 true) []) (k := k) ho hw'
                  refine oOut_ends fun s2 hs2 => ?_
                  obtain ⟨I', hrc⟩ := I.strict p hstr hr g1 a1 a2 a3 g3 g2 hs2
                  have := on I'
                  rw [hrc] at this
                  exact .of_steps g4 this
                · trivial

end
end Go.Ev
