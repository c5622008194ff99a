/- A deterministic evaluator of the model's code over a memory of its own: it is the model's. -/
import Derived.Test.YthhohhbkeaghnaaEVza
set_option linter.unusedSimpArgs false
set_option linter.unusedVariables false
set_option linter.unusedSectionVars false
namespace Go.Ev
variable {E : Env} {P : Program}

/-- What a round comes to. -/
def RoundRes (P : Program) (ρ : Rn) (h : AH) (w : World) (c : Frame) (cs : List Frame) (mc : Machine) : CRes → Prop
  | .fail => True
  | .ret v h' _ => ∃ ρ' w' v', Step ρ h w ρ' h' w' ∧ ren ρ' v = some v' ∧ Steps P mc (lone (c.finish v') cs w')
  | .pan v h' => ∃ ρ' w' v', Step ρ h w ρ' h' w' ∧ ren ρ' v = some v' ∧ Steps P mc (lone (c.raise [{ v := v', recovered := false }]) cs w')

theorem roundEnd_ok {ρ : Rn} {h : AH} {w : World} (hr : WRel ρ h w) {l lw s x : Nat} (hl : ρ l = some (lw, s, x)) {c : Frame} {cs : List Frame} {b : Frame} {tm : Array Value} {todo : List Item} {jump : Option Code} (hn : b.roundOf = some lw) (hk : b.kind = .normal)
    (ht : (todo = [] ∧ jump = none) ∨ (∃ k, todo = .code .ret :: k ∧ jump = some .ret) ∨ (∃ i k, todo = .code (.exit i) :: k ∧ exitTo i k = none ∧ jump = some (.exit i))) :
    RoundRes P ρ h w c cs (lone (frm b tm [] todo) (c :: cs) w) (roundEnd l jump h) := by
  unfold roundEnd
  split
  · rename_i st pend fn n r ps asg bo de hb
    obtain ⟨rec, r1, r2, r3, r4, r5, r6, r7, r8, r9⟩ := Step.loop hr hl hb
    refine ⟨ρ, _, .bool jump.isNone, r9 (if jump.isNone then .ready else .done) jump, by simp [ren], step_roundEnd hn hk ht (run_endRound r1 jump)⟩
  · trivial

theorem RoundRes.after {ρ ρ1 : Rn} {h h1 : AH} {w w1 : World} {c : Frame} {cs : List Frame} {mc mc1 : Machine} {x : CRes} (s : Step ρ h w ρ1 h1 w1) (st : Steps P mc mc1) (e : RoundRes P ρ1 h1 w1 c cs mc1 x) : RoundRes P ρ h w c cs mc x := by
  cases x with
  | fail => trivial
  | ret v h' rc => obtain ⟨ρ', w', v', a1, a2, a3⟩ := e; exact ⟨ρ', w', v', s.trans a1, a2, st.trans a3⟩
  | pan v h' => obtain ⟨ρ', w', v', a1, a2, a3⟩ := e; exact ⟨ρ', w', v', s.trans a1, a2, st.trans a3⟩

theorem endOf_ok {ρ : Rn} {h : AH} {w : World} {l lw s x : Nat} (hl : ρ l = some (lw, s, x)) {c : Frame} {cs : List Frame} {b : Frame} (hn : b.roundOf = some lw) (hk : b.kind = .normal) {mc : Machine} {o : Out}
    (he : Ends P E ⟨some l, none⟩ b (c :: cs) ρ h w mc [] o) : RoundRes P ρ h w c cs mc (endOf l o) := by
  have nods : ∀ {ρ' : Rn} {ds : List Deferred}, DefRel ρ' [] ds → ds = [] := fun {ρ' ds} h => by
    cases ds with
    | nil => rfl
    | cons _ _ => exact h.elim
  cases o with
  | fail => trivial
  | nor s =>
    obtain ⟨ρ', w', tm, ds, g1, g2, g3⟩ := he
    unfold endOf
    simp only []
    split
    · rename_i hd
      have := nods (hd ▸ g2.defs)
      subst this
      rw [g2.rc rfl] at g3
      exact .after g1 g3 (roundEnd_ok g2.rel (g1.sub _ _ hl) hn hk (.inl ⟨rfl, rfl⟩))
    · trivial
  | ret s =>
    obtain ⟨ρ', w', tm, ds, k', g1, g2, g3⟩ := he
    unfold endOf
    simp only []
    split
    · rename_i hd
      have := nods (hd ▸ g2.defs)
      subst this
      rw [g2.rc rfl] at g3
      exact .after g1 g3 (roundEnd_ok g2.rel (g1.sub _ _ hl) hn hk (.inr (.inl ⟨_, rfl, rfl⟩)))
    · trivial
  | exit i s =>
    obtain ⟨ρ', w', tm, ds, k', g1, g2, g0, g3⟩ := he
    unfold endOf
    simp only []
    split
    · rename_i hd
      have := nods (hd ▸ g2.defs)
      subst this
      rw [g2.rc rfl] at g3
      exact .after g1 g3 (roundEnd_ok g2.rel (g1.sub _ _ hl) hn hk (.inr (.inr ⟨_, _, rfl, g0, rfl⟩)))
    · trivial
  | goto i s => trivial
  | pan v s =>
    obtain ⟨ρ', w', tm, ds, k', v', g1, g2, g3, g4, g5⟩ := he
    unfold endOf
    simp only []
    split
    · rename_i hd
      have := nods (hd ▸ g2.defs)
      subst this
      rw [g2.rc rfl] at g5
      exact ⟨ρ', w', v', g1, g3, g5.trans (step_roundPan g4)⟩
    · trivial

theorem yield_ok (ok : Ok E P) {ft : Tr AFunc} {n : Nat} (hC : CallOk P E (callN E ft n)) {l : Nat} {args : List Value} {pan : Option Value} {h : AH} {ρ : Rn} {w : World} {args' : List Value} {lw s x : Nat} (hr : WRel ρ h w) (top : Top ρ h) (hg : GlobOk E ρ) (hl : ρ l = some (lw, s, x)) (ha : renL ρ args = some args')
    (hne : callN E ft (n + 1) (.yield l) args pan h ≠ .fail) :
    ∃ f tm a b, (Instr.yield lw ⟨args'⟩).run P w = .ok (.round lw f tm a b) w ∧ ∀ c cs, RoundRes P ρ h w c cs (lone (Frame.round lw f tm a b .normal) (c :: cs) w) (callN E ft (n + 1) (.yield l) args pan h) := by
  rw [callN_yield] at hne ⊢
  split at hne
  · rename_i pend fn m r ps asg bo de hb
    cases hc : Nat.blt m cap with
    | false => simp [hc] at hne
    | true =>
      simp only [hc, cond_true] at hne ⊢
      have hcap := of_blt hc
      cases hp : putAll m r ps args with
      | none => simp [hp] at hne
      | some r2 =>
        simp only [hp] at hne ⊢
        obtain ⟨rec, r1, r3, r4, r5, r6, r7, r8, r9, _⟩ := Step.loop hr hl hb
        obtain ⟨q1, q2, q3⟩ := putAll_sound hcap hp r9 r8 ha
        have hl' := renL_length ha
        have hy : (Instr.yield lw ⟨args'⟩).run P w = .ok (.round lw rec.fn ((ps.zip args').foldl (fun tm x => tm.setIfInBounds x.1 x.2) rec.tmps) asg bo) w := by
          simp only [Instr.yield, Sem.run_bind, run_getLoop r1, Result.andThen_ok, r5]
          have : ¬ ((⟨args'⟩ : Array Value).size ≠ (⟨ps⟩ : Array Tmp).size) := by simp; omega
          rw [if_neg this]
          simp [r6, r7]
        refine ⟨rec.fn, _, asg, bo, hy, fun c cs => ?_⟩
        generalize hfr : Frame.round lw rec.fn ((ps.zip args').foldl (fun tm x => tm.setIfInBounds x.1 x.2) rec.tmps) asg bo .normal = fr
        have hn : fr.roundOf = some lw := by rw [← hfr]; rfl
        have hk : fr.kind = .normal := by rw [← hfr]; rfl
        have hfrm : fr = frm fr ((ps.zip args').foldl (fun tm x => tm.setIfInBounds x.1 x.2) rec.tmps) [] [.code asg, .beginRound, .code bo] := by rw [← hfr]; rfl
        have hs : SRel E ⟨some l, none⟩ fr (c :: cs) ρ ⟨r2, m, [], h, false⟩ w ((ps.zip args').foldl (fun tm x => tm.setIfInBounds x.1 x.2) rec.tmps) [] :=
          ⟨hr, top, hg, q2, q3, trivial, ⟨rfl, hk, lw, s, x, hl, hn⟩, fun _ => rfl⟩
        have he := (ev_ends ok hC n).1 asg (k := [.beginRound, .code bo]) (.inl rfl) hs
        rw [← hfrm] at he
        have hst : recd (St.rc ⟨r2, m, [], h, false⟩) (c :: cs) = c :: cs := rfl
        rw [hst] at he
        split
        · rename_i s1 hs1
          rw [hs1] at he
          obtain ⟨ρ1, w1, tm1, ds1, g1, g2, g3⟩ := he
          rw [g2.rc rfl] at g3
          have hl1 := g1.sub _ _ hl
          split
          · rename_i pend1 fn1 m1 r1' ps1 asg1 bo1 de1 hb1
            obtain ⟨rec1, t1, t2, t3, t4, t5, t6, t7, t8, t9⟩ := Step.loop g2.rel hl1 hb1
            have t9' := t9 .busy pend1
            have hs2 : SRel E ⟨some l, none⟩ fr (c :: cs) ρ1 { s1 with h := s1.h.upd l (.loop .busy pend1 fn1 m1 r1' ps1 asg1 bo1 de1) } { w1 with heap := w1.heap.setIfInBounds lw (.loop { rec1 with state := .busy, pending := pend1 }) } tm1 ds1 :=
              ⟨t9'.rel, t9'.top g2.top, g2.glob, g2.regs, g2.size, g2.defs, g2.ctx, g2.rc⟩
            have hbr : (Instr.beginRound lw).run P w1 = .ok () { w1 with heap := w1.heap.setIfInBounds lw (.loop { rec1 with state := .busy, pending := pend1 }) } := by
              rw [run_beginRound t1 t2]; subst t3; rfl
            have he2 := (ev_ends ok hC n).1 bo (k := []) (.inl rfl) hs2
            have hst2 : recd (St.rc { s1 with h := s1.h.upd l (.loop .busy pend1 fn1 m1 r1' ps1 asg1 bo1 de1) }) (c :: cs) = c :: cs := by
              show recd s1.rc (c :: cs) = _
              rw [g2.rc rfl]; rfl
            rw [hst2] at he2
            exact .after (g1.trans t9') (g3.trans (step_beginRound hn hbr)) (endOf_ok hl1 hn hk he2)
          · trivial
        · trivial
  · exact absurd rfl hne

/-- The evaluator is right, at every depth. -/
theorem callN_ok (ok : Ok E P) (kn : KnownOk E P) {ft : Tr AFunc} (tab : TabOk P ft) : ∀ n, CallOk P E (callN E ft n)
  | 0 => ⟨fun e => (by cases e), fun e => (by cases e), fun e => (by cases e), fun e => (by cases e)⟩
  | n + 1 => by
    have hC := callN_ok ok kn tab n
    refine ⟨@fun f args pan h v h' rc e ρ w args' hr top hg ha => ?_, @fun f args h v h' e ρ w args' hr top hg ha => ?_, @fun l args h v h' rc e ρ w args' lw s x hr top hg hl ha => ?_, @fun l args h v h' e ρ w args' lw s x hr top hg hl ha => ?_⟩
    · rw [callN_fn] at e
      split at e
      · cases hs : E.same f with
        | false =>
          simp only [hs, cond_false] at e
          split at e
          · rename_i v0 hk
            cases e
            simp [renL] at ha; subst ha
            obtain ⟨h1, h2⟩ := kn f _ hk hr top hg
            refine ⟨fun _ => rfl, .inr ⟨h1, fun kind cs hkd => ?_⟩⟩
            obtain ⟨w', v', fr, s1, s2, s3, s4⟩ := h2 kind cs hkd
            exact ⟨ρ, w', v', fr, s1, s2, s3, s4⟩
          · cases e
        | true =>
          simp only [hs, cond_true] at e
          split at e
          · rename_i a
            cases e
            obtain ⟨a', m, h1, h2, rfl⟩ := renL_cons.1 ha
            simp [renL] at h2; subst h2
            refine ⟨fun _ => rfl, .inl ⟨a', h1, rfl, rfl, ?_⟩⟩
            have : ∃ b, a' = .pointer b := by
              cases a with
              | none => simp [ren] at h1; exact ⟨_, h1.symm⟩
              | some a => simp only [ren, Option.map_eq_some_iff] at h1; obtain ⟨b, _, e⟩ := h1; exact ⟨_, e.symm⟩
            obtain ⟨b, rfl⟩ := this
            exact ok.same f hs b w
          · cases e
      · rename_i af hft
        obtain ⟨fn, body, hf, hb, hn, rfl⟩ := tab f af hft
        cases hc : (Nat.ble args.length fn.ntmps && Nat.blt fn.ntmps cap) with
        | false => simp [hc] at e
        | true =>
          simp only [hc, cond_true] at e
          simp only [Bool.and_eq_true] at hc
          have key : ∀ kind cs, KindOk ρ pan kind cs → _ := fun kind cs hk => body_res ok hC hf hb (n := n) hr top hg ha (of_ble hc.1) (of_blt hc.2) hk
          rw [e] at key
          refine ⟨fun hp => ?_, .inr ⟨run_callFunc hf hb hn _ _, fun kind cs hk => (key kind cs hk).2⟩⟩
          subst hp
          exact (key .normal [] (.inl rfl)).1 rfl
    · rw [callN_fn] at e
      split at e
      · cases hs : E.same f with
        | false =>
          simp only [hs, cond_false] at e
          split at e <;> cases e
        | true =>
          simp only [hs, cond_true] at e
          split at e <;> cases e
      · rename_i af hft
        obtain ⟨fn, body, hf, hb, hn, rfl⟩ := tab f af hft
        cases hc : (Nat.ble args.length fn.ntmps && Nat.blt fn.ntmps cap) with
        | false => simp [hc] at e
        | true =>
          simp only [hc, cond_true] at e
          simp only [Bool.and_eq_true] at hc
          have key : ∀ kind cs, KindOk ρ none kind cs → _ := fun kind cs hk => body_res ok hC hf hb (n := n) hr top hg ha (of_ble hc.1) (of_blt hc.2) hk
          rw [e] at key
          exact ⟨run_callFunc hf hb hn _ _, fun cs => key .normal cs (.inl rfl)⟩
    · obtain ⟨f, tm, a, b, h1, h2⟩ := yield_ok ok hC (pan := none) hr top hg hl ha (by rw [e]; simp)
      rw [e] at h2
      exact ⟨f, tm, a, b, h1, h2⟩
    · obtain ⟨f, tm, a, b, h1, h2⟩ := yield_ok ok hC (pan := none) hr top hg hl ha (by rw [e]; simp)
      rw [e] at h2
      exact ⟨f, tm, a, b, h1, h2⟩

end Go.Ev
