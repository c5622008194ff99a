/- A deterministic evaluator of the model's code over a memory of its own: how a call begins, and what it leaves. -/
import Derived.Test.YthhohhbkeaghnaaEVzn
import Derived.Below
set_option linter.unusedSimpArgs false
set_option linter.unusedVariables false
set_option linter.unusedSectionVars false
namespace Go.Ev
variable {E : Env} {P : Program}

/-- A memory of which nothing may be written. -/
structure Start (ρ : Rn) (h : AH) (W : World) : Prop where
  rel : WRel ρ h W
  top : Top ρ h
  ro : ∀ b blk, h.b.get b = some blk → blk.own = false
  lt : ∀ b blk, h.b.get b = some blk → b < h.next

theorem Start.nothing (W : World) : Start (fun _ => none) AH.none W :=
  ⟨wrel_none _ W, fun _ _ => rfl, fun b blk h => by simp [AH.none, Tr.get] at h, fun b blk h => by simp [AH.none, Tr.get] at h⟩

theorem Start.more {ρ : Rn} {h : AH} {W : World} (S : Start ρ h W) (hn : h.next < cap) {blk : Blk} (ho : blk.own = false) {r : Nat × Nat × Nat} (hr : BlkRel (ρ.ins h.next r) W r.1 r.2.1 r.2.2 blk) : Start (ρ.ins h.next r) (h.new blk) W := by
  have sub : Sub ρ (ρ.ins h.next r) := Rn.sub_ins (S.top _ (Nat.le_refl _))
  have get : ∀ b x, (h.new blk).b.get b = some x → (b = h.next ∧ x = blk) ∨ (b ≠ h.next ∧ h.b.get b = some x) := by
    intro b x hb
    rw [get_new_if hn] at hb
    by_cases e : b = h.next
    · rw [if_pos e] at hb; cases hb; exact .inl ⟨e, rfl⟩
    · rw [if_neg e] at hb; exact .inr ⟨e, hb⟩
  have own : ∀ b x, (h.new blk).b.get b = some x → x.own = false := by
    intro b x hb
    rcases get b x hb with ⟨_, rfl⟩ | ⟨_, h2⟩
    · exact ho
    · exact S.ro b x h2
  refine ⟨⟨fun b x hb => ?_, fun b x hb c s y hc => ?_, fun b b' x x' hb hb' ho' => ?_, fun b b' x x' hb hb' ho' => ?_⟩, fun i hi => ?_, own, fun b x hb => ?_⟩
  · rcases get b x hb with ⟨e, _⟩ | ⟨_, h2⟩
    · omega
    · exact S.rel.low b x h2
  · rcases get b x hb with ⟨e, rfl⟩ | ⟨e, h2⟩
    · subst e
      have : (c, s, y) = r := by simpa [Rn.ins] using hc.symm
      subst this
      exact hr
    · have : ρ b = some (c, s, y) := by simpa [Rn.ins, e] using hc
      exact (S.rel.blk b x h2 c s y this).mono sub
  · have := own b x hb; rw [this] at ho'; cases ho'
  · have := own b x hb; rw [this] at ho'; cases ho'
  · have hi' : h.next + 1 ≤ i := hi
    show (if i = h.next then some r else ρ i) = none
    rw [if_neg (by omega)]
    exact S.top i (by omega)
  · show b < h.next + 1
    rcases get b x hb with ⟨e, _⟩ | ⟨_, h2⟩
    · omega
    · have := S.lt b x h2; omega

/-- A number that leads nowhere. -/
theorem Start.skip {ρ : Rn} {h : AH} {W : World} (S : Start ρ h W) (hn : h.next < cap) : Start ρ (h.new .dead) W := by
  have get : ∀ b x, (h.new .dead).b.get b = some x → (b = h.next ∧ x = .dead) ∨ (b ≠ h.next ∧ h.b.get b = some x) := by
    intro b x hb
    rw [get_new_if hn] at hb
    by_cases e : b = h.next
    · rw [if_pos e] at hb; cases hb; exact .inl ⟨e, rfl⟩
    · rw [if_neg e] at hb; exact .inr ⟨e, hb⟩
  have own : ∀ b x, (h.new .dead).b.get b = some x → x.own = false := by
    intro b x hb
    rcases get b x hb with ⟨_, rfl⟩ | ⟨_, h2⟩
    · rfl
    · exact S.ro b x h2
  refine ⟨⟨fun b x hb => ?_, fun b x hb c s y hc => ?_, fun b b' x x' hb hb' ho' => ?_, fun b b' x x' hb hb' ho' => ?_⟩, fun i hi => S.top i (Nat.le_of_succ_le hi), own, fun b x hb => ?_⟩
  · rcases get b x hb with ⟨e, _⟩ | ⟨_, h2⟩
    · omega
    · exact S.rel.low b x h2
  · rcases get b x hb with ⟨e, rfl⟩ | ⟨e, h2⟩
    · exact True.intro
    · exact S.rel.blk b x h2 c s y hc
  · have := own b x hb; rw [this] at ho'; cases ho'
  · have := own b x hb; rw [this] at ho'; cases ho'
  · show b < h.next + 1
    rcases get b x hb with ⟨e, _⟩ | ⟨_, h2⟩
    · omega
    · have := S.lt b x h2; omega

/-- A slice of whole numbers that came in. -/
def Came (W : World) (k : IntKind) (a : Option Addr) (len cp : Nat) (zs : List Int) : Prop :=
  zs.length = len ∧ ((a = none ∧ len = 0 ∧ cp = 0) ∨ ∃ x, a = some x ∧ x.spot = none ∧ len ≤ cp ∧ (∃ o, W.heap[x.block]? = some o) ∧ ∀ i z, zs[i]? = some z → W.cell? (x.add i) = some (.int k z))

theorem Start.slice {ρ : Rn} {h : AH} {W : World} (S : Start ρ h W) (hn : h.next < cap) {k : IntKind} {a : Option Addr} {len cp : Nat} {zs : List Int} (C : Came W k a len cp zs) :
    ∃ ρ' h' a', Start ρ' h' W ∧ Sub ρ ρ' ∧ Ext h h' ∧ h'.next = h.next + 1 ∧ Holds h' (fun z : Int => .int k z) a' len zs ∧ ren ρ' (.slice a' len cp) = some (.slice a len cp) := by
  obtain ⟨hl, ⟨rfl, rfl, rfl⟩ | ⟨x, rfl, hs, hle, ⟨o, ho⟩, hc⟩⟩ := C
  · exact ⟨ρ, h.new .dead, none, S.skip hn, Sub.refl _, (Ext.refl h).new _ hn, rfl, ⟨hl, .inl ⟨rfl, List.eq_nil_of_length_eq_zero hl⟩⟩, by simp [ren]⟩
  · obtain ⟨xb, xo, xs⟩ := x
    simp only at hs
    subst hs
    refine ⟨ρ.ins h.next (xb, xo, 0), h.new (.ro len fun i => .int k (zs.getD i 0)), some ⟨h.next, 0, none⟩, S.more hn rfl ?_, Rn.sub_ins (S.top _ (Nat.le_refl _)), (Ext.refl h).new _ hn, rfl, ⟨hl, .inr ⟨h.next, 0, _, rfl, Nat.lt_succ_self _, get_new_self hn, fun i z hz => ?_⟩⟩, ?_⟩
    · refine ⟨⟨rfl, o, ho⟩, fun i hi => ⟨.int k (zs.getD i 0), by simp [ren], ?_⟩⟩
      have hz : zs[i]? = some (zs.getD i 0) := by
        rw [List.getElem?_eq_getElem (by omega), List.getD_eq_getElem?_getD, List.getElem?_eq_getElem (by omega)]; rfl
      have := hc i _ hz
      unfold Addr.add at this
      by_cases h0 : i = 0
      · subst h0; simpa using this
      · simpa [h0] using this
    · have hi : i < zs.length := by
        by_cases hi : i < zs.length
        · exact hi
        · rw [List.getElem?_eq_none (by omega)] at hz; cases hz
      rw [cell_ro, if_pos (by omega), Nat.zero_add, List.getD_eq_getElem?_getD, hz]; rfl
    · simp [ren, Rn.ins]

/-- Nothing that was there has turned. -/
theorem Start.below {ρ : Rn} {h : AH} {W : World} (S : Start ρ h W) {ρ' : Rn} {h' : AH} {W' : World} (st : Step ρ h W ρ' h' W') : RowKit.Below W.heap.size W W' :=
  ⟨st.os, st.tape, st.output, st.size, fun c hc => st.keep c hc fun b blk s x hb ho _ => by rw [S.ro b blk hb] at ho; cases ho⟩

theorem calls_true (ok : Ok E P) (kn : KnownOk E P) {ft : Tr AFunc} (tab : TabOk P ft) (ng : E.ng = 0) {f : FuncId} {af : AFunc} (hf : ft.get f = some af) {ρ : Rn} {h h' : AH} {W : World} {rc : Bool} (S : Start ρ h W) {args args' : List Value} (e : CL E ft (.fn f) args none h = .ret (.bool true) h' rc) (ha : renL ρ args = some args') :
    Calls P f ⟨args'⟩ W fun e W' => e = .returned (.bool true) ∧ RowKit.Below W.heap.size W W' := by
  have C := calls_of_CL ok kn tab hf e S.rel S.top (fun g hg => by rw [ng] at hg; omega) ha
  intro cs
  obtain ⟨e, W', fr, ⟨ρ', v', h1, h2, h3⟩, h4⟩ := C cs
  simp [ren] at h2
  exact ⟨e, W', fr, ⟨by rw [h3, ← h2], S.below h1⟩, h4⟩

end Go.Ev
