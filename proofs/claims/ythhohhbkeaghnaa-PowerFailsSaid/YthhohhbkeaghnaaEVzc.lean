/- A deterministic evaluator of the model's code over a memory of its own: from the evaluator to the kit's calls; tables. -/
import Derived.Test.YthhohhbkeaghnaaEVzb
import Derived.Below
set_option linter.unusedSimpArgs false
set_option linter.unusedVariables false
set_option linter.unusedSectionVars false
namespace Go.Ev
variable {E : Env} {P : Program}

theorem calls_of (ok : Ok E P) (kn : KnownOk E P) {ft : Tr AFunc} (tab : TabOk P ft) {n : Nat} {f : FuncId} {af : AFunc} (hf : ft.get f = some af) {args : List Value} {h h' : AH} {v : Value} {rc : Bool} (e : callN E ft n (.fn f) args none h = .ret v h' rc) {ρ : Rn} {w : World} (hr : WRel ρ h w) (top : Top ρ h) (hg : GlobOk E ρ) {args' : List Value} (ha : renL ρ args = some args') :
    Calls P f ⟨args'⟩ w fun e w' => ∃ ρ' v', Step ρ h w ρ' h' w' ∧ ren ρ' v = some v' ∧ e = .returned v' := by
  obtain ⟨hrc, H⟩ := (callN_ok ok kn tab n).ret e hr top hg ha
  cases hrc rfl
  obtain ⟨fn, body, h1, h2, h3, h4⟩ := tab f af hf
  rcases H with ⟨v', _, _, _, h5⟩ | ⟨_, H⟩
  · rw [run_callFunc h1 h2 h3] at h5
    cases h5
  · intro cs
    obtain ⟨ρ', w', v', fr, g1, g2, g3, g4⟩ := H .normal cs (.inl rfl)
    exact ⟨.returned v', w', fr, ⟨ρ', v', g1, g2, rfl⟩, g3, g4.fn, g4.leaving⟩

/-! ### Tables out of the program -/
def ofListC {α : Type} : List (Nat × α) → Tr α
  | [] => .nil
  | x :: l => bif Nat.blt x.1 cap then (ofListC l).put x.1 x.2 else ofListC l

theorem ofListC_get {α : Type} : ∀ {l : List (Nat × α)} {k : Nat} {x : α}, (ofListC l).get k = some x → (k, x) ∈ l
  | [], k, x, h => by simp [ofListC, Tr.get] at h
  | (i, y) :: l, k, x, h => by
    unfold ofListC at h
    cases hc : Nat.blt i cap with
    | false => simp only [hc, cond_false] at h; exact List.mem_cons_of_mem _ (ofListC_get h)
    | true =>
      simp only [hc, cond_true] at h
      rw [Tr.get_put _ _ _ _ (of_blt hc)] at h
      by_cases e : k = i
      · rw [if_pos e] at h
        cases h
        rw [e]; exact List.mem_cons_self
      · rw [if_neg e] at h
        exact List.mem_cons_of_mem _ (ofListC_get h)

def ttList (P : Program) : List TypeId → List (Nat × TInfo)
  | [] => []
  | t :: l => match tinfoOf P t with
    | some i => (t, i) :: ttList P l
    | none => ttList P l

theorem ttList_mem : ∀ {l : List TypeId} {t : TypeId} {i : TInfo}, (t, i) ∈ ttList P l → tinfoOf P t = some i
  | [], _, _, h => by simp [ttList] at h
  | u :: l, t, i, h => by
    unfold ttList at h
    split at h
    · rename_i j hj
      rcases List.mem_cons.1 h with e | h
      · cases e; exact hj
      · exact ttList_mem h
    · exact ttList_mem h

def ftList (P : Program) : List FuncId → List (Nat × AFunc)
  | [] => []
  | f :: l => match P.funcs[f]? with
    | some fn => bif fn.body.isSome && !(fn.name == "runtime.NumGoroutine") then (f, afunc fn) :: ftList P l else ftList P l
    | none => ftList P l

theorem ftList_mem : ∀ {l : List FuncId} {f : FuncId} {a : AFunc}, (f, a) ∈ ftList P l → ∃ fn body, P.funcs[f]? = some fn ∧ fn.body = some body ∧ fn.name ≠ "runtime.NumGoroutine" ∧ a = ⟨fn.ntmps, fn.results.toList, comp body⟩
  | [], _, _, h => by simp [ftList] at h
  | g :: l, f, a, h => by
    unfold ftList at h
    split at h
    · rename_i fn hfn
      cases hc : (fn.body.isSome && !(fn.name == "runtime.NumGoroutine")) with
      | false => simp only [hc, cond_false] at h; exact ftList_mem h
      | true =>
        simp only [hc, cond_true] at h
        simp only [Bool.and_eq_true, Bool.not_eq_true', beq_eq_false_iff_ne, ne_eq] at hc
        rcases List.mem_cons.1 h with e | h
        · cases e
          cases hb : fn.body with
          | none => rw [hb] at hc; simp at hc
          | some body => exact ⟨fn, body, hfn, hb, hc.2, by simp [afunc, hb]⟩
        · exact ftList_mem h
    · exact ftList_mem h

theorem tabOk_of (P : Program) (l : List FuncId) : TabOk P (ofListC (ftList P l)) := fun _ _ h => ftList_mem (ofListC_get h)

theorem ok_of (P : Program) (l : List TypeId) (ng : Nat) (kn : FuncId → Option Value) (ho : P.follows .mixedOrders = true) : Ok ⟨ofListC (ttList P l), ng, fun _ => false, kn⟩ P :=
  ⟨fun _ _ h => ttList_mem (ofListC_get h), ho, fun _ h => by cases h⟩

/-- Memory that nothing is known of. -/
def AH.none : AH := ⟨0, .nil⟩
theorem wrel_none (ρ : Rn) (w : World) : WRel ρ AH.none w := by
  refine ⟨?_, ?_, ?_, ?_⟩ <;> intros <;> rename_i h <;> simp [AH.none, Tr.get] at *

/-- What has been evaluated in a memory that nothing is known of is known of every memory. -/
theorem known_of (ok : Ok E P) (kn : KnownOk E P) {ft : Tr AFunc} (tab : TabOk P ft) (ng : E.ng = 0) {n : Nat} {f : FuncId} {h' : AH} {rc b : Bool} (e : callN E ft n (.fn f) [] none AH.none = .ret (.bool b) h' rc) (he : ∃ af, ft.get f = some af) {ρ : Rn} {h : AH} {w : World} (hr : WRel ρ h w) (top : Top ρ h) :
    (callFunc f #[]).run P w = .ok (.enter f #[]) w ∧ ∀ kind cs, KindOk ρ none kind cs → ∃ w' v' fr, Step ρ h w ρ h w' ∧ ren ρ (.bool b) = some v' ∧
      Steps P (lone (Frame.enter P f #[] kind) cs w) (lone fr (recd false cs) w') ∧ Fin P fr f kind w' v' := by
  obtain ⟨hrc, H⟩ := (callN_ok ok kn tab n).ret e (ρ := fun _ => Option.none) (w := w) (args' := []) (wrel_none _ w) (fun _ _ => rfl) (fun g hg => by rw [ng] at hg; omega) rfl
  cases hrc rfl
  obtain ⟨af, hf⟩ := he
  obtain ⟨fn, body, h1, h2, h3, h4⟩ := tab f af hf
  rcases H with ⟨v', _, _, _, h5⟩ | ⟨h5, H⟩
  · rw [run_callFunc h1 h2 h3] at h5
    cases h5
  · refine ⟨h5, fun kind cs hk => ?_⟩
    have hk' : KindOk (fun _ => Option.none) Option.none kind cs := hk
    obtain ⟨ρ', w', v', fr, g1, g2, g3, g4⟩ := H kind cs hk'
    have keep : ∀ c, c < w.heap.size → w'.heap[c]? = w.heap[c]? := fun c hc => g1.keep c hc fun b blk s x hb => by simp [AH.none, Tr.get] at hb
    have own : ∀ b blk c s x, h.b.get b = some blk → (blk.own = true ∨ blk.isRo = true) → ρ b = some (c, s, x) → c < w.heap.size := fun b blk c s x hb ho hc => (hr.blk b blk hb c s x hc).lt ho
    have any : ∀ b blk c s x, h.b.get b = some blk → ρ b = some (c, s, x) → BlkRel ρ w' c s x blk := fun b blk c s x hb hc => by
      by_cases ho : blk.own = true ∨ blk.isRo = true
      · exact (hr.blk b blk hb c s x hc).congr (keep c (own b blk c s x hb ho hc))
      · cases blk <;> simp [Blk.own, Blk.isRo] at ho
        exact True.intro
    refine ⟨w', v', fr, ⟨Sub.refl _, fun _ e _ => e, Nat.le_refl _, ⟨hr.low, fun b blk hb c s x hc => any b blk c s x hb hc, hr.inj, hr.apart⟩, g1.size, g1.os, g1.tape, g1.output, fun c hc _ => keep c hc, fun _ _ _ => rfl, fun b blk c s x hb ho hc _ hfree => hfree b blk s x hb ho hc⟩, ?_, g3, g4⟩
    simpa [ren] using g2

end Go.Ev
