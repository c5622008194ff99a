/- A deterministic evaluator of the model's code over a memory of its own: how its values and memory stand to the model's. -/
import Derived.Test.YthhohhbkeaghnaaEVb
import Derived.Calls
set_option linter.unusedSimpArgs false
set_option linter.unusedVariables false
set_option linter.unusedSectionVars false
namespace Go.Ev

/-! ### The store -/
theorem beqF {a b : Nat} (h : a ≠ b) : a.beq b = false := by
  cases e : a.beq b with
  | false => rfl
  | true => exact absurd (Nat.eq_of_beq_eq_true e) h
theorem beqT {a b : Nat} (h : a = b) : a.beq b = true := by subst h; exact Nat.beq_refl a
theorem of_beq {a b : Nat} (h : a.beq b = true) : a = b := Nat.eq_of_beq_eq_true h
theorem of_beqF {a b : Nat} (h : a.beq b = false) : a ≠ b := fun e => by rw [beqT e] at h; cases h
theorem of_blt {a b : Nat} (h : Nat.blt a b = true) : a < b := Nat.le_of_ble_eq_true h
theorem of_ble {a b : Nat} (h : Nat.ble a b = true) : a ≤ b := Nat.le_of_ble_eq_true h

theorem Tr.get_set {α : Type} : ∀ (f : Nat) (t : Tr α) (n m : Nat) (x : α), n + 1 < 2 ^ f → (Tr.set f t n x).get m = if m = n then some x else t.get m := by
  intro f
  induction f with
  | zero => intro t n m x h; simp at h
  | succ f ih =>
    intro t n m x h
    have hp : 2 ^ (f + 1) = 2 * 2 ^ f := by rw [Nat.pow_succ]; omega
    have key : ∀ (v : Option α) (l r : Tr α), (bif n.beq 0 then Tr.node (some x) l r else bif (Nat.mod n 2).beq 1 then .node v (Tr.set f l (Nat.div n 2) x) r else .node v l (Tr.set f r (Nat.sub (Nat.div n 2) 1) x)).get m = if m = n then some x else (Tr.node v l r).get m := by
      intro v l r
      by_cases hn : n = 0
      · subst hn
        simp only [Nat.beq_refl, cond_true]
        by_cases hm : m = 0
        · subst hm; simp [Tr.get]
        · have : m.beq 0 = false := beqF hm
          simp [Tr.get, hm, this]
      · have hn0 : n.beq 0 = false := beqF hn
        rw [hn0]
        simp only [cond_false]
        by_cases hodd : n % 2 = 1
        · have h1 : (Nat.mod n 2).beq 1 = true := beqT hodd
          rw [h1]
          simp only [cond_true, Tr.get]
          by_cases hm : m = 0
          · subst hm
            have : ¬ (0 = n) := by omega
            simp [this]
          · have hm0 : m.beq 0 = false := beqF hm
            rw [hm0]
            simp only [cond_false]
            by_cases hmo : m % 2 = 1
            · have h2 : (Nat.mod m 2).beq 1 = true := beqT hmo
              rw [h2]
              simp only [cond_true]
              have e1 : Nat.div n 2 = n / 2 := rfl
              have e2 : Nat.div m 2 = m / 2 := rfl
              rw [e1, e2, ih l (n / 2) (m / 2) x (by omega)]
              by_cases e : m = n
              · subst e; simp
              · have : ¬ (m / 2 = n / 2) := by omega
                simp [e, this]
            · have h2 : (Nat.mod m 2).beq 1 = false := beqF hmo
              rw [h2]
              have e : ¬ m = n := by omega
              simp [e]
        · have h1 : (Nat.mod n 2).beq 1 = false := beqF hodd
          rw [h1]
          simp only [cond_false, Tr.get]
          by_cases hm : m = 0
          · subst hm
            have : ¬ (0 = n) := by omega
            simp [this]
          · have hm0 : m.beq 0 = false := beqF hm
            rw [hm0]
            simp only [cond_false]
            by_cases hmo : m % 2 = 1
            · have h2 : (Nat.mod m 2).beq 1 = true := beqT hmo
              rw [h2]
              have e : ¬ m = n := by omega
              simp [e]
            · have h2 : (Nat.mod m 2).beq 1 = false := beqF hmo
              rw [h2]
              simp only [cond_false]
              have e1 : Nat.sub (Nat.div n 2) 1 = n / 2 - 1 := rfl
              have e2 : Nat.sub (Nat.div m 2) 1 = m / 2 - 1 := rfl
              rw [e1, e2, ih r (n / 2 - 1) (m / 2 - 1) x (by omega)]
              by_cases e : m = n
              · subst e; simp
              · have : ¬ (m / 2 - 1 = n / 2 - 1) := by omega
                simp [e, this]
    cases t with
    | nil =>
      have := key none .nil .nil
      simp only [Tr.set]
      rw [this]
      by_cases hm : m = n
      · simp [hm]
      · simp only [hm, if_false, Tr.get]
        cases m.beq 0 <;> cases (Nat.mod m 2).beq 1 <;> rfl
    | node v l r => simp only [Tr.set]; exact key v l r

theorem Tr.get_put {α : Type} (t : Tr α) (n m : Nat) (x : α) (h : n < cap) : (t.put n x).get m = if m = n then some x else t.get m :=
  Tr.get_set 41 t n m x (by unfold cap at h; omega)

/-! ### Values -/
/-- Of a block here: the block of the world, where it begins in it, how many elements more it has. -/
abbrev Rn := Nat → Option (Nat × Nat × Nat)

def Rn.addr (ρ : Rn) : Addr → Option Addr
  | ⟨b, o, none⟩ => match ρ b with
    | some (c, s, _) => some ⟨c, s + o, none⟩
    | none => none
  | _ => none

mutual
def ren (ρ : Rn) : Value → Option Value
  | .bool b => some (.bool b)
  | .int k n => some (.int k n)
  | .float _ _ => none
  | .complex _ _ _ => none
  | .string s => some (.string s)
  | .pointer none => some (.pointer none)
  | .pointer (some a) => (ρ.addr a).map fun a => .pointer (some a)
  | .slice none l c => some (.slice none l c)
  | .slice (some ⟨b, o, none⟩) l c => match ρ b with
    | some (B, s, x) => some (.slice (some ⟨B, s + o, none⟩) l (c + x))
    | none => none
  | .slice (some ⟨_, _, some _⟩) _ _ => none
  | .map none => some (.map none)
  | .map (some r) => (ρ r).map fun x => .map (some x.1)
  | .chan _ => none
  | .func (.func f) a b => match renA ρ a, renA ρ b with
    | some a, some b => some (.func (.func f) a b)
    | _, _ => none
  | .func (.yield l) a b => match ρ l, renA ρ a, renA ρ b with
    | some l, some a, some b => some (.func (.yield l.1) a b)
    | _, _, _ => none
  | .func _ _ _ => none
  | .nilFunc => some .nilFunc
  | .iface t v => (ren ρ v).map fun v => .iface t v
  | .nilIface => some .nilIface
  | .agg a => (renA ρ a).map fun a => .agg a
  | .tuple a => (renA ρ a).map fun a => .tuple a
def renA (ρ : Rn) : Array Value → Option (Array Value)
  | ⟨l⟩ => (renL ρ l).map fun l => ⟨l⟩
def renL (ρ : Rn) : List Value → Option (List Value)
  | [] => some []
  | v :: l => match ren ρ v, renL ρ l with
    | some v, some l => some (v :: l)
    | _, _ => none
end

/-- One renaming is a part of another. -/
def Sub (ρ ρ' : Rn) : Prop := ∀ b r, ρ b = some r → ρ' b = some r

theorem Sub.refl (ρ : Rn) : Sub ρ ρ := fun _ _ h => h
theorem Sub.trans {a b c : Rn} (h : Sub a b) (k : Sub b c) : Sub a c := fun x r e => k x r (h x r e)

theorem Rn.addr_mono {ρ ρ' : Rn} (h : Sub ρ ρ') {a a' : Addr} (e : ρ.addr a = some a') : ρ'.addr a = some a' := by
  obtain ⟨b, o, sp⟩ := a
  cases sp with
  | some _ => simp [Rn.addr] at e
  | none =>
    simp only [Rn.addr] at e ⊢
    cases hb : ρ b with
    | none => rw [hb] at e; simp at e
    | some r => rw [hb] at e; rw [h b r hb]; exact e

mutual
theorem ren_mono {ρ ρ' : Rn} (h : Sub ρ ρ') : ∀ (v v' : Value), ren ρ v = some v' → ren ρ' v = some v'
  | .bool _, _, e => by simpa [ren] using e
  | .int _ _, _, e => by simpa [ren] using e
  | .float _ _, _, e => by simp [ren] at e
  | .complex _ _ _, _, e => by simp [ren] at e
  | .string _, _, e => by simpa [ren] using e
  | .pointer none, _, e => by simpa [ren] using e
  | .pointer (some a), v', e => by
    simp only [ren, Option.map_eq_some_iff] at e ⊢
    obtain ⟨a', ha, rfl⟩ := e
    exact ⟨a', Rn.addr_mono h ha, rfl⟩
  | .slice none _ _, _, e => by simpa [ren] using e
  | .slice (some ⟨b, o, none⟩) l c, v', e => by
    simp only [ren] at e ⊢
    cases hb : ρ b with
    | none => rw [hb] at e; simp at e
    | some r => rw [hb] at e; rw [h b r hb]; exact e
  | .slice (some ⟨_, _, some _⟩) _ _, _, e => by simp [ren] at e
  | .map none, _, e => by simpa [ren] using e
  | .map (some r), v', e => by
    simp only [ren, Option.map_eq_some_iff] at e ⊢
    obtain ⟨x, hx, rfl⟩ := e
    exact ⟨x, h _ _ hx, rfl⟩
  | .chan _, _, e => by simp [ren] at e
  | .func (.func f) a b, v', e => by
    simp only [ren] at e ⊢
    cases ha : renA ρ a with
    | none => simp [ha] at e
    | some a' => cases hb : renA ρ b with
      | none => simp [ha, hb] at e
      | some b' => rw [ha, hb] at e; rw [renA_mono h a a' ha, renA_mono h b b' hb]; exact e
  | .func (.yield l) a b, v', e => by
    simp only [ren] at e ⊢
    cases hl : ρ l with
    | none => simp [hl] at e
    | some l' => cases ha : renA ρ a with
      | none => simp [hl, ha] at e
      | some a' => cases hb : renA ρ b with
        | none => simp [hl, ha, hb] at e
        | some b' => rw [hl, ha, hb] at e; rw [h _ _ hl, renA_mono h a a' ha, renA_mono h b b' hb]; exact e
  | .func (.method _) _ _, _, e => by simp [ren] at e
  | .func (.methodOf _ _) _ _, _, e => by simp [ren] at e
  | .func (.via _ _ _ _) _ _, _, e => by simp [ren] at e
  | .nilFunc, _, e => by simpa [ren] using e
  | .iface t v, v', e => by
    simp only [ren, Option.map_eq_some_iff] at e ⊢
    obtain ⟨x, hx, rfl⟩ := e
    exact ⟨x, ren_mono h v x hx, rfl⟩
  | .nilIface, _, e => by simpa [ren] using e
  | .agg a, v', e => by
    simp only [ren, Option.map_eq_some_iff] at e ⊢
    obtain ⟨x, hx, rfl⟩ := e
    exact ⟨x, renA_mono h a x hx, rfl⟩
  | .tuple a, v', e => by
    simp only [ren, Option.map_eq_some_iff] at e ⊢
    obtain ⟨x, hx, rfl⟩ := e
    exact ⟨x, renA_mono h a x hx, rfl⟩
theorem renA_mono {ρ ρ' : Rn} (h : Sub ρ ρ') : ∀ (a a' : Array Value), renA ρ a = some a' → renA ρ' a = some a'
  | ⟨l⟩, a', e => by
    simp only [renA, Option.map_eq_some_iff] at e ⊢
    obtain ⟨x, hx, rfl⟩ := e
    exact ⟨x, renL_mono h l x hx, rfl⟩
theorem renL_mono {ρ ρ' : Rn} (h : Sub ρ ρ') : ∀ (l l' : List Value), renL ρ l = some l' → renL ρ' l = some l'
  | [], _, e => by simpa [renL] using e
  | v :: l, l', e => by
    simp only [renL] at e ⊢
    cases hv : ren ρ v with
    | none => simp [hv] at e
    | some v' => cases hl : renL ρ l with
      | none => simp [hv, hl] at e
      | some l'' => rw [hv, hl] at e; rw [ren_mono h v v' hv, renL_mono h l l'' hl]; exact e
end

theorem renL_cons {ρ : Rn} {v : Value} {l : List Value} {l' : List Value} : renL ρ (v :: l) = some l' ↔ ∃ v' m, ren ρ v = some v' ∧ renL ρ l = some m ∧ l' = v' :: m := by
  simp only [renL]
  cases hv : ren ρ v with
  | none => simp
  | some v' => cases hl : renL ρ l with
    | none => simp
    | some m => simp [eq_comm]

theorem renL_nil {ρ : Rn} {l' : List Value} : renL ρ [] = some l' ↔ l' = [] := by simp [renL, eq_comm]

theorem renL_length {ρ : Rn} : ∀ {l l' : List Value}, renL ρ l = some l' → l'.length = l.length
  | [], l', h => by rw [renL_nil.1 h]
  | v :: l, l', h => by
    obtain ⟨v', m, _, hm, rfl⟩ := renL_cons.1 h
    simp [renL_length hm]

theorem renL_get {ρ : Rn} : ∀ {l l' : List Value}, renL ρ l = some l' → ∀ (i : Nat) (v : Value), l[i]? = some v → ∃ v', ren ρ v = some v' ∧ l'[i]? = some v'
  | [], _, _, i, v, e => by simp at e
  | x :: l, l', h, i, v, e => by
    obtain ⟨x', m, hx, hm, rfl⟩ := renL_cons.1 h
    cases i with
    | zero => simp at e; subst e; exact ⟨x', hx, by simp⟩
    | succ i => simp at e; obtain ⟨v', h1, h2⟩ := renL_get hm i v e; exact ⟨v', h1, by simpa using h2⟩

theorem renL_append {ρ : Rn} : ∀ {l m l' m' : List Value}, renL ρ l = some l' → renL ρ m = some m' → renL ρ (l ++ m) = some (l' ++ m')
  | [], m, l', m', h, k => by rw [renL_nil.1 h]; simpa using k
  | x :: l, m, l', m', h, k => by
    obtain ⟨x', n, hx, hn, rfl⟩ := renL_cons.1 h
    exact renL_cons.2 ⟨x', n ++ m', hx, renL_append hn k, rfl⟩

theorem renL_take {ρ : Rn} : ∀ {l l' : List Value} (n : Nat), renL ρ l = some l' → renL ρ (l.take n) = some (l'.take n)
  | [], l', n, h => by rw [renL_nil.1 h]; simp [renL]
  | x :: l, l', n, h => by
    obtain ⟨x', m, hx, hm, rfl⟩ := renL_cons.1 h
    cases n with
    | zero => simp [renL]
    | succ n => exact renL_cons.2 ⟨x', m.take n, hx, renL_take n hm, rfl⟩

theorem renL_drop {ρ : Rn} : ∀ {l l' : List Value} (n : Nat), renL ρ l = some l' → renL ρ (l.drop n) = some (l'.drop n)
  | [], l', n, h => by rw [renL_nil.1 h]; simp [renL]
  | x :: l, l', n, h => by
    cases n with
    | zero => simpa using h
    | succ n =>
      obtain ⟨x', m, hx, hm, rfl⟩ := renL_cons.1 h
      simpa using renL_drop n hm

theorem renA_iff {ρ : Rn} {l : List Value} {a' : Array Value} : renA ρ ⟨l⟩ = some a' ↔ renL ρ l = some a'.toList := by
  simp only [renA, Option.map_eq_some_iff]
  constructor
  · rintro ⟨x, hx, rfl⟩; exact hx
  · intro h; exact ⟨a'.toList, h, by simp⟩

theorem ren_agg {ρ : Rn} {l : List Value} {v' : Value} : ren ρ (.agg ⟨l⟩) = some v' ↔ ∃ l', renL ρ l = some l' ∧ v' = .agg ⟨l'⟩ := by
  simp only [ren, renA, Option.map_map, Option.map_eq_some_iff]
  constructor
  · rintro ⟨x, hx, rfl⟩; exact ⟨x, hx, rfl⟩
  · rintro ⟨x, hx, rfl⟩; exact ⟨x, hx, rfl⟩
theorem ren_tuple {ρ : Rn} {l : List Value} {v' : Value} : ren ρ (.tuple ⟨l⟩) = some v' ↔ ∃ l', renL ρ l = some l' ∧ v' = .tuple ⟨l'⟩ := by
  simp only [ren, renA, Option.map_map, Option.map_eq_some_iff]
  constructor
  · rintro ⟨x, hx, rfl⟩; exact ⟨x, hx, rfl⟩
  · rintro ⟨x, hx, rfl⟩; exact ⟨x, hx, rfl⟩

theorem ren_cells {ρ : Rn} {v v' : Value} (h : ren ρ v = some v') : renL ρ v.cells.toList = some v'.cells.toList := by
  have one : (∀ l, v ≠ .agg l) → (∀ l, v' ≠ .agg l) → renL ρ v.cells.toList = some v'.cells.toList := by
    intro h1 h2
    have e1 : v.cells = #[v] := by cases v <;> first | rfl | exact absurd rfl (h1 _)
    have e2 : v'.cells = #[v'] := by cases v' <;> first | rfl | exact absurd rfl (h2 _)
    rw [e1, e2]
    exact renL_cons.2 ⟨v', [], h, by simp [renL], rfl⟩
  cases v with
  | agg a =>
    obtain ⟨l⟩ := a
    obtain ⟨l', hl, rfl⟩ := ren_agg.1 h
    exact hl
  | pointer a => cases a <;> (apply one (by simp) ; intro l e; subst e; simp [ren] at h)
  | slice a _ _ =>
    rcases a with _ | ⟨b, o, _ | _⟩
    · apply one (by simp); intro l e; subst e; simp [ren] at h
    · apply one (by simp); intro l e; subst e; simp only [ren] at h; cases hb : ρ b <;> simp [hb] at h
    · simp [ren] at h
  | map r => cases r <;> (apply one (by simp); intro l e; subst e; simp [ren] at h)
  | func fn a b =>
    apply one (by simp); intro l e; subst e
    cases fn <;> simp only [ren] at h
    · cases ha : renA ρ a <;> cases hb : renA ρ b <;> simp [ha, hb] at h
    · simp at h
    · simp at h
    · simp at h
    · rename_i l0; cases hl : ρ l0 <;> cases ha : renA ρ a <;> cases hb : renA ρ b <;> simp [hl, ha, hb] at h
  | _ => (apply one (by simp); intro l e; subst e; simp [ren] at h)

theorem plainCell_ren {ρ : Rn} {v v' : Value} (h : ren ρ v = some v') (hp : plainCell v = true) : plainCell v' = true := by
  cases v with
  | agg a => simp [plainCell] at hp
  | tuple a => simp [plainCell] at hp
  | pointer a => cases a <;> simp [ren] at h <;> first | (subst h; rfl) | (obtain ⟨x, _, rfl⟩ := h; rfl)
  | slice a _ _ =>
    rcases a with _ | ⟨b, o, _ | _⟩
    · simp [ren] at h; subst h; rfl
    · simp only [ren] at h; cases hb : ρ b <;> simp [hb] at h; subst h; rfl
    · simp [ren] at h
  | map r => cases r <;> simp [ren] at h <;> first | (subst h; rfl) | (obtain ⟨x, _, rfl⟩ := h; rfl)
  | func fn a b =>
    cases fn <;> simp only [ren] at h
    · cases ha : renA ρ a <;> cases hb : renA ρ b <;> simp [ha, hb] at h; subst h; rfl
    · simp at h
    · simp at h
    · simp at h
    · rename_i l0; cases hl : ρ l0 <;> cases ha : renA ρ a <;> cases hb : renA ρ b <;> simp [hl, ha, hb] at h; subst h; rfl
  | iface t v => simp [ren] at h; obtain ⟨x, _, rfl⟩ := h; rfl
  | chan _ => simp [ren] at h
  | float _ _ => simp [ren] at h
  | complex _ _ _ => simp [ren] at h
  | _ => simp [ren] at h; subst h; rfl

/-! ### Memory -/
def renEs (ρ : Rn) : List MapEntry → Option (List MapEntry)
  | [] => some []
  | e :: es => match ren ρ e.key, ren ρ e.val, renEs ρ es with
    | some k, some v, some es => some ({ key := k, val := v, born := e.born } :: es)
    | _, _, _ => none

theorem renEs_cons {ρ : Rn} {e : MapEntry} {es es' : List MapEntry} : renEs ρ (e :: es) = some es' ↔ ∃ k v m, ren ρ e.key = some k ∧ ren ρ e.val = some v ∧ renEs ρ es = some m ∧ es' = { key := k, val := v, born := e.born } :: m := by
  simp only [renEs]
  cases ren ρ e.key <;> cases ren ρ e.val <;> cases renEs ρ es <;> simp [eq_comm]

theorem renEs_mono {ρ ρ' : Rn} (h : Sub ρ ρ') : ∀ (es es' : List MapEntry), renEs ρ es = some es' → renEs ρ' es = some es'
  | [], _, e => by simpa [renEs] using e
  | x :: es, es', e => by
    obtain ⟨k, v, m, h1, h2, h3, rfl⟩ := renEs_cons.1 e
    exact renEs_cons.2 ⟨k, v, m, ren_mono h _ _ h1, ren_mono h _ _ h2, renEs_mono h _ _ h3, rfl⟩

def RegRel (ρ : Rn) (tmps : Array Value) (r : Tr Value) : Prop := ∀ t v, r.get t = some v → ∃ v', ren ρ v = some v' ∧ tmps[t]? = some v'

theorem RegRel.mono {ρ ρ' : Rn} {tmps : Array Value} {r : Tr Value} (h : RegRel ρ tmps r) (s : Sub ρ ρ') : RegRel ρ' tmps r :=
  fun t v e => let ⟨v', h1, h2⟩ := h t v e; ⟨v', ren_mono s _ _ h1, h2⟩

/-- A block here, and block c of the world from its cell s on, with x elements more. -/
def BlkRel (ρ : Rn) (w : World) (c s x : Nat) : Blk → Prop
  | .cells n t elem opn whole => ∃ C lo hi, w.heap[c]? = some (.cells C elem (lo, hi)) ∧ C.size = s + n + x * opn ∧ (opn = 0 → x = 0) ∧
      (∀ i, i < n → ∃ v v', t.get i = some v ∧ ren ρ v = some v' ∧ C[s + i]? = some v') ∧ (∀ i, i < C.size → ¬ (lo ≤ i ∧ i < hi)) ∧ (whole = true → hi ≤ lo) ∧ (opn = 0 → s = 0)
  | .ro n f => (x = 0 ∧ ∃ o, w.heap[c]? = some o) ∧ ∀ i, i < n → ∃ v', ren ρ (f i) = some v' ∧ w.cell? ⟨c, s + i, none⟩ = some v'
  | .map es k => ∃ es', w.heap[c]? = some (.map ⟨es'⟩ k) ∧ renEs ρ es = some es'
  | .loop st pend _ n r ps asg bo _ => ∃ tmps fn de, w.heap[c]? = some (.loop { state := st, pending := pend, fn := fn, tmps := tmps, params := ⟨ps⟩, assign := asg, body := bo, defers := de }) ∧ tmps.size = n ∧ RegRel ρ tmps r
  | .deferred ds => (ds = some [] → w.heap[c]? = some (.deferred (some []))) ∧ ∃ d, w.heap[c]? = some (.deferred d)
  | .dead => True

theorem BlkRel.mono {ρ ρ' : Rn} {w : World} {c s x : Nat} {b : Blk} (h : BlkRel ρ w c s x b) (k : Sub ρ ρ') : BlkRel ρ' w c s x b := by
  cases b with
  | cells n t e o wh =>
    obtain ⟨C, lo, hi, h1, h2, h3, h4, h5, h6⟩ := h
    exact ⟨C, lo, hi, h1, h2, h3, fun i hi => let ⟨v, v', a, b, c⟩ := h4 i hi; ⟨v, v', a, ren_mono k _ _ b, c⟩, h5, h6⟩
  | ro n f => exact ⟨h.1, fun i hi => let ⟨v', a, b⟩ := h.2 i hi; ⟨v', ren_mono k _ _ a, b⟩⟩
  | map es cl => obtain ⟨es', h1, h2⟩ := h; exact ⟨es', h1, renEs_mono k _ _ h2⟩
  | loop st pend fn n r ps asg bo de => obtain ⟨tm, f, d, h1, h2, h3⟩ := h; exact ⟨tm, f, d, h1, h2, h3.mono k⟩
  | deferred ds => exact h
  | dead => exact h

theorem cell_congr {w w' : World} {c o : Nat} (h : w'.heap[c]? = w.heap[c]?) : w'.cell? ⟨c, o, none⟩ = w.cell? ⟨c, o, none⟩ := by
  simp [World.cell?, h]

theorem BlkRel.congr {ρ : Rn} {w w' : World} {c s x : Nat} {b : Blk} (h : BlkRel ρ w c s x b) (k : w'.heap[c]? = w.heap[c]?) : BlkRel ρ w' c s x b := by
  cases b with
  | cells n t e o wh => simp only [BlkRel]; rw [k]; exact h
  | ro n f => exact ⟨⟨h.1.1, by rw [k]; exact h.1.2⟩, fun i hi => let ⟨v', a, b⟩ := h.2 i hi; ⟨v', a, by rw [cell_congr k]; exact b⟩⟩
  | map es cl => simp only [BlkRel]; rw [k]; exact h
  | loop st pend fn n r ps asg bo de => simp only [BlkRel]; rw [k]; exact h
  | deferred ds => simp only [BlkRel]; rw [k]; exact h
  | dead => trivial

def Blk.isRo : Blk → Bool
  | .ro .. => true
  | _ => false

structure WRel (ρ : Rn) (h : AH) (w : World) : Prop where
  low : ∀ b blk, h.b.get b = some blk → b < cap
  blk : ∀ b blk, h.b.get b = some blk → ∀ c s x, ρ b = some (c, s, x) → BlkRel ρ w c s x blk
  inj : ∀ b b' blk blk', h.b.get b = some blk → h.b.get b' = some blk' → blk.own = true → blk'.own = true → ∀ c s x s' x', ρ b = some (c, s, x) → ρ b' = some (c, s', x') → b = b'
  apart : ∀ b b' blk blk', h.b.get b = some blk → h.b.get b' = some blk' → blk.own = true → blk'.isRo = true → ∀ c s x s' x', ρ b = some (c, s, x) → ρ b' = some (c, s', x') → False

/-- Block c is no block of one's own. -/
def Free (ρ : Rn) (h : AH) (c : Nat) : Prop := ∀ b blk s x, h.b.get b = some blk → blk.own = true → ρ b ≠ some (c, s, x)

structure Step (ρ : Rn) (h : AH) (w : World) (ρ' : Rn) (h' : AH) (w' : World) : Prop where
  sub : Sub ρ ρ'
  dom : ∀ b, ρ b = none → (b < h.next ∨ h'.next ≤ b) → ρ' b = none
  nxt : h.next ≤ h'.next
  rel : WRel ρ' h' w'
  size : w.heap.size ≤ w'.heap.size
  os : w'.os = w.os
  tape : w'.tape = w.tape
  output : w'.output = w.output
  keep : ∀ c, c < w.heap.size → Free ρ h c → w'.heap[c]? = w.heap[c]?
  same : ∀ b, ρ b = none → b < h.next → h'.b.get b = h.b.get b
  img : ∀ b blk c s x, h'.b.get b = some blk → blk.own = true → ρ' b = some (c, s, x) → c < w.heap.size → ¬ Free ρ h c

/-- No renaming yet for the numbers that will be given out. -/
def Room (ρ : Rn) (a b : Nat) : Prop := ∀ i, a ≤ i → i < b → ρ i = none

theorem Step.refl {ρ : Rn} {h : AH} {w : World} (hr : WRel ρ h w) : Step ρ h w ρ h w :=
  ⟨Sub.refl _, fun _ e _ => e, Nat.le_refl _, hr, Nat.le_refl _, rfl, rfl, rfl, fun _ _ _ => rfl, fun _ _ _ => rfl, fun b blk c s x hb ho hc _ hf => hf b blk s x hb ho hc⟩

theorem Room.left {ρ : Rn} {a b c : Nat} (h : Room ρ a c) (hb : b ≤ c) : Room ρ a b := fun i h1 h2 => h i h1 (by omega)

theorem Step.room {ρ : Rn} {h : AH} {w : World} {ρ' : Rn} {h' : AH} {w' : World} (s : Step ρ h w ρ' h' w') {c : Nat} (r : Room ρ h.next c) : Room ρ' h'.next c :=
  fun i h1 h2 => s.dom i (r i (Nat.le_trans s.nxt h1) h2) (.inr h1)

theorem Step.trans {ρ : Rn} {h : AH} {w : World} {ρ' : Rn} {h' : AH} {w' : World} {ρ'' : Rn} {h'' : AH} {w'' : World} (a : Step ρ h w ρ' h' w') (b : Step ρ' h' w' ρ'' h'' w'') : Step ρ h w ρ'' h'' w'' := by
  have free : ∀ c, c < w.heap.size → Free ρ h c → Free ρ' h' c := fun c hc hf b0 blk s x h1 h2 h3 => a.img b0 blk c s x h1 h2 h3 hc hf
  refine ⟨a.sub.trans b.sub, fun i e hi => ?_, Nat.le_trans a.nxt b.nxt, b.rel, Nat.le_trans a.size b.size, b.os.trans a.os, b.tape.trans a.tape, b.output.trans a.output, fun c hc hf => ?_, fun i e hi => ?_, fun i blk c s x h1 h2 h3 hc hf => ?_⟩
  · rcases hi with hi | hi
    · exact b.dom i (a.dom i e (.inl hi)) (.inl (Nat.lt_of_lt_of_le hi a.nxt))
    · exact b.dom i (a.dom i e (.inr (Nat.le_trans b.nxt hi))) (.inr hi)
  · exact (b.keep c (Nat.lt_of_lt_of_le hc a.size) (free c hc hf)).trans (a.keep c hc hf)
  · exact (b.same i (a.dom i e (.inl hi)) (Nat.lt_of_lt_of_le hi a.nxt)).trans (a.same i e hi)
  · exact b.img i blk c s x h1 h2 h3 (Nat.lt_of_lt_of_le hc a.size) (free c hc hf)

/-- The relation asks of the memory here what its blocks are, no more. -/
theorem WRel.ext {ρ : Rn} {h h' : AH} {w : World} (r : WRel ρ h w) (e : ∀ b, h'.b.get b = h.b.get b) : WRel ρ h' w :=
  ⟨fun b blk hb => r.low b blk (by rw [← e]; exact hb), fun b blk hb => r.blk b blk (by rw [← e]; exact hb), fun b b' blk blk' h1 h2 => r.inj b b' blk blk' (by rw [← e]; exact h1) (by rw [← e]; exact h2), fun b b' blk blk' h1 h2 => r.apart b b' blk blk' (by rw [← e]; exact h1) (by rw [← e]; exact h2)⟩

/-- A block turned. -/
theorem Step.upd {ρ : Rn} {h : AH} {w w' : World} (hr : WRel ρ h w) {b : Nat} {blk0 blk1 : Blk} {c s x : Nat} (hb : h.b.get b = some blk0) (ho : blk0.own = true) (hc : ρ b = some (c, s, x)) (hcap : b < cap)
    (hro : blk1.isRo = false) (hk : BlkRel ρ w' c s x blk1) (hsz : w'.heap.size = w.heap.size) (hoth : ∀ k, k ≠ c → w'.heap[k]? = w.heap[k]?) (h1 : w'.os = w.os) (h2 : w'.tape = w.tape) (h3 : w'.output = w.output) :
    Step ρ h w ρ (h.upd b blk1) w' := by
  have hg : ∀ k, (h.upd b blk1).b.get k = if k = b then some blk1 else h.b.get k := fun k => Tr.get_put _ _ _ _ hcap
  refine ⟨Sub.refl _, fun _ e _ => e, Nat.le_refl _, ⟨fun k blk hk' => ?_, fun k blk hk' c' s' x' hc' => ?_, fun k k' blk blk' e1 e2 o1 o2 c' s' x' s'' x'' r1 r2 => ?_, fun k k' blk blk' e1 e2 o1 o2 c' s' x' s'' x'' r1 r2 => ?_⟩, Nat.le_of_eq hsz.symm, h1, h2, h3, fun k hk' hf => ?_, fun k e _ => ?_, fun k blk c' s' x' e1 o1 r1 hlt hf => ?_⟩
  · rw [hg] at hk'
    by_cases e : k = b
    · rw [e]; exact hcap
    · rw [if_neg e] at hk'; exact hr.low k blk hk'
  · rw [hg] at hk'
    by_cases e : k = b
    · subst e
      simp at hk'; subst hk'
      rw [hc] at hc'; cases hc'
      exact hk
    · rw [if_neg e] at hk'
      have hb' := hr.blk k blk hk' c' s' x' hc'
      cases hown : blk.own with
      | true =>
        refine hb'.congr (hoth _ ?_)
        intro ec; subst ec
        exact e (hr.inj k b blk blk0 hk' hb hown ho _ _ _ _ _ hc' hc)
      | false =>
        cases blk with
        | ro n f =>
          refine hb'.congr (hoth _ ?_)
          intro ec; subst ec
          exact hr.apart b k blk0 _ hb hk' ho rfl _ _ _ _ _ hc hc'
        | dead => trivial
        | _ => simp [Blk.own] at hown
  · have own' : ∀ j blkj, (h.upd b blk1).b.get j = some blkj → blkj.own = true → ∃ blkj0, h.b.get j = some blkj0 ∧ blkj0.own = true := fun j blkj ej oj => by
      rw [hg] at ej
      by_cases e : j = b
      · subst e; exact ⟨blk0, hb, ho⟩
      · rw [if_neg e] at ej; exact ⟨blkj, ej, oj⟩
    obtain ⟨a1, q1, p1⟩ := own' k blk e1 o1
    obtain ⟨a2, q2, p2⟩ := own' k' blk' e2 o2
    exact hr.inj k k' a1 a2 q1 q2 p1 p2 _ _ _ _ _ r1 r2
  · have q2 : h.b.get k' = some blk' := by
      rw [hg] at e2
      by_cases e : k' = b
      · rw [if_pos e] at e2; cases e2; rw [hro] at o2; cases o2
      · rwa [if_neg e] at e2
    rw [hg] at e1
    by_cases e : k = b
    · subst e; exact hr.apart k k' blk0 blk' hb q2 ho o2 _ _ _ _ _ r1 r2
    · rw [if_neg e] at e1; exact hr.apart k k' blk blk' e1 q2 o1 o2 _ _ _ _ _ r1 r2
  · refine hoth k ?_
    intro e; subst e
    exact hf b blk0 s x hb ho hc
  · rw [hg]
    by_cases e' : k = b
    · subst e'; rw [hc] at e; cases e
    · rw [if_neg e']
  · rw [hg] at e1
    by_cases e : k = b
    · subst e; exact hf k blk0 s' x' hb ho r1
    · rw [if_neg e] at e1; exact hf k blk s' x' e1 o1 r1

def Rn.ins (ρ : Rn) (b : Nat) (r : Nat × Nat × Nat) : Rn := fun i => if i = b then some r else ρ i

theorem Rn.sub_ins {ρ : Rn} {b : Nat} {r : Nat × Nat × Nat} (h : ρ b = none) : Sub ρ (ρ.ins b r) := fun i q e => by
  unfold Rn.ins
  by_cases hi : i = b
  · subst hi; rw [h] at e; cases e
  · rw [if_neg hi]; exact e

/-- A new block: in a new block of the world, or (dead) anywhere. -/
theorem Step.new {ρ : Rn} {h : AH} {w w' : World} (hr : WRel ρ h w) {blk : Blk} {c s x : Nat} (hn : ρ h.next = none) (hcap : h.next < cap)
    (hro : blk.isRo = false) (hk : BlkRel (ρ.ins h.next (c, s, x)) w' c s x blk) (hsz : w.heap.size ≤ w'.heap.size) (hnew : blk.own = true → w.heap.size ≤ c) (hoth : ∀ k, k < w.heap.size → w'.heap[k]? = w.heap[k]?) (h1 : w'.os = w.os) (h2 : w'.tape = w.tape) (h3 : w'.output = w.output) :
    Step ρ h w (ρ.ins h.next (c, s, x)) (h.new blk) w' := by
  have hg : ∀ k, (h.new blk).b.get k = if k = h.next then some blk else h.b.get k := fun k => Tr.get_put _ _ _ _ hcap
  have hsub : Sub ρ (ρ.ins h.next (c, s, x)) := Rn.sub_ins hn
  have hins : ∀ k r, k ≠ h.next → ρ.ins h.next (c, s, x) k = some r → ρ k = some r := fun k r e q => by unfold Rn.ins at q; rwa [if_neg e] at q
  have hself : ∀ r, ρ.ins h.next (c, s, x) h.next = some r → r = (c, s, x) := fun r q => by unfold Rn.ins at q; rw [if_pos rfl] at q; cases q; rfl
  -- what is mapped lies in the old world, if it holds anything
  have old : ∀ k blk', h.b.get k = some blk' → (blk'.own = true) → ∀ c' s' x', ρ k = some (c', s', x') → c' < w.heap.size := fun k blk' e o c' s' x' q => by
    have := hr.blk k blk' e c' s' x' q
    have some_lt : ∀ {o : Obj}, w.heap[c']? = some o → c' < w.heap.size := fun h => (Array.getElem?_eq_some_iff.1 h).1
    cases blk' with
    | cells n t e o wh => obtain ⟨C, lo, hi, h1, _⟩ := this; exact some_lt h1
    | map es cl => obtain ⟨es', h1, _⟩ := this; exact some_lt h1
    | loop st pend fn n r ps asg bo de => obtain ⟨tm, f, d, h1, _⟩ := this; exact some_lt h1
    | deferred ds => obtain ⟨_, d, h1⟩ := this; exact some_lt h1
    | ro n f => simp [Blk.own] at o
    | dead => simp [Blk.own] at o
  have roKeep : ∀ n f c' s' x', BlkRel ρ w c' s' x' (.ro n f) → BlkRel ρ w' c' s' x' (.ro n f) := fun n f c' s' x' q =>
    q.congr (hoth c' (by obtain ⟨_, o, ho⟩ := q.1; exact (Array.getElem?_eq_some_iff.1 ho).1))
  refine ⟨hsub, fun k e hk' => ?_, Nat.le_succ _, ⟨fun k blk' hk' => ?_, fun k blk' hk' c' s' x' hc' => ?_, fun k k' blk1 blk2 e1 e2 o1 o2 c' s' x' s'' x'' r1 r2 => ?_, fun k k' blk1 blk2 e1 e2 o1 o2 c' s' x' s'' x'' r1 r2 => ?_⟩, hsz, h1, h2, h3, fun k hk' hf => hoth k hk', fun k e hk' => ?_, fun k blk' c' s' x' e1 o1 r1 hlt hf => ?_⟩
  · unfold Rn.ins
    have : k ≠ h.next := by
      intro e'; subst e'
      have hs : (h.new blk).next = h.next + 1 := rfl
      rcases hk' with hk' | hk' <;> omega
    rw [if_neg this]; exact e
  · rw [hg] at hk'
    by_cases e : k = h.next
    · rw [e]; exact hcap
    · rw [if_neg e] at hk'; exact hr.low k blk' hk'
  · rw [hg] at hk'
    by_cases e : k = h.next
    · rw [if_pos e] at hk'; cases hk'
      subst e
      have := hself _ hc'; cases this
      exact hk
    · rw [if_neg e] at hk'
      have hc0 := hins _ _ e hc'
      have hb' := hr.blk k blk' hk' c' s' x' hc0
      cases hown : blk'.own with
      | true => exact (hb'.congr (hoth _ (old k blk' hk' hown _ _ _ hc0))).mono hsub
      | false =>
        cases blk' with
        | ro n f => exact (roKeep n f c' s' x' hb').mono hsub
        | dead => trivial
        | _ => simp [Blk.own] at hown
  · rw [hg] at e1 e2
    by_cases a1 : k = h.next
    · rw [if_pos a1] at e1; cases e1
      subst a1
      have q1 := hself _ r1
      by_cases a2 : k' = h.next
      · exact a2.symm
      · rw [if_neg a2] at e2
        have := old k' blk2 e2 o2 _ _ _ (hins _ _ a2 r2)
        have := hnew o1
        cases q1
        omega
    · rw [if_neg a1] at e1
      by_cases a2 : k' = h.next
      · rw [if_pos a2] at e2; cases e2
        subst a2
        have q2 := hself _ r2
        have := old k blk1 e1 o1 _ _ _ (hins _ _ a1 r1)
        have := hnew o2
        cases q2
        omega
      · rw [if_neg a2] at e2
        exact hr.inj k k' blk1 blk2 e1 e2 o1 o2 _ _ _ _ _ (hins _ _ a1 r1) (hins _ _ a2 r2)
  · rw [hg] at e1 e2
    have a2 : k' ≠ h.next := by
      intro e; rw [if_pos e] at e2; cases e2; rw [hro] at o2; cases o2
    rw [if_neg a2] at e2
    by_cases a1 : k = h.next
    · rw [if_pos a1] at e1; cases e1
      subst a1
      have q1 := hself _ r1
      have hlt : c' < w.heap.size := by
        have := hr.blk k' _ e2 _ _ _ (hins _ _ a2 r2)
        cases blk2 with
        | ro n f => obtain ⟨⟨_, o, ho⟩, _⟩ := this; exact (Array.getElem?_eq_some_iff.1 ho).1
        | _ => simp [Blk.isRo] at o2
      have := hnew o1
      cases q1
      omega
    · rw [if_neg a1] at e1
      exact hr.apart k k' blk1 blk2 e1 e2 o1 o2 _ _ _ _ _ (hins _ _ a1 r1) (hins _ _ a2 r2)
  · rw [hg, if_neg (by omega)]
  · rw [hg] at e1
    by_cases a1 : k = h.next
    · rw [if_pos a1] at e1; cases e1
      subst a1
      have q1 := hself _ r1
      have := hnew o1
      cases q1
      omega
    · rw [if_neg a1] at e1
      exact hf k blk' s' x' e1 o1 (hins _ _ a1 r1)

end Go.Ev
