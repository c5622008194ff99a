/- A deterministic evaluator of the model's code over a memory of its own: operations that may be done later. -/
import Derived.Test.YthhohhbkeaghnaaEVn
import Derived.Test.YthhohhbkeaghnaaEVb
set_option linter.unusedSimpArgs false
set_option linter.unusedVariables false
set_option linter.unusedSectionVars false
namespace Go.Ev
variable {E : Env} {P : Program}

/-! ### Only the operands are looked at -/
theorem valsV_congr {f f' : Operand → Option Value} : ∀ {l : List Operand}, (∀ x ∈ l, f x = f' x) → valsV f l = valsV f' l
  | [], _ => rfl
  | x :: l, h => by simp only [valsV, h x (by simp), valsV_congr (l := l) fun y hy => h y (by simp [hy])]

theorem partsV_congr {f f' : Operand → Option Value} : ∀ {l : List (Nat × Operand)}, (∀ x ∈ l.map (·.2), f x = f' x) → partsV f l = partsV f' l
  | [], _ => rfl
  | (i, x) :: l, h => by simp only [partsV, h x (by simp), partsV_congr (l := l) fun y hy => h y (by simp only [List.map_cons, List.mem_cons]; exact .inr hy)]

theorem aval_congr (o : Oper) {f f' : Operand → Option Value} (h : ∀ x ∈ o.op.operands, f x = f' x) (m : AH) : aval E o f m = aval E o f' m := by
  obtain ⟨dst, op, type, pos, after, guard⟩ := o
  cases op <;> simp only [Op.operands] at h <;> simp only [aval]
  case move x => rw [h x (by simp)]
  case assign x => rw [h x (by simp)]
  case pick c a b => rw [h c (by simp), h a (by simp), h b (by simp)]
  case box t x => rw [h x (by simp)]
  case build t ps => rw [partsV_congr (f := f) (f' := f') fun x hx => h x (by simpa using hx)]
  case buildSlice t n ps => rw [partsV_congr (f := f) (f' := f') fun x hx => h x (by simpa using hx)]
  case load t a => rw [h a (by simp)]
  case store t a x => rw [h a (by simp), h x (by simp)]
  case nilCheck x => rw [h x (by simp)]
  case binOp op t x y yt => rw [h x (by simp), h y (by simp)]
  case unOp op t x => rw [h x (by simp)]
  case convert s d x => rw [h x (by simp)]
  case makeInterface t x => rw [h x (by simp)]
  case makeFunc fn a b => rw [valsV_congr (f := f) (f' := f') fun x hx => h x (by simp at hx; simp [hx]), valsV_congr (f := f) (f' := f') (l := b.toList) fun x hx => h x (by simp at hx; simp [hx])]
  case makeMap t r => cases r <;> rfl
  case makeSlice t l c => rw [h l (by simp), h c (by simp)]
  case slice t x lo hi mx =>
    cases mx with
    | some _ => rfl
    | none =>
      have h1 := h x (by simp)
      cases lo <;> cases hi <;> simp_all
  case fieldAddr t x i => rw [h x (by simp)]
  case field t x i => rw [h x (by simp)]
  case indexAddr t x i => rw [h x (by simp), h i (by simp)]
  case index t x i => rw [h x (by simp), h i (by simp)]
  case lookup t m k b => rw [h m (by simp), h k (by simp)]
  case mapUpdate t m k x => rw [h m (by simp), h k (by simp), h x (by simp)]
  case typeAssert x t u b => rw [h x (by simp)]
  case extract x i => rw [h x (by simp)]
  case call c =>
    obtain ⟨callee, args, ats⟩ := c
    cases callee with
    | builtin b =>
      simp only [Call.operands] at h
      simp only []
      rw [valsV_congr (f := f) (f' := f') fun x hx => h x (by simp at hx; simp [hx])]
    | _ => rfl

/-! ### Classes -/
theorem oget_eq {α β : Type} {x : Option α} {f : α → Option β} {b : β} (h : ∃ a, x = some a ∧ f a = some b) : oget x f = some b := oget_some.2 h

theorem aBin_pure {op : BinOp} (h1 : op ≠ .eql) (h2 : op ≠ .neq) {t : TypeId} {c : Bool} {x y : Value} (h h' : AH) : aBin E op t c x y h = aBin E op t c x y h' := by
  cases op <;> first | exact absurd rfl h1 | exact absurd rfl h2 | (unfold aBin; rfl)

def funcV (fn : Fn) (a b : List Value) : Option Value := match fn with
  | .func f => some (.func (.func f) ⟨a⟩ ⟨b⟩)
  | _ => none

def dataV (vs : List Value) : Option Value := match vs with
  | [.slice none _ _] => some (.pointer none)
  | [.slice (some a) _ c] => bif c.beq 0 then none else some (.pointer (some a))
  | _ => none

theorem aBuiltin_data {ats : List TypeId} {vs : List Value} (m : AH) : aBuiltin E .unsafeSliceData ats vs m = oget (dataV vs) fun v => some (v, m) := by
  rcases vs with _ | ⟨x, _ | ⟨y, l⟩⟩
  · rfl
  · cases x with
    | slice base l c => cases base with
      | none => rfl
      | some a => simp only [aBuiltin, dataV]; cases c.beq 0 <;> rfl
    | _ => rfl
  · simp [aBuiltin, dataV, oget]

theorem aval_pure {o : Oper} (hc : clsOf o.op = .pure) {f : Operand → Option Value} {h h' : AH} {v : Value} (e : aval E o f h = some (v, h')) : h' = h ∧ ∀ m, aval E o f m = some (v, m) := by
  have key : ∀ (F : Option Value), (∀ m, aval E o f m = oget F fun v => some (v, m)) → h' = h ∧ ∀ m, aval E o f m = some (v, m) := fun F hF => by
    rw [hF, oget_some] at e
    obtain ⟨u, hu, e⟩ := e
    cases e
    exact ⟨rfl, fun m => by rw [hF, hu]; rfl⟩
  obtain ⟨dst, op, type, pos, after, guard⟩ := o
  cases op <;> simp only [clsOf, reduceCtorEq] at hc <;> simp only [aval] at e key ⊢
  case move x =>
    exact key (f x) fun m => rfl
  case pick c a b =>
    exact key (oget (f c) fun c => oget (f a) fun a => oget (f b) fun b => match c with | .bool t => some (bif t then a else b) | _ => none) fun m => by
      cases f c with
      | none => rfl
      | some c => cases f a with
        | none => rfl
        | some a => cases f b with
          | none => rfl
          | some b => cases c <;> rfl
  case build t ps =>
    exact key (oget (partsV f ps.toList) fun ps => aBuild E t ps) fun m => by cases partsV f ps.toList <;> rfl
  case nilCheck x =>
    exact key (oget (f x) fun x => match x with | .pointer (some a) => some (.pointer (some a)) | _ => none) fun m => by
      cases f x with
      | none => rfl
      | some v => cases v <;> first | rfl | (rename_i a; cases a <;> rfl)
  case binOp op t x y yt =>
    have h1 : op ≠ .eql := by intro h; subst h; simp at hc
    have h2 : op ≠ .neq := by intro h; subst h; simp at hc
    exact key (oget (f x) fun x' => oget (f y) fun y' => aBin E op t (isCon x || isCon y) x' y' h) fun m => by
      cases f x with
      | none => rfl
      | some a => cases f y with
        | none => rfl
        | some b => simp only [oget]; rw [aBin_pure h1 h2 m h]
  case unOp op t x =>
    exact key (oget (f x) fun x => aUn op x) fun m => by cases f x <;> rfl
  case makeInterface t x =>
    exact key (oget (f x) fun x => oget (tInfo E t) fun i => match i.und with | .interface _ => none | _ => some (.iface t x)) fun m => by
      cases f x with
      | none => rfl
      | some v => cases tInfo E t with
        | none => rfl
        | some i => simp only [oget]; cases i.und <;> rfl
  case makeFunc fn a b =>
    exact key (oget (valsV f a.toList) fun a => oget (valsV f b.toList) fun b => funcV fn a b) fun m => by
      cases valsV f a.toList with
      | none => rfl
      | some a => cases valsV f b.toList with
        | none => rfl
        | some b => clear e key; cases fn <;> rfl
  case fieldAddr t x i =>
    exact key (oget (f x) fun x => aFieldAddr E t x i) fun m => by cases f x <;> rfl
  case field t x i =>
    exact key (oget (f x) fun x => aField E t x i) fun m => by cases f x <;> rfl
  case indexAddr t x i =>
    exact key (oget (f x) fun x => oget (f i) fun i => aIndexAddr E t x i) fun m => by
      cases f x with
      | none => rfl
      | some a => cases f i <;> rfl
  case index t x i =>
    exact key (oget (f x) fun x => oget (f i) fun i => aIndex E t x i) fun m => by
      cases f x with
      | none => rfl
      | some a => cases f i <;> rfl
  case typeAssert x t u b =>
    exact key (oget (f x) fun x => aTypeAssert E x u b) fun m => by cases f x <;> rfl
  case extract x i =>
    exact key (oget (f x) fun t => match t with | .tuple ⟨vs⟩ => vs[i]? | _ => none) fun m => by
      cases f x with
      | none => rfl
      | some v => cases v <;> rfl
  case call c =>
    obtain ⟨callee, args, ats⟩ := c
    cases callee with
    | builtin b =>
      cases b <;> simp only [reduceCtorEq] at hc
      case min =>
        exact key (oget (valsV f args.toList) fun vs => match vs with | x :: l => foldV minV x l | [] => none) fun m => by
          simp only [aval]
          cases valsV f args.toList with
          | none => rfl
          | some vs => cases vs <;> rfl
      case max =>
        exact key (oget (valsV f args.toList) fun vs => match vs with | x :: l => foldV maxV x l | [] => none) fun m => by
          simp only [aval]
          cases valsV f args.toList with
          | none => rfl
          | some vs => cases vs <;> rfl
      case unsafeSliceData =>
        exact key (oget (valsV f args.toList) dataV) fun m => by
          simp only [aval]
          cases valsV f args.toList with
          | none => rfl
          | some vs => exact aBuiltin_data m
    | value g => simp at hc
    | invoke r m => simp at hc

end Go.Ev
