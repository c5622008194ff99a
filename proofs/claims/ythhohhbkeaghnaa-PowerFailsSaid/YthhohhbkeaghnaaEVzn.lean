/- A deterministic evaluator of the model's code over a memory of its own: range over a function. -/
import Derived.Test.YthhohhbkeaghnaaEVzm
set_option linter.unusedSimpArgs false
set_option linter.unusedVariables false
set_option linter.unusedSectionVars false
namespace Go.Ev
variable {E : Env} {ft : Tr AFunc} {c : Ctx} {s : St} {K : Out → Prop}

/-- What comes of a loop over a function, behind the call of that function. -/
def kRf (L n : Nat) (r : Tr Value) (d : List Deferred) (rc : Bool) (K : Out → Prop) : CRes → Prop
  | .ret _ h _ => K (loopOut L ⟨r, n, d, h, rc⟩)
  | .pan v h => K (.pan v ⟨r, n, d, h, rc⟩)
  | .fail => K .fail
theorem W_rfunc {f : Operand} {ps : Array Tmp} {asg bo : Code} {r : Tr Value} {n : Nat} {d : List Deferred} {h : AH} {rc : Bool} {p : Option Value} :
    W E ft ⟨none, p⟩ (.rangeFunc f ps asg bo) ⟨r, n, d, h, rc⟩ K = K (oOut (evalO E.ng r f) fun fv => bif Nat.blt (h.next + 1) cap then
      (match callV (CL E ft) fv [.func (.yield (h.next + 1)) ⟨[]⟩ ⟨[]⟩] ⟨r, n, { target := .collected h.next, args := ⟨[]⟩ } :: d, (h.new (.deferred (some []))).new (.loop .ready none 0 n r ps.toList asg bo h.next), rc⟩ with
          | .fail => .fail
          | .pan v s => .pan v s
          | .val _ s' => loopOut (h.next + 1) s') else .fail) := by
  unfold W
  show K (evL E ft _ (.rfunc f ps.toList asg bo) _) = _
  rw [evL_rfunc]; rfl
theorem W_rf {f : Operand} {ps : Array Tmp} {asg bo : Code} {r : Tr Value} {n : Nat} {d : List Deferred} {h : AH} {rc : Bool} {p : Option Value} {g : FuncId} {first cp : List Value} (hf : evalO E.ng r f = some (.func (.func g) ⟨first⟩ ⟨cp⟩)) (hn : h.next + 1 < cap)
    (hk : kRf (h.next + 1) n r ({ target := .collected h.next, args := ⟨[]⟩ } :: d) rc K (CL E ft (.fn g) (first ++ [.func (.yield (h.next + 1)) ⟨[]⟩ ⟨[]⟩] ++ cp) none ((h.new (.deferred (some []))).new (.loop .ready none 0 n r ps.toList asg bo h.next)))) :
    W E ft ⟨none, p⟩ (.rangeFunc f ps asg bo) ⟨r, n, d, h, rc⟩ K := by
  rw [W_rfunc, hf]
  have hb : Nat.blt (h.next + 1) cap = true := Nat.ble_eq_true_of_le hn
  simp only [oOut, hb, cond_true, callV]
  cases hx : CL E ft (.fn g) (first ++ [.func (.yield (h.next + 1)) ⟨[]⟩ ⟨[]⟩] ++ cp) none ((h.new (.deferred (some []))).new (.loop .ready none 0 n r ps.toList asg bo h.next)) <;> rw [hx] at hk <;> exact hk

/-- The same, with a name for the loop's own block. -/
theorem W_rfB {f : Operand} {ps : Array Tmp} {asg bo : Code} {r : Tr Value} {n : Nat} {d : List Deferred} {h : AH} {rc : Bool} {p : Option Value} {g : FuncId} {first cp : List Value} (hf : evalO E.ng r f = some (.func (.func g) ⟨first⟩ ⟨cp⟩)) (hn : h.next + 1 < cap)
    (hk : ∀ B, B = .loop .ready none 0 n r ps.toList asg bo h.next → kRf (h.next + 1) n r ({ target := .collected h.next, args := ⟨[]⟩ } :: d) rc K (CL E ft (.fn g) (first ++ [.func (.yield (h.next + 1)) ⟨[]⟩ ⟨[]⟩] ++ cp) none ((h.new (.deferred (some []))).new B))) :
    W E ft ⟨none, p⟩ (.rangeFunc f ps asg bo) ⟨r, n, d, h, rc⟩ K := W_rf hf hn (hk _ rfl)
theorem W_regs (Q : Tr Value → Prop) {x : Code} {r : Tr Value} {n : Nat} {d : List Deferred} {h : AH} {rc : Bool} (hq : Q r) (hk : ∀ r, Q r → W E ft c x ⟨r, n, d, h, rc⟩ K) : W E ft c x ⟨r, n, d, h, rc⟩ K := hk r hq
theorem W_all (Q : Tr Value → AH → Prop) {x : Code} {r : Tr Value} {n : Nat} {d : List Deferred} {h : AH} {rc : Bool} (hq : Q r h) (hk : ∀ r h, Q r h → W E ft c x ⟨r, n, d, h, rc⟩ K) : W E ft c x ⟨r, n, d, h, rc⟩ K := hk r h hq
/-- The loop's own block, behind it. -/
def loopOutB (L : Nat) (s : St) : Option Blk → Out
  | some (.loop st pend fn n r ps asg bo de) => match st with
    | .busy => .fail
    | _ => match pend with
      | none => .nor { s with h := s.h.upd L (.loop .exhausted none fn n r ps asg bo de) }
      | some .ret => .ret { s with h := s.h.upd L (.loop .exhausted (some .ret) fn n r ps asg bo de) }
      | some (.exit i) => .exit i { s with h := s.h.upd L (.loop .exhausted (some (.exit i)) fn n r ps asg bo de) }
      | _ => .fail
  | _ => .fail
@[go_sem ↓] theorem kRf_ret {L n : Nat} {r : Tr Value} {d : List Deferred} {rc rc' : Bool} {v : Value} {h : AH} : kRf L n r d rc K (.ret v h rc') = K (loopOutB L ⟨r, n, d, h, rc⟩ (h.b.get L)) := by
  show K _ = K _
  congr 1
  unfold loopOut loopOutB
  cases hx : h.b.get L with
  | none => rfl
  | some b =>
    cases b <;> try rfl
    rename_i st pend fn n r ps asg bo de
    cases st <;> cases pend <;> try rfl
    all_goals rename_i x; cases x <;> rfl
@[congr] theorem loopOutB_cg {L : Nat} {x y : Option Blk} (e : x = y) : loopOutB L s x = loopOutB L s y := by rw [e]
@[go_sem] theorem loopOutB_ready {L : Nat} {r0 : Tr Value} {n0 : Nat} {d : List Deferred} {h : AH} {rc : Bool} {fn : FuncId} {n : Nat} {r : Tr Value} {ps : List Tmp} {asg bo : Code} {de : Nat} :
    loopOutB L ⟨r0, n0, d, h, rc⟩ (some (.loop .ready none fn n r ps asg bo de)) = .nor ⟨r0, n0, d, h.upd L (.loop .exhausted none fn n r ps asg bo de), rc⟩ := rfl
@[go_sem] theorem loopOutB_ret {L : Nat} {r0 : Tr Value} {n0 : Nat} {d : List Deferred} {h : AH} {rc : Bool} {fn : FuncId} {n : Nat} {r : Tr Value} {ps : List Tmp} {asg bo : Code} {de : Nat} :
    loopOutB L ⟨r0, n0, d, h, rc⟩ (some (.loop .done (some .ret) fn n r ps asg bo de)) = .ret ⟨r0, n0, d, h.upd L (.loop .exhausted (some .ret) fn n r ps asg bo de), rc⟩ := rfl
@[go_sem] theorem loopOutB_exit {L : Nat} {r0 : Tr Value} {n0 : Nat} {d : List Deferred} {h : AH} {rc : Bool} {fn : FuncId} {n i : Nat} {r : Tr Value} {ps : List Tmp} {asg bo : Code} {de : Nat} :
    loopOutB L ⟨r0, n0, d, h, rc⟩ (some (.loop .done (some (.exit i)) fn n r ps asg bo de)) = .exit i ⟨r0, n0, d, h.upd L (.loop .exhausted (some (.exit i)) fn n r ps asg bo de), rc⟩ := rfl

/-! ### A round -/
def kEnd (L : Nat) (K : CRes → Prop) (o : Out) : Prop := K (endOf L o)
def kAsg (E : Env) (ft : Tr AFunc) (L : Nat) (bo : Code) (K : CRes → Prop) : Out → Prop
  | .nor s => ∃ pend fn m r ps asg de, s.h.b.get L = some (.loop .ready pend fn m r ps asg bo de) ∧ W E ft ⟨some L, none⟩ bo { s with h := s.h.upd L (.loop .busy pend fn m r ps asg bo de) } (kEnd L K)
  | _ => False
theorem W_yield {L : Nat} {args : List Value} {pan : Option Value} {h : AH} {K : CRes → Prop} {pend : Option Code} {fn : FuncId} {m : Nat} {r : Tr Value} {ps : List Tmp} {asg bo : Code} {de : Nat} (hb : h.b.get L = some (.loop .ready pend fn m r ps asg bo de)) (hm : m < cap) {r2 : Tr Value} (hp : putAll m r ps args = some r2)
    (ha : W E ft ⟨some L, none⟩ asg ⟨r2, m, [], h, false⟩ (kAsg E ft L bo K)) : K (CL E ft (.yield L) args pan h) := by
  unfold W at ha
  cases hx : evC E ft ⟨some L, none⟩ asg ⟨r2, m, [], h, false⟩ with
  | nor s =>
    rw [hx] at ha
    obtain ⟨pend1, fn1, m1, r1, ps1, asg1, de1, hb1, hw⟩ := ha
    rw [CL_yield hb hm hp hx hb1]
    unfold W at hw
    exact hw
  | _ => rw [hx] at ha; exact ha.elim
def kRound (L : Nat) (jump : Option Code) (h : AH) (K : CRes → Prop) : Option Blk → Prop
  | some (.loop _ _ fn n r ps asg bo de) => K (.ret (.bool jump.isNone) (h.upd L (.loop (if jump.isNone then .ready else .done) jump fn n r ps asg bo de)) false)
  | _ => K .fail
@[congr] theorem kRound_cg {L : Nat} {jump : Option Code} {h : AH} {K : CRes → Prop} {x y : Option Blk} (e : x = y) : kRound L jump h K x = kRound L jump h K y := by rw [e]
theorem roundEnd_k {L : Nat} {jump : Option Code} {h : AH} {K : CRes → Prop} : K (roundEnd L jump h) = kRound L jump h K (h.b.get L) := by
  unfold roundEnd kRound
  cases h.b.get L with
  | none => rfl
  | some b => cases b <;> rfl
@[go_sem ↓] theorem kEnd_nor {L : Nat} {K : CRes → Prop} {r : Tr Value} {n : Nat} {h : AH} {rc : Bool} : kEnd L K (.nor ⟨r, n, [], h, rc⟩) = kRound L none h K (h.b.get L) := roundEnd_k
@[go_sem ↓] theorem kEnd_ret {L : Nat} {K : CRes → Prop} {r : Tr Value} {n : Nat} {h : AH} {rc : Bool} : kEnd L K (.ret ⟨r, n, [], h, rc⟩) = kRound L (some .ret) h K (h.b.get L) := roundEnd_k
@[go_sem ↓] theorem kEnd_exit {L i : Nat} {K : CRes → Prop} {r : Tr Value} {n : Nat} {h : AH} {rc : Bool} : kEnd L K (.exit i ⟨r, n, [], h, rc⟩) = kRound L (some (.exit i)) h K (h.b.get L) := roundEnd_k
@[go_sem ↓] theorem kEnd_pan {L : Nat} {K : CRes → Prop} {r : Tr Value} {n : Nat} {h : AH} {rc : Bool} {v : Value} : kEnd L K (.pan v ⟨r, n, [], h, rc⟩) = K (.pan v h) := rfl
@[go_sem ↓] theorem kRound_none {L : Nat} {h : AH} {K : CRes → Prop} {st : LoopState} {pend : Option Code} {fn : FuncId} {n : Nat} {r : Tr Value} {ps : List Tmp} {asg bo : Code} {de : Nat} : kRound L none h K (some (.loop st pend fn n r ps asg bo de)) = K (.ret (.bool true) (h.upd L (.loop .ready none fn n r ps asg bo de)) false) := rfl
@[go_sem ↓] theorem kRound_some {L : Nat} {h : AH} {K : CRes → Prop} {st : LoopState} {j : Code} {pend : Option Code} {fn : FuncId} {n : Nat} {r : Tr Value} {ps : List Tmp} {asg bo : Code} {de : Nat} : kRound L (some j) h K (some (.loop st pend fn n r ps asg bo de)) = K (.ret (.bool false) (h.upd L (.loop .done (some j) fn n r ps asg bo de)) false) := rfl
@[congr] theorem kEnd_cg {L : Nat} {K : CRes → Prop} {x y : Out} (e : x = y) : kEnd L K x = kEnd L K y := by rw [e]
section calls
variable {all : Array Oper} {dst : Option Tmp} {l : List Oper} {st : St} {x : CRes} {o : Oper} {m : Nat} {pl : List PO} {ws : List Watch} {L : Nat} {K : CRes → Prop} {t : TypeId} {xt : Option TypeId} {u v : Value} {h : AH}
@[go_sem] theorem kEnd_call : kEnd L K (stepO E ft c all dst l (callR st x)) = callK E ft c all dst l st (kEnd L K) x := rfl
@[go_sem] theorem kEnd_dcall : kEnd L K (dOp E ft c all o m pl ws (callR st x)) = dcallK E ft c all o m pl ws st (kEnd L K) x := rfl
@[go_sem] theorem kEnd_app : kEnd L K (stepO E ft c all dst l (avalR st (aAppend E t xt u v h))) = appK E ft c all dst l st (kEnd L K) (aAppend E t xt u v h) := rfl
end calls

/-! ### A function's end behind a loop over a function -/
def kColl (E : Env) (ft : Tr AFunc) (res : List ResultVar) (K : CRes → Prop) (b : Nat) (s : St) : Option Blk → Prop
  | some (.deferred (some [])) => kBody E ft res K (.ret { s with h := s.h.upd b (.deferred none) })
  | _ => K .fail
@[congr] theorem kColl_cg {res : List ResultVar} {K : CRes → Prop} {b : Nat} {x y : Option Blk} (e : x = y) : kColl E ft res K b s x = kColl E ft res K b s y := by rw [e]
@[go_sem ↓] theorem kColl_some {res : List ResultVar} {K : CRes → Prop} {b : Nat} {r : Tr Value} {n : Nat} {d : List Deferred} {h : AH} {rc : Bool} : kColl E ft res K b ⟨r, n, d, h, rc⟩ (some (.deferred (some []))) = kBody E ft res K (.ret ⟨r, n, d, h.upd b (.deferred none), rc⟩) := rfl
@[go_sem ↓] theorem kBody_coll {res : List ResultVar} {K : CRes → Prop} {b : Nat} {a : Array Value} {r : Tr Value} {n : Nat} {d : List Deferred} {h : AH} {rc : Bool} :
    kBody E ft res K (.ret ⟨r, n, ⟨.collected b, a⟩ :: d, h, rc⟩) = kColl E ft res K b ⟨r, n, d, h, rc⟩ (h.b.get b) := by
  unfold kBody bodyL
  simp only [leaveL_cons]
  unfold kColl
  cases h.b.get b with
  | none => rfl
  | some x => cases x <;> try rfl
              rename_i ds; cases ds <;> try rfl
              rename_i l; cases l <;> rfl
@[go_sem ↓] theorem kBody_coll' {res : List ResultVar} {K : CRes → Prop} {b : Nat} {a : Array Value} {r : Tr Value} {n : Nat} {d : List Deferred} {h : AH} {rc : Bool} :
    kBody E ft res K (.nor ⟨r, n, ⟨.collected b, a⟩ :: d, h, rc⟩) = kColl E ft res K b ⟨r, n, d, h, rc⟩ (h.b.get b) := kBody_coll
attribute [go_sem] putAll
end Go.Ev
