import Derived.Test.YthhohhbkeaghnaaEVzg
import Derived.Test.YthhohhbkeaghnaaRows
set_option linter.unusedSimpArgs false
set_option linter.unusedVariables false
set_option linter.unusedSectionVars false
open Go Go.Ev Go.Proofs Go.Proofs.Ythhohhbkeaghnaa
namespace S1
noncomputable def E1 : Env := ⟨ofListC (ttList Try.prog (List.range 98)), 0, fun _ => false, fun _ => none⟩
noncomputable def ft1 : Tr AFunc := ofListC (ftList Try.prog (List.range 51))
/-- The two examples are known to be met. -/
noncomputable def E0 : Env := ⟨ofListC (ttList Try.prog (List.range 98)), 0, fun _ => false, fun f => bif f.beq 8 || f.beq 16 then some (.bool true) else none⟩
noncomputable def ft0 : Tr AFunc := ofListC (ftList Try.prog ((List.range 51).filter fun f => !(f.beq 8 || f.beq 16)))
@[go_sem] theorem ld_3 (b off : Nat) (h : AH) : aLoad E0 3 (.pointer (some ⟨b, off, none⟩)) h = oget (h.b.get b) fun blk => blk.cell off := by kernel_rfl
@[go_sem] theorem pv_3 (cs : List Value) (off : Nat) : partV E0 3 cs off = cs[off]? := by kernel_rfl
@[go_sem] theorem st_3 (b off : Nat) (v : Value) (h : AH) : aStore E0 3 (.pointer (some ⟨b, off, none⟩)) v h = bif v.cells.toList.length.beq 1 then aWrite h b off v.cells.toList else none := by kernel_rfl
@[go_sem] theorem al_3 (h : AH) : aAlloc E0 3 h = aNewCells h [.int .i64 (0)] 3 := by kernel_rfl
@[go_sem] theorem ld_4 (b off : Nat) (h : AH) : aLoad E0 4 (.pointer (some ⟨b, off, none⟩)) h = oget (h.b.get b) fun blk => blk.cell off := by kernel_rfl
@[go_sem] theorem pv_4 (cs : List Value) (off : Nat) : partV E0 4 cs off = cs[off]? := by kernel_rfl
@[go_sem] theorem st_4 (b off : Nat) (v : Value) (h : AH) : aStore E0 4 (.pointer (some ⟨b, off, none⟩)) v h = bif v.cells.toList.length.beq 1 then aWrite h b off v.cells.toList else none := by kernel_rfl
@[go_sem] theorem al_4 (h : AH) : aAlloc E0 4 h = aNewCells h [.bool false] 4 := by kernel_rfl
@[go_sem] theorem ld_5 (b off : Nat) (h : AH) : aLoad E0 5 (.pointer (some ⟨b, off, none⟩)) h = oget (h.b.get b) fun blk => blk.cell off := by kernel_rfl
@[go_sem] theorem pv_5 (cs : List Value) (off : Nat) : partV E0 5 cs off = cs[off]? := by kernel_rfl
@[go_sem] theorem st_5 (b off : Nat) (v : Value) (h : AH) : aStore E0 5 (.pointer (some ⟨b, off, none⟩)) v h = bif v.cells.toList.length.beq 1 then aWrite h b off v.cells.toList else none := by kernel_rfl
@[go_sem] theorem al_5 (h : AH) : aAlloc E0 5 h = aNewCells h [.int .u8 (0)] 5 := by kernel_rfl
@[go_sem] theorem ld_9 (b off : Nat) (h : AH) : aLoad E0 9 (.pointer (some ⟨b, off, none⟩)) h = oget (h.b.get b) fun blk => blk.cell off := by kernel_rfl
@[go_sem] theorem pv_9 (cs : List Value) (off : Nat) : partV E0 9 cs off = cs[off]? := by kernel_rfl
@[go_sem] theorem st_9 (b off : Nat) (v : Value) (h : AH) : aStore E0 9 (.pointer (some ⟨b, off, none⟩)) v h = bif v.cells.toList.length.beq 1 then aWrite h b off v.cells.toList else none := by kernel_rfl
@[go_sem] theorem al_9 (h : AH) : aAlloc E0 9 h = aNewCells h [.string ⟨⟨[]⟩⟩] 9 := by kernel_rfl
@[go_sem] theorem len_9 (s : ByteArray) (h : AH) : aLen E0 (some 9) (.string s) h = some (.int .i64 s.data.toList.length) := by kernel_rfl
@[go_sem] theorem ld_22 (b off : Nat) (h : AH) : aLoad E0 22 (.pointer (some ⟨b, off, none⟩)) h = oget (h.b.get b) fun blk => blk.cell off := by kernel_rfl
@[go_sem] theorem pv_22 (cs : List Value) (off : Nat) : partV E0 22 cs off = cs[off]? := by kernel_rfl
@[go_sem] theorem st_22 (b off : Nat) (v : Value) (h : AH) : aStore E0 22 (.pointer (some ⟨b, off, none⟩)) v h = bif v.cells.toList.length.beq 1 then aWrite h b off v.cells.toList else none := by kernel_rfl
@[go_sem] theorem al_22 (h : AH) : aAlloc E0 22 h = aNewCells h [.slice none 0 0] 22 := by kernel_rfl
@[go_sem] theorem ix_22 (b off len cp : Nat) (k : IntKind) (j : Int) : aIndexAddr E0 22 (.slice (some ⟨b, off, none⟩) len cp) (.int k j) = bif decide (0 ≤ j) && decide (j < len) then some (.pointer (some ⟨b, off + j.toNat * 1, none⟩)) else none := by kernel_rfl
@[go_sem] theorem len_22 (a : Option Addr) (n cp : Nat) (h : AH) : aLen E0 (some 22) (.slice a n cp) h = some (.int .i64 n) := by kernel_rfl
@[go_sem] theorem fa_24_0 (b off : Nat) : aFieldAddr E0 24 (.pointer (some ⟨b, off, none⟩)) 0 = some (.pointer (some ⟨b, off + 0, none⟩)) := by kernel_rfl
@[go_sem] theorem fv_24_0 (cs : List Value) : aField E0 24 (.agg ⟨cs⟩) 0 = partV E0 22 cs 0 := by kernel_rfl
@[go_sem] theorem fa_24_1 (b off : Nat) : aFieldAddr E0 24 (.pointer (some ⟨b, off, none⟩)) 1 = some (.pointer (some ⟨b, off + 1, none⟩)) := by kernel_rfl
@[go_sem] theorem fv_24_1 (cs : List Value) : aField E0 24 (.agg ⟨cs⟩) 1 = partV E0 3 cs 1 := by kernel_rfl
@[go_sem] theorem fa_24_2 (b off : Nat) : aFieldAddr E0 24 (.pointer (some ⟨b, off, none⟩)) 2 = some (.pointer (some ⟨b, off + 2, none⟩)) := by kernel_rfl
@[go_sem] theorem fv_24_2 (cs : List Value) : aField E0 24 (.agg ⟨cs⟩) 2 = partV E0 3 cs 2 := by kernel_rfl
@[go_sem] theorem ld_24 (b off : Nat) (h : AH) : aLoad E0 24 (.pointer (some ⟨b, off, none⟩)) h = oget (h.b.get b) fun blk => oget (getCells blk.cell off 3) fun vs => some (.agg ⟨vs⟩) := by kernel_rfl
@[go_sem] theorem pv_24 (cs : List Value) (off : Nat) : partV E0 24 cs off = bif Nat.ble (off + 3) cs.length then some (.agg ⟨(cs.drop off).take 3⟩) else none := by kernel_rfl
@[go_sem] theorem st_24 (b off : Nat) (v : Value) (h : AH) : aStore E0 24 (.pointer (some ⟨b, off, none⟩)) v h = bif v.cells.toList.length.beq 3 then aWrite h b off v.cells.toList else none := by kernel_rfl
@[go_sem] theorem al_24 (h : AH) : aAlloc E0 24 h = aNewCells h [.slice none 0 0, .int .i64 (0), .int .i64 (0)] 24 := by kernel_rfl
@[go_sem] theorem ld_26 (b off : Nat) (h : AH) : aLoad E0 26 (.pointer (some ⟨b, off, none⟩)) h = oget (h.b.get b) fun blk => blk.cell off := by kernel_rfl
@[go_sem] theorem pv_26 (cs : List Value) (off : Nat) : partV E0 26 cs off = cs[off]? := by kernel_rfl
@[go_sem] theorem st_26 (b off : Nat) (v : Value) (h : AH) : aStore E0 26 (.pointer (some ⟨b, off, none⟩)) v h = bif v.cells.toList.length.beq 1 then aWrite h b off v.cells.toList else none := by kernel_rfl
@[go_sem] theorem al_26 (h : AH) : aAlloc E0 26 h = aNewCells h [.int .i64 (0)] 26 := by kernel_rfl
@[go_sem] theorem fa_33_0 (b off : Nat) : aFieldAddr E0 33 (.pointer (some ⟨b, off, none⟩)) 0 = some (.pointer (some ⟨b, off + 0, none⟩)) := by kernel_rfl
@[go_sem] theorem fv_33_0 (cs : List Value) : aField E0 33 (.agg ⟨cs⟩) 0 = partV E0 22 cs 0 := by kernel_rfl
@[go_sem] theorem fa_33_1 (b off : Nat) : aFieldAddr E0 33 (.pointer (some ⟨b, off, none⟩)) 1 = some (.pointer (some ⟨b, off + 1, none⟩)) := by kernel_rfl
@[go_sem] theorem fv_33_1 (cs : List Value) : aField E0 33 (.agg ⟨cs⟩) 1 = partV E0 3 cs 1 := by kernel_rfl
@[go_sem] theorem ld_33 (b off : Nat) (h : AH) : aLoad E0 33 (.pointer (some ⟨b, off, none⟩)) h = oget (h.b.get b) fun blk => oget (getCells blk.cell off 2) fun vs => some (.agg ⟨vs⟩) := by kernel_rfl
@[go_sem] theorem pv_33 (cs : List Value) (off : Nat) : partV E0 33 cs off = bif Nat.ble (off + 2) cs.length then some (.agg ⟨(cs.drop off).take 2⟩) else none := by kernel_rfl
@[go_sem] theorem st_33 (b off : Nat) (v : Value) (h : AH) : aStore E0 33 (.pointer (some ⟨b, off, none⟩)) v h = bif v.cells.toList.length.beq 2 then aWrite h b off v.cells.toList else none := by kernel_rfl
@[go_sem] theorem al_33 (h : AH) : aAlloc E0 33 h = aNewCells h [.slice none 0 0, .int .i64 (0)] 33 := by kernel_rfl
@[go_sem] theorem ld_36 (b off : Nat) (h : AH) : aLoad E0 36 (.pointer (some ⟨b, off, none⟩)) h = oget (h.b.get b) fun blk => blk.cell off := by kernel_rfl
@[go_sem] theorem pv_36 (cs : List Value) (off : Nat) : partV E0 36 cs off = cs[off]? := by kernel_rfl
@[go_sem] theorem st_36 (b off : Nat) (v : Value) (h : AH) : aStore E0 36 (.pointer (some ⟨b, off, none⟩)) v h = bif v.cells.toList.length.beq 1 then aWrite h b off v.cells.toList else none := by kernel_rfl
@[go_sem] theorem al_36 (h : AH) : aAlloc E0 36 h = aNewCells h [.slice none 0 0] 36 := by kernel_rfl
@[go_sem] theorem ix_36 (b off len cp : Nat) (k : IntKind) (j : Int) : aIndexAddr E0 36 (.slice (some ⟨b, off, none⟩) len cp) (.int k j) = bif decide (0 ≤ j) && decide (j < len) then some (.pointer (some ⟨b, off + j.toNat * 1, none⟩)) else none := by kernel_rfl
@[go_sem] theorem len_36 (a : Option Addr) (n cp : Nat) (h : AH) : aLen E0 (some 36) (.slice a n cp) h = some (.int .i64 n) := by kernel_rfl
@[go_sem] theorem fa_38_0 (b off : Nat) : aFieldAddr E0 38 (.pointer (some ⟨b, off, none⟩)) 0 = some (.pointer (some ⟨b, off + 0, none⟩)) := by kernel_rfl
@[go_sem] theorem fv_38_0 (cs : List Value) : aField E0 38 (.agg ⟨cs⟩) 0 = partV E0 35 cs 0 := by kernel_rfl
@[go_sem] theorem fa_38_1 (b off : Nat) : aFieldAddr E0 38 (.pointer (some ⟨b, off, none⟩)) 1 = some (.pointer (some ⟨b, off + 1, none⟩)) := by kernel_rfl
@[go_sem] theorem fv_38_1 (cs : List Value) : aField E0 38 (.agg ⟨cs⟩) 1 = partV E0 36 cs 1 := by kernel_rfl
@[go_sem] theorem fa_38_2 (b off : Nat) : aFieldAddr E0 38 (.pointer (some ⟨b, off, none⟩)) 2 = some (.pointer (some ⟨b, off + 2, none⟩)) := by kernel_rfl
@[go_sem] theorem fv_38_2 (cs : List Value) : aField E0 38 (.agg ⟨cs⟩) 2 = partV E0 3 cs 2 := by kernel_rfl
@[go_sem] theorem fa_38_3 (b off : Nat) : aFieldAddr E0 38 (.pointer (some ⟨b, off, none⟩)) 3 = some (.pointer (some ⟨b, off + 3, none⟩)) := by kernel_rfl
@[go_sem] theorem fv_38_3 (cs : List Value) : aField E0 38 (.agg ⟨cs⟩) 3 = partV E0 3 cs 3 := by kernel_rfl
@[go_sem] theorem ld_38 (b off : Nat) (h : AH) : aLoad E0 38 (.pointer (some ⟨b, off, none⟩)) h = oget (h.b.get b) fun blk => oget (getCells blk.cell off 4) fun vs => some (.agg ⟨vs⟩) := by kernel_rfl
@[go_sem] theorem pv_38 (cs : List Value) (off : Nat) : partV E0 38 cs off = bif Nat.ble (off + 4) cs.length then some (.agg ⟨(cs.drop off).take 4⟩) else none := by kernel_rfl
@[go_sem] theorem st_38 (b off : Nat) (v : Value) (h : AH) : aStore E0 38 (.pointer (some ⟨b, off, none⟩)) v h = bif v.cells.toList.length.beq 4 then aWrite h b off v.cells.toList else none := by kernel_rfl
@[go_sem] theorem al_38 (h : AH) : aAlloc E0 38 h = aNewCells h [.slice none 0 0, .slice none 0 0, .int .i64 (0), .int .i64 (0)] 38 := by kernel_rfl
@[go_sem] theorem fa_47_0 (b off : Nat) : aFieldAddr E0 47 (.pointer (some ⟨b, off, none⟩)) 0 = some (.pointer (some ⟨b, off + 0, none⟩)) := by kernel_rfl
@[go_sem] theorem fv_47_0 (cs : List Value) : aField E0 47 (.agg ⟨cs⟩) 0 = partV E0 38 cs 0 := by kernel_rfl
@[go_sem] theorem fa_47_1 (b off : Nat) : aFieldAddr E0 47 (.pointer (some ⟨b, off, none⟩)) 1 = some (.pointer (some ⟨b, off + 4, none⟩)) := by kernel_rfl
@[go_sem] theorem fv_47_1 (cs : List Value) : aField E0 47 (.agg ⟨cs⟩) 1 = partV E0 4 cs 4 := by kernel_rfl
@[go_sem] theorem ld_47 (b off : Nat) (h : AH) : aLoad E0 47 (.pointer (some ⟨b, off, none⟩)) h = oget (h.b.get b) fun blk => oget (getCells blk.cell off 5) fun vs => some (.agg ⟨vs⟩) := by kernel_rfl
@[go_sem] theorem pv_47 (cs : List Value) (off : Nat) : partV E0 47 cs off = bif Nat.ble (off + 5) cs.length then some (.agg ⟨(cs.drop off).take 5⟩) else none := by kernel_rfl
@[go_sem] theorem st_47 (b off : Nat) (v : Value) (h : AH) : aStore E0 47 (.pointer (some ⟨b, off, none⟩)) v h = bif v.cells.toList.length.beq 5 then aWrite h b off v.cells.toList else none := by kernel_rfl
@[go_sem] theorem al_47 (h : AH) : aAlloc E0 47 h = aNewCells h [.slice none 0 0, .slice none 0 0, .int .i64 (0), .int .i64 (0), .bool false] 47 := by kernel_rfl
@[go_sem] theorem ld_51 (b off : Nat) (h : AH) : aLoad E0 51 (.pointer (some ⟨b, off, none⟩)) h = oget (h.b.get b) fun blk => blk.cell off := by kernel_rfl
@[go_sem] theorem pv_51 (cs : List Value) (off : Nat) : partV E0 51 cs off = cs[off]? := by kernel_rfl
@[go_sem] theorem st_51 (b off : Nat) (v : Value) (h : AH) : aStore E0 51 (.pointer (some ⟨b, off, none⟩)) v h = bif v.cells.toList.length.beq 1 then aWrite h b off v.cells.toList else none := by kernel_rfl
@[go_sem] theorem al_51 (h : AH) : aAlloc E0 51 h = aNewCells h [.pointer none] 51 := by kernel_rfl
@[go_sem] theorem fa_53_0 (b off : Nat) : aFieldAddr E0 53 (.pointer (some ⟨b, off, none⟩)) 0 = some (.pointer (some ⟨b, off + 0, none⟩)) := by kernel_rfl
@[go_sem] theorem fv_53_0 (cs : List Value) : aField E0 53 (.agg ⟨cs⟩) 0 = partV E0 24 cs 0 := by kernel_rfl
@[go_sem] theorem fa_53_1 (b off : Nat) : aFieldAddr E0 53 (.pointer (some ⟨b, off, none⟩)) 1 = some (.pointer (some ⟨b, off + 3, none⟩)) := by kernel_rfl
@[go_sem] theorem fv_53_1 (cs : List Value) : aField E0 53 (.agg ⟨cs⟩) 1 = partV E0 3 cs 3 := by kernel_rfl
@[go_sem] theorem fa_53_2 (b off : Nat) : aFieldAddr E0 53 (.pointer (some ⟨b, off, none⟩)) 2 = some (.pointer (some ⟨b, off + 4, none⟩)) := by kernel_rfl
@[go_sem] theorem fv_53_2 (cs : List Value) : aField E0 53 (.agg ⟨cs⟩) 2 = partV E0 4 cs 4 := by kernel_rfl
@[go_sem] theorem fa_53_3 (b off : Nat) : aFieldAddr E0 53 (.pointer (some ⟨b, off, none⟩)) 3 = some (.pointer (some ⟨b, off + 5, none⟩)) := by kernel_rfl
@[go_sem] theorem fv_53_3 (cs : List Value) : aField E0 53 (.agg ⟨cs⟩) 3 = partV E0 3 cs 5 := by kernel_rfl
@[go_sem] theorem fa_53_4 (b off : Nat) : aFieldAddr E0 53 (.pointer (some ⟨b, off, none⟩)) 4 = some (.pointer (some ⟨b, off + 6, none⟩)) := by kernel_rfl
@[go_sem] theorem fv_53_4 (cs : List Value) : aField E0 53 (.agg ⟨cs⟩) 4 = partV E0 22 cs 6 := by kernel_rfl
@[go_sem] theorem ld_53 (b off : Nat) (h : AH) : aLoad E0 53 (.pointer (some ⟨b, off, none⟩)) h = oget (h.b.get b) fun blk => oget (getCells blk.cell off 7) fun vs => some (.agg ⟨vs⟩) := by kernel_rfl
@[go_sem] theorem pv_53 (cs : List Value) (off : Nat) : partV E0 53 cs off = bif Nat.ble (off + 7) cs.length then some (.agg ⟨(cs.drop off).take 7⟩) else none := by kernel_rfl
@[go_sem] theorem st_53 (b off : Nat) (v : Value) (h : AH) : aStore E0 53 (.pointer (some ⟨b, off, none⟩)) v h = bif v.cells.toList.length.beq 7 then aWrite h b off v.cells.toList else none := by kernel_rfl
@[go_sem] theorem al_53 (h : AH) : aAlloc E0 53 h = aNewCells h [.slice none 0 0, .int .i64 (0), .int .i64 (0), .int .i64 (0), .bool false, .int .i64 (0), .slice none 0 0] 53 := by kernel_rfl
@[go_sem] theorem ld_60 (b off : Nat) (h : AH) : aLoad E0 60 (.pointer (some ⟨b, off, none⟩)) h = oget (h.b.get b) fun blk => blk.cell off := by kernel_rfl
@[go_sem] theorem pv_60 (cs : List Value) (off : Nat) : partV E0 60 cs off = cs[off]? := by kernel_rfl
@[go_sem] theorem st_60 (b off : Nat) (v : Value) (h : AH) : aStore E0 60 (.pointer (some ⟨b, off, none⟩)) v h = bif v.cells.toList.length.beq 1 then aWrite h b off v.cells.toList else none := by kernel_rfl
@[go_sem] theorem al_60 (h : AH) : aAlloc E0 60 h = aNewCells h [.int .u32 (0)] 60 := by kernel_rfl
@[go_sem] theorem fa_66_0 (b off : Nat) : aFieldAddr E0 66 (.pointer (some ⟨b, off, none⟩)) 0 = some (.pointer (some ⟨b, off + 0, none⟩)) := by kernel_rfl
@[go_sem] theorem fv_66_0 (cs : List Value) : aField E0 66 (.agg ⟨cs⟩) 0 = partV E0 36 cs 0 := by kernel_rfl
@[go_sem] theorem ld_66 (b off : Nat) (h : AH) : aLoad E0 66 (.pointer (some ⟨b, off, none⟩)) h = oget (h.b.get b) fun blk => oget (getCells blk.cell off 1) fun vs => some (.agg ⟨vs⟩) := by kernel_rfl
@[go_sem] theorem pv_66 (cs : List Value) (off : Nat) : partV E0 66 cs off = bif Nat.ble (off + 1) cs.length then some (.agg ⟨(cs.drop off).take 1⟩) else none := by kernel_rfl
@[go_sem] theorem st_66 (b off : Nat) (v : Value) (h : AH) : aStore E0 66 (.pointer (some ⟨b, off, none⟩)) v h = bif v.cells.toList.length.beq 1 then aWrite h b off v.cells.toList else none := by kernel_rfl
@[go_sem] theorem al_66 (h : AH) : aAlloc E0 66 h = aNewCells h [.slice none 0 0] 66 := by kernel_rfl
theorem ft3 : ft0.get 3 = some ⟨Try.f3.ntmps, Try.f3.results.toList, comp (Try.f3.body.getD .skip)⟩ := by kernel_rfl
theorem ft4 : ft0.get 4 = some ⟨Try.f4.ntmps, Try.f4.results.toList, comp (Try.f4.body.getD .skip)⟩ := by kernel_rfl
theorem ft5 : ft0.get 5 = some ⟨Try.f5.ntmps, Try.f5.results.toList, comp (Try.f5.body.getD .skip)⟩ := by kernel_rfl
theorem ft6 : ft0.get 6 = some ⟨Try.f6.ntmps, Try.f6.results.toList, comp (Try.f6.body.getD .skip)⟩ := by kernel_rfl
theorem ft7 : ft0.get 7 = some ⟨Try.f7.ntmps, Try.f7.results.toList, comp (Try.f7.body.getD .skip)⟩ := by kernel_rfl
theorem ft9 : ft0.get 9 = some ⟨Try.f9.ntmps, Try.f9.results.toList, comp (Try.f9.body.getD .skip)⟩ := by kernel_rfl
theorem ft10 : ft0.get 10 = some ⟨Try.f10.ntmps, Try.f10.results.toList, comp (Try.f10.body.getD .skip)⟩ := by kernel_rfl
theorem ft11 : ft0.get 11 = some ⟨Try.f11.ntmps, Try.f11.results.toList, comp (Try.f11.body.getD .skip)⟩ := by kernel_rfl
theorem ft12 : ft0.get 12 = some ⟨Try.f12.ntmps, Try.f12.results.toList, comp (Try.f12.body.getD .skip)⟩ := by kernel_rfl
theorem ft13 : ft0.get 13 = some ⟨Try.f13.ntmps, Try.f13.results.toList, comp (Try.f13.body.getD .skip)⟩ := by kernel_rfl
theorem ft14 : ft0.get 14 = some ⟨Try.f14.ntmps, Try.f14.results.toList, comp (Try.f14.body.getD .skip)⟩ := by kernel_rfl
theorem ft15 : ft0.get 15 = some ⟨Try.f15.ntmps, Try.f15.results.toList, comp (Try.f15.body.getD .skip)⟩ := by kernel_rfl
theorem ft17 : ft0.get 17 = some ⟨Try.f17.ntmps, Try.f17.results.toList, comp (Try.f17.body.getD .skip)⟩ := by kernel_rfl
theorem ft18 : ft0.get 18 = some ⟨Try.f18.ntmps, Try.f18.results.toList, comp (Try.f18.body.getD .skip)⟩ := by kernel_rfl
theorem ft19 : ft0.get 19 = some ⟨Try.f19.ntmps, Try.f19.results.toList, comp (Try.f19.body.getD .skip)⟩ := by kernel_rfl
theorem ft20 : ft0.get 20 = some ⟨Try.f20.ntmps, Try.f20.results.toList, comp (Try.f20.body.getD .skip)⟩ := by kernel_rfl
theorem ft21 : ft0.get 21 = some ⟨Try.f21.ntmps, Try.f21.results.toList, comp (Try.f21.body.getD .skip)⟩ := by kernel_rfl
theorem ft22 : ft0.get 22 = some ⟨Try.f22.ntmps, Try.f22.results.toList, comp (Try.f22.body.getD .skip)⟩ := by kernel_rfl
theorem ft23 : ft0.get 23 = some ⟨Try.f23.ntmps, Try.f23.results.toList, comp (Try.f23.body.getD .skip)⟩ := by kernel_rfl
theorem ft24 : ft0.get 24 = some ⟨Try.f24.ntmps, Try.f24.results.toList, comp (Try.f24.body.getD .skip)⟩ := by kernel_rfl
theorem ft25 : ft0.get 25 = some ⟨Try.f25.ntmps, Try.f25.results.toList, comp (Try.f25.body.getD .skip)⟩ := by kernel_rfl
theorem ft26 : ft0.get 26 = some ⟨Try.f26.ntmps, Try.f26.results.toList, comp (Try.f26.body.getD .skip)⟩ := by kernel_rfl
theorem ft27 : ft0.get 27 = some ⟨Try.f27.ntmps, Try.f27.results.toList, comp (Try.f27.body.getD .skip)⟩ := by kernel_rfl
theorem ft28 : ft0.get 28 = some ⟨Try.f28.ntmps, Try.f28.results.toList, comp (Try.f28.body.getD .skip)⟩ := by kernel_rfl
theorem ft29 : ft0.get 29 = some ⟨Try.f29.ntmps, Try.f29.results.toList, comp (Try.f29.body.getD .skip)⟩ := by kernel_rfl
theorem ft30 : ft0.get 30 = some ⟨Try.f30.ntmps, Try.f30.results.toList, comp (Try.f30.body.getD .skip)⟩ := by kernel_rfl
theorem ft31 : ft0.get 31 = some ⟨Try.f31.ntmps, Try.f31.results.toList, comp (Try.f31.body.getD .skip)⟩ := by kernel_rfl
theorem ft32 : ft0.get 32 = some ⟨Try.f32.ntmps, Try.f32.results.toList, comp (Try.f32.body.getD .skip)⟩ := by kernel_rfl
theorem ft33 : ft0.get 33 = some ⟨Try.f33.ntmps, Try.f33.results.toList, comp (Try.f33.body.getD .skip)⟩ := by kernel_rfl
theorem ft34 : ft0.get 34 = some ⟨Try.f34.ntmps, Try.f34.results.toList, comp (Try.f34.body.getD .skip)⟩ := by kernel_rfl
theorem ft35 : ft0.get 35 = some ⟨Try.f35.ntmps, Try.f35.results.toList, comp (Try.f35.body.getD .skip)⟩ := by kernel_rfl
theorem ft36 : ft0.get 36 = some ⟨Try.f36.ntmps, Try.f36.results.toList, comp (Try.f36.body.getD .skip)⟩ := by kernel_rfl
theorem ft37 : ft0.get 37 = some ⟨Try.f37.ntmps, Try.f37.results.toList, comp (Try.f37.body.getD .skip)⟩ := by kernel_rfl
theorem ft38 : ft0.get 38 = some ⟨Try.f38.ntmps, Try.f38.results.toList, comp (Try.f38.body.getD .skip)⟩ := by kernel_rfl
theorem ft39 : ft0.get 39 = some ⟨Try.f39.ntmps, Try.f39.results.toList, comp (Try.f39.body.getD .skip)⟩ := by kernel_rfl
theorem ft40 : ft0.get 40 = some ⟨Try.f40.ntmps, Try.f40.results.toList, comp (Try.f40.body.getD .skip)⟩ := by kernel_rfl
theorem ft41 : ft0.get 41 = some ⟨Try.f41.ntmps, Try.f41.results.toList, comp (Try.f41.body.getD .skip)⟩ := by kernel_rfl
theorem ft42 : ft0.get 42 = some ⟨Try.f42.ntmps, Try.f42.results.toList, comp (Try.f42.body.getD .skip)⟩ := by kernel_rfl
theorem ft43 : ft0.get 43 = some ⟨Try.f43.ntmps, Try.f43.results.toList, comp (Try.f43.body.getD .skip)⟩ := by kernel_rfl
theorem ft44 : ft0.get 44 = some ⟨Try.f44.ntmps, Try.f44.results.toList, comp (Try.f44.body.getD .skip)⟩ := by kernel_rfl
theorem ft45 : ft0.get 45 = some ⟨Try.f45.ntmps, Try.f45.results.toList, comp (Try.f45.body.getD .skip)⟩ := by kernel_rfl
theorem ft46 : ft0.get 46 = some ⟨Try.f46.ntmps, Try.f46.results.toList, comp (Try.f46.body.getD .skip)⟩ := by kernel_rfl
theorem ft47 : ft0.get 47 = some ⟨Try.f47.ntmps, Try.f47.results.toList, comp (Try.f47.body.getD .skip)⟩ := by kernel_rfl
theorem ft48 : ft0.get 48 = some ⟨Try.f48.ntmps, Try.f48.results.toList, comp (Try.f48.body.getD .skip)⟩ := by kernel_rfl
theorem ft49 : ft0.get 49 = some ⟨Try.f49.ntmps, Try.f49.results.toList, comp (Try.f49.body.getD .skip)⟩ := by kernel_rfl
theorem ft50 : ft0.get 50 = some ⟨Try.f50.ntmps, Try.f50.results.toList, comp (Try.f50.body.getD .skip)⟩ := by kernel_rfl
end S1
