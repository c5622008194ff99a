/-
  No cell of these rows narrows 'for every input' (looked for: loops, veiled, ifaces, maps, wideKeys, modest, calm, conditions, laid).
  DERIVED. THE GIVEN ROWS OF THIS SEAT. 5 by the template 'for every input the law returns true; each argument reads behind the call as it read before'; 0 by the template 'total and deterministic' (their statements: YthhohhbkeaghnaaTotals.lean).
  GIVEN WITH THE SEED: the statements are not yours to turn. If you find one false, say at which input.
  Laid BY PROGRAM, IN A SANDBOX (cutbox-rows.mjs): the forced cells as the released guide's own fill.sh prints them over the translation 5c47092fa3b13323… (all of the seat's roots in one cut). By AI agents, Wed Nov 11 2026. No macro, syntax, notation, axiom, sorry.
-/
import Derived.Test.YthhohhbkeaghnaaChecked
import GoSem.Claim
import GoSem.ClaimJoined
import GoSem.ClaimMapViews
import Derived.JoinedTies
import Derived.KernelRfl
namespace Go.Proofs.Ythhohhbkeaghnaa
/- THE CELL 'sum', in the pinned program and in every row, IS THE sha256 OF THE DUMP (.gsa) THAT YthhohhbkeaghnaaProg.lean LOADS. Nothing in Lean hashes anything: it is a label: what it is worth is what the hold of that sum in a sandbox is worth. -/
noncomputable def Try.pinned : Pinned := { name := "ythhohhbkeaghnaa", sum := "5c47092fa3b133233dcf6b726f240e9ca5dc5d81f4817aaa37441293b976e63a", checked := Try.checked }
namespace Rows
def none {H : Type} : Left H := { results := [], args := [] }

/-- 'rushlightlaw33.PowerApart': WHATEVER THE INPUT: true; the input reads as it did. -/
def powerApartSpec : ChangeSpec := { name := "powerApart", fn := fun _ => fun
  | [d1, d2] => { results := [.lit (.bool true)], args := [d1, d2] }
  | _ => none }
def powerApartRow : OpenClaim := { program := "ythhohhbkeaghnaa", sum := "5c47092fa3b133233dcf6b726f240e9ca5dc5d81f4817aaa37441293b976e63a", func := "rushlight/rushlightlaw33.PowerApart", spec := "powerApart", unfollowed := true, recurses := true, apart := false }
def PowerApartSaid : Prop := powerApartRow.holds Try.pinned (OpenSpec.ofChange powerApartSpec)

/-- ITS FALSE NEIGHBOUR: 'it returns false'. Refute it at one input. -/
def powerApartWrong : ChangeSpec := { name := "powerApart", fn := fun _ => fun
  | [d1, d2] => { results := [.lit (.bool false)], args := [d1, d2] }
  | _ => none }
def PowerApartWrongFalsely : Prop := powerApartRow.holds Try.pinned (OpenSpec.ofChange powerApartWrong)

/-- 'rushlightlaw33.PowerFails': WHATEVER THE INPUT: true; the input reads as it did. -/
def powerFailsSpec : ChangeSpec := { name := "powerFails", fn := fun _ => fun
  | [d1, d2] => { results := [.lit (.bool true)], args := [d1, d2] }
  | _ => none }
def powerFailsRow : OpenClaim := { program := "ythhohhbkeaghnaa", sum := "5c47092fa3b133233dcf6b726f240e9ca5dc5d81f4817aaa37441293b976e63a", func := "rushlight/rushlightlaw33.PowerFails", spec := "powerFails", unfollowed := true, recurses := true, apart := false }
def PowerFailsSaid : Prop := powerFailsRow.holds Try.pinned (OpenSpec.ofChange powerFailsSpec)

/-- ITS FALSE NEIGHBOUR: 'it returns false'. Refute it at one input. -/
def powerFailsWrong : ChangeSpec := { name := "powerFails", fn := fun _ => fun
  | [d1, d2] => { results := [.lit (.bool false)], args := [d1, d2] }
  | _ => none }
def PowerFailsWrongFalsely : Prop := powerFailsRow.holds Try.pinned (OpenSpec.ofChange powerFailsWrong)

/-- 'rushlightlaw32.PackWrites': WHATEVER THE INPUT: true; the input reads as it did. -/
def packWritesSpec : ChangeSpec := { name := "packWrites", fn := fun _ => fun
  | [d] => { results := [.lit (.bool true)], args := [d] }
  | _ => none }
def packWritesRow : OpenClaim := { program := "ythhohhbkeaghnaa", sum := "5c47092fa3b133233dcf6b726f240e9ca5dc5d81f4817aaa37441293b976e63a", func := "rushlight/rushlightlaw32.PackWrites", spec := "packWrites", unfollowed := true, recurses := true, apart := false }
def PackWritesSaid : Prop := packWritesRow.holds Try.pinned (OpenSpec.ofChange packWritesSpec)

/-- ITS FALSE NEIGHBOUR: 'it returns false'. Refute it at one input. -/
def packWritesWrong : ChangeSpec := { name := "packWrites", fn := fun _ => fun
  | [d] => { results := [.lit (.bool false)], args := [d] }
  | _ => none }
def PackWritesWrongFalsely : Prop := packWritesRow.holds Try.pinned (OpenSpec.ofChange packWritesWrong)

/-- 'rushlightlaw32.PackReads': WHATEVER THE INPUT: true; the input reads as it did. -/
def packReadsSpec : ChangeSpec := { name := "packReads", fn := fun _ => fun
  | [d] => { results := [.lit (.bool true)], args := [d] }
  | _ => none }
def packReadsRow : OpenClaim := { program := "ythhohhbkeaghnaa", sum := "5c47092fa3b133233dcf6b726f240e9ca5dc5d81f4817aaa37441293b976e63a", func := "rushlight/rushlightlaw32.PackReads", spec := "packReads", unfollowed := true, recurses := true, apart := false }
def PackReadsSaid : Prop := packReadsRow.holds Try.pinned (OpenSpec.ofChange packReadsSpec)

/-- ITS FALSE NEIGHBOUR: 'it returns false'. Refute it at one input. -/
def packReadsWrong : ChangeSpec := { name := "packReads", fn := fun _ => fun
  | [d] => { results := [.lit (.bool false)], args := [d] }
  | _ => none }
def PackReadsWrongFalsely : Prop := packReadsRow.holds Try.pinned (OpenSpec.ofChange packReadsWrong)

/-- 'rushlightlaw32.PackCuts': WHATEVER THE INPUT: true; the input reads as it did. -/
def packCutsSpec : ChangeSpec := { name := "packCuts", fn := fun _ => fun
  | [d1, d2, d3] => { results := [.lit (.bool true)], args := [d1, d2, d3] }
  | _ => none }
def packCutsRow : OpenClaim := { program := "ythhohhbkeaghnaa", sum := "5c47092fa3b133233dcf6b726f240e9ca5dc5d81f4817aaa37441293b976e63a", func := "rushlight/rushlightlaw32.PackCuts", spec := "packCuts", unfollowed := true, recurses := true, apart := false }
def PackCutsSaid : Prop := packCutsRow.holds Try.pinned (OpenSpec.ofChange packCutsSpec)

/-- ITS FALSE NEIGHBOUR: 'it returns false'. Refute it at one input. -/
def packCutsWrong : ChangeSpec := { name := "packCuts", fn := fun _ => fun
  | [d1, d2, d3] => { results := [.lit (.bool false)], args := [d1, d2, d3] }
  | _ => none }
def PackCutsWrongFalsely : Prop := packCutsRow.holds Try.pinned (OpenSpec.ofChange packCutsWrong)

/- THE SECOND FORM. 'bulk': how many values and letters a reading holds, each counted each time it is reached (what is shared counts as often as it is met; a slice's spare places count too). A statement '..UptoSaid' is the law's where the arguments, and the package variables that the reading takes, are together of bulk at most 1048576: NARROWER than '..Said'. Prove '..Said' where nothing that the law and all that it calls make is longer than what came in: it says more and counts as full. Else prove '..UptoSaid'. A law counts once. -/
mutual
def uptoBulk {H : Type} : DataW H → Nat
  | .lit (.string bytes) => bytes.length + 1
  | .lit _ => 1
  | .nil => 1
  | .ptr d => uptoBulk d + 1
  | .slice elems spare => uptoBulkAll elems + uptoBulkAll spare + 1
  | .agg parts => uptoBulkAll parts + 1
  | .iface _ d => uptoBulk d + 1
  | .map entries => uptoBulkEntries entries + 1
  | .held _ => 1
def uptoBulkAll {H : Type} : List (DataW H) → Nat
  | [] => 0
  | d :: r => uptoBulk d + uptoBulkAll r
def uptoBulkEntries {H : Type} : List (Lit × DataW H) → Nat
  | [] => 0
  | x :: r => uptoBulkEntry x + uptoBulkEntries r
def uptoBulkEntry {H : Type} : Lit × DataW H → Nat
  | (.string bytes, d) => bytes.length + uptoBulk d + 1
  | (_, d) => uptoBulk d + 1
 end
def uptoSmall : (H : Type) → List (DataW H) → Bool := fun _ ds => decide (uptoBulkAll ds ≤ 1048576)
def OpenSpec.upto (s : _root_.Go.ChangeSpec) : _root_.Go.OpenSpec := { _root_.Go.OpenSpec.ofChange s with cond := some uptoSmall }

/-- 'rushlightlaw33.PowerApart', WHERE WHAT IT READS IS OF BULK AT MOST 1048576: true; the input reads as it did. -/
def powerApartUptoRow : OpenClaim := { program := "ythhohhbkeaghnaa", sum := "5c47092fa3b133233dcf6b726f240e9ca5dc5d81f4817aaa37441293b976e63a", func := "rushlight/rushlightlaw33.PowerApart", spec := "powerApart", unfollowed := true, recurses := true, apart := false, narrowed := true }
def PowerApartUptoSaid : Prop := powerApartUptoRow.holds Try.pinned (OpenSpec.upto powerApartSpec)

/-- 'rushlightlaw33.PowerFails', WHERE WHAT IT READS IS OF BULK AT MOST 1048576: true; the input reads as it did. -/
def powerFailsUptoRow : OpenClaim := { program := "ythhohhbkeaghnaa", sum := "5c47092fa3b133233dcf6b726f240e9ca5dc5d81f4817aaa37441293b976e63a", func := "rushlight/rushlightlaw33.PowerFails", spec := "powerFails", unfollowed := true, recurses := true, apart := false, narrowed := true }
def PowerFailsUptoSaid : Prop := powerFailsUptoRow.holds Try.pinned (OpenSpec.upto powerFailsSpec)

/-- 'rushlightlaw32.PackWrites', WHERE WHAT IT READS IS OF BULK AT MOST 1048576: true; the input reads as it did. -/
def packWritesUptoRow : OpenClaim := { program := "ythhohhbkeaghnaa", sum := "5c47092fa3b133233dcf6b726f240e9ca5dc5d81f4817aaa37441293b976e63a", func := "rushlight/rushlightlaw32.PackWrites", spec := "packWrites", unfollowed := true, recurses := true, apart := false, narrowed := true }
def PackWritesUptoSaid : Prop := packWritesUptoRow.holds Try.pinned (OpenSpec.upto packWritesSpec)

/-- 'rushlightlaw32.PackReads', WHERE WHAT IT READS IS OF BULK AT MOST 1048576: true; the input reads as it did. -/
def packReadsUptoRow : OpenClaim := { program := "ythhohhbkeaghnaa", sum := "5c47092fa3b133233dcf6b726f240e9ca5dc5d81f4817aaa37441293b976e63a", func := "rushlight/rushlightlaw32.PackReads", spec := "packReads", unfollowed := true, recurses := true, apart := false, narrowed := true }
def PackReadsUptoSaid : Prop := packReadsUptoRow.holds Try.pinned (OpenSpec.upto packReadsSpec)

/-- 'rushlightlaw32.PackCuts', WHERE WHAT IT READS IS OF BULK AT MOST 1048576: true; the input reads as it did. -/
def packCutsUptoRow : OpenClaim := { program := "ythhohhbkeaghnaa", sum := "5c47092fa3b133233dcf6b726f240e9ca5dc5d81f4817aaa37441293b976e63a", func := "rushlight/rushlightlaw32.PackCuts", spec := "packCuts", unfollowed := true, recurses := true, apart := false, narrowed := true }
def PackCutsUptoSaid : Prop := packCutsUptoRow.holds Try.pinned (OpenSpec.upto packCutsSpec)

end Rows
end Go.Proofs.Ythhohhbkeaghnaa
