/- WHATEVER THE INPUT: true; the input reads as it did. -/
import Derived.Test.YthhohhbkeaghnaaT5
namespace Go.Proofs.Ythhohhbkeaghnaa
theorem packWrites_holds : Rows.PackWritesSaid := S1.proved5
#print axioms packWrites_holds
end Go.Proofs.Ythhohhbkeaghnaa
