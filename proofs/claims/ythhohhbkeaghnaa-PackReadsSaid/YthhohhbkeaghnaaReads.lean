/- WHATEVER THE INPUT: true; the input reads as it did. -/
import Derived.Test.YthhohhbkeaghnaaT6
namespace Go.Proofs.Ythhohhbkeaghnaa
theorem packReads_holds : Rows.PackReadsSaid := S1.proved6
#print axioms packReads_holds
end Go.Proofs.Ythhohhbkeaghnaa
