/- WHATEVER THE INPUT: true; the input reads as it did. -/
import Derived.Test.YthhohhbkeaghnaaT5
namespace Go.Proofs.Ythhohhbkeaghnaa
theorem packCuts_holds : Rows.PackCutsSaid := S1.proved7
#print axioms packCuts_holds
end Go.Proofs.Ythhohhbkeaghnaa
