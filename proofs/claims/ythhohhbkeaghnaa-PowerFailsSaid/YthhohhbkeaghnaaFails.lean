/- The failures of any supply are those of the reference, tick by tick, or the error is told: the law PowerFails is true for every input. No condition. -/
import Derived.Test.YthhohhbkeaghnaaPWj
namespace Go.Proofs.Ythhohhbkeaghnaa
theorem powerFails_holds : Rows.PowerFailsSaid := S1.proved4
#print axioms powerFails_holds
end Go.Proofs.Ythhohhbkeaghnaa
