/- At least On instructions are executed between two failures of the power and ahead of the first one: the law PowerApart is true for every input. No condition. -/
import Derived.Test.YthhohhbkeaghnaaPWg
namespace Go.Proofs.Ythhohhbkeaghnaa
theorem powerApart_holds : Rows.PowerApartSaid := S1.proved3
#print axioms powerApart_holds
end Go.Proofs.Ythhohhbkeaghnaa
