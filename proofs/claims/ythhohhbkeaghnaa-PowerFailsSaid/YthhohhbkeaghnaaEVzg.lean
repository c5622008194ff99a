/- A deterministic evaluator of the model's code over a memory of its own: the rules' name. -/
import Derived.Test.YthhohhbkeaghnaaEVzf
import Derived.Attr
set_option linter.unusedSimpArgs false
set_option linter.unusedVariables false
set_option linter.unusedSectionVars false
