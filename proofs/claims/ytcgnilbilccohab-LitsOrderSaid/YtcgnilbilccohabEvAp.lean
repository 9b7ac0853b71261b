/- The evaluator Ev, part A, more: the code of the program's ranges over functions. -/
import Derived.Test.YtcgnilbilccohabProg
import Derived.Test.YtcgnilbilccohabEvA
namespace Go.Ev
open Go
set_option linter.unusedSimpArgs false
set_option linter.unusedVariables false

/-- Whose function's range over a function (known by its parameters) has what code. -/
noncomputable def codesOf (f : Nat) (ps : List Nat) : Option (Code × Code) := match Go.Proofs.Try.prog.funcs[f]? with
  | some fn => match fn.body with
    | some c => findRf ps (rfs c)
    | none => none
  | none => none

end Go.Ev
