/-
  What is owed of the program, for the transformer.
-/
import Derived.Test.YteeclgeoconekaaEvOk
import Derived.Test.YteeclgeoconekaaEvV
namespace Go.Proofs.Yteeclgeoconekaa
open Go.Ev
theorem fitsW : FitsW Try.prog EvA := ⟨evFits.eqs, evFits.mixed⟩
end Go.Proofs.Yteeclgeoconekaa
