/-
  What is owed of the seat's program, asked once: its annotation fits.
-/
import Derived.Test.YteeclgeoconekaaEvFits
import Derived.Test.YteeclgeoconekaaEvAnn
import Derived.KernelRfl
namespace Go.Proofs.Yteeclgeoconekaa
open Go.Ev
theorem evMixed : Try.prog.follows .mixedOrders = true := by kernel_rfl
theorem evEqs : EvA.eqs.all (eqRowOk Try.prog) = true := by kernel_rfl
theorem evFns : (List.range Try.prog.funcs.size).all (fnOk Try.prog EvA) = true := by kernel_rfl
theorem evFits : Fits Try.prog EvA := fits_of evMixed evEqs evFns
end Go.Proofs.Yteeclgeoconekaa
