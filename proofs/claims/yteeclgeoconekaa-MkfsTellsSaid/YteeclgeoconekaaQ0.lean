/-
  The annotation with nothing swept fits the program.
-/
import Derived.Test.YteeclgeoconekaaEvOk
import Derived.Test.YteeclgeoconekaaEvB
namespace Go.Proofs.Yteeclgeoconekaa
open Go.Ev

/-- The annotation, with nothing swept. -/
def EvN : Ann := { E := EvA.E, q := EvA.q, reg := fun f id => cond (Nat.ble 65536 id) {} (EvA.reg f id) }
theorem evFnsN : (List.range Try.prog.funcs.size).all (fnOk Try.prog EvN) = true := by kernel_rfl
theorem evFitsN : Fits Try.prog EvN := fits_of evMixed evEqs evFnsN
noncomputable abbrev bn (CK : CallC) (L : LoopB) (f : FuncId) (args : List Value) (M : Mem) (wall : Nat) (κ : Value × Mem → Ret) : Ret := bodyB Try.prog EvN CK L f args M wall κ

end Go.Proofs.Yteeclgeoconekaa
