/-
  The empty record's sector and the sectors of inodes that a new image has: closed calls, told in any memory.
-/
import Derived.Test.YteeclgeoconekaaQ5
namespace Go.Proofs.Yteeclgeoconekaa
open Go.Ev

abbrev rec0 : Value := .agg #[B false, I 0, I 0, I 0, I 0, .string .empty, .string .empty]
abbrev is57 (f : FuncId) : Bool := Nat.beq f 57
def recL : List Value := List.replicate 59 Z8
theorem run32 : (evO Try.prog EvA (plainC C2) is57 200 32 [rec0] [] 0).bind (fun p => handOn Try.prog [] p.2 p.1 []) = some (.tuple #[.slice (some ⟨0, 0, none⟩) 128 128, I 0], [⟨sealRow 82 recL, 5, true⟩]) := by kernel_rfl
/-- Four inodes, as cells. -/
def cells4 (k l : Int) : List Value := I k :: I l :: List.replicate 42 (I 0)
def nodeL0 : List Value := [U8 2, U8 0, U8 1] ++ List.replicate 89 Z8
def nodeLZ : List Value := List.replicate 92 Z8
theorem run38a : (evO Try.prog EvA (plainC C2) is57 200 38 [.agg (cells4 2 1).toArray] [] 0).bind (fun p => handOn Try.prog [] p.2 p.1 []) = some (.tuple #[.slice (some ⟨0, 0, none⟩) 128 128, I 0], [⟨sealRow 73 nodeL0, 5, true⟩]) := by kernel_rfl
theorem run38b : (evO Try.prog EvA (plainC C2) is57 200 38 [.agg (cells4 0 0).toArray] [] 0).bind (fun p => handOn Try.prog [] p.2 p.1 []) = some (.tuple #[.slice (some ⟨0, 0, none⟩) 128 128, I 0], [⟨sealRow 73 nodeLZ, 5, true⟩]) := by kernel_rfl
end Go.Proofs.Yteeclgeoconekaa
