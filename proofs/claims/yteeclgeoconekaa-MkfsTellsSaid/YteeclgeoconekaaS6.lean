/-
  The closed call of awake returns true.
-/
import Derived.Test.YteeclgeoconekaaS5
namespace Go.Proofs.Yteeclgeoconekaa
open Go.Ev

noncomputable abbrev V1 : CallFn := pickT isSum U1 T5
theorem goodV1 : CallGood Try.prog V1 := good_pickT goodU1 good5
abbrev toldV1 (f : FuncId) : Bool := isSum f || (Nat.beq f 7 || Nat.beq f 8 || Nat.beq f 9 || Nat.beq f 10 || Nat.beq f 11)
theorem r12 : (evO Try.prog EvA V1 toldV1 200 12 [] [] 0).map Prod.fst = some (B true) := by kernel_rfl

def ret0 (v : Value) : List Value → Option Value
  | [] => some v
  | _ => none
theorem more0 {f : FuncId} {v : Value} {g : FuncId → List Value → Option Value} (hg : CallGood Try.prog (scal g)) (hv : flatR v = true)
    {S : CallFn} (hS : CallGood Try.prog S) (h : (S f [] [] 0).map Prod.fst = some v) : CallGood Try.prog (scal (more f (ret0 v) g)) := by
  refine good_of fun f' args M wall R e => ?_
  simp only [scal, more, Option.bind_eq_some_iff, Option.some.injEq] at e
  obtain ⟨u, hu, rfl⟩ := e
  cases hb : Nat.beq f' f
  · rw [hb] at hu
    exact ⟨_, hg, by simp only [scal]; rw [show g f' args = some u from hu]; rfl⟩
  · rw [hb] at hu
    obtain rfl := Nat.eq_of_beq_eq_true hb
    simp only [cond_true] at hu
    unfold ret0 at hu
    split at hu
    · cases hu
      simp only [Option.map_eq_some_iff] at h
      obtain ⟨⟨u, M1⟩, h1, rfl⟩ := h
      exact ⟨_, good_loc hS, loc_flat rfl hv h1 M wall⟩
    · cases hu


def g6 : FuncId → List Value → Option Value := more 12 (ret0 (B true)) g5
abbrev T6 : CallFn := scal g6
theorem good6 : CallGood Try.prog T6 := more0 good5 rfl (good_evO evFits goodV1 toldV1 200) r12
end Go.Proofs.Yteeclgeoconekaa
