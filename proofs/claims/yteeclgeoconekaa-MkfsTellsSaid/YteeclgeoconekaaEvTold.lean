/-
  Oracles put together: what is told of one function more; told functions beside those that are gone through.
-/
import Derived.Test.YteeclgeoconekaaEvPat
namespace Go.Ev
variable {P : Program}

/-- One function more is told. -/
def moreT (f : FuncId) (s : List Value → Mem → Nat → Option (Value × Mem)) (T : CallFn) : CallFn := fun f' args M wall => cond (Nat.beq f' f) (s args M wall) (T f' args M wall)

theorem good_moreT {f : FuncId} {s : List Value → Mem → Nat → Option (Value × Mem)} {T : CallFn} (hT : CallGood P T)
    (h : ∀ args M wall R, s args M wall = some R → ∃ T', CallGood P T' ∧ T' f args M wall = some R) : CallGood P (moreT f s T) := by
  refine good_of fun f' args M wall R e => ?_
  simp only [moreT] at e
  cases hb : Nat.beq f' f
  · rw [hb] at e; exact ⟨T, hT, e⟩
  · rw [hb] at e
    obtain rfl := Nat.eq_of_beq_eq_true hb
    exact h args M wall R e

/-- Told functions are told, others gone through. -/
def evO (P : Program) (A : Ann) (T : CallFn) (told : FuncId → Bool) : Nat → CallFn
  | 0, f, args, M, wall => T f args M wall
  | k + 1, f, args, M, wall => cond (told f) (T f args M wall)
    (match P.funcs[f]? with
    | none => none
    | some fn => match fn.body with
      | none => none
      | some c => evC P A.E A.q (A.reg f) (evO P A T told k) wall k c (start fn args) M (retK P fn))

theorem good_evO {A : Ann} (hf : Fits P A) {T : CallFn} (hT : CallGood P T) (told : FuncId → Bool) : ∀ k, CallGood P (evO P A T told k)
  | 0 => good_of fun f args M wall R e => ⟨T, hT, e⟩
  | k + 1 => good_of fun f args M wall R e => by
    simp only [evO] at e
    cases h : told f
    · rw [h] at e
      exact ⟨_, good_body hf (good_evO hf hT told k) k, e⟩
    · rw [h] at e
      exact ⟨T, hT, e⟩


/-- Two oracles, parted by functions. -/
def pickT (p : FuncId → Bool) (S T : CallFn) : CallFn := fun f args M wall => cond (p f) (S f args M wall) (T f args M wall)
theorem good_pickT {p : FuncId → Bool} {S T : CallFn} (hS : CallGood P S) (hT : CallGood P T) : CallGood P (pickT p S T) :=
  good_of fun f args M wall R e => by
    simp only [pickT] at e
    cases h : p f
    · rw [h] at e; exact ⟨T, hT, e⟩
    · rw [h] at e; exact ⟨S, hS, e⟩

end Go.Ev
