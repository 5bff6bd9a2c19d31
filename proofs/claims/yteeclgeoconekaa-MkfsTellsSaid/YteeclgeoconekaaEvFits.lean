/-
  What is owed of a program, checked by one closed run.
-/
import Derived.Test.YteeclgeoconekaaEvSound
import Derived.Test.YteeclgeoconekaaEvEq
namespace Go.Ev
variable {P : Program}

def ckEq : CK → CK → Bool
  | .int .i8, .int .i8 | .int .i16, .int .i16 | .int .i32, .int .i32 | .int .i64, .int .i64 | .int .u8, .int .u8 | .int .u16, .int .u16 | .int .u32, .int .u32 | .int .u64, .int .u64 => true
  | .bool, .bool => true
  | .str, .str => true
  | _, _ => false
theorem ckEq_eq {a b : CK} (h : ckEq a b = true) : a = b := by
  cases a with
  | int k => cases b with
    | int k' => cases k <;> cases k' <;> first | rfl | cases h
    | bool => cases k <;> cases h
    | str => cases k <;> cases h
  | bool => cases b <;> first | rfl | cases h
  | str => cases b <;> first | rfl | cases h
def ckEqs : List CK → List CK → Bool
  | [], [] => true
  | a :: as, b :: bs => ckEq a b && ckEqs as bs
  | _, _ => false
theorem ckEqs_eq : ∀ {a b : List CK}, ckEqs a b = true → a = b := by
  intro a
  induction a with
  | nil => intro b h; cases b with
    | nil => rfl
    | cons => cases h
  | cons x a ih => intro b h; cases b with
    | nil => cases h
    | cons y b =>
      simp only [ckEqs, Bool.and_eq_true] at h
      rw [ckEq_eq h.1, ih h.2]

def eqRowOk (P : Program) (row : Nat × List CK) : Bool :=
  (match eqKinds P 20 row.1 with | some ks => ckEqs ks row.2 | none => false) && (match tyAgg P row.1 with | some b => b | none => false) && !(P.eqGuardType P.depth row.1)

def fnOk (P : Program) (A : Ann) (f : Nat) : Bool :=
  match P.funcs[f]? with
  | some fn => !(fn.name == "runtime.NumGoroutine") && (match fn.body with | some c => plansOk P A.q (A.reg f) c | none => true)
  | none => true

theorem lookup_mem {α : Type} : ∀ {l : List (Nat × α)} {t : Nat} {v : α}, l.lookup t = some v → (t, v) ∈ l := by
  intro l
  induction l with
  | nil => intro t v h; cases h
  | cons p l ih =>
    intro t v h
    obtain ⟨a, b⟩ := p
    simp only [List.lookup] at h
    split at h
    · rename_i e
      cases h
      have : t = a := by simpa using e
      subst this
      exact List.mem_cons_self
    · exact List.mem_cons_of_mem _ (ih h)

theorem fits_of {rows : List (Nat × List CK)} {q : FuncId → Bool} {reg : FuncId → Nat → RAnn} (hm : P.follows .mixedOrders = true) (he : rows.all (eqRowOk P) = true)
    (hf : (List.range P.funcs.size).all (fnOk P { E := fun t => rows.lookup t, q, reg }) = true) : Fits P { E := fun t => rows.lookup t, q, reg } where
  eqs := eqOk_of fun t ks h => by
    have := List.all_eq_true.mp he _ (lookup_mem h)
    simp only [eqRowOk, Bool.and_eq_true, Bool.not_eq_true'] at this
    obtain ⟨⟨h1, h2⟩, h3⟩ := this
    refine ⟨?_, ?_, h3⟩
    · split at h1
      · rename_i e; rw [e, ckEqs_eq h1]
      · cases h1
    · split at h2
      · rename_i e; rw [e, h2]
      · cases h2
  mixed := hm
  names := fun f fn h => by
    have hlt : f < P.funcs.size := by
      rcases Nat.lt_or_ge f P.funcs.size with h' | h'
      · exact h'
      · rw [Array.getElem?_eq_none h'] at h; cases h
    have := List.all_eq_true.mp hf f (List.mem_range.mpr hlt)
    simp only [fnOk, h, Bool.and_eq_true, Bool.not_eq_true'] at this
    exact this.1
  plans := fun f fn c h hc => by
    have hlt : f < P.funcs.size := by
      rcases Nat.lt_or_ge f P.funcs.size with h' | h'
      · exact h'
      · rw [Array.getElem?_eq_none h'] at h; cases h
    have := List.all_eq_true.mp hf f (List.mem_range.mpr hlt)
    simp only [fnOk, h, hc, Bool.and_eq_true, Bool.not_eq_true'] at this
    exact this.2

end Go.Ev
