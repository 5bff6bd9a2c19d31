/-
  The law MkfsFits, run, for any two integers.
-/
import Derived.Test.YteeclgeoconekaaS6
namespace Go.Proofs.Yteeclgeoconekaa
open Go.Ev

/- Low, inlined -/
abbrev low (x n : Int) : Int := wr ((IntKind.u64.wrap x).tmod (IntKind.u64.wrap n))
abbrev min2 (a b : Int) : Int := if b < a then b else a
abbrev max2 (a b : Int) : Int := if a < b then b else a
abbrev told7 (f : FuncId) : Bool := Nat.beq f 7 || Nat.beq f 8 || Nat.beq f 9 || Nat.beq f 10 || Nat.beq f 11 || Nat.beq f 12
abbrev sectorsT (q : T3i) : Int := sectors q.1 q.2.1 q.2.2
abbrev mayT (q : T3i) : Bool := may q.1 q.2.1 q.2.2
abbrev eq3 (p q : T3i) : Bool := (p.1 == q.1) && ((p.2.1 == q.2.1) && ((p.2.2 == q.2.2) && true))
abbrev eq0 (p : T3i) : Bool := (p.1 == 0) && ((p.2.1 == 0) && ((p.2.2 == 0) && true))
theorem r3 (n m : Int) : evO Try.prog EvA T6 told7 10 3 [I n, I m] [] 0 =
    (cond (eq3 (fitF (min2 (low n 1000) (low m 1000))) (refFitF (min2 (low n 1000) (low m 1000))))
      (cond (decide (blocksT (fitF (min2 (low n 1000) (low m 1000))) ≤ blocksT (fitF (max2 (low n 1000) (low m 1000)))))
        (cond (decide (sectorsT (fitF (max2 (low n 1000) (low m 1000))) ≤ max2 (low n 1000) (low m 1000)))
          (cond (eq0 (fitF (min2 (low n 1000) (low m 1000))))
            (some (B true, [gbT (fitF (min2 (low n 1000) (low m 1000))), gbT (fitF (max2 (low n 1000) (low m 1000)))]))
            (cond (mayT (fitF (min2 (low n 1000) (low m 1000))))
              (some (B true, [gbT (fitF (min2 (low n 1000) (low m 1000))), gbT (fitF (max2 (low n 1000) (low m 1000)))]))
              (some (B false, [gbT (fitF (min2 (low n 1000) (low m 1000))), gbT (fitF (max2 (low n 1000) (low m 1000)))]))))
          (some (B false, [gbT (fitF (min2 (low n 1000) (low m 1000))), gbT (fitF (max2 (low n 1000) (low m 1000)))])))
        (some (B false, [gbT (fitF (min2 (low n 1000) (low m 1000))), gbT (fitF (max2 (low n 1000) (low m 1000)))])))
      (some (B false, [gbT (fitF (min2 (low n 1000) (low m 1000))), gbT (fitF (max2 (low n 1000) (low m 1000)))]))) := by kernel_rfl
end Go.Proofs.Yteeclgeoconekaa
