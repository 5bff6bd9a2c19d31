/-
  The function Fit of mkfs, run, for any integer.
-/
import Derived.Test.YteeclgeoconekaaS2
namespace Go.Proofs.Yteeclgeoconekaa
open Go.Ev

def on2 (s : Int → Int → Value) : List Value → Option Value
  | [.int .i64 a, .int .i64 b] => some (s a b)
  | _ => none
def onGG (s : Int → Int → Int → Int → Int → Int → Value) : List Value → Option Value
  | [.agg xs, .agg ys] => match xs.toList, ys.toList with
    | [.int .i64 a, .int .i64 b, .int .i64 c], [.int .i64 a', .int .i64 b', .int .i64 c'] => some (s a b c a' b' c')
    | _, _ => none
  | _ => none
def on1 (s : Int → Value) : List Value → Option Value
  | [.int .i64 a] => some (s a)
  | _ => none

theorem more2 {f : FuncId} {s : Int → Int → Value} {g : FuncId → List Value → Option Value} (hg : CallGood Try.prog (scal g)) (hv : ∀ a b, flatR (s a b) = true)
    (T : CallFn) (hT : CallGood Try.prog T) (k : Nat) (h : ∀ a b, ∃ M1, run T k f [I a, I b] = some (s a b, M1)) : CallGood Try.prog (scal (more f (on2 s) g)) :=
  good_more hg fun args v e => by
    unfold on2 at e
    split at e
    · rename_i a b
      cases e
      obtain ⟨M1, h⟩ := h a b
      exact ⟨rfl, hv a b, T, k, M1, hT, h⟩
    · cases e

theorem more1 {f : FuncId} {s : Int → Value} {g : FuncId → List Value → Option Value} (hg : CallGood Try.prog (scal g)) (hv : ∀ a, flatR (s a) = true)
    (T : CallFn) (hT : CallGood Try.prog T) (k : Nat) (h : ∀ a, ∃ M1, run T k f [I a] = some (s a, M1)) : CallGood Try.prog (scal (more f (on1 s) g)) :=
  good_more hg fun args v e => by
    unfold on1 at e
    split at e
    · rename_i a
      cases e
      obtain ⟨M1, h⟩ := h a
      exact ⟨rfl, hv a, T, k, M1, hT, h⟩
    · cases e

theorem moreGG {f : FuncId} {s : Int → Int → Int → Int → Int → Int → Value} {g : FuncId → List Value → Option Value} (hg : CallGood Try.prog (scal g)) (hv : ∀ a b c a' b' c', flatR (s a b c a' b' c') = true)
    (T : CallFn) (hT : CallGood Try.prog T) (k : Nat) (h : ∀ a b c a' b' c', ∃ M1, run T k f [gv a b c, gv a' b' c'] = some (s a b c a' b' c', M1)) : CallGood Try.prog (scal (more f (onGG s) g)) :=
  good_more hg fun args v e => by
    unfold onGG at e
    split at e
    · rename_i xs ys
      split at e
      · rename_i a b c a' b' c' e1 e2
        cases e
        obtain rfl : xs = #[I a, I b, I c] := Array.ext' e1
        obtain rfl : ys = #[I a', I b', I c'] := Array.ext' e2
        obtain ⟨M1, h⟩ := h a b c a' b' c'
        exact ⟨by simp [flat, flat1], hv _ _ _ _ _ _, T, k, M1, hT, h⟩
      · cases e
    · cases e

def better (a b c a' b' c' : Int) : Bool := cond (blocks a b c != blocks a' b' c') (decide (blocks a' b' c' < blocks a b c)) (cond (inodes a b c != inodes a' b' c') (decide (inodes a' b' c' < inodes a b c)) (decide (a < a')))
theorem r28' (k : Nat) (a b c a' b' c' : Int) : ∃ M1, run T3 k 28 [gv a b c, gv a' b' c'] = some (B (better a b c a' b' c'), M1) := by
  rw [r28]
  unfold better
  cases (blocks a b c != blocks a' b' c') <;> cases (inodes a b c != inodes a' b' c') <;> exact ⟨_, rfl⟩

def g4 : FuncId → List Value → Option Value := more 25 (on2 fun s g => gv (fitsF s g).1 (fitsF s g).2.1 (fitsF s g).2.2) (more 28 (onGG fun a b c a' b' c' => B (better a b c a' b' c')) g3)
abbrev T4 : CallFn := scal g4
theorem good4 : CallGood Try.prog T4 :=
  more2 (moreGG good3 (fun _ _ _ _ _ _ => rfl) T3 good3 0 (r28' 0)) (fun _ _ => by simp [flatR, flat, flat1]) T3 good3 100 r25'

/- mkfs.Fit -/
abbrev in7 (s n : Int) : List Value := mk 37 [(0, I s), (2, p 0), (3, p 1), (4, I n)]
abbrev gbT (q : Int × Int × Int) : Blk := gb q.1 q.2.1 q.2.2
abbrev blocksT (q : Int × Int × Int) : Int := blocks q.1 q.2.1 q.2.2
abbrev inodesT (q : Int × Int × Int) : Int := inodes q.1 q.2.1 q.2.2
theorem s7 (k : Nat) (κ : Kont) (s n x y z u v w : Int) : evc T4 k 7 (lp 7 0) (in7 s n) [gb x y z, gb u v w] κ =
    cond (decide (n ≤ 8))
      (cond (decide (blocks (fitsF s n).1 (fitsF s n).2.1 (fitsF s n).2.2 < blocks u v w)) (κ .norm (in7 s (wr (n + 1))) [gb x y z, gb u v w])
        (cond (blocks (fitsF s n).1 (fitsF s n).2.1 (fitsF s n).2.2 == blocks u v w)
          (cond (decide (inodes (fitsF s n).1 (fitsF s n).2.1 (fitsF s n).2.2 ≤ inodes u v w)) (κ .norm (in7 s (wr (n + 1))) [gb x y z, gb u v w]) (κ .norm (in7 s (wr (n + 1))) [gb x y z, gb (fitsF s n).1 (fitsF s n).2.1 (fitsF s n).2.2]))
          (κ .norm (in7 s (wr (n + 1))) [gb x y z, gb (fitsF s n).1 (fitsF s n).2.1 (fitsF s n).2.2])))
      (κ (.exit 0) (mk 37 [(0, I s), (2, p 0), (3, p 1), (4, I n), (9, I n), (10, B false)]) [gb x y z, gb u v w]) := by kernel_rfl

abbrev T3i := Int × Int × Int
def step7 (s n : Int) (u : T3i) : T3i := cond (decide (blocksT (fitsF s n) < blocksT u)) u (cond (blocksT (fitsF s n) == blocksT u) (cond (decide (inodesT (fitsF s n) ≤ inodesT u)) u (fitsF s n)) (fitsF s n))
def fit7 (s : Int) : Nat → T3i → T3i
  | 0, u => u
  | m + 1, u => fit7 s m (step7 s (9 - (m + 1 : Nat)) u)
abbrev k7 (s x y z : Int) (u : T3i) (κ : Kont) : Ret := κ (.exit 0) (mk 37 [(0, I s), (2, p 0), (3, p 1), (4, I 9), (9, I 9), (10, B false)]) [gb x y z, gbT u]

theorem l7 (k : Nat) (κ : Kont) (s x y z : Int) : ∀ (m fuel : Nat) (u : T3i), m ≤ 8 → m < fuel →
    loopN (fun r M κ => evc T4 k 7 (lp 7 0) r M κ) fuel (in7 s (9 - m)) [gb x y z, gbT u] κ = k7 s x y z (fit7 s m u) κ := by
  intro m
  induction m with
  | zero =>
    intro fuel u _ hf
    obtain ⟨fuel, rfl⟩ : ∃ n, fuel = n + 1 := ⟨fuel - 1, by omega⟩
    simp only [loopN]
    rw [s7]
    rfl
  | succ m ih =>
    intro fuel u hm hf
    obtain ⟨fuel, rfl⟩ : ∃ n, fuel = n + 1 := ⟨fuel - 1, by omega⟩
    simp only [loopN]
    rw [s7, show decide ((9 : Int) - (m + 1 : Nat) ≤ 8) = true from by simp; omega]
    rw [wr_id (by omega) (by omega), show (9 - (m + 1 : Nat) : Int) + 1 = 9 - (m : Nat) from by omega]
    simp only [cond_true, fit7]
    have e1 := ih fuel u (by omega) (by omega)
    have e2 := ih fuel (fitsF s (9 - (m + 1 : Nat))) (by omega) (by omega)
    simp only [step7]
    cases h1 : decide (blocksT (fitsF s (9 - (m + 1 : Nat))) < blocksT u)
    ·
      cases h2 : (blocksT (fitsF s (9 - (m + 1 : Nat))) == blocksT u)
      · exact e2
      ·
        cases h3 : decide (inodesT (fitsF s (9 - (m + 1 : Nat))) ≤ inodesT u)
        · exact e2
        · exact e1
    · exact e1

def g7 : List Value → List Value → Option (Kont → Ret)
  | [.int .i64 s, .int .i64 n], [.int .i64 x, .int .i64 y, .int .i64 z, .int .i64 u, .int .i64 v, .int .i64 w] => cond (n == 1) (some (k7 s x y z (fit7 s 8 (u, v, w)))) none
  | _, _ => none
def L7 : LoopFn := sumAt 3 (mkP 37 [(0, .hole), (2, .ptr 0), (3, .ptr 1), (4, .hole)]) [gP, gP] g7 noSum
theorem ok7 (k : Nat) (hk : 8 < k) : Oks T4 k 7 L7 (codeOf Try.prog 7) := by
  intro c' hc
  rw [show loopsOf (codeOf Try.prog 7) = [lp 7 0] from by kernel_rfl] at hc
  refine Oks.cons (by kernel_rfl) ?_ (fun _ h => by cases h) c' hc
  intro a b g' h κ R hR
  unfold g7 at h
  split at h
  · rename_i s n x y z u v w
    cases hn : (n == 1)
    · rw [hn] at h; cases h
    · rw [hn] at h
      cases h
      obtain rfl : n = 1 := by simpa using hn
      rw [← l7 k κ s x y z 8 k (u, v, w) (Nat.le_refl _) hk] at hR
      exact hR
  · cases h

/-- mkfs.Fit. -/
def fitF (s : Int) : T3i := fit7 s 8 (0, 0, 0)
abbrev gvT (q : T3i) : Value := gv q.1 q.2.1 q.2.2
theorem r7 (k : Nat) (s : Int) : bodyS Try.prog EvA T4 k L7 7 [I s] [] 0 = some (gvT (fitF s), [gbT (fitF s), gbT (fitF s)]) := by kernel_rfl

/- ref20.Fit -/
abbrev in8 (s n i b : Int) : List Value := mk 41 [(0, I s), (2, p 0), (3, p 1), (4, I n), (5, I i), (6, I b)]
theorem s8i (k : Nat) (κ : Kont) (s n i b x y z u v w : Int) : evc T4 k 8 (lp 8 2) (in8 s n i b) [gb x y z, gb u v w] κ =
    cond (decide (b ≤ 96))
      (cond (decide (sectors n i b ≤ s)) (cond (u == 0) (κ .norm (in8 s n i (wr (b + 1))) [gb x y z, gb n i b])
        (cond (better n i b u v w) (κ .norm (in8 s n i (wr (b + 1))) [gb x y z, gb n i b]) (κ .norm (in8 s n i (wr (b + 1))) [gb x y z, gb u v w])))
        (κ .norm (in8 s n i (wr (b + 1))) [gb x y z, gb u v w]))
      (κ (.exit 4) (mk 41 [(0, I s), (2, p 0), (3, p 1), (4, I n), (5, I i), (6, I b), (17, I b), (18, B false)]) [gb x y z, gb u v w]) := by kernel_rfl

end Go.Proofs.Yteeclgeoconekaa
