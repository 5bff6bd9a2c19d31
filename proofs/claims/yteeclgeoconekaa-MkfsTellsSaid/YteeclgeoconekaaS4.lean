/-
  The reference Fit, run: its three loops, for any integer.
-/
import Derived.Test.YteeclgeoconekaaS3
namespace Go.Proofs.Yteeclgeoconekaa
open Go.Ev

def stepB (s n i b : Int) (u : T3i) : T3i := cond (decide (sectors n i b ≤ s)) (cond (u.1 == 0) (n, i, b) (cond (better n i b u.1 u.2.1 u.2.2) (n, i, b) u)) u
def fitB (s n i : Int) : Nat → T3i → T3i
  | 0, u => u
  | m + 1, u => fitB s n i m (stepB s n i (97 - (m + 1 : Nat)) u)
abbrev k8i (s n i x y z : Int) (u : T3i) (κ : Kont) : Ret := κ (.exit 4) (mk 41 [(0, I s), (2, p 0), (3, p 1), (4, I n), (5, I i), (6, I 97), (17, I 97), (18, B false)]) [gb x y z, gbT u]

theorem l8i (k : Nat) (κ : Kont) (s n i x y z : Int) : ∀ (m fuel : Nat) (u : T3i), m ≤ 81 → m < fuel →
    loopN (fun r M κ => evc T4 k 8 (lp 8 2) r M κ) fuel (in8 s n i (97 - m)) [gb x y z, gbT u] κ = k8i s n i x y z (fitB s n i m u) κ := by
  intro m
  induction m with
  | zero =>
    intro fuel u _ hf
    obtain ⟨fuel, rfl⟩ : ∃ n, fuel = n + 1 := ⟨fuel - 1, by omega⟩
    simp only [loopN]
    rw [s8i]
    rfl
  | succ m ih =>
    intro fuel u hm hf
    obtain ⟨fuel, rfl⟩ : ∃ n, fuel = n + 1 := ⟨fuel - 1, by omega⟩
    simp only [loopN]
    rw [s8i, show decide ((97 : Int) - (m + 1 : Nat) ≤ 96) = true from by simp; omega]
    rw [wr_id (by omega) (by omega), show (97 - (m + 1 : Nat) : Int) + 1 = 97 - (m : Nat) from by omega]
    simp only [cond_true, fitB]
    have e1 := ih fuel u (by omega) (by omega)
    have e2 := ih fuel (n, i, (97 - (m + 1 : Nat))) (by omega) (by omega)
    simp only [stepB]
    cases decide (sectors n i (97 - (m + 1 : Nat)) ≤ s)
    · exact e1
    · cases (u.1 == 0)
      · cases better n i (97 - (m + 1 : Nat)) u.1 u.2.1 u.2.2
        · exact e1
        · exact e2
      · exact e2

def g8i : List Value → List Value → Option (Kont → Ret)
  | [.int .i64 s, .int .i64 n, .int .i64 i, .int .i64 b], [.int .i64 x, .int .i64 y, .int .i64 z, .int .i64 u, .int .i64 v, .int .i64 w] => cond (b == 16) (some (k8i s n i x y z (fitB s n i 81 (u, v, w)))) none
  | _, _ => none
def L8i : LoopFn := sumAt 9 (mkP 41 [(0, .hole), (2, .ptr 0), (3, .ptr 1), (4, .hole), (5, .hole), (6, .hole)]) [gP, gP] g8i noSum
theorem ok8i (k : Nat) (hk : 81 < k) : ∀ c'' ∈ [lp 8 2], ∀ id', firstReg c'' = some id' → ∀ r M g', L8i id' r M = some g' → ∀ κ R, g' κ = some R → loopN (fun r M κ => evc T4 k 8 c'' r M κ) k r M κ = some R := by
  refine Oks.cons (by kernel_rfl) ?_ (fun _ h => by cases h)
  intro a b g' h κ R hR
  unfold g8i at h
  split at h
  · rename_i s n i b x y z u v w
    cases hn : (b == 16)
    · rw [hn] at h; cases h
    · rw [hn] at h
      cases h
      obtain rfl : b = 16 := by simpa using hn
      rw [← l8i k κ s n i x y z 81 k (u, v, w) (Nat.le_refl _) hk] at hR
      exact hR
  · cases h

/- the loop over inodes -/
abbrev mid8 (s n i : Int) : List Value := mk 41 [(0, I s), (2, p 0), (3, p 1), (4, I n), (5, I i)]
theorem s8m (k : Nat) (κ : Kont) (s n i x y z u v w : Int) : evs T4 k 8 L8i (lp 8 1) (mid8 s n i) [gb x y z, gb u v w] κ =
    cond (decide (i ≤ 32)) (κ .norm (mid8 s n (wr (i + 4))) [gb x y z, gbT (fitB s n i 81 (u, v, w))]) (κ (.exit 2) (mk 41 [(0, I s), (2, p 0), (3, p 1), (4, I n), (5, I i), (13, I i), (14, B false)]) [gb x y z, gb u v w]) := by kernel_rfl
def fitI (s n : Int) : Nat → T3i → T3i
  | 0, u => u
  | m + 1, u => fitI s n m (fitB s n (36 - 4 * (m + 1 : Nat)) 81 u)
abbrev k8m (s n x y z : Int) (u : T3i) (κ : Kont) : Ret := κ (.exit 2) (mk 41 [(0, I s), (2, p 0), (3, p 1), (4, I n), (5, I 36), (13, I 36), (14, B false)]) [gb x y z, gbT u]
theorem ok8m (k : Nat) (hk : 81 < k) : Oks T4 k 8 L8i (lp 8 1) := by
  intro c' hc
  rw [show loopsOf (lp 8 1) = [lp 8 2] from by kernel_rfl] at hc
  exact ok8i k hk c' hc

theorem l8m (k : Nat) (hk : 81 < k) (κ : Kont) (s n x y z : Int) : ∀ (m fuel : Nat) (u : T3i), m ≤ 8 → m < fuel → ∀ R, k8m s n x y z (fitI s n m u) κ = some R →
    loopN (fun r M κ => evc T4 k 8 (lp 8 1) r M κ) fuel (mid8 s n (36 - 4 * m)) [gb x y z, gbT u] κ = some R := by
  intro m
  induction m with
  | zero =>
    intro fuel u _ hf R h
    obtain ⟨fuel, rfl⟩ : ∃ n, fuel = n + 1 := ⟨fuel - 1, by omega⟩
    simp only [loopN]
    refine evs_le (ok8m k hk) (KLe.refl _) ?_
    rw [s8m]
    exact h
  | succ m ih =>
    intro fuel u hm hf R h
    obtain ⟨fuel, rfl⟩ : ∃ n, fuel = n + 1 := ⟨fuel - 1, by omega⟩
    simp only [loopN]
    refine evs_le (ok8m k hk) (KLe.refl _) ?_
    rw [s8m, show decide ((36 : Int) - 4 * (m + 1 : Nat) ≤ 32) = true from by simp; omega]
    rw [wr_id (by omega) (by omega), show (36 - 4 * (m + 1 : Nat) : Int) + 4 = 36 - 4 * (m : Nat) from by omega]
    simp only [cond_true]
    exact ih fuel (fitB s n (36 - 4 * (m + 1 : Nat)) 81 u) (by omega) (by omega) R h

def g8m : List Value → List Value → Option (Kont → Ret)
  | [.int .i64 s, .int .i64 n, .int .i64 i], [.int .i64 x, .int .i64 y, .int .i64 z, .int .i64 u, .int .i64 v, .int .i64 w] => cond (i == 4) (some (k8m s n x y z (fitI s n 8 (u, v, w)))) none
  | _, _ => none
def L8m : LoopFn := sumAt 6 (mkP 41 [(0, .hole), (2, .ptr 0), (3, .ptr 1), (4, .hole), (5, .hole)]) [gP, gP] g8m L8i
theorem ok8mm (k : Nat) (hk : 81 < k) : ∀ c'' ∈ [lp 8 1, lp 8 2], ∀ id', firstReg c'' = some id' → ∀ r M g', L8m id' r M = some g' → ∀ κ R, g' κ = some R → loopN (fun r M κ => evc T4 k 8 c'' r M κ) k r M κ = some R := by
  refine Oks.cons (by kernel_rfl) ?_ ?_
  · intro a b g' h κ R hR
    unfold g8m at h
    split at h
    · rename_i s n i x y z u v w
      cases hn : (i == 4)
      · rw [hn] at h; cases h
      · rw [hn] at h
        cases h
        obtain rfl : i = 4 := by simpa using hn
        exact l8m k hk κ s n x y z 8 k (u, v, w) (Nat.le_refl _) (by omega) R hR
    · cases h
  · intro c'' hc'' id' hid'
    refine ⟨ok8i k hk c'' hc'' id' hid', ?_⟩
    rcases List.mem_singleton.1 hc'' with rfl
    rw [show firstReg (lp 8 2) = some 9 from by kernel_rfl] at hid'
    cases hid'
    decide

/- the loop over groups -/
abbrev out8 (s n : Int) : List Value := mk 41 [(0, I s), (2, p 0), (3, p 1), (4, I n)]
theorem s8o (k : Nat) (κ : Kont) (s n x y z u v w : Int) : evs T4 k 8 L8m (lp 8 0) (out8 s n) [gb x y z, gb u v w] κ =
    cond (decide (n ≤ 8)) (κ .norm (out8 s (wr (n + 1))) [gb x y z, gbT (fitI s n 8 (u, v, w))]) (κ (.exit 0) (mk 41 [(0, I s), (2, p 0), (3, p 1), (4, I n), (9, I n), (10, B false)]) [gb x y z, gb u v w]) := by kernel_rfl
def fitN (s : Int) : Nat → T3i → T3i
  | 0, u => u
  | m + 1, u => fitN s m (fitI s (9 - (m + 1 : Nat)) 8 u)
abbrev k8o (s x y z : Int) (u : T3i) (κ : Kont) : Ret := κ (.exit 0) (mk 41 [(0, I s), (2, p 0), (3, p 1), (4, I 9), (9, I 9), (10, B false)]) [gb x y z, gbT u]
theorem ok8o (k : Nat) (hk : 81 < k) : Oks T4 k 8 L8m (lp 8 0) := by
  intro c' hc
  rw [show loopsOf (lp 8 0) = [lp 8 1, lp 8 2] from by kernel_rfl] at hc
  exact ok8mm k hk c' hc
theorem l8o (k : Nat) (hk : 81 < k) (κ : Kont) (s x y z : Int) : ∀ (m fuel : Nat) (u : T3i), m ≤ 8 → m < fuel → ∀ R, k8o s x y z (fitN s m u) κ = some R →
    loopN (fun r M κ => evc T4 k 8 (lp 8 0) r M κ) fuel (out8 s (9 - m)) [gb x y z, gbT u] κ = some R := by
  intro m
  induction m with
  | zero =>
    intro fuel u _ hf R h
    obtain ⟨fuel, rfl⟩ : ∃ n, fuel = n + 1 := ⟨fuel - 1, by omega⟩
    simp only [loopN]
    refine evs_le (ok8o k hk) (KLe.refl _) ?_
    rw [s8o]
    exact h
  | succ m ih =>
    intro fuel u hm hf R h
    obtain ⟨fuel, rfl⟩ : ∃ n, fuel = n + 1 := ⟨fuel - 1, by omega⟩
    simp only [loopN]
    refine evs_le (ok8o k hk) (KLe.refl _) ?_
    rw [s8o, show decide ((9 : Int) - (m + 1 : Nat) ≤ 8) = true from by simp; omega]
    rw [wr_id (by omega) (by omega), show (9 - (m + 1 : Nat) : Int) + 1 = 9 - (m : Nat) from by omega]
    simp only [cond_true]
    exact ih fuel (fitI s (9 - (m + 1 : Nat)) 8 u) (by omega) (by omega) R h

def g8o : List Value → List Value → Option (Kont → Ret)
  | [.int .i64 s, .int .i64 n], [.int .i64 x, .int .i64 y, .int .i64 z, .int .i64 u, .int .i64 v, .int .i64 w] => cond (n == 1) (some (k8o s x y z (fitN s 8 (u, v, w)))) none
  | _, _ => none
def L8 : LoopFn := sumAt 3 (mkP 41 [(0, .hole), (2, .ptr 0), (3, .ptr 1), (4, .hole)]) [gP, gP] g8o L8m
theorem ok8 (k : Nat) (hk : 81 < k) : Oks T4 k 8 L8 (codeOf Try.prog 8) := by
  intro c' hc
  rw [show loopsOf (codeOf Try.prog 8) = [lp 8 0, lp 8 1, lp 8 2] from by kernel_rfl] at hc
  refine Oks.cons (by kernel_rfl) ?_ ?_ c' hc
  · intro a b g' h κ R hR
    unfold g8o at h
    split at h
    · rename_i s n x y z u v w
      cases hn : (n == 1)
      · rw [hn] at h; cases h
      · rw [hn] at h
        cases h
        obtain rfl : n = 1 := by simpa using hn
        exact l8o k hk κ s x y z 8 k (u, v, w) (Nat.le_refl _) (by omega) R hR
    · cases h
  · intro c'' hc'' id' hid'
    refine ⟨ok8mm k hk c'' hc'' id' hid', ?_⟩
    rcases List.mem_cons.1 hc'' with rfl | hc''
    · rw [show firstReg (lp 8 1) = some 6 from by kernel_rfl] at hid'
      cases hid'
      decide
    · rcases List.mem_singleton.1 hc'' with rfl
      rw [show firstReg (lp 8 2) = some 9 from by kernel_rfl] at hid'
      cases hid'
      decide

/-- ref20.Fit. -/
def refFitF (s : Int) : T3i := fitN s 8 (0, 0, 0)
theorem r8 (k : Nat) (s : Int) : bodyS Try.prog EvA T4 k L8 8 [I s] [] 0 = some (gvT (refFitF s), [gbT (refFitF s), gbT (refFitF s)]) := by kernel_rfl

def g5 : FuncId → List Value → Option Value := more 7 (on1 fun s => gvT (fitF s)) (more 8 (on1 fun s => gvT (refFitF s)) g4)
abbrev T5 : CallFn := scal g5
theorem good5 : CallGood Try.prog T5 :=
  more1 (more1 good4 (fun _ => by simp [flatR, flat, flat1]) T4 good4 100 fun s => ⟨_, bodyS_le (ok8 100 (by omega)) (r8 100 s)⟩) (fun _ => by simp [flatR, flat, flat1]) T4 good4 100 fun s => ⟨_, bodyS_le (ok7 100 (by omega)) (r7 100 s)⟩

end Go.Proofs.Yteeclgeoconekaa
