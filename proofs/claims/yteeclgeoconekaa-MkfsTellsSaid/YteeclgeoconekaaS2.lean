/-
  The function fits of mkfs, run: its two loops, for any integers.
-/
import Derived.Test.YteeclgeoconekaaS1
import Derived.Test.YteeclgeoconekaaEvPat
import Derived.IntWalk
namespace Go.Proofs.Yteeclgeoconekaa
open Go.Ev

abbrev p (b : Nat) : Value := .pointer (some ⟨b, 0, none⟩)
noncomputable abbrev evc (T : CallFn) (k f : Nat) (c : Code) (r : List Value) (M : Mem) (κ : Kont) : Ret := evC Try.prog EvA.E EvA.q (EvA.reg f) T 0 k c r M (backK (headLive (EvA.reg f) c) κ)
noncomputable abbrev evs (T : CallFn) (k f : Nat) (L : LoopFn) (c : Code) (r : List Value) (M : Mem) (κ : Kont) : Ret := evS Try.prog EvA.E EvA.q (EvA.reg f) T 0 k L c r M (backK (headLive (EvA.reg f) c) κ)
noncomputable def lp (f i : Nat) : Code := (loopsOf (codeOf Try.prog f)).getD i .skip
abbrev Oks (T : CallFn) (k f : Nat) (L : LoopFn) (c : Code) : Prop := LoopsOk Try.prog EvA.E EvA.q (EvA.reg f) T 0 k L c

theorem wr_id {x : Int} (h : -9223372036854775808 ≤ x) (h' : x ≤ 9223372036854775807) : wr x = x := Go.IntWalk.i64_in x ⟨h, h'⟩

/-- One round, loops within it told ahead. -/
theorem evs_le {T : CallFn} {k f : Nat} {L : LoopFn} {c : Code} (hl : Oks T k f L c) {r : List Value} {M : Mem} {κ κ' : Kont} (hk : KLe κ κ') {R : Value × Mem} (h : evs T k f L c r M κ = some R) : evc T k f c r M κ' = some R :=
  evS_le c hl r M _ _ (backK_le hk) R h

theorem Oks.nil {T : CallFn} {k f : Nat} {L : LoopFn} {c : Code} (h : loopsOf c = []) : Oks T k f L c := by
  intro c' hc
  rw [h] at hc
  cases hc

/-- A summary more. -/
theorem Oks.cons {T : CallFn} {k f : Nat} {L : LoopFn} {cs : List Code} {c' : Code} {id : Nat} {rp : List Pt} {mp : List MPt} {g : List Value → List Value → Option (Kont → Ret)}
    (hid : firstReg c' = some id)
    (hg : ∀ a b g', g a b = some g' → ∀ κ R, g' κ = some R → loopN (fun r M κ => evc T k f c' r M κ) k (plug rp a) (plugM mp b) κ = some R)
    (hcs : ∀ c'' ∈ cs, ∀ id', firstReg c'' = some id' → (∀ r M g', L id' r M = some g' → ∀ κ R, g' κ = some R → loopN (fun r M κ => evc T k f c'' r M κ) k r M κ = some R) ∧ id' ≠ id) :
    ∀ c'' ∈ c' :: cs, ∀ id', firstReg c'' = some id' → ∀ r M g', sumAt id rp mp g L id' r M = some g' → ∀ κ R, g' κ = some R → loopN (fun r M κ => evc T k f c'' r M κ) k r M κ = some R := by
  intro c'' hc id' hid' r M g' h κ R hR
  unfold sumAt at h
  rcases List.mem_cons.1 hc with rfl | hc
  · rw [hid] at hid'
    cases hid'
    simp only [Nat.beq_refl, cond_true] at h
    split at h
    · rename_i q hq
      obtain ⟨rfl, rfl⟩ := fitS_plug (a := q.1) (b := q.2) hq
      exact hg _ _ _ h κ R hR
    · cases h
  · obtain ⟨h1, h2⟩ := hcs c'' hc id' hid'
    have : Nat.beq id' id = false := by
      cases e : Nat.beq id' id
      · rfl
      · exact absurd (Nat.eq_of_beq_eq_true e) h2
    rw [this] at h
    exact h1 _ _ _ h κ R hR

/- mkfs.fits -/
abbrev in25 (s g b n : Int) : List Value := mk 28 [(0, I s), (1, I g), (4, p 0), (5, p 1), (6, I b), (7, I n)]
abbrev hit25 (g b n : Int) : List Value := mk 28 [(4, p 0), (5, p 1), (8, p 2), (26, gv g n b)]
abbrev hitM25 (g b n x y z : Int) : Mem := [gb x y z, gb g n b, gb g n b]
theorem s25i (k : Nat) (κ : Kont) (s g b n x y z x' y' z' : Int) : evc T3 k 25 (lp 25 1) (in25 s g b n) [gb x y z, gb x' y' z'] κ =
    cond (decide (4 ≤ n)) (cond (decide (s < sectors g n b)) (κ .norm (in25 s g b (wr (n - 4))) [gb x y z, gb x' y' z'])
      (κ (.exit 0) (hit25 g b n) (hitM25 g b n x y z)))
      (κ (.exit 2) (mk 28 [(0, I s), (1, I g), (4, p 0), (5, p 1), (6, I b), (7, I n), (14, I n), (15, B false)]) [gb x y z, gb x' y' z']) := by kernel_rfl

def in25f (s g b : Int) : Nat → Option Int
  | 0 => none
  | m + 1 => cond (decide (s < sectors g (4 * (m + 1 : Nat)) b)) (in25f s g b m) (some (4 * (m + 1 : Nat)))

abbrev in25k (s g b x y z x' y' z' : Int) (m : Nat) (κ : Kont) : Ret := optK (in25f s g b m) (fun n => κ (.exit 0) (hit25 g b n) (hitM25 g b n x y z))
  (κ (.exit 2) (mk 28 [(0, I s), (1, I g), (4, p 0), (5, p 1), (6, I b), (7, I 0), (14, I 0), (15, B false)]) [gb x y z, gb x' y' z'])

theorem l25i (k : Nat) (κ : Kont) (s g b x y z x' y' z' : Int) : ∀ (m fuel : Nat), m ≤ 8 → m < fuel →
    loopN (fun r M κ => evc T3 k 25 (lp 25 1) r M κ) fuel (in25 s g b (4 * m)) [gb x y z, gb x' y' z'] κ = in25k s g b x y z x' y' z' m κ := by
  intro m
  induction m with
  | zero =>
    intro fuel _ hf
    obtain ⟨fuel, rfl⟩ : ∃ n, fuel = n + 1 := ⟨fuel - 1, by omega⟩
    simp only [loopN]
    rw [s25i]
    rfl
  | succ m ih =>
    intro fuel hm hf
    obtain ⟨fuel, rfl⟩ : ∃ n, fuel = n + 1 := ⟨fuel - 1, by omega⟩
    simp only [loopN]
    rw [s25i, show decide ((4 : Int) ≤ 4 * (m + 1 : Nat)) = true from by simp; omega]
    rw [wr_id (by omega) (by omega), show (4 * (m + 1 : Nat) : Int) - 4 = 4 * (m : Nat) from by omega]
    simp only [cond_true]
    rw [ih fuel (by omega) (by omega)]
    simp only [in25k, in25f]
    cases decide (s < sectors g (4 * (m + 1 : Nat)) b) <;> rfl

def g25i : List Value → List Value → Option (Kont → Ret)
  | [.int .i64 s, .int .i64 g, .int .i64 b, .int .i64 n], [.int .i64 x, .int .i64 y, .int .i64 z, .int .i64 x', .int .i64 y', .int .i64 z'] => cond (n == 32) (some (in25k s g b x y z x' y' z' 8)) none
  | _, _ => none
abbrev gP : MPt := .cells [.hole, .hole, .hole] 24
def L25i : LoopFn := sumAt 6 (mkP 28 [(0, .hole), (1, .hole), (4, .ptr 0), (5, .ptr 1), (6, .hole), (7, .hole)]) [gP, gP] g25i noSum

theorem ok25i (k : Nat) (hk : 8 < k) : ∀ c'' ∈ [lp 25 1], ∀ id', firstReg c'' = some id' → ∀ r M g', L25i id' r M = some g' → ∀ κ R, g' κ = some R → loopN (fun r M κ => evc T3 k 25 c'' r M κ) k r M κ = some R := by
  refine Oks.cons (by kernel_rfl) ?_ (fun _ h => by cases h)
  intro a b g' h κ R hR
  unfold g25i at h
  split at h
  · rename_i s g b n x y z x' y' z'
    cases hn : (n == 32)
    · rw [hn] at h; cases h
    · rw [hn] at h
      cases h
      obtain rfl : n = 32 := by simpa using hn
      rw [← l25i k κ s g b x y z x' y' z' 8 k (Nat.le_refl _) hk] at hR
      exact hR
  · cases h

abbrev out25 (s g b : Int) : List Value := mk 28 [(0, I s), (1, I g), (4, p 0), (5, p 1), (6, I b)]
theorem s25o (k : Nat) (κ : Kont) (s g b x y z x' y' z' : Int) : evs T3 k 25 L25i (lp 25 0) (out25 s g b) [gb x y z, gb x' y' z'] κ =
    cond (decide (16 ≤ b)) (optK (in25f s g b 8) (fun n => κ (.exit 0) (hit25 g b n) (hitM25 g b n x y z)) (κ .norm (out25 s g (wr (b - 1))) [gb x y z, gb x' y' z']))
      (κ (.exit 0) (mk 28 [(0, I s), (1, I g), (4, p 0), (5, p 1), (6, I b), (10, I b), (11, B false)]) [gb x y z, gb x' y' z']) := by kernel_rfl

def out25f (s g : Int) : Nat → Option (Int × Int)
  | 0 => none
  | j + 1 => optK (in25f s g (15 + (j + 1 : Nat)) 8) (fun n => some (n, 15 + (j + 1 : Nat))) (out25f s g j)
abbrev out25k (s g x y z x' y' z' : Int) (j : Nat) (κ : Kont) : Ret := optK (out25f s g j) (fun q => κ (.exit 0) (hit25 g q.2 q.1) (hitM25 g q.2 q.1 x y z))
  (κ (.exit 0) (mk 28 [(0, I s), (1, I g), (4, p 0), (5, p 1), (6, I 15), (10, I 15), (11, B false)]) [gb x y z, gb x' y' z'])

theorem ok25in (k : Nat) (hk : 8 < k) : Oks T3 k 25 L25i (lp 25 0) := by
  intro c' hc
  rw [show loopsOf (lp 25 0) = [lp 25 1] from by kernel_rfl] at hc
  exact ok25i k hk c' hc

theorem l25o (k : Nat) (hk : 8 < k) (κ : Kont) (s g x y z x' y' z' : Int) : ∀ (j fuel : Nat), j ≤ 81 → j < fuel → ∀ R, out25k s g x y z x' y' z' j κ = some R →
    loopN (fun r M κ => evc T3 k 25 (lp 25 0) r M κ) fuel (out25 s g (15 + j)) [gb x y z, gb x' y' z'] κ = some R := by
  intro j
  induction j with
  | zero =>
    intro fuel _ hf R h
    obtain ⟨fuel, rfl⟩ : ∃ n, fuel = n + 1 := ⟨fuel - 1, by omega⟩
    simp only [loopN]
    refine evs_le (ok25in k hk) (KLe.refl _) ?_
    rw [s25o]
    exact h
  | succ j ih =>
    intro fuel hj hf R h
    obtain ⟨fuel, rfl⟩ : ∃ n, fuel = n + 1 := ⟨fuel - 1, by omega⟩
    simp only [loopN]
    refine evs_le (ok25in k hk) (KLe.refl _) ?_
    rw [s25o, show decide ((16 : Int) ≤ 15 + (j + 1 : Nat)) = true from by simp; omega]
    rw [wr_id (by omega) (by omega), show (15 + (j + 1 : Nat) : Int) - 1 = 15 + (j : Nat) from by omega]
    simp only [cond_true]
    simp only [out25k, out25f] at h
    cases hi : in25f s g (15 + (j + 1 : Nat)) 8 with
    | none => rw [hi] at h; exact ih fuel (by omega) (by omega) R h
    | some n => rw [hi] at h; exact h

def g25o : List Value → List Value → Option (Kont → Ret)
  | [.int .i64 s, .int .i64 g, .int .i64 b], [.int .i64 x, .int .i64 y, .int .i64 z, .int .i64 x', .int .i64 y', .int .i64 z'] => cond (b == 96) (some (out25k s g x y z x' y' z' 81)) none
  | _, _ => none
def L25 : LoopFn := sumAt 3 (mkP 28 [(0, .hole), (1, .hole), (4, .ptr 0), (5, .ptr 1), (6, .hole)]) [gP, gP] g25o L25i

theorem ok25 (k : Nat) (hk : 81 < k) : Oks T3 k 25 L25 (codeOf Try.prog 25) := by
  intro c' hc
  rw [show loopsOf (codeOf Try.prog 25) = [lp 25 0, lp 25 1] from by kernel_rfl] at hc
  refine Oks.cons (by kernel_rfl) ?_ ?_ c' hc
  · intro a b g' h κ R hR
    unfold g25o at h
    split at h
    · rename_i s g b x y z x' y' z'
      cases hn : (b == 96)
      · rw [hn] at h; cases h
      · rw [hn] at h
        cases h
        obtain rfl : b = 96 := by simpa using hn
        exact l25o k (by omega) κ s g x y z x' y' z' 81 k (Nat.le_refl _) hk R hR
    · cases h
  · intro c'' hc'' id' hid'
    refine ⟨ok25i k (by omega) c'' hc'' id' hid', ?_⟩
    rcases List.mem_singleton.1 hc'' with rfl
    rw [show firstReg (lp 25 1) = some 6 from by kernel_rfl] at hid'
    cases hid'
    decide

theorem r25 (k : Nat) (s g : Int) : bodyS Try.prog EvA T3 k L25 25 [I s, I g] [] 0 = optK (out25f s g 81) (fun q => some (gv g q.1 q.2, [gb g q.1 q.2, gb g q.1 q.2])) (some (gv 0 0 0, [gb 0 0 0, gb 0 0 0])) := by kernel_rfl

/-- What mkfs.fits tells. -/
def fitsF (s g : Int) : Int × Int × Int := optK (out25f s g 81) (fun q => (g, q.1, q.2)) (0, 0, 0)
theorem r25' (s g : Int) : ∃ M1, run T3 100 25 [I s, I g] = some (gv (fitsF s g).1 (fitsF s g).2.1 (fitsF s g).2.2, M1) := by
  have h := r25 100 s g
  unfold fitsF
  cases e : out25f s g 81 with
  | none => rw [e] at h; exact ⟨_, bodyS_le (ok25 100 (by omega)) h⟩
  | some q => rw [e] at h; exact ⟨_, bodyS_le (ok25 100 (by omega)) h⟩

end Go.Proofs.Yteeclgeoconekaa
