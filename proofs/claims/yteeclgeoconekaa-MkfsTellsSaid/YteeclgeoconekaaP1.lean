/-
  The plain law of MkfsFits: both folds tell the best geometry.
-/
import Derived.Test.YteeclgeoconekaaS4
namespace Go.Proofs.Yteeclgeoconekaa
open Go.Ev

/- The plain law of MkfsFits. -/
def R3 (p : T3i) : Prop := 1 ≤ p.1 ∧ p.1 ≤ 8 ∧ 4 ≤ p.2.1 ∧ p.2.1 ≤ 32 ∧ p.2.1 % 4 = 0 ∧ 16 ≤ p.2.2 ∧ p.2.2 ≤ 96
def sec (p : T3i) : Int := sectors p.1 p.2.1 p.2.2
def nb (p : T3i) : Int := blocks p.1 p.2.1 p.2.2
def ni (p : T3i) : Int := inodes p.1 p.2.1 p.2.2

theorem R3.may {p : T3i} (h : R3 p) : may p.1 p.2.1 p.2.2 = true := by
  obtain ⟨a, b, c⟩ := p
  obtain ⟨h1, h2, h3, h4, h5, h6, h7⟩ := h
  dsimp only at *
  have e : b.tmod 4 = 0 := by rw [Int.tmod_eq_emod_of_nonneg (by omega)]; exact h5
  simp [Yteeclgeoconekaa.may, between, h1, h2, h3, h4, h6, h7, e]

theorem mul_bd {g x : Int} {X : Int} (h1 : 1 ≤ g) (h2 : g ≤ 8) (h3 : 0 ≤ x) (h4 : x ≤ X) : 0 ≤ g * x ∧ g * x ≤ 8 * X := by
  refine ⟨Int.mul_nonneg (by omega) h3, ?_⟩
  exact Int.le_trans (Int.mul_le_mul_of_nonneg_right h2 h3) (Int.mul_le_mul_of_nonneg_left h4 (by omega))

theorem long_eq {b c : Int} (h3 : 4 ≤ b) (h4 : b ≤ 32) (h6 : 16 ≤ c) (h7 : c ≤ 96) : long b c = 1 + b / 4 + c := by
  unfold long
  rw [Int.tdiv_eq_ediv_of_nonneg (by omega)]
  rw [wr_id (x := b / 4) (by omega) (by omega), wr_id (x := 1 + b / 4) (by omega) (by omega), wr_id (by omega) (by omega)]

theorem R3.sec {p : T3i} (h : R3 p) : sec p = 2 + p.1 * (1 + p.2.1 / 4 + p.2.2) := by
  have hm := h.may
  obtain ⟨a, b, c⟩ := p
  obtain ⟨h1, h2, h3, h4, h5, h6, h7⟩ := h
  dsimp only at *
  have hb := mul_bd (x := 1 + b / 4 + c) (X := 200) h1 h2 (by omega) (by omega)
  simp only [Yteeclgeoconekaa.sec, sectors, hm, cond_true]
  rw [long_eq h3 h4 h6 h7, wr_id (x := a * (1 + b / 4 + c)) (by omega) (by omega), wr_id (by omega) (by omega)]

theorem R3.nb {p : T3i} (h : R3 p) : nb p = p.1 * p.2.2 := by
  have hm := h.may
  obtain ⟨a, b, c⟩ := p
  obtain ⟨h1, h2, h3, h4, h5, h6, h7⟩ := h
  dsimp only at *
  have hb := mul_bd (x := c) (X := 96) h1 h2 (by omega) (by omega)
  simp only [Yteeclgeoconekaa.nb, blocks, hm, cond_true]
  rw [wr_id (by omega) (by omega)]

theorem R3.ni {p : T3i} (h : R3 p) : ni p = p.1 * p.2.1 := by
  have hm := h.may
  obtain ⟨a, b, c⟩ := p
  obtain ⟨h1, h2, h3, h4, h5, h6, h7⟩ := h
  dsimp only at *
  have hb := mul_bd (x := b) (X := 32) h1 h2 (by omega) (by omega)
  simp only [Yteeclgeoconekaa.ni, inodes, hm, cond_true]
  rw [wr_id (by omega) (by omega)]

theorem R3.nb_pos {p : T3i} (h : R3 p) : 16 ≤ Yteeclgeoconekaa.nb p := by
  rw [h.nb]
  obtain ⟨h1, h2, h3, h4, h5, h6, h7⟩ := h
  have := Int.mul_le_mul_of_nonneg_right h1 (show 0 ≤ p.2.2 by omega)
  omega

theorem nb0 : nb (0, 0, 0) = 0 := by kernel_rfl
theorem ni0 : ni (0, 0, 0) = 0 := by kernel_rfl
theorem sec0 : sec (0, 0, 0) = 0 := by kernel_rfl

/-- Is one better than another? -/
def Bt (p q : T3i) : Prop := nb q < nb p ∨ (nb p = nb q ∧ (ni q < ni p ∨ (ni p = ni q ∧ p.1 < q.1)))
theorem better_iff (p q : T3i) : better p.1 p.2.1 p.2.2 q.1 q.2.1 q.2.2 = true ↔ Bt p q := by
  have h : better p.1 p.2.1 p.2.2 q.1 q.2.1 q.2.2 = cond (nb p != nb q) (decide (nb q < nb p)) (cond (ni p != ni q) (decide (ni q < ni p)) (decide (p.1 < q.1))) := rfl
  rw [h]
  unfold Bt
  generalize nb p = a
  generalize nb q = b
  generalize ni p = c
  generalize ni q = d
  by_cases e1 : a = b
  · by_cases e2 : c = d
    · simp [e1, e2]
    · simp [e1, e2]
  · have : (a != b) = true := by simp [e1]
    simp [this, e1]

theorem Bt.trans {p q r : T3i} (h : Bt p q) (h' : Bt q r) : Bt p r := by unfold Bt at *; omega
theorem Bt.irrefl {p : T3i} (h : Bt p p) : False := by unfold Bt at h; omega
theorem Bt.total {p q : T3i} (hp : R3 p) (hq : R3 q) (h : ¬ Bt p q) (h' : ¬ Bt q p) : p = q := by
  have e : nb p = nb q ∧ ni p = ni q ∧ p.1 = q.1 := by unfold Bt at *; omega
  obtain ⟨e1, e2, e3⟩ := e
  rw [hp.nb, hq.nb, e3] at e1
  rw [hp.ni, hq.ni, e3] at e2
  have hne : q.1 ≠ 0 := by have := hq.1; omega
  have f1 := Int.eq_of_mul_eq_mul_left hne e1
  have f2 := Int.eq_of_mul_eq_mul_left hne e2
  exact Prod.ext e3 (Prod.ext f2 f1)

def Fe (s : Int) (p : T3i) : Prop := R3 p ∧ sec p ≤ s
/-- The best among some. -/
def MaxIn (s : Int) (V : T3i → Prop) (u : T3i) : Prop :=
  (u = (0, 0, 0) ∧ ∀ p, V p → ¬ Fe s p) ∨ (Fe s u ∧ V u ∧ ∀ p, V p → Fe s p → ¬ Bt p u)

theorem MaxIn.congr {s : Int} {V V' : T3i → Prop} {u : T3i} (h : MaxIn s V u) (e : ∀ p, R3 p → (V p ↔ V' p)) : MaxIn s V' u := by
  rcases h with ⟨h1, h2⟩ | ⟨h1, h2, h3⟩
  · exact .inl ⟨h1, fun p hp hf => h2 p ((e p hf.1).2 hp) hf⟩
  · exact .inr ⟨h1, (e u h1.1).1 h2, fun p hp hf => h3 p ((e p hf.1).2 hp) hf⟩

theorem MaxIn.unique {s : Int} {V : T3i → Prop} {u v : T3i} (h : MaxIn s V u) (h' : MaxIn s V v) : u = v := by
  rcases h with ⟨h1, h2⟩ | ⟨h1, h2, h3⟩ <;> rcases h' with ⟨g1, g2⟩ | ⟨g1, g2, g3⟩
  · rw [h1, g1]
  · exact absurd g1 (h2 v g2)
  · exact absurd h1 (g2 u h2)
  · exact Bt.total h1.1 g1.1 (g3 u h2 h1) (h3 v g2 g1)

/-- The better of two. -/
theorem MaxIn.join {s : Int} {V W : T3i → Prop} {u v : T3i} (h : MaxIn s V u) (h' : MaxIn s W v) {x : T3i}
    (hx : (x = u ∧ (v = (0, 0, 0) ∨ (Fe s u ∧ ¬ Bt v u))) ∨ (x = v ∧ (u = (0, 0, 0) ∨ (Fe s v ∧ ¬ Bt u v)))) : MaxIn s (fun p => V p ∨ W p) x := by
  have z : ¬ R3 (0, 0, 0) := fun h => by have := h.1; omega
  have key : ∀ {V W : T3i → Prop} {u v : T3i}, MaxIn s V u → MaxIn s W v → (v = (0, 0, 0) ∨ (Fe s u ∧ ¬ Bt v u)) → MaxIn s (fun p => V p ∨ W p) u := by
    intro V W u v h h' hc
    rcases h with ⟨h1, h2⟩ | ⟨h1, h2, h3⟩ <;> rcases h' with ⟨g1, g2⟩ | ⟨g1, g2, g3⟩
    · exact .inl ⟨h1, fun p hp => hp.elim (h2 p) (g2 p)⟩
    · rcases hc with hc | ⟨hc, _⟩
      · rw [hc] at g1; exact absurd g1.1 z
      · rw [h1] at hc; exact absurd hc.1 z
    · exact .inr ⟨h1, .inl h2, fun p hp hf => hp.elim (fun hp => h3 p hp hf) fun hp => absurd hf (g2 p hp)⟩
    · rcases hc with hc | ⟨_, hc⟩
      · rw [hc] at g1; exact absurd g1.1 z
      · refine .inr ⟨h1, .inl h2, fun p hp hf hb => hp.elim (fun hp => h3 p hp hf hb) fun hp => ?_⟩
        -- p is not better than v, v is not better than u
        have a1 := g3 p hp hf
        unfold Bt at *
        omega
  rcases hx with ⟨rfl, hx⟩ | ⟨rfl, hx⟩
  · exact key h h' hx
  · exact (key h' h hx).congr fun p _ => by simp only [or_comm]

theorem one_max {s : Int} {p : T3i} (hp : R3 p) : MaxIn s (fun q => q = p) (if sec p ≤ s then p else (0, 0, 0)) := by
  by_cases h : sec p ≤ s
  · rw [if_pos h]
    exact .inr ⟨⟨hp, h⟩, rfl, fun q e _ hb => by subst e; exact hb.irrefl⟩
  · rw [if_neg h]
    exact .inl ⟨rfl, fun q e hf => by subst e; exact h hf.2⟩

/- ref20.Fit -/
theorem stepB_max {s n i b : Int} {V : T3i → Prop} {u : T3i} (h : MaxIn s V u) (hp : R3 (n, i, b)) : MaxIn s (fun q => V q ∨ q = (n, i, b)) (stepB s n i b u) := by
  refine h.join (one_max hp) ?_
  have es : sectors n i b = sec (n, i, b) := rfl
  unfold stepB
  rw [es]
  by_cases hs : sec (n, i, b) ≤ s
  · rw [if_pos hs, show decide (sec (n, i, b) ≤ s) = true from decide_eq_true hs, cond_true]
    rcases h with ⟨h1, h2⟩ | ⟨h1, h2, h3⟩
    · exact .inr ⟨by rw [h1]; rfl, .inl h1⟩
    · have h0 : (u.1 == 0) = false := by have := h1.1.1; simp; omega
      rw [h0, cond_false]
      by_cases hb : Bt (n, i, b) u
      · have : better n i b u.1 u.2.1 u.2.2 = true := (better_iff (n, i, b) u).2 hb
        rw [this]
        exact .inr ⟨rfl, .inr ⟨⟨hp, hs⟩, fun hb' => (hb.trans hb').irrefl⟩⟩
      · have : better n i b u.1 u.2.1 u.2.2 = false := by
          cases e : better n i b u.1 u.2.1 u.2.2
          · rfl
          · exact absurd ((better_iff (n, i, b) u).1 e) hb
        rw [this]
        exact .inl ⟨rfl, .inr ⟨h1, hb⟩⟩
  · rw [if_neg hs, show decide (sec (n, i, b) ≤ s) = false from decide_eq_false hs, cond_false]
    exact .inl ⟨rfl, .inl rfl⟩

theorem fitB_max {s n i : Int} (hn : 1 ≤ n ∧ n ≤ 8) (hi : 4 ≤ i ∧ i ≤ 32 ∧ i % 4 = 0) : ∀ (m : Nat) (V : T3i → Prop) (u : T3i), m ≤ 81 → MaxIn s V u →
    MaxIn s (fun p => V p ∨ (p.1 = n ∧ p.2.1 = i ∧ 97 - (m : Int) ≤ p.2.2)) (fitB s n i m u) := by
  intro m
  induction m with
  | zero => intro V u _ h; exact h.congr fun p hp => ⟨.inl, fun h => h.elim id fun h => by have := hp.2.2.2.2.2.2; simp at h; omega⟩
  | succ m ih =>
    intro V u hm h
    simp only [fitB]
    refine (ih _ _ (by omega) (stepB_max (b := 97 - (m + 1 : Nat)) h ⟨hn.1, hn.2, hi.1, hi.2.1, hi.2.2, by show (16 : Int) ≤ 97 - (m + 1 : Nat); omega, by show (97 : Int) - (m + 1 : Nat) ≤ 96; omega⟩)).congr fun p hp => ?_
    constructor
    · rintro ((h | rfl) | h)
      · exact .inl h
      · exact .inr ⟨rfl, rfl, by dsimp only; omega⟩
      · exact .inr ⟨h.1, h.2.1, by omega⟩
    · rintro (h | ⟨h1, h2, h3⟩)
      · exact .inl (.inl h)
      · by_cases e : p.2.2 = 97 - (m + 1 : Nat)
        · exact .inl (.inr (Prod.ext h1 (Prod.ext h2 e)))
        · exact .inr ⟨h1, h2, by omega⟩

theorem fitI_max {s n : Int} (hn : 1 ≤ n ∧ n ≤ 8) : ∀ (m : Nat) (V : T3i → Prop) (u : T3i), m ≤ 8 → MaxIn s V u →
    MaxIn s (fun p => V p ∨ (p.1 = n ∧ 36 - 4 * (m : Int) ≤ p.2.1)) (fitI s n m u) := by
  intro m
  induction m with
  | zero => intro V u _ h; exact h.congr fun p hp => ⟨.inl, fun h => h.elim id fun h => by have := hp.2.2.2.1; simp at h; omega⟩
  | succ m ih =>
    intro V u hm h
    simp only [fitI]
    refine (ih _ _ (by omega) (fitB_max (i := 36 - 4 * (m + 1 : Nat)) hn ⟨by omega, by omega, by omega⟩ 81 _ _ (Nat.le_refl _) h)).congr fun p hp => ?_
    have hr := hp
    obtain ⟨_, _, q1, q2, q3, q4, q5⟩ := hr
    constructor
    · rintro ((h | ⟨h1, h2, h3⟩) | h)
      · exact .inl h
      · exact .inr ⟨h1, by omega⟩
      · exact .inr ⟨h.1, by omega⟩
    · rintro (h | ⟨h1, h2⟩)
      · exact .inl (.inl h)
      · by_cases e : p.2.1 = 36 - 4 * (m + 1 : Nat)
        · exact .inl (.inr ⟨h1, e, by omega⟩)
        · exact .inr ⟨h1, by omega⟩

theorem fitN_max {s : Int} : ∀ (m : Nat) (V : T3i → Prop) (u : T3i), m ≤ 8 → MaxIn s V u → MaxIn s (fun p => V p ∨ 9 - (m : Int) ≤ p.1) (fitN s m u) := by
  intro m
  induction m with
  | zero => intro V u _ h; exact h.congr fun p hp => ⟨.inl, fun h => h.elim id fun h => by have := hp.2.1; simp at h; omega⟩
  | succ m ih =>
    intro V u hm h
    simp only [fitN]
    refine (ih _ _ (by omega) (fitI_max (n := 9 - (m + 1 : Nat)) ⟨by omega, by omega⟩ 8 _ _ (Nat.le_refl _) h)).congr fun p hp => ?_
    have hr := hp
    obtain ⟨_, _, q1, q2, q3, q4, q5⟩ := hr
    constructor
    · rintro ((h | ⟨h1, h2⟩) | h)
      · exact .inl h
      · exact .inr (by omega)
      · exact .inr (by omega)
    · rintro (h | h1)
      · exact .inl (.inl h)
      · by_cases e : p.1 = 9 - (m + 1 : Nat)
        · exact .inl (.inr ⟨e, by omega⟩)
        · exact .inr (by omega)

theorem none_max (s : Int) : MaxIn s (fun _ => False) (0, 0, 0) := .inl ⟨rfl, fun _ h => h.elim⟩
theorem refFit_max (s : Int) : MaxIn s (fun _ => True) (refFitF s) :=
  (fitN_max 8 _ _ (Nat.le_refl _) (none_max s)).congr fun p hp => ⟨fun _ => trivial, fun _ => .inr (by have := hp.1; omega)⟩

/- mkfs.Fit -/
theorem in25f_spec (s g b : Int) : ∀ m : Nat, (∀ n, in25f s g b m = some n → ∃ k : Nat, n = 4 * (k : Int) ∧ 1 ≤ k ∧ k ≤ m ∧ sectors g n b ≤ s ∧ ∀ j : Nat, k < j → j ≤ m → s < sectors g (4 * (j : Int)) b) ∧
    (in25f s g b m = none → ∀ j : Nat, 1 ≤ j → j ≤ m → s < sectors g (4 * (j : Int)) b) := by
  intro m
  induction m with
  | zero => exact ⟨fun n h => (by cases h), fun _ j h1 h2 => by omega⟩
  | succ m ih =>
    simp only [in25f]
    by_cases hs : s < sectors g (4 * (m + 1 : Nat)) b
    · simp only [hs, decide_true, cond_true]
      refine ⟨fun n h => ?_, fun h j h1 h2 => ?_⟩
      · obtain ⟨k, e1, e2, e3, e4, e5⟩ := ih.1 n h
        refine ⟨k, e1, e2, by omega, e4, fun j h1 h2 => ?_⟩
        by_cases ej : j = m + 1
        · rw [ej]; exact hs
        · exact e5 j h1 (by omega)
      · by_cases ej : j = m + 1
        · rw [ej]; exact hs
        · exact ih.2 h j h1 (by omega)
    · simp only [hs, decide_false, cond_false]
      refine ⟨fun n h => ?_, fun h => by cases h⟩
      cases h
      exact ⟨m + 1, rfl, by omega, by omega, by omega, fun j h1 h2 => by omega⟩

theorem out25f_spec (s g : Int) : ∀ m : Nat, (∀ q, out25f s g m = some q → ∃ k : Nat, q.2 = 15 + (k : Int) ∧ 1 ≤ k ∧ k ≤ m ∧ in25f s g q.2 8 = some q.1 ∧ ∀ j : Nat, k < j → j ≤ m → in25f s g (15 + (j : Int)) 8 = none) ∧
    (out25f s g m = none → ∀ j : Nat, 1 ≤ j → j ≤ m → in25f s g (15 + (j : Int)) 8 = none) := by
  intro m
  induction m with
  | zero => exact ⟨fun n h => (by cases h), fun _ j h1 h2 => by omega⟩
  | succ m ih =>
    simp only [out25f]
    cases hi : in25f s g (15 + (m + 1 : Nat)) 8 with
    | none =>
      simp only [optK]
      refine ⟨fun q h => ?_, fun h j h1 h2 => ?_⟩
      · obtain ⟨k, e1, e2, e3, e4, e5⟩ := ih.1 q h
        refine ⟨k, e1, e2, by omega, e4, fun j h1 h2 => ?_⟩
        by_cases ej : j = m + 1
        · rw [ej]; exact hi
        · exact e5 j h1 (by omega)
      · by_cases ej : j = m + 1
        · rw [ej]; exact hi
        · exact ih.2 h j h1 (by omega)
    | some n =>
      simp only [optK]
      refine ⟨fun q h => ?_, fun h => by cases h⟩
      cases h
      exact ⟨m + 1, rfl, by omega, by omega, hi, fun j h1 h2 => by omega⟩

theorem fits_max {s g : Int} (hg : 1 ≤ g ∧ g ≤ 8) : MaxIn s (fun p => p.1 = g) (fitsF s g) := by
  obtain ⟨h1, h2⟩ := out25f_spec s g 81
  unfold fitsF
  cases ho : out25f s g 81 with
  | none =>
    refine .inl ⟨rfl, fun p hp hf => ?_⟩
    obtain ⟨hr, hs⟩ := hf
    have hr' := hr
    obtain ⟨_, _, q1, q2, q3, q4, q5⟩ := hr'
    have a := h2 ho (p.2.2 - 15).toNat (by omega) (by omega)
    rw [show (15 : Int) + ((p.2.2 - 15).toNat : Int) = p.2.2 by omega] at a
    have b := (in25f_spec s g p.2.2 8).2 a (p.2.1 / 4).toNat (by omega) (by omega)
    rw [show (4 : Int) * ((p.2.1 / 4).toNat : Int) = p.2.1 by omega, ← hp] at b
    have : sec p = sectors p.1 p.2.1 p.2.2 := rfl
    omega
  | some q =>
    obtain ⟨k, e1, e2, e3, e4, e5⟩ := h1 q ho
    obtain ⟨k', f1, f2, f3, f4, f5⟩ := (in25f_spec s g q.2 8).1 _ e4
    have hR : R3 (g, q.1, q.2) := ⟨hg.1, hg.2, by dsimp only; omega, by dsimp only; omega, by dsimp only; omega, by dsimp only; omega, by dsimp only; omega⟩
    refine .inr ⟨⟨hR, f4⟩, rfl, fun p hp hf hb => ?_⟩
    simp only [optK] at hb
    obtain ⟨hr, hs⟩ := hf
    have hr' := hr
    obtain ⟨_, _, q1, q2, q3, q4, q5⟩ := hr'
    have es : sec p = sectors p.1 p.2.1 p.2.2 := rfl
    -- blocks first
    have c1 : p.2.2 ≤ q.2 := by
      refine Int.not_lt.1 fun hlt => ?_
      have a := e5 (p.2.2 - 15).toNat (by omega) (by omega)
      rw [show (15 : Int) + ((p.2.2 - 15).toNat : Int) = p.2.2 by omega] at a
      have b := (in25f_spec s g p.2.2 8).2 a (p.2.1 / 4).toNat (by omega) (by omega)
      rw [show (4 : Int) * ((p.2.1 / 4).toNat : Int) = p.2.1 by omega, ← hp] at b
      omega
    have c2 : p.2.2 = q.2 → p.2.1 ≤ q.1 := by
      intro e
      refine Int.not_lt.1 fun hlt => ?_
      have b := f5 (p.2.1 / 4).toNat (by omega) (by omega)
      rw [show (4 : Int) * ((p.2.1 / 4).toNat : Int) = p.2.1 by omega, ← hp, ← e] at b
      omega
    unfold Bt at hb
    rw [hr.nb, hR.nb, hr.ni, hR.ni, hp] at hb
    dsimp only at hb
    have d1 : g * p.2.2 ≤ g * q.2 := Int.mul_le_mul_of_nonneg_left c1 (by omega)
    rcases hb with hb | ⟨ha, hb⟩
    · omega
    · have e : p.2.2 = q.2 := Int.eq_of_mul_eq_mul_left (by omega) ha
      have d2 : g * p.2.1 ≤ g * q.1 := Int.mul_le_mul_of_nonneg_left (c2 e) (by omega)
      omega

theorem step7_max {s n : Int} {u : T3i} (hn : 1 ≤ n ∧ n ≤ 8) (h : MaxIn s (fun p => p.1 < n) u) : MaxIn s (fun p => p.1 < n ∨ p.1 = n) (step7 s n u) := by
  have hf := fits_max (s := s) hn
  refine h.join hf ?_
  unfold step7
  rw [show blocksT (fitsF s n) = nb (fitsF s n) from rfl, show blocksT u = nb u from rfl, show inodesT (fitsF s n) = ni (fitsF s n) from rfl, show inodesT u = ni u from rfl]
  rcases hf with ⟨f1, f2⟩ | ⟨f1, f2, f3⟩
  · rw [f1, nb0, ni0]
    rcases h with ⟨h1, h2⟩ | ⟨h1, h2, h3⟩
    · rw [h1, nb0, ni0]
      exact .inl ⟨by simp, .inl rfl⟩
    · have := h1.1.nb_pos
      exact .inl ⟨by rw [show decide (0 < nb u) = true from by simp; omega]; rfl, .inl rfl⟩
  · have fp := f1.1.nb_pos
    rcases h with ⟨h1, h2⟩ | ⟨h1, h2, h3⟩
    · rw [h1, nb0, ni0]
      refine .inr ⟨?_, .inl rfl⟩
      rw [show decide (nb (fitsF s n) < 0) = false from by simp; omega, show (nb (fitsF s n) == 0) = false from by simp; omega]
      rfl
    · by_cases e1 : nb (fitsF s n) < nb u
      · refine .inl ⟨by simp [e1], .inr ⟨h1, ?_⟩⟩
        unfold Bt; omega
      · by_cases e2 : nb (fitsF s n) = nb u
        · by_cases e3 : ni (fitsF s n) ≤ ni u
          · refine .inl ⟨by simp [e1, e2, e3], .inr ⟨h1, ?_⟩⟩
            unfold Bt
            omega
          · refine .inr ⟨by simp [e1, e2, e3], .inr ⟨f1, ?_⟩⟩
            unfold Bt
            omega
        · have e4 : (nb (fitsF s n) == nb u) = false := by simp [e2]
          refine .inr ⟨by simp [e1, e4], .inr ⟨f1, ?_⟩⟩
          unfold Bt
          omega

theorem fit7_max {s : Int} : ∀ (m : Nat) (u : T3i), m ≤ 8 → MaxIn s (fun p => p.1 < 9 - (m : Int)) u → MaxIn s (fun p => p.1 < 9) (fit7 s m u) := by
  intro m
  induction m with
  | zero => intro u _ h; exact h
  | succ m ih =>
    intro u hm h
    simp only [fit7]
    refine ih _ (by omega) ((step7_max (n := 9 - (m + 1 : Nat)) ⟨by omega, by omega⟩ h).congr fun p _ => ?_)
    constructor
    · rintro (h | h) <;> omega
    · intro h; omega

theorem fit_max (s : Int) : MaxIn s (fun _ => True) (fitF s) :=
  (fit7_max 8 _ (Nat.le_refl _) ((none_max s).congr fun p hp => ⟨fun h => h.elim, fun h => by have := hp.1; omega⟩)).congr fun p hp => ⟨fun _ => trivial, fun _ => by have := hp.2.1; omega⟩

theorem fit_eq (s : Int) : fitF s = refFitF s := (fit_max s).unique (refFit_max s)

theorem fit_mono {s s' : Int} (h : s ≤ s') : nb (fitF s) ≤ nb (fitF s') := by
  have h1 := fit_max s
  have h2 := fit_max s'
  rcases h1 with ⟨h1, _⟩ | ⟨h1, _, _⟩ <;> rcases h2 with ⟨g1, g2⟩ | ⟨g1, _, g3⟩
  · rw [h1, g1]; exact Int.le_refl _
  · rw [h1, nb0]; have := g1.1.nb_pos; omega
  · exact absurd ⟨h1.1, Int.le_trans h1.2 h⟩ (g2 _ trivial)
  · have := g3 _ trivial ⟨h1.1, Int.le_trans h1.2 h⟩
    unfold Bt at this
    omega

theorem fit_sec {s : Int} (h : 0 ≤ s) : sec (fitF s) ≤ s := by
  rcases fit_max s with ⟨h1, _⟩ | ⟨h1, _, _⟩
  · rw [h1, sec0]; exact h
  · exact h1.2

theorem fit_may (s : Int) : fitF s = (0, 0, 0) ∨ may (fitF s).1 (fitF s).2.1 (fitF s).2.2 = true := by
  rcases fit_max s with ⟨h1, _⟩ | ⟨h1, _, _⟩
  · exact .inl h1
  · exact .inr h1.1.may

end Go.Proofs.Yteeclgeoconekaa
