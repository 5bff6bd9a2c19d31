/-
  The rows of a new image: which are zeros, and how many; the superblock's row read back; plain.
-/
import Derived.Test.YteeclgeoconekaaQ13
namespace Go.Proofs.Yteeclgeoconekaa
open Go.Ev

abbrev Zs : List Value := List.replicate 128 Z8
/-- A row that begins with a kind. -/
def Nz (l : List Value) : Prop := ∃ k t, k ≠ 0 ∧ l = U8 k :: t
theorem nz_seal {k : Int} (h : k ≠ 0) (l : List Value) : Nz (sealRow k l) := ⟨k, _, h, rfl⟩
theorem nz_eq {l : List Value} (h : Nz l) : eqRows l Zs = false := by
  obtain ⟨k, t, hk, rfl⟩ := h
  have e : Zs = U8 0 :: List.replicate 127 Z8 := rfl
  rw [e]
  have : (k == 0) = false := by simpa using hk
  simp only [eqRows, intOf, this, Bool.false_and]

theorem f2_out (g : Geo) (r : Nat) : ∀ (m k : Nat) (f : Nat → List Value), (∀ k', k ≤ k' → k' < k + m → r ≠ 2 + k' * g.L) → f2 g f k m r = f r := by
  intro m
  induction m with
  | zero => intro k f _; rfl
  | succ m ih =>
    intro k f h
    show f2 g (fset f (2 + k * g.L) (groupR g k)) (k + 1) m r = f r
    rw [ih (k + 1) _ (fun k' h1 h2 => h k' (by omega) (by omega))]
    simp only [fset, if_neg (h k (Nat.le_refl _) (by omega))]
theorem f2_nz (g : Geo) (r : Nat) : ∀ (m k : Nat) (f : Nat → List Value), (Nz (f r) ∨ ∃ k', k ≤ k' ∧ k' < k + m ∧ r = 2 + k' * g.L) → Nz (f2 g f k m r) := by
  intro m
  induction m with
  | zero =>
    intro k f h
    rcases h with h | ⟨k', h1, h2, _⟩
    · exact h
    · omega
  | succ m ih =>
    intro k f h
    show Nz (f2 g (fset f (2 + k * g.L) (groupR g k)) (k + 1) m r)
    apply ih
    by_cases hr : r = 2 + k * g.L
    · exact .inl (by simp only [fset, if_pos hr]; exact nz_seal (by decide) _)
    · rcases h with h | ⟨k', h1, h2, h3⟩
      · exact .inl (by simp only [fset, if_neg hr]; exact h)
      · refine .inr ⟨k', ?_, by omega, h3⟩
        rcases Nat.lt_or_eq_of_le h1 with h1 | h1
        · exact h1
        · subst h1; exact absurd h3 hr
theorem nodeR_nz (j : Nat) : Nz (nodeR j) := by unfold nodeR; split <;> exact nz_seal (by decide) _
theorem f3_out (g : Geo) (r : Nat) : ∀ (m k : Nat) (f : Nat → List Value), (∀ k', k ≤ k' → k' < k + m → r ≠ nodePos g k') → f3 g f k m r = f r := by
  intro m
  induction m with
  | zero => intro k f _; rfl
  | succ m ih =>
    intro k f h
    show f3 g (fset f (nodePos g k) (nodeR k)) (k + 1) m r = f r
    rw [ih (k + 1) _ (fun k' h1 h2 => h k' (by omega) (by omega))]
    simp only [fset, if_neg (h k (Nat.le_refl _) (by omega))]
theorem f3_nz (g : Geo) (r : Nat) : ∀ (m k : Nat) (f : Nat → List Value), (Nz (f r) ∨ ∃ k', k ≤ k' ∧ k' < k + m ∧ r = nodePos g k') → Nz (f3 g f k m r) := by
  intro m
  induction m with
  | zero =>
    intro k f h
    rcases h with h | ⟨k', h1, h2, _⟩
    · exact h
    · omega
  | succ m ih =>
    intro k f h
    show Nz (f3 g (fset f (nodePos g k) (nodeR k)) (k + 1) m r)
    apply ih
    by_cases hr : r = nodePos g k
    · exact .inl (by simp only [fset, if_pos hr]; exact nodeR_nz _)
    · rcases h with h | ⟨k', h1, h2, h3⟩
      · exact .inl (by simp only [fset, if_neg hr]; exact h)
      · refine .inr ⟨k', ?_, by omega, h3⟩
        rcases Nat.lt_or_eq_of_le h1 with h1 | h1
        · exact h1
        · subst h1; exact absurd h3 hr

/-- Whether a row of a new image is a block's. -/
def isZ (g : Geo) (r : Nat) : Bool := decide (2 ≤ r ∧ 1 + g.B ≤ (r - 2) % g.L)
theorem nodePos_ge (g : Geo) (j : Nat) : 3 ≤ nodePos g j ∧ (nodePos g j - 2) % g.L = 1 + j % g.B := by
  have hB := g.hB
  have hC := g.hC
  have h3 : j % g.B < g.B := Nat.mod_lt _ (by omega)
  have hL : g.L = 1 + g.B + g.C := rfl
  have e : nodePos g j - 2 = (1 + j % g.B) + (j / g.B) * g.L := by unfold nodePos; omega
  refine ⟨by unfold nodePos; omega, ?_⟩
  rw [e, Nat.add_mul_mod_self_right, Nat.mod_eq_of_lt (by omega)]
theorem imgF_zero (g : Geo) : imgF g 0 = superR g.a g.b g.c := by
  have hL := g.hL
  unfold imgF
  rw [f3_out g 0 _ _ _ (fun k' _ _ e => by have := nodePos_ge g k'; omega), f2_out g 0 _ _ _ (fun k' _ _ e => by omega)]
  rfl
theorem imgF_z (g : Geo) {r : Nat} (hr : r < g.n) : eqRows (imgF g r) Zs = isZ g r := by
  have hB := g.hB
  have hC := g.hC
  have hA := g.hA
  have hL : g.L = 1 + g.B + g.C := rfl
  have hnn : g.n = 2 + g.A * g.L := rfl
  unfold isZ
  by_cases h0 : r < 2
  · rw [decide_eq_false (by omega)]
    refine nz_eq (f3_nz g r _ _ _ (.inl (f2_nz g r _ _ _ (.inl ?_))))
    unfold f0
    obtain rfl | rfl : r = 0 ∨ r = 1 := by omega
    · exact nz_seal (k := 83) (by decide) _
    · exact nz_seal (k := 82) (by decide) _
  · obtain ⟨q, rfl⟩ : ∃ q, r = 2 + q := ⟨r - 2, by omega⟩
    have e2 : 2 + q - 2 = q := by omega
    rw [e2]
    have hd : q = (q / g.L) * g.L + q % g.L := by rw [Nat.mul_comm]; exact (Nat.div_add_mod q g.L).symm
    have hk : q / g.L < g.A := Nat.div_lt_of_lt_mul (by rw [Nat.mul_comm]; omega)
    have hm : q % g.L < g.L := Nat.mod_lt _ (by omega)
    obtain ⟨k, hkk⟩ : ∃ k, q / g.L = k := ⟨_, rfl⟩
    obtain ⟨s, hs⟩ : ∃ s, q % g.L = s := ⟨_, rfl⟩
    rw [hkk, hs] at hd
    rw [hkk] at hk
    rw [hs] at hm
    by_cases h1 : 1 + g.B ≤ s
    · rw [decide_eq_true (by omega)]
      have e : imgF g (2 + q) = Zs := by
        unfold imgF
        rw [f3_out g _ _ _ _ (fun k' _ _ e => ?_), f2_out g _ _ _ _ (fun k' _ _ e => ?_)]
        · simp only [f0, fset, if_neg (show ¬ 2 + q = 1 by omega), if_neg (show ¬ 2 + q = 0 by omega)]
        · have : q % g.L = 0 := by rw [show q = k' * g.L by omega]; exact Nat.mul_mod_left _ _
          omega
        · have := (nodePos_ge g k').2
          rw [← e, e2, hs] at this
          have h3 : k' % g.B < g.B := Nat.mod_lt _ (by omega)
          omega
      rw [e]
      exact eqRows_self _
    · rw [decide_eq_false (by omega)]
      refine nz_eq ?_
      by_cases hs0 : s = 0
      · exact f3_nz g _ _ _ _ (.inl (f2_nz g _ _ _ _ (.inr ⟨k, by omega, by omega, by omega⟩)))
      · refine f3_nz g _ _ _ _ (.inr ⟨k * g.B + (s - 1), by omega, ?_, ?_⟩)
        · have := Nat.mul_le_mul_right g.B (show k + 1 ≤ g.A by omega)
          rw [Nat.add_mul, Nat.one_mul] at this
          omega
        · have d1 : (k * g.B + (s - 1)) / g.B = k := by
            rw [Nat.add_comm, Nat.add_mul_div_right _ _ (by omega), Nat.div_eq_of_lt (by omega), Nat.zero_add]
          have d2 : (k * g.B + (s - 1)) % g.B = s - 1 := by
            rw [Nat.add_comm, Nat.add_mul_mod_self_right, Nat.mod_eq_of_lt (by omega)]
          unfold nodePos
          rw [d1, d2]
          omega

/-- How many of the first rows are zeros. -/
def cnt (p : Nat → Bool) : Nat → Nat
  | 0 => 0
  | i + 1 => cnt p i + (if p i then 1 else 0)
theorem cnt_step (g : Geo) : ∀ k s, s ≤ g.L → cnt (isZ g) (2 + (k * g.L + s)) = k * g.C + (s - (1 + g.B)) := by
  have hL : g.L = 1 + g.B + g.C := rfl
  intro k
  induction k with
  | zero =>
    intro s
    induction s with
    | zero => intro _; simp [cnt, isZ]
    | succ s ih =>
      intro h
      have i1 := ih (by omega)
      show cnt (isZ g) (2 + (0 * g.L + s)) + (if isZ g (2 + (0 * g.L + s)) then 1 else 0) = _
      rw [i1]
      have e : isZ g (2 + (0 * g.L + s)) = decide (1 + g.B ≤ s) := by
        unfold isZ
        rw [show 2 + (0 * g.L + s) - 2 = s by omega, Nat.mod_eq_of_lt (by omega)]
        simp
      rw [e]
      by_cases hs : 1 + g.B ≤ s
      · simp only [hs, decide_true, if_true]; omega
      · simp only [hs, decide_false, Bool.false_eq_true, if_false]; omega
  | succ k ihk =>
    intro s
    have ek : (k + 1) * g.L = k * g.L + g.L := by rw [Nat.add_mul, Nat.one_mul]
    have ec : (k + 1) * g.C = k * g.C + g.C := by rw [Nat.add_mul, Nat.one_mul]
    induction s with
    | zero =>
      intro _
      rw [ek, Nat.add_zero, ihk g.L (Nat.le_refl _)]
      omega
    | succ s ih =>
      intro h
      have i1 := ih (by omega)
      show cnt (isZ g) (2 + ((k + 1) * g.L + s)) + (if isZ g (2 + ((k + 1) * g.L + s)) then 1 else 0) = _
      rw [i1]
      have e : isZ g (2 + ((k + 1) * g.L + s)) = decide (1 + g.B ≤ s) := by
        unfold isZ
        rw [show 2 + ((k + 1) * g.L + s) - 2 = s + (k + 1) * g.L by omega, Nat.add_mul_mod_self_right, Nat.mod_eq_of_lt (by omega)]
        simp
      rw [e]
      by_cases hs : 1 + g.B ≤ s
      · simp only [hs, decide_true, if_true]; omega
      · simp only [hs, decide_false, Bool.false_eq_true, if_false]; omega
theorem cnt_all (g : Geo) : cnt (isZ g) g.n = g.A * g.C := by
  have hL : g.L = 1 + g.B + g.C := rfl
  have h := cnt_step g g.A 0 (by omega)
  rw [Nat.add_zero] at h
  have e : g.n = 2 + g.A * g.L := rfl
  rw [e, h]
  omega
theorem cnt_le (p : Nat → Bool) : ∀ i, cnt p i ≤ i := by
  intro i
  induction i with
  | zero => exact Nat.le_refl _
  | succ i ih => simp only [cnt]; split <;> omega

/-! ### the superblock's row -/
theorem body_seal {k : Int} {l : List Value} (h : l.length ≤ 123) : body (sealRow k l) = l ++ List.replicate (123 - l.length) Z8 := by
  have e : sealRow k l = U8 k :: ((l ++ List.replicate (123 - l.length) Z8) ++ sumB4 (sumF (U8 k :: (l ++ List.replicate (123 - l.length) Z8)))) := rfl
  rw [e]
  show List.take 123 ((l ++ List.replicate (123 - l.length) Z8) ++ _) = _
  rw [List.take_append_of_le_length (by simp; omega), List.take_of_length_le (by simp; omega)]
theorem seal_pad {k : Int} {l : List Value} (h : l.length ≤ 123) : sealRow k (l ++ List.replicate (123 - l.length) Z8) = sealRow k l := by
  unfold sealRow
  have e : 123 - (l ++ List.replicate (123 - l.length) Z8).length = 0 := by simp; omega
  rw [e, List.replicate_zero, List.append_nil]
theorem kind_seal {k : Int} {l : List Value} (hk : k ≠ 0) (h : l.length ≤ 123) : kindF (sealRow k l) = k := by
  unfold kindF
  have e1 : ((sealRow k l).length == 128) = true := by rw [sealRow_len h]; rfl
  have e2 : k0 (sealRow k l) = k := rfl
  have e3 : (k == 0) = false := by simpa using hk
  rw [e1, e2, e3, body_seal h, seal_pad h, eqRows_self]
  rfl
theorem u8w {x : Int} (h0 : 0 ≤ x) (h : x < 256) : IntKind.u8.wrap x = x := by
  show x % 256 = x
  omega
theorem at8_super (a b c : Int) (o : Bool) : at8 (sealRow 83 (superL a b c o)) 4 = IntKind.u8.wrap a ∧ at8 (sealRow 83 (superL a b c o)) 5 = IntKind.u8.wrap b ∧ at8 (sealRow 83 (superL a b c o)) 6 = IntKind.u8.wrap c ∧ at8 (sealRow 83 (superL a b c o)) 7 = cond o 1 0 := by
  unfold at8
  rw [body_seal (by simp [superL])]
  exact ⟨rfl, rfl, rfl, by cases o <;> rfl⟩
theorem Geo.small (g : Geo) : (0 ≤ g.a ∧ g.a < 256) ∧ (0 ≤ g.b ∧ g.b < 256) ∧ (0 ≤ g.c ∧ g.c < 256) := by
  obtain ⟨ea, eb, ec⟩ := g.fac
  have := g.hA; have := g.hB; have := g.hC
  omega
theorem at8_geo (g : Geo) : at8 (superR g.a g.b g.c) 4 = g.a ∧ at8 (superR g.a g.b g.c) 5 = g.b ∧ at8 (superR g.a g.b g.c) 6 = g.c ∧ (at8 (superR g.a g.b g.c) 7 == 1) = true := by
  obtain ⟨h1, h2, h3, h4⟩ := at8_super g.a g.b g.c true
  obtain ⟨⟨a0, a1⟩, ⟨b0, b1⟩, c0, c1⟩ := g.small
  rw [u8w a0 a1] at h1
  rw [u8w b0 b1] at h2
  rw [u8w c0 c1] at h3
  refine ⟨h1, h2, h3, ?_⟩
  rw [h4]
  rfl
theorem read_geo (g : Geo) : readF (superR g.a g.b g.c) = true := by
  obtain ⟨h1, h2, h3, h4⟩ := at8_geo g
  unfold readF openF
  rw [h1, h2, h3, h4, g.may_, eqRows_self, kind_seal (by decide) (by simp [superL])]
  rfl

/-! ### two images -/
theorem super_inj {g h : Geo} (e : eqRows (superR g.a g.b g.c) (superR h.a h.b h.c) = true) : g = h := by
  obtain ⟨⟨a0, a1⟩, ⟨b0, b1⟩, c0, c1⟩ := g.small
  obtain ⟨⟨x0, x1⟩, ⟨y0, y1⟩, z0, z1⟩ := h.small
  have e1 : ∀ a b c : Int, superR a b c = U8 83 :: U8 80 :: U8 82 :: U8 76 :: U8 1 :: U8 (IntKind.u8.wrap a) :: U8 (IntKind.u8.wrap b) :: U8 (IntKind.u8.wrap c) :: (superR a b c).drop 8 := fun _ _ _ => rfl
  rw [e1 g.a, e1 h.a] at e
  simp only [eqRows, intOf, Bool.and_eq_true, beq_iff_eq, u8w a0 a1, u8w b0 b1, u8w c0 c1, u8w x0 x1, u8w y0 y1, u8w z0 z1] at e
  exact geo_inj e.2.2.2.2.2.1 e.2.2.2.2.2.2.1 e.2.2.2.2.2.2.2.1
theorem eqImg (g h : Geo) : eqParts ((List.range g.n).map (imgF g)) ((List.range h.n).map (imgF h)) = is3 g.a g.b g.c h.a h.b h.c := by
  classical
  by_cases e : g = h
  · subst e
    rw [eqParts_self]
    simp [is3]
  · have e1 : is3 g.a g.b g.c h.a h.b h.c = false := by
      cases e2 : is3 g.a g.b g.c h.a h.b h.c
      · rfl
      · simp only [is3, Bool.and_eq_true, beq_iff_eq, Bool.and_true] at e2
        exact absurd (geo_inj e2.1 e2.2.1 e2.2.2) e
    rw [e1]
    have hn := g.hn
    have hm := h.hn
    obtain ⟨x, hx⟩ : ∃ x, g.n = x + 1 := ⟨g.n - 1, by omega⟩
    obtain ⟨y, hy⟩ : ∃ y, h.n = y + 1 := ⟨h.n - 1, by omega⟩
    rw [hx, hy, List.range_succ_eq_map, List.range_succ_eq_map, List.map_cons, List.map_cons, imgF_zero, imgF_zero]
    cases e3 : eqRows (superR g.a g.b g.c) (superR h.a h.b h.c)
    · simp only [eqParts, e3, Bool.false_and]
    · exact absurd (super_inj e3) e
end Go.Proofs.Yteeclgeoconekaa


/-
  The law MkfsApart: its run answers true.
-/
namespace Go.Proofs.Yteeclgeoconekaa
open Go.Ev

/-- A table of rows in a memory. -/
theorem table_ok {M : Mem} {b n : Nat} {cs : List Value} {rows : List (List Value)} (hb : M.blk b = ⟨cs, 35, true⟩) (hl : cs.length = n) (hr : rows.length = n) (hn : n ≤ 1000)
    (h : ∀ r, r < n → ∃ id l, cs[r]? = some (rowAt id) ∧ rows[r]? = some l ∧ M.blk id = ⟨l, 5, true⟩ ∧ l.length = 128 ∧ u8s l = true ∧ u8r l = true) :
    dOk M (.slice (some ⟨b, 0, none⟩) n n) = true ∧ dRows M (.slice (some ⟨b, 0, none⟩) n n) = rows := by
  have ec : dCells M (.slice (some ⟨b, 0, none⟩) n n) = cs := by
    show ((M.blk b).cells.drop 0).take n = cs
    rw [hb]
    simp [← hl]
  have one : ∀ r, r < n → ∃ v, cs[r]? = some v ∧ bOk M v = true ∧ rows[r]? = some (bRow M v) := by
    intro r hlt
    obtain ⟨id, l, h1, h2, h3, h4, h5, h6⟩ := h r hlt
    obtain ⟨s1, s2⟩ := bOk_mk (M := M) (b := id) (o := 0) (n := 128) (c := 128) (sp := none) h3 (by omega) h5 h6 (by omega)
    refine ⟨_, h1, s1, ?_⟩
    rw [h2]
    have : bRow M (rowAt id) = l := by rw [s2]; simp [← h4]
    rw [this]
  constructor
  · have e1 : rowG M b 0 n = true := by
      simp only [rowG, hb, Bool.true_and]
      exact Nat.ble_eq_true_of_le (by simp; omega)
    have e2 : cs.all (bOk M) = true := by
      rw [List.all_eq_true]
      intro v hv
      obtain ⟨i, hi⟩ := List.getElem?_of_mem hv
      obtain ⟨v', g1, g2, _⟩ := one i (by have := lt_of_getElem? hi; omega)
      rw [hi] at g1
      cases g1
      exact g2
    have e3 : Nat.ble n 4611686018427387904 = true := Nat.ble_eq_true_of_le (by omega)
    unfold dOk
    rw [ec]
    show (true && (rowG M b 0 n && (Nat.beq (M.blk b).elem 35 && (cs.all (bOk M) && Nat.ble n 4611686018427387904)))) = true
    rw [e1, e2, e3, hb]
    rfl
  · unfold dRows
    rw [ec]
    apply List.ext_getElem?
    intro r
    by_cases hlt : r < n
    · obtain ⟨v, g1, g2, g3⟩ := one r hlt
      rw [List.getElem?_map, g1, g3]
      rfl
    · rw [List.getElem?_eq_none (by simp; omega), List.getElem?_eq_none (by omega)]

theorem blk5 (u v : List Value) (g1 g2 g3 h1 h2 h3 : Int) (cs : List Value) (T : Mem) (j : Nat) : (mem5 u v g1 g2 g3 h1 h2 h3 cs T).blk (j + 5) = T[j]?.getD deadBlk := rfl
theorem blk5_some {u v : List Value} {g1 g2 g3 h1 h2 h3 : Int} {cs : List Value} {T : Mem} {j : Nat} {k : Blk} (h : T[j]? = some k) : (mem5 u v g1 g2 g3 h1 h2 h3 cs T).blk (j + 5) = k := by rw [blk5, h]; rfl

/-- The rows of a geometry. -/
abbrev rowsOf (g : Geo) : List (List Value) := (List.range g.n).map (imgF g)
theorem rowsOf_get (g : Geo) {r : Nat} (h : r < g.n) : (rowsOf g)[r]? = some (imgF g r) := by simp [rowsOf, h]
theorem oc_get (g : Geo) {r : Nat} (h : r < g.n) : (oc (rowsOf g))[r]? = some (rowAt (r + 5)) := by
  have e : (rowsOf g).getD r [] = imgF g r := by simp [List.getD, h]
  have hl : r < (rowsOf g).length := by simpa using h
  unfold oc
  rw [List.getElem?_map, List.getElem?_range hl, Option.map_some, e, (imgF_ok g r).1, show 4 + (1 + r) = r + 5 by omega]
theorem rB_get (g : Geo) {r : Nat} (h : r < g.n) : (rB (rowsOf g))[r]? = some ⟨imgF g r, 5, true⟩ := by
  unfold rB
  rw [List.getElem?_map, rowsOf_get g h]
  rfl
theorem oc_row (g : Geo) {u v : List Value} {g1 g2 g3 h1 h2 h3 : Int} {T : Mem} (hT : Le (rB (rowsOf g)) T) {r : Nat} (h : r < g.n) :
    cI (oc (rowsOf g)) (r : Int) = rowAt (r + 5) ∧ (gI (oc (rowsOf g)) (r : Int)).isSome = true ∧ bOk (mem5 u v g1 g2 g3 h1 h2 h3 (oc (rowsOf g)) T) (rowAt (r + 5)) = true ∧ bRow (mem5 u v g1 g2 g3 h1 h2 h3 (oc (rowsOf g)) T) (rowAt (r + 5)) = imgF g r := by
  have e : gI (oc (rowsOf g)) (r : Int) = some (rowAt (r + 5)) := by
    show (oc (rowsOf g))[0 + (r : Int).toNat * 1]? = _
    rw [show 0 + (r : Int).toNat * 1 = r by simp]
    exact oc_get g h
  obtain ⟨k1, k2, k3⟩ := imgF_ok g r
  obtain ⟨s1, s2⟩ := bOk_mk (M := mem5 u v g1 g2 g3 h1 h2 h3 (oc (rowsOf g)) T) (b := r + 5) (o := 0) (n := 128) (c := 128) (sp := none) (blk5_some (hT _ _ (rB_get g h))) (by omega) k2 k3 (by omega)
  refine ⟨by unfold cI; rw [e]; rfl, by rw [e]; rfl, s1, ?_⟩
  rw [s2]
  simp [← k1]

theorem loop5 (g : Geo) (q : PX) (o : Bool) (e : Int) (u v : List Value) (g1 g2 g3 h1 h2 h3 : Int) : ∀ (m i fuel : Nat) (t : Mem), i + m = g.n → m < fuel → Le (rB (rowsOf g)) t →
    ∃ t', itrv rnd5 fuel (mk5 ⟨g.n, g.n⟩ q o e (cnt (isZ g) i : Int) (i : Int) u v g1 g2 g3 h1 h2 h3 (oc (rowsOf g)) t) = some (mk5 ⟨g.n, g.n⟩ q o e (cnt (isZ g) g.n : Int) (g.n : Int) u v g1 g2 g3 h1 h2 h3 (oc (rowsOf g)) t') ∧ Le t t' := by
  intro m
  have hn := g.hn
  induction m with
  | zero =>
    intro i fuel t hi hf hT
    obtain ⟨fuel, rfl⟩ : ∃ n, fuel = n + 1 := ⟨fuel - 1, by omega⟩
    obtain rfl : i = g.n := by omega
    have c1 : decide ((g.n : Int) < (g.n : Int)) = false := by simp
    refine ⟨t, ?_, Le.refl t⟩
    simp only [itrv, rnd5, c1, Br.val, cond_false, cond_true]
  | succ m ih =>
    intro i fuel t hi hf hT
    obtain ⟨fuel, rfl⟩ : ∃ n, fuel = n + 1 := ⟨fuel - 1, by omega⟩
    have hlt : i < g.n := by omega
    have c1 : decide ((i : Int) < (g.n : Int)) = true := decide_eq_true (by omega)
    have c0 : decide ((0 : Int) ≤ (i : Int)) = true := decide_eq_true (by omega)
    obtain ⟨k1, k2, k3, k4⟩ := oc_row g (u := u) (v := v) (g1 := g1) (g2 := g2) (g3 := g3) (h1 := h1) (h2 := h2) (h3 := h3) (hT.trans (Le.app t [zrow])) hlt
    obtain ⟨s1, s2⟩ := bOk_mk (M := mem5 u v g1 g2 g3 h1 h2 h3 (oc (rowsOf g)) (t ++ [zrow])) (b := t.length + 5) (o := 0) (n := 128) (c := 128) (sp := none) (blk5_some (app_last t zrow)) (by simp) u8s_rep u8r_rep (by omega)
    have s3 : bRow (mem5 u v g1 g2 g3 h1 h2 h3 (oc (rowsOf g)) (t ++ [zrow])) (rowAt (t.length + 5)) = Zs := by rw [s2]; exact List.take_of_length_le (by rw [List.length_drop, List.length_replicate]; omega)
    have hid : nid5 t = t.length + 5 := rfl
    have hw : wr ((i : Int) + 1) = ((i + 1 : Nat) : Int) := by rw [wr_id (by omega) (by omega)]; omega
    have hz := cnt_le (isZ g) i
    have hw2 : wr ((cnt (isZ g) i : Int) + 1) = ((cnt (isZ g) i + 1 : Nat) : Int) := by rw [wr_id (by omega) (by omega)]; omega
    obtain ⟨t', r1, r2⟩ := ih (i + 1) fuel (t ++ [zrow]) (by omega) (by omega) (hT.trans (Le.app _ _))
    refine ⟨t', ?_, (Le.app _ _).trans r2⟩
    have hzz := imgF_z g hlt
    have hc : cnt (isZ g) (i + 1) = cnt (isZ g) i + (if isZ g i then 1 else 0) := rfl
    rw [hc] at r1
    simp only [itrv, rnd5, c1, c0, k1, k2, k3, k4, hid, s1, s3, hzz, Br.val, cond_true, Bool.and_self, hw, hw2]
    cases hq : isZ g i
    · rw [hq] at r1
      simp only [Bool.false_eq_true, if_false, Nat.add_zero] at r1
      simp only [Br.val, cond_true, cond_false]
      exact r1
    · rw [hq] at r1
      simp only [if_true] at r1
      simp only [Br.val, cond_true]
      exact r1

theorem ld3 (a b c : Int) : (loadG Try.prog [gb a b c] 24 (p 0)).1 = true := by kernel_rfl

theorem main_run (g h : Geo) (u v : List Value) : ∃ M, main5 some u v g.a g.b g.c h.a h.b h.c (rowsOf g) = some (B true, M) := by
  have hn := g.hn
  have hm := h.hn
  have hl : (rowsOf g).length = g.n := by simp
  have hrB : (rB (rowsOf g)).length = g.n := by simp [rB]
  have d1 : decide (((rowsOf g).length : Int) < 20) = false := decide_eq_false (by rw [hl]; omega)
  have d2 : (((rowsOf g).length : Int) != sectors g.a g.b g.c) = false := by rw [g.sectors_, hl]; simp
  have d3 : decide ((0 : Int) < ((rowsOf g).length : Int)) = true := decide_eq_true (by rw [hl]; omega)
  obtain ⟨k1, k2, k3, k4⟩ := oc_row g (u := u) (v := v) (g1 := g.a) (g2 := g.b) (g3 := g.c) (h1 := h.a) (h2 := h.b) (h3 := h.c) (Le.refl _) (r := 0) (by omega)
  rw [show ((0 : Nat) : Int) = 0 from rfl] at k1 k2
  have k5 : kOk (rowAt (0 + 5)) = true := rfl
  rw [imgF_zero] at k4
  obtain ⟨a4, a5, a6, a7⟩ := at8_geo g
  unfold main5
  rw [d1, d2, d3, k1, k2, k4, k3, k5, read_geo, a4, a5, a6, a7]
  simp only [cond_true, cond_false, Bool.and_self]
  -- behind the superblock
  have hblk : (mem5 u v g.a g.b g.c h.a h.b h.c (oc (rowsOf g)) (rB (rowsOf g) ++ [gb 0 0 0])).blk (nid5 (rB (rowsOf g))) = gb 0 0 0 := blk5_some (app_last _ _)
  have hput : putG (mem5 u v g.a g.b g.c h.a h.b h.c (oc (rowsOf g)) (rB (rowsOf g) ++ [gb 0 0 0])) 0 (nid5 (rB (rowsOf g))) 0 3 = true := by
    simp only [putG, hblk]
    rfl
  have hputC : putC (mem5 u v g.a g.b g.c h.a h.b h.c (oc (rowsOf g)) (rB (rowsOf g) ++ [gb 0 0 0])) (nid5 (rB (rowsOf g))) 0 [I g.a, I g.b, I g.c] = [I g.a, I g.b, I g.c] := by
    simp only [putC, hblk]
    rfl
  have hset : (rB (rowsOf g) ++ [gb 0 0 0]).set (rB (rowsOf g)).length (gb g.a g.b g.c) = rB (rowsOf g) ++ [gb g.a g.b g.c] := by
    rw [List.set_append_right _ _ (Nat.le_refl _)]
    simp
  unfold cont5
  rw [hput, hputC, hblk, hset, hl]
  simp only [cond_true, Bool.and_self]
  obtain ⟨t', r1, r2⟩ := loop5 g ⟨nid5 (rB (rowsOf g))⟩ true 0 u v g.a g.b g.c h.a h.b h.c g.n 0 N13 (rB (rowsOf g) ++ [gb g.a g.b g.c]) (by omega) (by unfold N13; omega) (Le.app _ _)
  rw [show ((cnt (isZ g) 0 : Nat) : Int) = 0 from rfl, show ((0 : Nat) : Int) = 0 from rfl] at r1
  rw [r1]
  simp only [optK]
  -- the end
  show ∃ M, cond (may h.a h.b h.c) (two5 some (mk5 ⟨g.n, g.n⟩ ⟨nid5 (rB (rowsOf g))⟩ true 0 (cnt (isZ g) g.n : Int) (g.n : Int) u v g.a g.b g.c h.a h.b h.c (oc (rowsOf g)) t')
    (.slice (some ⟨(mem5 u v g.a g.b g.c h.a h.b h.c (oc (rowsOf g)) t').length, 0, none⟩) (imgRows h.a h.b h.c).length (imgRows h.a h.b h.c).length)
      ((mem5 u v g.a g.b g.c h.a h.b h.c (oc (rowsOf g)) t') ++ layRows (mem5 u v g.a g.b g.c h.a h.b h.c (oc (rowsOf g)) t').length (imgRows h.a h.b h.c))) _ = some (B true, M)
  rw [h.may_, imgRows_geo h]
  simp only [cond_true]
  obtain ⟨M0, hM0⟩ : ∃ M0, mem5 u v g.a g.b g.c h.a h.b h.c (oc (rowsOf g)) t' = M0 := ⟨_, rfl⟩
  have happ : ∀ (b : Nat) (k : Blk), M0.blk b = k → k.live = true → (M0 ++ layRows M0.length (rowsOf h)).blk b = k := by
    intro b k hb hk
    have h1 := blk_live (M := M0) (b := b) (by rw [hb]; exact hk)
    unfold Mem.blk
    rw [List.getElem?_append_left (lt_of_getElem? h1), h1, hb]
    rfl
  have T1 := table_ok (M := M0 ++ layRows M0.length (rowsOf h)) (b := 4) (n := g.n) (cs := oc (rowsOf g)) (rows := rowsOf g) (happ _ _ (by rw [← hM0]; rfl) rfl) (by simp [oc]) hl (by omega) (by
    intro r hr
    obtain ⟨q1, q2, q3⟩ := imgF_ok g r
    exact ⟨r + 5, imgF g r, oc_get g hr, rowsOf_get g hr, happ _ _ (by rw [← hM0]; exact blk5_some (r2 _ _ (Le.app _ _ _ _ (rB_get g hr)))) rfl, q1, q2, q3⟩)
  have hlh : (rowsOf h).length = h.n := by simp
  have lay : ∀ (j : Nat) (k : Blk), (layRows M0.length (rowsOf h))[j]? = some k → (M0 ++ layRows M0.length (rowsOf h)).blk (M0.length + j) = k := by
    intro j k hk
    unfold Mem.blk
    rw [List.getElem?_append_right (by omega), show M0.length + j - M0.length = j by omega, hk]
    rfl
  have T2 := table_ok (M := M0 ++ layRows M0.length (rowsOf h)) (b := M0.length) (n := h.n) (cs := (List.range (rowsOf h).length).map fun r => .slice (some ⟨M0.length + (1 + r), 0, none⟩) ((rowsOf h).getD r []).length ((rowsOf h).getD r []).length) (rows := rowsOf h) (lay 0 _ rfl) (by simp) hlh (by omega) (by
    intro r hr
    obtain ⟨q1, q2, q3⟩ := imgF_ok h r
    have e : (rowsOf h).getD r [] = imgF h r := by simp [List.getD, hr]
    refine ⟨M0.length + (1 + r), imgF h r, ?_, rowsOf_get h hr, lay (1 + r) _ ?_, q1, q2, q3⟩
    · rw [List.getElem?_map, List.getElem?_range (by rw [hlh]; exact hr), Option.map_some, e, q1]
    · show (_ :: _)[1 + r]? = _
      rw [Nat.add_comm, List.getElem?_cons_succ]
      exact rB_get h hr)
  have hsl : (HV.enc (⟨g.n, g.n⟩ : SL 4) : Value) = .slice (some ⟨4, 0, none⟩) g.n g.n := rfl
  rw [hM0]
  unfold two5
  dsimp only
  rw [hsl, hlh, T1.1, T1.2, T2.1, T2.2, eqImg g h]
  simp only [Bool.and_self, cond_true]
  unfold fin5
  dsimp only
  have hx8 : (M0 ++ layRows M0.length (rowsOf h)).blk (nid5 (rB (rowsOf g))) = gb g.a g.b g.c := by
    refine happ _ _ ?_ rfl
    rw [← hM0]
    refine blk5_some (j := (rB (rowsOf g)).length) (r2 _ _ ?_)
    exact app_last _ _
  have hld : (ld8 (M0 ++ layRows M0.length (rowsOf h)) ⟨nid5 (rB (rowsOf g))⟩).1 = true := by
    have := loadG_at (P := Try.prog) (M := M0 ++ layRows M0.length (rowsOf h)) (M' := [gb g.a g.b g.c]) (t := 24) (b := nid5 (rB (rowsOf g))) (b' := 0) hx8
    show (loadG Try.prog _ 24 (.pointer (some ⟨nid5 (rB (rowsOf g)), 0, none⟩))).1 = true
    rw [this]
    exact ld3 _ _ _
  have c0 : c8 (M0 ++ layRows M0.length (rowsOf h)) ⟨nid5 (rB (rowsOf g))⟩ 0 = g.a := by unfold c8; rw [hx8]; rfl
  have c1 : c8 (M0 ++ layRows M0.length (rowsOf h)) ⟨nid5 (rB (rowsOf g))⟩ 1 = g.b := by unfold c8; rw [hx8]; rfl
  have c2 : c8 (M0 ++ layRows M0.length (rowsOf h)) ⟨nid5 (rB (rowsOf g))⟩ 2 = g.c := by unfold c8; rw [hx8]; rfl
  have i3 : is3 g.a g.b g.c g.a g.b g.c = true := by simp [is3]
  have hb : (((cnt (isZ g) g.n : Nat) : Int) == blocks g.a g.b g.c) = true := by rw [cnt_all, g.blocks_]; simp
  rw [hld, c0, c1, c2, i3, hb]
  have hpr : (is3 g.a g.b g.c h.a h.b h.c == is3 g.a g.b g.c h.a h.b h.c) = true := by simp
  rw [hpr]
  exact ⟨_, rfl⟩

theorem low_rg (x k : Int) (h0 : 0 < k) (hk : k ≤ 1000) : 0 ≤ low x k ∧ low x k < k := by
  have h : IntKind.u64.wrap k = k := by
    show k % _ = k
    exact Int.emod_eq_of_lt (by omega) (by
      refine Int.lt_of_le_of_lt hk ?_
      decide)
  have h1 : 0 ≤ IntKind.u64.wrap x := by
    show 0 ≤ x % _
    exact Int.emod_nonneg _ (by decide)
  unfold low
  rw [h, Int.tmod_eq_emod_of_nonneg h1]
  have h2 := Int.emod_nonneg (IntKind.u64.wrap x) (show k ≠ 0 by omega)
  have h3 := Int.emod_lt_of_pos (IntKind.u64.wrap x) h0
  rw [wr_id (by omega) (by omega)]
  exact ⟨h2, h3⟩
theorem geo_in (x y z : Int) : ∃ g : Geo, g.a = gA x ∧ g.b = gB y ∧ g.c = gC z := by
  have h1 := low_rg x 3 (by omega) (by omega)
  have h2 := low_rg y 8 (by omega) (by omega)
  have h3 := low_rg z 81 (by omega) (by omega)
  have w1 : gA x = 1 + low x 3 := wr_id (by omega) (by omega)
  have w2 : gB y = 4 + 4 * low y 8 := by
    unfold gB
    rw [wr_id (x := 4 * low y 8) (by omega) (by omega), wr_id (by omega) (by omega)]
  have w3 : gC z = 16 + low z 81 := wr_id (by omega) (by omega)
  refine ⟨⟨(1 + low x 3).toNat, (1 + low y 8).toNat, (16 + low z 81).toNat, by omega, by omega, by omega⟩, ?_, ?_, ?_⟩
  · rw [w1]; show (((1 + low x 3).toNat : Nat) : Int) = _; omega
  · rw [w2]; show ((4 * (1 + low y 8).toNat : Nat) : Int) = _; omega
  · rw [w3]; show (((16 + low z 81).toNat : Nat) : Int) = _; omega

theorem run5 (a1 a2 a3 b1 b2 b3 : Int) : ∃ M, bn C13 L5 5 [gv a1 a2 a3, gv b1 b2 b3] [] 0 some = some (B true, M) := by
  rw [r5]
  obtain ⟨g, ga, gb', gc⟩ := geo_in a1 a2 a3
  obtain ⟨h, ha, hb, hc⟩ := geo_in b1 b2 b3
  rw [← ga, ← gb', ← gc, ← ha, ← hb, ← hc, g.may_, imgRows_geo g]
  exact main_run g h _ _
end Go.Proofs.Yteeclgeoconekaa
