/-
  What the loops of Image leave: rows by their places; plain.
-/
import Derived.Test.YteeclgeoconekaaQ9
import Derived.Test.YteeclgeoconekaaP1
namespace Go.Proofs.Yteeclgeoconekaa
open Go.Ev

/-! ### tables of rows -/
/-- Where a row lies: the first row's block, or behind. -/
def RAt (fst : List Value) (t : Mem) (id : Nat) (l : List Value) : Prop := (id = 1 ∧ l = fst) ∨ ∃ j, id = j + 3 ∧ t[j]? = some ⟨l, 5, true⟩
def Le (t t' : Mem) : Prop := ∀ (j : Nat) (k : Blk), t[j]? = some k → t'[j]? = some k
theorem Le.refl (t : Mem) : Le t t := fun _ _ h => h
theorem Le.trans {t u v : Mem} (h : Le t u) (h' : Le u v) : Le t v := fun j k e => h' j k (h j k e)
theorem Le.app (t u : Mem) : Le t (t ++ u) := fun j k h => by rw [List.getElem?_append_left (lt_of_getElem? h)]; exact h
theorem RAt.mono {fst : List Value} {t t' : Mem} {id : Nat} {l : List Value} (h : RAt fst t id l) (hl : Le t t') : RAt fst t' id l := h.imp (fun h => h) fun ⟨j, e, g⟩ => ⟨j, e, hl j _ g⟩
theorem RAt.lt {fst : List Value} {t : Mem} {id : Nat} {l : List Value} (h : RAt fst t id l) : id < t.length + 3 ∧ id ≠ 2 ∧ id ≠ 0 := by
  rcases h with ⟨rfl, _⟩ | ⟨j, rfl, e⟩
  · omega
  · have := lt_of_getElem? e; omega

structure Img (n : Nat) (fst : List Value) (cs : List Value) (t : Mem) (f : Nat → List Value) : Prop where
  len : cs.length = n
  row : ∀ r, r < n → ∃ id, cs[r]? = some (rowAt id) ∧ RAt fst t id (f r)
  inj : ∀ r r' id, r < n → r' < n → cs[r]? = some (rowAt id) → cs[r']? = some (rowAt id) → r = r'

def fset (f : Nat → List Value) (r0 : Nat) (l : List Value) : Nat → List Value := fun r => if r = r0 then l else f r

theorem rowAt_inj {a b : Nat} (h : rowAt a = rowAt b) : a = b := by
  simp only [Value.slice.injEq, Option.some.injEq, Addr.mk.injEq] at h
  exact h.1.1

theorem Img.mono {n : Nat} {fst cs : List Value} {t t' : Mem} {f : Nat → List Value} (h : Img n fst cs t f) (hl : Le t t') : Img n fst cs t' f :=
  ⟨h.len, fun r hr => let ⟨id, a, b⟩ := h.row r hr; ⟨id, a, b.mono hl⟩, h.inj⟩

/-- A row set: at a block that no row has. -/
theorem Img.set {n : Nat} {fst cs : List Value} {t t' : Mem} {f : Nat → List Value} (h : Img n fst cs t f) (hl : Le t t') {r0 id : Nat} (hr0 : r0 < n) (hid : ∀ r, r < n → cs[r]? ≠ some (rowAt id)) {l : List Value} (hat : RAt fst t' id l) :
    Img n fst (cs.set r0 (rowAt id)) t' (fset f r0 l) := by
  have hlen := h.len
  refine ⟨by simp [h.len], fun r hr => ?_, fun r r' id' hr hr' e e' => ?_⟩
  · by_cases hrr : r = r0
    · subst hrr
      exact ⟨id, by rw [List.getElem?_set_self (by omega)], by simpa [fset] using hat⟩
    · obtain ⟨i, a, b⟩ := h.row r hr
      refine ⟨i, by rw [List.getElem?_set_ne (fun x => hrr x.symm)]; exact a, ?_⟩
      simp only [fset, if_neg hrr]
      exact b.mono hl
  · by_cases h1 : r = r0 <;> by_cases h2 : r' = r0
    · omega
    · subst h1
      rw [List.getElem?_set_self (by omega)] at e
      rw [List.getElem?_set_ne (fun x => h2 x.symm)] at e'
      have := rowAt_inj (Option.some.inj e)
      subst this
      exact absurd e' (hid r' hr')
    · subst h2
      rw [List.getElem?_set_self (by omega)] at e'
      rw [List.getElem?_set_ne (fun x => h1 x.symm)] at e
      have := rowAt_inj (Option.some.inj e')
      subst this
      exact absurd e (hid r hr)
    · rw [List.getElem?_set_ne (fun x => h1 x.symm)] at e
      rw [List.getElem?_set_ne (fun x => h2 x.symm)] at e'
      exact h.inj r r' id' hr hr' e e'

/-- A row set at a new block. -/
theorem Img.setNew {n : Nat} {fst cs : List Value} {t t' : Mem} {f : Nat → List Value} (h : Img n fst cs t f) (hl : Le t t') {r0 j : Nat} (hr0 : r0 < n) (hj : t.length ≤ j) {l : List Value} (hat : t'[j]? = some ⟨l, 5, true⟩) :
    Img n fst (cs.set r0 (rowAt (j + 3))) t' (fset f r0 l) := by
  refine h.set hl hr0 (fun r hr e => ?_) (.inr ⟨j, rfl, hat⟩)
  obtain ⟨id, a, b⟩ := h.row r hr
  rw [a] at e
  have := rowAt_inj (Option.some.inj e)
  have := b.lt
  omega

/-! ### the first loop -/
theorem loop1 (f : SL 1) (n : Nat) (hn : n ≤ 900) (a b c : Int) (fst : List Value) : ∀ (m i fuel : Nat), i + m = n → m < fuel →
    itrv rnd131 fuel (mk131 f ⟨n, n⟩ (n : Int) (i : Int) a b c fst ((List.range i).map (fun r => rowAt (r + 3)) ++ List.replicate m nilS) (List.replicate i zrow)) =
      some (mk131 f ⟨n, n⟩ (n : Int) (n : Int) a b c fst ((List.range n).map fun r => rowAt (r + 3)) (List.replicate n zrow)) := by
  intro m
  induction m with
  | zero =>
    intro i fuel hi hf
    obtain ⟨fuel, rfl⟩ : ∃ n, fuel = n + 1 := ⟨fuel - 1, by omega⟩
    obtain rfl : i = n := by omega
    have h1 : decide ((i : Int) < (i : Int)) = false := by simp
    simp only [itrv, rnd131, h1, Br.val, cond_false, cond_true, List.replicate_zero, List.append_nil]
  | succ m ih =>
    intro i fuel hi hf
    obtain ⟨fuel, rfl⟩ : ∃ n, fuel = n + 1 := ⟨fuel - 1, by omega⟩
    have h1 : decide ((i : Int) < (n : Int)) = true := decide_eq_true (by omega)
    have h0 : decide ((0 : Int) ≤ (i : Int)) = true := decide_eq_true (by omega)
    have hw : wr ((i : Int) + 1) = ((i + 1 : Nat) : Int) := by rw [wr_id (by omega) (by omega)]; omega
    have hl : ((List.range i).map (fun r => rowAt (r + 3)) ++ List.replicate (m + 1) nilS).length = n := by simp; omega
    have h2 : Nat.ble (0 + (i : Int).toNat * 1 + 1) ((List.range i).map (fun r => rowAt (r + 3)) ++ List.replicate (m + 1) nilS).length = true := by
      rw [hl]; exact Nat.ble_eq_true_of_le (by simp; omega)
    have e1 : ((List.range i).map (fun r => rowAt (r + 3)) ++ List.replicate (m + 1) nilS).set (0 + (i : Int).toNat * 1) (rowAt (nid (List.replicate i zrow))) = (List.range (i + 1)).map (fun r => rowAt (r + 3)) ++ List.replicate m nilS := by
      have : 0 + (i : Int).toNat * 1 = i := by simp
      rw [this, List.set_append_right _ _ (by simp)]
      simp only [List.length_map, List.length_range, Nat.sub_self, List.replicate_succ, List.set_cons_zero, List.range_succ, List.map_append, List.map_cons, List.map_nil, List.append_assoc, List.singleton_append]
      simp only [nid, List.length_replicate]
    have e2 : List.replicate i zrow ++ [zrow] = List.replicate (i + 1) zrow := by rw [List.replicate_succ']
    simp only [itrv, rnd131, h1, h0, h2, Br.val, cond_true, Bool.and_self, hw, e1, e2]
    exact ih (i + 1) fuel (by omega) (by omega)

theorem img1 (n : Nat) (fst : List Value) : Img n fst ((List.range n).map fun r => rowAt (r + 3)) (List.replicate n zrow) (fun _ => List.replicate 128 Z8) := by
  refine ⟨by simp, fun r hr => ⟨r + 3, by simp [hr], .inr ⟨r, rfl, by simp [hr]⟩⟩, fun r r' id hr hr' e e' => ?_⟩
  simp only [List.getElem?_map, List.getElem?_range hr, List.getElem?_range hr', Option.map_some] at e e'
  have h1 := rowAt_inj (Option.some.inj e)
  have h2 := rowAt_inj (Option.some.inj e')
  omega

/-! ### geometries, in numbers -/
structure Geo where
  A : Nat
  B : Nat
  C : Nat
  hA : 1 ≤ A ∧ A ≤ 8
  hB : 1 ≤ B ∧ B ≤ 8
  hC : 16 ≤ C ∧ C ≤ 96
namespace Geo
variable (g : Geo)
abbrev a : Int := (g.A : Int)
abbrev b : Int := ((4 * g.B : Nat) : Int)
abbrev c : Int := (g.C : Int)
def L : Nat := 1 + g.B + g.C
def n : Nat := 2 + g.A * g.L
theorem hL : 18 ≤ g.L ∧ g.L ≤ 105 := by have := g.hB; have := g.hC; unfold L; omega
theorem hAL : g.A * g.L ≤ 840 := Nat.mul_le_mul g.hA.2 g.hL.2
theorem hn : 20 ≤ g.n ∧ g.n ≤ 842 := by
  have h := g.hAL
  have h2 : 1 * 18 ≤ g.A * g.L := Nat.mul_le_mul g.hA.1 g.hL.1
  unfold n; omega
theorem fac : g.a = (g.A : Int) ∧ g.b = 4 * (g.B : Int) ∧ g.c = (g.C : Int) := ⟨rfl, by show ((4 * g.B : Nat) : Int) = _; push_cast; rfl, rfl⟩
theorem R : R3 (g.a, g.b, g.c) := by
  have := g.hA; have := g.hB; have := g.hC
  obtain ⟨ea, eb, ec⟩ := g.fac
  exact ⟨by dsimp only; omega, by dsimp only; omega, by dsimp only; omega, by dsimp only; omega, by dsimp only; omega, by dsimp only; omega, by dsimp only; omega⟩
theorem may_ : may g.a g.b g.c = true := g.R.may
theorem sectors_ : sectors g.a g.b g.c = (g.n : Int) := by
  have h : sec (g.a, g.b, g.c) = _ := g.R.sec
  have e : sec (g.a, g.b, g.c) = sectors g.a g.b g.c := rfl
  rw [← e, h]
  dsimp only
  have : 1 + g.b / 4 + g.c = (g.L : Int) := by obtain ⟨ea, eb, ec⟩ := g.fac; unfold L; omega
  rw [this]
  unfold n
  push_cast
  rfl
theorem long_ : long g.b g.c = (g.L : Int) := by
  have := g.hB; have := g.hC
  obtain ⟨ea, eb, ec⟩ := g.fac
  rw [long_eq (by omega) (by omega) (by omega) (by omega)]
  unfold L; omega
theorem inodes_ : inodes g.a g.b g.c = ((g.A * (4 * g.B) : Nat) : Int) := by
  have h : ni (g.a, g.b, g.c) = _ := g.R.ni
  have e : ni (g.a, g.b, g.c) = inodes g.a g.b g.c := rfl
  rw [← e, h]
  push_cast
  rfl
theorem blocks_ : blocks g.a g.b g.c = ((g.A * g.C : Nat) : Int) := by
  have h : nb (g.a, g.b, g.c) = _ := g.R.nb
  have e : nb (g.a, g.b, g.c) = blocks g.a g.b g.c := rfl
  rw [← e, h]
  push_cast
  rfl
theorem kL {k : Nat} (h : k < g.A) : k * g.L + g.L ≤ g.A * g.L := by
  have := Nat.mul_le_mul_right g.L (show k + 1 ≤ g.A by omega)
  rw [Nat.add_mul, Nat.one_mul] at this
  exact this
theorem groupAt_ {k : Nat} (h : k < g.A) : groupAt g.b g.c k = ((2 + k * g.L : Nat) : Int) := by
  have h1 := g.kL h
  have h2 := g.hAL
  unfold groupAt
  rw [g.long_]
  have e : (k : Int) * (g.L : Int) = ((k * g.L : Nat) : Int) := by push_cast; rfl
  rw [e, wr_id (x := ((k * g.L : Nat) : Int)) (by omega) (by omega), wr_id (by omega) (by omega)]
  omega
end Geo
end Go.Proofs.Yteeclgeoconekaa


/-
  What the second and the third loop of Image leave; plain.
-/
namespace Go.Proofs.Yteeclgeoconekaa
open Go.Ev

theorem blk3 (a b c : Int) (fst cs : List Value) (T : Mem) (j : Nat) : (mem3 a b c fst cs T).blk (j + 3) = T[j]?.getD deadBlk := rfl
theorem blk3_some {a b c : Int} {fst cs : List Value} {T : Mem} {j : Nat} {k : Blk} (h : T[j]? = some k) : (mem3 a b c fst cs T).blk (j + 3) = k := by rw [blk3, h]; rfl
theorem nid_eq (t : Mem) : nid t = t.length + 3 := rfl
theorem app_last (t : Mem) (k : Blk) : (t ++ [k])[t.length]? = some k := by simp

theorem bd_b (g : Geo) : bitsN g.b = (g.B + 1) / 2 ∧ 1 ≤ bitsN g.b ∧ bitsN g.b ≤ 4 := by
  have := g.hB
  obtain ⟨_, eb, _⟩ := g.fac
  have : bitsN g.b = (g.B + 1) / 2 := by unfold bitsN; rw [eb]; omega
  omega
theorem bd_c (g : Geo) : 2 ≤ bitsN g.c ∧ bitsN g.c ≤ 12 := by
  have := g.hC
  obtain ⟨_, _, ec⟩ := g.fac
  unfold bitsN; rw [ec]; omega

/-- The inodes' bits of a group. -/
def nodeBits (g : Geo) (k : Nat) : List Value := if k = 0 then bit0 (List.replicate (bitsN g.b) Z8) else List.replicate (bitsN g.b) Z8
def groupR (g : Geo) (k : Nat) : List Value := sealRow 71 (groupL (nodeBits g k) (List.replicate (bitsN g.c) Z8))
theorem nodeBits_ok (g : Geo) (k : Nat) : (nodeBits g k).length = bitsN g.b ∧ u8s (nodeBits g k) = true ∧ u8r (nodeBits g k) = true := by
  unfold nodeBits
  split
  · obtain ⟨h1, h2, h3⟩ := bit0_ok (cs := List.replicate (bitsN g.b) Z8) u8s_rep u8r_rep
    exact ⟨by rw [h1]; simp, h2, h3⟩
  · exact ⟨by simp, u8s_rep, u8r_rep⟩
theorem groupR_ok (g : Geo) (k : Nat) : (groupR g k).length = 128 ∧ u8s (groupR g k) = true ∧ u8r (groupR g k) = true := by
  obtain ⟨h1, h2, h3⟩ := nodeBits_ok g k
  have := bd_b g; have := bd_c g
  exact groupRow_ok (by omega) (by simp; omega) h2 u8s_rep h3 u8r_rep

theorem wr_nat {x : Nat} (h : x ≤ 1000000) : wr (x : Int) = (x : Int) := wr_id (by omega) (by omega)

/-- A round of the second loop, behind the inodes' bits. -/
theorem rest132_val (g : Geo) {k : Nat} (hk : k < g.A) (fst cs : List Value) (hcs : cs.length = g.n) (T : Mem) (j m : Nat) (sp : Option Nat) (xs : List Value) (hT : T[j]? = some ⟨xs, 5, true⟩) (hm : xs.length = m) (h1 : 1 ≤ m) (h4 : m ≤ 4) (hu : u8s xs = true) (hr : u8r xs = true) (d : S132) :
    (rest132 ⟨g.n, g.n⟩ g.a (k : Int) g.a g.b g.c fst cs (.slice (some ⟨j + 3, 0, sp⟩) m m) T d).val =
      some (.next (mk132 ⟨g.n, g.n⟩ g.a ((k + 1 : Nat) : Int) g.a g.b g.c fst (cs.set (2 + k * g.L) (rowAt (T.length + 1 + 3))) ((T ++ [bitsB g.c]) ++ [⟨sealRow 71 (groupL xs (List.replicate (bitsN g.c) Z8)), 5, true⟩]))) := by
  obtain ⟨ea, eb, ec⟩ := g.fac
  have hA := g.hA
  have hC := g.hC
  have hn := g.hn
  have hkL := g.kL hk
  have hL := g.hL
  have hnn : g.n = 2 + g.A * g.L := rfl
  have hc2 := bd_c g
  have e0 : between (k : Int) 0 (wr (g.a - 1)) = true := by
    rw [ea, wr_id (by omega) (by omega)]
    simp only [between, Bool.and_eq_true, decide_eq_true_eq]; omega
  have e1 : decide (0 ≤ g.c) = true := decide_eq_true (by omega)
  have e2 : decide (g.c ≤ 1000) = true := decide_eq_true (by omega)
  have hTj : (T ++ [bitsB g.c])[j]? = some ⟨xs, 5, true⟩ := by rw [List.getElem?_append_left (lt_of_getElem? hT)]; exact hT
  obtain ⟨s1, s2⟩ := bOk_mk (M := mem3 g.a g.b g.c fst cs (T ++ [bitsB g.c])) (b := j + 3) (o := 0) (n := m) (c := m) (sp := sp) (blk3_some hTj) (by omega) hu hr (by omega)
  have s3 : bRow (mem3 g.a g.b g.c fst cs (T ++ [bitsB g.c])) (.slice (some ⟨j + 3, 0, sp⟩) m m) = xs := by rw [s2]; simp [← hm]
  obtain ⟨y1, y2⟩ := bOk_mk (M := mem3 g.a g.b g.c fst cs (T ++ [bitsB g.c])) (b := T.length + 3) (o := 0) (n := bitsN g.c) (c := bitsN g.c) (sp := none) (blk3_some (app_last T _)) (by simp) u8s_rep u8r_rep (by omega)
  have y3 : bRow (mem3 g.a g.b g.c fst cs (T ++ [bitsB g.c])) (bitsV (nid T) g.c) = List.replicate (bitsN g.c) Z8 := by
    refine Eq.trans y2 ?_
    simp
  have y4 : bOk (mem3 g.a g.b g.c fst cs (T ++ [bitsB g.c])) (bitsV (nid T) g.c) = true := y1
  have l1 : Nat.ble 1 (lenOf (.slice (some ⟨j + 3, 0, sp⟩) m m)) = true := Nat.ble_eq_true_of_le h1
  have l2 : Nat.ble (lenOf (.slice (some ⟨j + 3, 0, sp⟩) m m)) 4 = true := Nat.ble_eq_true_of_le h4
  have l3 : Nat.ble 2 (bitsN g.c) = true := Nat.ble_eq_true_of_le hc2.1
  have l4 : Nat.ble (bitsN g.c) 12 = true := Nat.ble_eq_true_of_le hc2.2
  have eat := g.groupAt_ hk
  have q1 : decide (0 ≤ groupAt g.b g.c (k : Int)) = true := by rw [eat]; exact decide_eq_true (by omega)
  have q2 : decide (groupAt g.b g.c (k : Int) < (g.n : Int)) = true := by rw [eat]; exact decide_eq_true (by omega)
  have q3 : 0 + (groupAt g.b g.c (k : Int)).toNat * 1 = 2 + k * g.L := by rw [eat, Int.toNat_natCast]; omega
  have q4 : Nat.ble (2 + k * g.L + 1) cs.length = true := by rw [hcs]; exact Nat.ble_eq_true_of_le (by omega)
  have hw : wr ((k : Int) + 1) = ((k + 1 : Nat) : Int) := by rw [wr_id (by omega) (by omega)]; omega
  have hid : nid (T ++ [bitsB g.c]) = T.length + 1 + 3 := by simp [nid]
  simp only [rest132, g.may_, e0, e1, e2, s1, y4, l1, l2, l3, l4, q1, q2, q4, Bool.and_self, Br.val, cond_true, hw, s3, y3, q3, hid]

/-- Rows set, group by group. -/
def f2 (g : Geo) (f : Nat → List Value) (k : Nat) : Nat → Nat → List Value
  | 0 => f
  | m + 1 => f2 g (fset f (2 + k * g.L) (groupR g k)) (k + 1) m

theorem loop2 (g : Geo) (fst : List Value) : ∀ (m k fuel : Nat) (cs : List Value) (t : Mem) (f : Nat → List Value), k + m = g.A → m < fuel → Img g.n fst cs t f →
    ∃ cs' t', itrv rnd132 fuel (mk132 ⟨g.n, g.n⟩ g.a (k : Int) g.a g.b g.c fst cs t) = some (mk132 ⟨g.n, g.n⟩ g.a g.a g.a g.b g.c fst cs' t') ∧ Img g.n fst cs' t' (f2 g f k m) := by
  intro m
  induction m with
  | zero =>
    intro k fuel cs t f hk hf hi
    obtain ⟨fuel, rfl⟩ : ∃ n, fuel = n + 1 := ⟨fuel - 1, by omega⟩
    obtain rfl : k = g.A := by omega
    have h1 : decide ((g.A : Int) < g.a) = false := by simp
    refine ⟨cs, t, ?_, hi⟩
    simp only [itrv, rnd132, h1, Br.val, cond_false, cond_true]
  | succ m ih =>
    intro k fuel cs t f hk hf hi
    obtain ⟨fuel, rfl⟩ : ∃ n, fuel = n + 1 := ⟨fuel - 1, by omega⟩
    obtain ⟨ea, eb, ec⟩ := g.fac
    have hB := g.hB
    have hlt : k < g.A := by omega
    have hkL := g.kL hlt
    have hL := g.hL
    have hnn : g.n = 2 + g.A * g.L := rfl
    have hb := bd_b g
    have h1 : decide ((k : Int) < g.a) = true := decide_eq_true (by omega)
    have e1 : decide (0 ≤ g.b) = true := decide_eq_true (by omega)
    have e2 : decide (g.b ≤ 1000) = true := decide_eq_true (by omega)
    obtain ⟨n1, n2, n3⟩ := nodeBits_ok g k
    -- the round
    have round : ∃ T : Mem, Le t T ∧ t.length < T.length ∧ (rnd132 (mk132 ⟨g.n, g.n⟩ g.a (k : Int) g.a g.b g.c fst cs t)).val =
        some (.next (mk132 ⟨g.n, g.n⟩ g.a ((k + 1 : Nat) : Int) g.a g.b g.c fst (cs.set (2 + k * g.L) (rowAt (T.length + 1 + 3))) ((T ++ [bitsB g.c]) ++ [⟨groupR g k, 5, true⟩]))) := by
      by_cases hk0 : k = 0
      · subst hk0
        have hz : ((((0 : Nat) : Int)) == 0) = true := rfl
        obtain ⟨s1, s2⟩ := bOk_mk (M := mem3 g.a g.b g.c fst cs (t ++ [bitsB g.b])) (b := t.length + 3) (o := 0) (n := bitsN g.b) (c := bitsN g.b) (sp := none) (blk3_some (app_last t _)) (by simp) u8s_rep u8r_rep (by omega)
        have s4 : bOk (mem3 g.a g.b g.c fst cs (t ++ [bitsB g.b])) (bitsV (nid t) g.b) = true := s1
        have s3 : bRow (mem3 g.a g.b g.c fst cs (t ++ [bitsB g.b])) (bitsV (nid t) g.b) = List.replicate (bitsN g.b) Z8 := by
          refine Eq.trans s2 ?_
          simp
        have b1 : Nat.beq (bitsN g.b) 0 = false := by
          cases e : Nat.beq (bitsN g.b) 0
          · rfl
          · have := Nat.eq_of_beq_eq_true e; omega
        have b2 : Nat.ble (bitsN g.b) 140737488355328 = true := Nat.ble_eq_true_of_le (by omega)
        refine ⟨(t ++ [bitsB g.b]) ++ [⟨bit0 (List.replicate (bitsN g.b) Z8), 5, true⟩], (Le.app _ _).trans (Le.app _ _), by simp, ?_⟩
        simp only [rnd132, h1, e1, e2, hz, s4, b1, b2, s3, Br.val, cond_true, Bool.and_self, Bool.not_false]
        have hnb : nodeBits g 0 = bit0 (List.replicate (bitsN g.b) Z8) := rfl
        rw [hnb] at n1 n2 n3
        have hid : nid (t ++ [bitsB g.b]) = (t ++ [bitsB g.b]).length + 3 := rfl
        rw [hid]
        exact rest132_val g hlt fst cs hi.len _ _ _ (some 1) _ (app_last _ _) n1 (by omega) (by omega) n2 n3 _
      · have hz : ((k : Int) == 0) = false := by simp; omega
        refine ⟨t ++ [bitsB g.b], Le.app _ _, by simp, ?_⟩
        simp only [rnd132, h1, e1, e2, hz, Br.val, cond_true, cond_false, Bool.and_self]
        have hnb : nodeBits g k = List.replicate (bitsN g.b) Z8 := by simp [nodeBits, hk0]
        have := rest132_val g hlt fst cs hi.len (t ++ [bitsB g.b]) t.length (bitsN g.b) none (List.replicate (bitsN g.b) Z8) (app_last _ _) (by simp) (by omega) (by omega) u8s_rep u8r_rep ((⟨g.n, g.n⟩, g.a, (k : Int), ()), (g.a, g.b, g.c, fst, cs, ()), t)
        unfold groupR
        rw [hnb]
        exact this
    obtain ⟨T, hT1, hT2, hv⟩ := round
    have hi2 := hi.setNew (t' := (T ++ [bitsB g.c]) ++ [⟨groupR g k, 5, true⟩]) (hT1.trans ((Le.app _ _).trans (Le.app _ _))) (r0 := 2 + k * g.L) (j := T.length + 1) (by omega) (by omega) (l := groupR g k) (by simp)
    obtain ⟨cs', t', g1, g2⟩ := ih (k + 1) fuel _ _ _ (by omega) (by omega) hi2
    refine ⟨cs', t', ?_, g2⟩
    simp only [itrv, hv]
    exact g1

/-! ### the third loop -/
theorem loadG_at {P : Program} {M M' : Mem} {t : TypeId} {b b' : Nat} (h : M.blk b = M'.blk b') : loadG P M t (.pointer (some ⟨b, 0, none⟩)) = loadG P M' t (.pointer (some ⟨b', 0, none⟩)) := by
  have e1 : ∀ b : Nat, addrOf (.pointer (some ⟨b, 0, none⟩)) = ⟨b, 0, none⟩ := fun _ => rfl
  unfold loadG
  simp only [e1, h]
  rfl
abbrev n44 : Blk := ⟨cells11 ++ List.replicate 33 (I 0), 66, true⟩
theorem load44 : (loadG Try.prog [z44] 66 (p 0)).1 = true ∧ eqC (cellsOf (loadG Try.prog [z44] 66 (p 0)).2) (ints4 2 1) = false ∧ eqC (cellsOf (loadG Try.prog [z44] 66 (p 0)).2) (ints4 0 0) = true := ⟨by kernel_rfl, by kernel_rfl, by kernel_rfl⟩
theorem load44n : (loadG Try.prog [n44] 66 (p 0)).1 = true ∧ eqC (cellsOf (loadG Try.prog [n44] 66 (p 0)).2) (ints4 2 1) = true := ⟨by kernel_rfl, by kernel_rfl⟩

def nodePos (g : Geo) (j : Nat) : Nat := 2 + (j / g.B) * g.L + 1 + j % g.B
def nodeR (j : Nat) : List Value := if j = 0 then sealRow 73 nodeL0 else sealRow 73 nodeLZ
theorem nodeR_ok (j : Nat) : (nodeR j).length = 128 ∧ u8s (nodeR j) = true ∧ u8r (nodeR j) = true := by
  unfold nodeR
  split
  · exact node0_ok
  · exact nodeZ_ok
/-- Rows set, sector by sector. -/
def f3 (g : Geo) (f : Nat → List Value) (j : Nat) : Nat → Nat → List Value
  | 0 => f
  | m + 1 => f3 g (fset f (nodePos g j) (nodeR j)) (j + 1) m
theorem nodePos_lt (g : Geo) {j : Nat} (h : j < g.A * g.B) : nodePos g j < g.n ∧ j / g.B < g.A := by
  have hB := g.hB
  have h1 : j / g.B < g.A := Nat.div_lt_of_lt_mul (by rw [Nat.mul_comm]; exact h)
  have h2 := g.kL h1
  have h3 : j % g.B < g.B := Nat.mod_lt _ (by omega)
  have hnn : g.n = 2 + g.A * g.L := rfl
  have hL : g.L = 1 + g.B + g.C := rfl
  have := g.hC
  unfold nodePos
  omega

theorem inode_facts (g : Geo) {j : Nat} (h : j < g.A * g.B) : inodeG g.a g.b g.c ((4 * j + 1 : Nat) : Int) = true ∧ inodeAt g.b g.c ((4 * j + 1 : Nat) : Int) = (nodePos g j : Int) := by
  obtain ⟨ea, eb, ec⟩ := g.fac
  have hA := g.hA
  have hB := g.hB
  have hAB : g.A * g.B ≤ 64 := Nat.mul_le_mul hA.2 hB.2
  obtain ⟨hp, hk⟩ := nodePos_lt g h
  have hn := g.hn
  have w1 : wr (((4 * j + 1 : Nat) : Int) - 1) = ((4 * j : Nat) : Int) := by rw [wr_id (by omega) (by omega)]; omega
  have hbz : g.b = ((4 * g.B : Nat) : Int) := rfl
  have d1 : (4 * j) / (4 * g.B) = j / g.B := Nat.mul_div_mul_left _ _ (by omega)
  have d2 : (4 * j) % (4 * g.B) = 4 * (j % g.B) := Nat.mul_mod_mul_left _ _ _
  have k1 : inodeK g.b ((4 * j + 1 : Nat) : Int) = ((j / g.B : Nat) : Int) := by
    unfold inodeK
    rw [w1, hbz, Int.tdiv_eq_ediv_of_nonneg (by omega)]
    have e : ((4 * j : Nat) : Int) / ((4 * g.B : Nat) : Int) = ((4 * j / (4 * g.B) : Nat) : Int) := by rw [Int.natCast_ediv]
    rw [e, d1]
    exact wr_nat (by omega)
  have i1 : inodeI g.b ((4 * j + 1 : Nat) : Int) = ((4 * (j % g.B) : Nat) : Int) := by
    unfold inodeI
    rw [w1, hbz, Int.tmod_eq_emod_of_nonneg (by omega)]
    have e : ((4 * j : Nat) : Int) % ((4 * g.B : Nat) : Int) = ((4 * j % (4 * g.B) : Nat) : Int) := by rw [Int.natCast_emod]
    rw [e, d2]
  have h3 : j % g.B < g.B := Nat.mod_lt _ (by omega)
  have hpos : nodePos g j = 2 + (j / g.B) * g.L + 1 + j % g.B := rfl
  have hL := g.kL hk
  have hgA := g.groupAt_ hk
  obtain ⟨q, hq⟩ : ∃ q, j / g.B = q := ⟨_, rfl⟩
  obtain ⟨s, hs⟩ : ∃ s, j % g.B = s := ⟨_, rfl⟩
  rw [hq] at k1 hk hpos hL hgA
  rw [hs] at i1 h3 hpos
  clear d1 d2
  constructor
  · have hin : g.A * (4 * g.B) = 4 * (g.A * g.B) := by rw [Nat.mul_left_comm]
    have b1 : between ((4 * j + 1 : Nat) : Int) 1 (inodes g.a g.b g.c) = true := by
      rw [g.inodes_, hin]
      simp only [between, Bool.and_eq_true, decide_eq_true_eq]
      omega
    have b2 : (g.b == 0) = false := by rw [eb]; simp; omega
    have b3 : decide (inodeK g.b ((4 * j + 1 : Nat) : Int) < 0) = false := by rw [k1]; exact decide_eq_false (by omega)
    have b4 : between (inodeK g.b ((4 * j + 1 : Nat) : Int)) 0 (wr (g.a - 1)) = true := by
      rw [k1, ea, wr_id (by omega) (by omega)]
      simp only [between, Bool.and_eq_true, decide_eq_true_eq]
      omega
    simp only [inodeG, b1, b2, b3, b4, g.may_]
    rfl
  · unfold inodeAt
    rw [k1, i1, hgA]
    have e4 : ((4 * s : Nat) : Int).tdiv 4 = (s : Int) := by rw [Int.tdiv_eq_ediv_of_nonneg (by omega)]; omega
    have hAL := g.hAL
    rw [e4, wr_id (x := ((2 + q * g.L : Nat) : Int) + 1) (by omega) (by omega), wr_id (x := (s : Int)) (by omega) (by omega), wr_id (by omega) (by omega), hpos]
    omega

theorem fin133_val (g : Geo) {j : Nat} (hj : j < g.A * g.B) (fst cs row : List Value) (hcs : cs.length = g.n) (T : Mem) (d : S133) :
    (fin133 ⟨g.n, g.n⟩ ((4 * j + 1 : Nat) : Int) g.a g.b g.c fst cs row T d).val =
      some (.next (mk133 ⟨g.n, g.n⟩ ((4 * (j + 1) + 1 : Nat) : Int) g.a g.b g.c fst (cs.set (nodePos g j) (rowAt (T.length + 3))) (T ++ [⟨sealRow 73 row, 5, true⟩]))) := by
  obtain ⟨_, h2⟩ := inode_facts g hj
  obtain ⟨h3, _⟩ := nodePos_lt g hj
  have hAB : g.A * g.B ≤ 64 := Nat.mul_le_mul g.hA.2 g.hB.2
  have q1 : decide (0 ≤ inodeAt g.b g.c ((4 * j + 1 : Nat) : Int)) = true := by rw [h2]; exact decide_eq_true (by omega)
  have q2 : decide (inodeAt g.b g.c ((4 * j + 1 : Nat) : Int) < (g.n : Int)) = true := by rw [h2]; exact decide_eq_true (by omega)
  have q3 : 0 + (inodeAt g.b g.c ((4 * j + 1 : Nat) : Int)).toNat * 1 = nodePos g j := by rw [h2]; simp
  have q4 : Nat.ble (nodePos g j + 1) cs.length = true := by rw [hcs]; exact Nat.ble_eq_true_of_le (by omega)
  have hw : wr (((4 * j + 1 : Nat) : Int) + 4) = ((4 * (j + 1) + 1 : Nat) : Int) := by rw [wr_id (by omega) (by omega)]; omega
  have hid : nid T = T.length + 3 := rfl
  simp only [fin133, q1, q2, q4, Bool.and_self, Br.val, cond_true, q3, hw, hid]

theorem loop3 (g : Geo) (fst : List Value) : ∀ (m j fuel : Nat) (cs : List Value) (t : Mem) (f : Nat → List Value), j + m = g.A * g.B → m < fuel → Img g.n fst cs t f →
    ∃ z cs' t', itrv rnd133 fuel (mk133 ⟨g.n, g.n⟩ ((4 * j + 1 : Nat) : Int) g.a g.b g.c fst cs t) = some (mk133 ⟨g.n, g.n⟩ z g.a g.b g.c fst cs' t') ∧ Img g.n fst cs' t' (f3 g f j m) := by
  intro m
  induction m with
  | zero =>
    intro j fuel cs t f hj hf hi
    obtain ⟨fuel, rfl⟩ : ∃ n, fuel = n + 1 := ⟨fuel - 1, by omega⟩
    have h1 : decide (((4 * j + 1 : Nat) : Int) ≤ inodes g.a g.b g.c) = false := by
      rw [g.inodes_]
      have : g.A * (4 * g.B) = 4 * (g.A * g.B) := by rw [Nat.mul_left_comm]
      exact decide_eq_false (by omega)
    refine ⟨((4 * j + 1 : Nat) : Int), cs, t, ?_, hi⟩
    simp only [itrv, rnd133, h1, Br.val, cond_false, cond_true]
  | succ m ih =>
    intro j fuel cs t f hj hf hi
    obtain ⟨fuel, rfl⟩ : ∃ n, fuel = n + 1 := ⟨fuel - 1, by omega⟩
    have hlt : j < g.A * g.B := by omega
    obtain ⟨i1, i2⟩ := inode_facts g hlt
    obtain ⟨hp, _⟩ := nodePos_lt g hlt
    have h1 : decide (((4 * j + 1 : Nat) : Int) ≤ inodes g.a g.b g.c) = true := by
      rw [g.inodes_]
      have : g.A * (4 * g.B) = 4 * (g.A * g.B) := by rw [Nat.mul_left_comm]
      exact decide_eq_true (by omega)
    have round : ∃ T : Mem, Le t T ∧ t.length < T.length ∧ (rnd133 (mk133 ⟨g.n, g.n⟩ ((4 * j + 1 : Nat) : Int) g.a g.b g.c fst cs t)).val =
        some (.next (mk133 ⟨g.n, g.n⟩ ((4 * (j + 1) + 1 : Nat) : Int) g.a g.b g.c fst (cs.set (nodePos g j) (rowAt (T.length + 3))) (T ++ [⟨nodeR j, 5, true⟩]))) := by
      by_cases hj0 : j = 0
      · subst hj0
        have hz : (((4 * 0 + 1 : Nat) : Int) == 1) = true := rfl
        have hblk : (mem3 g.a g.b g.c fst cs (t ++ [z44])).blk (nid t) = z44 := blk3_some (app_last t _)
        have hput : putG (mem3 g.a g.b g.c fst cs (t ++ [z44])) 0 (nid t) 0 11 = true := by
          simp only [putG, hblk]
          rfl
        have hT : (t ++ [z44]).set t.length ⟨putC (mem3 g.a g.b g.c fst cs (t ++ [z44])) (nid t) 0 cells11, ((mem3 g.a g.b g.c fst cs (t ++ [z44])).blk (nid t)).elem, ((mem3 g.a g.b g.c fst cs (t ++ [z44])).blk (nid t)).live⟩ = t ++ [n44] := by
          have e1 : putC (mem3 g.a g.b g.c fst cs (t ++ [z44])) (nid t) 0 cells11 = cells11 ++ List.replicate 33 (I 0) := by
            simp only [putC, hblk]
            rfl
          rw [e1, hblk, List.set_append_right _ _ (Nat.le_refl _)]
          simp
        have hblk2 : (mem3 g.a g.b g.c fst cs (t ++ [n44])).blk (nid t) = n44 := blk3_some (app_last t _)
        have hload : loadG Try.prog (mem3 g.a g.b g.c fst cs (t ++ [n44])) 66 (.pointer (some ⟨nid t, 0, none⟩)) = loadG Try.prog [n44] 66 (p 0) := loadG_at hblk2
        refine ⟨t ++ [n44], Le.app _ _, by simp, ?_⟩
        simp only [rnd133, h1, hz, hput, hT, Br.val, cond_true, Bool.and_self, rest133, i1, hload, load44n.1, load44n.2]
        exact fin133_val g hlt fst cs nodeL0 hi.len _ _
      · have hz : (((4 * j + 1 : Nat) : Int) == 1) = false := by simp; omega
        have hblk : (mem3 g.a g.b g.c fst cs (t ++ [z44])).blk (nid t) = z44 := blk3_some (app_last t _)
        have hload : loadG Try.prog (mem3 g.a g.b g.c fst cs (t ++ [z44])) 66 (.pointer (some ⟨nid t, 0, none⟩)) = loadG Try.prog [z44] 66 (p 0) := loadG_at hblk
        refine ⟨t ++ [z44], Le.app _ _, by simp, ?_⟩
        simp only [rnd133, h1, hz, Br.val, cond_true, cond_false, rest133, i1, hload, load44.1, load44.2.1, load44.2.2]
        have := fin133_val g hlt fst cs nodeLZ hi.len (t ++ [z44]) ((⟨g.n, g.n⟩, ((4 * j + 1 : Nat) : Int), ()), (g.a, g.b, g.c, fst, cs, ()), t)
        rw [this]
        simp [nodeR, hj0]
    obtain ⟨T, hT1, hT2, hv⟩ := round
    have hi2 := hi.setNew (t' := T ++ [⟨nodeR j, 5, true⟩]) (hT1.trans (Le.app _ _)) (r0 := nodePos g j) (j := T.length) (by omega) (by omega) (l := nodeR j) (by simp)
    obtain ⟨z, cs', t', g1, g2⟩ := ih (j + 1) fuel _ _ _ (by omega) (by omega) hi2
    refine ⟨z, cs', t', ?_, g2⟩
    simp only [itrv, hv]
    exact g1
end Go.Proofs.Yteeclgeoconekaa
