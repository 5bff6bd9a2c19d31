/-
  A table of rows that grows by appends; plain.
-/
import Derived.Test.YteeclgeoconekaaQ20
namespace Go.Proofs.Yteeclgeoconekaa
open Go.Ev

def spt (g : Geo) (r : Nat) : Option Nat := cond (isZ g r) none (some 1)
def rowV (g : Geo) (ids : List Nat) : List Value := (List.range ids.length).map fun r => sl (ids.getD r 0) 0 (spt g r) 128 128
/-- A table of the first rows, their blocks by number. -/
structure Tab (g : Geo) (M : Mem) (x : Value) (ids : List Nat) : Prop where
  hd : M[0]? = some (gb g.a g.b g.c)
  tb : ∃ b s, x = sl b 0 s ids.length ids.length ∧ ((s = none ∧ ids.length ≤ 2) ∨ s = some 1) ∧ M[b]? = some ⟨rowV g ids, 35, true⟩
  nd : ids.Nodup
  at_ : ∀ r, r < ids.length → M[ids.getD r 0]? = some ⟨imgF g r, 5, true⟩
/-- What stays: the first block, the rows, the tables. -/
def Ke (M M' : Mem) : Prop := ∀ (j : Nat) (k : Blk), M[j]? = some k → (k.elem = 5 ∨ k.elem = 35 ∨ k.elem = 24) → M'[j]? = some k
theorem Ke.app (M : Mem) (u : Mem) : Ke M (M ++ u) := fun j k h _ => by rw [List.getElem?_append_left (lt_of_getElem? h)]; exact h
theorem Ke.trans {M M' M'' : Mem} (h : Ke M M') (h' : Ke M' M'') : Ke M M'' := fun j k e t => h' j k (h j k e t) t
theorem Tab.ke {g : Geo} {M M' : Mem} {x : Value} {ids : List Nat} (h : Tab g M x ids) (hk : Ke M M') : Tab g M' x ids := by
  obtain ⟨h1, ⟨b, s, e, hs, hb⟩, h3, h4⟩ := h
  exact ⟨hk _ _ h1 (.inr (.inr rfl)), ⟨b, s, e, hs, hk _ _ hb (.inr (.inl rfl))⟩, h3, fun r hr => hk _ _ (h4 r hr) (.inl rfl)⟩

theorem app31 (M : Mem) (wall : Nat) (s x : Value) : appendB Try.prog M wall [31, 31] s x = appN M wall 35 1 24 s (srcN M 1 x) := by kernel_rfl

theorem rowV_snoc (g : Geo) (ids : List Nat) (id : Nat) : rowV g (ids ++ [id]) = rowV g ids ++ [sl id 0 (spt g ids.length) 128 128] := by
  unfold rowV
  rw [List.length_append, List.length_singleton, List.range_succ, List.map_append, List.map_singleton]
  congr 1
  · apply List.map_congr_left
    intro r hr
    have hr' : r < ids.length := List.mem_range.1 hr
    simp [List.getD, List.getElem?_append_left hr']
  · simp [List.getD]

/-- A row more. -/
theorem Tab.push {g : Geo} {M : Mem} {x : Value} {ids : List Nat} (h : Tab g M x ids) {id : Nat} (hid : id ∉ ids) (hrow : M[id]? = some ⟨imgF g ids.length, 5, true⟩) (hn : ids.length ≤ 900) :
    ∃ x' M', (appR M x (sl id 0 (spt g ids.length) 128 128)).val = some (x', M') ∧ Tab g M' x' (ids ++ [id]) ∧ (∀ (j : Nat) (k : Blk), M[j]? = some k → k.elem ≠ 35 → M'[j]? = some k) ∧ M.length ≤ M'.length := by
  obtain ⟨h1, ⟨b, s, rfl, hs, hb⟩, h3, h4⟩ := h
  have hlen : (rowV g ids).length = ids.length := by simp [rowV]
  have hb' : (M ++ [(⟨[sl id 0 (spt g ids.length) 128 128], 35, true⟩ : Blk)])[b]? = some ⟨rowV g ids, 35, true⟩ := by rw [List.getElem?_append_left (lt_of_getElem? hb)]; exact hb
  have hblk : (M ++ [(⟨[sl id 0 (spt g ids.length) 128 128], 35, true⟩ : Blk)]).blk b = ⟨rowV g ids, 35, true⟩ := by
    unfold Mem.blk
    rw [hb']
    rfl
  have hlast : (M ++ [(⟨[sl id 0 (spt g ids.length) 128 128], 35, true⟩ : Blk)]).blk M.length = ⟨[sl id 0 (spt g ids.length) 128 128], 35, true⟩ := blk_last _ _
  have hsrc : (srcN (M ++ [(⟨[sl id 0 (spt g ids.length) 128 128], 35, true⟩ : Blk)]) 1 (sl M.length 0 none 1 1)).val = some (1, [sl id 0 (spt g ids.length) 128 128]) := by
    have g1 : rowG (M ++ [(⟨[sl id 0 (spt g ids.length) 128 128], 35, true⟩ : Blk)]) M.length 0 (1 * 1) = true := by
      simp only [rowG, hlast]
      rfl
    have g2 : rowC (M ++ [(⟨[sl id 0 (spt g ids.length) 128 128], 35, true⟩ : Blk)]) M.length 0 (1 * 1) = [sl id 0 (spt g ids.length) 128 128] := by
      simp only [rowC, hlast]
      rfl
    show (Br.nd false _ (.lf (true && rowG _ M.length 0 (1 * 1)) (1, rowC _ M.length 0 (1 * 1)))).val = _
    rw [g1, g2]
    rfl
  have hgrow := growN_sl (M := M ++ [(⟨[sl id 0 (spt g ids.length) 128 128], 35, true⟩ : Blk)]) (wall := 0) (e := 35) (sz := 1) (byt := 24) (n := 1) (L := ids.length) (b := b) (sp := s) (cells := rowV g ids) (news := [sl id 0 (spt g ids.length) 128 128])
    hblk (by omega) (hs.imp And.left (fun e => e)) (Nat.zero_le _) (by omega) (by omega) (by omega)
  have hval := appN_val (s := sl b 0 s ids.length ids.length) hsrc rfl (fun e => by cases e) hgrow
  rw [← app31] at hval
  have other : ∀ (j : Nat) (k : Blk), M[j]? = some k → j ≠ b → (left s b (M ++ [(⟨[sl id 0 (spt g ids.length) 128 128], 35, true⟩ : Blk)]) ++ [(⟨rowV g ids ++ [sl id 0 (spt g ids.length) 128 128], 35, true⟩ : Blk)])[j]? = some k := by
    intro j k hj hne
    have hlt := lt_of_getElem? hj
    rw [List.getElem?_append_left (by rw [left_len, List.length_append]; omega), left_get hne, List.getElem?_append_left hlt]
    exact hj
  have keep : ∀ (j : Nat) (k : Blk), M[j]? = some k → k.elem ≠ 35 → (left s b (M ++ [(⟨[sl id 0 (spt g ids.length) 128 128], 35, true⟩ : Blk)]) ++ [(⟨rowV g ids ++ [sl id 0 (spt g ids.length) 128 128], 35, true⟩ : Blk)])[j]? = some k := by
    intro j k hj hne
    refine other j k hj fun e => ?_
    subst e
    rw [hb] at hj
    cases hj
    exact hne rfl
  have hl1 : (ids ++ [id]).length = ids.length + 1 := by simp
  refine ⟨_, _, hval, ⟨keep _ _ h1 (fun e => by cases e), ⟨(M ++ [(⟨[sl id 0 (spt g ids.length) 128 128], 35, true⟩ : Blk)]).length, some 1, by rw [hl1], .inr rfl, ?_⟩, ?_, ?_⟩, keep, ?_⟩
  · rw [rowV_snoc, ← left_len s b (M ++ [(⟨[sl id 0 (spt g ids.length) 128 128], 35, true⟩ : Blk)])]
    simp
  · rw [List.nodup_append]
    refine ⟨h3, by simp, fun a ha c hc e => ?_⟩
    rw [List.mem_singleton] at hc
    subst hc e
    exact hid ha
  · intro r hr
    rw [List.length_append, List.length_singleton] at hr
    by_cases hlt : r < ids.length
    · have : (ids ++ [id]).getD r 0 = ids.getD r 0 := by simp [List.getD, List.getElem?_append_left hlt]
      rw [this]
      exact keep _ _ (h4 r hlt) (fun e => by cases e)
    · have hr2 : r = ids.length := by omega
      subst hr2
      have : (ids ++ [id]).getD ids.length 0 = id := by simp [List.getD]
      rw [this]
      exact keep _ _ hrow (fun e => by cases e)
  · rw [List.length_append, left_len, List.length_append]; omega
end Go.Proofs.Yteeclgeoconekaa


/-
  The document's Image: what its inner loop over blocks leaves; plain.
-/
namespace Go.Proofs.Yteeclgeoconekaa
open Go.Ev

theorem loadG_same {P : Program} {M M' : Mem} {t : TypeId} {b o : Nat} (h : M.blk b = M'.blk b) : loadG P M t (.pointer (some ⟨b, o, none⟩)) = loadG P M' t (.pointer (some ⟨b, o, none⟩)) := by
  have e1 : addrOf (.pointer (some ⟨b, o, none⟩)) = ⟨b, o, none⟩ := rfl
  unfold loadG
  simp only [e1, h]
theorem gb_loads (a b c : Int) : (fG [gb a b c] 0 = true ∧ fI [gb a b c] 0 = a) ∧ (fG [gb a b c] 1 = true ∧ fI [gb a b c] 1 = b) ∧ (fG [gb a b c] 2 = true ∧ fI [gb a b c] 2 = c) := ⟨⟨by kernel_rfl, by kernel_rfl⟩, ⟨by kernel_rfl, by kernel_rfl⟩, ⟨by kernel_rfl, by kernel_rfl⟩⟩
theorem loads_hd {M : Mem} {a b c : Int} (h : M[0]? = some (gb a b c)) : (fG M 0 = true ∧ fI M 0 = a) ∧ (fG M 1 = true ∧ fI M 1 = b) ∧ (fG M 2 = true ∧ fI M 2 = c) := by
  have hb : M.blk 0 = Mem.blk [gb a b c] 0 := by
    unfold Mem.blk
    rw [h]
    rfl
  have e : ∀ k, loadG Try.prog M 3 (.pointer (some ⟨0, k, none⟩)) = loadG Try.prog [gb a b c] 3 (.pointer (some ⟨0, k, none⟩)) := fun k => loadG_same hb
  unfold fG fI
  simp only [e]
  exact gb_loads a b c
theorem Tab.lt {g : Geo} {M : Mem} {x : Value} {ids : List Nat} (h : Tab g M x ids) {i : Nat} (hi : i ∈ ids) : i < M.length := by
  obtain ⟨r, hr⟩ := List.getElem?_of_mem hi
  have hlt := lt_of_getElem? hr
  have e : ids.getD r 0 = i := by simp [List.getD, hr]
  have := h.at_ r hlt
  rw [e] at this
  exact lt_of_getElem? this

theorem ploop154 (g : Geo) (i : Int) (base : Nat) (hbase : base + g.C ≤ 900) (hrows : ∀ j, j < g.C → imgF g (base + j) = Zs ∧ isZ g (base + j) = true) : ∀ (m j fuel : Nat) (x : Value) (M : Mem) (ids : List Nat), j + m = g.C → m < fuel → Tab g M x ids → ids.length = base + j →
    ∃ x' M' ids', itrv rnd154 fuel (n154 x i (j : Int) M) = some (n154 x' i (g.C : Int) M') ∧ Tab g M' x' ids' ∧ ids'.length = base + g.C ∧ (∀ (b : Nat) (k : Blk), M[b]? = some k → k.elem ≠ 35 → M'[b]? = some k) ∧ M.length ≤ M'.length := by
  intro m
  have hC := g.hC
  induction m with
  | zero =>
    intro j fuel x M ids hj hf ht hl
    obtain ⟨fuel, rfl⟩ : ∃ n, fuel = n + 1 := ⟨fuel - 1, by omega⟩
    obtain rfl : j = g.C := by omega
    obtain ⟨_, _, f1, f2⟩ := loads_hd ht.hd
    have h1 : decide ((g.C : Int) < g.c) = false := by simp
    refine ⟨x, M, ids, ?_, ht, hl, fun _ _ h _ => h, Nat.le_refl _⟩
    simp only [itrv, n154, rnd154, f1, f2, h1, Br.val, cond_true, cond_false]
  | succ m ih =>
    intro j fuel x M ids hj hf ht hl
    obtain ⟨fuel, rfl⟩ : ∃ n, fuel = n + 1 := ⟨fuel - 1, by omega⟩
    obtain ⟨_, _, f1, f2⟩ := loads_hd ht.hd
    have h1 : decide ((j : Int) < g.c) = true := decide_eq_true (by show (j : Int) < (g.C : Int); omega)
    obtain ⟨q1, q2⟩ := hrows j (by omega)
    have ht2 := ht.ke (Ke.app M [zrow])
    have hnew : M.length ∉ ids := fun h => Nat.lt_irrefl _ (ht.lt h)
    have hrow : (M ++ [zrow])[M.length]? = some ⟨imgF g ids.length, 5, true⟩ := by rw [hl, q1]; simp
    obtain ⟨x', M', e1, t1, k1, n1⟩ := ht2.push hnew hrow (by omega)
    have hsp : spt g ids.length = none := by unfold spt; rw [hl, q2]; rfl
    rw [hsp] at e1
    have hw : wr ((j : Int) + 1) = ((j + 1 : Nat) : Int) := by rw [wr_id (by omega) (by omega)]; omega
    obtain ⟨x2, M2, ids2, e2, t2, l2, k2, n2⟩ := ih (j + 1) fuel x' M' (ids ++ [M.length]) (by omega) (by omega) t1 (by simp; omega)
    refine ⟨x2, M2, ids2, ?_, t2, l2, fun b k hb hne => k2 b k (k1 b k (by rw [List.getElem?_append_left (lt_of_getElem? hb)]; exact hb) hne) hne, ?_⟩
    · simp only [itrv, n154, rnd154, f1, f2, h1, e1, brA, Br.val, cond_true, hw]
      exact e2
    · rw [List.length_append] at n1; omega
end Go.Proofs.Yteeclgeoconekaa


/-
  The document's Image: what its inner loop over inodes leaves; plain.
-/
namespace Go.Proofs.Yteeclgeoconekaa
open Go.Ev

theorem st66_eq (M : Mem) (q : PX) : st66 M q = ((true && (true && putG M 0 q.b 0 44 && true)), setBlk M q.b (putC M q.b 0 (List.replicate 44 (I 0)))) := by kernel_rfl
theorem blk_get {M : Mem} {b : Nat} {k : Blk} (h : M[b]? = some k) : M.blk b = k := by unfold Mem.blk; rw [h]; rfl
theorem st66_val {M : Mem} {q : PX} {cells : List Value} (h : M[q.b]? = some ⟨cells, 66, true⟩) (hl : cells.length = 44) : (st66 M q).1 = true ∧ (st66 M q).2 = M.set q.b z66 := by
  have hb := blk_get h
  rw [st66_eq]
  constructor
  · simp only [putG, hb, hl]
    rfl
  · have : putC M q.b 0 (List.replicate 44 (I 0)) = List.replicate 44 (I 0) := by
      simp only [putC, hb]
      simp [hl]
    rw [this]
    simp only [setBlk, hb]
theorem ld66_z {M : Mem} {q : PX} (h : M[q.b]? = some z66) : (ld66 M q).1 = true ∧ eqC (cellsOf (ld66 M q).2) (ints4 2 1) = false ∧ eqC (cellsOf (ld66 M q).2) (ints4 0 0) = true := by
  have e : ld66 M q = loadG Try.prog [z44] 66 (p 0) := loadG_at (blk_get h)
  rw [e]
  exact load44
theorem ld66_n {M : Mem} {q : PX} (h : M[q.b]? = some n44) : (ld66 M q).1 = true ∧ eqC (cellsOf (ld66 M q).2) (ints4 2 1) = true := by
  have e : ld66 M q = loadG Try.prog [n44] 66 (p 0) := loadG_at (blk_get h)
  rw [e]
  exact load44n
theorem Ke.set {M : Mem} {b : Nat} {k k' : Blk} (h : M[b]? = some k) (he : k.elem = 66) : Ke M (M.set b k') := by
  intro j k0 hj ht
  have hne : b ≠ j := by
    intro e
    subst e
    rw [h] at hj
    cases hj
    rw [he] at ht
    rcases ht with h | h | h <;> exact absurd h (by decide)
  rw [List.getElem?_set_ne hne]
  exact hj

/-- A round: one row of inodes more. -/
theorem pround152 (g : Geo) {x : Value} {M : Mem} {ids : List Nat} {q : PX} {i : Int} {j : Nat} {cells : List Value} (ht : Tab g M x ids) (hq : M[q.b]? = some ⟨cells, 66, true⟩) (hl : cells.length = 44) (hj : j < g.B) (hn : ids.length ≤ 800) (row : List Value)
    (hc : (cells = List.replicate 44 (I 0) ∧ row = nodeLZ) ∨ (cells = cells11 ++ List.replicate 33 (I 0) ∧ row = nodeL0)) (hr : imgF g ids.length = sealRow 73 row) (hz : isZ g ids.length = false) :
    ∃ x' M' id, (rnd152 (n152 x i q (j : Int) M)).val = some (.next (n152 x' i q ((j + 1 : Nat) : Int) M')) ∧ Tab g M' x' (ids ++ [id]) ∧ M'[q.b]? = some z66 ∧ (∀ (b : Nat) (k : Blk), M[b]? = some k → k.elem ≠ 35 → b ≠ q.b → M'[b]? = some k) ∧ M.length ≤ M'.length := by
  have hB := g.hB
  obtain ⟨_, ⟨f1, f2⟩, _⟩ := loads_hd ht.hd
  have hd : wr (g.b.tdiv 4) = (g.B : Int) := by
    obtain ⟨_, eb, _⟩ := g.fac
    rw [eb, Int.tdiv_eq_ediv_of_nonneg (by omega), wr_id (by omega) (by omega)]
    omega
  have h1 : decide ((j : Int) < wr (g.b.tdiv 4)) = true := by rw [hd]; exact decide_eq_true (by omega)
  have hq2 : (M ++ [(⟨sealRow 73 row, 5, true⟩ : Blk)])[q.b]? = some ⟨cells, 66, true⟩ := by rw [List.getElem?_append_left (lt_of_getElem? hq)]; exact hq
  obtain ⟨s1, s2⟩ := st66_val hq2 hl
  have ht2 := ht.ke ((Ke.app M [(⟨sealRow 73 row, 5, true⟩ : Blk)]).trans (Ke.set (k' := z66) hq2 rfl))
  have hqlt := lt_of_getElem? hq
  have hnew : M.length ∉ ids := fun h => Nat.lt_irrefl _ (ht.lt h)
  have hrow : ((M ++ [(⟨sealRow 73 row, 5, true⟩ : Blk)]).set q.b z66)[M.length]? = some ⟨imgF g ids.length, 5, true⟩ := by
    rw [List.getElem?_set_ne (by omega), hr]
    simp
  obtain ⟨x', M', e1, t1, k1, n1⟩ := ht2.push hnew hrow (by omega)
  have hsp : spt g ids.length = some 1 := by unfold spt; rw [hz]; rfl
  rw [hsp] at e1
  have hw : wr ((j : Int) + 1) = ((j + 1 : Nat) : Int) := by rw [wr_id (by omega) (by omega)]; omega
  refine ⟨x', M', M.length, ?_, t1, ?_, ?_, ?_⟩
  · rcases hc with ⟨rfl, rfl⟩ | ⟨rfl, rfl⟩
    · obtain ⟨l1, l2, l3⟩ := ld66_z hq
      simp only [n152, rnd152, f1, f2, h1, l1, l2, l3, s1, s2, e1, brA, Br.val, cond_true, cond_false, hw]
    · obtain ⟨l1, l2⟩ := ld66_n hq
      simp only [n152, rnd152, f1, f2, h1, l1, l2, s1, s2, e1, brA, Br.val, cond_true, hw]
  · refine k1 _ _ ?_ (by decide)
    rw [List.getElem?_set_self (by simp; omega)]
  · intro b k hb hne hbq
    refine k1 b k ?_ hne
    rw [List.getElem?_set_ne (fun e => hbq e.symm), List.getElem?_append_left (lt_of_getElem? hb)]
    exact hb
  · rw [List.length_set, List.length_append] at n1; omega
end Go.Proofs.Yteeclgeoconekaa


/-
  The document's Image: what its inner loop over inodes leaves; plain.
-/
namespace Go.Proofs.Yteeclgeoconekaa
open Go.Ev

def cellsJ (sp : Bool) (j : Nat) : List Value := cond (sp && Nat.beq j 0) (cells11 ++ List.replicate 33 (I 0)) (List.replicate 44 (I 0))
def rowJ (sp : Bool) (j : Nat) : List Value := cond (sp && Nat.beq j 0) nodeL0 nodeLZ
theorem cellsJ_len (sp : Bool) (j : Nat) : (cellsJ sp j).length = 44 := by unfold cellsJ; cases (sp && Nat.beq j 0) <;> simp
theorem cellsJ_succ (sp : Bool) (j : Nat) : cellsJ sp (j + 1) = List.replicate 44 (I 0) := by
  have : Nat.beq (j + 1) 0 = false := rfl
  unfold cellsJ
  rw [this, Bool.and_false]
  rfl
theorem cellsJ_row (sp : Bool) (j : Nat) : (cellsJ sp j = List.replicate 44 (I 0) ∧ rowJ sp j = nodeLZ) ∨ (cellsJ sp j = cells11 ++ List.replicate 33 (I 0) ∧ rowJ sp j = nodeL0) := by
  unfold cellsJ rowJ
  cases (sp && Nat.beq j 0)
  · exact .inl ⟨rfl, rfl⟩
  · exact .inr ⟨rfl, rfl⟩

theorem ploop152 (g : Geo) (i : Int) (q : PX) (sp : Bool) (base : Nat) (hbase : base + g.B ≤ 800) (hrows : ∀ j, j < g.B → imgF g (base + j) = sealRow 73 (rowJ sp j) ∧ isZ g (base + j) = false) :
    ∀ (m j fuel : Nat) (x : Value) (M : Mem) (ids : List Nat), j + m = g.B → m < fuel → Tab g M x ids → ids.length = base + j → M[q.b]? = some ⟨cellsJ sp j, 66, true⟩ →
    ∃ x' M' ids', itrv rnd152 fuel (n152 x i q (j : Int) M) = some (n152 x' i q (g.B : Int) M') ∧ Tab g M' x' ids' ∧ ids'.length = base + g.B ∧ M.length ≤ M'.length := by
  intro m
  have hB := g.hB
  have hd : wr (g.b.tdiv 4) = (g.B : Int) := by
    obtain ⟨_, eb, _⟩ := g.fac
    rw [eb, Int.tdiv_eq_ediv_of_nonneg (by omega), wr_id (by omega) (by omega)]
    omega
  induction m with
  | zero =>
    intro j fuel x M ids hj hf ht hl hq
    obtain ⟨fuel, rfl⟩ : ∃ n, fuel = n + 1 := ⟨fuel - 1, by omega⟩
    obtain rfl : j = g.B := by omega
    obtain ⟨_, ⟨f1, f2⟩, _⟩ := loads_hd ht.hd
    have h1 : decide ((g.B : Int) < wr (g.b.tdiv 4)) = false := by rw [hd]; simp
    refine ⟨x, M, ids, ?_, ht, hl, Nat.le_refl _⟩
    simp only [itrv, n152, rnd152, f1, f2, h1, Br.val, cond_true, cond_false]
  | succ m ih =>
    intro j fuel x M ids hj hf ht hl hq
    obtain ⟨fuel, rfl⟩ : ∃ n, fuel = n + 1 := ⟨fuel - 1, by omega⟩
    obtain ⟨q1, q2⟩ := hrows j (by omega)
    obtain ⟨x', M', id, e1, t1, k1, _, n1⟩ := pround152 g (i := i) ht hq (cellsJ_len sp j) (show j < g.B by omega) (by omega) (rowJ sp j) (cellsJ_row sp j) (by rw [hl]; exact q1) (by rw [hl]; exact q2)
    obtain ⟨x2, M2, ids2, e2, t2, l2, n2⟩ := ih (j + 1) fuel x' M' (ids ++ [id]) (by omega) (by omega) t1 (by simp; omega) (by rw [cellsJ_succ]; exact k1)
    refine ⟨x2, M2, ids2, ?_, t2, l2, by omega⟩
    simp only [itrv, e1]
    exact e2
end Go.Proofs.Yteeclgeoconekaa


/-
  The rows of a new image, each at its place; plain.
-/
namespace Go.Proofs.Yteeclgeoconekaa
open Go.Ev

theorem mul_inj {a b L : Nat} (hL : 0 < L) (h : a * L = b * L) : a = b := Nat.eq_of_mul_eq_mul_right hL h
theorem f2_at (g : Geo) (k' : Nat) : ∀ (m k : Nat) (f : Nat → List Value), k ≤ k' → k' < k + m → f2 g f k m (2 + k' * g.L) = groupR g k' := by
  have hL := g.hL
  intro m
  induction m with
  | zero => intro k f h1 h2; omega
  | succ m ih =>
    intro k f h1 h2
    show f2 g (fset f (2 + k * g.L) (groupR g k)) (k + 1) m (2 + k' * g.L) = _
    rcases Nat.lt_or_eq_of_le h1 with h | rfl
    · exact ih (k + 1) _ h (by omega)
    · rw [f2_out g _ _ _ _ (fun k2 a b e => by
        have := mul_inj (a := k) (b := k2) (L := g.L) (by omega) (by omega)
        omega)]
      simp only [fset, if_true]
theorem nodePos_inj (g : Geo) {j j' : Nat} (h : nodePos g j = nodePos g j') : j = j' := by
  have hB := g.hB
  obtain ⟨_, h1⟩ := nodePos_ge g j
  obtain ⟨_, h2⟩ := nodePos_ge g j'
  rw [h] at h1
  have hm : j % g.B = j' % g.B := by omega
  have hd : (j / g.B) * g.L = (j' / g.B) * g.L := by unfold nodePos at h; omega
  have hd2 := mul_inj (by have := g.hL; omega) hd
  have e1 := Nat.div_add_mod j g.B
  have e2 := Nat.div_add_mod j' g.B
  rw [hd2, hm] at e1
  omega
theorem f3_at (g : Geo) (j' : Nat) : ∀ (m j : Nat) (f : Nat → List Value), j ≤ j' → j' < j + m → f3 g f j m (nodePos g j') = nodeR j' := by
  intro m
  induction m with
  | zero => intro j f h1 h2; omega
  | succ m ih =>
    intro j f h1 h2
    show f3 g (fset f (nodePos g j) (nodeR j)) (j + 1) m (nodePos g j') = _
    rcases Nat.lt_or_eq_of_le h1 with h | rfl
    · exact ih (j + 1) _ h (by omega)
    · rw [f3_out g _ _ _ _ (fun k2 a b e => by
        have := nodePos_inj g e
        omega)]
      simp only [fset, if_true]

theorem imgF_one (g : Geo) : imgF g 1 = sealRow 82 recL := by
  have hL := g.hL
  unfold imgF
  rw [f3_out g 1 _ _ _ (fun k' _ _ e => by have := nodePos_ge g k'; omega), f2_out g 1 _ _ _ (fun k' _ _ e => by omega)]
  rfl
theorem imgF_group (g : Geo) {k : Nat} (hk : k < g.A) : imgF g (2 + k * g.L) = groupR g k ∧ isZ g (2 + k * g.L) = false := by
  have hL := g.hL
  have hm : (k * g.L) % g.L = 0 := Nat.mul_mod_left _ _
  constructor
  · unfold imgF
    rw [f3_out g _ _ _ _ (fun k' _ _ e => by
      have h := (nodePos_ge g k').2
      rw [← e, show 2 + k * g.L - 2 = k * g.L by omega, hm] at h
      omega)]
    exact f2_at g k _ _ _ (Nat.zero_le _) (by omega)
  · unfold isZ
    rw [show 2 + k * g.L - 2 = k * g.L by omega, hm]
    exact decide_eq_false (by omega)
theorem imgF_node (g : Geo) {k j : Nat} (hk : k < g.A) (hj : j < g.B) : imgF g (2 + k * g.L + 1 + j) = nodeR (k * g.B + j) ∧ isZ g (2 + k * g.L + 1 + j) = false := by
  have hL : g.L = 1 + g.B + g.C := rfl
  have hC := g.hC
  have d1 : (k * g.B + j) / g.B = k := by rw [Nat.add_comm, Nat.add_mul_div_right _ _ (by omega), Nat.div_eq_of_lt hj, Nat.zero_add]
  have d2 : (k * g.B + j) % g.B = j := by rw [Nat.add_comm, Nat.add_mul_mod_self_right, Nat.mod_eq_of_lt hj]
  have e : nodePos g (k * g.B + j) = 2 + k * g.L + 1 + j := by unfold nodePos; rw [d1, d2]
  have hlt : k * g.B + j < g.A * g.B := by
    have := Nat.mul_le_mul_right g.B (show k + 1 ≤ g.A by omega)
    rw [Nat.add_mul, Nat.one_mul] at this
    omega
  constructor
  · rw [← e]
    exact f3_at g _ _ _ _ (Nat.zero_le _) (by omega)
  · unfold isZ
    rw [show 2 + k * g.L + 1 + j - 2 = (1 + j) + k * g.L by omega, Nat.add_mul_mod_self_right, Nat.mod_eq_of_lt (by omega)]
    exact decide_eq_false (by omega)
theorem imgF_block (g : Geo) {k j : Nat} (hj : j < g.C) : imgF g (2 + k * g.L + 1 + g.B + j) = Zs ∧ isZ g (2 + k * g.L + 1 + g.B + j) = true := by
  have hL : g.L = 1 + g.B + g.C := rfl
  have hB := g.hB
  have hm : (2 + k * g.L + 1 + g.B + j - 2) % g.L = 1 + g.B + j := by
    rw [show 2 + k * g.L + 1 + g.B + j - 2 = (1 + g.B + j) + k * g.L by omega, Nat.add_mul_mod_self_right, Nat.mod_eq_of_lt (by omega)]
  constructor
  · unfold imgF
    rw [f3_out g _ _ _ _ (fun k' _ _ e => by
      have h := (nodePos_ge g k').2
      rw [← e, hm] at h
      have := Nat.mod_lt k' (show 0 < g.B by omega)
      omega), f2_out g _ _ _ _ (fun k' _ _ e => by
      have : (2 + k * g.L + 1 + g.B + j - 2) % g.L = 0 := by
        rw [show 2 + k * g.L + 1 + g.B + j - 2 = k' * g.L by omega]
        exact Nat.mul_mod_left _ _
      omega)]
    simp only [f0, fset, if_neg (show ¬ 2 + k * g.L + 1 + g.B + j = 1 by omega), if_neg (show ¬ 2 + k * g.L + 1 + g.B + j = 0 by omega)]
  · unfold isZ
    rw [hm]
    exact decide_eq_true (by omega)
end Go.Proofs.Yteeclgeoconekaa


/-
  The document's Image: a round of its outer loop, what it leaves; plain.
-/
namespace Go.Proofs.Yteeclgeoconekaa
open Go.Ev

theorem nodeR_row (g : Geo) (k j : Nat) : nodeR (k * g.B + j) = sealRow 73 (rowJ (Nat.beq k 0) j) := by
  have hB := g.hB
  unfold nodeR rowJ
  cases k with
  | zero =>
    cases j with
    | zero => simp
    | succ j => rw [if_neg (by omega)]; rfl
  | succ k =>
    have h : ¬ ((k + 1) * g.B + j = 0) := by
      rw [Nat.add_mul, Nat.one_mul]; omega
    rw [if_neg h]
    rfl

theorem tail_val (g : Geo) {k : Nat} (hk : k < g.A) {x : Value} {M : Mem} {ids : List Nat} {q : PX} {b1 : Nat} {s1 : Option Nat} (ht : Tab g M x ids) (hl : ids.length = 2 + k * g.L) (hb1 : M.blk b1 = ⟨nodeBits g k, 5, true⟩)
    (hq : M[q.b]? = some ⟨cellsJ (Nat.beq k 0) 0, 66, true⟩) :
    ∃ x' M' ids', tail150R x (k : Int) q g.c (.slice (some ⟨b1, 0, s1⟩) (bitsN g.b) (bitsN g.b)) M = some (.next (n150 x' ((k + 1 : Nat) : Int) M')) ∧ Tab g M' x' ids' ∧ ids'.length = 2 + (k + 1) * g.L := by
  have hB := g.hB
  have hC := g.hC
  have hA := g.hA
  have hL : g.L = 1 + g.B + g.C := rfl
  have hkL := g.kL hk
  have hAL := g.hAL
  have hk7 : k * g.L ≤ 7 * g.L := Nat.mul_le_mul_right _ (by omega)
  obtain ⟨_, _, ec⟩ := g.fac
  obtain ⟨n1, n2, n3⟩ := nodeBits_ok g k
  have hbb := bd_b g
  have hbc := bd_c g
  have d1 : decide (0 ≤ g.c) = true := decide_eq_true (by omega)
  have d2 : decide (g.c ≤ 1000) = true := decide_eq_true (by omega)
  have hlive := blk_live (M := M) (b := b1) (by rw [hb1])
  have hb1' : (M ++ [bitsB g.c]).blk b1 = ⟨nodeBits g k, 5, true⟩ := by
    unfold Mem.blk
    rw [List.getElem?_append_left (lt_of_getElem? hlive), hlive, hb1]
    rfl
  obtain ⟨u1, u2⟩ := bOk_mk (M := M ++ [bitsB g.c]) (b := b1) (o := 0) (n := bitsN g.b) (c := bitsN g.b) (sp := s1) hb1' (by omega) n2 n3 (by omega)
  have u3 : bRow (M ++ [bitsB g.c]) (.slice (some ⟨b1, 0, s1⟩) (bitsN g.b) (bitsN g.b)) = nodeBits g k := by
    refine Eq.trans u2 ?_
    rw [List.drop_zero]
    exact List.take_of_length_le (by omega)
  obtain ⟨y1, y2⟩ := bOk_mk (M := M ++ [bitsB g.c]) (b := M.length) (o := 0) (n := bitsN g.c) (c := bitsN g.c) (sp := none) (blk_last _ _) (by simp) u8s_rep u8r_rep (by omega)
  have y3 : bRow (M ++ [bitsB g.c]) (bitsV M.length g.c) = List.replicate (bitsN g.c) Z8 := by
    refine Eq.trans y2 ?_
    simp
  have y4 : bOk (M ++ [bitsB g.c]) (bitsV M.length g.c) = true := y1
  have l1 : Nat.ble 1 (lenOf (.slice (some ⟨b1, 0, s1⟩) (bitsN g.b) (bitsN g.b))) = true := Nat.ble_eq_true_of_le hbb.2.1
  have l2 : Nat.ble (lenOf (.slice (some ⟨b1, 0, s1⟩) (bitsN g.b) (bitsN g.b))) 4 = true := Nat.ble_eq_true_of_le hbb.2.2
  have l3 : Nat.ble 2 (bitsN g.c) = true := Nat.ble_eq_true_of_le hbc.1
  have l4 : Nat.ble (bitsN g.c) 12 = true := Nat.ble_eq_true_of_le hbc.2
  obtain ⟨q1, q2⟩ := imgF_group g hk
  have hM42 : M42 (M ++ [bitsB g.c]) (.slice (some ⟨b1, 0, s1⟩) (bitsN g.b) (bitsN g.b)) (bitsV M.length g.c) = (M ++ [bitsB g.c]) ++ [(⟨groupR g k, 5, true⟩ : Blk)] := by
    unfold M42
    rw [u3, y3]
    rfl
  have ht6 := ht.ke ((Ke.app M [bitsB g.c]).trans (Ke.app _ [(⟨groupR g k, 5, true⟩ : Blk)]))
  have hnew : (M ++ [bitsB g.c]).length ∉ ids := fun h => by
    have := ht.lt h
    rw [List.length_append] at this
    omega
  have hrow : ((M ++ [bitsB g.c]) ++ [(⟨groupR g k, 5, true⟩ : Blk)])[(M ++ [bitsB g.c]).length]? = some ⟨imgF g ids.length, 5, true⟩ := by
    rw [hl, q1]
    exact app_last _ _
  obtain ⟨x1, M7, e1, t1, k1, m1⟩ := ht6.push hnew hrow (by omega)
  have hsp : spt g ids.length = some 1 := by unfold spt; rw [hl, q2]; rfl
  rw [hsp] at e1
  have hq7 : M7[q.b]? = some ⟨cellsJ (Nat.beq k 0) 0, 66, true⟩ := by
    have hlt := lt_of_getElem? hq
    refine k1 _ _ ?_ (fun e => by cases e)
    rw [List.getElem?_append_left (by rw [List.length_append]; omega), List.getElem?_append_left hlt]
    exact hq
  obtain ⟨x2, M8, ids2, e2, t2, g2, _⟩ := ploop152 g (k : Int) q (Nat.beq k 0) (2 + k * g.L + 1) (by omega) (fun j hj => by
    obtain ⟨z1, z2⟩ := imgF_node g hk hj
    exact ⟨by rw [z1, nodeR_row], z2⟩) g.B 0 N13 x1 M7 (ids ++ [(M ++ [bitsB g.c]).length]) (by omega) (by unfold N13; omega) t1 (by rw [List.length_append, hl]; rfl) hq7
  obtain ⟨x3, M9, ids3, e3, t3, g3, _, _⟩ := ploop154 g (k : Int) (2 + k * g.L + 1 + g.B) (by omega) (fun j hj => imgF_block g hj) g.C 0 N13 x2 M8 ids2 (by omega) (by unfold N13; omega) t2 (by omega)
  have hw : wr ((k : Int) + 1) = ((k + 1 : Nat) : Int) := by rw [wr_id (by omega) (by omega)]; omega
  refine ⟨x3, M9, ids3, ?_, t3, ?_⟩
  · rw [show ((0 : Nat) : Int) = 0 from rfl] at e2 e3
    unfold tail150R
    rw [d1, d2, u1, y4, l1, l2, l3, l4, hM42, e1]
    simp only [Bool.and_self, cond_true, Option.bind_some, e2]
    have a1 : (n152 x2 (k : Int) q (g.B : Int) M8).1.1 = x2 := rfl
    have a2 : (n152 x2 (k : Int) q (g.B : Int) M8).1.2.1 = (k : Int) := rfl
    have a3 : (n152 x2 (k : Int) q (g.B : Int) M8).2.2 = M8 := rfl
    have b1 : (n154 x3 (k : Int) (g.C : Int) M9).1.1 = x3 := rfl
    have b2 : (n154 x3 (k : Int) (g.C : Int) M9).1.2.1 = (k : Int) := rfl
    have b3 : (n154 x3 (k : Int) (g.C : Int) M9).2.2 = M9 := rfl
    rw [a1, a2, a3, e3]
    simp only [Option.bind_some, b1, b2, b3, hw]
  · rw [g3, Nat.add_mul, Nat.one_mul]; omega
end Go.Proofs.Yteeclgeoconekaa


/-
  The document's Image: what its outer loop leaves; plain.
-/
namespace Go.Proofs.Yteeclgeoconekaa
open Go.Ev

theorem st65_eq (M : Mem) (b : Nat) : st65 M b = ((true && (true && putG M 0 b 0 11 && true)), setBlk M b (putC M b 0 cells11)) := by kernel_rfl
theorem st65_val {M : Mem} {b : Nat} (h : M[b]? = some z66) : (st65 M b).1 = true ∧ (st65 M b).2 = M.set b n44 := by
  have hb := blk_get h
  rw [st65_eq]
  constructor
  · simp only [putG, hb]
    rfl
  · have : putC M b 0 cells11 = cells11 ++ List.replicate 33 (I 0) := by
      simp only [putC, hb]
      rfl
    rw [this]
    simp only [setBlk, hb]
theorem isB43_geo (g : Geo) : isB43 g.b = true := by
  have hB := g.hB
  obtain ⟨_, eb, _⟩ := g.fac
  simp only [isB43, List.any_cons, List.any_nil, Bool.or_false, Bool.or_eq_true, beq_iff_eq]
  omega

theorem pround150 (g : Geo) {k : Nat} (hk : k < g.A) {x : Value} {M : Mem} {ids : List Nat} (ht : Tab g M x ids) (hl : ids.length = 2 + k * g.L) :
    ∃ x' M' ids', (rnd150 (n150 x (k : Int) M)).val = some (.next (n150 x' ((k + 1 : Nat) : Int) M')) ∧ Tab g M' x' ids' ∧ ids'.length = 2 + (k + 1) * g.L := by
  have hB := g.hB
  have hA := g.hA
  obtain ⟨_, eb, _⟩ := g.fac
  obtain ⟨⟨f1, f2⟩, _, _⟩ := loads_hd ht.hd
  have h1 : decide ((k : Int) < g.a) = true := decide_eq_true (by show (k : Int) < (g.A : Int); omega)
  have key : ∃ x' M' ids', round150 x (k : Int) M = some (.next (n150 x' ((k + 1 : Nat) : Int) M')) ∧ Tab g M' x' ids' ∧ ids'.length = 2 + (k + 1) * g.L := by
    by_cases hk0 : k = 0
    · subst hk0
      have hz : ((((0 : Nat) : Int)) == 0) = true := rfl
      have e0 : (one150 M)[M.length]? = some z66 := by
        unfold one150
        rw [List.getElem?_append_left (by simp)]
        exact app_last _ _
      obtain ⟨s1, s2⟩ := st65_val e0
      have e1 : ((one150 M).set M.length n44)[M.length]? = some n44 := by rw [List.getElem?_set_self (by simp)]
      have e2 : ((one150 M).set M.length n44)[(M ++ [z66]).length]? = some ⟨[I 0], 3, true⟩ := by
        rw [List.getElem?_set_ne (by simp)]
        exact app_last _ _
      have ht2 : Tab g ((one150 M).set M.length n44) x ids := ht.ke (((Ke.app M [z66]).trans (Ke.app _ _)).trans (Ke.set e0 rfl))
      obtain ⟨_, ⟨a1, a2⟩, a3, a4⟩ := loads_hd ht2.hd
      have hone : isOne0 (Mem.blk ((one150 M).set M.length n44) (M ++ [z66]).length) = true := by rw [blk_get e2]; rfl
      have hlen : ((one150 M).set M.length n44).length = M.length + 2 := by simp
      obtain ⟨n1, n2, n3⟩ := nodeBits_ok g 0
      have hM4 : Ke ((one150 M).set M.length n44) ((one150 M).set M.length n44 ++ [(⟨bit0 (List.replicate (bitsN g.b) Z8), 5, true⟩ : Blk)]) := Ke.app _ _
      obtain ⟨x', M', ids', r1, r2, r3⟩ := tail_val g hk (q := ⟨M.length⟩) (b1 := ((one150 M).set M.length n44).length) (s1 := some 1) (ht2.ke hM4) hl (blk_last _ _) (by
        rw [List.getElem?_append_left (by rw [hlen]; exact Nat.lt_add_of_pos_right (by decide)), e1]
        rfl)
      refine ⟨x', M', ids', ?_, r2, r3⟩
      unfold round150
      rw [f1, f2, h1, hz, s1, s2, a1, a3, a2, a4, hone, isB43_geo]
      exact r1
    · have hz : ((k : Int) == 0) = false := by simp; omega
      have ht2 : Tab g (M ++ [z66]) x ids := ht.ke (Ke.app M [z66])
      obtain ⟨_, ⟨a1, a2⟩, a3, a4⟩ := loads_hd ht2.hd
      have d1 : decide (0 ≤ g.b) = true := decide_eq_true (by omega)
      have d2 : decide (g.b ≤ 1000) = true := decide_eq_true (by omega)
      have hnb : nodeBits g k = List.replicate (bitsN g.b) Z8 := by simp [nodeBits, hk0]
      have hkb : Nat.beq k 0 = false := by
        cases h : Nat.beq k 0
        · rfl
        · exact absurd (Nat.eq_of_beq_eq_true h) hk0
      obtain ⟨x', M', ids', r1, r2, r3⟩ := tail_val g hk (q := ⟨M.length⟩) (b1 := (M ++ [z66]).length) (s1 := none) (ht2.ke (Ke.app _ [bitsB g.b])) hl (by rw [hnb]; exact blk_last _ _) (by
        rw [List.getElem?_append_left (by simp), app_last, hkb]
        rfl)
      refine ⟨x', M', ids', ?_, r2, r3⟩
      unfold round150
      rw [f1, f2, h1, hz, a1, a3, a2, a4, d1, d2]
      exact r1
  obtain ⟨x', M', ids', r1, r2, r3⟩ := key
  refine ⟨x', M', ids', ?_, r2, r3⟩
  have a1 : (n150 x (k : Int) M).1.1 = x := rfl
  have a2 : (n150 x (k : Int) M).1.2.1 = (k : Int) := rfl
  have a3 : (n150 x (k : Int) M).2.2 = M := rfl
  unfold rnd150
  rw [a1, a2, a3, r1]
  rfl
theorem ploop150 (g : Geo) : ∀ (m k fuel : Nat) (x : Value) (M : Mem) (ids : List Nat), k + m = g.A → m < fuel → Tab g M x ids → ids.length = 2 + k * g.L →
    ∃ x' M' ids', itrv rnd150 fuel (n150 x (k : Int) M) = some (n150 x' (g.A : Int) M') ∧ Tab g M' x' ids' ∧ ids'.length = g.n := by
  intro m
  induction m with
  | zero =>
    intro k fuel x M ids hj hf ht hl
    obtain ⟨fuel, rfl⟩ : ∃ n, fuel = n + 1 := ⟨fuel - 1, by omega⟩
    obtain rfl : k = g.A := by omega
    obtain ⟨⟨f1, f2⟩, _, _⟩ := loads_hd ht.hd
    have h1 : decide ((g.A : Int) < g.a) = false := by simp
    refine ⟨x, M, ids, ?_, ht, hl⟩
    have a1 : (n150 x (g.A : Int) M).1.1 = x := rfl
    have a2 : (n150 x (g.A : Int) M).1.2.1 = (g.A : Int) := rfl
    have a3 : (n150 x (g.A : Int) M).2.2 = M := rfl
    simp only [itrv, rnd150, a1, a2, a3, round150, f1, f2, h1, ofO, Br.val, cond_true, cond_false]
  | succ m ih =>
    intro k fuel x M ids hj hf ht hl
    obtain ⟨fuel, rfl⟩ : ∃ n, fuel = n + 1 := ⟨fuel - 1, by omega⟩
    obtain ⟨x', M', ids', e1, t1, l1⟩ := pround150 g (show k < g.A by omega) ht hl
    obtain ⟨x2, M2, ids2, e2, t2, l2⟩ := ih (k + 1) fuel x' M' ids' (by omega) (by omega) t1 l1
    refine ⟨x2, M2, ids2, ?_, t2, l2⟩
    simp only [itrv, e1]
    exact e2
end Go.Proofs.Yteeclgeoconekaa


/-
  The document's Image, run whole: the rows of a new image.
-/
namespace Go.Proofs.Yteeclgeoconekaa
open Go.Ev

theorem isZ_two (g : Geo) : isZ g 0 = false ∧ isZ g 1 = false := ⟨decide_eq_false (by omega), decide_eq_false (by omega)⟩
theorem image15_run (g : Geo) : ∃ x M ids, bn D5 L15 15 [gv g.a g.b g.c] [] 0 some = some (x, M) ∧ Tab g M x ids ∧ ids.length = g.n := by
  obtain ⟨z0, z1⟩ := isZ_two g
  have hA := g.hA
  have hrow : rowV g [1, 2] = [sl 1 0 (some 1) 128 128, sl 2 0 (some 1) 128 128] := by
    have e : rowV g [1, 2] = [sl 1 0 (spt g 0) 128 128, sl 2 0 (spt g 1) 128 128] := rfl
    rw [e]
    unfold spt
    rw [z0, z1]
    rfl
  have ht : Tab g [gb g.a g.b g.c, ⟨superR g.a g.b g.c, 5, true⟩, recB, ⟨[sl 1 0 (some 1) 128 128, sl 2 0 (some 1) 128 128], 35, true⟩] (sl 3 0 none 2 2) [1, 2] := by
    refine ⟨rfl, ⟨3, none, rfl, .inl ⟨rfl, by decide⟩, by rw [hrow]; rfl⟩, by decide, fun r hr => ?_⟩
    match r, hr with
    | 0, _ => rw [imgF_zero]; rfl
    | 1, _ => rw [imgF_one]; rfl
  obtain ⟨x, M, ids, e1, t1, l1⟩ := ploop150 g g.A 0 N13 _ _ _ (by omega) (by unfold N13; omega) ht (by simp)
  refine ⟨x, M, ids, ?_, t1, l1⟩
  have run := r15 some g.a g.b g.c
  rw [g.may_] at run
  have e3 : optK (itrv rnd150 N13 (n150 (sl 3 0 none 2 2) ((0 : Nat) : Int) [gb g.a g.b g.c, ⟨superR g.a g.b g.c, 5, true⟩, recB, ⟨[sl 1 0 (some 1) 128 128, sl 2 0 (some 1) 128 128], 35, true⟩])) (fun s : S150 => (some (s.1.1, s.2.2) : Ret)) none = some (x, M) := by
    rw [e1]
    kernel_rfl
  exact run.trans (Eq.trans (by kernel_rfl) e3)
end Go.Proofs.Yteeclgeoconekaa
