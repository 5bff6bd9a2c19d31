/-
  The function Image of mkfs, run whole, and told in any memory: its rows.
-/
import Derived.Test.YteeclgeoconekaaP2
namespace Go.Proofs.Yteeclgeoconekaa
open Go.Ev

def f0 (g : Geo) : Nat → List Value := fset (fset (fun _ => List.replicate 128 Z8) 0 (superR g.a g.b g.c)) 1 (sealRow 82 recL)
/-- The rows of a new image. -/
def imgF (g : Geo) : Nat → List Value := f3 g (f2 g (f0 g) 0 g.A) 0 (g.A * g.B)

def OkF (f : Nat → List Value) : Prop := ∀ r, (f r).length = 128 ∧ u8s (f r) = true ∧ u8r (f r) = true
theorem OkF.set {f : Nat → List Value} (h : OkF f) {r : Nat} {l : List Value} (hl : l.length = 128 ∧ u8s l = true ∧ u8r l = true) : OkF (fset f r l) := by
  intro r'
  unfold fset
  split
  · exact hl
  · exact h r'
theorem okF0 (g : Geo) : OkF (f0 g) := ((show OkF fun _ => List.replicate 128 Z8 from fun _ => ⟨by simp, u8s_rep, u8r_rep⟩).set (superRow_ok _ _ _ _)).set recRow_ok
theorem okF2 (g : Geo) : ∀ (m k : Nat) (f : Nat → List Value), OkF f → OkF (f2 g f k m) := by
  intro m
  induction m with
  | zero => intro k f h; exact h
  | succ m ih => intro k f h; exact ih _ _ (h.set (groupR_ok g k))
theorem okF3 (g : Geo) : ∀ (m k : Nat) (f : Nat → List Value), OkF f → OkF (f3 g f k m) := by
  intro m
  induction m with
  | zero => intro k f h; exact h
  | succ m ih => intro k f h; exact ih _ _ (h.set (nodeR_ok k))
theorem imgF_ok (g : Geo) : OkF (imgF g) := okF3 g _ _ _ (okF2 g _ _ _ (okF0 g))

theorem image_run (g : Geo) : ∃ cs t, bn C10 L13 13 [gv g.a g.b g.c] [] 0 some = some (.slice (some ⟨2, 0, none⟩) g.n g.n, mem3 g.a g.b g.c (superR g.a g.b g.c) cs t) ∧ Img g.n (superR g.a g.b g.c) cs t (imgF g) := by
  have hn := g.hn
  have run := r13 some g.a g.b g.c
  rw [g.may_, g.sectors_] at run
  have d1 : decide ((0 : Int) ≤ (g.n : Int)) = true := decide_eq_true (by omega)
  have d2 : decide ((g.n : Int) ≤ (g.n : Int)) = true := decide_eq_true (by omega)
  have d3 : decide (((24 : Nat) : Int) * (g.n : Int) ≤ 281474976710656) = true := decide_eq_true (by omega)
  have d4 : decide ((g.n : Int) ≤ 9223372036854775807) = true := decide_eq_true (by omega)
  have e0 : ((g.n : Int)).toNat = g.n := by simp
  have l1 := loop1 ⟨128, 128⟩ g.n (by omega) g.a g.b g.c (superR g.a g.b g.c) g.n 0 N13 (by omega) (by unfold N13; omega)
  simp only [List.range_zero, List.map_nil, List.nil_append, List.replicate_zero, show ((0 : Nat) : Int) = 0 from rfl] at l1
  rw [d1, d2, d3, d4, e0, l1] at run
  simp only [cond_true, Bool.and_self, optK] at run
  have h0 := img1 g.n (superR g.a g.b g.c)
  have hfirst : ∀ r, r < g.n → ((List.range g.n).map fun r => rowAt (r + 3))[r]? ≠ some (rowAt 1) := by
    intro r hr e
    simp only [List.getElem?_map, List.getElem?_range hr, Option.map_some] at e
    have := rowAt_inj (Option.some.inj e)
    omega
  have h1 := h0.set (Le.refl _) (r0 := 0) (id := 1) (by omega) hfirst (l := superR g.a g.b g.c) (.inl ⟨rfl, rfl⟩)
  have h2 := h1.setNew (t' := List.replicate g.n zrow ++ [⟨sealRow 82 recL, 5, true⟩]) (Le.app _ _) (r0 := 1) (j := g.n) (by omega) (by simp) (l := sealRow 82 recL) (by simp)
  have q1 : decide ((0 : Int) < (g.n : Int)) = true := decide_eq_true (by omega)
  have q2 : decide ((1 : Int) < (g.n : Int)) = true := decide_eq_true (by omega)
  have q3 : Nat.ble 1 ((List.range g.n).map fun r => rowAt (r + 3)).length = true := by rw [h0.len]; exact Nat.ble_eq_true_of_le (by omega)
  have q4 : Nat.ble 2 (((List.range g.n).map fun r => rowAt (r + 3)).set 0 (rowAt 1)).length = true := by rw [h1.len]; exact Nat.ble_eq_true_of_le (by omega)
  have hv : (HV.enc (⟨128, 128⟩ : SL 1) : Value) = rowAt 1 := rfl
  have hid : nid (List.replicate g.n zrow) = g.n + 3 := by simp [nid]
  have hA := g.hA
  have hAB : g.A * g.B ≤ 64 := Nat.mul_le_mul g.hA.2 g.hB.2
  obtain ⟨cs2', t2, l2, i2⟩ := loop2 g (superR g.a g.b g.c) g.A 0 N13 _ _ _ (by omega) (by unfold N13; omega) h2
  obtain ⟨z, cs3, t3, l3, i3⟩ := loop3 g (superR g.a g.b g.c) (g.A * g.B) 0 N13 _ _ _ (by omega) (by unfold N13; omega) i2
  refine ⟨cs3, t3, ?_, i3⟩
  rw [run]
  simp only [end131, q1, q2, q3, cond_true, cs2, hv, q4, hid]
  have e1 : ((0 : Nat) : Int) = 0 := rfl
  have e2 : ((4 * 0 + 1 : Nat) : Int) = 1 := rfl
  rw [e1] at l2
  rw [e2] at l3
  rw [l2]
  simp only [optK, end132]
  rw [l3]
  rfl

/-! ### told -/
theorem geo_of {a b c : Int} (h : may a b c = true) : ∃ g : Geo, g.a = a ∧ g.b = b ∧ g.c = c := by
  simp only [may, between, Bool.and_eq_true, decide_eq_true_eq, beq_iff_eq] at h
  obtain ⟨⟨⟨h1, h2⟩, h3⟩, h4⟩ := h
  rw [Int.tmod_eq_emod_of_nonneg (by omega)] at h3
  refine ⟨⟨a.toNat, (b / 4).toNat, c.toNat, by omega, by omega, by omega⟩, ?_, ?_, ?_⟩
  · show ((a.toNat : Nat) : Int) = a; omega
  · show ((4 * (b / 4).toNat : Nat) : Int) = b; omega
  · show ((c.toNat : Nat) : Int) = c; omega
theorem geo_inj {g h : Geo} (ha : g.a = h.a) (hb : g.b = h.b) (hc : g.c = h.c) : g = h := by
  obtain ⟨A, B, C, x, y, z⟩ := g
  obtain ⟨A', B', C', x', y', z'⟩ := h
  have e1 : (A : Int) = A' := ha
  have e2 : ((4 * B : Nat) : Int) = ((4 * B' : Nat) : Int) := hb
  have e3 : (C : Int) = C' := hc
  obtain rfl : A = A' := by omega
  obtain rfl : B = B' := by omega
  obtain rfl : C = C' := by omega
  rfl
open Classical in
/-- The rows of the image of a geometry, in integers. -/
noncomputable def imgRows (a b c : Int) : List (List Value) := if h : ∃ g : Geo, g.a = a ∧ g.b = b ∧ g.c = c then (List.range h.choose.n).map (imgF h.choose) else []
theorem imgRows_geo (g : Geo) : imgRows g.a g.b g.c = (List.range g.n).map (imgF g) := by
  have h : ∃ g' : Geo, g'.a = g.a ∧ g'.b = g.b ∧ g'.c = g.c := ⟨g, rfl, rfl, rfl⟩
  unfold imgRows
  rw [dif_pos h]
  have := h.choose_spec
  rw [geo_inj this.1 this.2.1 this.2.2]

/-- A list of rows, laid behind a memory. -/
def layRows (n0 : Nat) (rows : List (List Value)) : Mem := ⟨(List.range rows.length).map fun r => .slice (some ⟨n0 + (1 + r), 0, none⟩) (rows.getD r []).length (rows.getD r []).length, 35, true⟩ :: rows.map fun l => ⟨l, 5, true⟩
noncomputable def imageTree : Tree := fun args M _ => match args with
  | [.agg xs] => match xs.toList with
    | [.int .i64 a, .int .i64 b, .int .i64 c] => .nd (may a b c) (.lf true (.slice (some ⟨M.length, 0, none⟩) (imgRows a b c).length (imgRows a b c).length, M ++ layRows M.length (imgRows a b c))) (.lf true (nilS, M))
    | _ => .lf false (undef, M)
  | _ => .lf false (undef, M)
theorem imageTree_inv {args : List Value} {M : Mem} {wall : Nat} {R : Value × Mem} (h : (imageTree args M wall).val = some R) : ∃ a b c, args = [gv a b c] ∧
    ((may a b c = true ∧ R = (.slice (some ⟨M.length, 0, none⟩) (imgRows a b c).length (imgRows a b c).length, M ++ layRows M.length (imgRows a b c))) ∨ (may a b c = false ∧ R = (nilS, M))) := by
  unfold imageTree at h
  split at h
  · rename_i xs
    split at h
    · rename_i a b c e
      obtain rfl : xs = #[I a, I b, I c] := Array.ext' e
      rcases nd_val h with ⟨hc, h⟩ | ⟨hc, h⟩
      · exact ⟨a, b, c, rfl, .inl ⟨hc, (lf_val h).2.symm⟩⟩
      · exact ⟨a, b, c, rfl, .inr ⟨hc, (lf_val h).2.symm⟩⟩
    · cases h
  · cases h

/-- A table of rows, handed on. -/
theorem hand_img {n : Nat} {a b c : Int} {fst cs : List Value} {t : Mem} {f : Nat → List Value} (h : Img n fst cs t f) (hf : OkF f) (M : Mem) :
    Hand [] (mem3 a b c fst cs t) (.slice (some ⟨2, 0, none⟩) n n) M (.slice (some ⟨M.length, 0, none⟩) n n) (layRows M.length ((List.range n).map f)) := by
  classical
  let ids : Nat → Nat := fun r => if hr : r < n then (h.row r hr).choose else 0
  have ids_ok : ∀ r, r < n → cs[r]? = some (rowAt (ids r)) ∧ RAt fst t (ids r) (f r) := by
    intro r hr
    have e : ids r = (h.row r hr).choose := dif_pos hr
    rw [e]
    exact (h.row r hr).choose_spec
  have hlen := h.len
  have lookup : ∀ id l, RAt fst t id l → (mem3 a b c fst cs t)[id]? = some ⟨l, 5, true⟩ := by
    intro id l hl
    rcases hl with ⟨rfl, rfl⟩ | ⟨j, rfl, e⟩
    · rfl
    · exact e
  have hrow : ∀ r, r < n → ((List.range n).map f).getD r [] = f r := by
    intro r hr
    simp [List.getD, hr]
  refine ⟨2 :: (List.range n).map ids, by simp [layRows], ?_, fun t _ => Nat.zero_le _, ?_, ?_⟩
  · refine List.nodup_cons.2 ⟨fun hm => ?_, ?_⟩
    · simp only [List.mem_map, List.mem_range] at hm
      obtain ⟨r, hr, e⟩ := hm
      have := (ids_ok r hr).2.lt
      omega
    · refine List.pairwise_iff_getElem.2 fun i j hi hj hij e => ?_
      simp only [List.length_map, List.length_range] at hi hj
      simp only [List.getElem_map, List.getElem_range] at e
      have := h.inj i j (ids i) hi hj (ids_ok i hi).1 (by rw [e]; exact (ids_ok j hj).1)
      omega
  · exact HVal.sl (j := 0) rfl
  · intro j k' hk
    cases j with
    | zero =>
      simp only [layRows, List.getElem?_cons_zero, Option.some.injEq] at hk
      subst hk
      refine ⟨2, ⟨cs, 35, true⟩, rfl, rfl, rfl, rfl, by simp [hlen], fun i u' hu => ?_⟩
      simp only [List.length_map, List.length_range, List.getElem?_map] at hu
      by_cases hi : i < n
      · rw [List.getElem?_range hi, Option.map_some, Option.some.injEq] at hu
        subst hu
        refine ⟨rowAt (ids i), (ids_ok i hi).1, ?_⟩
        rw [hrow i hi, (hf i).1]
        exact HVal.sl (j := 1 + i) (by rw [Nat.add_comm]; simp [hi])
      · rw [List.getElem?_eq_none (by simp; omega)] at hu
        cases hu
    | succ j =>
      simp only [layRows, List.getElem?_cons_succ, List.getElem?_map, List.map_map] at hk
      by_cases hj : j < n
      · rw [List.getElem?_range hj] at hk
        simp only [Option.map_some, Option.some.injEq, Function.comp] at hk
        subst hk
        refine ⟨ids j, ⟨f j, 5, true⟩, by simp [hj], lookup _ _ (ids_ok j hj).2, rfl, rfl, Nat.le_refl _, fun i u' hu => ⟨u', hu, ?_⟩⟩
        have h1 : isInt .u8 u' = true := List.all_eq_true.1 (hf j).2.1 u' (List.mem_of_getElem? hu)
        have h2 := u8_flat h1
        refine HVal.flat ?_
        cases u' <;> first | exact h2 | cases h2
      · rw [List.getElem?_eq_none (by simp; omega)] at hk
        cases hk

theorem pulled_nil (M : Mem) : Pulled [] M [] := ⟨rfl, fun b k0 h => by simp at h⟩
theorem tell13 : TellOk Try.prog EvN.q 13 (bodyT imageTree) := by
  refine tellT (fun _ args M v M' h => ?_) (fun args M wall R h => ?_)
  · obtain ⟨a, b, c, rfl, ⟨hm, e⟩ | ⟨hm, e⟩⟩ := imageTree_inv h
    · cases e
      obtain ⟨g, rfl, rfl, rfl⟩ := geo_of hm
      rw [imgRows_geo]
      have hn := g.hn
      have ht : trim1 Try.prog M (M ++ layRows M.length ((List.range g.n).map (imgF g))) (.slice (some ⟨M.length, 0, none⟩) ((List.range g.n).map (imgF g)).length ((List.range g.n).map (imgF g)).length) = none := by
        obtain ⟨m, hm⟩ : ∃ m, g.n = m + 1 := ⟨g.n - 1, by omega⟩
        have hcell : ∀ (X : List Value) (v : Value) (k : Nat), flat1 v = false → ((v :: X).drop 0 |>.take (k + 1)).all flat1 = false := by
          intro X v k hv
          simp [hv]
        have hget : (M ++ layRows M.length ((List.range g.n).map (imgF g)))[M.length]? = some ⟨(List.range ((List.range g.n).map (imgF g)).length).map fun r => .slice (some ⟨M.length + (1 + r), 0, none⟩) (((List.range g.n).map (imgF g)).getD r []).length (((List.range g.n).map (imgF g)).getD r []).length, 35, true⟩ := by
          rw [List.getElem?_append_right (Nat.le_refl _), Nat.sub_self]
          rfl
        simp only [trim1, hget, trimLen]
        have hall : (((List.range ((List.range g.n).map (imgF g)).length).map fun r => Value.slice (some ⟨M.length + (1 + r), 0, none⟩) (((List.range g.n).map (imgF g)).getD r []).length (((List.range g.n).map (imgF g)).getD r []).length).drop 0 |>.take ((List.range g.n).map (imgF g)).length).all flat1 = false := by
          rw [List.length_map, List.length_range, hm, List.range_succ_eq_map, List.map_cons]
          exact hcell _ _ m rfl
        rw [hall, Bool.and_false]
        rfl
      unfold trim
      have hflat : flatR (.slice (some ⟨M.length, 0, none⟩) ((List.range g.n).map (imgF g)).length ((List.range g.n).map (imgF g)).length) = false := rfl
      rw [hflat]
      simp only [cond_false, ht]
    · cases e; simp [trim, flatR, flat, flat1]
  · obtain ⟨a, b, c, rfl, hR⟩ := imageTree_inv h
    rcases hR with ⟨hm, rfl⟩ | ⟨hm, rfl⟩
    · obtain ⟨g, rfl, rfl, rfl⟩ := geo_of hm
      rw [imgRows_geo]
      obtain ⟨cs, t, run, hi⟩ := image_run g
      obtain ⟨T, hT, hr⟩ := run_told evFitsN okC10 sem13 run
      classical
      refine ⟨fun f args M0 _ => if f = 13 ∧ args = [gv g.a g.b g.c] ∧ M0 = M then some (.slice (some ⟨M.length, 0, none⟩) ((List.range g.n).map (imgF g)).length ((List.range g.n).map (imgF g)).length, M ++ layRows M.length ((List.range g.n).map (imgF g))) else none,
        good_pull fun f args M0 wall R e => ?_, by simp⟩
      split at e
      · rename_i hh
        obtain ⟨rfl, rfl, rfl⟩ := hh
        cases e
        refine ⟨T, [], [gv g.a g.b g.c], [], _, layRows M0.length ((List.range g.n).map (imgF g)), _, hT, pulled_nil M0, rfl, ?_, hr, ?_, rfl⟩
        · intro i a0 a1 e0 e1
          cases i with
          | succ i => simp at e0
          | zero =>
            simp at e0 e1
            subst e0 e1
            exact PV.flat (by simp [flat, flat1])
        · have := hand_img (a := g.a) (b := g.b) (c := g.c) hi (imgF_ok g) M0
          simpa using this
      · cases e
    · have run := r13 some a b c
      rw [hm] at run
      have hview : view Try.prog M [gv a b c] 0 = some ([gv a b c], []) := view_flat M _ 0 (by simp [flat, flat1])
      exact loc_told hview (run_told evFitsN okC10 sem13 (wall := 0) run) (by simp [handOn, flatR, flat, flat1]) wall
noncomputable abbrev C11 : CallC := moreC 13 (bodyT imageTree) C10
theorem okC11 : OkC Try.prog EvN.q C11 := ok_moreC okC10 tell13
end Go.Proofs.Yteeclgeoconekaa


/-
  SameParts: run over two tables of rows; told in any memory.
-/
namespace Go.Proofs.Yteeclgeoconekaa
open Go.Ev

def eqParts : List (List Value) → List (List Value) → Bool
  | [], [] => true
  | x :: xs, y :: ys => eqRows x y && eqParts xs ys
  | _, _ => false
theorem eqParts_len : ∀ {a b : List (List Value)}, eqParts a b = true → a.length = b.length
  | [], [], _ => rfl
  | x :: xs, y :: ys, h => by simp only [eqParts, Bool.and_eq_true] at h; simp [eqParts_len h.2]
  | [], y :: ys, h => by cases h
  | x :: xs, [], h => by cases h
theorem eqParts_self : ∀ l, eqParts l l = true
  | [] => rfl
  | x :: l => by simp [eqParts, eqRows_self, eqParts_self l]

/-- A table of rows that a slice tells. -/
def dCells (M : Mem) (x : Value) : List Value := rowC M (addrOf x).block (addrOf x).off (lenOf x)
def dRows (M : Mem) (x : Value) : List (List Value) := (dCells M x).map (bRow M)
def dOk (M : Mem) (x : Value) : Bool := isSl x && (rowG M (addrOf x).block (addrOf x).off (lenOf x) && (Nat.beq (M.blk (addrOf x).block).elem 35 && ((dCells M x).all (bOk M) && Nat.ble (lenOf x) 4611686018427387904)))
theorem dOk_inv {M : Mem} {x : Value} (h : dOk M x = true) : ∃ a n c k, x = .slice (some a) n c ∧ M[a.block]? = some k ∧ k.live = true ∧ k.elem = 35 ∧ a.off + n ≤ k.cells.length ∧ dCells M x = (k.cells.drop a.off).take n ∧ (∀ v ∈ dCells M x, bOk M v = true) ∧ n ≤ 4611686018427387904 := by
  simp only [dOk, Bool.and_eq_true] at h
  obtain ⟨h1, h2, h3, h4, h5⟩ := h
  obtain ⟨a, n, c, rfl⟩ := isSl_ex h1
  have ea : addrOf (.slice (some a) n c) = a := rfl
  simp only [ea, lenOf, rowG, Bool.and_eq_true, Nat.ble_eq, Nat.beq_eq] at h2 h3 h5
  have hl := h2.1
  exact ⟨a, n, c, _, rfl, blk_live hl, hl, h3, h2.2, rfl, fun v hv => List.all_eq_true.1 h4 v hv, h5⟩

/-! ### the run -/
abbrev mem2 (cs ds : List Value) (t : Mem) : Mem := ⟨cs, 35, true⟩ :: ⟨ds, 35, true⟩ :: t
abbrev mp14 : List MPt := [.rowE 35, .rowE 35]
abbrev rp14 : List Pt := mkP 27 [(0, .hole), (1, .hole), (5, .hole)]
abbrev cI (cs : List Value) (i : Int) : Value := (gI cs i).getD undef
def rnd14 : St2 → Br (LO St2 (Bool × St2)) := fun s => match s with
  | ((x, y, i, ()), (cs, ds, ()), t) =>
    .nd (decide (i < (x.n : Int)))
      (.nd (decide (0 ≤ i) && decide (i < (x.n : Int)))
        (.nd (decide (0 ≤ i) && decide (i < (y.n : Int)))
          (.nd (gI cs i).isSome (.nd (gI ds i).isSome
            (.nd (bOk (mem2 cs ds t) (cI cs i) && bOk (mem2 cs ds t) (cI ds i))
              (.nd (!eqRows (bRow (mem2 cs ds t) (cI cs i)) (bRow (mem2 cs ds t) (cI ds i))) (.lf true (.done (false, s))) (.lf true (.next ((x, y, wr (i + 1), ()), (cs, ds, ()), t))))
              (lf0 (.done (false, s)))) (lf0 (.done (false, s)))) (lf0 (.done (false, s)))) (lf0 (.done (false, s)))) (lf0 (.done (false, s))))
      (.lf true (.done (true, s)))
def fr14 (o : Bool × St2) : List Value × Mem :=
  (cond o.1 (mk 27 [(0, HV.enc o.2.1.1), (1, HV.enc o.2.1.2.1), (5, I o.2.1.2.2.1), (11, I o.2.1.2.2.1), (12, HV.enc o.2.1.1), (13, I o.2.1.1.n), (14, B false)])
    (mk 27 [(0, HV.enc o.2.1.1), (1, HV.enc o.2.1.2.1), (5, I o.2.1.2.2.1), (17, HV.enc o.2.1.1), (18, I o.2.1.2.2.1), (19, .pointer (some ⟨0, 0 + o.2.1.2.2.1.toNat * 1, none⟩)), (20, cI o.2.2.1.1 o.2.1.2.2.1),
      (21, HV.enc o.2.1.2.1), (22, I o.2.1.2.2.1), (23, .pointer (some ⟨1, 0 + o.2.1.2.2.1.toNat * 1, none⟩)), (24, cI o.2.2.1.2.1 o.2.1.2.2.1), (25, B (eqRows (bRow (mem2 o.2.2.1.1 o.2.2.1.2.1 o.2.2.2) (cI o.2.2.1.1 o.2.1.2.2.1)) (bRow (mem2 o.2.2.1.1 o.2.2.1.2.1 o.2.2.2) (cI o.2.2.1.2.1 o.2.1.2.2.1)))), (26, B true), (4, B false)]), (stOf rp14 mp14 o.2).2)
def ko14 (o : Bool × St2) (κ : Kont) : Ret := cond o.1 (κ (.exit 0) (fr14 (true, o.2)).1 (fr14 (true, o.2)).2) (κ .ret (fr14 (false, o.2)).1 (fr14 (false, o.2)).2)
theorem s14 (w : Nat) (κ : Kont) (x : SLs 0) (y : SLs 1) (i : Int) (cs ds : List Value) (t : Mem) : evn C11 w 14 noB (lp 14 0) (stOf rp14 mp14 ((x, y, i, ()), (cs, ds, ()), t)).1 (stOf rp14 mp14 ((x, y, i, ()), (cs, ds, ()), t)).2 κ =
    (rnd14 ((x, y, i, ()), (cs, ds, ()), t)).run fun o => match o with | .next s' => κ .norm (stOf rp14 mp14 s').1 (stOf rp14 mp14 s').2 | .done o => ko14 o κ := by kernel_rfl
theorem is14 (w : Nat) : LoopIs Try.prog EvN.E EvN.q (EvN.reg 14) C11 w noB (lp 14 0) rp14 mp14 rnd14 ko14 fe2 fr14 :=
  ⟨fun o => (by obtain ⟨b, s⟩ := o; cases b <;> (intro h; cases h)), fun o κ => (by obtain ⟨b, s⟩ := o; cases b <;> rfl), fun s κ => (by obtain ⟨⟨x, y, i, ⟨⟩⟩, ⟨cs, ds, ⟨⟩⟩, t⟩ := s; exact s14 w κ x y i cs ds t)⟩
noncomputable abbrev L14 : LoopB := sumB 4 rp14 mp14 rnd14 big ko14 noB
theorem sem14 (w : Nat) : LoopsSem Try.prog w L14 (codeOf Try.prog 14) := by
  intro y hy
  rw [show loopsOf (codeOf Try.prog 14) = [lp 14 0] from by kernel_rfl] at hy
  exact LoopsSem.cons evFitsN.eqs evFitsN.mixed okC11.cps okC11.good (by kernel_rfl) (no_loops (by kernel_rfl)) (is14 w) (fun _ h => by cases h) (by kernel_rfl) (fun _ h => by cases h) y hy
theorem r14 (w : Nat) (κ : Value × Mem → Ret) (sp sp' : Option Nat) (n c m c' : Nat) (cs ds : List Value) (t : Mem) : bn C11 L14 14 [sl 0 0 sp n c, sl 1 0 sp' m c'] (mem2 cs ds t) w κ =
    cond ((n : Int) != (m : Int)) (κ (B false, mem2 cs ds t))
      (optK (itrv rnd14 big ((⟨sp, n, c⟩, ⟨sp', m, c'⟩, 0, ()), (cs, ds, ()), t)) (fun o => cond o.1 (κ (B true, (stOf rp14 mp14 o.2).2)) (κ (B false, (stOf rp14 mp14 o.2).2))) none) := by kernel_rfl

theorem iter14 (x : SLs 0) (y : SLs 1) (cs ds : List Value) (t : Mem) (hx : x.n = cs.length) (hy : y.n = ds.length) (hxy : cs.length = ds.length) (hc : ∀ v ∈ cs, bOk (mem2 cs ds t) v = true) (hd : ∀ v ∈ ds, bOk (mem2 cs ds t) v = true) (hb : cs.length ≤ 4611686018427387904) :
    ∀ (m i fuel : Nat), i + m = cs.length → m < fuel → ∃ s', itrv rnd14 fuel ((x, y, (i : Int), ()), (cs, ds, ()), t) = some (eqParts ((cs.drop i).map (bRow (mem2 cs ds t))) ((ds.drop i).map (bRow (mem2 cs ds t))), s') ∧ s'.2 = ((cs, ds, ()), t) := by
  intro m
  induction m with
  | zero =>
    intro i fuel hi hf
    obtain ⟨fuel, rfl⟩ : ∃ n, fuel = n + 1 := ⟨fuel - 1, by omega⟩
    have h1 : decide ((i : Int) < (x.n : Int)) = false := decide_eq_false (by omega)
    refine ⟨((x, y, (i : Int), ()), (cs, ds, ()), t), ?_, rfl⟩
    have e1 : cs.drop i = [] := List.drop_of_length_le (by omega)
    have e2 : ds.drop i = [] := List.drop_of_length_le (by omega)
    simp only [itrv, rnd14, h1, Br.val, cond_false, cond_true, e1, e2]
    rfl
  | succ m ih =>
    intro i fuel hi hf
    obtain ⟨fuel, rfl⟩ : ∃ n, fuel = n + 1 := ⟨fuel - 1, by omega⟩
    have h1 : decide ((i : Int) < (x.n : Int)) = true := decide_eq_true (by omega)
    have h2 : decide ((i : Int) < (y.n : Int)) = true := decide_eq_true (by omega)
    have h0 : decide ((0 : Int) ≤ (i : Int)) = true := decide_eq_true (by omega)
    have lc : i < cs.length := by omega
    have ld : i < ds.length := by omega
    have gc : gI cs i = some cs[i] := by simp [gI, lc]
    have gd : gI ds i = some ds[i] := by simp [gI, ld]
    have oc := hc _ (List.getElem_mem lc)
    have od := hd _ (List.getElem_mem ld)
    have e1 : cs.drop i = cs[i] :: cs.drop (i + 1) := List.drop_eq_getElem_cons lc
    have e2 : ds.drop i = ds[i] :: ds.drop (i + 1) := List.drop_eq_getElem_cons ld
    have hw : wr ((i : Int) + 1) = ((i + 1 : Nat) : Int) := by rw [wr_id (by omega) (by omega)]; omega
    cases hne : eqRows (bRow (mem2 cs ds t) cs[i]) (bRow (mem2 cs ds t) ds[i])
    · refine ⟨((x, y, (i : Int), ()), (cs, ds, ()), t), ?_, rfl⟩
      simp only [itrv, rnd14, h0, h1, h2, cI, gc, gd, Option.isSome_some, Option.getD_some, oc, od, hne, Br.val, cond_true, Bool.and_self, Bool.not_false, e1, e2, List.map_cons, eqParts, Bool.false_and]
    · obtain ⟨s', g1, g2⟩ := ih (i + 1) fuel (by omega) (by omega)
      refine ⟨s', ?_, g2⟩
      simp only [itrv, rnd14, h0, h1, h2, cI, gc, gd, Option.isSome_some, Option.getD_some, oc, od, hne, Br.val, cond_true, cond_false, Bool.and_self, Bool.not_true, hw, e1, e2, List.map_cons, eqParts, Bool.true_and]
      exact g1

/-! ### pulled -/
def pl1 (j : Nat) (v : Value) : Value := .slice (some ⟨j, 0, (addrOf v).spot⟩) (lenOf v) (capOf v)
def plC (j : Nat) (vs : List Value) : List Value := (List.range vs.length).map fun i => pl1 (j + i) (vs.getD i undef)
def plR (M : Mem) (vs : List Value) : Mem := vs.map fun v => ⟨bRow M v, 5, true⟩
def plS (vs : List Value) : Pl := vs.map fun v => ((addrOf v).block, (addrOf v).off)
abbrev pM0 (M : Mem) (vs us : List Value) : Mem := mem2 (plC 2 vs) (plC (2 + vs.length) us) (plR M vs ++ plR M us)
abbrev pS (a b : Addr) (vs us : List Value) : Pl := (a.block, a.off) :: (b.block, b.off) :: (plS vs ++ plS us)

theorem plC_get {j : Nat} {vs : List Value} {i : Nat} {v : Value} (h : (plC j vs)[i]? = some v) : ∃ u, vs[i]? = some u ∧ v = pl1 (j + i) u := by
  unfold plC at h
  rw [List.getElem?_map] at h
  by_cases hi : i < vs.length
  · rw [List.getElem?_range hi, Option.map_some, Option.some.injEq] at h
    refine ⟨vs[i], by simp [hi], ?_⟩
    rw [← h]
    simp [List.getD, hi]
  · rw [List.getElem?_eq_none (by simp; omega)] at h
    cases h

theorem bOk_sl {M : Mem} {v : Value} (h : bOk M v = true) : ∃ a n c, v = .slice (some a) n c := by
  obtain ⟨a, n, c, k, rfl, _⟩ := bOk_inv h
  exact ⟨a, n, c, rfl⟩

theorem pv_pl1 {M : Mem} {σ : Pl} {j : Nat} {v : Value} (h : bOk M v = true) (hσ : σ[j]? = some ((addrOf v).block, (addrOf v).off)) : PV σ (pl1 j v) v := by
  obtain ⟨a, n, c, rfl⟩ := bOk_sl h
  obtain ⟨b, o, sp⟩ := a
  cases sp with
  | none => exact PV.sl (o := 0) (s := o) hσ
  | some z => exact PV.slg (o := 0) (s := o) hσ

theorem pulled_row {M : Mem} {v : Value} (h : bOk M v = true) : ∃ k : Blk, M[(addrOf v).block]? = some k ∧ k.live = true ∧ k.elem = 5 ∧ (addrOf v).off + (bRow M v).length ≤ k.cells.length ∧
    ∀ (j : Nat) (v0 : Value), (bRow M v)[j]? = some v0 → k.cells[(addrOf v).off + j]? = some v0 ∧ flat v0 = true := by
  obtain ⟨a, n, c, k, rfl, h1, h2, h3, h4, h5, h6, h7, _⟩ := bOk_inv h
  have ea : addrOf (.slice (some a) n c) = a := rfl
  rw [ea]
  refine ⟨k, h1, h2, h3, by rw [h5]; simp; omega, fun j v0 hj => ?_⟩
  have hf := u8_flat (List.all_eq_true.1 h6 v0 (List.mem_of_getElem? hj))
  refine ⟨?_, by cases v0 <;> first | exact hf | cases hf⟩
  rw [h5, List.getElem?_take] at hj
  split at hj
  · rw [List.getElem?_drop] at hj; exact hj
  · cases hj

theorem pulled2 {M : Mem} {x y : Value} (hx : dOk M x = true) (hy : dOk M y = true) : ∃ a n c b m d, x = .slice (some a) n c ∧ y = .slice (some b) m d ∧ n = (dCells M x).length ∧ m = (dCells M y).length ∧ n ≤ 4611686018427387904 ∧
    Pulled (pS a b (dCells M x) (dCells M y)) M (pM0 M (dCells M x) (dCells M y)) ∧ PV (pS a b (dCells M x) (dCells M y)) (.slice (some ⟨0, 0, a.spot⟩) n c) x ∧ PV (pS a b (dCells M x) (dCells M y)) (.slice (some ⟨1, 0, b.spot⟩) m d) y := by
  obtain ⟨a, n, c, k, rfl, h1, h2, h3, h4, h5, h6, h7⟩ := dOk_inv hx
  obtain ⟨b, m, d, l, rfl, g1, g2, g3, g4, g5, g6, g7⟩ := dOk_inv hy
  have hn : n = (dCells M (.slice (some a) n c)).length := by rw [h5]; simp; omega
  have hm : m = (dCells M (.slice (some b) m d)).length := by rw [g5]; simp; omega
  refine ⟨a, n, c, b, m, d, rfl, rfl, hn, hm, h7, ?_, ?_, ?_⟩
  · generalize hvs : dCells M (.slice (some a) n c) = vs at *
    generalize hus : dCells M (.slice (some b) m d) = us at *
    have cell : ∀ (i : Nat) (v : Value), ((k.cells.drop a.off).take n)[i]? = some v → k.cells[a.off + i]? = some v := by
      intro i v hi
      rw [List.getElem?_take] at hi
      split at hi
      · rw [List.getElem?_drop] at hi; exact hi
      · cases hi
    have cell' : ∀ (i : Nat) (v : Value), ((l.cells.drop b.off).take m)[i]? = some v → l.cells[b.off + i]? = some v := by
      intro i v hi
      rw [List.getElem?_take] at hi
      split at hi
      · rw [List.getElem?_drop] at hi; exact hi
      · cases hi
    have sv : ∀ (i : Nat) (u : Value), vs[i]? = some u → (pS a b vs us)[2 + i]? = some ((addrOf u).block, (addrOf u).off) := by
      intro i u hu
      have hi := lt_of_getElem? hu
      rw [show 2 + i = i + 1 + 1 from by omega, List.getElem?_cons_succ, List.getElem?_cons_succ, List.getElem?_append_left (by simp [plS]; omega)]
      simp [plS, hu]
    have su : ∀ (i : Nat) (u : Value), us[i]? = some u → (pS a b vs us)[2 + vs.length + i]? = some ((addrOf u).block, (addrOf u).off) := by
      intro i u hu
      rw [show 2 + vs.length + i = vs.length + i + 1 + 1 from by omega, List.getElem?_cons_succ, List.getElem?_cons_succ, List.getElem?_append_right (by simp [plS])]
      simp [plS, hu]
    refine ⟨by simp [plS, plR], fun j k0 hj => ?_⟩
    match j, hj with
    | 0, hj =>
      simp only [List.getElem?_cons_zero, Option.some.injEq] at hj
      subst hj
      refine ⟨a.block, a.off, k, rfl, h1, h2, h3.symm, by simp [plC]; omega, fun i v0 hi => ?_⟩
      obtain ⟨u, hu, rfl⟩ := plC_get hi
      refine ⟨u, cell i u (by rw [← h5]; exact hu), pv_pl1 (h6 u (List.mem_of_getElem? hu)) (sv i u hu)⟩
    | 1, hj =>
      simp only [List.getElem?_cons_succ, List.getElem?_cons_zero, Option.some.injEq] at hj
      subst hj
      refine ⟨b.block, b.off, l, rfl, g1, g2, g3.symm, by simp [plC]; omega, fun i v0 hi => ?_⟩
      obtain ⟨u, hu, rfl⟩ := plC_get hi
      refine ⟨u, cell' i u (by rw [← g5]; exact hu), pv_pl1 (g6 u (List.mem_of_getElem? hu)) (su i u hu)⟩
    | j + 2, hj =>
      simp only [List.getElem?_cons_succ] at hj
      have row : ∀ u : Value, bOk M u = true → (pS a b vs us)[j + 2]? = some ((addrOf u).block, (addrOf u).off) → k0 = ⟨bRow M u, 5, true⟩ →
          ∃ (b' s : Nat) (k : Blk), (pS a b vs us)[j + 2]? = some (b', s) ∧ M[b']? = some k ∧ k.live = true ∧ k0.elem = k.elem ∧ s + k0.cells.length ≤ k.cells.length ∧ ∀ (i : Nat) (v0 : Value), k0.cells[i]? = some v0 → ∃ v, k.cells[s + i]? = some v ∧ PV (pS a b vs us) v0 v := by
        intro u hu hs e
        subst e
        obtain ⟨k, r1, r2, r3, r4, r5⟩ := pulled_row hu
        exact ⟨_, _, k, hs, r1, r2, r3.symm, r4, fun i v0 hi => ⟨v0, (r5 i v0 hi).1, PV.flat (r5 i v0 hi).2⟩⟩
      by_cases hlt : j < vs.length
      · rw [List.getElem?_append_left (by simp [plR]; omega)] at hj
        simp only [plR, List.getElem?_map, Option.map_eq_some_iff] at hj
        obtain ⟨u, hu, e⟩ := hj
        exact row u (h6 u (List.mem_of_getElem? hu)) (by rw [show j + 2 = 2 + j from by omega]; exact sv j u hu) e.symm
      · rw [List.getElem?_append_right (by simp [plR]; omega)] at hj
        simp only [plR, List.getElem?_map, Option.map_eq_some_iff, List.length_map] at hj
        obtain ⟨u, hu, e⟩ := hj
        exact row u (g6 u (List.mem_of_getElem? hu)) (by rw [show j + 2 = 2 + vs.length + (j - vs.length) from by omega]; exact su _ u hu) e.symm
  · obtain ⟨b1, o1, sp⟩ := a
    cases sp with
    | none => exact PV.sl (o := 0) (s := o1) rfl
    | some z => exact PV.slg (o := 0) (s := o1) rfl
  · obtain ⟨b1, o1, sp⟩ := b
    cases sp with
    | none => exact PV.sl (o := 0) (s := o1) rfl
    | some z => exact PV.slg (o := 0) (s := o1) rfl

/-- Rows of a small memory are the rows that were pulled. -/
theorem pl_rows {M : Mem} {vs us : List Value} (hv : ∀ v ∈ vs, bOk M v = true) (hu : ∀ v ∈ us, bOk M v = true) :
    ((∀ v ∈ plC 2 vs, bOk (pM0 M vs us) v = true) ∧ (plC 2 vs).map (bRow (pM0 M vs us)) = vs.map (bRow M)) ∧ ((∀ v ∈ plC (2 + vs.length) us, bOk (pM0 M vs us) v = true) ∧ (plC (2 + vs.length) us).map (bRow (pM0 M vs us)) = us.map (bRow M)) := by
  have one : ∀ (j : Nat) (u : Value), bOk M u = true → (pM0 M vs us).blk j = ⟨bRow M u, 5, true⟩ → bOk (pM0 M vs us) (pl1 j u) = true ∧ bRow (pM0 M vs us) (pl1 j u) = bRow M u := by
    intro j u hb hblk
    have hl := bOk_len hb
    obtain ⟨s1, s2⟩ := bOk_mk (o := 0) (n := lenOf u) (c := capOf u) (sp := (addrOf u).spot) hblk (by omega) (bOk_u8 hb) (bOk_r hb) (by rw [hl]; exact bOk_le hb)
    exact ⟨s1, by show bRow (pM0 M vs us) (sl j 0 (addrOf u).spot (lenOf u) (capOf u)) = _; rw [s2, hl]; simp⟩
  have bv : ∀ (i : Nat) (u : Value), vs[i]? = some u → (pM0 M vs us).blk (2 + i) = ⟨bRow M u, 5, true⟩ := by
    intro i u h
    have hi := lt_of_getElem? h
    have : (plR M vs ++ plR M us)[i]? = some ⟨bRow M u, 5, true⟩ := by
      rw [List.getElem?_append_left (by simp [plR]; omega)]
      simp [plR, h]
    unfold Mem.blk
    rw [show 2 + i = i + 1 + 1 from by omega, List.getElem?_cons_succ, List.getElem?_cons_succ, this]
    rfl
  have bu : ∀ (i : Nat) (u : Value), us[i]? = some u → (pM0 M vs us).blk (2 + vs.length + i) = ⟨bRow M u, 5, true⟩ := by
    intro i u h
    have : (plR M vs ++ plR M us)[vs.length + i]? = some ⟨bRow M u, 5, true⟩ := by
      rw [List.getElem?_append_right (by simp [plR])]
      simp [plR, h]
    unfold Mem.blk
    rw [show 2 + vs.length + i = vs.length + i + 1 + 1 from by omega, List.getElem?_cons_succ, List.getElem?_cons_succ, this]
    rfl
  have side : ∀ (j : Nat) (ws : List Value), (∀ v ∈ ws, bOk M v = true) → (∀ (i : Nat) (u : Value), ws[i]? = some u → (pM0 M vs us).blk (j + i) = ⟨bRow M u, 5, true⟩) →
      (∀ v ∈ plC j ws, bOk (pM0 M vs us) v = true) ∧ (plC j ws).map (bRow (pM0 M vs us)) = ws.map (bRow M) := by
    intro j ws hw hb
    constructor
    · intro v hv
      obtain ⟨i, hi⟩ := List.getElem?_of_mem hv
      obtain ⟨u, h1, rfl⟩ := plC_get hi
      exact (one _ u (hw u (List.mem_of_getElem? h1)) (hb i u h1)).1
    · apply List.ext_getElem?
      intro i
      rw [List.getElem?_map, List.getElem?_map]
      cases hi : (plC j ws)[i]? with
      | none =>
        have : ws[i]? = none := by
          rw [List.getElem?_eq_none_iff] at hi ⊢
          simpa [plC] using hi
        rw [this]; rfl
      | some v =>
        obtain ⟨u, h1, rfl⟩ := plC_get hi
        rw [h1]
        simp only [Option.map_some]
        rw [(one _ u (hw u (List.mem_of_getElem? h1)) (hb i u h1)).2]
  exact ⟨side 2 vs hv bv, side (2 + vs.length) us hu bu⟩

def partsTree : Tree := fun args M _ => match args with
  | [x, y] => .lf (dOk M x && dOk M y) (B (eqParts (dRows M x) (dRows M y)), M)
  | _ => .lf false (undef, M)
theorem partsTree_inv {args : List Value} {M : Mem} {wall : Nat} {R : Value × Mem} (h : (partsTree args M wall).val = some R) : ∃ x y, args = [x, y] ∧ dOk M x = true ∧ dOk M y = true ∧ R = (B (eqParts (dRows M x) (dRows M y)), M) := by
  unfold partsTree at h
  split at h
  · rename_i x y
    obtain ⟨h1, rfl⟩ := lf_val h
    simp only [Bool.and_eq_true] at h1
    exact ⟨x, y, rfl, h1.1, h1.2, rfl⟩
  · cases h

theorem parts_run {M : Mem} {vs us : List Value} (hv : ∀ v ∈ vs, bOk M v = true) (hu : ∀ v ∈ us, bOk M v = true) (hb : vs.length ≤ 4611686018427387904) (sp sp' : Option Nat) (n c m c' w : Nat) (hn : n = vs.length) (hm : m = us.length) :
    ∃ M1, bn C11 L14 14 [sl 0 0 sp n c, sl 1 0 sp' m c'] (pM0 M vs us) w some = some (B (eqParts (vs.map (bRow M)) (us.map (bRow M))), M1) := by
  have run := r14 w some sp sp' n c m c' (plC 2 vs) (plC (2 + vs.length) us) (plR M vs ++ plR M us)
  have lv : (plC 2 vs).length = vs.length := by simp [plC]
  have lu : (plC (2 + vs.length) us).length = us.length := by simp [plC]
  obtain ⟨⟨p1, p2⟩, p3, p4⟩ := pl_rows hv hu
  cases hnm : ((n : Int) != (m : Int))
  · have hl : vs.length = us.length := by simp at hnm; omega
    obtain ⟨s', g1, g2⟩ := iter14 ⟨sp, n, c⟩ ⟨sp', m, c'⟩ (plC 2 vs) (plC (2 + vs.length) us) (plR M vs ++ plR M us) (by rw [lv]; exact hn) (by rw [lu]; exact hm) (by omega) p1 p3 (by omega) vs.length 0 big (by omega) (by unfold big; omega)
    simp only [List.drop_zero] at g1
    rw [show ((0 : Nat) : Int) = 0 from rfl, p2, p4] at g1
    rw [hnm, cond_false, g1] at run
    simp only [optK] at run
    obtain ⟨s1, s2⟩ := s'
    dsimp only at g2
    subst g2
    refine ⟨pM0 M vs us, run.trans ?_⟩
    cases eqParts (vs.map (bRow M)) (us.map (bRow M)) <;> rfl
  · rw [hnm, cond_true] at run
    have : eqParts (vs.map (bRow M)) (us.map (bRow M)) = false := by
      cases e : eqParts (vs.map (bRow M)) (us.map (bRow M))
      · rfl
      · have := eqParts_len e
        simp at this hnm
        omega
    rw [this]
    exact ⟨_, run⟩

theorem tell14 : TellOk Try.prog EvN.q 14 (bodyT partsTree) := by
  refine tellT (fun _ args M v M' h => ?_) (fun args M wall R h => ?_)
  · obtain ⟨x, y, rfl, hx, hy, e⟩ := partsTree_inv h
    cases e
    rfl
  · obtain ⟨x, y, rfl, hx, hy, rfl⟩ := partsTree_inv h
    obtain ⟨a, n, c, b, m, d, ex, ey, hn, hm, hb, hp, pv1, pv2⟩ := pulled2 hx hy
    have hv : ∀ v ∈ dCells M x, bOk M v = true := by obtain ⟨_, _, _, _, _, _, _, _, _, _, h, _⟩ := dOk_inv hx; exact h
    have hu : ∀ v ∈ dCells M y, bOk M v = true := by obtain ⟨_, _, _, _, _, _, _, _, _, _, h, _⟩ := dOk_inv hy; exact h
    obtain ⟨M1, run⟩ := parts_run hv hu (by omega) a.spot b.spot n c m d (pM0 M (dCells M x) (dCells M y)).length hn hm
    obtain ⟨T, hT, hr⟩ := run_told evFitsN okC11 (sem14 _) run
    classical
    refine ⟨fun f args M2 _ => if f = 14 ∧ args = [x, y] ∧ M2 = M then some (B (eqParts (dRows M x) (dRows M y)), M) else none, good_pull fun f args M2 wall R e => ?_, by simp⟩
    split at e
    · rename_i hh
      obtain ⟨rfl, rfl, rfl⟩ := hh
      cases e
      refine ⟨T, _, [.slice (some ⟨0, 0, a.spot⟩) n c, .slice (some ⟨1, 0, b.spot⟩) m d], _, M1, [], _, hT, hp, rfl, ?_, hr, hand_flat rfl, by simp⟩
      intro i a0 a1 e0 e1
      match i, e0, e1 with
      | 0, e0, e1 => simp at e0 e1; subst e0 e1; exact pv1
      | 1, e0, e1 => simp at e0 e1; subst e0 e1; exact pv2
    · cases e
noncomputable abbrev C12 : CallC := moreC 14 (bodyT partsTree) C11
theorem okC12 : OkC Try.prog EvN.q C12 := ok_moreC okC11 tell14
end Go.Proofs.Yteeclgeoconekaa
