/-
  The law MkfsApart, run, for any two triples of integers.
-/
import Derived.Test.YteeclgeoconekaaQ11
import Derived.Test.YteeclgeoconekaaS7
namespace Go.Proofs.Yteeclgeoconekaa
open Go.Ev

theorem flat12 : ∀ args v, g6 12 args = some v → flatR v = true := by
  intro args v h
  have : g6 12 args = ret0 (B true) args := rfl
  rw [this] at h
  unfold ret0 at h
  split at h
  · cases h; rfl
  · cases h
noncomputable abbrev C13a : CallC := moreC 12 (bodyT (scalB g6 12)) C12
theorem okC13a : OkC Try.prog EvN.q C13a := ok_moreC okC12 (tellS good6 flat12)
noncomputable abbrev C13 : CallC := moreC 6 (inlB Try.prog EvN C13a noB 6 true) C13a
theorem okC13 : OkC Try.prog EvN.q C13 := ok_moreC okC13a (tellI evFitsN okC13a (by kernel_rfl) fun _ => no_loops (by kernel_rfl))

/-- A pointer to a block that is named. -/
structure PX where
  b : Nat
instance : HV PX where
  enc x := .pointer (some ⟨x.b, 0, none⟩)
  dec := fun | .pointer (some ⟨b', o, none⟩) => cond (Nat.beq o 0) (some ⟨b'⟩) none | _ => none
  ok := by
    intro v a h
    split at h
    · rename_i b' o
      cases hk : Nat.beq o 0
      · rw [hk] at h; cases h
      · rw [hk] at h; cases h
        obtain rfl : o = 0 := by simpa using hk
        rfl
    · cases h

/- the loop that counts rows of zeros -/
abbrev rp5 : List Pt := mkP 104 [(5, .ptr 2), (6, .ptr 3), (7, .hole), (8, .hole), (9, .hole), (10, .hole), (11, .hole), (12, .hole)]
abbrev mp5 : List MPt := [.rowE 45, .rowE 45, gP, gP, .rowE 35]
abbrev A5 := SL 4 × PX × Bool × Int × Int × Int × Unit
abbrev B5 := List Value × List Value × Int × Int × Int × Int × Int × Int × List Value × Unit
abbrev S5 := A5 × B5 × Mem
abbrev mk5 (x : SL 4) (q : PX) (o : Bool) (e z i : Int) (u v : List Value) (g1 g2 g3 h1 h2 h3 : Int) (cs : List Value) (t : Mem) : S5 := ((x, q, o, e, z, i, ()), (u, v, g1, g2, g3, h1, h2, h3, cs, ()), t)
abbrev mem5 (u v : List Value) (g1 g2 g3 h1 h2 h3 : Int) (cs : List Value) (t : Mem) : Mem := ⟨u, 45, true⟩ :: ⟨v, 45, true⟩ :: gb g1 g2 g3 :: gb h1 h2 h3 :: ⟨cs, 35, true⟩ :: t
abbrev nid5 (t : Mem) : Nat := t.length + 1 + 1 + 1 + 1 + 1
noncomputable def rnd5 : S5 → Br (LO S5 S5) := fun s => match s with
  | ((x, q, o, e, z, i, ()), (u, v, g1, g2, g3, h1, h2, h3, cs, ()), t) =>
    .nd (decide (i < (x.n : Int)))
      (.nd (decide (0 ≤ i) && decide (i < (x.n : Int)))
        (.nd (gI cs i).isSome
          (.nd (bOk (mem5 u v g1 g2 g3 h1 h2 h3 cs (t ++ [zrow])) (cI cs i) && bOk (mem5 u v g1 g2 g3 h1 h2 h3 cs (t ++ [zrow])) (rowAt (nid5 t)))
            (.nd (eqRows (bRow (mem5 u v g1 g2 g3 h1 h2 h3 cs (t ++ [zrow])) (cI cs i)) (bRow (mem5 u v g1 g2 g3 h1 h2 h3 cs (t ++ [zrow])) (rowAt (nid5 t))))
              (.lf true (.next (mk5 x q o e (wr (z + 1)) (wr (i + 1)) u v g1 g2 g3 h1 h2 h3 cs (t ++ [zrow]))))
              (.lf true (.next (mk5 x q o e z (wr (i + 1)) u v g1 g2 g3 h1 h2 h3 cs (t ++ [zrow])))))
            (lf0 (.done s))) (lf0 (.done s))) (lf0 (.done s)))
      (.lf true (.done s))
def fr5 (s : S5) : List Value × Mem := (mk 104 [(5, p 2), (6, p 3), (7, HV.enc s.1.1), (8, HV.enc s.1.2.1), (9, B s.1.2.2.1), (10, I s.1.2.2.2.1), (11, I s.1.2.2.2.2.1), (12, I s.1.2.2.2.2.2.1), (61, I s.1.2.2.2.2.2.1), (62, HV.enc s.1.1), (63, I s.1.1.n), (64, B false)], (stOf rp5 mp5 s).2)
abbrev ko5 (s : S5) (κ : Kont) : Ret := κ (.exit 0) (fr5 s).1 (fr5 s).2
theorem s5 (κ : Kont) (x : SL 4) (q : PX) (o : Bool) (e z i : Int) (u v : List Value) (g1 g2 g3 h1 h2 h3 : Int) (cs : List Value) (t : Mem) :
    evn C13 0 5 noB (lp 5 0) (stOf rp5 mp5 (mk5 x q o e z i u v g1 g2 g3 h1 h2 h3 cs t)).1 (stOf rp5 mp5 (mk5 x q o e z i u v g1 g2 g3 h1 h2 h3 cs t)).2 κ =
    (rnd5 (mk5 x q o e z i u v g1 g2 g3 h1 h2 h3 cs t)).run fun o => match o with | .next s' => κ .norm (stOf rp5 mp5 s').1 (stOf rp5 mp5 s').2 | .done o => ko5 o κ := by kernel_rfl
theorem is5 : LoopIs Try.prog EvN.E EvN.q (EvN.reg 5) C13 0 noB (lp 5 0) rp5 mp5 rnd5 ko5 (fun _ => .exit 0) fr5 :=
  ⟨fun o h => (by cases h), fun o κ => rfl, fun s κ => (by obtain ⟨⟨x, q, o, e, z, i, ⟨⟩⟩, ⟨u, v, g1, g2, g3, h1, h2, h3, cs, ⟨⟩⟩, t⟩ := s; exact s5 κ x q o e z i u v g1 g2 g3 h1 h2 h3 cs t)⟩
noncomputable abbrev L5 : LoopB := sumB 9 rp5 mp5 rnd5 N13 ko5 noB
theorem sem5 : LoopsSem Try.prog 0 L5 (codeOf Try.prog 5) := by
  intro y hy
  rw [show loopsOf (codeOf Try.prog 5) = [lp 5 0] from by kernel_rfl] at hy
  exact LoopsSem.cons evFitsN.eqs evFitsN.mixed okC13.cps okC13.good (by kernel_rfl) (no_loops (by kernel_rfl)) is5 (fun _ h => by cases h) (by kernel_rfl) (fun _ h => by cases h) y hy

/- the law -/
abbrev gA (x : Int) : Int := wr (1 + low x 3)
abbrev gB (x : Int) : Int := wr (4 + wr (4 * low x 8))
abbrev gC (x : Int) : Int := wr (16 + low x 81)
abbrev is3 (a b c a' b' c' : Int) : Bool := (a == a') && ((b == b') && ((c == c') && true))
/-- What was read, by its pointer. -/
noncomputable abbrev ld8 (M : Mem) (q : PX) : Bool × Value := loadG Try.prog M 24 (HV.enc q)
abbrev c8 (M : Mem) (q : PX) (i : Nat) : Int := intIn ((M.blk q.b).cells[0 + i]?)
noncomputable abbrev fin5 (κ : Value × Mem → Ret) (s : S5) (pr : Bool) (M : Mem) : Ret :=
  cond (pr == is3 s.2.1.2.2.1 s.2.1.2.2.2.1 s.2.1.2.2.2.2.1 s.2.1.2.2.2.2.2.1 s.2.1.2.2.2.2.2.2.1 s.2.1.2.2.2.2.2.2.2.1)
    (cond (ld8 M s.1.2.1).1
      (cond (is3 (c8 M s.1.2.1 0) (c8 M s.1.2.1 1) (c8 M s.1.2.1 2) s.2.1.2.2.1 s.2.1.2.2.2.1 s.2.1.2.2.2.2.1)
        (cond s.1.2.2.1 (cond (s.1.2.2.2.1 == 0) (cond (s.1.2.2.2.2.1 == blocks s.2.1.2.2.1 s.2.1.2.2.2.1 s.2.1.2.2.2.2.1) (κ (B true, M)) (κ (B false, M))) (κ (B false, M))) (κ (B false, M)))
        (κ (B false, M))) none)
    (κ (B false, M))
noncomputable abbrev two5 (κ : Value × Mem → Ret) (s : S5) (y : Value) (M : Mem) : Ret :=
  cond (dOk M (HV.enc s.1.1) && dOk M y) (fin5 κ s (eqParts (dRows M (HV.enc s.1.1)) (dRows M y)) M) none
noncomputable abbrev end5 (κ : Value × Mem → Ret) (s : S5) : Ret :=
  cond (may s.2.1.2.2.2.2.2.1 s.2.1.2.2.2.2.2.2.1 s.2.1.2.2.2.2.2.2.2.1)
    (two5 κ s (.slice (some ⟨(stOf rp5 mp5 s).2.length, 0, none⟩) (imgRows s.2.1.2.2.2.2.2.1 s.2.1.2.2.2.2.2.2.1 s.2.1.2.2.2.2.2.2.2.1).length (imgRows s.2.1.2.2.2.2.2.1 s.2.1.2.2.2.2.2.2.1 s.2.1.2.2.2.2.2.2.2.1).length)
      ((stOf rp5 mp5 s).2 ++ layRows (stOf rp5 mp5 s).2.length (imgRows s.2.1.2.2.2.2.2.1 s.2.1.2.2.2.2.2.2.1 s.2.1.2.2.2.2.2.2.2.1)))
    (two5 κ s nilS (stOf rp5 mp5 s).2)
abbrev oc (rows : List (List Value)) : List Value := (List.range rows.length).map fun r => .slice (some ⟨4 + (1 + r), 0, none⟩) (rows.getD r []).length (rows.getD r []).length
abbrev rB (rows : List (List Value)) : Mem := rows.map fun l => ⟨l, 5, true⟩
noncomputable abbrev cont5 (κ : Value × Mem → Ret) (u v : List Value) (g1 g2 g3 h1 h2 h3 : Int) (rows : List (List Value)) (x1 x2 x3 : Int) (o : Bool) (e : Int) : Ret :=
  cond (putG (mem5 u v g1 g2 g3 h1 h2 h3 (oc rows) (rB rows ++ [gb 0 0 0])) 0 (nid5 (rB rows)) 0 3 && true)
    (optK (itrv rnd5 N13 (mk5 ⟨rows.length, rows.length⟩ ⟨nid5 (rB rows)⟩ o e 0 0 u v g1 g2 g3 h1 h2 h3 (oc rows)
      ((rB rows ++ [gb 0 0 0]).set (rB rows).length ⟨putC (mem5 u v g1 g2 g3 h1 h2 h3 (oc rows) (rB rows ++ [gb 0 0 0])) (nid5 (rB rows)) 0 [I x1, I x2, I x3],
        ((mem5 u v g1 g2 g3 h1 h2 h3 (oc rows) (rB rows ++ [gb 0 0 0])).blk (nid5 (rB rows))).elem, ((mem5 u v g1 g2 g3 h1 h2 h3 (oc rows) (rB rows ++ [gb 0 0 0])).blk (nid5 (rB rows))).live⟩))) (end5 κ) none) none
noncomputable abbrev main5 (κ : Value × Mem → Ret) (u v : List Value) (g1 g2 g3 h1 h2 h3 : Int) (rows : List (List Value)) : Ret :=
  cond (decide ((rows.length : Int) < 20)) (κ (B false, mem5 u v g1 g2 g3 h1 h2 h3 (oc rows) (rB rows)))
    (cond ((rows.length : Int) != sectors g1 g2 g3) (κ (B false, mem5 u v g1 g2 g3 h1 h2 h3 (oc rows) (rB rows)))
      (cond (decide ((0 : Int) < (rows.length : Int))) (cond (gI (oc rows) 0).isSome
        (cond (readF (bRow (mem5 u v g1 g2 g3 h1 h2 h3 (oc rows) (rB rows)) (cI (oc rows) 0)))
          (cond (bOk (mem5 u v g1 g2 g3 h1 h2 h3 (oc rows) (rB rows)) (cI (oc rows) 0) && kOk (cI (oc rows) 0))
            (cont5 κ u v g1 g2 g3 h1 h2 h3 rows (at8 (bRow (mem5 u v g1 g2 g3 h1 h2 h3 (oc rows) (rB rows)) (cI (oc rows) 0)) 4) (at8 (bRow (mem5 u v g1 g2 g3 h1 h2 h3 (oc rows) (rB rows)) (cI (oc rows) 0)) 5)
              (at8 (bRow (mem5 u v g1 g2 g3 h1 h2 h3 (oc rows) (rB rows)) (cI (oc rows) 0)) 6) (at8 (bRow (mem5 u v g1 g2 g3 h1 h2 h3 (oc rows) (rB rows)) (cI (oc rows) 0)) 7 == 1) 0) none)
          (cond (bOk (mem5 u v g1 g2 g3 h1 h2 h3 (oc rows) (rB rows)) (cI (oc rows) 0) && kOk (cI (oc rows) 0)) (cont5 κ u v g1 g2 g3 h1 h2 h3 rows 0 0 0 false 3) none)) none) none))
abbrev arr (a b c : Int) : List Value := [I a, I b, I c]
theorem r5 (κ : Value × Mem → Ret) (a1 a2 a3 b1 b2 b3 : Int) : bn C13 L5 5 [gv a1 a2 a3, gv b1 b2 b3] [] 0 κ =
    cond (may (gA a1) (gB a2) (gC a3)) (main5 κ (arr a1 a2 a3) (arr b1 b2 b3) (gA a1) (gB a2) (gC a3) (gA b1) (gB b2) (gC b3) (imgRows (gA a1) (gB a2) (gC a3)))
      (κ (B false, [⟨arr a1 a2 a3, 45, true⟩, ⟨arr b1 b2 b3, 45, true⟩, gb (gA a1) (gB a2) (gC a3), gb (gA b1) (gB b2) (gC b3)])) := by kernel_rfl
end Go.Proofs.Yteeclgeoconekaa
