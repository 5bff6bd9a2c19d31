/-
  The document's Image: its loops.
-/
import Derived.Test.YteeclgeoconekaaQ17
namespace Go.Proofs.Yteeclgeoconekaa
open Go.Ev

/-- A number of the geometry that lies ahead of all. -/
noncomputable abbrev fG (M : Mem) (k : Nat) : Bool := (loadG Try.prog M 3 (.pointer (some ⟨0, k, none⟩))).1 && isInt .i64 (loadG Try.prog M 3 (.pointer (some ⟨0, k, none⟩))).2
noncomputable abbrev fI (M : Mem) (k : Nat) : Int := intOf (loadG Try.prog M 3 (.pointer (some ⟨0, k, none⟩))).2
/-- A row more behind a table. -/
noncomputable abbrev apR (M : Mem) (x v : Value) (κ : Value × Mem → Ret) : Ret := apK (appendB Try.prog (M ++ [⟨[v], 35, true⟩]) 0 [31, 31] x (sl M.length 0 none 1 1)) κ

/- the zeros -/
abbrev rp154 : List Pt := mkP 87 [(1, .ptr 0), (7, .hole), (8, .hole), (16, .hole)]
abbrev S154 := (Value × Int × Int × Unit) × Unit × Mem
noncomputable def fr154 (s : S154) : List Value × Mem := (mk 87 [(1, p 0), (7, s.1.1), (8, I s.1.2.1), (16, I s.1.2.2.1), (76, I s.1.2.2.1), (77, .pointer (some ⟨0, 2, none⟩)), (78, I (fI s.2.2 2)), (79, B false)], s.2.2)
noncomputable def ko154 (s : S154) (κ : Kont) : Ret := κ (.exit 4) (fr154 s).1 (fr154 s).2
noncomputable def k154 (κ : Kont) (o : LO S154 S154) : Ret := match o with | .next s' => κ .norm (stOf rp154 [] s').1 (stOf rp154 [] s').2 | .done o => ko154 o κ
def n154 (x : Value) (i j : Int) (M : Mem) : S154 := ((x, i, j, ()), (), M)
theorem s154 (κ : Kont) (x : Value) (i j : Int) (M : Mem) : evn D5 0 15 noB (lp 15 2) (stOf rp154 [] (((x, i, j, ()), (), M) : S154)).1 (stOf rp154 [] (((x, i, j, ()), (), M) : S154)).2 κ =
    cond (fG M 2) (cond (decide (j < fI M 2)) (apR (M ++ [zrow]) x (rowAt M.length) fun p => k154 κ (.next (n154 p.1 i (wr (j + 1)) p.2))) (k154 κ (.done (n154 x i j M)))) none := by kernel_rfl

/- the inodes -/
abbrev rp152 : List Pt := mkP 87 [(1, .ptr 0), (7, .hole), (8, .hole), (10, .hole), (13, .hole)]
abbrev S152 := (Value × Int × PX × Int × Unit) × Unit × Mem
abbrev zero66 : Value := .agg (List.replicate 44 (I 0)).toArray
noncomputable abbrev ld66 (M : Mem) (q : PX) : Bool × Value := loadG Try.prog M 66 (HV.enc q)
noncomputable abbrev st66 (M : Mem) (q : PX) : Bool × Mem := storeG Try.prog M 0 66 (HV.enc q) zero66
noncomputable abbrev put152 (M : Mem) (q : PX) (row : List Value) (x : Value) (κ : Value × Mem → Ret) : Ret :=
  cond (st66 (M ++ [⟨sealRow 73 row, 5, true⟩]) q).1 (apR (st66 (M ++ [⟨sealRow 73 row, 5, true⟩]) q).2 x (sl M.length 0 (some 1) 128 128) κ) none
noncomputable def fr152 (s : S152) : List Value × Mem := (mk 87 [(1, p 0), (7, s.1.1), (8, I s.1.2.1), (10, HV.enc s.1.2.2.1), (13, I s.1.2.2.2.1), (59, I s.1.2.2.2.1), (60, .pointer (some ⟨0, 1, none⟩)), (61, I (fI s.2.2 1)), (62, I (wr ((fI s.2.2 1).tdiv 4))), (63, B false)], s.2.2)
noncomputable def ko152 (s : S152) (κ : Kont) : Ret := κ (.exit 2) (fr152 s).1 (fr152 s).2
noncomputable def k152 (κ : Kont) (o : LO S152 S152) : Ret := match o with | .next s' => κ .norm (stOf rp152 [] s').1 (stOf rp152 [] s').2 | .done o => ko152 o κ
def n152 (x : Value) (i : Int) (q : PX) (j : Int) (M : Mem) : S152 := ((x, i, q, j, ()), (), M)
theorem s152 (κ : Kont) (x : Value) (i : Int) (q : PX) (j : Int) (M : Mem) : evn D5 0 15 noB (lp 15 1) (stOf rp152 [] (((x, i, q, j, ()), (), M) : S152)).1 (stOf rp152 [] (((x, i, q, j, ()), (), M) : S152)).2 κ =
    cond (fG M 1) (cond (decide (j < wr ((fI M 1).tdiv 4)))
        (cond (ld66 M q).1 (cond (eqC (cellsOf (ld66 M q).2) (ints4 2 1)) (put152 M q nodeL0 x fun p => k152 κ (.next (n152 p.1 i q (wr (j + 1)) p.2)))
          (cond (eqC (cellsOf (ld66 M q).2) (ints4 0 0)) (put152 M q nodeLZ x fun p => k152 κ (.next (n152 p.1 i q (wr (j + 1)) p.2))) none)) none)
      (k152 κ (.done (n152 x i q j M)))) none := by kernel_rfl

/-! ### the inner loops, told -/
def brA {S O : Type} (o : Option (Value × Mem)) (f : Value × Mem → S) (d : O) : Br (LO S O) := match o with | some p => .lf true (.next (f p)) | none => .lf false (.done d)
theorem apK_br {S O : Type} {t : Br (Value × Mem)} {f : Value × Mem → S} {d : O} {k : LO S O → Ret} : apK t (fun p => k (.next (f p))) = (brA t.val f d).run k := by
  unfold apK brA
  cases t.val <;> rfl
theorem shape1 {S O : Type} {g c : Bool} {t : Br (Value × Mem)} {f : Value × Mem → S} {o d : O} {k : LO S O → Ret} :
    cond g (cond c (apK t fun p => k (.next (f p))) (k (.done o))) none = (Br.nd g (.nd c (brA t.val f d) (.lf true (.done o))) (.lf false (.done d))).run k := by
  rw [apK_br (d := d)]
  cases g <;> cases c <;> rfl
theorem shape2 {S O : Type} {g c l e1 e2 a1 a2 : Bool} {t1 t2 : Br (Value × Mem)} {f : Value × Mem → S} {o d : O} {k : LO S O → Ret} :
    cond g (cond c (cond l (cond e1 (cond a1 (apK t1 fun p => k (.next (f p))) none) (cond e2 (cond a2 (apK t2 fun p => k (.next (f p))) none) none)) none) (k (.done o))) none =
      (Br.nd g (.nd c (.nd l (.nd e1 (.nd a1 (brA t1.val f d) (.lf false (.done d))) (.nd e2 (.nd a2 (brA t2.val f d) (.lf false (.done d))) (.lf false (.done d)))) (.lf false (.done d))) (.lf true (.done o))) (.lf false (.done d))).run k := by
  rw [apK_br (d := d), apK_br (d := d)]
  cases g <;> cases c <;> cases l <;> cases e1 <;> cases a1 <;> cases e2 <;> cases a2 <;> rfl
noncomputable abbrev appR (M : Mem) (x v : Value) : Br (Value × Mem) := appendB Try.prog (M ++ [⟨[v], 35, true⟩]) 0 [31, 31] x (sl M.length 0 none 1 1)
noncomputable def rnd154 : S154 → Br (LO S154 S154) := fun s => match s with
  | ((x, i, j, ()), (), M) => .nd (fG M 2) (.nd (decide (j < fI M 2)) (brA (appR (M ++ [zrow]) x (rowAt M.length)).val (fun p => n154 p.1 i (wr (j + 1)) p.2) (n154 x i j M)) (.lf true (.done (n154 x i j M)))) (.lf false (.done (n154 x i j M)))
theorem is154 : LoopIs Try.prog EvN.E EvN.q (EvN.reg 15) D5 0 noB (lp 15 2) rp154 [] rnd154 ko154 (fun _ => .exit 4) fr154 :=
  ⟨fun o h => (by cases h), fun o κ => (by kernel_rfl), fun s κ => (by
    obtain ⟨⟨x, i, j, ⟨⟩⟩, ⟨⟩, M⟩ := s
    have h := shape1 (g := fG M 2) (c := decide (j < fI M 2)) (t := appR (M ++ [zrow]) x (rowAt M.length)) (f := fun p => n154 p.1 i (wr (j + 1)) p.2) (o := n154 x i j M) (d := n154 x i j M) (k := k154 κ)
    exact Eq.trans (s154 κ x i j M) (Eq.trans (by kernel_rfl) (Eq.trans h (by kernel_rfl))))⟩
noncomputable def rnd152 : S152 → Br (LO S152 S152) := fun s => match s with
  | ((x, i, q, j, ()), (), M) => .nd (fG M 1) (.nd (decide (j < wr ((fI M 1).tdiv 4))) (.nd (ld66 M q).1
      (.nd (eqC (cellsOf (ld66 M q).2) (ints4 2 1)) (.nd (st66 (M ++ [⟨sealRow 73 nodeL0, 5, true⟩]) q).1 (brA (appR (st66 (M ++ [⟨sealRow 73 nodeL0, 5, true⟩]) q).2 x (sl M.length 0 (some 1) 128 128)).val (fun p => n152 p.1 i q (wr (j + 1)) p.2) (n152 x i q j M)) (.lf false (.done (n152 x i q j M))))
        (.nd (eqC (cellsOf (ld66 M q).2) (ints4 0 0)) (.nd (st66 (M ++ [⟨sealRow 73 nodeLZ, 5, true⟩]) q).1 (brA (appR (st66 (M ++ [⟨sealRow 73 nodeLZ, 5, true⟩]) q).2 x (sl M.length 0 (some 1) 128 128)).val (fun p => n152 p.1 i q (wr (j + 1)) p.2) (n152 x i q j M)) (.lf false (.done (n152 x i q j M)))) (.lf false (.done (n152 x i q j M)))))
      (.lf false (.done (n152 x i q j M)))) (.lf true (.done (n152 x i q j M)))) (.lf false (.done (n152 x i q j M)))
theorem is152 : LoopIs Try.prog EvN.E EvN.q (EvN.reg 15) D5 0 noB (lp 15 1) rp152 [] rnd152 ko152 (fun _ => .exit 2) fr152 :=
  ⟨fun o h => (by cases h), fun o κ => (by kernel_rfl), fun s κ => (by
    obtain ⟨⟨x, i, q, j, ⟨⟩⟩, ⟨⟩, M⟩ := s
    have h := shape2 (g := fG M 1) (c := decide (j < wr ((fI M 1).tdiv 4))) (l := (ld66 M q).1) (e1 := eqC (cellsOf (ld66 M q).2) (ints4 2 1)) (e2 := eqC (cellsOf (ld66 M q).2) (ints4 0 0))
      (a1 := (st66 (M ++ [⟨sealRow 73 nodeL0, 5, true⟩]) q).1) (a2 := (st66 (M ++ [⟨sealRow 73 nodeLZ, 5, true⟩]) q).1) (t1 := appR (st66 (M ++ [⟨sealRow 73 nodeL0, 5, true⟩]) q).2 x (sl M.length 0 (some 1) 128 128)) (t2 := appR (st66 (M ++ [⟨sealRow 73 nodeLZ, 5, true⟩]) q).2 x (sl M.length 0 (some 1) 128 128))
      (f := fun p => n152 p.1 i q (wr (j + 1)) p.2) (o := n152 x i q j M) (d := n152 x i q j M) (k := k152 κ)
    exact Eq.trans (s152 κ x i q j M) (Eq.trans (by kernel_rfl) (Eq.trans h (by kernel_rfl))))⟩
noncomputable abbrev L154 : LoopB := sumB 23 rp154 [] rnd154 N13 ko154 noB
noncomputable abbrev L152 : LoopB := sumB 17 rp152 [] rnd152 N13 ko152 L154
end Go.Proofs.Yteeclgeoconekaa


/-
  The document's Image: a round of its outer loop.
-/
namespace Go.Proofs.Yteeclgeoconekaa
open Go.Ev

abbrev rp150 : List Pt := mkP 87 [(1, .ptr 0), (7, .hole), (8, .hole)]
abbrev S150 := (Value × Int × Unit) × Unit × Mem
noncomputable def fr150 (s : S150) : List Value × Mem := (mk 87 [(1, p 0), (7, s.1.1), (8, I s.1.2.1), (33, I s.1.2.1), (34, .pointer (some ⟨0, 0, none⟩)), (35, I (fI s.2.2 0)), (36, B false)], s.2.2)
noncomputable def ko150 (s : S150) (κ : Kont) : Ret := κ (.exit 0) (fr150 s).1 (fr150 s).2
noncomputable def k150 (κ : Kont) (o : LO S150 S150) : Ret := match o with | .next s' => κ .norm (stOf rp150 [] s').1 (stOf rp150 [] s').2 | .done o => ko150 o κ
def n150 (x : Value) (i : Int) (M : Mem) : S150 := ((x, i, ()), (), M)
abbrev M42 (M : Mem) (v1 v2 : Value) : Mem := M ++ [⟨sealRow 71 (groupL (bRow M v1) (bRow M v2)), 5, true⟩]
/-- Behind the inodes' bits. -/
noncomputable abbrev tail150 (κ : Kont) (x : Value) (i : Int) (q : PX) (c : Int) (v1 : Value) (M4 : Mem) : Ret :=
  cond (decide (0 ≤ c) && decide (c ≤ 1000))
    (cond ((bOk (M4 ++ [bitsB c]) v1 && bOk (M4 ++ [bitsB c]) (bitsV M4.length c)) && ((Nat.ble 1 (lenOf v1) && Nat.ble (lenOf v1) 4) && (Nat.ble 2 (bitsN c) && Nat.ble (bitsN c) 12)))
      (apR (M42 (M4 ++ [bitsB c]) v1 (bitsV M4.length c)) x (sl (M4 ++ [bitsB c]).length 0 (some 1) 128 128) fun p =>
        optK (itrv rnd152 N13 (n152 p.1 i q 0 p.2)) (fun s => optK (itrv rnd154 N13 (n154 s.1.1 s.1.2.1 0 s.2.2)) (fun s' => k150 κ (.next (n150 s'.1.1 (wr (s'.1.2.1 + 1)) s'.2.2))) none) none) none) none
abbrev z66 : Blk := ⟨List.replicate 44 (I 0), 66, true⟩
noncomputable abbrev st65 (M : Mem) (b : Nat) : Bool × Mem := storeG Try.prog M 0 65 (.pointer (some ⟨b, 0, none⟩)) (.agg cells11.toArray)
abbrev one150 (M : Mem) : Mem := (M ++ [z66]) ++ [⟨[I 0], 3, true⟩]
theorem s150 (κ : Kont) (x : Value) (i : Int) (M : Mem) : evn D5 0 15 L152 (lp 15 0) (stOf rp150 [] (((x, i, ()), (), M) : S150)).1 (stOf rp150 [] (((x, i, ()), (), M) : S150)).2 κ =
    cond (fG M 0) (cond (decide (i < fI M 0))
        (cond (i == 0)
          (cond (st65 (one150 M) M.length).1 (cond (fG (st65 (one150 M) M.length).2 1) (cond (fG (st65 (one150 M) M.length).2 2)
            (cond (isOne0 ((st65 (one150 M) M.length).2.blk (M ++ [z66]).length) && isB43 (fI (st65 (one150 M) M.length).2 1))
              (tail150 κ x i ⟨M.length⟩ (fI (st65 (one150 M) M.length).2 2) (.slice (some ⟨(st65 (one150 M) M.length).2.length, 0, some 1⟩) (bitsN (fI (st65 (one150 M) M.length).2 1)) (bitsN (fI (st65 (one150 M) M.length).2 1)))
                ((st65 (one150 M) M.length).2 ++ [⟨bit0 (List.replicate (bitsN (fI (st65 (one150 M) M.length).2 1)) Z8), 5, true⟩])) none) none) none) none)
          (cond (fG (M ++ [z66]) 1) (cond (fG (M ++ [z66]) 2) (cond (decide (0 ≤ fI (M ++ [z66]) 1) && decide (fI (M ++ [z66]) 1 ≤ 1000))
            (tail150 κ x i ⟨M.length⟩ (fI (M ++ [z66]) 2) (bitsV (M ++ [z66]).length (fI (M ++ [z66]) 1)) ((M ++ [z66]) ++ [bitsB (fI (M ++ [z66]) 1)])) none) none) none))
        (k150 κ (.done (n150 x i M)))) none := by kernel_rfl

/-! ### told: what comes behind, once -/
def rO {α : Type} (o : Option α) (k : α → Ret) : Ret := match o with | some a => k a | none => none
def ofO {S O : Type} (o : Option (LO S O)) (d : O) : Br (LO S O) := match o with | some a => .lf true a | none => .lf false (.done d)
theorem ofO_run {S O : Type} {o : Option (LO S O)} {d : O} {k : LO S O → Ret} : (ofO o d).run k = rO o k := by cases o <;> rfl
theorem rO_cond {α : Type} {g : Bool} {a b : Option α} {k : α → Ret} : rO (cond g a b) k = cond g (rO a k) (rO b k) := by cases g <;> rfl
theorem rO_app {α : Type} {t : Br (Value × Mem)} {f : Value × Mem → Option α} {k : α → Ret} : rO (t.val.bind f) k = apK t (fun p => rO (f p) k) := by
  unfold apK
  cases t.val <;> rfl
theorem rO_opt {α β : Type} {o : Option β} {f : β → Option α} {k : α → Ret} : rO (o.bind f) k = optK o (fun s => rO (f s) k) none := by cases o <;> rfl
theorem rO_some {α : Type} {x : α} {k : α → Ret} : rO (some x) k = k x := rfl
theorem rO_none {α : Type} {k : α → Ret} : rO none k = none := rfl
noncomputable def tail150R (x : Value) (i : Int) (q : PX) (c : Int) (v1 : Value) (M4 : Mem) : Option (LO S150 S150) :=
  cond (decide (0 ≤ c) && decide (c ≤ 1000))
    (cond ((bOk (M4 ++ [bitsB c]) v1 && bOk (M4 ++ [bitsB c]) (bitsV M4.length c)) && ((Nat.ble 1 (lenOf v1) && Nat.ble (lenOf v1) 4) && (Nat.ble 2 (bitsN c) && Nat.ble (bitsN c) 12)))
      ((appR (M42 (M4 ++ [bitsB c]) v1 (bitsV M4.length c)) x (sl (M4 ++ [bitsB c]).length 0 (some 1) 128 128)).val.bind fun p =>
        (itrv rnd152 N13 (n152 p.1 i q 0 p.2)).bind fun s => (itrv rnd154 N13 (n154 s.1.1 s.1.2.1 0 s.2.2)).bind fun s' => some (.next (n150 s'.1.1 (wr (s'.1.2.1 + 1)) s'.2.2))) none) none
theorem tail150_eq (κ : Kont) (x : Value) (i : Int) (q : PX) (c : Int) (v1 : Value) (M4 : Mem) : rO (tail150R x i q c v1 M4) (k150 κ) = tail150 κ x i q c v1 M4 := by
  unfold tail150R
  rw [rO_cond, rO_cond, rO_app]
  simp only [rO_opt]
  exact Eq.trans (b := tail150 κ x i q c v1 M4) (by kernel_rfl) (by kernel_rfl)
noncomputable def round150 (x : Value) (i : Int) (M : Mem) : Option (LO S150 S150) :=
  cond (fG M 0) (cond (decide (i < fI M 0))
        (cond (i == 0)
          (cond (st65 (one150 M) M.length).1 (cond (fG (st65 (one150 M) M.length).2 1) (cond (fG (st65 (one150 M) M.length).2 2)
            (cond (isOne0 ((st65 (one150 M) M.length).2.blk (M ++ [z66]).length) && isB43 (fI (st65 (one150 M) M.length).2 1))
              (tail150R x i ⟨M.length⟩ (fI (st65 (one150 M) M.length).2 2) (.slice (some ⟨(st65 (one150 M) M.length).2.length, 0, some 1⟩) (bitsN (fI (st65 (one150 M) M.length).2 1)) (bitsN (fI (st65 (one150 M) M.length).2 1)))
                ((st65 (one150 M) M.length).2 ++ [⟨bit0 (List.replicate (bitsN (fI (st65 (one150 M) M.length).2 1)) Z8), 5, true⟩])) none) none) none) none)
          (cond (fG (M ++ [z66]) 1) (cond (fG (M ++ [z66]) 2) (cond (decide (0 ≤ fI (M ++ [z66]) 1) && decide (fI (M ++ [z66]) 1 ≤ 1000))
            (tail150R x i ⟨M.length⟩ (fI (M ++ [z66]) 2) (bitsV (M ++ [z66]).length (fI (M ++ [z66]) 1)) ((M ++ [z66]) ++ [bitsB (fI (M ++ [z66]) 1)])) none) none) none))
        (some (.done (n150 x i M)))) none
noncomputable def rnd150 : S150 → Br (LO S150 S150) := fun s => ofO (round150 s.1.1 s.1.2.1 s.2.2) s
theorem is150 : LoopIs Try.prog EvN.E EvN.q (EvN.reg 15) D5 0 L152 (lp 15 0) rp150 [] rnd150 ko150 (fun _ => .exit 0) fr150 :=
  ⟨fun o h => (by cases h), fun o κ => (by kernel_rfl), fun s κ => (by
    obtain ⟨⟨x, i, ⟨⟩⟩, ⟨⟩, M⟩ := s
    have h : (ofO (round150 x i M) (n150 x i M)).run (k150 κ) = _ := ofO_run
    unfold round150 at h
    simp only [rO_cond, tail150_eq, rO_none, rO_some] at h
    exact Eq.trans (s150 κ x i M) (Eq.trans (by kernel_rfl) (Eq.trans h.symm (by kernel_rfl))))⟩
noncomputable abbrev L15 : LoopB := sumB 7 rp150 [] rnd150 N13 ko150 L152
end Go.Proofs.Yteeclgeoconekaa


/-
  The document's Image, run.
-/
namespace Go.Proofs.Yteeclgeoconekaa
open Go.Ev

abbrev recB : Blk := ⟨sealRow 82 recL, 5, true⟩
noncomputable abbrev main15 (κ : Value × Mem → Ret) (v1 : Value) (M : Mem) : Ret :=
  optK (itrv rnd150 N13 (n150 (sl (M ++ [recB]).length 0 none 2 2) 0 ((M ++ [recB]) ++ [(⟨[v1, sl M.length 0 (some 1) 128 128], 35, true⟩ : Blk)]))) (fun s => κ (s.1.1, s.2.2)) none
theorem r15 (κ : Value × Mem → Ret) (a b c : Int) : bn D5 L15 15 [gv a b c] [] 0 κ =
    cond (!may a b c) (κ (nilS, [gb a b c])) (cond (may a b c) (main15 κ (sl 1 0 (some 1) 128 128) [gb a b c, ⟨superR a b c, 5, true⟩]) (main15 κ nilS [gb a b c])) := by kernel_rfl
theorem reg15 : firstReg (lp 15 0) = some 7 ∧ firstReg (lp 15 1) = some 17 ∧ firstReg (lp 15 2) = some 23 := ⟨by kernel_rfl, by kernel_rfl, by kernel_rfl⟩
theorem sem15 : LoopsSem Try.prog 0 L15 (codeOf Try.prog 15) := by
  intro y hy
  rw [show loopsOf (codeOf Try.prog 15) = [lp 15 0, lp 15 1, lp 15 2] from by kernel_rfl] at hy
  obtain ⟨q1, q2, q3⟩ := reg15
  have h3 : ∀ y ∈ [lp 15 2], ∀ id', firstReg y = some id' → ∀ r M g, L154 id' r M = some g → Go.Ev.Sem Try.prog 0 (.loop y) r M g :=
    LoopsSem.cons evFitsN.eqs evFitsN.mixed okD5.cps okD5.good (by kernel_rfl) (no_loops (by kernel_rfl)) is154 (fun _ h => by cases h) q3 (fun _ h => by cases h)
  have h2 : ∀ y ∈ [lp 15 1, lp 15 2], ∀ id', firstReg y = some id' → ∀ r M g, L152 id' r M = some g → Go.Ev.Sem Try.prog 0 (.loop y) r M g :=
    LoopsSem.cons evFitsN.eqs evFitsN.mixed okD5.cps okD5.good (by kernel_rfl) (no_loops (by kernel_rfl)) is152 (fun y hy id' e => by
      rcases List.mem_singleton.1 hy with rfl
      rw [q3] at e; cases e; decide) q2 h3
  have hin : LoopsSem Try.prog 0 L152 (lp 15 0) := by
    intro y hy
    rw [show loopsOf (lp 15 0) = [lp 15 1, lp 15 2] from by kernel_rfl] at hy
    exact h2 y hy
  exact LoopsSem.cons evFitsN.eqs evFitsN.mixed okD5.cps okD5.good (by kernel_rfl) hin is150 (fun y hy id' e => by
      rcases List.mem_cons.1 hy with rfl | hy
      · rw [q2] at e; cases e; decide
      · rcases List.mem_singleton.1 hy with rfl
        rw [q3] at e; cases e; decide) q1 h2 y hy
end Go.Proofs.Yteeclgeoconekaa
