/-
  The empty record's sector, sectors of inodes, places of groups and inodes: told in any memory.
-/
import Derived.Test.YteeclgeoconekaaQ8
namespace Go.Proofs.Yteeclgeoconekaa
open Go.Ev

theorem handOn_any {M0 M1 : Mem} {v : Value} {n c : Nat} {e : Int} {k : Blk} (h : handOn Try.prog M0 M1 v [] = some (.tuple #[.slice (some ⟨0, 0, none⟩) n c, I e], [k])) (M : Mem) :
    handOn Try.prog M0 M1 v M = some (.tuple #[.slice (some ⟨M.length, 0, none⟩) n c, I e], M ++ [k]) := by
  unfold handOn at h ⊢
  cases hf : flatR v
  · rw [hf] at h
    simp only [cond_false] at h ⊢
    split at h
    · rename_i vs
      split at h
      · rename_i a b hab
        cases hb : flat b
        · rw [hb] at h; cases h
        · rw [hb] at h
          simp only [cond_true] at h
          split at h
          · rename_i x n' c' kb htr
            simp only [Option.some.injEq, Prod.mk.injEq, Value.tuple.injEq, List.nil_append] at h
            obtain ⟨h1, h2⟩ := h
            have h3 := congrArg Array.toList h1
            simp only [List.cons.injEq, Value.slice.injEq, Option.some.injEq, Addr.mk.injEq, and_true] at h3
            obtain ⟨⟨⟨_, h4, h5⟩, h6, h7⟩, h8⟩ := h3
            have h9 : kb = k := by simpa using h2
            simp only [hab, hb, cond_true, htr, h4, h5, h6, h7, h8, h9]
          · cases h
      · cases h
    · split at h
      · simp only [Option.some.injEq, Prod.mk.injEq] at h
        obtain ⟨h1, _⟩ := h
        cases h1
      · cases h
  · rw [hf] at h
    simp only [cond_true, Option.some.injEq, Prod.mk.injEq] at h
    obtain ⟨_, h2⟩ := h
    cases h2

/-- A closed call that tells a row, told in any memory. -/
theorem closed_told {f : FuncId} {a0 : List Value} (ha : a0.all flat = true) {S : CallFn} (hS : CallGood Try.prog S) {n : Nat} {row : List Value} (h : (S f a0 [] 0).bind (fun p => handOn Try.prog [] p.2 p.1 []) = some (.tuple #[.slice (some ⟨0, 0, none⟩) n n, I 0], [⟨row, 5, true⟩])) (M : Mem) (wall : Nat) :
    ∃ T, CallGood Try.prog T ∧ T f a0 M wall = some (.tuple #[.slice (some ⟨M.length, 0, none⟩) n n, I 0], M ++ [⟨row, 5, true⟩]) := by
  rw [Option.bind_eq_some_iff] at h
  obtain ⟨⟨v, M1⟩, h1, h2⟩ := h
  exact loc_told (view_flat M a0 0 ha) ⟨S, hS, h1⟩ (handOn_any h2 M) wall

theorem goodE : CallGood Try.prog (evO Try.prog EvA (plainC C2) is57 200) := good_evO evFits okC2.good is57 200
theorem recRow_ok : (sealRow 82 recL).length = 128 ∧ u8s (sealRow 82 recL) = true ∧ u8r (sealRow 82 recL) = true := ⟨sealRow_len (by simp [recL]), sealRow_u8 u8s_rep, sealRow_r (by omega) u8r_rep⟩
theorem nodeZ_ok : (sealRow 73 nodeLZ).length = 128 ∧ u8s (sealRow 73 nodeLZ) = true ∧ u8r (sealRow 73 nodeLZ) = true := ⟨sealRow_len (by simp [nodeLZ]), sealRow_u8 u8s_rep, sealRow_r (by omega) u8r_rep⟩
theorem nodeL0_ok : nodeL0.length = 92 ∧ u8s nodeL0 = true ∧ u8r nodeL0 = true := by
  refine ⟨by simp [nodeL0], ?_, ?_⟩
  · rfl
  · rfl
theorem node0_ok : (sealRow 73 nodeL0).length = 128 ∧ u8s (sealRow 73 nodeL0) = true ∧ u8r (sealRow 73 nodeL0) = true := ⟨sealRow_len (by rw [nodeL0_ok.1]; omega), sealRow_u8 nodeL0_ok.2.1, sealRow_r (by omega) nodeL0_ok.2.2⟩

/- record.Lay -/
def isRec0 : List Value → Bool
  | [.bool b, .int .i64 x1, .int .i64 x2, .int .i64 x3, .int .i64 x4, .string s, .string t] => !b && ((x1 == 0) && ((x2 == 0) && ((x3 == 0) && ((x4 == 0) && (Nat.beq s.size 0 && Nat.beq t.size 0)))))
  | _ => false
theorem isRec0_eq {l : List Value} (h : isRec0 l = true) : Value.agg l.toArray = rec0 := by
  unfold isRec0 at h
  split at h
  · simp only [Bool.and_eq_true, Bool.not_eq_true', beq_iff_eq, Nat.beq_eq] at h
    obtain ⟨rfl, rfl, rfl, rfl, rfl, hs, ht⟩ := h
    rw [ByteArray.size_eq_zero_iff] at hs ht
    subst hs ht
    rfl
  · cases h
def recTree : Tree := fun args M _ => match args with
  | [.agg xs] => .lf (isRec0 xs.toList) (.tuple #[.slice (some ⟨M.length, 0, none⟩) 128 128, I 0], M ++ [⟨sealRow 82 recL, 5, true⟩])
  | _ => .lf false (undef, M)
theorem recTree_inv {args : List Value} {M : Mem} {wall : Nat} {R : Value × Mem} (h : (recTree args M wall).val = some R) : args = [rec0] ∧ R = (.tuple #[.slice (some ⟨M.length, 0, none⟩) 128 128, I 0], M ++ [⟨sealRow 82 recL, 5, true⟩]) := by
  unfold recTree at h
  split at h
  · rename_i xs
    obtain ⟨h1, rfl⟩ := lf_val h
    have := isRec0_eq h1
    simp only [Array.toArray_toList] at this
    exact ⟨by rw [this], rfl⟩
  · cases h
theorem tell32 : TellOk Try.prog EvN.q 32 (bodyT recTree) := by
  refine tellT (fun _ args M v M' h => ?_) (fun args M wall R h => ?_)
  · obtain ⟨rfl, e⟩ := recTree_inv h
    cases e
    exact trim_row2 recRow_ok.1 (u8s_flat recRow_ok.2.1)
  · obtain ⟨rfl, rfl⟩ := recTree_inv h
    exact closed_told (by simp [flat, flat1]) goodE run32 M wall

/- inode.Lay -/
def eqC : List Value → List Int → Bool
  | [], [] => true
  | .int .i64 n :: vs, m :: ms => (n == m) && eqC vs ms
  | _, _ => false
theorem eqC_eq : ∀ {l : List Value} {ns : List Int}, eqC l ns = true → l = ns.map I
  | [], [], _ => rfl
  | v :: vs, m :: ms, h => by
    unfold eqC at h
    split at h
    · rename_i e; cases e
    · rename_i e1 e2
      cases e1; cases e2
      simp only [Bool.and_eq_true, beq_iff_eq] at h
      obtain ⟨rfl, h⟩ := h
      rw [eqC_eq h]; rfl
    · cases h
  | [], m :: ms, h => by cases h
  | v :: vs, [], h => by cases v <;> first | cases h | (rename_i k n; cases k <;> cases h)
def ints4 (k l : Int) : List Int := k :: l :: List.replicate 42 0
theorem ints4_map (k l : Int) : (ints4 k l).map I = cells4 k l := by simp [ints4, cells4]
def nodeTree : Tree := fun args M _ => match args with
  | [.agg xs] => .nd (eqC xs.toList (ints4 2 1)) (.lf true (.tuple #[.slice (some ⟨M.length, 0, none⟩) 128 128, I 0], M ++ [⟨sealRow 73 nodeL0, 5, true⟩]))
      (.lf (eqC xs.toList (ints4 0 0)) (.tuple #[.slice (some ⟨M.length, 0, none⟩) 128 128, I 0], M ++ [⟨sealRow 73 nodeLZ, 5, true⟩]))
  | _ => .lf false (undef, M)
theorem nodeTree_inv {args : List Value} {M : Mem} {wall : Nat} {R : Value × Mem} (h : (nodeTree args M wall).val = some R) :
    (args = [.agg (cells4 2 1).toArray] ∧ R = (.tuple #[.slice (some ⟨M.length, 0, none⟩) 128 128, I 0], M ++ [⟨sealRow 73 nodeL0, 5, true⟩])) ∨
    (args = [.agg (cells4 0 0).toArray] ∧ R = (.tuple #[.slice (some ⟨M.length, 0, none⟩) 128 128, I 0], M ++ [⟨sealRow 73 nodeLZ, 5, true⟩])) := by
  unfold nodeTree at h
  split at h
  · rename_i xs
    rcases nd_val h with ⟨hc, h⟩ | ⟨_, h⟩
    · obtain ⟨_, rfl⟩ := lf_val h
      have := eqC_eq hc
      rw [ints4_map] at this
      exact .inl ⟨by rw [← this], rfl⟩
    · obtain ⟨hc, rfl⟩ := lf_val h
      have := eqC_eq hc
      rw [ints4_map] at this
      exact .inr ⟨by rw [← this], rfl⟩
  · cases h
theorem tell38 : TellOk Try.prog EvN.q 38 (bodyT nodeTree) := by
  refine tellT (fun _ args M v M' h => ?_) (fun args M wall R h => ?_)
  · rcases nodeTree_inv h with ⟨rfl, e⟩ | ⟨rfl, e⟩
    · cases e
      exact trim_row2 node0_ok.1 (u8s_flat node0_ok.2.1)
    · cases e
      exact trim_row2 nodeZ_ok.1 (u8s_flat nodeZ_ok.2.1)
  · rcases nodeTree_inv h with ⟨rfl, rfl⟩ | ⟨rfl, rfl⟩
    · exact closed_told (by simp [flat, flat1, cells4]) goodE run38a M wall
    · exact closed_told (by simp [flat, flat1, cells4]) goodE run38b M wall
abbrev C9 : CallC := moreC 35 (bodyT groupTree) (moreC 32 (bodyT recTree) (moreC 38 (bodyT nodeTree) C8))
theorem okC9 : OkC Try.prog EvN.q C9 := ok_moreC (ok_moreC (ok_moreC okC8 tell38) tell32) tell35

/-! ### a quiet function of scalars, told where its run tells -/
theorem tellF {f : FuncId} {t : Tree} (h : ∀ args M wall R, (t args M wall).val = some R → ∃ v, args.all flat = true ∧ flatR v = true ∧ R = (v, M) ∧ ∃ M1 T, CallGood Try.prog T ∧ T f args [] 0 = some (v, M1)) : TellOk Try.prog EvN.q f (bodyT t) := by
  refine tellT (fun _ args M v M' hv => ?_) (fun args M wall R hv => ?_)
  · obtain ⟨u, _, hu, e, _⟩ := h _ _ _ _ hv
    cases e
    simp [trim, hu]
  · obtain ⟨u, ha, hu, rfl, M1, T, hT, hr⟩ := h _ _ _ _ hv
    exact loc_told (view_flat M args 0 ha) ⟨T, hT, hr⟩ (by simp [handOn, hu]) wall

def onGI (g : Int → Int → Int → Int → Br (Value × Mem)) (d : Br (Value × Mem)) : List Value → Br (Value × Mem)
  | [.agg xs, .int .i64 k] => (match xs.toList with | [.int .i64 a, .int .i64 b, .int .i64 c] => g a b c k | _ => d)
  | _ => d
theorem onGI_val {g : Int → Int → Int → Int → Br (Value × Mem)} {args : List Value} {M : Mem} {R : Value × Mem} (h : (onGI g (.lf false (undef, M)) args).val = some R) : ∃ a b c k, args = [gv a b c, I k] ∧ (g a b c k).val = some R := by
  unfold onGI at h
  split at h
  · rename_i xs k
    split at h
    · rename_i a b c e
      obtain rfl : xs = #[I a, I b, I c] := Array.ext' e
      exact ⟨a, b, c, k, rfl, h⟩
    · cases h
  · cases h

/- geom.Group -/
def groupAt (b c k : Int) : Int := wr (2 + wr (k * long b c))
theorem r36 (κ : Value × Mem → Ret) (a b c k : Int) : bn C9 noB 36 [gv a b c, I k] [] 0 κ =
    cond (!may a b c) (κ (I (-1), [gb a b c])) (cond (!between k 0 (wr (a - 1))) (κ (I (-1), [gb a b c])) (κ (I (groupAt b c k), [gb a b c]))) := by kernel_rfl
def groupAtT : Tree := fun args M _ => onGI (fun a b c k => .lf (may a b c && between k 0 (wr (a - 1))) (I (groupAt b c k), M)) (.lf false (undef, M)) args
theorem tell36 : TellOk Try.prog EvN.q 36 (bodyT groupAtT) := tellF fun args M wall R h => by
  obtain ⟨a, b, c, k, rfl, h⟩ := onGI_val h
  obtain ⟨hg, rfl⟩ := lf_val h
  simp only [Bool.and_eq_true] at hg
  refine ⟨_, by simp [flat, flat1], rfl, rfl, [gb a b c], run_told (L := noB) evFitsN okC9 (no_loops (by kernel_rfl)) (wall := 0) ?_⟩
  refine (r36 some a b c k).trans ?_
  rw [hg.1, hg.2]; rfl
/- geom.OfInode -/
theorem r60 (κ : Value × Mem → Ret) (a b c n : Int) : bn C9 noB 60 [gv a b c, I n] [] 0 κ =
    cond (!between n 1 (inodes a b c)) (κ (.tuple #[I (-1), I (-1)], [gb a b c])) (cond (decide (IntKind.i64 = IntKind.i64) && !(b == 0)) (cond (decide (IntKind.i64 = IntKind.i64) && !(b == 0))
      (κ (.tuple #[I (wr ((wr (n - 1)).tdiv b)), I ((wr (n - 1)).tmod b)], [gb a b c])) none) none) := by kernel_rfl
def ofInodeT : Tree := fun args M _ => onGI (fun a b c n => .lf (between n 1 (inodes a b c) && !(b == 0)) (.tuple #[I (wr ((wr (n - 1)).tdiv b)), I ((wr (n - 1)).tmod b)], M)) (.lf false (undef, M)) args
theorem tell60 : TellOk Try.prog EvN.q 60 (bodyT ofInodeT) := tellF fun args M wall R h => by
  obtain ⟨a, b, c, k, rfl, h⟩ := onGI_val h
  obtain ⟨hg, rfl⟩ := lf_val h
  simp only [Bool.and_eq_true, Bool.not_eq_true'] at hg
  refine ⟨_, by simp [flat, flat1], by simp [flatR, flat, flat1], rfl, [gb a b c], run_told (L := noB) evFitsN okC9 (no_loops (by kernel_rfl)) (wall := 0) ?_⟩
  refine (r60 some a b c k).trans ?_
  rw [hg.1, hg.2]; rfl
abbrev C10a : CallC := moreC 36 (bodyT groupAtT) (moreC 60 (bodyT ofInodeT) C9)
theorem okC10a : OkC Try.prog EvN.q C10a := ok_moreC (ok_moreC okC9 tell60) tell36
/- geom.Inode -/
def inodeK (b n : Int) : Int := wr ((wr (n - 1)).tdiv b)
def inodeI (b n : Int) : Int := (wr (n - 1)).tmod b
def inodeAt (b c n : Int) : Int := wr (wr (groupAt b c (inodeK b n) + 1) + wr ((inodeI b n).tdiv 4))
theorem r37 (κ : Value × Mem → Ret) (a b c n : Int) : bn C10a noB 37 [gv a b c, I n] [] 0 κ =
    cond (between n 1 (inodes a b c) && !(b == 0)) (cond (decide (inodeK b n < 0)) (κ (.tuple #[I (-1), I (-1)], [gb a b c]))
      (cond (may a b c && between (inodeK b n) 0 (wr (a - 1))) (κ (.tuple #[I (inodeAt b c n), I ((inodeI b n).tmod 4)], [gb a b c])) none)) none := by kernel_rfl
def inodeT : Tree := fun args M _ => onGI (fun a b c n => .lf ((between n 1 (inodes a b c) && !(b == 0)) && (!decide (inodeK b n < 0) && (may a b c && between (inodeK b n) 0 (wr (a - 1))))) (.tuple #[I (inodeAt b c n), I ((inodeI b n).tmod 4)], M)) (.lf false (undef, M)) args
theorem tell37 : TellOk Try.prog EvN.q 37 (bodyT inodeT) := tellF fun args M wall R h => by
  obtain ⟨a, b, c, k, rfl, h⟩ := onGI_val h
  obtain ⟨hg, rfl⟩ := lf_val h
  rw [Bool.and_eq_true] at hg
  obtain ⟨g1, hg2⟩ := hg
  rw [Bool.and_eq_true] at hg2
  obtain ⟨g2, g3⟩ := hg2
  refine ⟨_, by simp [flat, flat1], by simp [flatR, flat, flat1], rfl, [gb a b c], run_told (L := noB) evFitsN okC10a (no_loops (by kernel_rfl)) (wall := 0) ?_⟩
  have g2' : decide (inodeK b k < 0) = false := by simpa using g2
  refine (r37 some a b c k).trans ?_
  rw [g1, g2', g3]; rfl
abbrev C10 : CallC := moreC 37 (bodyT inodeT) C10a
theorem okC10 : OkC Try.prog EvN.q C10 := ok_moreC okC10a tell37
end Go.Proofs.Yteeclgeoconekaa


/-
  The function Image of mkfs, its three loops run, round by round.
-/
namespace Go.Proofs.Yteeclgeoconekaa
open Go.Ev

abbrev mem3 (a b c : Int) (fst cs : List Value) (t : Mem) : Mem := gb a b c :: ⟨fst, 5, true⟩ :: ⟨cs, 35, true⟩ :: t
abbrev mp3 : List MPt := [gP, .rowE 5, .rowE 35]
abbrev B3 := Int × Int × Int × List Value × List Value × Unit
abbrev lf0 {S O : Type} (o : LO S O) : Br (LO S O) := .lf false o
/-- The id of the next block. -/
abbrev nid (t : Mem) : Nat := t.length + 1 + 1 + 1
abbrev zrow : Blk := ⟨List.replicate 128 Z8, 5, true⟩
abbrev rowAt (b : Nat) : Value := .slice (some ⟨b, 0, none⟩) 128 128

/- the first loop: rows of zeros -/
abbrev rp131 : List Pt := mkP 94 [(1, .ptr 0), (3, .hole), (5, .hole), (24, .hole), (25, .hole)]
abbrev A131 := SL 1 × SL 2 × Int × Int × Unit
abbrev S131 := A131 × B3 × Mem
abbrev mk131 (f : SL 1) (x : SL 2) (l i a b c : Int) (fst cs : List Value) (t : Mem) : S131 := ((f, x, l, i, ()), (a, b, c, fst, cs, ()), t)
noncomputable def rnd131 : S131 → Br (LO S131 S131) := fun s => match s with
  | ((f, x, l, i, ()), (a, b, c, fst, cs, ()), t) =>
    .nd (decide (i < l))
      (.nd (decide (0 ≤ i) && decide (i < (x.n : Int)))
        (.nd (Nat.ble (0 + i.toNat * 1 + 1) cs.length) (.lf true (.next (mk131 f x l (wr (i + 1)) a b c fst (cs.set (0 + i.toNat * 1) (rowAt (nid t))) (t ++ [zrow])))) (lf0 (.done s))) (lf0 (.done s)))
      (.lf true (.done s))
def fr131 (s : S131) : List Value × Mem := (mk 94 [(1, p 0), (3, HV.enc s.1.1), (5, HV.enc s.1.2.1), (24, I s.1.2.2.1), (25, I s.1.2.2.2.1), (26, B false)], (stOf rp131 mp3 s).2)
abbrev ko131 (s : S131) (κ : Kont) : Ret := κ (.exit 0) (fr131 s).1 (fr131 s).2
theorem s131 (κ : Kont) (f : SL 1) (x : SL 2) (l i a b c : Int) (fst cs : List Value) (t : Mem) : evn C10 0 13 noB (lp 13 0) (stOf rp131 mp3 (mk131 f x l i a b c fst cs t)).1 (stOf rp131 mp3 (mk131 f x l i a b c fst cs t)).2 κ =
    (rnd131 (mk131 f x l i a b c fst cs t)).run fun o => match o with | .next s' => κ .norm (stOf rp131 mp3 s').1 (stOf rp131 mp3 s').2 | .done o => ko131 o κ := by kernel_rfl
theorem is131 : LoopIs Try.prog EvN.E EvN.q (EvN.reg 13) C10 0 noB (lp 13 0) rp131 mp3 rnd131 ko131 (fun _ => .exit 0) fr131 :=
  ⟨fun o h => (by cases h), fun o κ => rfl, fun s κ => (by obtain ⟨⟨f, x, l, i, ⟨⟩⟩, ⟨a, b, c, fst, cs, ⟨⟩⟩, t⟩ := s; exact s131 κ f x l i a b c fst cs t)⟩

/- the second loop: the groups' bits -/
abbrev rp132 : List Pt := mkP 94 [(1, .ptr 0), (5, .hole), (44, .hole), (45, .hole)]
abbrev A132 := SL 2 × Int × Int × Unit
abbrev S132 := A132 × B3 × Mem
abbrev mk132 (x : SL 2) (l k a b c : Int) (fst cs : List Value) (t : Mem) : S132 := ((x, l, k, ()), (a, b, c, fst, cs, ()), t)
abbrev bitsB (n : Int) : Blk := ⟨List.replicate (bitsN n) Z8, 5, true⟩
abbrev bitsV (id : Nat) (n : Int) : Value := .slice (some ⟨id, 0, none⟩) (bitsN n) (bitsN n)
/-- What comes behind the bits of the inodes, 'v'. -/
noncomputable def rest132 (x : SL 2) (l k a b c : Int) (fst cs : List Value) (v : Value) (t : Mem) (d : S132) : Br (LO S132 S132) :=
  .nd (may a b c && between k 0 (wr (a - 1)))
    (.nd (decide (0 ≤ c) && decide (c ≤ 1000))
      (.nd ((bOk (mem3 a b c fst cs (t ++ [bitsB c])) v && bOk (mem3 a b c fst cs (t ++ [bitsB c])) (bitsV (nid t) c)) && ((Nat.ble 1 (lenOf v) && Nat.ble (lenOf v) 4) && (Nat.ble 2 (bitsN c) && Nat.ble (bitsN c) 12)))
        (.nd (decide (0 ≤ groupAt b c k) && decide (groupAt b c k < (x.n : Int)))
          (.nd (Nat.ble (0 + (groupAt b c k).toNat * 1 + 1) cs.length)
            (.lf true (.next (mk132 x l (wr (k + 1)) a b c fst (cs.set (0 + (groupAt b c k).toNat * 1) (rowAt (nid (t ++ [bitsB c]))))
              ((t ++ [bitsB c]) ++ [⟨sealRow 71 (groupL (bRow (mem3 a b c fst cs (t ++ [bitsB c])) v) (bRow (mem3 a b c fst cs (t ++ [bitsB c])) (bitsV (nid t) c))), 5, true⟩]))))
            (lf0 (.done d))) (lf0 (.done d))) (lf0 (.done d))) (lf0 (.done d))) (lf0 (.done d))
noncomputable def rnd132 : S132 → Br (LO S132 S132) := fun s => match s with
  | ((x, l, k, ()), (a, b, c, fst, cs, ()), t) =>
    .nd (decide (k < l))
      (.nd (decide (0 ≤ b) && decide (b ≤ 1000))
        (.nd (k == 0)
          (.nd (bOk (mem3 a b c fst cs (t ++ [bitsB b])) (bitsV (nid t) b) && ((!(Nat.beq (bitsN b) 0) && Nat.ble (bitsN b) 140737488355328) && true))
            (rest132 x l k a b c fst cs (.slice (some ⟨nid (t ++ [bitsB b]), 0, some 1⟩) (bitsN b) (bitsN b)) ((t ++ [bitsB b]) ++ [⟨bit0 (bRow (mem3 a b c fst cs (t ++ [bitsB b])) (bitsV (nid t) b)), 5, true⟩]) s)
            (lf0 (.done s)))
          (rest132 x l k a b c fst cs (bitsV (nid t) b) (t ++ [bitsB b]) s))
        (lf0 (.done s)))
      (.lf true (.done s))
def fr132 (s : S132) : List Value × Mem := (mk 94 [(1, p 0), (5, HV.enc s.1.1), (44, I s.1.2.1), (45, I s.1.2.2.1), (46, B false)], (stOf rp132 mp3 s).2)
abbrev ko132 (s : S132) (κ : Kont) : Ret := κ (.exit 2) (fr132 s).1 (fr132 s).2
theorem s132 (κ : Kont) (x : SL 2) (l k a b c : Int) (fst cs : List Value) (t : Mem) : evn C10 0 13 noB (lp 13 1) (stOf rp132 mp3 (mk132 x l k a b c fst cs t)).1 (stOf rp132 mp3 (mk132 x l k a b c fst cs t)).2 κ =
    (rnd132 (mk132 x l k a b c fst cs t)).run fun o => match o with | .next s' => κ .norm (stOf rp132 mp3 s').1 (stOf rp132 mp3 s').2 | .done o => ko132 o κ := by kernel_rfl
theorem is132 : LoopIs Try.prog EvN.E EvN.q (EvN.reg 13) C10 0 noB (lp 13 1) rp132 mp3 rnd132 ko132 (fun _ => .exit 2) fr132 :=
  ⟨fun o h => (by cases h), fun o κ => rfl, fun s κ => (by obtain ⟨⟨x, l, k, ⟨⟩⟩, ⟨a, b, c, fst, cs, ⟨⟩⟩, t⟩ := s; exact s132 κ x l k a b c fst cs t)⟩

/- the third loop: the inodes -/
abbrev rp133 : List Pt := mkP 94 [(1, .ptr 0), (5, .hole), (9, .hole)]
abbrev A133 := SL 2 × Int × Unit
abbrev S133 := A133 × B3 × Mem
abbrev mk133 (x : SL 2) (n a b c : Int) (fst cs : List Value) (t : Mem) : S133 := ((x, n, ()), (a, b, c, fst, cs, ()), t)
abbrev z44 : Blk := ⟨List.replicate 44 (I 0), 66, true⟩
abbrev cells11 : List Value := I 2 :: I 1 :: List.replicate 9 (I 0)
abbrev inodeG (a b c n : Int) : Bool := (between n 1 (inodes a b c) && !(b == 0)) && (!decide (inodeK b n < 0) && (may a b c && between (inodeK b n) 0 (wr (a - 1))))
noncomputable def fin133 (x : SL 2) (n a b c : Int) (fst cs : List Value) (row : List Value) (t : Mem) (d : S133) : Br (LO S133 S133) :=
  .nd (decide (0 ≤ inodeAt b c n) && decide (inodeAt b c n < (x.n : Int)))
    (.nd (Nat.ble (0 + (inodeAt b c n).toNat * 1 + 1) cs.length)
      (.lf true (.next (mk133 x (wr (n + 4)) a b c fst (cs.set (0 + (inodeAt b c n).toNat * 1) (rowAt (nid t))) (t ++ [⟨sealRow 73 row, 5, true⟩])))) (lf0 (.done d))) (lf0 (.done d))
noncomputable def rest133 (x : SL 2) (n a b c : Int) (fst cs : List Value) (id : Nat) (t : Mem) (d : S133) : Br (LO S133 S133) :=
  .nd (inodeG a b c n)
    (.nd (loadG Try.prog (mem3 a b c fst cs t) 66 (.pointer (some ⟨id, 0, none⟩))).1
      (.nd (eqC (cellsOf (loadG Try.prog (mem3 a b c fst cs t) 66 (.pointer (some ⟨id, 0, none⟩))).2) (ints4 2 1)) (fin133 x n a b c fst cs nodeL0 t d)
        (.nd (eqC (cellsOf (loadG Try.prog (mem3 a b c fst cs t) 66 (.pointer (some ⟨id, 0, none⟩))).2) (ints4 0 0)) (fin133 x n a b c fst cs nodeLZ t d) (lf0 (.done d))))
      (lf0 (.done d))) (lf0 (.done d))
noncomputable def rnd133 : S133 → Br (LO S133 S133) := fun s => match s with
  | ((x, n, ()), (a, b, c, fst, cs, ()), t) =>
    .nd (decide (n ≤ inodes a b c))
      (.nd (n == 1)
        (.nd (putG (mem3 a b c fst cs (t ++ [z44])) 0 (nid t) 0 11 && true)
          (rest133 x n a b c fst cs (nid t) ((t ++ [z44]).set t.length ⟨putC (mem3 a b c fst cs (t ++ [z44])) (nid t) 0 cells11, ((mem3 a b c fst cs (t ++ [z44])).blk (nid t)).elem, ((mem3 a b c fst cs (t ++ [z44])).blk (nid t)).live⟩) s)
          (lf0 (.done s)))
        (rest133 x n a b c fst cs (nid t) (t ++ [z44]) s))
      (.lf true (.done s))
def fr133 (s : S133) : List Value × Mem := (mk 94 [(1, p 0), (5, HV.enc s.1.1), (9, I s.1.2.1), (69, I s.1.2.1), (70, gv s.2.1.1 s.2.1.2.1 s.2.1.2.2.1), (71, I (inodes s.2.1.1 s.2.1.2.1 s.2.1.2.2.1)), (72, B false)], (stOf rp133 mp3 s).2)
abbrev ko133 (s : S133) (κ : Kont) : Ret := κ (.exit 4) (fr133 s).1 (fr133 s).2
theorem s133 (κ : Kont) (x : SL 2) (n a b c : Int) (fst cs : List Value) (t : Mem) : evn C10 0 13 noB (lp 13 2) (stOf rp133 mp3 (mk133 x n a b c fst cs t)).1 (stOf rp133 mp3 (mk133 x n a b c fst cs t)).2 κ =
    (rnd133 (mk133 x n a b c fst cs t)).run fun o => match o with | .next s' => κ .norm (stOf rp133 mp3 s').1 (stOf rp133 mp3 s').2 | .done o => ko133 o κ := by kernel_rfl
theorem is133 : LoopIs Try.prog EvN.E EvN.q (EvN.reg 13) C10 0 noB (lp 13 2) rp133 mp3 rnd133 ko133 (fun _ => .exit 4) fr133 :=
  ⟨fun o h => (by cases h), fun o κ => rfl, fun s κ => (by obtain ⟨⟨x, n, ⟨⟩⟩, ⟨a, b, c, fst, cs, ⟨⟩⟩, t⟩ := s; exact s133 κ x n a b c fst cs t)⟩

abbrev N13 : Nat := 1000
noncomputable abbrev L133 : LoopB := sumB 21 rp133 mp3 rnd133 N13 ko133 noB
noncomputable abbrev L132 : LoopB := sumB 13 rp132 mp3 rnd132 N13 ko132 L133
noncomputable abbrev L13 : LoopB := sumB 6 rp131 mp3 rnd131 N13 ko131 L132
theorem reg13 : firstReg (lp 13 0) = some 6 ∧ firstReg (lp 13 1) = some 13 ∧ firstReg (lp 13 2) = some 21 := ⟨by kernel_rfl, by kernel_rfl, by kernel_rfl⟩
theorem sem13 : LoopsSem Try.prog 0 L13 (codeOf Try.prog 13) := by
  intro y hy
  rw [show loopsOf (codeOf Try.prog 13) = [lp 13 0, lp 13 1, lp 13 2] from by kernel_rfl] at hy
  obtain ⟨q1, q2, q3⟩ := reg13
  have h3 : ∀ y ∈ [lp 13 2], ∀ id', firstReg y = some id' → ∀ r M g, L133 id' r M = some g → Go.Ev.Sem Try.prog 0 (.loop y) r M g :=
    LoopsSem.cons evFitsN.eqs evFitsN.mixed okC10.cps okC10.good (by kernel_rfl) (no_loops (by kernel_rfl)) is133 (fun _ h => by cases h) q3 (fun _ h => by cases h)
  have h2 : ∀ y ∈ [lp 13 1, lp 13 2], ∀ id', firstReg y = some id' → ∀ r M g, L132 id' r M = some g → Go.Ev.Sem Try.prog 0 (.loop y) r M g :=
    LoopsSem.cons evFitsN.eqs evFitsN.mixed okC10.cps okC10.good (by kernel_rfl) (no_loops (by kernel_rfl)) is132 (fun y hy id' e => by
      rcases List.mem_singleton.1 hy with rfl
      rw [q3] at e; cases e; decide) q2 h3
  exact LoopsSem.cons evFitsN.eqs evFitsN.mixed okC10.cps okC10.good (by kernel_rfl) (no_loops (by kernel_rfl)) is131 (fun y hy id' e => by
      rcases List.mem_cons.1 hy with rfl | hy
      · rw [q2] at e; cases e; decide
      · rcases List.mem_singleton.1 hy with rfl
        rw [q3] at e; cases e; decide) q1 h2 y hy

/- what comes behind the loops -/
noncomputable abbrev end133 (κ : Value × Mem → Ret) (s : S133) : Ret := κ (HV.enc s.1.1, (stOf rp133 mp3 s).2)
noncomputable abbrev end132 (κ : Value × Mem → Ret) (s : S132) : Ret := optK (itrv rnd133 N13 (mk133 s.1.1 1 s.2.1.1 s.2.1.2.1 s.2.1.2.2.1 s.2.1.2.2.2.1 s.2.1.2.2.2.2.1 s.2.2)) (end133 κ) none
abbrev cs2 (s : S131) : List Value := (s.2.1.2.2.2.2.1.set 0 (HV.enc s.1.1)).set 1 (rowAt (nid s.2.2))
noncomputable abbrev end131 (κ : Value × Mem → Ret) (s : S131) : Ret :=
  cond (decide ((0 : Int) < (s.1.2.1.n : Int))) (cond (Nat.ble 1 s.2.1.2.2.2.2.1.length) (cond (decide ((1 : Int) < (s.1.2.1.n : Int))) (cond (Nat.ble 2 (s.2.1.2.2.2.2.1.set 0 (HV.enc s.1.1)).length)
    (optK (itrv rnd132 N13 (mk132 s.1.2.1 s.2.1.1 0 s.2.1.1 s.2.1.2.1 s.2.1.2.2.1 s.2.1.2.2.2.1 (cs2 s) (s.2.2 ++ [⟨sealRow 82 recL, 5, true⟩]))) (end132 κ) none) none) none) none) none
abbrev superR (a b c : Int) : List Value := sealRow 83 (superL a b c true)
theorem r13 (κ : Value × Mem → Ret) (a b c : Int) : bn C10 L13 13 [gv a b c] [] 0 κ =
    cond (may a b c)
      (cond (decide (0 ≤ sectors a b c) && (decide (sectors a b c ≤ sectors a b c) && (decide (((24 : Nat) : Int) * sectors a b c ≤ 281474976710656) && (decide (sectors a b c ≤ 9223372036854775807) && true))))
        (optK (itrv rnd131 N13 (mk131 ⟨128, 128⟩ ⟨(sectors a b c).toNat, (sectors a b c).toNat⟩ ((sectors a b c).toNat : Int) 0 a b c (superR a b c) (List.replicate (sectors a b c).toNat nilS) [])) (end131 κ) none) none)
      (κ (nilS, [gb a b c])) := by kernel_rfl
end Go.Proofs.Yteeclgeoconekaa
