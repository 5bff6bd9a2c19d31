/-
  The document's Lay of the empty record, of inodes, of a superblock: told in any memory.
-/
import Derived.Test.YteeclgeoconekaaQ14
namespace Go.Proofs.Yteeclgeoconekaa
open Go.Ev

abbrev is63 (f : FuncId) : Bool := Nat.beq f 63
theorem run41 : (evO Try.prog EvA (plainC D1) is63 200 41 [rec0] [] 0).bind (fun p => handOn Try.prog [] p.2 p.1 []) = some (.tuple #[.slice (some ⟨0, 0, some 1⟩) 128 128, I 0], [⟨sealRow 82 recL, 5, true⟩]) := by kernel_rfl
theorem run44a : (evO Try.prog EvA (plainC D1) is63 200 44 [.agg (cells4 2 1).toArray] [] 0).bind (fun p => handOn Try.prog [] p.2 p.1 []) = some (.tuple #[.slice (some ⟨0, 0, some 1⟩) 128 128, I 0], [⟨sealRow 73 nodeL0, 5, true⟩]) := by kernel_rfl
theorem run44b : (evO Try.prog EvA (plainC D1) is63 200 44 [.agg (cells4 0 0).toArray] [] 0).bind (fun p => handOn Try.prog [] p.2 p.1 []) = some (.tuple #[.slice (some ⟨0, 0, some 1⟩) 128 128, I 0], [⟨sealRow 73 nodeLZ, 5, true⟩]) := by kernel_rfl
theorem handOn_anyS {M0 M1 : Mem} {v : Value} {sp : Option Nat} {n c : Nat} {e : Int} {k : Blk} (h : handOn Try.prog M0 M1 v [] = some (.tuple #[.slice (some ⟨0, 0, sp⟩) n c, I e], [k])) (M : Mem) :
    handOn Try.prog M0 M1 v M = some (.tuple #[.slice (some ⟨M.length, 0, sp⟩) n c, I e], M ++ [k]) := by
  unfold handOn at h ⊢
  cases hf : flatR v
  · rw [hf] at h
    simp only [cond_false] at h ⊢
    split at h
    · rename_i vs
      split at h
      · rename_i a b hab
        cases hb : flat b
        · rw [hb] at h; cases h
        · rw [hb] at h
          simp only [cond_true] at h
          split at h
          · rename_i x n' c' kb htr
            simp only [Option.some.injEq, Prod.mk.injEq, Value.tuple.injEq, List.nil_append] at h
            obtain ⟨h1, h2⟩ := h
            have h3 := congrArg Array.toList h1
            simp only [List.cons.injEq, Value.slice.injEq, Option.some.injEq, Addr.mk.injEq, and_true] at h3
            obtain ⟨⟨⟨_, h4, h5⟩, h6, h7⟩, h8⟩ := h3
            have h9 : kb = k := by simpa using h2
            simp only [hab, hb, cond_true, htr, h4, h5, h6, h7, h8, h9]
          · cases h
      · cases h
    · split at h
      · simp only [Option.some.injEq, Prod.mk.injEq] at h
        obtain ⟨h1, _⟩ := h
        cases h1
      · cases h
  · rw [hf] at h
    simp only [cond_true, Option.some.injEq, Prod.mk.injEq] at h
    obtain ⟨_, h2⟩ := h
    cases h2

/-- A closed call that tells a row, told in any memory. -/
theorem closed_toldS {f : FuncId} {a0 : List Value} (ha : a0.all flat = true) {S : CallFn} (hS : CallGood Try.prog S) {sp : Option Nat} {n : Nat} {row : List Value} (h : (S f a0 [] 0).bind (fun p => handOn Try.prog [] p.2 p.1 []) = some (.tuple #[.slice (some ⟨0, 0, sp⟩) n n, I 0], [⟨row, 5, true⟩])) (M : Mem) (wall : Nat) :
    ∃ T, CallGood Try.prog T ∧ T f a0 M wall = some (.tuple #[.slice (some ⟨M.length, 0, sp⟩) n n, I 0], M ++ [⟨row, 5, true⟩]) := by
  rw [Option.bind_eq_some_iff] at h
  obtain ⟨⟨v, M1⟩, h1, h2⟩ := h
  exact loc_told (view_flat M a0 0 ha) ⟨S, hS, h1⟩ (handOn_anyS h2 M) wall


theorem goodE63 : CallGood Try.prog (evO Try.prog EvA (plainC D1) is63 200) := good_evO evFits okD1.good is63 200
def rrecTree : Tree := fun args M _ => match args with
  | [.agg xs] => .lf (isRec0 xs.toList) (.tuple #[.slice (some ⟨M.length, 0, some 1⟩) 128 128, I 0], M ++ [⟨sealRow 82 recL, 5, true⟩])
  | _ => .lf false (undef, M)
theorem rrecTree_inv {args : List Value} {M : Mem} {wall : Nat} {R : Value × Mem} (h : (rrecTree args M wall).val = some R) : args = [rec0] ∧ R = (.tuple #[.slice (some ⟨M.length, 0, some 1⟩) 128 128, I 0], M ++ [⟨sealRow 82 recL, 5, true⟩]) := by
  unfold rrecTree at h
  split at h
  · rename_i xs
    obtain ⟨h1, rfl⟩ := lf_val h
    have := isRec0_eq h1
    simp only [Array.toArray_toList] at this
    exact ⟨by rw [this], rfl⟩
  · cases h
theorem tell41 : TellOk Try.prog EvN.q 41 (bodyT rrecTree) := by
  refine tellT (fun _ args M v M' h => ?_) (fun args M wall R h => ?_)
  · obtain ⟨rfl, e⟩ := rrecTree_inv h
    cases e
    exact trim_rowg2 recRow_ok.1 (u8s_flat recRow_ok.2.1)
  · obtain ⟨rfl, rfl⟩ := rrecTree_inv h
    exact closed_toldS (by simp [flat, flat1]) goodE63 run41 M wall
def rnodeTree : Tree := fun args M _ => match args with
  | [.agg xs] => .nd (eqC xs.toList (ints4 2 1)) (.lf true (.tuple #[.slice (some ⟨M.length, 0, some 1⟩) 128 128, I 0], M ++ [⟨sealRow 73 nodeL0, 5, true⟩]))
      (.lf (eqC xs.toList (ints4 0 0)) (.tuple #[.slice (some ⟨M.length, 0, some 1⟩) 128 128, I 0], M ++ [⟨sealRow 73 nodeLZ, 5, true⟩]))
  | _ => .lf false (undef, M)
theorem rnodeTree_inv {args : List Value} {M : Mem} {wall : Nat} {R : Value × Mem} (h : (rnodeTree args M wall).val = some R) :
    (args = [.agg (cells4 2 1).toArray] ∧ R = (.tuple #[.slice (some ⟨M.length, 0, some 1⟩) 128 128, I 0], M ++ [⟨sealRow 73 nodeL0, 5, true⟩])) ∨
    (args = [.agg (cells4 0 0).toArray] ∧ R = (.tuple #[.slice (some ⟨M.length, 0, some 1⟩) 128 128, I 0], M ++ [⟨sealRow 73 nodeLZ, 5, true⟩])) := by
  unfold rnodeTree at h
  split at h
  · rename_i xs
    rcases nd_val h with ⟨hc, h⟩ | ⟨_, h⟩
    · obtain ⟨_, rfl⟩ := lf_val h
      have := eqC_eq hc
      rw [ints4_map] at this
      exact .inl ⟨by rw [← this], rfl⟩
    · obtain ⟨hc, rfl⟩ := lf_val h
      have := eqC_eq hc
      rw [ints4_map] at this
      exact .inr ⟨by rw [← this], rfl⟩
  · cases h
theorem tell44 : TellOk Try.prog EvN.q 44 (bodyT rnodeTree) := by
  refine tellT (fun _ args M v M' h => ?_) (fun args M wall R h => ?_)
  · rcases rnodeTree_inv h with ⟨rfl, e⟩ | ⟨rfl, e⟩
    · cases e
      exact trim_rowg2 node0_ok.1 (u8s_flat node0_ok.2.1)
    · cases e
      exact trim_rowg2 nodeZ_ok.1 (u8s_flat nodeZ_ok.2.1)
  · rcases rnodeTree_inv h with ⟨rfl, rfl⟩ | ⟨rfl, rfl⟩
    · exact closed_toldS (by simp [flat, flat1, cells4]) goodE63 run44a M wall
    · exact closed_toldS (by simp [flat, flat1, cells4]) goodE63 run44b M wall

/-! ### the superblock -/
theorem flat39 : ∀ args v, g6 39 args = some v → flatR v = true := by
  intro args v h
  have e : g6 39 args = onG (fun a b c => B (may a b c)) args := rfl
  rw [e] at h
  unfold onG at h
  split at h
  · unfold on3 at h
    split at h
    · cases h; rfl
    · cases h
  · cases h
noncomputable abbrev D2 : CallC := moreC 44 (bodyT rnodeTree) (moreC 41 (bodyT rrecTree) (moreC 39 (bodyT (scalB g6 39)) D1))
theorem okD2 : OkC Try.prog EvN.q D2 := ok_moreC (ok_moreC (ok_moreC okD1 (tellS good6 flat39)) tell41) tell44
abbrev lM40 (a b c : Int) : Mem := [gb a b c, ⟨superL a b c true, 5, true⟩]
theorem r40 (κ : Value × Mem → Ret) (a b c : Int) : bn D2 noB 40 [gv a b c, B true] [] 0 κ =
    cond (!may a b c) (κ (.tuple #[nilS, I 2], [gb a b c]))
      (cond (bOk (lM40 a b c) (sl 1 0 none 8 8) && (!((83 : Int) == 0) && (decide (8 ≤ 123) && (decide ((0 : Int) ≤ 83) && decide ((83 : Int) < 256)))))
        (κ (.tuple #[.slice (some ⟨2, 0, some 1⟩) 128 128, I 0], lM40 a b c ++ [⟨sealRow 83 (bRow (lM40 a b c) (sl 1 0 none 8 8)), 5, true⟩])) none) := by kernel_rfl

theorem lay40_run (a b c : Int) : bn D2 noB 40 [gv a b c, B true] [] 0 some = cond (may a b c) (some (.tuple #[.slice (some ⟨2, 0, some 1⟩) 128 128, I 0], lM40 a b c ++ [⟨superR a b c, 5, true⟩])) (some (.tuple #[nilS, I 2], [gb a b c])) := by
  rw [r40]
  obtain ⟨u1, u2⟩ := superL_ok a b c true
  obtain ⟨s1, s2⟩ := bOk_mk (M := lM40 a b c) (b := 1) (o := 0) (n := 8) (c := 8) (sp := none) rfl (by simp [superL]) u1 u2 (by omega)
  have s3 : bRow (lM40 a b c) (sl 1 0 none 8 8) = superL a b c true := by rw [s2]; rfl
  rw [s1, s3]
  cases may a b c <;> rfl
def rlayTree : Tree := fun args M _ => match args with
  | [.agg xs, .bool o] => match xs.toList with
    | [.int .i64 a, .int .i64 b, .int .i64 c] => .nd (may a b c) (.lf o (.tuple #[.slice (some ⟨M.length, 0, some 1⟩) 128 128, I 0], M ++ [⟨superR a b c, 5, true⟩])) (.lf o (.tuple #[nilS, I 2], M))
    | _ => .lf false (undef, M)
  | _ => .lf false (undef, M)
theorem rlayTree_inv {args : List Value} {M : Mem} {wall : Nat} {R : Value × Mem} (h : (rlayTree args M wall).val = some R) : ∃ a b c, args = [gv a b c, B true] ∧
    ((may a b c = true ∧ R = (.tuple #[.slice (some ⟨M.length, 0, some 1⟩) 128 128, I 0], M ++ [⟨superR a b c, 5, true⟩])) ∨ (may a b c = false ∧ R = (.tuple #[nilS, I 2], M))) := by
  unfold rlayTree at h
  split at h
  · rename_i xs o
    split at h
    · rename_i a b c e
      obtain rfl : xs = #[I a, I b, I c] := Array.ext' e
      rcases nd_val h with ⟨hc, h⟩ | ⟨hc, h⟩
      · obtain ⟨rfl, rfl⟩ := lf_val h
        exact ⟨a, b, c, rfl, .inl ⟨hc, rfl⟩⟩
      · obtain ⟨rfl, rfl⟩ := lf_val h
        exact ⟨a, b, c, rfl, .inr ⟨hc, rfl⟩⟩
    · cases h
  · cases h
theorem tell40 : TellOk Try.prog EvN.q 40 (bodyT rlayTree) := by
  refine tellT (fun _ args M v M' h => ?_) (fun args M wall R h => ?_)
  · obtain ⟨a, b, c, rfl, ⟨_, e⟩ | ⟨_, e⟩⟩ := rlayTree_inv h
    · cases e
      exact trim_rowg2 (superRow_ok a b c true).1 (u8s_flat (superRow_ok a b c true).2.1)
    · cases e; exact trim_nil2
  · obtain ⟨a, b, c, rfl, hR⟩ := rlayTree_inv h
    have hview : view Try.prog M [gv a b c, B true] 0 = some ([gv a b c, B true], []) := view_flat M _ 0 (by simp [flat, flat1])
    have run := lay40_run a b c
    rcases hR with ⟨hm, rfl⟩ | ⟨hm, rfl⟩
    · rw [hm] at run
      exact loc_told hview (run_told evFitsN okD2 (no_loops (by kernel_rfl)) (wall := 0) run) (hand_rowg2 (b := 2) (by simp) rfl (superRow_ok a b c true).1 (u8s_flat (superRow_ok a b c true).2.1)) wall
    · rw [hm] at run
      exact loc_told hview (run_told evFitsN okD2 (no_loops (by kernel_rfl)) (wall := 0) run) (by simp [handOn, flatR, flat, flat1]) wall
noncomputable abbrev D3 : CallC := moreC 40 (bodyT rlayTree) D2
theorem okD3 : OkC Try.prog EvN.q D3 := ok_moreC okD2 tell40
end Go.Proofs.Yteeclgeoconekaa


/-
  The document's Lay of a group: run over any two rows; told in any memory.
-/
namespace Go.Proofs.Yteeclgeoconekaa
open Go.Ev

abbrev gM0 (xs ys : List Value) : Mem := [⟨xs, 5, true⟩, ⟨ys, 5, true⟩]
theorem r42 (κ : Value × Mem → Ret) (sp sp' : Option Nat) (n c m c' : Nat) (xs ys : List Value) : bn D3 noB 42 [sl 0 0 sp n c, sl 1 0 sp' m c'] (gM0 xs ys) 2 κ =
    cond (decide ((n : Int) < 1)) (κ (.tuple #[nilS, I 2], gM0 xs ys)) (cond (decide (4 < (n : Int))) (κ (.tuple #[nilS, I 2], gM0 xs ys))
      (cond (decide ((m : Int) < 2)) (κ (.tuple #[nilS, I 2], gM0 xs ys)) (cond (decide (12 < (m : Int))) (κ (.tuple #[nilS, I 2], gM0 xs ys))
        (apB (gM0 xs ys) 2 nilS (sl 0 0 sp n c) fun p => apI p.2 2 p.1 (wr (4 - (n : Int))) fun p2 => apB p2.2 2 p2.1 (sl 1 0 sp' m c') fun p3 =>
          cond (bOk p3.2 p3.1 && (!((71 : Int) == 0) && (decide (lenOf p3.1 ≤ 123) && (decide ((0 : Int) ≤ 71) && decide ((71 : Int) < 256)))))
            (κ (.tuple #[.slice (some ⟨p3.2.length, 0, some 1⟩) 128 128, I 0], p3.2 ++ [⟨sealRow 71 (bRow p3.2 p3.1), 5, true⟩])) none)))) := by kernel_rfl

theorem app_nil {M : Mem} {wall : Nat} {x : Value} (hw : wall ≤ M.length) (hx : bOk M x = true) (h0 : bRow M x ≠ []) (hb : (bRow M x).length ≤ 1000) :
    ∃ s' M', (appendB Try.prog M wall [35, 35] nilS x).val = some (s', M') ∧ Grn M' wall s' (bRow M x) ∧ (∀ j, j < wall → M'[j]? = M[j]?) ∧ wall ≤ M'.length := by
  rw [app35]
  have hn : 0 < (bRow M x).length := List.length_pos_iff.2 h0
  refine ⟨_, _, appN_val (src_row hx) (u8s_one (bOk_u8 hx)) (fun e => by omega) (growN_nil hn (by omega) (by omega)), ⟨M.length, some 1, rfl, blk_last _ _, hw, .inr rfl⟩, fun j hj => ?_, ?_⟩
  · rw [List.getElem?_append_left (by omega)]
  · rw [List.length_append]; omega
theorem seal_more {k : Int} {l : List Value} (m : Nat) (h : l.length + m ≤ 123) : sealRow k (l ++ List.replicate m Z8) = sealRow k l := by
  unfold sealRow
  have e : (l ++ List.replicate m Z8) ++ List.replicate (123 - (l ++ List.replicate m Z8).length) Z8 = l ++ List.replicate (123 - l.length) Z8 := by
    rw [List.append_assoc, List.replicate_append_replicate]
    congr 2
    simp
    omega
  rw [e]

theorem ref_group (sp sp' : Option Nat) (c c' : Nat) (xs ys : List Value) (hx : 1 ≤ xs.length ∧ xs.length ≤ 4) (hy : 2 ≤ ys.length ∧ ys.length ≤ 12) (ux : u8s xs = true) (uy : u8s ys = true) (rx : u8r xs = true) (ry : u8r ys = true) :
    ∃ b M', bn D3 noB 42 [sl 0 0 sp xs.length c, sl 1 0 sp' ys.length c'] (gM0 xs ys) 2 some = some (.tuple #[sl b 0 (some 1) 128 128, I 0], M') ∧ M'[b]? = some ⟨sealRow 71 (groupL xs ys), 5, true⟩ ∧ 2 ≤ b := by
  rw [r42]
  have d1 : decide ((xs.length : Int) < 1) = false := decide_eq_false (by omega)
  have d2 : decide (4 < (xs.length : Int)) = false := decide_eq_false (by omega)
  have d3 : decide ((ys.length : Int) < 2) = false := decide_eq_false (by omega)
  have d4 : decide (12 < (ys.length : Int)) = false := decide_eq_false (by omega)
  rw [d1, d2, d3, d4]
  simp only [cond_false]
  obtain ⟨x1, x2⟩ := bOk_mk (M := gM0 xs ys) (b := 0) (o := 0) (n := xs.length) (c := c) (sp := sp) rfl (by omega) ux rx (by omega)
  have x3 : bRow (gM0 xs ys) (sl 0 0 sp xs.length c) = xs := by rw [x2]; simp
  obtain ⟨s1, M1, e1, g1, f1, w1⟩ := app_nil (M := gM0 xs ys) (wall := 2) (by simp) x1 (by rw [x3]; intro e; rw [e] at hx; simp at hx) (by rw [x3]; omega)
  rw [x3] at g1
  have hw : wr (4 - (xs.length : Int)) = ((4 - xs.length : Nat) : Int) := by rw [wr_id (by omega) (by omega)]; omega
  obtain ⟨s2, M2, e2, g2, f2, w2⟩ := g1.appI w1 (4 - xs.length) (by omega)
  have hb1 : M2.blk 1 = ⟨ys, 5, true⟩ := by
    unfold Mem.blk
    rw [f2 1 (by omega), f1 1 (by omega)]
    rfl
  obtain ⟨y1, y2⟩ := bOk_mk (M := M2) (b := 1) (o := 0) (n := ys.length) (c := c') (sp := sp') hb1 (by omega) uy ry (by omega)
  have y3 : bRow M2 (sl 1 0 sp' ys.length c') = ys := by rw [y2]; simp
  obtain ⟨s3, M3, e3, g3, f3, w3, _⟩ := g2.app w2 y1 (by rw [y3]; simp; omega)
  rw [y3] at g3
  have u3 : u8s ((xs ++ List.replicate (4 - xs.length) Z8) ++ ys) = true := by simp [u8s_append, u8s_rep, ux, uy]
  have q3 : u8r ((xs ++ List.replicate (4 - xs.length) Z8) ++ ys) = true := by simp [u8r_append, u8r_rep, rx, ry]
  have n3 : ((xs ++ List.replicate (4 - xs.length) Z8) ++ ys).length ≤ 16 := by simp; omega
  obtain ⟨o3, b3⟩ := g3.ok u3 q3 (by omega)
  have hl : decide (lenOf s3 ≤ 123) = true := by
    have := bOk_len o3
    rw [b3] at this
    exact decide_eq_true (by omega)
  refine ⟨M3.length, M3 ++ [⟨sealRow 71 (bRow M3 s3), 5, true⟩], ?_, ?_, w3⟩
  · simp only [apB, apI, hw, apK_val e1, apK_val e2, apK_val e3, o3, hl]
    rfl
  · rw [b3]
    have : sealRow 71 (groupL xs ys) = sealRow 71 ((xs ++ List.replicate (4 - xs.length) Z8) ++ ys) := by
      unfold groupL
      rw [← List.append_assoc]
      exact seal_more _ (by simp; omega)
    rw [this]
    simp

def rgroupTree : Tree := fun args M _ => match args with
  | [x, y] => .lf ((bOk M x && bOk M y) && ((Nat.ble 1 (lenOf x) && Nat.ble (lenOf x) 4) && (Nat.ble 2 (lenOf y) && Nat.ble (lenOf y) 12))) (.tuple #[.slice (some ⟨M.length, 0, some 1⟩) 128 128, I 0], M ++ [⟨sealRow 71 (groupL (bRow M x) (bRow M y)), 5, true⟩])
  | _ => .lf false (undef, M)
theorem rgroupTree_inv {args : List Value} {M : Mem} {wall : Nat} {R : Value × Mem} (h : (rgroupTree args M wall).val = some R) : ∃ x y, args = [x, y] ∧ bOk M x = true ∧ bOk M y = true ∧ (1 ≤ lenOf x ∧ lenOf x ≤ 4) ∧ (2 ≤ lenOf y ∧ lenOf y ≤ 12) ∧
    R = (.tuple #[.slice (some ⟨M.length, 0, some 1⟩) 128 128, I 0], M ++ [⟨sealRow 71 (groupL (bRow M x) (bRow M y)), 5, true⟩]) := by
  unfold rgroupTree at h
  split at h
  · rename_i x y
    obtain ⟨h1, rfl⟩ := lf_val h
    simp only [Bool.and_eq_true, Nat.ble_eq] at h1
    exact ⟨x, y, rfl, h1.1.1, h1.1.2, h1.2.1, h1.2.2, rfl⟩
  · cases h
theorem tell42 : TellOk Try.prog EvN.q 42 (bodyT rgroupTree) := by
  refine tellT (fun _ args M v M' h => ?_) (fun args M wall R h => ?_)
  · obtain ⟨x, y, rfl, hx, hy, lx, ly, e⟩ := rgroupTree_inv h
    cases e
    rw [bOk_len hx] at lx
    rw [bOk_len hy] at ly
    obtain ⟨g1, g2, _⟩ := groupRow_ok lx.2 ly.2 (bOk_u8 hx) (bOk_u8 hy) (bOk_r hx) (bOk_r hy)
    exact trim_rowg2 g1 (u8s_flat g2)
  · obtain ⟨x, y, rfl, hx, hy, lx, ly, rfl⟩ := rgroupTree_inv h
    obtain ⟨sp, n, c, sp', m, c', hn, hm, hv⟩ := view2 hx hy
    rw [bOk_len hx] at lx
    rw [bOk_len hy] at ly
    have ux := bOk_u8 hx
    have uy := bOk_u8 hy
    have rx := bOk_r hx
    have ry := bOk_r hy
    generalize bRow M x = xs at *
    generalize bRow M y = ys at *
    subst hn hm
    obtain ⟨b, M1, run, hb, hb2⟩ := ref_group sp sp' c c' xs ys lx ly ux uy rx ry
    obtain ⟨q1, q2, q3⟩ := groupRow_ok lx.2 ly.2 ux uy rx ry
    exact loc_told hv (run_told evFitsN okD3 (no_loops (by kernel_rfl)) (wall := 2) run) (hand_rowg2 hb2 hb q1 (u8s_flat q2)) wall
noncomputable abbrev D4 : CallC := moreC 42 (bodyT rgroupTree) D3
theorem okD4 : OkC Try.prog EvN.q D4 := ok_moreC okD3 tell42
end Go.Proofs.Yteeclgeoconekaa


/-
  The document's bits.Of: of none, and of the first alone; told in any memory.
-/
namespace Go.Proofs.Yteeclgeoconekaa
open Go.Ev

/-! ### of none -/
abbrev rp43 : List Pt := mkP 36 [(0, .hole), (1, .hole), (5, .hole), (6, .hole)]
abbrev S43 := (Int × N0 × SLs 0 × Z0 × Unit) × (List Value × Unit) × Mem
def fr43 (s : S43) : List Value × Mem := (mk 36 [(0, I s.1.1), (1, nilS), (5, HV.enc s.1.2.2.1), (6, I 0), (17, I 0), (18, nilS), (19, I 0), (20, B false)], (stOf rp43 [.rowE 5] s).2)
theorem is43 : LoopIs Try.prog EvN.E EvN.q (EvN.reg 43) D4 0 noB (lp 43 0) rp43 [.rowE 5] (fun s : S43 => .lf true (.done s)) (fun s κ => κ (.exit 0) (fr43 s).1 (fr43 s).2) (fun _ => .exit 0) fr43 :=
  ⟨fun o h => (by cases h), fun o κ => rfl, fun s κ => (by obtain ⟨⟨n, ⟨⟩, x, ⟨⟩, ⟨⟩⟩, ⟨cs, ⟨⟩⟩, t⟩ := s; kernel_rfl)⟩
noncomputable abbrev L43 : LoopB := sumB 5 rp43 [.rowE 5] (fun s : S43 => .lf true (.done s)) 1 (fun s κ => κ (.exit 0) (fr43 s).1 (fr43 s).2) noB
theorem sem43 : LoopsSem Try.prog 0 L43 (codeOf Try.prog 43) := by
  intro y hy
  rw [show loopsOf (codeOf Try.prog 43) = [lp 43 0] from by kernel_rfl] at hy
  exact LoopsSem.cons evFitsN.eqs evFitsN.mixed okD4.cps okD4.good (by kernel_rfl) (no_loops (by kernel_rfl)) is43 (fun _ h => by cases h) (by kernel_rfl) (fun _ h => by cases h) y hy
theorem r43 (κ : Value × Mem → Ret) (n : Int) : bn D4 L43 43 [I n, nilS] [] 0 κ =
    cond (decide (n < 0)) (κ (nilS, [])) (cond (decide (1000 < n)) (κ (nilS, []))
      (cond (decide (0 ≤ eighth n) && (decide (eighth n ≤ eighth n) && (decide (((1 : Nat) : Int) * eighth n ≤ 281474976710656) && (decide (eighth n ≤ 9223372036854775807) && true))))
        (κ (.slice (some ⟨0, 0, none⟩) (eighth n).toNat (eighth n).toNat, [⟨List.replicate (eighth n).toNat Z8, 5, true⟩])) none)) := by kernel_rfl

/-! ### of the first alone -/
abbrev M43 : Mem := [⟨[I 0], 3, true⟩]
noncomputable abbrev run43 (n : Int) : Option (Value × Mem) := (evO Try.prog EvA (plainC D4) (fun _ => false) 200 43 [I n, sl 0 0 none 1 1] M43 1).bind fun p => handOn Try.prog M43 p.2 p.1 []
abbrev res43 (k : Nat) : Option (Value × Mem) := some (sl 0 0 (some 1) k k, [⟨bit0 (List.replicate k Z8), 5, true⟩])
theorem run43_1 : run43 4 = res43 1 := by kernel_rfl
theorem run43_2 : run43 8 = res43 1 := by kernel_rfl
theorem run43_3 : run43 12 = res43 2 := by kernel_rfl
theorem run43_4 : run43 16 = res43 2 := by kernel_rfl
theorem run43_5 : run43 20 = res43 3 := by kernel_rfl
theorem run43_6 : run43 24 = res43 3 := by kernel_rfl
theorem run43_7 : run43 28 = res43 4 := by kernel_rfl
theorem run43_8 : run43 32 = res43 4 := by kernel_rfl

/-! ### told -/
theorem handOn_anyV {M0 M1 : Mem} {v : Value} {sp : Option Nat} {n c : Nat} {k : Blk} (h : handOn Try.prog M0 M1 v [] = some (.slice (some ⟨0, 0, sp⟩) n c, [k])) (M : Mem) :
    handOn Try.prog M0 M1 v M = some (.slice (some ⟨M.length, 0, sp⟩) n c, M ++ [k]) := by
  unfold handOn at h ⊢
  cases hf : flatR v
  · rw [hf] at h
    simp only [cond_false] at h ⊢
    split at h
    · rename_i vs
      split at h
      · rename_i a b hab
        cases hb : flat b
        · rw [hb] at h; cases h
        · rw [hb] at h
          simp only [cond_true] at h
          split at h
          · simp only [Option.some.injEq, Prod.mk.injEq] at h
            obtain ⟨h1, _⟩ := h
            cases h1
          · cases h
      · cases h
    · split at h
      · rename_i x n' c' kb htr
        simp only [Option.some.injEq, Prod.mk.injEq, Value.slice.injEq, Addr.mk.injEq, List.nil_append, List.cons.injEq, and_true] at h
        obtain ⟨⟨⟨_, h4, h5⟩, h6, h7⟩, h9⟩ := h
        simp only [htr, h4, h5, h6, h7, h9]
      · cases h
  · rw [hf] at h
    simp only [cond_true, Option.some.injEq, Prod.mk.injEq] at h
    obtain ⟨_, h2⟩ := h
    cases h2

def isOne0 (k : Blk) : Bool := match k.cells with | [.int .i64 z] => (z == 0) && (Nat.beq k.elem 3 && k.live) | _ => false
theorem isOne0_eq {k : Blk} (h : isOne0 k = true) : k = ⟨[I 0], 3, true⟩ := by
  obtain ⟨cells, elem, live⟩ := k
  unfold isOne0 at h
  split at h
  · rename_i z e
    dsimp only at e
    subst e
    simp only [Bool.and_eq_true, beq_iff_eq, Nat.beq_eq] at h
    obtain ⟨rfl, rfl, rfl⟩ := h
    rfl
  · cases h
def isB43 (n : Int) : Bool := [(4 : Int), 8, 12, 16, 20, 24, 28, 32].any (· == n)
def ofTree : Tree := fun args M _ => match args with
  | [.int .i64 n, .slice none 0 0] => .lf (decide (0 ≤ n) && decide (n ≤ 1000)) (.slice (some ⟨M.length, 0, none⟩) (bitsN n) (bitsN n), M ++ [⟨List.replicate (bitsN n) Z8, 5, true⟩])
  | [.int .i64 n, .slice (some ⟨b, 0, none⟩) 1 1] => .lf (isOne0 (M.blk b) && isB43 n) (.slice (some ⟨M.length, 0, some 1⟩) (bitsN n) (bitsN n), M ++ [⟨bit0 (List.replicate (bitsN n) Z8), 5, true⟩])
  | _ => .lf false (undef, M)
theorem ofTree_inv {args : List Value} {M : Mem} {wall : Nat} {R : Value × Mem} (h : (ofTree args M wall).val = some R) :
    (∃ n, args = [I n, nilS] ∧ 0 ≤ n ∧ n ≤ 1000 ∧ R = (.slice (some ⟨M.length, 0, none⟩) (bitsN n) (bitsN n), M ++ [⟨List.replicate (bitsN n) Z8, 5, true⟩])) ∨
    (∃ n b, args = [I n, sl b 0 none 1 1] ∧ M.blk b = ⟨[I 0], 3, true⟩ ∧ isB43 n = true ∧ R = (.slice (some ⟨M.length, 0, some 1⟩) (bitsN n) (bitsN n), M ++ [⟨bit0 (List.replicate (bitsN n) Z8), 5, true⟩])) := by
  unfold ofTree at h
  split at h
  · rename_i n
    obtain ⟨h1, rfl⟩ := lf_val h
    simp only [Bool.and_eq_true, decide_eq_true_eq] at h1
    exact .inl ⟨n, rfl, h1.1, h1.2, rfl⟩
  · rename_i n b
    obtain ⟨h1, rfl⟩ := lf_val h
    simp only [Bool.and_eq_true] at h1
    exact .inr ⟨n, b, rfl, isOne0_eq h1.1, h1.2, rfl⟩
  · cases h
theorem run43_any {n : Int} (h : isB43 n = true) : run43 n = res43 (bitsN n) := by
  simp only [isB43, List.any_cons, List.any_nil, Bool.or_false, Bool.or_eq_true, beq_iff_eq] at h
  rcases h with rfl | rfl | rfl | rfl | rfl | rfl | rfl | rfl
  · exact run43_1
  · exact run43_2
  · exact run43_3
  · exact run43_4
  · exact run43_5
  · exact run43_6
  · exact run43_7
  · exact run43_8
theorem bitsN_B {n : Int} (h : isB43 n = true) : bitsN n ≤ 4 := by
  simp only [isB43, List.any_cons, List.any_nil, Bool.or_false, Bool.or_eq_true, beq_iff_eq] at h
  unfold bitsN
  omega
theorem tell43 : TellOk Try.prog EvN.q 43 (bodyT ofTree) := by
  refine tellT (fun _ args M v M' h => ?_) (fun args M wall R h => ?_)
  · rcases ofTree_inv h with ⟨n, rfl, _, _, e⟩ | ⟨n, b, rfl, _, _, e⟩
    · cases e
      exact trim_row (by simp) (u8s_flat u8s_rep)
    · cases e
      obtain ⟨h1, h2, _⟩ := bit0_ok (cs := List.replicate (bitsN n) Z8) u8s_rep u8r_rep
      exact trim_rowg (by rw [h1]; simp) (u8s_flat h2)
  · rcases ofTree_inv h with ⟨n, rfl, h0, h1, rfl⟩ | ⟨n, b, rfl, hb, hn, rfl⟩
    · have hview : view Try.prog M [I n, nilS] 0 = some ([I n, nilS], []) := view_flat M _ 0 (by simp [flat, flat1])
      have e8 : eighth n = (n + 7) / 8 := by
        unfold eighth
        rw [wr_id (x := n + 7) (by omega) (by omega), Int.tdiv_eq_ediv_of_nonneg (by omega), wr_id (by omega) (by omega)]
      have run := r43 some n
      have a1 : decide (n < 0) = false := by simp; omega
      have a2 : decide (1000 < n) = false := by simp; omega
      rw [a1, a2, e8] at run
      have a3 : decide (0 ≤ (n + 7) / 8) = true := by simp; omega
      have a4 : decide ((n + 7) / 8 ≤ (n + 7) / 8) = true := by simp
      have a5 : decide (((1 : Nat) : Int) * ((n + 7) / 8) ≤ 281474976710656) = true := by simp; omega
      have a6 : decide ((n + 7) / 8 ≤ 9223372036854775807) = true := by simp; omega
      rw [a3, a4, a5, a6] at run
      exact loc_told hview (run_told evFitsN okD4 sem43 run) (hand_row (b := 0) (by simp) rfl (by simp [bitsN]) (u8s_flat u8s_rep)) wall
    · have hlive := blk_live (M := M) (b := b) (by rw [hb])
      rw [hb] at hlive
      have hc : Try.prog.cellsOf 3 = 1 := by kernel_rfl
      have hview : view Try.prog M [I n, sl b 0 none 1 1] 0 = some ([I n, sl 0 0 none 1 1], M43) := by
        have h0 : view1 Try.prog M 0 (I n) = some (I n, []) := rfl
        have h1 : view1 Try.prog M 0 (sl b 0 none 1 1) = some (sl 0 0 none 1 1, M43) := by
          simp only [view1, hlive, hc]
          rfl
        simp only [view, h0, Option.bind_some, List.length_nil, Nat.add_zero, h1, List.nil_append, List.append_nil]
      have run := run43_any hn
      unfold run43 at run
      rw [Option.bind_eq_some_iff] at run
      obtain ⟨⟨v, M1⟩, h1, h2⟩ := run
      exact loc_told hview ⟨_, good_evO evFits okD4.good (fun _ => false) 200, h1⟩ (handOn_anyV h2 M) wall
noncomputable abbrev D5 : CallC := moreC 43 (bodyT ofTree) D4
theorem okD5 : OkC Try.prog EvN.q D5 := ok_moreC okD4 tell43
end Go.Proofs.Yteeclgeoconekaa
