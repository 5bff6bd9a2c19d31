/-
  The function Seal of the package seal, run over any row of bytes of at most 123; told in any memory.
-/
import Derived.Test.YteeclgeoconekaaQ0
import Derived.Test.YteeclgeoconekaaQ1
import Derived.Laws.Strings
namespace Go.Proofs.Yteeclgeoconekaa
open Go.Ev

abbrev Z8 : Value := .int .u8 0
/-- The bytes of a sum. -/
def sumB4 (s : Int) : List Value := [U8 (IntKind.u8.wrap (s.fdiv 16777216)), U8 (IntKind.u8.wrap (s.fdiv 65536)), U8 (IntKind.u8.wrap (s.fdiv 256)), U8 (IntKind.u8.wrap s)]
/-- A sealed row. -/
def sealRow (k : Int) (l : List Value) : List Value := (U8 k :: (l ++ List.replicate (123 - l.length) Z8)) ++ sumB4 (sumF (U8 k :: (l ++ List.replicate (123 - l.length) Z8)))

def sM1 (k : Int) (cs : List Value) : Mem := [⟨cs, 5, true⟩, ⟨(List.replicate 128 Z8).set 0 (U8 k), 5, true⟩]
def sRow (k : Int) (n : Nat) (cs : List Value) : List Value := rowC (sM1 k cs) 0 0 (min n 123 * 1)
def sM2 (k : Int) (n : Nat) (cs : List Value) : Mem := setBlk (sM1 k cs) 1 (putC (sM1 k cs) 1 1 (sRow k n cs))
def sS (k : Int) (n : Nat) (cs : List Value) : Int := sumF (bRow (sM2 k n cs) (sl 1 0 none 124 128))
def sM3 (k : Int) (n : Nat) (cs : List Value) : Mem := sM2 k n cs ++ [⟨sumB4 (sS k n cs), 5, true⟩]
def sM4 (k : Int) (n : Nat) (cs : List Value) : Mem := setBlk (sM3 k n cs) 1 (putC (sM3 k n cs) 1 124 (sumB4 (sS k n cs)))
abbrev nilS : Value := .slice none 0 0

theorem r57 (κ : Value × Mem → Ret) (k : Int) (sp : Option Nat) (n c : Nat) (cs : List Value) : bn C1 noB 57 [U8 k, sl 0 0 sp n c] [⟨cs, 5, true⟩] 1 κ =
    cond (k == 0) (κ (.tuple #[nilS, I 2], [⟨cs, 5, true⟩])) (cond (decide (123 < (n : Int))) (κ (.tuple #[nilS, I 2], [⟨cs, 5, true⟩]))
      (cond (rowG (sM1 k cs) 0 0 (min n 123 * 1)) (cond (((sRow k n cs).all Value.oneCell' && (!(Nat.beq (min n 123) 0) || (sRow k n cs).isEmpty)) && putG (sM1 k cs) 1 1 1 (sRow k n cs).length)
        (cond (bOk (sM2 k n cs) (sl 1 0 none 124 128)) (apK (appendB Try.prog (sM3 k n cs) 1 [35, 35] (sl 1 0 none 124 128) (sl 2 0 none 4 4)) fun p => κ (.tuple #[p.1, I 0], p.2)) none) none) none)) := by kernel_rfl
theorem a57 (k : Int) (n : Nat) (cs : List Value) : (appendB Try.prog (sM3 k n cs) 1 [35, 35] (sl 1 0 none 124 128) (sl 2 0 none 4 4)).val = cond (putG (sM3 k n cs) 1 1 124 4) (some (.slice (some ⟨1, 0, none⟩) 128 128, sM4 k n cs)) none := by kernel_rfl
theorem s57 {k : Int} {n : Nat} {cs : List Value} (h : putG (sM3 k n cs) 1 1 124 4 = true) (κ : Value × Mem → Ret) : apK (appendB Try.prog (sM3 k n cs) 1 [35, 35] (sl 1 0 none 124 128) (sl 2 0 none 4 4)) κ = κ (.slice (some ⟨1, 0, none⟩) 128 128, sM4 k n cs) :=
  apK_val (by rw [a57, h]; rfl) κ

/-! ### in any memory -/

theorem view_row {M : Mem} {x : Value} (h : bOk M x = true) (j : Nat) : ∃ a n c, x = .slice (some a) n c ∧ n = (bRow M x).length ∧ view1 Try.prog M j x = some (.slice (some ⟨j, 0, a.spot⟩) n c, [⟨bRow M x, 5, true⟩]) := by
  obtain ⟨a, n, c, k, rfl, h1, h2, h3, h4, h5, h6, h7, h8⟩ := bOk_inv h
  refine ⟨a, n, c, rfl, by rw [h5]; simp; omega, ?_⟩
  have hc : Try.prog.cellsOf 5 = 1 := by kernel_rfl
  have hb : Nat.ble a.off k.cells.length = true := by simp; omega
  have hf := u8s_flat h6
  rw [h5] at hf
  simp only [view1, h1, h3, hc, Nat.mul_one, h2, hb, hf, Bool.and_self, cond_true, h5]

/-- A call told out of its run in a memory of its own. -/
theorem loc_told {f : FuncId} {args a0 : List Value} {M M0 M1 : Mem} {v0 : Value} {R : Value × Mem} (hv : view Try.prog M args 0 = some (a0, M0)) (h : ∃ T, CallGood Try.prog T ∧ T f a0 M0 M0.length = some (v0, M1)) (hh : handOn Try.prog M0 M1 v0 M = some R) (wall : Nat) :
    ∃ T, CallGood Try.prog T ∧ T f args M wall = some R := by
  obtain ⟨T, hT, hr⟩ := h
  exact ⟨_, good_loc hT, by simp only [locCall, hv, Option.bind_some, hr, hh]⟩

theorem run_told {A : Ann} (hf : Fits Try.prog A) {CK : CallC} (hC : OkC Try.prog A.q CK) {L : LoopB} {f : FuncId} {a0 : List Value} {M0 M1 : Mem} {wall : Nat} {v0 : Value} (hL : LoopsSem Try.prog wall L (codeOf Try.prog f)) (h : bodyB Try.prog A CK L f a0 M0 wall some = some (v0, M1)) :
    ∃ T, CallGood Try.prog T ∧ T f a0 M0 wall = some (v0, M1) := by
  obtain ⟨v, M', h1, _, T, hT, h2⟩ := bodyB_ok hf hC.cps hC.good hL h
  cases h1
  exact ⟨T, hT, h2⟩

theorem trim1_row {M M1 : Mem} {b n : Nat} {cells : List Value} (hb : M.length ≤ b) (h1 : M1[b]? = some ⟨cells, 5, true⟩) (hn : cells.length = n) (hf : cells.all flat1 = true) :
    trim1 Try.prog M M1 (.slice (some ⟨b, 0, none⟩) n n) = some (.slice (some ⟨M.length, 0, none⟩) n n, ⟨cells, 5, true⟩) := by
  have hc : Try.prog.cellsOf 5 = 1 := by kernel_rfl
  have e : (cells.drop 0).take n = cells := by simp [← hn]
  have hb' : Nat.ble M.length b = true := by simpa using hb
  have hn' : Nat.ble (0 + n) cells.length = true := by simp [hn]
  simp only [trim1, h1, hb', hc, trimOk, trimLen, hn', e, hf, Nat.beq_refl, Bool.and_self, cond_true]

theorem hand_row {M0 M1 M : Mem} {b n : Nat} {cells : List Value} (hb : M0.length ≤ b) (h1 : M1[b]? = some ⟨cells, 5, true⟩) (hn : cells.length = n) (hf : cells.all flat1 = true) :
    handOn Try.prog M0 M1 (.slice (some ⟨b, 0, none⟩) n n) M = some (.slice (some ⟨M.length, 0, none⟩) n n, M ++ [⟨cells, 5, true⟩]) := by
  have := trim1_row hb h1 hn hf
  simp [handOn, this, flatR, flat, flat1]
theorem hand_row2 {M0 M1 M : Mem} {b n : Nat} {cells : List Value} {e : Int} (hb : M0.length ≤ b) (h1 : M1[b]? = some ⟨cells, 5, true⟩) (hn : cells.length = n) (hf : cells.all flat1 = true) :
    handOn Try.prog M0 M1 (.tuple #[.slice (some ⟨b, 0, none⟩) n n, I e]) M = some (.tuple #[.slice (some ⟨M.length, 0, none⟩) n n, I e], M ++ [⟨cells, 5, true⟩]) := by
  have := trim1_row hb h1 hn hf
  simp [handOn, this, flatR, flat, flat1]
theorem trim_row {M : Mem} {n : Nat} {cells : List Value} (hn : cells.length = n) (hf : cells.all flat1 = true) :
    trim Try.prog M (M ++ [⟨cells, 5, true⟩]) (.slice (some ⟨M.length, 0, none⟩) n n) = (.slice (some ⟨M.length, 0, none⟩) n n, M ++ [⟨cells, 5, true⟩]) := by
  have := trim1_row (M := M) (M1 := M ++ [⟨cells, 5, true⟩]) (Nat.le_refl _) (by simp) hn hf
  simp [trim, this, flatR, flat, flat1]
theorem trim_row2 {M : Mem} {n : Nat} {cells : List Value} {e : Int} (hn : cells.length = n) (hf : cells.all flat1 = true) :
    trim Try.prog M (M ++ [⟨cells, 5, true⟩]) (.tuple #[.slice (some ⟨M.length, 0, none⟩) n n, I e]) = (.tuple #[.slice (some ⟨M.length, 0, none⟩) n n, I e], M ++ [⟨cells, 5, true⟩]) := by
  have := trim1_row (M := M) (M1 := M ++ [⟨cells, 5, true⟩]) (Nat.le_refl _) (by simp) hn hf
  simp [trim, this, flatR, flat, flat1]
theorem trim_nil2 {M : Mem} {e : Int} : trim Try.prog M M (.tuple #[nilS, I e]) = (.tuple #[nilS, I e], M) := by
  simp [trim, flatR, flat, flat1]

/-! ### plain -/

theorem u8r_append {a b : List Value} : u8r (a ++ b) = (u8r a && u8r b) := by simp [u8r]
theorem u8r_cons {x : Value} {b : List Value} : u8r (x :: b) = ((decide (0 ≤ intOf x) && decide (intOf x < 256)) && u8r b) := rfl
theorem u8r_rep {n : Nat} : u8r (List.replicate n Z8) = true := by simp [u8r, intOf]
theorem wrap8_bd (x : Int) : 0 ≤ IntKind.u8.wrap x ∧ IntKind.u8.wrap x < 256 := by
  have h : IntKind.u8.wrap x = x % 256 := rfl
  rw [h]
  omega
theorem u8r_sum (s : Int) : u8r (sumB4 s) = true := by
  simp [sumB4, u8r, intOf, wrap8_bd]
theorem u8s_append {a b : List Value} : u8s (a ++ b) = (u8s a && u8s b) := by simp [u8s]
theorem u8s_cons {x : Value} {b : List Value} : u8s (x :: b) = (isInt .u8 x && u8s b) := rfl
theorem u8s_rep {n : Nat} : u8s (List.replicate n Z8) = true := by simp [u8s, isInt]
theorem u8s_sum (s : Int) : u8s (sumB4 s) = true := rfl
theorem u8s_one {l : List Value} (h : u8s l = true) : l.all Value.oneCell' = true := by
  rw [List.all_eq_true]
  intro v hv
  have := List.all_eq_true.1 h v hv
  unfold isInt at this
  cases v <;> first | cases this | rfl

theorem sealRow_len {k : Int} {l : List Value} (h : l.length ≤ 123) : (sealRow k l).length = 128 := by
  simp [sealRow, sumB4]; omega
theorem sealRow_u8 {k : Int} {l : List Value} (h : u8s l = true) : u8s (sealRow k l) = true := by
  simp [sealRow, u8s_append, u8s_cons, u8s_rep, u8s_sum, h, isInt]

theorem sealRow_r {k : Int} {l : List Value} (hk : 0 ≤ k ∧ k < 256) (h : u8r l = true) : u8r (sealRow k l) = true := by
  simp [sealRow, u8r_append, u8r_cons, u8r_rep, u8r_sum, h, intOf, hk]

theorem seal_plain (k : Int) (cs : List Value) (hk : 0 ≤ k ∧ k < 256) (hn : cs.length ≤ 123) (hu : u8s cs = true) (hr : u8r cs = true) :
    sRow k cs.length cs = cs ∧ putG (sM1 k cs) 1 1 1 cs.length = true ∧ rowG (sM1 k cs) 0 0 (min cs.length 123 * 1) = true ∧ bOk (sM2 k cs.length cs) (sl 1 0 none 124 128) = true ∧ putG (sM3 k cs.length cs) 1 1 124 4 = true ∧
    sM4 k cs.length cs = [⟨cs, 5, true⟩, ⟨sealRow k cs, 5, true⟩, ⟨sumB4 (sS k cs.length cs), 5, true⟩] := by
  have hm : min cs.length 123 * 1 = cs.length := by omega
  have e1 : sRow k cs.length cs = cs := by
    unfold sRow
    rw [hm]
    simp [rowC, sM1, Mem.blk]
  have e2 : sM2 k cs.length cs = [⟨cs, 5, true⟩, ⟨(U8 k :: (cs ++ List.replicate (123 - cs.length) Z8)) ++ List.replicate 4 Z8, 5, true⟩] := by
    unfold sM2
    rw [e1]
    have h : putC (sM1 k cs) 1 1 cs = (U8 k :: (cs ++ List.replicate (123 - cs.length) Z8)) ++ List.replicate 4 Z8 := by
      have h0 : ((sM1 k cs).blk 1).cells = U8 k :: List.replicate 127 Z8 := rfl
      simp only [putC, h0]
      rw [show 1 + cs.length = cs.length + 1 from by omega]
      simp only [List.take_succ_cons, List.take_zero, List.drop_succ_cons, List.drop_replicate, List.cons_append, List.nil_append, List.append_assoc, List.replicate_append_replicate]
      congr 3
      omega
    rw [h]
    rfl
  have h12 : (sM2 k cs.length cs).blk 1 = ⟨(U8 k :: (cs ++ List.replicate (123 - cs.length) Z8)) ++ List.replicate 4 Z8, 5, true⟩ := by rw [e2]; rfl
  have hl : (U8 k :: (cs ++ List.replicate (123 - cs.length) Z8)).length = 124 := by simp; omega
  have e3 : bRow (sM2 k cs.length cs) (sl 1 0 none 124 128) = U8 k :: (cs ++ List.replicate (123 - cs.length) Z8) := by
    show (((sM2 k cs.length cs).blk 1).cells.drop 0).take 124 = _
    rw [h12]
    simp only [List.drop_zero]
    rw [List.take_append_of_le_length (by omega), List.take_of_length_le (by omega)]
  have e4 : (sM3 k cs.length cs).blk 1 = ⟨(U8 k :: (cs ++ List.replicate (123 - cs.length) Z8)) ++ List.replicate 4 Z8, 5, true⟩ := by
    unfold sM3
    rw [e2]
    rfl
  refine ⟨e1, ?_, ?_, ?_, ?_, ?_⟩
  · have h0 : ((sM1 k cs).blk 1).cells = U8 k :: List.replicate 127 Z8 := rfl
    have h1 : ((sM1 k cs).blk 1).live = true := rfl
    simp [putG, h0, h1]
    omega
  · rw [hm]
    simp [rowG, sM1, Mem.blk]
  · have hl2 : ((U8 k :: (cs ++ List.replicate (123 - cs.length) Z8)) ++ List.replicate 4 Z8).length = 128 := by rw [List.length_append, hl]; rfl
    have g1 : rowG (sM2 k cs.length cs) 1 0 124 = true := by
      simp only [rowG, h12, hl2]
      rfl
    have g2 : u8s (U8 k :: (cs ++ List.replicate (123 - cs.length) Z8)) = true := by simp [u8s_cons, u8s_append, u8s_rep, hu, isInt]
    have g3 : Nat.beq ((sM2 k cs.length cs).blk 1).elem 5 = true := by rw [h12]; rfl
    have g4 : u8r (U8 k :: (cs ++ List.replicate (123 - cs.length) Z8)) = true := by simp [u8r_cons, u8r_append, u8r_rep, hr, intOf, hk]
    show (true && (rowG (sM2 k cs.length cs) 1 0 124 && (Nat.beq ((sM2 k cs.length cs).blk 1).elem 5 && ((u8s (bRow (sM2 k cs.length cs) (sl 1 0 none 124 128)) && u8r (bRow (sM2 k cs.length cs) (sl 1 0 none 124 128))) && true)))) = true
    rw [g1, g3, e3, g2, g4]
    rfl
  · have hl2 : ((U8 k :: (cs ++ List.replicate (123 - cs.length) Z8)) ++ List.replicate 4 Z8).length = 128 := by rw [List.length_append, hl]; rfl
    simp only [putG, e4, hl2]
    rfl
  · have h : putC (sM3 k cs.length cs) 1 124 (sumB4 (sS k cs.length cs)) = sealRow k cs := by
      have hs : sS k cs.length cs = sumF (U8 k :: (cs ++ List.replicate (123 - cs.length) Z8)) := by unfold sS; rw [e3]
      simp only [putC, e4]
      rw [List.take_append_of_le_length (by omega), List.take_of_length_le (by omega), hs]
      have : List.drop (124 + (sumB4 (sumF (U8 k :: (cs ++ List.replicate (123 - cs.length) Z8)))).length) ((U8 k :: (cs ++ List.replicate (123 - cs.length) Z8)) ++ List.replicate 4 Z8) = [] := by
        apply List.drop_of_length_le
        rw [List.length_append, hl]
        simp [sumB4]
      rw [this, List.append_nil]
      rfl
    unfold sM4
    rw [h]
    unfold sM3
    rw [e2]
    rfl

/- Seal, told -/
def sealTree : Tree := fun args M _ => match args with
  | [.int .u8 k, x] => .nd (k == 0 || decide (123 < lenOf x)) (.lf (bOk M x) (.tuple #[nilS, I 2], M))
      (.lf (bOk M x && (decide (0 ≤ k) && decide (k < 256))) (.tuple #[.slice (some ⟨M.length, 0, none⟩) 128 128, I 0], M ++ [⟨sealRow k (bRow M x), 5, true⟩]))
  | _ => .lf false (undef, M)

theorem sealTree_inv {args : List Value} {M : Mem} {wall : Nat} {R : Value × Mem} (h : (sealTree args M wall).val = some R) : ∃ k x, args = [U8 k, x] ∧ bOk M x = true ∧
    ((((k == 0) || decide (123 < lenOf x)) = true ∧ R = (.tuple #[nilS, I 2], M)) ∨ (((k == 0) || decide (123 < lenOf x)) = false ∧ (0 ≤ k ∧ k < 256) ∧ R = (.tuple #[.slice (some ⟨M.length, 0, none⟩) 128 128, I 0], M ++ [⟨sealRow k (bRow M x), 5, true⟩]))) := by
  unfold sealTree at h
  split at h
  · rename_i k x
    rcases nd_val h with ⟨hc, h⟩ | ⟨hc, h⟩
    · obtain ⟨h1, rfl⟩ := lf_val h
      exact ⟨k, x, rfl, h1, .inl ⟨hc, rfl⟩⟩
    · obtain ⟨h1, rfl⟩ := lf_val h
      simp only [Bool.and_eq_true, decide_eq_true_eq] at h1
      exact ⟨k, x, rfl, h1.1, .inr ⟨hc, h1.2, rfl⟩⟩
  · cases h

theorem bOk_len {M : Mem} {x : Value} (h : bOk M x = true) : lenOf x = (bRow M x).length := by
  obtain ⟨a, n, c, rfl, h1, _⟩ := view_row h 0
  exact h1
theorem bOk_u8 {M : Mem} {x : Value} (h : bOk M x = true) : u8s (bRow M x) = true := by
  obtain ⟨a, n, c, k, rfl, h1, h2, h3, h4, h5, h6, h7, h8⟩ := bOk_inv h
  exact h6

theorem bOk_r {M : Mem} {x : Value} (h : bOk M x = true) : u8r (bRow M x) = true := by
  obtain ⟨a, n, c, k, rfl, h1, h2, h3, h4, h5, h6, h7, h8⟩ := bOk_inv h
  exact h8

theorem tell57 : TellOk Try.prog EvN.q 57 (bodyT sealTree) := by
  refine tellT (fun _ args M v M' h => ?_) (fun args M wall R h => ?_)
  · obtain ⟨k, x, rfl, hx, ⟨hc, e⟩ | ⟨hc, _, e⟩⟩ := sealTree_inv h
    · cases e; exact trim_nil2
    · cases e
      have hl := bOk_len hx
      simp only [Bool.or_eq_false_iff, decide_eq_false_iff_not] at hc
      exact trim_row2 (sealRow_len (by omega)) (u8s_flat (sealRow_u8 (bOk_u8 hx)))
  · obtain ⟨k, x, rfl, hx, hR⟩ := sealTree_inv h
    obtain ⟨a, n, c, hxe, hn, hv⟩ := view_row hx 0
    have hlen := bOk_len hx
    have hu := bOk_u8 hx
    have hr8 := bOk_r hx
    have hview : view Try.prog M [U8 k, x] 0 = some ([U8 k, .slice (some ⟨0, 0, a.spot⟩) n c], [⟨bRow M x, 5, true⟩]) := by
      have h0 : view1 Try.prog M 0 (U8 k) = some (U8 k, []) := rfl
      simp only [view, h0, Option.bind_some, List.length_nil, Nat.add_zero, hv, List.nil_append, List.append_nil]
    generalize bRow M x = cs at *
    have run := r57 some k a.spot n c cs
    rcases hR with ⟨hc, rfl⟩ | ⟨hc, hk8, rfl⟩
    · refine loc_told hview (run_told evFitsN (A := EvN) okC1 (no_loops (by kernel_rfl)) (v0 := .tuple #[nilS, I 2]) (M1 := [⟨cs, 5, true⟩]) (wall := 1) (run.trans ?_)) ?_ wall
      · cases hk : (k == 0)
        · have : decide (123 < (n : Int)) = true := by
            rw [hk] at hc
            simp only [Bool.false_or, decide_eq_true_eq] at hc
            simp; omega
          rw [this]; rfl
        · rfl
      · simp [handOn, flatR, flat, flat1]
    · simp only [Bool.or_eq_false_iff, decide_eq_false_iff_not] at hc
      obtain ⟨hk, hle⟩ := hc
      have hn2 : cs.length ≤ 123 := by omega
      obtain ⟨p1, p2, p3, p4, p5, p6⟩ := seal_plain k cs hk8 hn2 hu hr8
      refine loc_told hview (run_told evFitsN (A := EvN) okC1 (no_loops (by kernel_rfl)) (v0 := .tuple #[.slice (some ⟨1, 0, none⟩) 128 128, I 0]) (M1 := sM4 k n cs) (wall := 1) (run.trans ?_)) ?_ wall
      · have h1 : decide (123 < (n : Int)) = false := by simp; omega
        rw [hk, h1, hn, p3, p1, p2, p4, s57 p5, u8s_one hu]
        have h2 : (!Nat.beq (min cs.length 123) 0 || cs.isEmpty) = true := by
          cases cs with
          | nil => rfl
          | cons x l =>
            have : Nat.beq (min (x :: l).length 123) 0 = false := by
              cases hb : Nat.beq (min (x :: l).length 123) 0
              · rfl
              · have := Nat.eq_of_beq_eq_true hb
                simp only [List.length_cons] at this
                omega
            rw [this]; rfl
        rw [h2]
        rfl
      · rw [hn, p6]
        exact hand_row2 (b := 1) (by simp) rfl (sealRow_len hn2) (u8s_flat (sealRow_u8 hu))

abbrev C2 : CallC := moreC 57 (bodyT sealTree) C1
theorem okC1N : OkC Try.prog EvN.q C1 := okC1
theorem okC2 : OkC Try.prog EvN.q C2 := ok_moreC okC1N tell57
end Go.Proofs.Yteeclgeoconekaa


/-
  Rows of bytes compared: SameBytes, slices.Equal, bytes.Equal, run over any two rows; told in any memory.
-/
namespace Go.Proofs.Yteeclgeoconekaa
open Go.Ev

def eqRows : List Value → List Value → Bool
  | [], [] => true
  | x :: xs, y :: ys => (intOf x == intOf y) && eqRows xs ys
  | _, _ => false

theorem eqRows_self : ∀ l, eqRows l l = true
  | [] => rfl
  | x :: l => by simp [eqRows, eqRows_self l]
theorem eqRows_len : ∀ {a b : List Value}, eqRows a b = true → a.length = b.length
  | [], [], _ => rfl
  | x :: xs, y :: ys, h => by simp only [eqRows, Bool.and_eq_true] at h; simp [eqRows_len h.2]
  | [], y :: ys, h => by cases h
  | x :: xs, [], h => by cases h

/-! ### two rows in a memory of their own -/
abbrev SA := SLs 0 × SLs 1 × Int × Unit
abbrev SB := List Value × List Value × Unit
abbrev St2 := SA × SB × Mem
abbrev mp2 : List MPt := [.rowE 5, .rowE 5]
abbrev gI (cs : List Value) (i : Int) : Option Value := cs[0 + i.toNat * 1]?

/-- One round of a comparison. -/
def rndEq : St2 → Br (LO St2 (Bool × St2)) := fun s =>
  .nd (decide (s.1.2.2.1 < (s.1.1.n : Int)))
    (.nd (decide (0 ≤ s.1.2.2.1) && decide (s.1.2.2.1 < (s.1.1.n : Int)))
      (.nd (decide (0 ≤ s.1.2.2.1) && decide (s.1.2.2.1 < (s.1.2.1.n : Int)))
        (.nd (okInt .u8 (gI s.2.1.1 s.1.2.2.1) && true)
          (.nd (okInt .u8 (gI s.2.1.2.1 s.1.2.2.1) && true)
            (.nd (intIn (gI s.2.1.1 s.1.2.2.1) != intIn (gI s.2.1.2.1 s.1.2.2.1)) (.lf true (.done (false, s))) (.lf true (.next ((s.1.1, s.1.2.1, wr (s.1.2.2.1 + 1), ()), s.2))))
            (.lf false (.done (false, s))))
          (.lf false (.done (false, s))))
        (.lf false (.done (false, s))))
      (.lf false (.done (false, s))))
    (.lf true (.done (true, s)))

theorem iterEq (x : SLs 0) (y : SLs 1) (cs ds : List Value) (t : Mem) (hx : x.n = cs.length) (hy : y.n = ds.length) (hxy : cs.length = ds.length) (hc : u8s cs = true) (hd : u8s ds = true) (hb : cs.length ≤ 4611686018427387904) :
    ∀ (m i fuel : Nat), i + m = cs.length → m < fuel → ∃ s', itrv rndEq fuel ((x, y, (i : Int), ()), (cs, ds, ()), t) = some (eqRows (cs.drop i) (ds.drop i), s') ∧ s'.2 = ((cs, ds, ()), t) := by
  intro m
  induction m with
  | zero =>
    intro i fuel hi hf
    obtain ⟨fuel, rfl⟩ : ∃ n, fuel = n + 1 := ⟨fuel - 1, by omega⟩
    have h1 : decide ((i : Int) < (x.n : Int)) = false := by simp; omega
    refine ⟨((x, y, (i : Int), ()), (cs, ds, ()), t), ?_, rfl⟩
    have e1 : cs.drop i = [] := List.drop_of_length_le (by omega)
    have e2 : ds.drop i = [] := List.drop_of_length_le (by omega)
    simp only [itrv, rndEq, h1, Br.val, cond_false, cond_true, e1, e2]
    rfl
  | succ m ih =>
    intro i fuel hi hf
    obtain ⟨fuel, rfl⟩ : ∃ n, fuel = n + 1 := ⟨fuel - 1, by omega⟩
    have h1 : decide ((i : Int) < (x.n : Int)) = true := by simp; omega
    have h2 : decide ((i : Int) < (y.n : Int)) = true := by simp; omega
    have h0 : decide ((0 : Int) ≤ (i : Int)) = true := by simp
    have lc : i < cs.length := by omega
    have ld : i < ds.length := by omega
    have gc : gI cs i = some cs[i] := by simp [gI, lc]
    have gd : gI ds i = some ds[i] := by simp [gI, ld]
    have oc : isInt .u8 cs[i] = true := List.all_eq_true.1 hc _ (List.getElem_mem lc)
    have od : isInt .u8 ds[i] = true := List.all_eq_true.1 hd _ (List.getElem_mem ld)
    have e1 : cs.drop i = cs[i] :: cs.drop (i + 1) := List.drop_eq_getElem_cons lc
    have e2 : ds.drop i = ds[i] :: ds.drop (i + 1) := List.drop_eq_getElem_cons ld
    have hw : wr ((i : Int) + 1) = ((i + 1 : Nat) : Int) := by rw [wr_id (by omega) (by omega)]; omega
    cases hne : (intOf cs[i] != intOf ds[i])
    · obtain ⟨s', g1, g2⟩ := ih (i + 1) fuel (by omega) (by omega)
      refine ⟨s', ?_, g2⟩
      have he : (intOf cs[i] == intOf ds[i]) = true := by simpa using hne
      simp only [itrv, rndEq, h0, h1, h2, gc, gd, okInt, intIn, oc, od, hne, Br.val, cond_false, cond_true, Bool.and_self, hw, e1, e2, eqRows, he, Bool.true_and]
      exact g1
    · refine ⟨((x, y, (i : Int), ()), (cs, ds, ()), t), ?_, rfl⟩
      have he : (intOf cs[i] == intOf ds[i]) = false := by simpa using hne
      simp only [itrv, rndEq, h0, h1, h2, gc, gd, okInt, intIn, oc, od, hne, Br.val, cond_false, cond_true, Bool.and_self, e1, e2, eqRows, he, Bool.false_and]

/- SameBytes -/
abbrev rp24 : List Pt := mkP 26 [(0, .hole), (1, .hole), (5, .hole)]
def fr24 (o : Bool × St2) : List Value × Mem :=
  (cond o.1 (mk 26 [(0, HV.enc o.2.1.1), (1, HV.enc o.2.1.2.1), (5, I o.2.1.2.2.1), (11, I o.2.1.2.2.1), (12, HV.enc o.2.1.1), (13, I o.2.1.1.n), (14, B false)])
    (mk 26 [(0, HV.enc o.2.1.1), (1, HV.enc o.2.1.2.1), (5, I o.2.1.2.2.1), (17, HV.enc o.2.1.1), (18, I o.2.1.2.2.1), (19, .pointer (some ⟨0, 0 + o.2.1.2.2.1.toNat * 1, none⟩)), (20, .int .u8 (intIn (gI o.2.2.1.1 o.2.1.2.2.1))),
      (21, HV.enc o.2.1.2.1), (22, I o.2.1.2.2.1), (23, .pointer (some ⟨1, 0 + o.2.1.2.2.1.toNat * 1, none⟩)), (24, .int .u8 (intIn (gI o.2.2.1.2.1 o.2.1.2.2.1))), (25, B true), (4, B false)]), (stOf rp24 mp2 o.2).2)
def fe2 (o : Bool × St2) : Ex := cond o.1 (.exit 0) .ret
def ko24 (o : Bool × St2) (κ : Kont) : Ret := cond o.1 (κ (.exit 0) (fr24 (true, o.2)).1 (fr24 (true, o.2)).2) (κ .ret (fr24 (false, o.2)).1 (fr24 (false, o.2)).2)
noncomputable abbrev evn (CK : CallC) (w f : Nat) (L : LoopB) (c : Code) (r : List Value) (M : Mem) (κ : Kont) : Ret := evB Try.prog EvN.E EvN.q (EvN.reg f) CK w L c r M (backK (headLive (EvN.reg f) c) κ)

theorem s24 (κ : Kont) (x : SLs 0) (y : SLs 1) (i : Int) (cs ds : List Value) (t : Mem) : evn C2 2 24 noB (lp 24 0) (stOf rp24 mp2 ((x, y, i, ()), (cs, ds, ()), t)).1 (stOf rp24 mp2 ((x, y, i, ()), (cs, ds, ()), t)).2 κ =
    (rndEq ((x, y, i, ()), (cs, ds, ()), t)).run fun o => match o with | .next s' => κ .norm (stOf rp24 mp2 s').1 (stOf rp24 mp2 s').2 | .done o => ko24 o κ := by kernel_rfl

theorem is24 : LoopIs Try.prog EvN.E EvN.q (EvN.reg 24) C2 2 noB (lp 24 0) rp24 mp2 rndEq ko24 fe2 fr24 :=
  ⟨fun o => (by obtain ⟨b, s⟩ := o; cases b <;> (intro h; cases h)), fun o κ => (by obtain ⟨b, s⟩ := o; cases b <;> rfl), fun s κ => (by obtain ⟨⟨x, y, i, ⟨⟩⟩, ⟨cs, ds, ⟨⟩⟩, t⟩ := s; exact s24 κ x y i cs ds t)⟩

abbrev L24 : LoopB := sumB 4 rp24 mp2 rndEq big ko24 noB
theorem sem24 : LoopsSem Try.prog 2 L24 (codeOf Try.prog 24) := by
  intro y hy
  rw [show loopsOf (codeOf Try.prog 24) = [lp 24 0] from by kernel_rfl] at hy
  exact LoopsSem.cons evFitsN.eqs evFitsN.mixed okC2.cps okC2.good (by kernel_rfl) (no_loops (by kernel_rfl)) is24 (fun _ h => by cases h) (by kernel_rfl) (fun _ h => by cases h) y hy

theorem r24 (κ : Value × Mem → Ret) (sp sp' : Option Nat) (n c m c' : Nat) (cs ds : List Value) : bn C2 L24 24 [sl 0 0 sp n c, sl 1 0 sp' m c'] [⟨cs, 5, true⟩, ⟨ds, 5, true⟩] 2 κ =
    cond ((n : Int) != (m : Int)) (κ (B false, [⟨cs, 5, true⟩, ⟨ds, 5, true⟩]))
      (optK (itrv rndEq big ((⟨sp, n, c⟩, ⟨sp', m, c'⟩, 0, ()), (cs, ds, ()), [])) (fun o => cond o.1 (κ (B true, (stOf rp24 mp2 o.2).2)) (κ (B false, (stOf rp24 mp2 o.2).2))) none) := by kernel_rfl

/- slices.Equal -/
abbrev rp78 : List Pt := mkP 26 [(0, .hole), (1, .hole), (12, .hole), (13, .hole)]
abbrev SC := SLs 0 × SLs 1 × Int × Int × Unit
abbrev St3 := SC × SB × Mem
def rndEq3 : St3 → Br (LO St3 (Bool × St3)) := fun s =>
  .nd (decide (s.1.2.2.2.1 < s.1.2.2.1))
    (.nd (decide (0 ≤ s.1.2.2.2.1) && decide (s.1.2.2.2.1 < (s.1.1.n : Int)))
      (.nd (decide (0 ≤ s.1.2.2.2.1) && decide (s.1.2.2.2.1 < (s.1.2.1.n : Int)))
        (.nd (okInt .u8 (gI s.2.1.1 s.1.2.2.2.1) && true)
          (.nd (okInt .u8 (gI s.2.1.2.1 s.1.2.2.2.1) && true)
            (.nd (intIn (gI s.2.1.1 s.1.2.2.2.1) != intIn (gI s.2.1.2.1 s.1.2.2.2.1)) (.lf true (.done (false, s))) (.lf true (.next ((s.1.1, s.1.2.1, s.1.2.2.1, wr (s.1.2.2.2.1 + 1), ()), s.2))))
            (.lf false (.done (false, s))))
          (.lf false (.done (false, s))))
        (.lf false (.done (false, s))))
      (.lf false (.done (false, s))))
    (.lf true (.done (true, s)))

theorem iterEq3 (x : SLs 0) (y : SLs 1) (cs ds : List Value) (t : Mem) (hx : x.n = cs.length) (hy : y.n = ds.length) (hxy : cs.length = ds.length) (hc : u8s cs = true) (hd : u8s ds = true) (hb : cs.length ≤ 4611686018427387904) :
    ∀ (m i fuel : Nat), i + m = cs.length → m < fuel → ∃ s', itrv rndEq3 fuel ((x, y, (x.n : Int), (i : Int), ()), (cs, ds, ()), t) = some (eqRows (cs.drop i) (ds.drop i), s') ∧ s'.2 = ((cs, ds, ()), t) := by
  intro m
  induction m with
  | zero =>
    intro i fuel hi hf
    obtain ⟨fuel, rfl⟩ : ∃ n, fuel = n + 1 := ⟨fuel - 1, by omega⟩
    have h1 : decide ((i : Int) < (x.n : Int)) = false := by simp; omega
    refine ⟨((x, y, (x.n : Int), (i : Int), ()), (cs, ds, ()), t), ?_, rfl⟩
    have e1 : cs.drop i = [] := List.drop_of_length_le (by omega)
    have e2 : ds.drop i = [] := List.drop_of_length_le (by omega)
    simp only [itrv, rndEq3, h1, Br.val, cond_false, cond_true, e1, e2]
    rfl
  | succ m ih =>
    intro i fuel hi hf
    obtain ⟨fuel, rfl⟩ : ∃ n, fuel = n + 1 := ⟨fuel - 1, by omega⟩
    have h1 : decide ((i : Int) < (x.n : Int)) = true := by simp; omega
    have h2 : decide ((i : Int) < (y.n : Int)) = true := by simp; omega
    have h0 : decide ((0 : Int) ≤ (i : Int)) = true := by simp
    have lc : i < cs.length := by omega
    have ld : i < ds.length := by omega
    have gc : gI cs i = some cs[i] := by simp [gI, lc]
    have gd : gI ds i = some ds[i] := by simp [gI, ld]
    have oc : isInt .u8 cs[i] = true := List.all_eq_true.1 hc _ (List.getElem_mem lc)
    have od : isInt .u8 ds[i] = true := List.all_eq_true.1 hd _ (List.getElem_mem ld)
    have e1 : cs.drop i = cs[i] :: cs.drop (i + 1) := List.drop_eq_getElem_cons lc
    have e2 : ds.drop i = ds[i] :: ds.drop (i + 1) := List.drop_eq_getElem_cons ld
    have hw : wr ((i : Int) + 1) = ((i + 1 : Nat) : Int) := by rw [wr_id (by omega) (by omega)]; omega
    cases hne : (intOf cs[i] != intOf ds[i])
    · obtain ⟨s', g1, g2⟩ := ih (i + 1) fuel (by omega) (by omega)
      refine ⟨s', ?_, g2⟩
      have he : (intOf cs[i] == intOf ds[i]) = true := by simpa using hne
      simp only [itrv, rndEq3, h0, h1, h2, gc, gd, okInt, intIn, oc, od, hne, Br.val, cond_false, cond_true, Bool.and_self, hw, e1, e2, eqRows, he, Bool.true_and]
      exact g1
    · refine ⟨((x, y, (x.n : Int), (i : Int), ()), (cs, ds, ()), t), ?_, rfl⟩
      have he : (intOf cs[i] == intOf ds[i]) = false := by simpa using hne
      simp only [itrv, rndEq3, h0, h1, h2, gc, gd, okInt, intIn, oc, od, hne, Br.val, cond_false, cond_true, Bool.and_self, e1, e2, eqRows, he, Bool.false_and]

def fr78 (o : Bool × St3) : List Value × Mem :=
  (cond o.1 (mk 26 [(0, HV.enc o.2.1.1), (1, HV.enc o.2.1.2.1), (12, I o.2.1.2.2.1), (13, I o.2.1.2.2.2.1), (14, B false)])
    (mk 26 [(0, HV.enc o.2.1.1), (1, HV.enc o.2.1.2.1), (5, I o.2.1.2.2.2.1), (12, I o.2.1.2.2.1), (13, I o.2.1.2.2.2.1), (15, I o.2.1.2.2.2.1), (16, HV.enc o.2.1.1), (17, I o.2.1.2.2.2.1), (18, .pointer (some ⟨0, 0 + o.2.1.2.2.2.1.toNat * 1, none⟩)), (19, .int .u8 (intIn (gI o.2.2.1.1 o.2.1.2.2.2.1))),
      (20, HV.enc o.2.1.2.1), (21, I o.2.1.2.2.2.1), (22, .pointer (some ⟨1, 0 + o.2.1.2.2.2.1.toNat * 1, none⟩)), (23, .int .u8 (intIn (gI o.2.2.1.2.1 o.2.1.2.2.2.1))), (24, B true), (4, B false)]), (stOf rp78 mp2 o.2).2)
def fe3 (o : Bool × St3) : Ex := cond o.1 (.exit 0) .ret
def ko78 (o : Bool × St3) (κ : Kont) : Ret := cond o.1 (κ (.exit 0) (fr78 (true, o.2)).1 (fr78 (true, o.2)).2) (κ .ret (fr78 (false, o.2)).1 (fr78 (false, o.2)).2)
theorem s78 (κ : Kont) (x : SLs 0) (y : SLs 1) (l i : Int) (cs ds : List Value) (t : Mem) : evn C2 2 78 noB (lp 78 0) (stOf rp78 mp2 ((x, y, l, i, ()), (cs, ds, ()), t)).1 (stOf rp78 mp2 ((x, y, l, i, ()), (cs, ds, ()), t)).2 κ =
    (rndEq3 ((x, y, l, i, ()), (cs, ds, ()), t)).run fun o => match o with | .next s' => κ .norm (stOf rp78 mp2 s').1 (stOf rp78 mp2 s').2 | .done o => ko78 o κ := by kernel_rfl
theorem is78 : LoopIs Try.prog EvN.E EvN.q (EvN.reg 78) C2 2 noB (lp 78 0) rp78 mp2 rndEq3 ko78 fe3 fr78 :=
  ⟨fun o => (by obtain ⟨b, s⟩ := o; cases b <;> (intro h; cases h)), fun o κ => (by obtain ⟨b, s⟩ := o; cases b <;> rfl), fun s κ => (by obtain ⟨⟨x, y, l, i, ⟨⟩⟩, ⟨cs, ds, ⟨⟩⟩, t⟩ := s; exact s78 κ x y l i cs ds t)⟩
abbrev L78 : LoopB := sumB 4 rp78 mp2 rndEq3 big ko78 noB
theorem sem78 : LoopsSem Try.prog 2 L78 (codeOf Try.prog 78) := by
  intro y hy
  rw [show loopsOf (codeOf Try.prog 78) = [lp 78 0] from by kernel_rfl] at hy
  exact LoopsSem.cons evFitsN.eqs evFitsN.mixed okC2.cps okC2.good (by kernel_rfl) (no_loops (by kernel_rfl)) is78 (fun _ h => by cases h) (by kernel_rfl) (fun _ h => by cases h) y hy
theorem r78 (κ : Value × Mem → Ret) (sp sp' : Option Nat) (n c m c' : Nat) (cs ds : List Value) : bn C2 L78 78 [sl 0 0 sp n c, sl 1 0 sp' m c'] [⟨cs, 5, true⟩, ⟨ds, 5, true⟩] 2 κ =
    cond ((n : Int) != (m : Int)) (κ (B false, [⟨cs, 5, true⟩, ⟨ds, 5, true⟩]))
      (optK (itrv rndEq3 big ((⟨sp, n, c⟩, ⟨sp', m, c'⟩, (n : Int), 0, ()), (cs, ds, ()), [])) (fun o => cond o.1 (κ (B true, (stOf rp78 mp2 o.2).2)) (κ (B false, (stOf rp78 mp2 o.2).2))) none) := by kernel_rfl

/-! ### told -/
def eqTree : Tree := fun args M _ => match args with
  | [x, y] => .lf (bOk M x && bOk M y) (B (eqRows (bRow M x) (bRow M y)), M)
  | _ => .lf false (undef, M)
theorem eqTree_inv {args : List Value} {M : Mem} {wall : Nat} {R : Value × Mem} (h : (eqTree args M wall).val = some R) : ∃ x y, args = [x, y] ∧ bOk M x = true ∧ bOk M y = true ∧ R = (B (eqRows (bRow M x) (bRow M y)), M) := by
  unfold eqTree at h
  split at h
  · rename_i x y
    obtain ⟨h1, rfl⟩ := lf_val h
    simp only [Bool.and_eq_true] at h1
    exact ⟨x, y, rfl, h1.1, h1.2, rfl⟩
  · cases h

theorem view2 {M : Mem} {x y : Value} (hx : bOk M x = true) (hy : bOk M y = true) : ∃ sp n c sp' m c', n = (bRow M x).length ∧ m = (bRow M y).length ∧
    view Try.prog M [x, y] 0 = some ([sl 0 0 sp n c, sl 1 0 sp' m c'], [⟨bRow M x, 5, true⟩, ⟨bRow M y, 5, true⟩]) := by
  obtain ⟨a, n, c, rfl, e1, e2⟩ := view_row hx 0
  obtain ⟨b, m, d, rfl, f1, f2⟩ := view_row hy 1
  refine ⟨a.spot, n, c, b.spot, m, d, e1, f1, ?_⟩
  simp only [view, e2, Option.bind_some, List.length_cons, List.length_nil, Nat.zero_add, f2, List.cons_append, List.nil_append, List.append_nil]

theorem tellEq {f : FuncId} (h : ∀ (sp sp' : Option Nat) (n c m c' : Nat) (cs ds : List Value), n = cs.length → m = ds.length → u8s cs = true → u8s ds = true → u8r cs = true → u8r ds = true → cs.length ≤ 4611686018427387904 → ds.length ≤ 4611686018427387904 →
      ∃ M1 T, CallGood Try.prog T ∧ T f [sl 0 0 sp n c, sl 1 0 sp' m c'] [⟨cs, 5, true⟩, ⟨ds, 5, true⟩] 2 = some (B (eqRows cs ds), M1)) : TellOk Try.prog EvN.q f (bodyT eqTree) := by
  refine tellT (fun _ args M v M' h => ?_) (fun args M wall R hR => ?_)
  · obtain ⟨x, y, rfl, hx, hy, e⟩ := eqTree_inv h
    cases e
    rfl
  · obtain ⟨x, y, rfl, hx, hy, rfl⟩ := eqTree_inv hR
    obtain ⟨sp, n, c, sp', m, c', h1, h2, hv⟩ := view2 hx hy
    have lx : (bRow M x).length ≤ 4611686018427387904 := by
      obtain ⟨a, n, c, k, rfl, _, _, _, _, e, _, h7, _⟩ := bOk_inv hx
      rw [e]; simp; omega
    have ly : (bRow M y).length ≤ 4611686018427387904 := by
      obtain ⟨a, n, c, k, rfl, _, _, _, _, e, _, h7, _⟩ := bOk_inv hy
      rw [e]; simp; omega
    obtain ⟨M1, T, hT, hr⟩ := h sp sp' n c m c' _ _ h1 h2 (bOk_u8 hx) (bOk_u8 hy) (bOk_r hx) (bOk_r hy) lx ly
    exact loc_told hv ⟨T, hT, hr⟩ (by simp [handOn, flatR, flat, flat1]) wall

theorem eq_run {cs ds : List Value} {n m : Nat} (h1 : n = cs.length) (h2 : m = ds.length) : ((n : Int) != (m : Int)) = true → eqRows cs ds = false := by
  intro h
  cases e : eqRows cs ds
  · rfl
  · have := eqRows_len e
    simp at h
    omega

theorem tell24 : TellOk Try.prog EvN.q 24 (bodyT eqTree) := tellEq fun sp sp' n c m c' cs ds h1 h2 hc hd _ _ lc ld => by
  have run := r24 some sp sp' n c m c' cs ds
  cases hnm : ((n : Int) != (m : Int))
  · have hl : cs.length = ds.length := by simp at hnm; omega
    obtain ⟨s', g1, g2⟩ := iterEq ⟨sp, n, c⟩ ⟨sp', m, c'⟩ cs ds [] h1 h2 hl hc hd lc cs.length 0 big (by omega) (by unfold big; omega)
    simp only [List.drop_zero] at g1
    rw [show ((0 : Nat) : Int) = 0 from rfl] at g1
    rw [hnm, cond_false, g1] at run
    simp only [optK] at run
    obtain ⟨a, b⟩ := s'
    dsimp only at g2
    subst g2
    refine ⟨[⟨cs, 5, true⟩, ⟨ds, 5, true⟩], run_told evFitsN okC2 sem24 (run.trans ?_)⟩
    cases eqRows cs ds <;> rfl
  · rw [hnm, cond_true] at run
    rw [eq_run h1 h2 hnm]
    exact ⟨_, run_told evFitsN okC2 sem24 run⟩

theorem tell78 : TellOk Try.prog EvN.q 78 (bodyT eqTree) := tellEq fun sp sp' n c m c' cs ds h1 h2 hc hd _ _ lc ld => by
  have run := r78 some sp sp' n c m c' cs ds
  cases hnm : ((n : Int) != (m : Int))
  · have hl : cs.length = ds.length := by simp at hnm; omega
    obtain ⟨s', g1, g2⟩ := iterEq3 ⟨sp, n, c⟩ ⟨sp', m, c'⟩ cs ds [] h1 h2 hl hc hd lc cs.length 0 big (by omega) (by unfold big; omega)
    simp only [List.drop_zero] at g1
    rw [show ((0 : Nat) : Int) = 0 from rfl] at g1
    rw [hnm, cond_false, g1] at run
    simp only [optK] at run
    obtain ⟨a, b⟩ := s'
    dsimp only at g2
    subst g2
    refine ⟨[⟨cs, 5, true⟩, ⟨ds, 5, true⟩], run_told evFitsN okC2 sem78 (run.trans ?_)⟩
    cases eqRows cs ds <;> rfl
  · rw [hnm, cond_true] at run
    rw [eq_run h1 h2 hnm]
    exact ⟨_, run_told evFitsN okC2 sem78 run⟩

/- bytes.Equal -/
def bstr (cs : List Value) (n : Nat) : ByteArray := ⟨((rowC [⟨cs, 5, true⟩] 0 0 n).map byteVal).toArray⟩
theorem r53 (κ : Value × Mem → Ret) (sp sp' : Option Nat) (n c m c' : Nat) (cs ds : List Value) : bn C2 noB 53 [sl 0 0 sp n c, sl 1 0 sp' m c'] [⟨cs, 5, true⟩, ⟨ds, 5, true⟩] 2 κ =
    cond (rowG [⟨cs, 5, true⟩, ⟨ds, 5, true⟩] 0 0 n && (rowC [⟨cs, 5, true⟩, ⟨ds, 5, true⟩] 0 0 n).all (isInt .u8))
      (cond (rowG [⟨cs, 5, true⟩, ⟨ds, 5, true⟩] 1 0 m && (rowC [⟨cs, 5, true⟩, ⟨ds, 5, true⟩] 1 0 m).all (isInt .u8))
        (κ (B ((⟨((rowC [⟨cs, 5, true⟩, ⟨ds, 5, true⟩] 0 0 n).map byteVal).toArray⟩ : ByteArray).toList == (⟨((rowC [⟨cs, 5, true⟩, ⟨ds, 5, true⟩] 1 0 m).map byteVal).toArray⟩ : ByteArray).toList), [⟨cs, 5, true⟩, ⟨ds, 5, true⟩])) none) none := by kernel_rfl
end Go.Proofs.Yteeclgeoconekaa


/-
  bytes.Equal, slices.Clone, Kind and Open of the package seal: run over any row; told in any memory.
-/
namespace Go.Proofs.Yteeclgeoconekaa
open Go.Ev

/- bytes.Equal -/
theorem bytes_eq : ∀ {a b : List Value}, u8s a = true → u8s b = true → u8r a = true → u8r b = true → (a.map byteVal == b.map byteVal) = eqRows a b
  | [], [], _, _, _, _ => rfl
  | x :: xs, [], _, _, _, _ => rfl
  | [], y :: ys, _, _, _, _ => rfl
  | x :: xs, y :: ys, h1, h2, h3, h4 => by
    simp only [u8s_cons, u8r_cons, Bool.and_eq_true, decide_eq_true_eq] at h1 h2 h3 h4
    obtain ⟨n, rfl⟩ : ∃ n, x = U8 n := ⟨_, Option.some.inj (okInt_eq (k := .u8) (c := some x) h1.1)⟩
    obtain ⟨m, rfl⟩ : ∃ m, y = U8 m := ⟨_, Option.some.inj (okInt_eq (k := .u8) (c := some y) h2.1)⟩
    have ih := bytes_eq h1.2 h2.2 h3.2 h4.2
    simp only [List.map_cons, eqRows, intOf] at *
    show (byteVal (U8 n) == byteVal (U8 m) && (xs.map byteVal == ys.map byteVal)) = _
    rw [ih]
    congr 1
    have e : (byteVal (U8 n) == byteVal (U8 m)) = (n == m) := by
      rw [Bool.eq_iff_iff]
      simp only [beq_iff_eq, byteVal]
      constructor
      · intro h
        have := congrArg UInt8.toNat h
        simp only [UInt8.toNat_ofNat'] at this
        omega
      · rintro rfl; rfl
    exact e

theorem row_self (cs : List Value) : rowC [⟨cs, 5, true⟩] 0 0 cs.length = cs := by simp [rowC, Mem.blk]
theorem tell53 : TellOk Try.prog EvN.q 53 (bodyT eqTree) := tellEq fun sp sp' n c m c' cs ds h1 h2 hc hd rc rd lc ld => by
  have run := r53 some sp sp' n c m c' cs ds
  subst h1 h2
  have e1 : rowC [⟨cs, 5, true⟩, ⟨ds, 5, true⟩] 0 0 cs.length = cs := by simp [rowC, Mem.blk]
  have e2 : rowC [⟨cs, 5, true⟩, ⟨ds, 5, true⟩] 1 0 ds.length = ds := by simp [rowC, Mem.blk]
  have g1 : rowG [⟨cs, 5, true⟩, ⟨ds, 5, true⟩] 0 0 cs.length = true := by simp [rowG, Mem.blk]
  have g2 : rowG [⟨cs, 5, true⟩, ⟨ds, 5, true⟩] 1 0 ds.length = true := by simp [rowG, Mem.blk]
  have a1 : cs.all (isInt .u8) = true := hc
  have a2 : ds.all (isInt .u8) = true := hd
  rw [e1, e2, g1, g2, a1, a2, Go.ByteArray.toList_mk, Go.ByteArray.toList_mk, bytes_eq hc hd rc rd] at run
  exact ⟨_, run_told evFitsN okC2 (no_loops (by kernel_rfl)) run⟩

abbrev C3 : CallC := moreC 53 (bodyT eqTree) (moreC 78 (bodyT eqTree) (moreC 24 (bodyT eqTree) C2))
theorem okC3 : OkC Try.prog EvN.q C3 := ok_moreC (ok_moreC (ok_moreC okC2 tell24) tell78) tell53

/- slices.Clone -/
theorem a48 (sp : Option Nat) (n c : Nat) (cs : List Value) : (appendB Try.prog [⟨cs, 5, true⟩, ⟨[], 5, true⟩] 1 [35, 35] (sl 1 0 none 0 0) (sl 0 0 sp n c)).val =
    cond (rowG [⟨cs, 5, true⟩, ⟨[], 5, true⟩] 0 0 (n * 1)) (cond ((rowC [⟨cs, 5, true⟩, ⟨[], 5, true⟩] 0 0 (n * 1)).all Value.oneCell' && (!(Nat.beq n 0) || (rowC [⟨cs, 5, true⟩, ⟨[], 5, true⟩] 0 0 (n * 1)).isEmpty))
      (cond (Nat.ble (0 + n) 0) (cond (putG [⟨cs, 5, true⟩, ⟨[], 5, true⟩] 1 1 (0 + 0 * 1) (rowC [⟨cs, 5, true⟩, ⟨[], 5, true⟩] 0 0 (n * 1)).length)
          (some (sl 1 0 none (0 + n) 0, setBlk [⟨cs, 5, true⟩, ⟨[], 5, true⟩] 1 (putC [⟨cs, 5, true⟩, ⟨[], 5, true⟩] 1 (0 + 0 * 1) (rowC [⟨cs, 5, true⟩, ⟨[], 5, true⟩] 0 0 (n * 1)))))
          (cond (Nat.beq n 0) (some (sl 1 0 none 0 0, [⟨cs, 5, true⟩, ⟨[], 5, true⟩])) none))
        (cond (Nat.ble ((0 + n) * 1) 140737488355328 && Nat.ble (0 + n) 4611686018427387904 && rowG [⟨cs, 5, true⟩, ⟨[], 5, true⟩] 1 0 (0 * 1))
          (some (sl 2 0 (some 1) (0 + n) (0 + n), [⟨cs, 5, true⟩, ⟨[], 5, true⟩, ⟨rowC [⟨cs, 5, true⟩, ⟨[], 5, true⟩] 1 0 (0 * 1) ++ rowC [⟨cs, 5, true⟩, ⟨[], 5, true⟩] 0 0 (n * 1), 5, true⟩])) none)) none) none := by kernel_rfl
theorem r48a (κ : Value × Mem → Ret) (sp : Option Nat) (n c : Nat) (cs : List Value) : bn C3 noB 48 [sl 0 0 sp n c] [⟨cs, 5, true⟩] 1 κ =
    apK (appendB Try.prog [⟨cs, 5, true⟩, ⟨[], 5, true⟩] 1 [35, 35] (sl 1 0 none 0 0) (sl 0 0 sp n c)) κ := by kernel_rfl
theorem r48 (sp : Option Nat) (n c : Nat) (cs : List Value) : bn C3 noB 48 [sl 0 0 sp n c] [⟨cs, 5, true⟩] 1 some =
    cond (rowG [⟨cs, 5, true⟩, ⟨[], 5, true⟩] 0 0 (n * 1)) (cond ((rowC [⟨cs, 5, true⟩, ⟨[], 5, true⟩] 0 0 (n * 1)).all Value.oneCell' && (!(Nat.beq n 0) || (rowC [⟨cs, 5, true⟩, ⟨[], 5, true⟩] 0 0 (n * 1)).isEmpty))
      (cond (Nat.ble (0 + n) 0) (cond (putG [⟨cs, 5, true⟩, ⟨[], 5, true⟩] 1 1 (0 + 0 * 1) (rowC [⟨cs, 5, true⟩, ⟨[], 5, true⟩] 0 0 (n * 1)).length)
          (some (sl 1 0 none (0 + n) 0, setBlk [⟨cs, 5, true⟩, ⟨[], 5, true⟩] 1 (putC [⟨cs, 5, true⟩, ⟨[], 5, true⟩] 1 (0 + 0 * 1) (rowC [⟨cs, 5, true⟩, ⟨[], 5, true⟩] 0 0 (n * 1)))))
          (cond (Nat.beq n 0) (some (sl 1 0 none 0 0, [⟨cs, 5, true⟩, ⟨[], 5, true⟩])) none))
        (cond (Nat.ble ((0 + n) * 1) 140737488355328 && Nat.ble (0 + n) 4611686018427387904 && rowG [⟨cs, 5, true⟩, ⟨[], 5, true⟩] 1 0 (0 * 1))
          (some (sl 2 0 (some 1) (0 + n) (0 + n), [⟨cs, 5, true⟩, ⟨[], 5, true⟩, ⟨rowC [⟨cs, 5, true⟩, ⟨[], 5, true⟩] 1 0 (0 * 1) ++ rowC [⟨cs, 5, true⟩, ⟨[], 5, true⟩] 0 0 (n * 1), 5, true⟩])) none)) none) none := (r48a some sp n c cs).trans ((apK_some _).trans (a48 sp n c cs))


theorem bOk_le {M : Mem} {x : Value} (h : bOk M x = true) : (bRow M x).length ≤ 4611686018427387904 := by
  obtain ⟨a, n, c, k, rfl, _, _, _, _, e, _, h7, _⟩ := bOk_inv h
  rw [e]; simp; omega
theorem view1r {M : Mem} {x : Value} (hx : bOk M x = true) : ∃ a n c, x = .slice (some a) n c ∧ n = (bRow M x).length ∧ view Try.prog M [x] 0 = some ([sl 0 0 a.spot n c], [⟨bRow M x, 5, true⟩]) := by
  obtain ⟨a, n, c, rfl, e1, e2⟩ := view_row hx 0
  refine ⟨a, n, c, rfl, e1, ?_⟩
  simp only [view, e2, Option.bind_some, List.length_cons, List.length_nil, Nat.zero_add, List.nil_append, List.append_nil]

theorem trim1_rowg {M M1 : Mem} {b n c : Nat} {cells : List Value} (hb : M.length ≤ b) (h1 : M1[b]? = some ⟨cells, 5, true⟩) (hn : cells.length = n) (hf : cells.all flat1 = true) :
    trim1 Try.prog M M1 (.slice (some ⟨b, 0, some 1⟩) n c) = some (.slice (some ⟨M.length, 0, some 1⟩) n n, ⟨cells, 5, true⟩) := by
  have hc : Try.prog.cellsOf 5 = 1 := by kernel_rfl
  have e : (cells.drop 0).take n = cells := by simp [← hn]
  have hb' : Nat.ble M.length b = true := by simpa using hb
  have hn' : Nat.ble (0 + n) cells.length = true := by simp [hn]
  simp only [trim1, h1, hb', hc, trimOk, trimLen, hn', e, hf, Nat.beq_refl, Bool.and_self, cond_true]
theorem hand_rowg {M0 M1 M : Mem} {b n c : Nat} {cells : List Value} (hb : M0.length ≤ b) (h1 : M1[b]? = some ⟨cells, 5, true⟩) (hn : cells.length = n) (hf : cells.all flat1 = true) :
    handOn Try.prog M0 M1 (.slice (some ⟨b, 0, some 1⟩) n c) M = some (.slice (some ⟨M.length, 0, some 1⟩) n n, M ++ [⟨cells, 5, true⟩]) := by
  have := trim1_rowg (c := c) hb h1 hn hf
  simp [handOn, this, flatR, flat, flat1]
theorem hand_rowg2 {M0 M1 M : Mem} {b n c : Nat} {cells : List Value} {e : Int} (hb : M0.length ≤ b) (h1 : M1[b]? = some ⟨cells, 5, true⟩) (hn : cells.length = n) (hf : cells.all flat1 = true) :
    handOn Try.prog M0 M1 (.tuple #[.slice (some ⟨b, 0, some 1⟩) n c, I e]) M = some (.tuple #[.slice (some ⟨M.length, 0, some 1⟩) n n, I e], M ++ [⟨cells, 5, true⟩]) := by
  have := trim1_rowg (c := c) hb h1 hn hf
  simp [handOn, this, flatR, flat, flat1]
theorem trim_rowg {M : Mem} {n : Nat} {cells : List Value} (hn : cells.length = n) (hf : cells.all flat1 = true) :
    trim Try.prog M (M ++ [⟨cells, 5, true⟩]) (.slice (some ⟨M.length, 0, some 1⟩) n n) = (.slice (some ⟨M.length, 0, some 1⟩) n n, M ++ [⟨cells, 5, true⟩]) := by
  have := trim1_rowg (c := n) (M := M) (M1 := M ++ [⟨cells, 5, true⟩]) (Nat.le_refl _) (by simp) hn hf
  simp [trim, this, flatR, flat, flat1]
theorem trim_rowg2 {M : Mem} {n : Nat} {cells : List Value} {e : Int} (hn : cells.length = n) (hf : cells.all flat1 = true) :
    trim Try.prog M (M ++ [⟨cells, 5, true⟩]) (.tuple #[.slice (some ⟨M.length, 0, some 1⟩) n n, I e]) = (.tuple #[.slice (some ⟨M.length, 0, some 1⟩) n n, I e], M ++ [⟨cells, 5, true⟩]) := by
  have := trim1_rowg (c := n) (M := M) (M1 := M ++ [⟨cells, 5, true⟩]) (Nat.le_refl _) (by simp) hn hf
  simp [trim, this, flatR, flat, flat1]

def cloneTree : Tree := fun args M _ => match args with
  | [x] => .lf (bOk M x && (!(Nat.beq (lenOf x) 0) && Nat.ble (lenOf x) 140737488355328)) (.slice (some ⟨M.length, 0, some 1⟩) (lenOf x) (lenOf x), M ++ [⟨bRow M x, 5, true⟩])
  | _ => .lf false (undef, M)
theorem cloneTree_inv {args : List Value} {M : Mem} {wall : Nat} {R : Value × Mem} (h : (cloneTree args M wall).val = some R) : ∃ x, args = [x] ∧ bOk M x = true ∧ lenOf x ≠ 0 ∧ lenOf x ≤ 140737488355328 ∧
    R = (.slice (some ⟨M.length, 0, some 1⟩) (lenOf x) (lenOf x), M ++ [⟨bRow M x, 5, true⟩]) := by
  unfold cloneTree at h
  split at h
  · rename_i x
    obtain ⟨h1, rfl⟩ := lf_val h
    simp only [Bool.and_eq_true, Bool.not_eq_true', Nat.ble_eq] at h1
    refine ⟨x, rfl, h1.1, fun e => ?_, h1.2.2, rfl⟩
    rw [e] at h1
    cases h1.2.1
  · cases h
theorem tell48 : TellOk Try.prog EvN.q 48 (bodyT cloneTree) := by
  refine tellT (fun _ args M v M' h => ?_) (fun args M wall R h => ?_)
  · obtain ⟨x, rfl, hx, _, _, e⟩ := cloneTree_inv h
    cases e
    exact trim_rowg (bOk_len hx).symm (u8s_flat (bOk_u8 hx))
  · obtain ⟨x, rfl, hx, h0, h1, rfl⟩ := cloneTree_inv h
    obtain ⟨a, n, c, hxe, hn, hv⟩ := view1r hx
    have hlen := bOk_len hx
    have hu := bOk_u8 hx
    rw [hlen] at h0 h1 ⊢
    generalize bRow M x = cs at *
    have run := r48 a.spot n c cs
    subst hn
    have g0 : rowG [⟨cs, 5, true⟩, ⟨[], 5, true⟩] 0 0 (cs.length * 1) = true := by simp [rowG, Mem.blk]
    have g1 : rowC [⟨cs, 5, true⟩, ⟨[], 5, true⟩] 0 0 (cs.length * 1) = cs := by simp [rowC, Mem.blk]
    have g2 : (!(Nat.beq cs.length 0)) = true := by
      cases e : Nat.beq cs.length 0
      · rfl
      · exact absurd (Nat.eq_of_beq_eq_true e) h0
    have g3 : Nat.ble (0 + cs.length) 0 = false := by
      cases e : Nat.ble (0 + cs.length) 0
      · rfl
      · have := Nat.le_of_ble_eq_true e; omega
    have g4 : (Nat.ble ((0 + cs.length) * 1) 140737488355328 && Nat.ble (0 + cs.length) 4611686018427387904 && rowG [⟨cs, 5, true⟩, ⟨[], 5, true⟩] 1 0 (0 * 1)) = true := by
      have a1 : Nat.ble ((0 + cs.length) * 1) 140737488355328 = true := Nat.ble_eq_true_of_le (by omega)
      have a2 : Nat.ble (0 + cs.length) 4611686018427387904 = true := Nat.ble_eq_true_of_le (by omega)
      rw [a1, a2]; rfl
    rw [g0, g1, u8s_one hu, g2, g3, g4] at run
    refine loc_told hv (run_told evFitsN okC3 (no_loops (by kernel_rfl)) (wall := 1) run) ?_ wall
    have e2 : 0 + cs.length = cs.length := by omega
    rw [e2]
    exact hand_rowg (b := 2) (by simp) rfl rfl (u8s_flat hu)
abbrev C4 : CallC := moreC 48 (bodyT cloneTree) C3
theorem okC4 : OkC Try.prog EvN.q C4 := ok_moreC okC3 tell48

/- Kind -/
abbrev k0 (cs : List Value) : Int := intIn (gI cs 0)
abbrev kM2 (cs : List Value) (y : Value) : Mem := [⟨cs, 5, true⟩, ⟨sealRow (k0 cs) (bRow [⟨cs, 5, true⟩] y), 5, true⟩]
abbrev kTail (κ : Value × Mem → Ret) (cs : List Value) (n : Nat) (x y : Value) : Ret :=
  cond (okInt .u8 (gI cs 0) && true) (cond (k0 cs == 0 || decide (123 < 123)) (cond (bOk [⟨cs, 5, true⟩] y) none none)
    (cond (bOk [⟨cs, 5, true⟩] y && (decide (0 ≤ k0 cs) && decide (k0 cs < 256)))
      (cond (bOk (kM2 cs y) (sl 1 0 none 128 128) && bOk (kM2 cs y) x)
        (cond (!eqRows (bRow (kM2 cs y) (sl 1 0 none 128 128)) (bRow (kM2 cs y) x)) (κ (U8 0, kM2 cs y))
          (cond (decide ((0 : Int) < (n : Int))) (cond (okInt .u8 (gI cs 0) && true) (κ (U8 (k0 cs), kM2 cs y)) none) none)) none) none)) none
theorem r69 (κ : Value × Mem → Ret) (n c : Nat) (cs : List Value) : bn C4 noB 69 [sl 0 0 none n c] [⟨cs, 5, true⟩] 1 κ =
    cond ((n : Int) != 128) (κ (U8 0, [⟨cs, 5, true⟩]))
      (cond (decide ((0 : Int) < (n : Int))) (cond (okInt .u8 (gI cs 0) && true) (cond (k0 cs == 0) (κ (U8 0, [⟨cs, 5, true⟩]))
        (cond (decide ((0 : Int) < (n : Int))) (cond (decide (124 ≤ (c : Int)) && true) (kTail κ cs n (sl 0 0 none n c) (sl 0 (if c = 1 then 0 else 0 + 1 * 1) none 123 (c - 1))) none) none)) none) none) := by kernel_rfl
theorem r69g (κ : Value × Mem → Ret) (z n c : Nat) (cs : List Value) : bn C4 noB 69 [sl 0 0 (some z) n c] [⟨cs, 5, true⟩] 1 κ =
    cond ((n : Int) != 128) (κ (U8 0, [⟨cs, 5, true⟩]))
      (cond (decide ((0 : Int) < (n : Int))) (cond (okInt .u8 (gI cs 0) && true) (cond (k0 cs == 0) (κ (U8 0, [⟨cs, 5, true⟩]))
        (cond (decide ((0 : Int) < (n : Int))) (cond (decide (124 ≤ (c : Int)) && true) (cond (Nat.beq z 1 && (Nat.beq 1 0 || Nat.blt 1 c)) (kTail κ cs n (sl 0 0 (some z) n c) (sl 0 (0 + 1 * 1) (some z) 123 (c - 1))) none) none) none)) none) none) := by kernel_rfl
end Go.Proofs.Yteeclgeoconekaa
