/-
  Rows of bytes told: the sums of any row, in any memory.
-/
import Derived.Test.YteeclgeoconekaaS5
import Derived.Test.YteeclgeoconekaaEvB
namespace Go.Proofs.Yteeclgeoconekaa
open Go.Ev

/-- Bytes, from 0 to 255. -/
def u8r (l : List Value) : Bool := l.all fun v => decide (0 ≤ intOf v) && decide (intOf v < 256)
/-- A row of bytes that a slice tells; and whether it tells one. -/
def bRow (M : Mem) (x : Value) : List Value := rowC M (addrOf x).block (addrOf x).off (lenOf x)
def bOk (M : Mem) (x : Value) : Bool := isSl x && (rowG M (addrOf x).block (addrOf x).off (lenOf x) && (Nat.beq (M.blk (addrOf x).block).elem 5 && ((u8s (bRow M x) && u8r (bRow M x)) && Nat.ble (lenOf x) 4611686018427387904)))

theorem u8_flat {v : Value} (h : isInt .u8 v = true) : flat1 v = true := by
  unfold isInt at h
  cases v <;> first | cases h | rfl
theorem u8s_flat {l : List Value} (h : u8s l = true) : l.all flat1 = true := by
  rw [List.all_eq_true]
  intro v hv
  exact u8_flat (List.all_eq_true.1 h v hv)

theorem bOk_inv {M : Mem} {x : Value} (h : bOk M x = true) : ∃ a n c k, x = .slice (some a) n c ∧ M[a.block]? = some k ∧ k.live = true ∧ k.elem = 5 ∧ a.off + n ≤ k.cells.length ∧ bRow M x = (k.cells.drop a.off).take n ∧ u8s (bRow M x) = true ∧ n ≤ 4611686018427387904 ∧ u8r (bRow M x) = true := by
  simp only [bOk, Bool.and_eq_true] at h
  obtain ⟨h1, h2, h3, ⟨h4, h6⟩, h5⟩ := h
  obtain ⟨a, n, c, rfl⟩ := isSl_ex h1
  have ea : addrOf (.slice (some a) n c) = a := rfl
  simp only [ea, lenOf, rowG, Bool.and_eq_true, Nat.ble_eq, Nat.beq_eq] at h2 h3 h5
  have hl := h2.1
  exact ⟨a, n, c, _, rfl, blk_live hl, hl, h3, h2.2, rfl, h4, h5, h6⟩

/-- A row of bytes, pulled. -/
theorem pull_row {M : Mem} {a : Addr} {n c : Nat} {k : Blk} (h1 : M[a.block]? = some k) (h2 : k.live = true) (h3 : k.elem = 5) (h4 : a.off + n ≤ k.cells.length) {row : List Value} (h5 : row = (k.cells.drop a.off).take n) (h6 : row.all flat1 = true) :
    Pulled [(a.block, a.off)] M [⟨row, 5, true⟩] ∧ PV [(a.block, a.off)] (.slice (some ⟨0, 0, a.spot⟩) n c) (.slice (some a) n c) := by
  refine ⟨⟨rfl, fun b k0 hb => ?_⟩, ?_⟩
  · cases b with
    | succ b => simp at hb
    | zero =>
      simp only [List.getElem?_cons_zero, Option.some.injEq] at hb
      subst hb
      refine ⟨a.block, a.off, k, rfl, h1, h2, h3.symm, ?_, fun j v hj => ?_⟩
      · subst h5; simp; omega
      · refine ⟨v, ?_, PV.flat ?_⟩
        · subst h5
          rw [List.getElem?_take] at hj
          split at hj
          · rw [List.getElem?_drop] at hj; exact hj
          · cases hj
        · have := List.all_eq_true.1 h6 v (List.mem_of_getElem? hj)
          cases v <;> first | exact this | cases this
  · obtain ⟨b, o, sp⟩ := a
    cases sp with
    | none => exact PV.sl (o := 0) (s := o) rfl
    | some z => exact PV.slg (o := 0) (s := o) rfl

theorem hand_flat {M0 M1 : Mem} {v : Value} {M : Mem} (h : flat v = true) : Hand M0 M1 v M v [] :=
  ⟨[], rfl, List.nodup_nil, fun t ht => by simp at ht, HVal.flat h, fun j k' hk => by simp at hk⟩

/-- A quiet function of one row that tells what is flat. -/
theorem good_row1 {f : FuncId} {t : Tree} {s : List Value → Value} (hs : ∀ l, flat (s l) = true)
    (ht : ∀ args M wall R, (t args M wall).val = some R → ∃ x, args = [x] ∧ bOk M x = true ∧ R = (s (bRow M x), M))
    {T : CallFn} (hT : CallGood Try.prog T) (h : ∀ (sp : Option Nat) (n c : Nat) (cs : List Value), n = cs.length → u8s cs = true → n ≤ 4611686018427387904 → ∃ M1, T f [sl 0 0 sp n c] [⟨cs, 5, true⟩] 1 = some (s cs, M1)) :
    ∀ args M wall R, (t args M wall).val = some R → ∃ T, CallGood Try.prog T ∧ T f args M wall = some R := by
  intro args M wall R hR
  obtain ⟨x, rfl, hx, rfl⟩ := ht _ _ _ _ hR
  refine ⟨fun f' args' M' w' => if f' = f then (t args' M' w').val else none, good_pull fun f' args' M' w' R' e => ?_, by simp [hR]⟩
  split at e
  · rename_i hf
    subst hf
    obtain ⟨x, rfl, hx, rfl⟩ := ht _ _ _ _ e
    obtain ⟨a, n, c, k, rfl, h1, h2, h3, h4, h5, h6, h7, _⟩ := bOk_inv hx
    generalize hrow : bRow M' (.slice (some a) n c) = row at *
    have hn : n = row.length := by rw [h5]; simp; omega
    obtain ⟨M1, hrun⟩ := h a.spot n c row hn h6 h7
    obtain ⟨g1, g2⟩ := pull_row (c := c) h1 h2 h3 h4 h5 (u8s_flat h6)
    refine ⟨T, _, [sl 0 0 a.spot n c], _, M1, [], _, hT, g1, rfl, ?_, hrun, hand_flat (hs _), by simp⟩
    intro i a0 a1 e0 e1
    cases i with
    | succ i => simp at e0
    | zero => simp at e0 e1; subst e0 e1; exact g2
  · cases e

/- sums -/
def sumTree : Tree := fun args M _ => match args with
  | [x] => .lf (bOk M x) (U32 (sumF (bRow M x)), M)
  | _ => .lf false (undef, M)
theorem sumTree_inv (args : List Value) (M : Mem) (wall : Nat) (R : Value × Mem) (h : (sumTree args M wall).val = some R) : ∃ x, args = [x] ∧ bOk M x = true ∧ R = (U32 (sumF (bRow M x)), M) := by
  unfold sumTree at h
  split at h
  · obtain ⟨h1, rfl⟩ := lf_val h
    exact ⟨_, rfl, h1, rfl⟩
  · cases h
theorem sumG_of {cs : List Value} {n : Nat} (h1 : n = cs.length) (h2 : u8s cs = true) (h3 : n ≤ 4611686018427387904) : sumG cs n n 0 = true ∧ cs.take n = cs := by
  subst h1
  simp [sumG, h2, h3]
theorem tell70 : TellOk Try.prog EvA.q 70 (bodyT sumTree) := by
  refine tellT (fun _ args M v M' h => ?_) (good_row1 (f := 70) (s := fun l => U32 (sumF l)) (fun _ => rfl) sumTree_inv goodU0 fun sp n c cs h1 h2 h3 => ?_)
  · obtain ⟨x, rfl, _, e⟩ := sumTree_inv _ _ _ _ h
    cases e
    rfl
  · obtain ⟨g1, g2⟩ := sumG_of h1 h2 h3
    have e : sumT [sl 0 0 sp n c] [⟨cs, 5, true⟩] 1 = some (U32 (sumF cs), [⟨cs, 5, true⟩]) := by simp only [sumT, g1, cond_true, g2]
    exact ⟨_, (show U0 70 [sl 0 0 sp n c] [⟨cs, 5, true⟩] 1 = sumT [sl 0 0 sp n c] [⟨cs, 5, true⟩] 1 from rfl).trans e⟩
theorem tell75 : TellOk Try.prog EvA.q 75 (bodyT sumTree) := by
  refine tellT (fun _ args M v M' h => ?_) (good_row1 (f := 75) (s := fun l => U32 (sumF l)) (fun _ => rfl) sumTree_inv goodU0 fun sp n c cs h1 h2 h3 => ?_)
  · obtain ⟨x, rfl, _, e⟩ := sumTree_inv _ _ _ _ h
    cases e
    rfl
  · obtain ⟨g1, g2⟩ := sumG_of h1 h2 h3
    have e : sumT [sl 0 0 sp n c] [⟨cs, 5, true⟩] 1 = some (U32 (sumF cs), [⟨cs, 5, true⟩]) := by simp only [sumT, g1, cond_true, g2]
    exact ⟨_, (show U0 75 [sl 0 0 sp n c] [⟨cs, 5, true⟩] 1 = sumT [sl 0 0 sp n c] [⟨cs, 5, true⟩] 1 from rfl).trans e⟩
abbrev C1 : CallC := moreC 70 (bodyT sumTree) (moreC 75 (bodyT sumTree) noneC)
theorem okC1 : OkC Try.prog EvA.q C1 := ok_moreC (ok_moreC ok_noneC tell75) tell70
abbrev U8 (n : Int) : Value := .int .u8 n
noncomputable abbrev bb (CK : CallC) (L : LoopB) (f : FuncId) (args : List Value) (M : Mem) (wall : Nat) (κ : Value × Mem → Ret) : Ret := bodyB Try.prog EvA CK L f args M wall κ
theorem no_loops {wall : Nat} {L : LoopB} {c : Code} (h : loopsOf c = []) : LoopsSem Try.prog wall L c := by
  intro x hx
  rw [h] at hx
  cases hx
end Go.Proofs.Yteeclgeoconekaa
