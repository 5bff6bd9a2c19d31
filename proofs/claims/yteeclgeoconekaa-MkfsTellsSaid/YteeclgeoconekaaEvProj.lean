/-
  Projections: what a value or a block of memory is, asked without looking at its form ahead; operations told with their checks standing out.
-/
import Derived.Test.YteeclgeoconekaaEvPat
namespace Go.Ev

def deadBlk : Blk := ⟨[], 0, false⟩
/-- A block, or a dead one. -/
def Mem.blk (M : Mem) (b : Nat) : Blk := M[b]?.getD deadBlk

def addr? : Value → Option Addr
  | .pointer a => a
  | .slice a _ _ => a
  | _ => none
def isPtr : Value → Bool
  | .pointer (some _) => true
  | _ => false
def isPtrV : Value → Bool
  | .pointer _ => true
  | _ => false
def isNilP : Value → Bool
  | .pointer none => true
  | _ => false
def isSl : Value → Bool
  | .slice (some _) _ _ => true
  | _ => false
def isSlV : Value → Bool
  | .slice _ _ _ => true
  | _ => false
def isNilS : Value → Bool
  | .slice none _ _ => true
  | _ => false
def addrOf (v : Value) : Addr := (addr? v).getD ⟨0, 0, none⟩
def lenOf : Value → Nat
  | .slice _ n _ => n
  | _ => 0
def capOf : Value → Nat
  | .slice _ _ c => c
  | _ => 0
def boolOf : Value → Bool
  | .bool b => b
  | _ => false
def isBool : Value → Bool
  | .bool _ => true
  | _ => false
def strOf : Value → ByteArray
  | .string s => s
  | _ => .empty
def isStr : Value → Bool
  | .string _ => true
  | _ => false
/-- One cell, and no aggregate. -/
def one1 : Value → Bool
  | .agg _ => false
  | .tuple _ => false
  | v => v.oneCell'

theorem isPtr_eq {v : Value} (h : isPtr v = true) : v = .pointer (some (addrOf v)) := by
  unfold isPtr at h; split at h
  · rfl
  · cases h
theorem isPtr_ex {v : Value} (h : isPtr v = true) : ∃ a, v = .pointer (some a) := ⟨_, isPtr_eq h⟩
theorem isSl_ex {v : Value} (h : isSl v = true) : ∃ a n c, v = .slice (some a) n c := by
  unfold isSl at h; split at h
  · exact ⟨_, _, _, rfl⟩
  · cases h
theorem isNilS_ex {v : Value} (h : isNilS v = true) : ∃ n c, v = .slice none n c := by
  unfold isNilS at h; split at h
  · exact ⟨_, _, rfl⟩
  · cases h
theorem isSlV_ex {v : Value} (h : isSlV v = true) : ∃ a n c, v = .slice a n c := by
  unfold isSlV at h; split at h
  · exact ⟨_, _, _, rfl⟩
  · cases h
theorem isSl_eq {v : Value} (h : isSl v = true) : v = .slice (some (addrOf v)) (lenOf v) (capOf v) := by
  unfold isSl at h; split at h
  · rfl
  · cases h
theorem isNilS_eq {v : Value} (h : isNilS v = true) : v = .slice none (lenOf v) (capOf v) := by
  unfold isNilS at h; split at h
  · rfl
  · cases h
theorem isSlV_eq {v : Value} (h : isSlV v = true) : v = .slice (addr? v) (lenOf v) (capOf v) := by
  unfold isSlV at h; split at h
  · rfl
  · cases h
theorem one1_cells {v : Value} (h : one1 v = true) : v.cells = #[v] := by
  cases v <;> first | rfl | cases h
theorem one1_one {v : Value} (h : one1 v = true) : v.oneCell' = true := by
  cases v <;> first | exact h | cases h

theorem blk_live {M : Mem} {b : Nat} (h : (M.blk b).live = true) : M[b]? = some (M.blk b) := by
  unfold Mem.blk at *
  cases e : M[b]? with
  | none => rw [e] at h; cases h
  | some k => rfl
theorem blk_cell {M : Mem} {b o : Nat} (h : (M.blk b).live = true) : M.cell b o = (M.blk b).cells[o]? := by
  unfold Mem.cell
  rw [blk_live h]
  simp [h]


/-- One cell, of the kind that a zero cell has: the check, the value. -/
def projG (z : Value) (c : Option Value) : Bool × Value :=
  match z with
  | .int k _ => (okInt k c, .int k (intIn c))
  | .bool _ => (isBool (c.getD undef), .bool (boolOf (c.getD undef)))
  | .string _ => (isStr (c.getD undef), .string (strOf (c.getD undef)))
  | _ => (c.isSome, c.getD undef)

theorem okInt_eq {k : IntKind} {c : Option Value} (h : okInt k c = true) : c = some (.int k (intIn c)) := by
  unfold okInt at h
  split at h
  · rename_i v
    unfold isInt at h
    cases v <;> first | cases h | skip
    rename_i k' n
    cases k <;> cases k' <;> first | rfl | cases h
  · cases h

theorem projG_ok {z : Value} {c : Option Value} (h : (projG z c).1 = true) : c = some (projG z c).2 := by
  unfold projG at *
  split at h
  · exact okInt_eq h
  · cases c with
    | none => cases h
    | some v => cases v with
      | bool b => rfl
      | _ => cases h
  · cases c with
    | none => cases h
    | some v => cases v with
      | string b => rfl
      | _ => cases h
  · cases c with
    | none => cases h
    | some v => rfl

/-- Cells, one behind the other. -/
def projsG (f : Nat → Option Value) : List Value → Nat → Bool × List Value
  | [], _ => (true, [])
  | z :: zs, j => ((projG z (f j)).1 && (projsG f zs (j + 1)).1, (projG z (f j)).2 :: (projsG f zs (j + 1)).2)

theorem projsG_ok {f : Nat → Option Value} : ∀ {zs : List Value} {j : Nat}, (projsG f zs j).1 = true →
    (projsG f zs j).2.length = zs.length ∧ (∀ i v, (projsG f zs j).2[i]? = some v → f (j + i) = some v) := by
  intro zs
  induction zs with
  | nil => intro j h; exact ⟨rfl, fun i v h => by simp [projsG] at h⟩
  | cons z zs ih =>
    intro j h
    simp only [projsG, Bool.and_eq_true] at h
    obtain ⟨g1, g2⟩ := ih h.2
    refine ⟨by simp [projsG, g1], fun i u hu => ?_⟩
    simp only [projsG] at hu
    cases i with
    | zero => simp at hu; subst hu; exact projG_ok h.1
    | succ i => rw [show j + (i + 1) = j + 1 + i from by omega]; exact g2 i u (by simpa using hu)

variable {P : Program}

/-- What is loaded. -/
def loadG (P : Program) (M : Mem) (t : TypeId) (x : Value) : Bool × Value :=
  match tyAgg P t, P.info? t with
  | some true, some i => match i.zero with
    | some z => (isPtr x && ((M.blk (addrOf x).block).live && Nat.beq z.cells.toList.length i.size && Nat.ble ((addrOf x).off + i.size) (M.blk (addrOf x).block).cells.length) &&
          (projsG (fun j => (M.blk (addrOf x).block).cells[(addrOf x).off + j]?) z.cells.toList 0).1,
        .agg (projsG (fun j => (M.blk (addrOf x).block).cells[(addrOf x).off + j]?) z.cells.toList 0).2.toArray)
    | none => (false, undef)
  | some false, some i => match i.zero with
    | some z => (isPtr x && (M.blk (addrOf x).block).live && (projG z ((M.blk (addrOf x).block).cells[(addrOf x).off]?)).1, (projG z ((M.blk (addrOf x).block).cells[(addrOf x).off]?)).2)
    | none => (false, undef)
  | _, _ => (false, undef)

theorem loadG_ok {M : Mem} {t : TypeId} {x : Value} (h : (loadG P M t x).1 = true) : evLoad P M t x = some (loadG P M t x).2 := by
  unfold loadG at *
  split at h
  · rename_i i h1 h2
    split at h
    · rename_i z _
      simp only [Bool.and_eq_true, Nat.beq_eq, Nat.ble_eq] at h
      obtain ⟨⟨g1, ⟨g2, g3⟩, g4⟩, g5⟩ := h
      obtain ⟨e1, e2⟩ := projsG_ok g5
      obtain ⟨a, rfl⟩ := isPtr_ex g1
      have e : addrOf (.pointer (some a)) = a := rfl
      simp only [e] at g2 g4 e1 e2 ⊢
      simp only [evLoad, h1, h2]
      generalize (projsG (fun j => (M.blk a.block).cells[a.off + j]?) z.cells.toList 0).2 = vs at *
      have hrow : M.row a.block a.off i.size = some vs := by
        unfold Mem.row
        rw [blk_live g2]
        simp only [g2, Bool.true_and, Nat.ble_eq_true_of_le g4, cond_true]
        congr 1
        apply List.ext_getElem?
        intro j
        rw [List.getElem?_take, List.getElem?_drop]
        cases hj : vs[j]? with
        | none =>
          have : vs.length ≤ j := by simpa using hj
          rw [if_neg (by omega)]
        | some v =>
          have hlt := lt_of_getElem? hj
          rw [if_pos (by omega)]
          have := e2 j v hj
          simpa using this
      rw [hrow]
      rfl
    · cases h
  · rename_i i h1 h2
    split at h
    · rename_i z _
      simp only [Bool.and_eq_true] at h
      obtain ⟨⟨g1, g2⟩, g3⟩ := h
      have e2 := projG_ok g3
      obtain ⟨a, rfl⟩ := isPtr_ex g1
      have e : addrOf (.pointer (some a)) = a := rfl
      simp only [e] at g2 e2 ⊢
      simp only [evLoad, h1, h2]
      rw [blk_cell g2]
      exact e2
    · cases h
  · cases h

def setBlk (M : Mem) (b : Nat) (cells : List Value) : Mem := M.set b ⟨cells, (M.blk b).elem, (M.blk b).live⟩

/-- Cells laid over a block's, from a place on: the check. -/
def putG (M : Mem) (wall b o n : Nat) : Bool := Nat.ble wall b && ((M.blk b).live && Nat.ble (o + n) (M.blk b).cells.length)
def putC (M : Mem) (b o : Nat) (vs : List Value) : List Value := (M.blk b).cells.take o ++ (vs ++ (M.blk b).cells.drop (o + vs.length))

theorem put_ok {M : Mem} {wall b o : Nat} {vs : List Value} (h : putG M wall b o vs.length = true) (hv : vs.all Value.oneCell' = true) : wall ≤ b ∧ M.put b o vs = some (setBlk M b (putC M b o vs)) := by
  simp only [putG, Bool.and_eq_true] at h
  obtain ⟨g2, g4, g5⟩ := h
  refine ⟨by simpa using g2, ?_⟩
  simp only [Mem.put, blk_live g4, g4, g5, hv, Bool.and_self, cond_true, setBlk, putC]

/-- What is stored. -/
def storeG (P : Program) (M : Mem) (wall : Nat) (t : TypeId) (x v : Value) : Bool × Mem :=
  match tyAgg P t, P.info? t with
  | some true, some i => match v with
    | .agg cs => (isPtr x && (Nat.beq cs.size i.size && putG M wall (addrOf x).block (addrOf x).off cs.toList.length && cs.toList.all Value.oneCell'), setBlk M (addrOf x).block (putC M (addrOf x).block (addrOf x).off cs.toList))
    | _ => (false, M)
  | some false, some i => (isPtr x && (Nat.beq 1 i.size && one1 v && putG M wall (addrOf x).block (addrOf x).off 1), setBlk M (addrOf x).block ((M.blk (addrOf x).block).cells.set (addrOf x).off v))
  | _, _ => (false, M)

theorem storeG_ok {M : Mem} {wall : Nat} {t : TypeId} {x v : Value} (h : (storeG P M wall t x v).1 = true) : evStore P M wall t x v = some (storeG P M wall t x v).2 := by
  unfold storeG at *
  split at h
  · rename_i i h1 h2
    split at h
    · rename_i cs
      simp only [Bool.and_eq_true] at h
      obtain ⟨g1, ⟨g2, g3⟩, g4⟩ := h
      obtain ⟨a, rfl⟩ := isPtr_ex g1
      have e : addrOf (.pointer (some a)) = a := rfl
      simp only [e] at g3 ⊢
      obtain ⟨w, hp⟩ := put_ok g3 g4
      have hw : Nat.ble wall a.block = true := by simpa using w
      simp only [evStore, h2, hw, Value.cells, g2, Bool.and_self, cond_true, hp]
    · cases h
  · rename_i i h1 h2
    simp only [Bool.and_eq_true] at h
    obtain ⟨g1, ⟨g3, g4⟩, g5⟩ := h
    obtain ⟨a, rfl⟩ := isPtr_ex g1
    have e : addrOf (.pointer (some a)) = a := rfl
    simp only [e] at g5 ⊢
    simp only [putG, Bool.and_eq_true] at g5
    obtain ⟨hw, k1, k2⟩ := g5
    have hc := one1_cells g4
    have ho := one1_one g4
    simp only [evStore, h2, hw, hc, List.size_toArray, List.length_singleton, g3, Bool.and_self, cond_true]
    have key : M.put1 a.block a.off v = some (setBlk M a.block ((M.blk a.block).cells.set a.off v)) := by
      simp only [Mem.put1, blk_live k1, k1, k2, ho, Bool.and_self, cond_true, setBlk]
    cases v <;> first | exact key | cases g4
  · cases h

end Go.Ev


/-
  Operations as trees of checks: what an operation leaves, said without getting stuck where values and memory are not known in full.
-/
namespace Go.Ev
variable {P : Program} {E : TypeId → Option (List CK)} {q : FuncId → Bool}

inductive Br (α : Type) where
  | lf (g : Bool) (x : α)
  | nd (c : Bool) (a b : Br α)

def Br.run {α : Type} : Br α → (α → Ret) → Ret
  | .lf g x, κ => cond g (κ x) none
  | .nd c a b, κ => cond c (a.run κ) (b.run κ)
def Br.val {α : Type} : Br α → Option α
  | .lf g x => cond g (some x) none
  | .nd c a b => cond c a.val b.val

theorem Br.run_ok {α : Type} {κ : α → Ret} {R : Value × Mem} : ∀ {t : Br α}, t.run κ = some R → ∃ x, t.val = some x ∧ κ x = some R ∧ ∀ κ', t.run κ' = κ' x := by
  intro t
  induction t with
  | lf g x =>
    intro h
    cases g
    · cases h
    · exact ⟨x, rfl, h, fun _ => rfl⟩
  | nd c a b iha ihb =>
    intro h
    cases c
    · exact ihb h
    · exact iha h
theorem Br.run_val {α : Type} {x : α} : ∀ {t : Br α}, t.val = some x → ∀ κ, t.run κ = κ x := by
  intro t
  induction t with
  | lf g y => intro h κ; cases g <;> cases h; rfl
  | nd c a b iha ihb =>
    intro h κ
    cases c
    · exact ihb h κ
    · exact iha h κ

theorem lf_val {α : Type} {g : Bool} {x y : α} (h : (Br.lf g x).val = some y) : g = true ∧ x = y := by
  cases g
  · cases h
  · exact ⟨rfl, Option.some.inj h⟩
theorem nd_val {α : Type} {c : Bool} {a b : Br α} {y : α} (h : (Br.nd c a b).val = some y) : (c = true ∧ a.val = some y) ∨ (c = false ∧ b.val = some y) := by
  cases c
  · exact .inr ⟨rfl, h⟩
  · exact .inl ⟨rfl, h⟩

/-- What is told in full, or not at all. -/
def ofO (o : Option Value) : Br Value := match o with | some v => .lf true v | none => .lf false undef
def ofP (M : Mem) (o : Option (Value × Mem)) : Br (Value × Mem) := match o with | some p => .lf true p | none => .lf false (undef, M)
theorem ofO_val {o : Option Value} {v : Value} (h : (ofO o).val = some v) : o = some v := by
  unfold ofO at h
  split at h
  · exact congrArg some (lf_val h).2
  · cases h
theorem ofP_val {M : Mem} {o : Option (Value × Mem)} {v : Value × Mem} (h : (ofP M o).val = some v) : o = some v := by
  unfold ofP at h
  split at h
  · exact congrArg some (lf_val h).2
  · cases h

/-! ### pure operations -/

def fieldAddrB (P : Program) (s : TypeId) (x : Value) (f : Nat) : Br Value :=
  match P.underlying s with
  | some (.struct fs) => match fs[f]? with
    | some fd => match P.info? fd.type with
      | some i => .lf (isPtr x && (!(Nat.beq i.size 0) && (addrOf x).spot.isNone)) (.pointer (some ⟨(addrOf x).block, (addrOf x).off + fd.offset, none⟩))
      | none => .lf false undef
    | none => .lf false undef
  | _ => .lf false undef

theorem fieldAddrB_ok {s : TypeId} {x v : Value} {f : Nat} (h : (fieldAddrB P s x f).val = some v) : evFieldAddr P s x f = some v := by
  unfold fieldAddrB at h
  split at h
  · rename_i fs h1
    split at h
    · rename_i fd h2
      split at h
      · rename_i i h3
        obtain ⟨hg, rfl⟩ := lf_val h
        simp only [Bool.and_eq_true, Bool.not_eq_true', Option.isNone_iff_eq_none] at hg
        obtain ⟨g1, g2, g3⟩ := hg
        obtain ⟨a, rfl⟩ := isPtr_ex g1
        have e : addrOf (.pointer (some a)) = a := rfl
        rw [e] at g3 ⊢
        simp [evFieldAddr, h1, h2, h3, g2, g3]
      · cases h
    · cases h
  · cases h

def indexAddrB (P : Program) (t : TypeId) (x ix : Value) : Br Value :=
  match P.underlying t, ix with
  | some (.slice e), .int _ i => match P.info? e with
    | some inf => .lf (isSl x && (decide (0 ≤ i) && decide (i < (lenOf x : Int)))) (.pointer (some ⟨(addrOf x).block, (addrOf x).off + i.toNat * inf.size, none⟩))
    | none => .lf false undef
  | some (.array len e), .int _ i => match P.info? e with
    | some inf => .lf (isPtr x && ((addrOf x).spot.isNone && (decide (0 ≤ i) && decide (i < (len : Int))))) (.pointer (some ⟨(addrOf x).block, (addrOf x).off + i.toNat * inf.size, none⟩))
    | none => .lf false undef
  | _, _ => .lf false undef

theorem indexAddrB_ok {t : TypeId} {x ix v : Value} (h : (indexAddrB P t x ix).val = some v) : evIndexAddr P t x ix = some v := by
  unfold indexAddrB at h
  split at h
  · rename_i e k i h1
    split at h
    · rename_i inf h2
      obtain ⟨hg, rfl⟩ := lf_val h
      simp only [Bool.and_eq_true, decide_eq_true_eq] at hg
      obtain ⟨g1, g2, g3⟩ := hg
      obtain ⟨a, n, c, rfl⟩ := isSl_ex g1
      simp only [lenOf] at g3
      simp [evIndexAddr, h1, h2, g2, g3, addrOf, addr?]
    · cases h
  · rename_i len e k i h1
    split at h
    · rename_i inf h2
      obtain ⟨hg, rfl⟩ := lf_val h
      simp only [Bool.and_eq_true, decide_eq_true_eq, Option.isNone_iff_eq_none] at hg
      obtain ⟨g1, g0, g2, g3⟩ := hg
      obtain ⟨a, rfl⟩ := isPtr_ex g1
      have e : addrOf (.pointer (some a)) = a := rfl
      rw [e] at g0
      simp [evIndexAddr, h1, h2, g2, g3, g0, addrOf, addr?]
    · cases h
  · cases h

/-- A part of an aggregate, its cells by places. -/
def partB (P : Program) (e : TypeId) (cs : List Value) (off : Nat) : Br Value :=
  match tyAgg P e, P.info? e with
  | some true, some i => match i.zero with
    | some z => .lf (Nat.beq z.cells.toList.length i.size && Nat.ble (off + i.size) cs.length && (projsG (fun j => cs[off + j]?) z.cells.toList 0).1) (.agg (projsG (fun j => cs[off + j]?) z.cells.toList 0).2.toArray)
    | none => .lf false undef
  | some false, some i => match i.zero with
    | some z => .lf (projG z cs[off]?).1 (projG z cs[off]?).2
    | none => .lf false undef
  | _, _ => .lf false undef

theorem partB_ok {e : TypeId} {cs : Array Value} {off : Nat} {v : Value} (h : (partB P e cs.toList off).val = some v) : evPart P e cs off = some v := by
  unfold partB at h
  split at h
  · rename_i i h1 h2
    split at h
    · rename_i z _
      obtain ⟨hg, rfl⟩ := lf_val h
      simp only [Bool.and_eq_true, Nat.beq_eq, Nat.ble_eq] at hg
      obtain ⟨⟨g1, g2⟩, g3⟩ := hg
      obtain ⟨e1, e2⟩ := projsG_ok g3
      generalize (projsG (fun j => cs.toList[off + j]?) z.cells.toList 0).2 = vs at *
      have hb : Nat.ble (off + i.size) cs.size = true := by simpa using g2
      simp only [evPart, h1, h2, hb, cond_true, Option.some.injEq, Value.agg.injEq]
      apply congrArg
      apply List.ext_getElem?
      intro j
      rw [List.getElem?_take, List.getElem?_drop]
      cases hj : vs[j]? with
      | none =>
        have : vs.length ≤ j := by simpa using hj
        rw [if_neg (by omega)]
      | some v =>
        have hlt := lt_of_getElem? hj
        rw [if_pos (by omega)]
        have := e2 j v hj
        simpa using this
    · cases h
  · rename_i i h1 h2
    split at h
    · rename_i z _
      obtain ⟨hg, rfl⟩ := lf_val h
      have e2 := projG_ok hg
      simp only [evPart, h1]
      rw [← Array.getElem?_toList]
      exact e2
    · cases h
  · cases h

def indexB (P : Program) (t : TypeId) (x ix : Value) : Br Value :=
  match P.underlying t with
  | some (.array len e) => match x, ix with
    | .agg cs, .int _ i => match P.info? e with
      | some inf => .nd (decide (0 ≤ i) && decide (i < (len : Int))) (partB P e cs.toList (i.toNat * inf.size)) (.lf false undef)
      | none => .lf false undef
    | _, _ => .lf false undef
  | some .string => match x, ix with
    | .string s, .int _ i => .lf (decide (0 ≤ i) && decide (i.toNat < s.size)) (.int .u8 (s[i.toNat]?.getD 0).toNat)
    | _, _ => .lf false undef
  | _ => .lf false undef

theorem indexB_ok {t : TypeId} {x ix v : Value} (h : (indexB P t x ix).val = some v) : evIndex P t x ix = some v := by
  unfold indexB at h
  split at h
  · rename_i len e h1
    split at h
    · rename_i cs k i
      split at h
      · rename_i inf h2
        rcases nd_val h with ⟨hg, h⟩ | ⟨_, h⟩
        · simp only [Bool.and_eq_true, decide_eq_true_eq] at hg
          simp [evIndex, h1, h2, hg.1, hg.2, partB_ok h]
        · cases h
      · cases h
    · cases h
  · rename_i h1
    split at h
    · rename_i s k i
      obtain ⟨hg, rfl⟩ := lf_val h
      simp only [Bool.and_eq_true, decide_eq_true_eq] at hg
      have e : s[i.toNat]? = some s[i.toNat] := by simp [hg.2]
      simp [evIndex, h1, hg.1, e]
    · cases h
  · cases h

def noSpot (v : Value) : Bool := match addr? v with | none => true | some a => a.spot.isNone

def lenB (P : Program) (t : TypeId) (x : Value) : Br Value :=
  match P.underlying t with
  | some .string => .lf (isStr x) (.int .i64 (strOf x).size)
  | some (.slice _) => .lf (isSlV x) (.int .i64 (lenOf x))
  | some (.array n _) => .lf true (.int .i64 n)
  | _ => .lf false undef
theorem isStr_ex {v : Value} (h : isStr v = true) : ∃ s, v = .string s := by
  unfold isStr at h; split at h
  · exact ⟨_, rfl⟩
  · cases h
theorem lenB_ok {t : TypeId} {x v : Value} (h : (lenB P t x).val = some v) : evLen P t x = some v := by
  unfold lenB at h
  split at h
  · rename_i h1
    obtain ⟨hg, rfl⟩ := lf_val h
    obtain ⟨s, rfl⟩ := isStr_ex hg
    simp [evLen, h1, strOf]
  · rename_i h1
    obtain ⟨hg, rfl⟩ := lf_val h
    obtain ⟨a, n, c, rfl⟩ := isSlV_ex hg
    simp [evLen, h1, lenOf]
  · rename_i h1
    obtain ⟨_, rfl⟩ := lf_val h
    simp [evLen, h1]
  · cases h
def capB (P : Program) (t : TypeId) (x : Value) : Br Value :=
  match P.underlying t with
  | some (.slice _) => .lf (isSlV x && noSpot x) (.int .i64 (capOf x))
  | some (.array n _) => .lf true (.int .i64 n)
  | _ => .lf false undef
theorem capB_ok {t : TypeId} {x v : Value} (h : (capB P t x).val = some v) : evCap P t x = some v := by
  unfold capB at h
  split at h
  · rename_i h1
    obtain ⟨hg, rfl⟩ := lf_val h
    simp only [Bool.and_eq_true] at hg
    obtain ⟨a, n, c, rfl⟩ := isSlV_ex hg.1
    cases a with
    | none => simp [evCap, h1, capOf]
    | some a =>
      have : a.spot = none := by simpa [noSpot, addr?] using hg.2
      simp [evCap, h1, capOf, this]
  · rename_i h1
    obtain ⟨_, rfl⟩ := lf_val h
    simp [evCap, h1]
  · cases h

def sliceB (P : Program) (t : TypeId) (x : Value) (lo hi mx : Option Value) : Br Value :=
  match P.underlying t, mx with
  | some .string, none => .lf (isStr x && (bndG hi (strOf x).size && bndG lo (bndV hi (strOf x).size))) (.string ((strOf x).extract (bndV lo 0) (bndV hi (strOf x).size)))
  | some (.slice e), none => match P.info? e with
    | some inf => .nd (isNilS x) (.lf (bndG hi (capOf x) && bndG lo (bndV hi (lenOf x))) (.slice none (bndV hi (lenOf x) - bndV lo 0) (capOf x - bndV lo 0)))
        (.nd (isSl x && (bndG hi (capOf x) && bndG lo (bndV hi (lenOf x))))
          (match (addrOf x).spot with
            | none => .lf true (.slice (some ⟨(addrOf x).block, if capOf x = bndV lo 0 then (addrOf x).off else (addrOf x).off + bndV lo 0 * inf.size, none⟩) (bndV hi (lenOf x) - bndV lo 0) (capOf x - bndV lo 0))
            | some z => .lf (Nat.beq z inf.size && (Nat.beq (bndV lo 0) 0 || Nat.blt (bndV lo 0) (capOf x))) (.slice (some ⟨(addrOf x).block, (addrOf x).off + bndV lo 0 * inf.size, some z⟩) (bndV hi (lenOf x) - bndV lo 0) (capOf x - bndV lo 0)))
          (.lf false undef))
    | none => .lf false undef
  | some (.array n e), none => match P.info? e with
    | some inf => .lf (isPtr x && ((addrOf x).spot.isNone && (bndG hi n && bndG lo (bndV hi n))))
        (.slice (some ⟨(addrOf x).block, if n = bndV lo 0 then (addrOf x).off else (addrOf x).off + bndV lo 0 * inf.size, none⟩) (bndV hi n - bndV lo 0) (n - bndV lo 0))
    | none => .lf false undef
  | _, mx => ofO (evSlice P t x lo hi mx)

theorem sliceB_ok {t : TypeId} {x v : Value} {lo hi mx : Option Value} (h : (sliceB P t x lo hi mx).val = some v) : evSlice P t x lo hi mx = some v := by
  unfold sliceB at h
  split at h
  · rename_i h1
    obtain ⟨hg, rfl⟩ := lf_val h
    simp only [Bool.and_eq_true] at hg
    obtain ⟨g1, g2, g3⟩ := hg
    obtain ⟨s, rfl⟩ := isStr_ex g1
    simp only [strOf] at g2 g3
    simp [evSlice, h1, bnds_ok g2 g3, strOf]
  · rename_i e h1
    split at h
    · rename_i inf h2
      rcases nd_val h with ⟨hn, h⟩ | ⟨_, h⟩
      · obtain ⟨hg, rfl⟩ := lf_val h
        obtain ⟨n, c, rfl⟩ := isNilS_ex hn
        simp only [Bool.and_eq_true, lenOf, capOf] at hg
        simp [evSlice, h1, h2, bnds_ok hg.1 hg.2, lenOf, capOf]
      · rcases nd_val h with ⟨hn, h⟩ | ⟨_, h⟩
        · simp only [Bool.and_eq_true] at hn
          obtain ⟨g1, g2, g3⟩ := hn
          obtain ⟨a, n, c, rfl⟩ := isSl_ex g1
          have ea : addrOf (.slice (some a) n c) = a := rfl
          simp only [lenOf, capOf, ea] at g2 g3 h
          have hb := bnds_ok g2 g3
          split at h
          · rename_i hs
            obtain ⟨_, rfl⟩ := lf_val h
            simp [evSlice, h1, h2, hb, hs]
          · rename_i z hs
            obtain ⟨hg, rfl⟩ := lf_val h
            simp only [Bool.and_eq_true, Nat.beq_eq, Bool.or_eq_true] at hg
            obtain ⟨k1, k2⟩ := hg
            have k3 : bndV lo 0 = 0 ∨ bndV lo 0 < c := k2.imp (fun h => by simpa using h) (fun h => Nat.lt_of_succ_le (by simpa [Nat.blt] using h))
            simp [evSlice, h1, h2, hb, hs, k1, k3]
        · cases h
    · cases h
  · rename_i n e h1
    split at h
    · rename_i inf h2
      obtain ⟨hg, rfl⟩ := lf_val h
      simp only [Bool.and_eq_true, Option.isNone_iff_eq_none] at hg
      obtain ⟨g1, g0, g2, g3⟩ := hg
      obtain ⟨a, rfl⟩ := isPtr_ex g1
      have ea : addrOf (.pointer (some a)) = a := rfl
      rw [ea] at g0
      have hb := bnds_ok g2 g3
      simp [evSlice, h1, h2, hb, g0, ea]
    · cases h
  · exact ofO_val h

/-- Comparisons: of a pointer or a slice against nil. -/
def binB (P : Program) (E : TypeId → Option (List CK)) (op : BinOp) (t : TypeId) (x y : Value) : Br Value :=
  match op, y with
  | .eql, .pointer none => match P.underlying t with | some (.pointer _) => .lf (isPtrV x) (.bool (isNilP x)) | _ => .lf false undef
  | .neq, .pointer none => match P.underlying t with | some (.pointer _) => .lf (isPtrV x) (.bool (!isNilP x)) | _ => .lf false undef
  | .eql, .slice none _ _ => match P.underlying t with | some (.slice _) => .lf (isSlV x) (.bool (isNilS x)) | _ => .lf false undef
  | .neq, .slice none _ _ => match P.underlying t with | some (.slice _) => .lf (isSlV x) (.bool (!isNilS x)) | _ => .lf false undef
  | .quo, .int k' b => match x with | .int k a => .lf (decide (k = k') && !(b == 0)) (.int k (k.wrap (a.tdiv b))) | _ => .lf false undef
  | .rem, .int k' b => match x with | .int k a => .lf (decide (k = k') && !(b == 0)) (.int k (a.tmod b)) | _ => .lf false undef
  | .shl, .int _ b => match x with | .int k a => .lf (!decide (b < 0)) (.int k (k.wrap (a * 2 ^ (min b.toNat k.bits)))) | _ => .lf false undef
  | .shr, .int _ b => match x with | .int k a => .lf (!decide (b < 0)) (.int k (a.fdiv (2 ^ (min b.toNat k.bits)))) | _ => .lf false undef
  | op, y => ofO (evBin P E op t x y)

theorem isPtrV_ex {v : Value} (h : isPtrV v = true) : ∃ a, v = .pointer a := by
  unfold isPtrV at h; split at h
  · exact ⟨_, rfl⟩
  · cases h
theorem binB_ok {op : BinOp} {t : TypeId} {x y v : Value} (h : (binB P E op t x y).val = some v) : evBin P E op t x y = some v := by
  unfold binB at h
  split at h
  · split at h
    · rename_i h1
      obtain ⟨hg, rfl⟩ := lf_val h
      obtain ⟨a, rfl⟩ := isPtrV_ex hg
      cases a <;> simp [evBin, evEq, h1, isNilP]
    · cases h
  · split at h
    · rename_i h1
      obtain ⟨hg, rfl⟩ := lf_val h
      obtain ⟨a, rfl⟩ := isPtrV_ex hg
      cases a <;> simp [evBin, evEq, h1, isNilP]
    · cases h
  · split at h
    · rename_i h1
      obtain ⟨hg, rfl⟩ := lf_val h
      obtain ⟨a, n, c, rfl⟩ := isSlV_ex hg
      cases a <;> simp [evBin, evEq, h1, isNilS]
    · cases h
  · split at h
    · rename_i h1
      obtain ⟨hg, rfl⟩ := lf_val h
      obtain ⟨a, n, c, rfl⟩ := isSlV_ex hg
      cases a <;> simp [evBin, evEq, h1, isNilS]
    · cases h
  · split at h
    · obtain ⟨hg, rfl⟩ := lf_val h
      simp only [Bool.and_eq_true, decide_eq_true_eq, Bool.not_eq_true', beq_eq_false_iff_ne] at hg
      obtain ⟨rfl, h2⟩ := hg
      simp [evBin, arith, h2]
    · cases h
  · split at h
    · obtain ⟨hg, rfl⟩ := lf_val h
      simp only [Bool.and_eq_true, decide_eq_true_eq, Bool.not_eq_true', beq_eq_false_iff_ne] at hg
      obtain ⟨rfl, h2⟩ := hg
      simp [evBin, arith, h2]
    · cases h
  · split at h
    · obtain ⟨hg, rfl⟩ := lf_val h
      simp only [Bool.not_eq_true', decide_eq_false_iff_not] at hg
      simp [evBin, hg]
    · cases h
  · split at h
    · obtain ⟨hg, rfl⟩ := lf_val h
      simp only [Bool.not_eq_true', decide_eq_false_iff_not] at hg
      simp [evBin, hg]
    · cases h
  · exact ofO_val h

end Go.Ev


/-
  Operations as trees of checks: those that make or turn memory; an operation, whole.
-/
namespace Go.Ev
variable {P : Program} {E : TypeId → Option (List CK)} {q : FuncId → Bool}

def boxB (P : Program) (M : Mem) (t : TypeId) (v : Value) : Br (Value × Mem) :=
  match tyAgg P t with
  | some true => match v with
    | .agg cs => .lf (cs.toList.all Value.oneCell') (.pointer (some ⟨M.length, 0, none⟩), M ++ [⟨cs.toList, t, true⟩])
    | _ => .lf false (undef, M)
  | some false => .lf (one1 v) (.pointer (some ⟨M.length, 0, none⟩), M ++ [⟨[v], t, true⟩])
  | none => .lf false (undef, M)

theorem boxB_ok {M : Mem} {t : TypeId} {v : Value} {p : Value × Mem} (h : (boxB P M t v).val = some p) : evBox M t v = some p := by
  unfold boxB at h
  split at h
  · split at h
    · obtain ⟨hg, rfl⟩ := lf_val h
      simp [evBox, Value.cells, hg]
    · cases h
  · obtain ⟨hg, rfl⟩ := lf_val h
    have hc := one1_cells hg
    have ho := one1_one hg
    simp [evBox, hc, ho]
  · cases h

def makeSliceB (P : Program) (M : Mem) (t : TypeId) (len cap : Value) : Br (Value × Mem) :=
  match P.underlying t, len, cap with
  | some (.slice e), .int _ l, .int _ c =>
    match P.info? e with
    | some i => match i.zero with
      | some z => .lf (decide (0 ≤ l) && (decide (l ≤ c) && (decide ((i.bytes : Int) * c ≤ 281474976710656) && (decide (c ≤ 9223372036854775807) && (Nat.blt 0 i.size && (Nat.beq z.cells.size i.size && z.cells.toList.all flat1))))))
          (.slice (some ⟨M.length, 0, none⟩) l.toNat c.toNat, M ++ [⟨zeros z.cells.toList c.toNat, e, true⟩])
      | none => .lf false (undef, M)
    | none => .lf false (undef, M)
  | _, _, _ => .lf false (undef, M)

theorem makeSliceB_ok {M : Mem} {t : TypeId} {len cap : Value} {p : Value × Mem} (h : (makeSliceB P M t len cap).val = some p) : evMakeSlice P M t len cap = some p := by
  unfold makeSliceB at h
  split at h
  · rename_i e k1 l k2 c h1
    split at h
    · rename_i i h2
      split at h
      · rename_i z h3
        obtain ⟨hg, rfl⟩ := lf_val h
        simp only [Bool.and_eq_true, decide_eq_true_eq, Nat.beq_eq] at hg
        obtain ⟨g1, g2, g3, g4, g5, g6, g7⟩ := hg
        have g5' : 0 < i.size := Nat.lt_of_succ_le (by simpa [Nat.blt] using g5)
        simp only [evMakeSlice, h1, h2, h3]
        rw [if_pos ⟨g1, g2, g3, g4, g5', g6, g7⟩]
      · cases h
    · cases h
  · cases h

/-- A row of cells: the check, the cells. -/
def rowG (M : Mem) (b o n : Nat) : Bool := (M.blk b).live && Nat.ble (o + n) (M.blk b).cells.length
def rowC (M : Mem) (b o n : Nat) : List Value := ((M.blk b).cells.drop o).take n
theorem row_ok {M : Mem} {b o n : Nat} (h : rowG M b o n = true) : M.row b o n = some (rowC M b o n) := by
  simp only [rowG, Bool.and_eq_true] at h
  simp [Mem.row, blk_live h.1, h.1, h.2, rowC]

/-- What is appended. -/
def srcB (P : Program) (M : Mem) (i : TypeInfo) (ts : List TypeId) (x : Value) : Br (Nat × List Value) :=
  match ts with
  | [_, xT] => match P.underlying xT with
    | some (.int _) => match x, i.zero with
      | .int _ n, some z => .lf (decide (0 ≤ n) && (decide (n * (i.bytes : Int) ≤ 281474976710656) && (decide (n ≤ 9223372036854775807) && (Nat.beq z.cells.size i.size && z.cells.toList.all flat1)))) (n.toNat, zeros z.cells.toList n.toNat)
      | _, _ => .lf false (0, [])
    | some .string => .lf (isStr x && Nat.beq i.size 1) ((strOf x).size, strCells (strOf x))
    | some (.slice _) => .nd (isNilS x) (.lf (Nat.beq (lenOf x) 0) (0, [])) (.lf (isSl x && rowG M (addrOf x).block (addrOf x).off (lenOf x * i.size)) (lenOf x, rowC M (addrOf x).block (addrOf x).off (lenOf x * i.size)))
    | _ => .lf false (0, [])
  | _ => .lf false (0, [])

theorem srcB_ok {M : Mem} {i : TypeInfo} {ts : List TypeId} {x : Value} {p : Nat × List Value} (h : (srcB P M i ts x).val = some p) : evSrc P M i ts x = some p := by
  unfold srcB at h
  split at h
  · rename_i s xT
    split at h
    · rename_i k h1
      split at h
      · rename_i k n z h2
        obtain ⟨hg, rfl⟩ := lf_val h
        simp only [Bool.and_eq_true, decide_eq_true_eq, Nat.beq_eq] at hg
        obtain ⟨g1, g2, g3, g4, g5⟩ := hg
        simp only [evSrc, h1, h2]
        rw [if_pos ⟨g1, g2, g3, g4, g5⟩]
      · cases h
    · rename_i h1
      obtain ⟨hg, rfl⟩ := lf_val h
      simp only [Bool.and_eq_true] at hg
      obtain ⟨s, rfl⟩ := isStr_ex hg.1
      simp [evSrc, h1, hg.2, strOf]
    · rename_i h1
      have hnd := nd_val h; clear h; rcases hnd with ⟨hn, h⟩ | ⟨_, h⟩
      · obtain ⟨hg, rfl⟩ := lf_val h
        obtain ⟨n, c, rfl⟩ := isNilS_ex hn
        obtain rfl : n = 0 := by simpa [lenOf] using hg
        simp [evSrc, h1]
      · obtain ⟨hg, rfl⟩ := lf_val h
        simp only [Bool.and_eq_true] at hg
        obtain ⟨a, n, c, rfl⟩ := isSl_ex hg.1
        have ea : addrOf (.slice (some a) n c) = a := rfl
        rw [ea] at hg ⊢
        simp only [lenOf] at hg ⊢
        simp [evSrc, h1, row_ok hg.2]
    · cases h
  · cases h

theorem setBlk_same {M : Mem} {b : Nat} (h : (M.blk b).live = true) : setBlk M b (M.blk b).cells = M := by
  unfold setBlk
  have := blk_live h
  apply List.ext_getElem?
  intro j
  rw [List.getElem?_set]
  by_cases hj : b = j
  · subst hj
    rw [if_pos rfl, this]
    split
    · rfl
    · rename_i hn
      exact absurd (lt_of_getElem? this) hn
  · rw [if_neg hj]

def growB (M : Mem) (wall : Nat) (e : TypeId) (i : TypeInfo) (s : Value) (n : Nat) (news : List Value) : Br (Value × Mem) :=
  .nd (isNilS s)
    (.nd (Nat.beq (lenOf s) 0 && Nat.beq (capOf s) 0)
      (.nd (Nat.beq n 0) (.lf true (.slice none 0 0, M))
        (.lf (Nat.ble (n * i.bytes) 140737488355328 && Nat.ble n 4611686018427387904) (.slice (some ⟨M.length, 0, some i.size⟩) n n, M ++ [⟨news, e, true⟩]))) (.lf false (undef, M)))
    (.nd (isSl s)
      (.nd (Nat.ble (lenOf s + n) (capOf s))
        (.nd (putG M wall (addrOf s).block ((addrOf s).off + lenOf s * i.size) news.length) (.lf true (.slice (some (addrOf s)) (lenOf s + n) (capOf s), setBlk M (addrOf s).block (putC M (addrOf s).block ((addrOf s).off + lenOf s * i.size) news)))
          (.lf (Nat.beq n 0) (.slice (some (addrOf s)) (lenOf s) (capOf s), M)))
        (.nd (Nat.ble ((lenOf s + n) * i.bytes) 140737488355328 && Nat.ble (lenOf s + n) 4611686018427387904 && rowG M (addrOf s).block (addrOf s).off (lenOf s * i.size))
          (match (addrOf s).spot with
            | none => .lf true (.slice (some ⟨M.length, 0, some i.size⟩) (lenOf s + n) (lenOf s + n), M ++ [⟨rowC M (addrOf s).block (addrOf s).off (lenOf s * i.size) ++ news, e, true⟩])
            | some z => .lf (Nat.beq z i.size && Nat.ble wall (addrOf s).block && Nat.beq (M.blk (addrOf s).block).elem e)
                (.slice (some ⟨M.length, 0, some i.size⟩) (lenOf s + n) (lenOf s + n), M.kill (addrOf s).block ++ [⟨rowC M (addrOf s).block (addrOf s).off (lenOf s * i.size) ++ news, e, true⟩]))
          (.lf false (undef, M))))
      (.lf false (undef, M)))

theorem growB_ok {M : Mem} {wall : Nat} {e : TypeId} {i : TypeInfo} {s : Value} {n : Nat} {news : List Value} {p : Value × Mem} (hnews : news.all Value.oneCell' = true) (hlen : n = 0 → news = []) (h : (growB M wall e i s n news).val = some p) :
    evGrow M wall e i s n news = some p := by
  unfold growB at h
  have hnd := nd_val h; clear h; rcases hnd with ⟨hn, h⟩ | ⟨_, h⟩
  · obtain ⟨l, c, rfl⟩ := isNilS_ex hn
    have hnd := nd_val h; clear h; rcases hnd with ⟨hz, h⟩ | ⟨_, h⟩
    · simp only [Bool.and_eq_true, lenOf, capOf, Nat.beq_eq] at hz
      obtain ⟨rfl, rfl⟩ := hz
      have hnd := nd_val h; clear h; rcases hnd with ⟨hz, h⟩ | ⟨hz, h⟩
      · obtain ⟨_, rfl⟩ := lf_val h
        simp [evGrow, hz]
      · obtain ⟨hg, rfl⟩ := lf_val h
        simp only [evGrow, hz, cond_false, hg, cond_true]
    · cases h
  · have hnd := nd_val h; clear h; rcases hnd with ⟨hn, h⟩ | ⟨_, h⟩
    · obtain ⟨a, l, c, rfl⟩ := isSl_ex hn
      have ea : addrOf (.slice (some a) l c) = a := rfl
      simp only [lenOf, capOf, ea] at h
      have hnd := nd_val h; clear h; rcases hnd with ⟨hc, h⟩ | ⟨hc, h⟩
      · have hnd := nd_val h; clear h; rcases hnd with ⟨hp, h⟩ | ⟨hp, h⟩
        · obtain ⟨_, rfl⟩ := lf_val h
          obtain ⟨hw, hput⟩ := put_ok hp hnews
          have hw' : Nat.ble wall a.block = true := by simpa using hw
          simp only [evGrow, hc, cond_true]
          cases hz : Nat.beq n 0
          · simp [hw', hput]
          · obtain rfl : n = 0 := by simpa using hz
            have hl : (M.blk a.block).live = true := by simp only [putG, Bool.and_eq_true] at hp; exact hp.2.1
            have hs := setBlk_same hl
            rw [hlen rfl]
            simp [putC, hs]
        · obtain ⟨hz, rfl⟩ := lf_val h
          simp [evGrow, hc, hz]
      · have hnd := nd_val h; clear h; rcases hnd with ⟨hg, h⟩ | ⟨_, h⟩
        · simp only [Bool.and_eq_true] at hg
          obtain ⟨⟨g1, g2⟩, g3⟩ := hg
          have hr := row_ok g3
          simp only [evGrow, hc, cond_false, g1, g2, Bool.and_self, cond_true, hr, Option.bind_some]
          split at h
          · rename_i hs
            obtain ⟨_, rfl⟩ := lf_val h
            simp [hs]
          · rename_i z hs
            obtain ⟨hk, rfl⟩ := lf_val h
            simp only [Bool.and_eq_true] at hk
            obtain ⟨⟨k1, k2⟩, k3⟩ := hk
            have hl : (M.blk a.block).live = true := by simp only [rowG, Bool.and_eq_true] at g3; exact g3.1
            have he : M.elemIs a.block e = true := by simp [Mem.elemIs, blk_live hl, k3]
            simp [hs, k1, k2, he]
        · cases h
    · cases h

def Br.bind {α β : Type} : Br α → (α → Br β) → β → Br β
  | .lf g x, f, d => .nd g (f x) (.lf false d)
  | .nd c a b, f, d => .nd c (a.bind f d) (b.bind f d)
theorem bind_val {α β : Type} {f : α → Br β} {d y : β} : ∀ {t : Br α}, (t.bind f d).val = some y → ∃ x, t.val = some x ∧ (f x).val = some y := by
  intro t
  induction t with
  | lf g x =>
    intro h
    have hnd := nd_val h; clear h; rcases hnd with ⟨hg, h⟩ | ⟨_, h⟩
    · subst hg; exact ⟨x, rfl, h⟩
    · cases h
  | nd c a b iha ihb =>
    intro h
    cases c
    · exact ihb h
    · exact iha h

def appendB (P : Program) (M : Mem) (wall : Nat) (ts : List TypeId) (s x : Value) : Br (Value × Mem) :=
  match ts with
  | sT :: _ => match P.underlying sT with
    | some (.slice e) => match P.info? e with
      | some i => match i.zero with
        | some z => .nd (Nat.blt 0 i.size && Nat.beq z.cells.size i.size) ((srcB P M i ts x).bind (fun p => .nd (p.2.all Value.oneCell' && (!(Nat.beq p.1 0) || p.2.isEmpty)) (growB M wall e i s p.1 p.2) (.lf false (undef, M))) (undef, M)) (.lf false (undef, M))
        | none => .lf false (undef, M)
      | none => .lf false (undef, M)
    | _ => .lf false (undef, M)
  | _ => .lf false (undef, M)

theorem appendB_ok {M : Mem} {wall : Nat} {ts : List TypeId} {s x : Value} {p : Value × Mem} (h : (appendB P M wall ts s x).val = some p) : evAppend P M wall ts s x = some p := by
  unfold appendB at h
  split at h
  · rename_i sT ts'
    split at h
    · rename_i e h1
      split at h
      · rename_i i h2
        split at h
        · rename_i z h3
          have hnd := nd_val h; clear h; rcases hnd with ⟨hg, h⟩ | ⟨_, h⟩
          · obtain ⟨⟨n, news⟩, e1, h⟩ := bind_val h
            have hnd := nd_val h; clear h; rcases hnd with ⟨ha, h⟩ | ⟨_, h⟩
            · simp only [Bool.and_eq_true] at ha
              have := growB_ok ha.1 (fun hz => by
                subst hz
                simpa [List.isEmpty_iff] using ha.2) h
              simp only [evAppend, h1, h2, h3, hg, cond_true, srcB_ok e1, Option.bind_some, ha.1]
              exact this
            · cases h
          · cases h
        · cases h
      · cases h
    · cases h
  · cases h

def copySrcB (P : Program) (M : Mem) (i : TypeInfo) (rest : List TypeId) (dLen : Nat) (x : Value) : Br (Nat × List Value) :=
  match rest.head?.bind P.underlying with
  | some .string => .lf (isStr x && Nat.beq i.size 1) (min (strOf x).size dLen, (strCells (strOf x)).take (min (strOf x).size dLen))
  | _ => .nd (isNilS x) (.lf (Nat.beq (lenOf x) 0) (0, []))
      (.lf (isSl x && rowG M (addrOf x).block (addrOf x).off (min (lenOf x) dLen * i.size)) (min (lenOf x) dLen, rowC M (addrOf x).block (addrOf x).off (min (lenOf x) dLen * i.size)))

def copySrc (M : Mem) (i : TypeInfo) (dLen : Nat) (x : Value) : Option (Nat × List Value) :=
  match x with
  | .slice none 0 _ => some (0, [])
  | .slice (some a) n _ => (M.row a.block a.off (min n dLen * i.size)).bind fun cs => some (min n dLen, cs)
  | .string s => cond (Nat.beq i.size 1) (some (min s.size dLen, (strCells s).take (min s.size dLen))) none
  | _ => none

theorem copySrcB_ok {M : Mem} {i : TypeInfo} {rest : List TypeId} {dLen : Nat} {x : Value} {p : Nat × List Value} (h : (copySrcB P M i rest dLen x).val = some p) : copySrc M i dLen x = some p := by
  unfold copySrcB at h
  split at h
  · obtain ⟨hg, rfl⟩ := lf_val h
    simp only [Bool.and_eq_true] at hg
    obtain ⟨s, rfl⟩ := isStr_ex hg.1
    simp [copySrc, hg.2, strOf]
  · have hnd := nd_val h; clear h; rcases hnd with ⟨hn, h⟩ | ⟨_, h⟩
    · obtain ⟨hg, rfl⟩ := lf_val h
      obtain ⟨l, c, rfl⟩ := isNilS_ex hn
      obtain rfl : l = 0 := by simpa [lenOf] using hg
      rfl
    · obtain ⟨hg, rfl⟩ := lf_val h
      simp only [Bool.and_eq_true] at hg
      obtain ⟨a, l, c, rfl⟩ := isSl_ex hg.1
      have ea : addrOf (.slice (some a) l c) = a := rfl
      rw [ea] at hg ⊢
      simp only [lenOf] at hg ⊢
      simp [copySrc, row_ok hg.2]

theorem copy_bind {M : Mem} {wall : Nat} {sT e : TypeId} {rest : List TypeId} {i : TypeInfo} {da : Option Addr} {l c : Nat} {x : Value} (h1 : P.underlying sT = some (.slice e)) (h2 : P.info? e = some i) :
    evCopy P M wall (sT :: rest) (.slice da l c) x = (copySrc M i l x).bind fun (n, cs) => match da with
      | none => cond (Nat.beq n 0) (some (.int .i64 0, M)) none
      | some a => cond (Nat.beq n 0) (some (.int .i64 0, M)) (cond (Nat.ble wall a.block) ((M.put a.block a.off cs).bind fun M => some (.int .i64 n, M)) none) := by
  simp only [evCopy, h1, h2]
  rfl

def copyB (P : Program) (M : Mem) (wall : Nat) (ts : List TypeId) (d x : Value) : Br (Value × Mem) :=
  match ts with
  | sT :: rest => match P.underlying sT with
    | some (.slice e) => match P.info? e with
      | some i => (copySrcB P M i rest (lenOf d) x).bind
          (fun p => .nd (isNilS d) (.lf (Nat.beq p.1 0) (.int .i64 0, M))
            (.lf (isSl d && (p.2.all Value.oneCell' && (!(Nat.beq p.1 0) || p.2.isEmpty)) && putG M wall (addrOf d).block (addrOf d).off p.2.length) (.int .i64 p.1, setBlk M (addrOf d).block (putC M (addrOf d).block (addrOf d).off p.2)))) (undef, M)
      | none => .lf false (undef, M)
    | _ => .lf false (undef, M)
  | _ => .lf false (undef, M)

theorem copyB_ok {M : Mem} {wall : Nat} {ts : List TypeId} {d x : Value} {p : Value × Mem} (h : (copyB P M wall ts d x).val = some p) : evCopy P M wall ts d x = some p := by
  unfold copyB at h
  split at h
  · rename_i sT rest
    split at h
    · rename_i e h1
      split at h
      · rename_i i h2
        obtain ⟨⟨n, cs⟩, e1, h⟩ := bind_val h
        have src := copySrcB_ok e1
        have hnd := nd_val h; clear h; rcases hnd with ⟨hn, h⟩ | ⟨_, h⟩
        · obtain ⟨hg, rfl⟩ := lf_val h
          obtain ⟨l, c, rfl⟩ := isNilS_ex hn
          simp only [lenOf] at src
          rw [copy_bind h1 h2, src]
          simp [hg]
        · obtain ⟨hg, rfl⟩ := lf_val h
          simp only [Bool.and_eq_true] at hg
          obtain ⟨⟨g1, g2, g3⟩, g4⟩ := hg
          obtain ⟨a, l, c, rfl⟩ := isSl_ex g1
          have ea : addrOf (.slice (some a) l c) = a := rfl
          rw [ea] at g4 ⊢
          obtain ⟨hw, hput⟩ := put_ok g4 g2
          have hw' : Nat.ble wall a.block = true := by simpa using hw
          simp only [lenOf] at src
          rw [copy_bind h1 h2, src]
          simp only [Option.bind_some]
          cases hz : Nat.beq n 0
          · simp [hw', hput]
          · obtain rfl : n = 0 := by simpa using hz
            have hl : (M.blk a.block).live = true := by simp only [putG, Bool.and_eq_true] at g4; exact g4.2.1
            have hs := setBlk_same hl
            have : cs = [] := by simpa [List.isEmpty_iff] using g3
            subst this
            simp [putC, hs]
      · cases h
    · cases h
  · cases h

def byteVal (v : Value) : UInt8 := match v with | .int _ n => UInt8.ofNat n.toNat | _ => 0
theorem bytes_mapM : ∀ {cs : List Value}, cs.all (isInt .u8) = true → cs.mapM byteOf? = some (cs.map byteVal) := by
  intro cs
  induction cs with
  | nil => intro _; rfl
  | cons c cs ih =>
    intro h
    simp only [List.all_cons, Bool.and_eq_true] at h
    obtain ⟨n, rfl⟩ : ∃ n, c = .int .u8 n := ⟨_, Option.some.inj (okInt_eq (k := .u8) (c := some c) h.1)⟩
    simp only [List.mapM_cons, ih h.2, List.map_cons]
    rfl

def convB (P : Program) (M : Mem) (wall : Nat) (src dst : TypeId) (x : Value) : Br (Value × Mem) :=
  match P.underlying src, P.underlying dst with
  | some .string, some (.slice e) => match P.underlying e with
    | some (.int .u8) => .lf (isStr x) (.slice (some ⟨M.length, 0, some 1⟩) (strOf x).size (strOf x).size, M ++ [⟨strCells (strOf x), e, true⟩])
    | _ => .lf false (undef, M)
  | some (.slice e), some .string => match P.underlying e with
    | some (.int .u8) => .nd (isNilS x) (.lf (Nat.beq (lenOf x) 0) (.string .empty, M))
        (.lf (isSl x && (rowG M (addrOf x).block (addrOf x).off (lenOf x) && (rowC M (addrOf x).block (addrOf x).off (lenOf x)).all (isInt .u8))) (.string ⟨((rowC M (addrOf x).block (addrOf x).off (lenOf x)).map byteVal).toArray⟩, M))
    | _ => .lf false (undef, M)
  | _, _ => ofP M (evConv P M wall src dst x)

theorem convB_ok {M : Mem} {wall : Nat} {src dst : TypeId} {x : Value} {p : Value × Mem} (h : (convB P M wall src dst x).val = some p) : evConv P M wall src dst x = some p := by
  unfold convB at h
  split at h
  · rename_i e h1 h2
    split at h
    · rename_i h3
      obtain ⟨hg, rfl⟩ := lf_val h
      obtain ⟨s, rfl⟩ := isStr_ex hg
      simp [evConv, h1, h2, h3, strOf]
    · cases h
  · rename_i e h1 h2
    split at h
    · rename_i h3
      have hnd := nd_val h; clear h; rcases hnd with ⟨hn, h⟩ | ⟨_, h⟩
      · obtain ⟨hg, rfl⟩ := lf_val h
        obtain ⟨l, c, rfl⟩ := isNilS_ex hn
        simp only [lenOf] at hg
        simp only [evConv, h1, h2, h3, hg, cond_true]
      · obtain ⟨hg, rfl⟩ := lf_val h
        simp only [Bool.and_eq_true] at hg
        obtain ⟨g1, g2, g3⟩ := hg
        obtain ⟨a, l, c, rfl⟩ := isSl_ex g1
        have ea : addrOf (.slice (some a) l c) = a := rfl
        simp only [ea, lenOf] at g2 g3 ⊢
        simp only [evConv, h1, h2, h3, row_ok g2, Option.bind_some, bytes_mapM g3]
    · cases h
  · exact ofP_val h

abbrev CallB := FuncId → List Value → Mem → Nat → Br (Value × Mem)
/-- What is told, plainly. -/
def plainB (TK : CallB) : CallFn := fun f args M wall => (TK f args M wall).val
/-- What a quiet call leaves is not trimmed. -/
def QuietOk (P : Program) (q : FuncId → Bool) (TK : CallB) : Prop := ∀ f args M v M', q f = true → (TK f args M M.length).val = some (v, M') → trim P M M' v = (v, M')

def valB (M : Mem) (t : Br Value) : Br (Value × Mem) := t.bind (fun v => .lf true (v, M)) (undef, M)
theorem valB_val {M : Mem} {t : Br Value} {p : Value × Mem} (h : (valB M t).val = some p) : p.2 = M ∧ t.val = some p.1 := by
  obtain ⟨v, h1, h2⟩ := bind_val h
  obtain ⟨_, rfl⟩ := lf_val h2
  exact ⟨rfl, h1⟩

/-- One operation, as a tree of checks. -/
def stepB (P : Program) (E : TypeId → Option (List CK)) (q : FuncId → Bool) (TK : CallB) (wall : Nat) (r : List Value) (M : Mem) (op : Op) : Br (Value × Mem) :=
  match op with
  | .move x => .lf true (ev r x, M)
  | .assign x => .lf true (ev r x, M)
  | .pick c a b => match ev r c with | .bool t => .nd t (.lf true (ev r a, M)) (.lf true (ev r b, M)) | _ => .lf false (undef, M)
  | .load t x => match P.underlying t with
    | some (.int k) => .lf ((loadG P M t (ev r x)).1 && isInt k (loadG P M t (ev r x)).2) (.int k (intOf (loadG P M t (ev r x)).2), M)
    | _ => .lf (loadG P M t (ev r x)).1 ((loadG P M t (ev r x)).2, M)
  | .store t x v => .lf (storeG P M wall t (ev r x) (ev r v)).1 (undef, (storeG P M wall t (ev r x) (ev r v)).2)
  | .box t x => boxB P M t (ev r x)
  | .makeSlice t l c => makeSliceB P M t (ev r l) (ev r c)
  | .binOp op t x y _ => valB M (binB P E op t (ev r x) (ev r y))
  | .nilCheck x => .lf (isPtr (ev r x)) (.pointer (some (addrOf (ev r x))), M)
  | .index t x ix => valB M (indexB P t (ev r x) (ev r ix))
  | .fieldAddr s x f => valB M (fieldAddrB P s (ev r x) f)
  | .indexAddr t x ix => valB M (indexAddrB P t (ev r x) (ev r ix))
  | .slice t x lo hi mx => valB M (sliceB P t (ev r x) (lo.map (ev r)) (hi.map (ev r)) (mx.map (ev r)))
  | .call ⟨.builtin .len, args, ts⟩ => match ts.toList, args.toList with | t :: _, [x] => valB M (lenB P t (ev r x)) | _, _ => .lf false (undef, M)
  | .call ⟨.builtin .cap, args, ts⟩ => match ts.toList, args.toList with | t :: _, [x] => valB M (capB P t (ev r x)) | _, _ => .lf false (undef, M)
  | .call ⟨.builtin .append, args, ts⟩ => match args.toList with | [s, x] => appendB P M wall ts.toList (ev r s) (ev r x) | _ => .lf false (undef, M)
  | .call ⟨.builtin .copy, args, ts⟩ => match args.toList with | [d, x] => copyB P M wall ts.toList (ev r d) (ev r x) | _ => .lf false (undef, M)
  | .call ⟨.value f, args, _⟩ => match ev r f with
    | .func (.func g) first captured => TK g (first.toList ++ (args.toList.map (ev r) ++ captured.toList)) M (cond (q g) M.length wall)
    | _ => .lf false (undef, M)
  | .convert src dst x => match P.underlying src, P.underlying dst with
    | some (.int _), some (.int k) => match ev r x with | .int _ n => .lf true (.int k (k.wrap n), M) | _ => .lf false (undef, M)
    | some .string, some (.slice _) => convB P M wall src dst (ev r x)
    | some (.slice _), _ => convB P M wall src dst (ev r x)
    | some .string, some .string => .lf (isStr (ev r x)) (ev r x, M)
    | _, _ => .lf false (undef, M)
  | op => ofP M (evStep P E q (plainB TK) wall r M op)

theorem pure_step {TK : CallB} {wall : Nat} {r : List Value} {M M' : Mem} {op : Op} {v : Value} {t : Br Value} (hs : evStep P E q (plainB TK) wall r M op = (evPure P E r op).bind fun v => some (v, M))
    (ht : ∀ v, t.val = some v → evPure P E r op = some v) (h : (valB M t).val = some (v, M')) : evStep P E q (plainB TK) wall r M op = some (v, M') := by
  obtain ⟨h1, h2⟩ := valB_val h
  dsimp only at h1 h2
  rw [hs, ht v h2, h1]
  rfl

theorem stepB_ok {TK : CallB} (hq : QuietOk P q TK) {wall : Nat} {r : List Value} {M : Mem} {op : Op} {v : Value} {M' : Mem} (h : (stepB P E q TK wall r M op).val = some (v, M')) : evStep P E q (plainB TK) wall r M op = some (v, M') := by
  unfold stepB at h
  split at h
  · obtain ⟨_, e⟩ := lf_val h; cases e; simp [evStep, evPure]
  · obtain ⟨_, e⟩ := lf_val h; cases e; simp [evStep, evPure]
  · rename_i c a b
    split at h
    · rename_i t ht
      rcases nd_val h with ⟨hc, h⟩ | ⟨hc, h⟩
      · obtain ⟨_, e⟩ := lf_val h; cases e; simp [evStep, evPure, ht, hc]
      · obtain ⟨_, e⟩ := lf_val h; cases e; simp [evStep, evPure, ht, hc]
    · cases h
  · rename_i t x
    split at h
    · rename_i k hk
      obtain ⟨hg, e⟩ := lf_val h
      cases e
      simp only [Bool.and_eq_true] at hg
      have hl := loadG_ok hg.1
      have hi : okInt k (some (loadG P M t (ev r x)).2) = true := hg.2
      simp only [evStep, evLoadT, hk, hl, hi, cond_true, Option.bind_some]
      rfl
    · rename_i hk
      obtain ⟨hg, e⟩ := lf_val h
      cases e
      have hl := loadG_ok hg
      have : evLoadT P M t (ev r x) = evLoad P M t (ev r x) := by
        unfold evLoadT
        split
        · rename_i k hk'
          exact absurd hk' (hk k)
        · rfl
      simp only [evStep, this, hl, Option.bind_some]
  · rename_i t x u
    obtain ⟨hg, e⟩ := lf_val h
    cases e
    simp only [evStep, storeG_ok hg, Option.bind_some]
  · simp only [evStep]; exact boxB_ok h
  · simp only [evStep]; exact makeSliceB_ok h
  · exact pure_step rfl (fun v h => by simp only [evPure]; exact binB_ok h) h
  · rename_i x
    obtain ⟨hg, e⟩ := lf_val h
    cases e
    obtain ⟨a, ha⟩ := isPtr_ex hg
    have : addrOf (ev r x) = a := by rw [ha]; rfl
    simp only [evStep, evPure, ha]
    rfl
  · exact pure_step rfl (fun v h => by simp only [evPure]; exact indexB_ok h) h
  · exact pure_step rfl (fun v h => by simp only [evPure]; exact fieldAddrB_ok h) h
  · exact pure_step rfl (fun v h => by simp only [evPure]; exact indexAddrB_ok h) h
  · exact pure_step rfl (fun v h => by simp only [evPure]; exact sliceB_ok h) h
  · rename_i args ts
    split at h
    · rename_i t ts' x e1 e2
      exact pure_step rfl (fun v h => by simp only [evPure, e1, e2]; exact lenB_ok h) h
    · cases h
  · rename_i args ts
    split at h
    · rename_i t ts' x e1 e2
      exact pure_step rfl (fun v h => by simp only [evPure, e1, e2]; exact capB_ok h) h
    · cases h
  · rename_i args ts
    split at h
    · rename_i s x e1
      simp only [evStep, e1]; exact appendB_ok h
    · cases h
  · rename_i args ts
    split at h
    · rename_i s x e1
      simp only [evStep, e1]; exact copyB_ok h
    · cases h
  · rename_i f args ts
    split at h
    · rename_i g first captured hf
      simp only [evStep, hf, evCallee]
      cases hqg : q g
      · rw [hqg] at h
        simpa [plainB] using h
      · rw [hqg] at h
        simp only [cond_true] at h ⊢
        have := hq _ _ _ _ _ hqg h
        simp only [plainB, h, Option.bind_some, this]
    · cases h
  · rename_i src dst x
    have conv : ∀ v M', evConv P M wall src dst (ev r x) = some (v, M') → (∃ e, P.underlying dst = some (.slice e)) ∨ (∃ e, P.underlying src = some (.slice e)) →
        (convB P M wall src dst (ev r x)).val = some (v, M') → evStep P E q (plainB TK) wall r M (.convert src dst x) = some (v, M') := by
      intro v M' hc ht hb
      have hc0 := hc
      unfold evConv at hc
      split at hc
      · rename_i e s h1 h2 h3
        simp only [evStep, h3, h2]
        rw [← h3]
        exact hc0
      · rename_i e a n c h1 h2 h3
        simp only [evStep, h3]
        rw [← h3]
        exact hc0
      · rename_i e e' a n c h1 h2 h3
        simp only [evStep, h3]
        rw [← h3]
        exact hc0
      · cases hc
    split at h
    · rename_i k1 k2 h1 h2
      split at h
      · rename_i k3 n hx
        obtain ⟨hg, e⟩ := lf_val h
        cases e
        simp [evStep, evPure, h1, h2, hx]
      · cases h
    · exact conv _ _ (convB_ok h) (.inl ⟨_, ‹P.underlying dst = _›⟩) h
    · exact conv _ _ (convB_ok h) (.inr ⟨_, ‹P.underlying src = _›⟩) h
    · rename_i h1 h2
      obtain ⟨hg, e⟩ := lf_val h
      cases e
      obtain ⟨s, hs⟩ := isStr_ex hg
      simp [evStep, evPure, h1, h2, hs]
    · cases h
  · exact ofP_val h

end Go.Ev
