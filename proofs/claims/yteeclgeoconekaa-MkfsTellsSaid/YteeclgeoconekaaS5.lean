/-
  The sums of the program and of the reference, run over any row of bytes of fewer than 2 to the 62 cells.
-/
import Derived.Test.YteeclgeoconekaaS4
import Derived.Test.YteeclgeoconekaaEvTold
namespace Go.Proofs.Yteeclgeoconekaa
open Go.Ev

noncomputable abbrev evw (T : CallFn) (w k f : Nat) (c : Code) (r : List Value) (M : Mem) (κ : Kont) : Ret := evC Try.prog EvA.E EvA.q (EvA.reg f) T w k c r M (backK (headLive (EvA.reg f) c) κ)
noncomputable abbrev evz (T : CallFn) (w k f : Nat) (L : LoopFn) (c : Code) (r : List Value) (M : Mem) (κ : Kont) : Ret := evS Try.prog EvA.E EvA.q (EvA.reg f) T w k L c r M (backK (headLive (EvA.reg f) c) κ)
abbrev Okw (T : CallFn) (w k f : Nat) (L : LoopFn) (c : Code) : Prop := LoopsOk Try.prog EvA.E EvA.q (EvA.reg f) T w k L c

theorem evz_le {T : CallFn} {w k f : Nat} {L : LoopFn} {c : Code} (hl : Okw T w k f L c) {r : List Value} {M : Mem} {κ κ' : Kont} (hk : KLe κ κ') {R : Value × Mem} (h : evz T w k f L c r M κ = some R) : evw T w k f c r M κ' = some R :=
  evS_le c hl r M _ _ (backK_le hk) R h

theorem Okw.cons {T : CallFn} {w k f : Nat} {L : LoopFn} {cs : List Code} {c' : Code} {id : Nat} {rp : List Pt} {mp : List MPt} {g : List Value → List Value → Option (Kont → Ret)}
    (hid : firstReg c' = some id)
    (hg : ∀ a b g', g a b = some g' → ∀ κ R, g' κ = some R → loopN (fun r M κ => evw T w k f c' r M κ) k (plug rp a) (plugM mp b) κ = some R)
    (hcs : ∀ c'' ∈ cs, ∀ id', firstReg c'' = some id' → (∀ r M g', L id' r M = some g' → ∀ κ R, g' κ = some R → loopN (fun r M κ => evw T w k f c'' r M κ) k r M κ = some R) ∧ id' ≠ id) :
    ∀ c'' ∈ c' :: cs, ∀ id', firstReg c'' = some id' → ∀ r M g', sumAt id rp mp g L id' r M = some g' → ∀ κ R, g' κ = some R → loopN (fun r M κ => evw T w k f c'' r M κ) k r M κ = some R := by
  intro c'' hc id' hid' r M g' h κ R hR
  unfold sumAt at h
  rcases List.mem_cons.1 hc with rfl | hc
  · rw [hid] at hid'
    cases hid'
    simp only [Nat.beq_refl, cond_true] at h
    split at h
    · rename_i q hq
      obtain ⟨rfl, rfl⟩ := fitS_plug (a := q.1) (b := q.2) hq
      exact hg _ _ _ h κ R hR
    · cases h
  · obtain ⟨h1, h2⟩ := hcs c'' hc id' hid'
    have : Nat.beq id' id = false := by
      cases e : Nat.beq id' id
      · rfl
      · exact absurd (Nat.eq_of_beq_eq_true e) h2
    rw [this] at h
    exact h1 _ _ _ h κ R hR

/- sums: seal.Sum, ref2.Sum -/
abbrev U32 (n : Int) : Value := .int .u32 n
abbrev sl (b o : Nat) (sp : Option Nat) (n c : Nat) : Value := .slice (some ⟨b, o, sp⟩) n c
def stp (r x : Int) : Int := IntKind.u32.wrap (IntKind.u32.wrap (BitVec.ofInt IntKind.u32.bits r ^^^ BitVec.ofInt IntKind.u32.bits (IntKind.u32.wrap x)).toNat * 16777619)
abbrev in70 (sp : Option Nat) (n c : Nat) (r i : Int) : List Value := mk 28 [(3, U32 r), (6, sl 0 0 sp n c), (7, I n), (8, I i)]
theorem s70 (k : Nat) (κ : Kont) (sp : Option Nat) (n c e : Nat) (cs : List Value) (r i : Int) : evw T0 1 k 70 (lp 70 0) (in70 sp n c r i) [⟨cs, e, true⟩] κ =
    cond (decide (i < (n : Int))) (cond (decide (0 ≤ i) && decide (i < (n : Int))) (cond (okInt .u8 (cs[0 + i.toNat * 1]?))
      (κ .norm (in70 sp n c (stp r (intIn (cs[0 + i.toNat * 1]?))) (wr (i + 1))) [⟨cs, e, true⟩]) none) none)
      (κ (.exit 0) (mk 28 [(3, U32 r), (6, sl 0 0 sp n c), (7, I n), (8, I i), (9, B false)]) [⟨cs, e, true⟩]) := by kernel_rfl

/-- Bytes among cells. -/
def u8s (l : List Value) : Bool := l.all (isInt .u8)
def sumL : List Value → Int → Int
  | [], r => r
  | x :: xs, r => sumL xs (stp r (intOf x))

theorem l70 (k : Nat) (κ : Kont) (sp : Option Nat) (n c e : Nat) (cs : List Value) (hn : n ≤ cs.length) (hu : u8s (cs.take n) = true) (hn' : n < 9223372036854775807) : ∀ (m i fuel : Nat) (r : Int), i + m = n → m < fuel →
    loopN (fun r M κ => evw T0 1 k 70 (lp 70 0) r M κ) fuel (in70 sp n c r i) [⟨cs, e, true⟩] κ =
      κ (.exit 0) (mk 28 [(3, U32 (sumL ((cs.take n).drop i) r)), (6, sl 0 0 sp n c), (7, I n), (8, I n), (9, B false)]) [⟨cs, e, true⟩] := by
  intro m
  induction m with
  | zero =>
    intro i fuel r hi hf
    obtain ⟨fuel, rfl⟩ : ∃ n, fuel = n + 1 := ⟨fuel - 1, by omega⟩
    obtain rfl : i = n := by omega
    simp only [loopN]
    rw [s70, show decide ((i : Int) < (i : Int)) = false from by simp]
    have : (cs.take i).drop i = [] := by simp
    rw [this]
    rfl
  | succ m ih =>
    intro i fuel r hi hf
    obtain ⟨fuel, rfl⟩ : ∃ n, fuel = n + 1 := ⟨fuel - 1, by omega⟩
    simp only [loopN]
    have hlt : i < cs.length := by omega
    have hget : cs[0 + (i : Int).toNat * 1]? = some cs[i] := by simp [hlt]
    have h1 : (cs.take n).drop i = cs[i] :: (cs.take n).drop (i + 1) := by
      rw [List.drop_eq_getElem_cons (by simp; omega)]
      simp
    have h2 : isInt .u8 cs[i] = true := by
      refine List.all_eq_true.1 hu _ ?_
      rw [List.mem_take_iff_getElem]
      exact ⟨i, by omega, rfl⟩
    rw [s70, show decide ((i : Int) < (n : Int)) = true from by simp; omega, show decide ((0 : Int) ≤ (i : Int)) = true from by simp, hget]
    simp only [okInt, intIn, h2, cond_true, Bool.and_true]
    rw [wr_id (by omega) (by omega), show ((i : Int) + 1) = ((i + 1 : Nat) : Int) from by omega]
    rw [ih (i + 1) fuel _ (by omega) (by omega), h1]
    rfl

def sumG (cs : List Value) (n : Nat) (n' i : Int) : Bool := u8s (cs.take n) && Nat.ble n cs.length && Nat.ble n 4611686018427387904 && (n' == (n : Int)) && (i == 0)
theorem sumG_inv {cs : List Value} {n : Nat} {n' i : Int} (h : sumG cs n n' i = true) : u8s (cs.take n) = true ∧ n ≤ cs.length ∧ n ≤ 4611686018427387904 ∧ n' = n ∧ i = 0 := by
  simp only [sumG, Bool.and_eq_true, Nat.ble_eq, beq_iff_eq] at h
  obtain ⟨⟨⟨⟨h1, h2⟩, h3⟩, h4⟩, h5⟩ := h
  exact ⟨h1, h2, h3, h4, h5⟩
abbrev big : Nat := 4611686018427387905
def g70 : List Value → List Value → Option (Kont → Ret)
  | [.int .u32 r, .slice (some ⟨0, 0, sp⟩) n c, .int .i64 n', .int .i64 i], [.agg cs, .int .i64 e] =>
      some fun κ => cond (sumG cs.toList n n' i) (κ (.exit 0) (mk 28 [(3, U32 (sumL (cs.toList.take n) r)), (6, sl 0 0 sp n c), (7, I n), (8, I n), (9, B false)]) [⟨cs.toList, e.toNat, true⟩]) none
  | _, _ => none
def L70 : LoopFn := sumAt 3 (mkP 28 [(3, .hole), (6, .hole), (7, .hole), (8, .hole)]) [.row] g70 noSum
theorem ok70 : Okw T0 1 big 70 L70 (codeOf Try.prog 70) := by
  intro c' hc
  rw [show loopsOf (codeOf Try.prog 70) = [lp 70 0] from by kernel_rfl] at hc
  refine Okw.cons (by kernel_rfl) ?_ (fun _ h => by cases h) c' hc
  intro a b g' h κ R hR
  unfold g70 at h
  split at h
  · rename_i r sp n c n' i cs e
    cases h
    cases hn : sumG cs.toList n n' i
    · rw [hn] at hR; cases hR
    · rw [hn] at hR
      obtain ⟨h1, h2, h3, rfl, rfl⟩ := sumG_inv hn
      have := l70 big κ sp n c e.toNat cs.toList h2 h1 (by omega) n 0 big r (by omega) (by unfold big; omega)
      rw [← hR]
      exact this
  · cases h

def fin32 (r : Int) : Int :=
  let a := IntKind.u32.wrap (BitVec.ofInt IntKind.u32.bits r ^^^ BitVec.ofInt IntKind.u32.bits (r.fdiv (2 ^ 15))).toNat
  let b := IntKind.u32.wrap (a * 2246822507)
  IntKind.u32.wrap (BitVec.ofInt IntKind.u32.bits b ^^^ BitVec.ofInt IntKind.u32.bits (b.fdiv (2 ^ 13))).toNat
def sumF (l : List Value) : Int := fin32 (sumL l 2166136261)
theorem r70 (sp : Option Nat) (n c e : Nat) (cs : List Value) : bodyS Try.prog EvA T0 big L70 70 [sl 0 0 sp n c] [⟨cs, e, true⟩] 1 = cond (sumG cs n n 0) (some (U32 (sumF (cs.take n)), [⟨cs, e, true⟩])) none := by kernel_rfl

/- ref2.Sum -/
abbrev in75 (sp : Option Nat) (n c : Nat) (r i : Int) : List Value := mk 29 [(0, sl 0 0 sp n c), (3, U32 r), (4, I i)]
abbrev out75 (sp : Option Nat) (n c : Nat) (r i : Int) : List Value := mk 29 [(3, U32 r), (0, sl 0 0 sp n c), (4, I i), (5, I i), (6, sl 0 0 sp n c), (7, I n), (8, B false)]
theorem s75 (k : Nat) (κ : Kont) (sp : Option Nat) (n c e : Nat) (cs : List Value) (r i : Int) : evw T0 1 k 75 (lp 75 0) (in75 sp n c r i) [⟨cs, e, true⟩] κ =
    cond (decide (i < (n : Int))) (cond (decide (0 ≤ i) && decide (i < (n : Int))) (cond (okInt .u8 (cs[0 + i.toNat * 1]?))
      (κ .norm (in75 sp n c (stp r (intIn (cs[0 + i.toNat * 1]?))) (wr (i + 1))) [⟨cs, e, true⟩]) none) none)
      (κ (.exit 0) (out75 sp n c r i) [⟨cs, e, true⟩]) := by kernel_rfl

theorem l75 (k : Nat) (κ : Kont) (sp : Option Nat) (n c e : Nat) (cs : List Value) (hn : n ≤ cs.length) (hu : u8s (cs.take n) = true) (hn' : n < 9223372036854775807) : ∀ (m i fuel : Nat) (r : Int), i + m = n → m < fuel →
    loopN (fun r M κ => evw T0 1 k 75 (lp 75 0) r M κ) fuel (in75 sp n c r i) [⟨cs, e, true⟩] κ =
      κ (.exit 0) (out75 sp n c (sumL ((cs.take n).drop i) r) n) [⟨cs, e, true⟩] := by
  intro m
  induction m with
  | zero =>
    intro i fuel r hi hf
    obtain ⟨fuel, rfl⟩ : ∃ n, fuel = n + 1 := ⟨fuel - 1, by omega⟩
    obtain rfl : i = n := by omega
    simp only [loopN]
    rw [s75, show decide ((i : Int) < (i : Int)) = false from by simp]
    have : (cs.take i).drop i = [] := by simp
    rw [this]
    rfl
  | succ m ih =>
    intro i fuel r hi hf
    obtain ⟨fuel, rfl⟩ : ∃ n, fuel = n + 1 := ⟨fuel - 1, by omega⟩
    simp only [loopN]
    have hlt : i < cs.length := by omega
    have hget : cs[0 + (i : Int).toNat * 1]? = some cs[i] := by simp [hlt]
    have h1 : (cs.take n).drop i = cs[i] :: (cs.take n).drop (i + 1) := by
      rw [List.drop_eq_getElem_cons (by simp; omega)]
      simp
    have h2 : isInt .u8 cs[i] = true := by
      refine List.all_eq_true.1 hu _ ?_
      rw [List.mem_take_iff_getElem]
      exact ⟨i, by omega, rfl⟩
    rw [s75, show decide ((i : Int) < (n : Int)) = true from by simp; omega, show decide ((0 : Int) ≤ (i : Int)) = true from by simp, hget]
    simp only [okInt, intIn, h2, cond_true, Bool.and_true]
    rw [wr_id (by omega) (by omega), show ((i : Int) + 1) = ((i + 1 : Nat) : Int) from by omega]
    rw [ih (i + 1) fuel _ (by omega) (by omega), h1]
    rfl

def g75 : List Value → List Value → Option (Kont → Ret)
  | [.slice (some ⟨0, 0, sp⟩) n c, .int .u32 r, .int .i64 i], [.agg cs, .int .i64 e] =>
      some fun κ => cond (sumG cs.toList n n i) (κ (.exit 0) (out75 sp n c (sumL (cs.toList.take n) r) n) [⟨cs.toList, e.toNat, true⟩]) none
  | _, _ => none
def L75 : LoopFn := sumAt 3 (mkP 29 [(3, .hole), (0, .hole), (4, .hole)]) [.row] g75 noSum
theorem ok75 : Okw T0 1 big 75 L75 (codeOf Try.prog 75) := by
  intro c' hc
  rw [show loopsOf (codeOf Try.prog 75) = [lp 75 0] from by kernel_rfl] at hc
  refine Okw.cons (by kernel_rfl) ?_ (fun _ h => by cases h) c' hc
  intro a b g' h κ R hR
  unfold g75 at h
  split at h
  · rename_i sp n c r i cs e
    cases h
    cases hn : sumG cs.toList n n i
    · rw [hn] at hR; cases hR
    · rw [hn] at hR
      obtain ⟨h1, h2, h3, _, rfl⟩ := sumG_inv hn
      have := l75 big κ sp n c e.toNat cs.toList h2 h1 (by omega) n 0 big r (by omega) (by unfold big; omega)
      rw [← hR]
      exact this
  · cases h
theorem r75 (sp : Option Nat) (n c e : Nat) (cs : List Value) : bodyS Try.prog EvA T0 big L75 75 [sl 0 0 sp n c] [⟨cs, e, true⟩] 1 = cond (sumG cs n n 0) (some (U32 (sumF (cs.take n)), [⟨cs, e, true⟩])) none := by kernel_rfl

/- told at a row of its own -/
def sumT : List Value → Mem → Nat → Option (Value × Mem)
  | [.slice (some ⟨0, 0, sp⟩) n c], [⟨cs, e, true⟩], 1 => cond (sumG cs n n 0) (some (U32 (sumF (cs.take n)), [⟨cs, e, true⟩])) none
  | _, _, _ => none
abbrev Tn : CallFn := fun _ _ _ _ => none
abbrev U0 : CallFn := moreT 70 sumT (moreT 75 sumT Tn)
theorem goodU0 : CallGood Try.prog U0 := by
  refine good_moreT (good_moreT good_none ?_) ?_
  · intro args M wall R h
    unfold sumT at h
    split at h
    · rename_i sp n c cs e
      exact ⟨_, good_body evFits good0 big, bodyS_le ok75 ((r75 sp n c e cs).trans h)⟩
    · cases h
  · intro args M wall R h
    unfold sumT at h
    split at h
    · rename_i sp n c cs e
      exact ⟨_, good_body evFits good0 big, bodyS_le ok70 ((r70 sp n c e cs).trans h)⟩
    · cases h
/-- Sums, told of any row. -/
noncomputable abbrev U1 : CallFn := locCall Try.prog U0
theorem goodU1 : CallGood Try.prog U1 := good_loc goodU0
abbrev isSum (f : FuncId) : Bool := Nat.beq f 70 || Nat.beq f 75
end Go.Proofs.Yteeclgeoconekaa
