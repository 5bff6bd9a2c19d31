/-
  The geometry functions of the program and of the reference, run: what each returns, for any integers.
-/
import Derived.Test.YteeclgeoconekaaEvOk
import Derived.Test.YteeclgeoconekaaEvLoop
namespace Go.Proofs.Yteeclgeoconekaa
open Go.Ev

abbrev I (n : Int) : Value := .int .i64 n
abbrev B (b : Bool) : Value := .bool b
abbrev gv (a b c : Int) : Value := .agg #[I a, I b, I c]
abbrev gb (a b c : Int) : Blk := ⟨[I a, I b, I c], 24, true⟩
abbrev wr (n : Int) : Int := IntKind.i64.wrap n
noncomputable abbrev run (T : CallFn) (k : Nat) (f : FuncId) (args : List Value) : Ret := bodyCall Try.prog EvA T k f args [] 0

/-- What is told of calls of scalars. -/
def scal (g : FuncId → List Value → Option Value) : CallFn := fun f args M _ => (g f args).bind fun v => some (v, M)

theorem good_scal {g : FuncId → List Value → Option Value} (h : ∀ f args v, g f args = some v → args.all flat = true ∧ flatR v = true ∧ ∃ T k M1, CallGood Try.prog T ∧ run T k f args = some (v, M1)) : CallGood Try.prog (scal g) := by
  refine good_of fun f args M wall R e => ?_
  simp only [scal, Option.bind_eq_some_iff, Option.some.injEq] at e
  obtain ⟨v, hv, rfl⟩ := e
  obtain ⟨h1, h2, T, k, M1, hT, h3⟩ := h f args v hv
  exact ⟨_, good_loc (good_body evFits hT k), loc_flat h1 h2 h3 M wall⟩

theorem good0 : CallGood Try.prog (scal fun _ _ => none) := good_scal fun _ _ _ h => by cases h

/- one more function told -/
def more (f : FuncId) (s : List Value → Option Value) (g : FuncId → List Value → Option Value) : FuncId → List Value → Option Value := fun f' args => cond (Nat.beq f' f) (s args) (g f' args)

theorem good_more {f : FuncId} {s : List Value → Option Value} {g : FuncId → List Value → Option Value} (hg : CallGood Try.prog (scal g))
    (h : ∀ args v, s args = some v → args.all flat = true ∧ flatR v = true ∧ ∃ T k M1, CallGood Try.prog T ∧ run T k f args = some (v, M1)) : CallGood Try.prog (scal (more f s g)) := by
  refine good_of fun f' args M wall R e => ?_
  simp only [scal, more, Option.bind_eq_some_iff, Option.some.injEq] at e
  obtain ⟨v, hv, rfl⟩ := e
  cases hb : Nat.beq f' f
  · rw [hb] at hv
    exact ⟨_, hg, by simp only [scal]; rw [show g f' args = some v from hv]; rfl⟩
  · rw [hb] at hv
    obtain rfl := Nat.eq_of_beq_eq_true hb
    obtain ⟨h1, h2, T, k, M1, hT, h3⟩ := h args v hv
    exact ⟨_, good_loc (good_body evFits hT k), loc_flat h1 h2 h3 M wall⟩

/- shapes of arguments -/
def on3 (s : Int → Int → Int → Value) : List Value → Option Value
  | [.int .i64 a, .int .i64 b, .int .i64 c] => some (s a b c)
  | _ => none
def onG (s : Int → Int → Int → Value) : List Value → Option Value
  | [.agg xs] => on3 s xs.toList
  | _ => none

theorem on3_some {s : Int → Int → Int → Value} {args : List Value} {v : Value} (h : on3 s args = some v) : ∃ a b c, args = [I a, I b, I c] ∧ v = s a b c := by
  unfold on3 at h
  split at h
  · cases h; exact ⟨_, _, _, rfl, rfl⟩
  · cases h

theorem onG_some {s : Int → Int → Int → Value} {args : List Value} {v : Value} (h : onG s args = some v) : ∃ a b c, args = [gv a b c] ∧ v = s a b c := by
  unfold onG at h
  split at h
  · rename_i xs
    obtain ⟨a, b, c, e, rfl⟩ := on3_some h
    exact ⟨a, b, c, by congr 2; exact Array.ext' e, rfl⟩
  · cases h

theorem more3 {f : FuncId} {s : Int → Int → Int → Value} {g : FuncId → List Value → Option Value} (hg : CallGood Try.prog (scal g)) (hv : ∀ a b c, flatR (s a b c) = true)
    (T : CallFn) (hT : CallGood Try.prog T) (k : Nat) (h : ∀ a b c, ∃ M1, run T k f [I a, I b, I c] = some (s a b c, M1)) : CallGood Try.prog (scal (more f (on3 s) g)) :=
  good_more hg fun args v e => by
    obtain ⟨a, b, c, rfl, rfl⟩ := on3_some e
    obtain ⟨M1, h⟩ := h a b c
    exact ⟨rfl, hv a b c, T, k, M1, hT, h⟩

theorem moreG {f : FuncId} {s : Int → Int → Int → Value} {g : FuncId → List Value → Option Value} (hg : CallGood Try.prog (scal g)) (hv : ∀ a b c, flatR (s a b c) = true)
    (T : CallFn) (hT : CallGood Try.prog T) (k : Nat) (h : ∀ a b c, ∃ M1, run T k f [gv a b c] = some (s a b c, M1)) : CallGood Try.prog (scal (more f (onG s) g)) :=
  good_more hg fun args v e => by
    obtain ⟨a, b, c, rfl, rfl⟩ := onG_some e
    obtain ⟨M1, h⟩ := h a b c
    exact ⟨by simp [flat, flat1], hv a b c, T, k, M1, hT, h⟩

abbrev g0 : FuncId → List Value → Option Value := fun _ _ => none
abbrev T0 : CallFn := scal g0

/- geom.between, geom.long, ref5.long, ref5.May -/
def between (n lo hi : Int) : Bool := decide (lo ≤ n) && decide (n ≤ hi)
def long (b c : Int) : Int := wr (wr (1 + wr (b.tdiv 4)) + c)
def may (a b c : Int) : Bool := ((between a 1 8 && between b 4 32) && (b.tmod 4 == 0)) && between c 16 96

theorem r30 (k : Nat) (n lo hi : Int) : run T0 k 30 [I n, I lo, I hi] = cond (decide (lo ≤ n)) (some (B (decide (n ≤ hi)), [])) (some (B false, [])) := by kernel_rfl
theorem r29 (k : Nat) (a b c : Int) : run T0 k 29 [gv a b c] = some (I (long b c), [gb a b c]) := by kernel_rfl
theorem r54 (k : Nat) (a b c : Int) : run T0 k 54 [gv a b c] = some (I (long b c), [gb a b c]) := by kernel_rfl
theorem r39 (k : Nat) (a b c : Int) : run T0 k 39 [gv a b c] = cond (decide (1 ≤ a)) (cond (decide (a ≤ 8)) (cond (decide (4 ≤ b)) (cond (decide (b ≤ 32)) (cond (b.tmod 4 == 0) (cond (decide (16 ≤ c))
    (some (B (decide (c ≤ 96)), [gb a b c])) (some (B false, [gb a b c]))) (some (B false, [gb a b c]))) (some (B false, [gb a b c]))) (some (B false, [gb a b c]))) (some (B false, [gb a b c]))) (some (B false, [gb a b c])) := by kernel_rfl

theorem r30' (k : Nat) (n lo hi : Int) : ∃ M1, run T0 k 30 [I n, I lo, I hi] = some (B (between n lo hi), M1) := by
  rw [r30]
  unfold between
  cases decide (lo ≤ n)
  · exact ⟨_, rfl⟩
  · exact ⟨_, rfl⟩
theorem r39' (k : Nat) (a b c : Int) : ∃ M1, run T0 k 39 [gv a b c] = some (B (may a b c), M1) := by
  rw [r39]
  unfold may between
  cases decide (1 ≤ a) <;> cases decide (a ≤ 8) <;> cases decide (4 ≤ b) <;> cases decide (b ≤ 32) <;> cases (b.tmod 4 == 0) <;> cases decide (16 ≤ c) <;> exact ⟨_, rfl⟩

def g1 : FuncId → List Value → Option Value := more 39 (onG fun a b c => B (may a b c)) (more 54 (onG fun _ b c => I (long b c)) (more 29 (onG fun _ b c => I (long b c)) (more 30 (on3 fun n lo hi => B (between n lo hi)) g0)))
abbrev T1 : CallFn := scal g1
theorem good1 : CallGood Try.prog T1 :=
  moreG (moreG (moreG (more3 good0 (fun _ _ _ => rfl) T0 good0 0 (r30' 0)) (fun _ _ _ => rfl) T0 good0 0 fun a b c => ⟨_, r29 0 a b c⟩) (fun _ _ _ => rfl) T0 good0 0 fun a b c => ⟨_, r54 0 a b c⟩) (fun _ _ _ => rfl) T0 good0 0 (r39' 0)

/- geom.May -/
theorem r11 (k : Nat) (a b c : Int) : run T1 k 11 [gv a b c] = cond (between a 1 8) (cond (between b 4 32) (cond (b.tmod 4 == 0) (some (B (between c 16 96), [gb a b c])) (some (B false, [gb a b c]))) (some (B false, [gb a b c]))) (some (B false, [gb a b c])) := by kernel_rfl
theorem r11' (k : Nat) (a b c : Int) : ∃ M1, run T1 k 11 [gv a b c] = some (B (may a b c), M1) := by
  rw [r11]
  unfold may
  cases between a 1 8 <;> cases between b 4 32 <;> cases (b.tmod 4 == 0) <;> exact ⟨_, rfl⟩
def g2 : FuncId → List Value → Option Value := more 11 (onG fun a b c => B (may a b c)) g1
abbrev T2 : CallFn := scal g2
theorem good2 : CallGood Try.prog T2 := moreG good1 (fun _ _ _ => rfl) T1 good1 0 (r11' 0)

/- Sectors, Blocks, Inodes: both -/
def sectors (a b c : Int) : Int := cond (may a b c) (wr (2 + wr (a * long b c))) 0
def blocks (a b c : Int) : Int := cond (may a b c) (wr (a * c)) 0
def inodes (a b c : Int) : Int := cond (may a b c) (wr (a * b)) 0
theorem r10 (k : Nat) (a b c : Int) : run T2 k 10 [gv a b c] = cond (!may a b c) (some (I 0, [gb a b c])) (some (I (wr (2 + wr (a * long b c))), [gb a b c])) := by kernel_rfl
theorem r27 (k : Nat) (a b c : Int) : run T2 k 27 [gv a b c] = cond (!may a b c) (some (I 0, [gb a b c])) (some (I (wr (2 + wr (a * long b c))), [gb a b c])) := by kernel_rfl
theorem r9 (k : Nat) (a b c : Int) : run T2 k 9 [gv a b c] = cond (!may a b c) (some (I 0, [gb a b c])) (some (I (wr (a * c)), [gb a b c])) := by kernel_rfl
theorem r55 (k : Nat) (a b c : Int) : run T2 k 55 [gv a b c] = cond (!may a b c) (some (I 0, [gb a b c])) (some (I (wr (a * c)), [gb a b c])) := by kernel_rfl
theorem r26 (k : Nat) (a b c : Int) : run T2 k 26 [gv a b c] = cond (!may a b c) (some (I 0, [gb a b c])) (some (I (wr (a * b)), [gb a b c])) := by kernel_rfl
theorem r56 (k : Nat) (a b c : Int) : run T2 k 56 [gv a b c] = cond (!may a b c) (some (I 0, [gb a b c])) (some (I (wr (a * b)), [gb a b c])) := by kernel_rfl
theorem two (m : Bool) (x : Int) (M1 : Mem) : cond (!m) (some (I 0, M1)) (some (I x, M1)) = some (I (cond m x 0), M1) := by cases m <;> rfl
def g3 : FuncId → List Value → Option Value := more 10 (onG fun a b c => I (sectors a b c)) (more 27 (onG fun a b c => I (sectors a b c)) (more 9 (onG fun a b c => I (blocks a b c)) (more 55 (onG fun a b c => I (blocks a b c))
  (more 26 (onG fun a b c => I (inodes a b c)) (more 56 (onG fun a b c => I (inodes a b c)) g2)))))
abbrev T3 : CallFn := scal g3
theorem good3 : CallGood Try.prog T3 :=
  moreG (moreG (moreG (moreG (moreG (moreG good2 (fun _ _ _ => rfl) T2 good2 0 fun a b c => ⟨_, (r56 0 a b c).trans (two _ _ _)⟩) (fun _ _ _ => rfl) T2 good2 0 fun a b c => ⟨_, (r26 0 a b c).trans (two _ _ _)⟩)
    (fun _ _ _ => rfl) T2 good2 0 fun a b c => ⟨_, (r55 0 a b c).trans (two _ _ _)⟩) (fun _ _ _ => rfl) T2 good2 0 fun a b c => ⟨_, (r9 0 a b c).trans (two _ _ _)⟩) (fun _ _ _ => rfl) T2 good2 0 fun a b c => ⟨_, (r27 0 a b c).trans (two _ _ _)⟩)
    (fun _ _ _ => rfl) T2 good2 0 fun a b c => ⟨_, (r10 0 a b c).trans (two _ _ _)⟩

/- ref20.better -/
theorem r28 (k : Nat) (a b c a' b' c' : Int) : run T3 k 28 [gv a b c, gv a' b' c'] = cond (blocks a b c != blocks a' b' c') (some (B (decide (blocks a' b' c' < blocks a b c)), [gb a b c, gb a' b' c']))
    (cond (inodes a b c != inodes a' b' c') (some (B (decide (inodes a' b' c' < inodes a b c)), [gb a b c, gb a' b' c'])) (some (B (decide (a < a')), [gb a b c, gb a' b' c']))) := by kernel_rfl

end Go.Proofs.Yteeclgeoconekaa
