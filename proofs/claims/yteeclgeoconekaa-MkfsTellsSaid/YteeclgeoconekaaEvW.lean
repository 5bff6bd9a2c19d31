/-
  The evaluator as a transformer of what is wanted behind: checks stand out as conditions; loops and calls by their least fixed points; who is called is not gone through in place.
-/
import Derived.Test.YteeclgeoconekaaEvB
import Derived.Test.YteeclgeoconekaaEvFits
namespace Go.Ev
variable {P : Program} {E : TypeId → Option (List CK)} {q : FuncId → Bool}

abbrev OutP := Value × Mem → Prop
abbrev KontP := Ex → List Value → Mem → Prop
abbrev CallP := FuncId → List Value → Mem → Nat → OutP → Prop

def Br.all {α : Type} : Br α → (α → Prop) → Prop
  | .lf g x, κ => cond g (κ x) False
  | .nd c a b, κ => cond c (a.all κ) (b.all κ)
theorem Br.all_iff {α : Type} {κ : α → Prop} : ∀ {t : Br α}, t.all κ ↔ ∃ x, t.val = some x ∧ κ x := by
  intro t
  induction t with
  | lf g x => cases g <;> simp [Br.all, Br.val]
  | nd c a b iha ihb => cases c <;> simp [Br.all, Br.val, iha, ihb]

/-- What comes behind, once. -/
def apP (t : Br (Value × Mem)) (κ : OutP) : Prop := match t.val with | some p => κ p | none => False
theorem apP_iff {t : Br (Value × Mem)} {κ : OutP} : apP t κ ↔ ∃ x, t.val = some x ∧ κ x := by
  unfold apP
  cases t.val <;> simp

/-! ### what a call tells, by its type -/

def aggCs : Value → List Value
  | .agg cs => cs.toList
  | _ => []
def isAgg : Value → Bool
  | .agg _ => true
  | _ => false
def tupAt (v : Value) (i : Nat) : Value := match v with | .tuple vs => vs.toList.getD i undef | _ => undef
def isTup (v : Value) (n : Nat) : Bool := match v with | .tuple vs => Nat.beq vs.toList.length n | _ => false
def isFn : Value → Bool
  | .func (.func _) _ _ => true
  | _ => false
def fnOf : Value → FuncId
  | .func (.func g) _ _ => g
  | _ => 0
def firstOf : Value → List Value
  | .func _ f _ => f.toList
  | _ => []
def capdOf : Value → List Value
  | .func _ _ c => c.toList
  | _ => []

def fitG (P : Program) (t : TypeId) (v : Value) : Bool × Value :=
  match tyAgg P t, P.info? t with
  | some true, some i => match i.zero with
    | some z => (isAgg v && Nat.beq (aggCs v).length z.cells.toList.length && (projsG (fun j => (aggCs v)[j]?) z.cells.toList 0).1, .agg (projsG (fun j => (aggCs v)[j]?) z.cells.toList 0).2.toArray)
    | none => (true, v)
  | some false, some i => match i.zero with
    | some z => projG z (some v)
    | none => (true, v)
  | _, _ => (true, v)
def fitLs (P : Program) : List TypeId → Nat → Value → Bool × List Value
  | [], _, _ => (true, [])
  | t :: ts, j, v => ((fitG P t (tupAt v j)).1 && (fitLs P ts (j + 1) v).1, (fitG P t (tupAt v j)).2 :: (fitLs P ts (j + 1) v).2)
def fitR (P : Program) (ts : List TypeId) (v : Value) : Bool × Value :=
  match ts with
  | [] => (true, v)
  | [t] => fitG P t v
  | ts => (isTup v ts.length && (fitLs P ts 0 v).1, .tuple (fitLs P ts 0 v).2.toArray)
def fitF (P : Program) (f : FuncId) (v : Value) : Bool × Value := match P.funcs[f]? with | some fn => fitR P fn.resultTypes.toList v | none => (true, v)

theorem projsG_eq {f : Nat → Option Value} : ∀ {zs : List Value} {j : Nat}, (projsG f zs j).1 = true → (projsG f zs j).2.length = zs.length ∧ ∀ i, i < zs.length → f (j + i) = (projsG f zs j).2[i]? := by
  intro zs
  induction zs with
  | nil => intro j _; exact ⟨rfl, fun i h => by simp at h⟩
  | cons z zs ih =>
    intro j h
    simp only [projsG, Bool.and_eq_true] at h
    obtain ⟨h1, h2⟩ := ih h.2
    refine ⟨by simp [projsG, h1], fun i hi => ?_⟩
    cases i with
    | zero => simpa [projsG] using projG_ok h.1
    | succ i =>
      have := h2 i (by simpa using hi)
      rw [show j + (i + 1) = j + 1 + i by omega, this]
      simp [projsG]
theorem projsG_all {l zs : List Value} (h : (projsG (fun j => l[j]?) zs 0).1 = true) (hl : l.length = zs.length) : (projsG (fun j => l[j]?) zs 0).2 = l := by
  obtain ⟨h1, h2⟩ := projsG_eq h
  apply List.ext_getElem?
  intro i
  by_cases hi : i < zs.length
  · have := h2 i hi
    rw [← this]; simp
  · rw [List.getElem?_eq_none (by omega), List.getElem?_eq_none (by omega)]
theorem fitG_ok {t : TypeId} {v : Value} (h : (fitG P t v).1 = true) : (fitG P t v).2 = v := by
  unfold fitG at *
  split at h
  · rename_i i h1 h2
    split at h
    · rename_i z hz
      simp only [Bool.and_eq_true, Nat.beq_eq] at h ⊢
      obtain ⟨⟨ha, hl⟩, hp⟩ := h
      cases v with
      | agg cs =>
        have := projsG_all (l := aggCs (.agg cs)) hp (by simpa using hl)
        rw [this]
        simp [aggCs]
      | _ => cases ha
    · rfl
  · rename_i i h1 h2
    split at h
    · rename_i z hz
      have := projG_ok h
      simpa using this.symm
    · rfl
  · rfl
end Go.Ev

/-! ### the evaluator -/
namespace Go.Ev
variable {P : Program} {E : TypeId → Option (List CK)} {q : FuncId → Bool}

/-! ### operations on values that are not known in full -/

def fieldB (P : Program) (s : TypeId) (x : Value) (f : Nat) : Br Value :=
  match P.underlying s, x with
  | some (.struct fs), .agg cs => match fs[f]? with
    | some fd => partB P fd.type cs.toList fd.offset
    | none => .lf false undef
  | _, _ => .lf false undef
theorem fieldB_ok {s : TypeId} {x v : Value} {f : Nat} (h : (fieldB P s x f).val = some v) : evField P s x f = some v := by
  unfold fieldB at h
  split at h
  · rename_i fs cs hu
    split at h
    · rename_i fd hfd
      simp only [evField, hu, hfd]
      exact partB_ok h
    · cases h
  · cases h

def eqCB (ks : List CK) (xs ys : List Value) : Bool := match ks, xs, ys with
  | .int _ :: ks, x :: xs, y :: ys => (intOf x == intOf y) && eqCB ks xs ys
  | .bool :: ks, x :: xs, y :: ys => (boolOf x == boolOf y) && eqCB ks xs ys
  | .str :: ks, x :: xs, y :: ys => ((strOf x).toList == (strOf y).toList) && eqCB ks xs ys
  | _, _, _ => true
theorem eqCB_ok : ∀ {ks : List CK} {xs ys : List Value}, fitsAll ks xs = true → fitsAll ks ys = true → eqCells xs ys = some (eqCB ks xs ys) := by
  intro ks
  induction ks with
  | nil => intro xs ys h1 h2; cases xs <;> cases ys <;> first | rfl | (cases h1; done) | (cases h2; done)
  | cons k ks ih =>
    intro xs ys h1 h2
    cases xs with
    | nil => cases h1
    | cons x xs =>
      cases ys with
      | nil => cases h2
      | cons y ys =>
        simp only [fitsAll, Bool.and_eq_true] at h1 h2
        have := ih h1.2 h2.2
        cases k with
        | int k =>
          cases x <;> first | (cases h1.1; done) | skip
          cases y <;> first | (cases h2.1; done) | skip
          rename_i k1 a k2 b
          have e1 : k = k1 := by simpa [CK.fits] using h1.1
          have e2 : k = k2 := by simpa [CK.fits] using h2.1
          subst e1 e2
          simp [eqCells, eqCell, this, eqCB, intOf]
        | bool =>
          cases x <;> first | (cases h1.1; done) | skip
          cases y <;> first | (cases h2.1; done) | skip
          simp [eqCells, eqCell, this, eqCB, boolOf]
        | str =>
          cases x <;> first | (cases h1.1; done) | skip
          cases y <;> first | (cases h2.1; done) | skip
          simp [eqCells, eqCell, this, eqCB, strOf]
def eqAggB (E : TypeId → Option (List CK)) (t : TypeId) (neg : Bool) (xs ys : List Value) : Br Value :=
  match E t with
  | some ks => .lf (fitsAll ks xs && fitsAll ks ys) (.bool (cond neg (!eqCB ks xs ys) (eqCB ks xs ys)))
  | none => .lf false undef
theorem eqAggB_ok {t : TypeId} {neg : Bool} {xs ys : Array Value} {v : Value} (h : (eqAggB E t neg xs.toList ys.toList).val = some v) : evBin P E (cond neg .neq .eql) t (.agg xs) (.agg ys) = some v := by
  unfold eqAggB at h
  split at h
  · rename_i ks hk
    obtain ⟨h1, rfl⟩ := lf_val h
    simp only [Bool.and_eq_true] at h1
    have := eqCB_ok h1.1 h1.2
    cases neg <;> simp [evBin, evEq, hk, h1.1, h1.2, this]
  · cases h

def cellsB (P : Program) (t : TypeId) (v : Value) : Bool × List Value :=
  match tyAgg P t with
  | some true => (match v with | .agg cs => (cs.toList.all Value.oneCell', cs.toList) | _ => (false, []))
  | some false => (one1 v, [v])
  | none => (false, [])
theorem cellsB_ok {t : TypeId} {v : Value} (h : (cellsB P t v).1 = true) : v.cells.toList = (cellsB P t v).2 ∧ (cellsB P t v).2.all Value.oneCell' = true := by
  unfold cellsB at *
  split at h
  · split at h
    · exact ⟨rfl, h⟩
    · cases h
  · have h1 : one1 v = true := h
    exact ⟨by rw [one1_cells h1], by simp [one1_one h1]⟩
  · cases h
/-- The parts of a composite laid into its cells: the check, the cells. -/
def fillB (P : Program) (place : Nat → Option (Nat × Nat × TypeId)) : List Value → List (Nat × Value) → Bool × List Value
  | cells, [] => (true, cells)
  | cells, (i, v) :: rest => match place i with
    | none => (false, cells)
    | some (off, size, t) =>
      ((cellsB P t v).1 && (Nat.beq (cellsB P t v).2.length size && (Nat.ble (off + (cellsB P t v).2.length) cells.length && (fillB P place (cells.take off ++ ((cellsB P t v).2 ++ cells.drop (off + (cellsB P t v).2.length))) rest).1)),
        (fillB P place (cells.take off ++ ((cellsB P t v).2 ++ cells.drop (off + (cellsB P t v).2.length))) rest).2)
theorem fillB_ok {place : Nat → Option (Nat × Nat × TypeId)} {pl : Nat → Option (Nat × Nat)} (hp : ∀ i o s t, place i = some (o, s, t) → pl i = some (o, s)) : ∀ {parts : List (Nat × Value)} {cells : List Value}, (fillB P place cells parts).1 = true → evFill pl cells parts = some (fillB P place cells parts).2 := by
  intro parts
  induction parts with
  | nil => intro cells _; rfl
  | cons p rest ih =>
    obtain ⟨i, v⟩ := p
    intro cells h
    simp only [fillB] at h ⊢
    cases hpl : place i with
    | none => rw [hpl] at h; cases h
    | some x =>
      obtain ⟨off, size, t⟩ := x
      rw [hpl] at h
      simp only [Bool.and_eq_true] at h
      obtain ⟨h1, h2, h3, h4⟩ := h
      obtain ⟨e1, e2⟩ := cellsB_ok h1
      have e3 : v.cells.size = (cellsB P t v).2.length := by rw [← e1]; simp
      simp only [evFill, hp i off size t hpl, e1, e3, e2, h2, h3, Bool.and_self, cond_true]
      exact ih h4
def buildB (P : Program) (t : TypeId) (parts : List (Nat × Value)) : Br Value :=
  match P.info? t, P.underlying t with
  | some i, some (.struct fs) => match i.zero with
    | some z => .lf (((fs.toList.all fun f => (P.info? f.type).isSome) && z.cells.toList.all flat1) && (fillB P (fun j => (fs[j]?).bind fun f => (P.info? f.type).bind fun fi => some (f.offset, fi.size, f.type)) z.cells.toList parts).1)
        (.agg (fillB P (fun j => (fs[j]?).bind fun f => (P.info? f.type).bind fun fi => some (f.offset, fi.size, f.type)) z.cells.toList parts).2.toArray)
    | none => .lf false undef
  | some i, some (.array _ e) => match i.zero, P.info? e with
    | some z, some ei => .lf (z.cells.toList.all flat1 && (fillB P (fun j => some (j * ei.size, ei.size, e)) z.cells.toList parts).1) (.agg (fillB P (fun j => some (j * ei.size, ei.size, e)) z.cells.toList parts).2.toArray)
    | _, _ => .lf false undef
  | _, _ => .lf false undef
theorem buildB_ok {t : TypeId} {parts : List (Nat × Value)} {v : Value} (h : (buildB P t parts).val = some v) : evBuild P t parts = some v := by
  unfold buildB at h
  split at h
  · rename_i i fs hi hu
    split at h
    · rename_i z hz
      obtain ⟨h1, rfl⟩ := lf_val h
      simp only [Bool.and_eq_true] at h1
      obtain ⟨⟨h2, h3⟩, h4⟩ := h1
      have := fillB_ok (pl := fun j => (fs[j]?).bind fun f => (P.info? f.type).bind fun fi => some (f.offset, fi.size)) (by
        intro i o s t e
        simp only [Option.bind_eq_some_iff, Option.some.injEq, Prod.mk.injEq] at e ⊢
        obtain ⟨f, e1, fi, e2, rfl, rfl, rfl⟩ := e
        exact ⟨f, e1, fi, e2, rfl, rfl⟩) h4
      simp only [evBuild, hi, hu, hz, h2, h3, Bool.and_self, cond_true, this, Option.bind_some]
    · cases h
  · rename_i i n e hi hu
    split at h
    · rename_i z ei hz hei
      obtain ⟨h1, rfl⟩ := lf_val h
      simp only [Bool.and_eq_true] at h1
      obtain ⟨h3, h4⟩ := h1
      have := fillB_ok (pl := fun j => some (j * ei.size, ei.size)) (by
        intro i o s t e
        simp only [Option.some.injEq, Prod.mk.injEq] at e ⊢
        exact ⟨e.1, e.2.1⟩) h4
      simp only [evBuild, hi, hu, hz, hei, h3, cond_true, this, Option.bind_some]
    · cases h
  · cases h
def buildSliceB (P : Program) (M : Mem) (t : TypeId) (len : Nat) (parts : List (Nat × Value)) : Br (Value × Mem) :=
  match P.underlying t with
  | some (.slice e) => match P.info? e with
    | some i => match i.zero with
      | some z => .lf ((Nat.ble (len * i.size) 16777216 && Nat.blt 0 i.size && Nat.beq z.cells.size i.size && z.cells.toList.all flat1) && (fillB P (fun j => some (j * i.size, i.size, e)) (zeros z.cells.toList len) parts).1)
          (.slice (some ⟨M.length, 0, none⟩) len len, M ++ [⟨(fillB P (fun j => some (j * i.size, i.size, e)) (zeros z.cells.toList len) parts).2, e, true⟩])
      | none => .lf false (undef, M)
    | none => .lf false (undef, M)
  | _ => .lf false (undef, M)
theorem buildSliceB_ok {M : Mem} {t : TypeId} {len : Nat} {parts : List (Nat × Value)} {p : Value × Mem} (h : (buildSliceB P M t len parts).val = some p) : evBuildSlice P M t len parts = some p := by
  unfold buildSliceB at h
  split at h
  · rename_i e hu
    split at h
    · rename_i i hi
      split at h
      · rename_i z hz
        obtain ⟨h1, rfl⟩ := lf_val h
        simp only [Bool.and_eq_true] at h1
        obtain ⟨⟨⟨⟨g1, g2⟩, g3⟩, g4⟩, h4⟩ := h1
        have := fillB_ok (pl := fun j => some (j * i.size, i.size)) (by
          intro i o s t e
          simp only [Option.some.injEq, Prod.mk.injEq] at e ⊢
          exact ⟨e.1, e.2.1⟩) h4
        simp only [evBuildSlice, hu, hi, hz, g1, g2, g3, g4, Bool.and_self, cond_true, this, Option.bind_some]
      · cases h
    · cases h
  · cases h

/-- One operation but a call, as a tree of checks. -/
def stepX (P : Program) (E : TypeId → Option (List CK)) (q : FuncId → Bool) (wall : Nat) (r : List Value) (M : Mem) (op : Op) : Br (Value × Mem) :=
  match op with
  | .field t x f => valB M (fieldB P t (ev r x) f)
  | .binOp .eql t x y u => match ev r y with
    | .agg ys => (match ev r x with | .agg xs => valB M (eqAggB E t false xs.toList ys.toList) | _ => .lf false (undef, M))
    | _ => stepB P E q dummyB wall r M (.binOp .eql t x y u)
  | .binOp .neq t x y u => match ev r y with
    | .agg ys => (match ev r x with | .agg xs => valB M (eqAggB E t true xs.toList ys.toList) | _ => .lf false (undef, M))
    | _ => stepB P E q dummyB wall r M (.binOp .neq t x y u)
  | .binOp .add t x y u => match ev r y with
    | .string b => (match ev r x with | .string a => .lf (decide ((a.size : Int) + b.size ≤ 9223372036854775807)) (.string (a ++ b), M) | _ => .lf false (undef, M))
    | _ => stepB P E q dummyB wall r M (.binOp .add t x y u)
  | .build t parts => valB M (buildB P t (parts.toList.map fun p => (p.1, ev r p.2)))
  | .buildSlice t n parts => buildSliceB P M t n (parts.toList.map fun p => (p.1, ev r p.2))
  | op => stepB P E q dummyB wall r M op
theorem stepX_ok {wall : Nat} {r : List Value} {M : Mem} {op : Op} {p : Value × Mem} (h : (stepX P E q wall r M op).val = some p) : evStep P E q (plainB dummyB) wall r M op = some p := by
  unfold stepX at h
  split at h
  · obtain ⟨h1, h2⟩ := valB_val h
    have := fieldB_ok h2
    obtain ⟨v, M1⟩ := p
    subst h1
    simp only [evStep, evPure, this, Option.bind_some]
  · split at h
    · rename_i ys hy
      split at h
      · rename_i xs hx
        obtain ⟨h1, h2⟩ := valB_val h
        have := eqAggB_ok (P := P) (neg := false) h2
        obtain ⟨v, M1⟩ := p
        subst h1
        simp only [evStep, evPure, hx, hy]
        rw [show BinOp.eql = cond false .neq .eql from rfl, this]
        rfl
      · cases h
    · exact stepB_ok dummy_quiet h
  · split at h
    · rename_i ys hy
      split at h
      · rename_i xs hx
        obtain ⟨h1, h2⟩ := valB_val h
        have := eqAggB_ok (P := P) (neg := true) h2
        obtain ⟨v, M1⟩ := p
        subst h1
        simp only [evStep, evPure, hx, hy]
        rw [show BinOp.neq = cond true .neq .eql from rfl, this]
        rfl
      · cases h
    · exact stepB_ok dummy_quiet h
  · split at h
    · rename_i b hy
      split at h
      · rename_i a hx
        obtain ⟨h1, rfl⟩ := lf_val h
        simp only [decide_eq_true_eq] at h1
        simp [evStep, evPure, hx, hy, evBin, strOp, h1]
      · cases h
    · exact stepB_ok dummy_quiet h
  · obtain ⟨h1, h2⟩ := valB_val h
    have := buildB_ok h2
    obtain ⟨v, M1⟩ := p
    subst h1
    simp only [evStep, evPure, this, Option.bind_some]
  · exact buildSliceB_ok h
  · exact stepB_ok dummy_quiet h

/-- One operation, with what comes behind. -/
def execP (P : Program) (E : TypeId → Option (List CK)) (q : FuncId → Bool) (CK : CallP) (wall : Nat) (r : List Value) (M : Mem) (op : Op) (κ : OutP) : Prop :=
  match op with
  | .call ⟨.value f, args, _⟩ => cond (isFn (ev r f)) (CK (fnOf (ev r f)) (firstOf (ev r f) ++ (args.toList.map (ev r) ++ capdOf (ev r f))) M (cond (q (fnOf (ev r f))) M.length wall) fun p =>
      cond (fitF P (fnOf (ev r f)) p.1).1 (κ ((fitF P (fnOf (ev r f)) p.1).2, p.2)) False) False
  | .call ⟨.builtin .append, args, ts⟩ => apP (stepX P E q wall r M (.call ⟨.builtin .append, args, ts⟩)) κ
  | op => (stepX P E q wall r M op).all κ

def guardP (ops : Array Oper) (o : Oper) (cg : Guarded) (r : List Value) (exec skip : Guarded → List Value → Prop) : Prop :=
  match o.guard with
  | none => exec cg r
  | some (j, want) =>
    match decided cg j want with
    | some true => exec cg r
    | some false => skip cg r
    | none =>
      match guardVal ops r j with
      | .bool b => cond want
          (cond b (exec (some (j, want, true)) (bare r ((ops[j]?).bind (·.dst)) true)) (skip (some (j, want, false)) (bare r ((ops[j]?).bind (·.dst)) false)))
          (cond b (skip (some (j, want, false)) (bare r ((ops[j]?).bind (·.dst)) true)) (exec (some (j, want, true)) (bare r ((ops[j]?).bind (·.dst)) false)))
      | v => cond (isSk v) (skip cg r) False

def evOpsP (P : Program) (E : TypeId → Option (List CK)) (q : FuncId → Bool) (CK : CallP) (ops : Array Oper) (wallOf : Nat → List Value → Nat) :
    List Nat → Guarded → List Value → Mem → (List Value → Mem → Prop) → Prop
  | [], _, r, M, κ => κ r M
  | i :: rest, cg, r, M, κ =>
    match ops[i]? with
    | none => False
    | some o => guardP ops o cg r
        (fun cg r => execP P E q CK (wallOf i r) r M o.op fun p => evOpsP P E q CK ops wallOf rest (keepsGuard ops cg o.dst) (put r o.dst p.1) p.2 κ)
        (fun cg r => evOpsP P E q CK ops wallOf rest (keepsGuard ops cg o.dst) (put r o.dst sk) M κ)

/-- A list laid out, place by place. -/
def forceP {α : Type} : List α → (List α → Prop) → Prop
  | [], k => k []
  | x :: xs, k => forceP xs fun xs => k (x :: xs)
theorem forceP_eq {α : Type} (l : List α) : ∀ k : List α → Prop, forceP l k = k l := by
  induction l with
  | nil => intro k; rfl
  | cons x l ih => intro k; rw [forceP, ih]

/-- A call that leaves one thing alone. -/
def dP (CK : CallP) : CallP := fun g args M wall κ => ∃ p, CK g args M wall (fun p' => p' = p) ∧ κ p

def backP (L X : Option (List Nat)) (κ : KontP) : KontP := fun e r M => match e with
  | .norm => forceP (keepO L r) fun r => κ .norm r M
  | e => forceP (keepO X r) fun r => κ e r M
/-- What lives behind a loop stands behind the blocks'. -/
def loopAt (id : Nat) : Nat := id + 131072
def exitLive (ann : Nat → RAnn) (c : Code) : Option (List Nat) := match firstReg c with | some id => (ann (loopAt id)).live | none => none

abbrev RunP := List Value → Mem → KontP → Prop
/-- Rounds, to their end. -/
def loopP (T : RunP) : RunP := fun r M κ => ∀ Y : List Value → Mem → Prop, (∀ r M, T r M (fun e r M => match e with | .norm => Y r M | e => κ e r M) → Y r M) → Y r M

def evP (P : Program) (E : TypeId → Option (List CK)) (q : FuncId → Bool) (ann : Nat → RAnn) (CK : CallP) (wall : Nat) : Code → List Value → Mem → KontP → Prop
  | .skip, r, M, κ => κ .norm r M
  | .label _, r, M, κ => κ .norm r M
  | .seq a b, r, M, κ => evP P E q ann CK wall a r M fun e r M => match e with
    | .norm => evP P E q ann CK wall b r M κ
    | e => κ e r M
  | .cond c a b, r, M, κ => match ev r c with
    | .bool t => cond t (evP P E q ann CK wall a (bareOp r c true) M κ) (evP P E q ann CK wall b (bareOp r c false) M κ)
    | _ => False
  | .block id c, r, M, κ => evP P E q ann CK wall c r M fun e r M => match e with
    | .norm => forceP (keepO (ann (blkAt id)).live r) fun r => κ .norm r M
    | .exit j => cond (Nat.beq j id) (forceP (keepO (ann (blkAt id)).live r) fun r => κ .norm r M) (κ (.exit j) r M)
    | .ret => κ .ret r M
  | .scope c, r, M, κ => evP P E q ann CK wall c r M κ
  | .loop c, r, M, κ => forceP (keepO (headLive ann c) r) fun r => loopP (fun r M κ => evP P E q ann CK wall c r M (backP (headLive ann c) (exitLive ann c) κ)) r M κ
  | .exit id, r, M, κ => κ (.exit id) r M
  | .ret, r, M, κ => κ .ret r M
  | .region id ops draw, r, M, κ =>
    forceP (keepO (ann id).live r) fun r =>
      cond draw (evOpsP P E q (dP CK) ops (wallFor ops (ann id).conf wall) (ann id).ord none r M fun r M => κ .norm r M)
        (evOpsP P E q CK ops (fun _ _ => wall) (List.range ops.size) none r M fun r M => κ .norm r M)
  | _, _, _, _ => False

/-! ### it grows with what is wanted, and with what is told -/

def MonoP (C C' : CallP) : Prop := ∀ g args M wall (Q Q' : OutP), (∀ p, Q p → Q' p) → C g args M wall Q → C' g args M wall Q'

theorem condP_mono {b : Bool} {a a' c c' : Prop} (h1 : a → a') (h2 : c → c') (h : cond b a c) : cond b a' c' := by cases b <;> first | exact h2 h | exact h1 h

theorem execP_mono {C C' : CallP} (hC : MonoP C C') {wall : Nat} {r : List Value} {M : Mem} {op : Op} {κ κ' : OutP} (hκ : ∀ p, κ p → κ' p) (h : execP P E q C wall r M op κ) : execP P E q C' wall r M op κ' := by
  unfold execP at *
  split at h
  · exact condP_mono (hC _ _ _ _ _ _ fun p => condP_mono (hκ _) id) id h
  · obtain ⟨x, h1, h2⟩ := apP_iff.1 h
    exact apP_iff.2 ⟨x, h1, hκ _ h2⟩
  · obtain ⟨x, h1, h2⟩ := Br.all_iff.1 h
    exact Br.all_iff.2 ⟨x, h1, hκ _ h2⟩

theorem guardP_mono {ops : Array Oper} {o : Oper} {cg : Guarded} {r : List Value} {e e' s s' : Guarded → List Value → Prop} (h1 : ∀ cg r, e cg r → e' cg r) (h2 : ∀ cg r, s cg r → s' cg r) (h : guardP ops o cg r e s) : guardP ops o cg r e' s' := by
  unfold guardP at *
  split at h
  · exact h1 _ _ h
  · split at h
    · exact h1 _ _ h
    · exact h2 _ _ h
    · split at h
      · exact condP_mono (condP_mono (h1 _ _) (h2 _ _)) (condP_mono (h2 _ _) (h1 _ _)) h
      · exact condP_mono (h2 _ _) id h

theorem evOpsP_mono {C C' : CallP} (hC : MonoP C C') {ops : Array Oper} {wallOf : Nat → List Value → Nat} : ∀ (ord : List Nat) (cg : Guarded) (r : List Value) (M : Mem) (κ κ' : List Value → Mem → Prop), (∀ r M, κ r M → κ' r M) →
    evOpsP P E q C ops wallOf ord cg r M κ → evOpsP P E q C' ops wallOf ord cg r M κ' := by
  intro ord
  induction ord with
  | nil => intro cg r M κ κ' hκ h; exact hκ _ _ h
  | cons i rest ih =>
    intro cg r M κ κ' hκ h
    cases ho : ops[i]? with
    | none => simp only [evOpsP, ho] at h
    | some o =>
      simp only [evOpsP, ho] at h ⊢
      exact guardP_mono (fun cg r => execP_mono hC fun p => ih _ _ _ _ _ hκ) (fun cg r => ih _ _ _ _ _ hκ) h

theorem dP_mono {C C' : CallP} (hC : MonoP C C') : MonoP (dP C) (dP C') := fun g args M wall Q Q' hQ ⟨p, h1, h2⟩ => ⟨p, hC _ _ _ _ _ _ (fun _ h => h) h1, hQ _ h2⟩

theorem loopP_mono {T T' : RunP} (hT : ∀ r M (κ κ' : KontP), (∀ e r M, κ e r M → κ' e r M) → T r M κ → T' r M κ') {r : List Value} {M : Mem} {κ κ' : KontP} (hκ : ∀ e r M, κ e r M → κ' e r M) (h : loopP T r M κ) : loopP T' r M κ' :=
  fun Y hY => h Y fun r M ht => hY r M (hT _ _ _ _ (fun e r M => by cases e <;> first | exact fun h => h | exact hκ _ _ _) ht)

theorem backP_mono {L X : Option (List Nat)} {κ κ' : KontP} (h : ∀ e r M, κ e r M → κ' e r M) : ∀ e r M, backP L X κ e r M → backP L X κ' e r M := by
  intro e r M
  cases e <;> (simp only [backP, forceP_eq]; exact h _ _ _)

theorem evP_mono {ann : Nat → RAnn} {C C' : CallP} (hC : MonoP C C') {wall : Nat} : ∀ (c : Code) (r : List Value) (M : Mem) (κ κ' : KontP), (∀ e r M, κ e r M → κ' e r M) → evP P E q ann C wall c r M κ → evP P E q ann C' wall c r M κ' := by
  intro c
  induction c with
  | skip => intro r M κ κ' hκ h; exact hκ _ _ _ h
  | label l => intro r M κ κ' hκ h; exact hκ _ _ _ h
  | exit id => intro r M κ κ' hκ h; exact hκ _ _ _ h
  | ret => intro r M κ κ' hκ h; exact hκ _ _ _ h
  | seq x y ihx ihy =>
    intro r M κ κ' hκ h
    simp only [evP] at h ⊢
    exact ihx _ _ _ _ (fun e r M => by cases e <;> first | exact ihy _ _ _ _ hκ | exact hκ _ _ _) h
  | cond b x y ihx ihy =>
    intro r M κ κ' hκ h
    simp only [evP] at h ⊢
    split at h
    · exact condP_mono (ihx _ _ _ _ hκ) (ihy _ _ _ _ hκ) h
    · exact h
  | block id x ih =>
    intro r M κ κ' hκ h
    simp only [evP, forceP_eq] at h ⊢
    exact ih _ _ _ _ (fun e r M => by cases e <;> first | exact hκ _ _ _ | exact condP_mono (hκ _ _ _) (hκ _ _ _)) h
  | scope x ih => intro r M κ κ' hκ h; simp only [evP] at h ⊢; exact ih _ _ _ _ hκ h
  | loop x ih =>
    intro r M κ κ' hκ h
    simp only [evP, forceP_eq] at h ⊢
    exact loopP_mono (fun r M κ κ' hκ h => ih r M _ _ (backP_mono hκ) h) hκ h
  | region id ops draw =>
    intro r M κ κ' hκ h
    simp only [evP, forceP_eq] at h ⊢
    exact condP_mono (evOpsP_mono (dP_mono hC) _ _ _ _ _ _ fun r M => hκ _ _ _) (evOpsP_mono hC _ _ _ _ _ _ fun r M => hκ _ _ _) h
  | goto l => intro r M κ κ' hκ h; simp [evP] at h
  | rangeFunc f ps x y ihx ihy => intro r M κ κ' hκ h; simp [evP] at h
  | refuse s => intro r M κ κ' hκ h; simp [evP] at h

/-- A round, and then the rest. -/
theorem loopP_of {T : RunP} (hT : ∀ r M (κ κ' : KontP), (∀ e r M, κ e r M → κ' e r M) → T r M κ → T r M κ') {r : List Value} {M : Mem} {κ : KontP} (h : T r M (fun e r M => match e with | .norm => loopP T r M κ | e => κ e r M)) : loopP T r M κ :=
  fun Y hY => hY r M (hT _ _ _ _ (fun e r M => by cases e <;> first | exact fun h => h Y hY | exact fun h => h) h)
theorem loopP_un {T : RunP} (hT : ∀ r M (κ κ' : KontP), (∀ e r M, κ e r M → κ' e r M) → T r M κ → T r M κ') {r : List Value} {M : Mem} {κ : KontP} (h : loopP T r M κ) : T r M (fun e r M => match e with | .norm => loopP T r M κ | e => κ e r M) :=
  h (fun r M => T r M (fun e r M => match e with | .norm => loopP T r M κ | e => κ e r M)) fun r M ht => hT _ _ _ _ (fun e r M => by cases e <;> first | exact loopP_of hT | exact fun h => h) ht

/-- A round's end: another round, or out. -/
def nextK (T : RunP) (κ : KontP) : KontP := fun e r M => match e with | .norm => loopP T r M κ | e => κ e r M

/-! ### functions -/

def retP (P : Program) (quiet : Bool) (M0 : Mem) (fn : Func) (Q : OutP) : KontP := fun e r M => match e with
  | .exit _ => False
  | _ => cond (resG P fn r M).1 (Q (cond quiet (trim P M0 M (resG P fn r M).2) ((resG P fn r M).2, M))) False
def bodyP (P : Program) (A : Ann) (CK : CallP) (f : FuncId) (args : List Value) (M : Mem) (wall : Nat) (Q : OutP) : Prop :=
  match P.funcs[f]? with
  | none => False
  | some fn => match fn.body with
    | none => False
    | some c => evP P A.E A.q (A.reg f) CK (cond (A.q f) M.length wall) c (start fn args) M (retP P (A.q f) M fn Q)

/-- What is told ahead of some functions. -/
structure Told0 where
  told : FuncId → Bool
  base : CallP

def stepW (P : Program) (A : Ann) (S : Told0) (X : CallP) : CallP := fun f args M wall Q =>
  cond (S.told f) (S.base f args M wall Q) (fnOk P A f = true ∧ bodyP P A X f args M wall Q)

/-- What calls come to. -/
def WP (P : Program) (A : Ann) (S : Told0) : CallP := fun f args M wall Q => ∀ X : CallP, (∀ f args M wall Q, stepW P A S X f args M wall Q → X f args M wall Q) → X f args M wall Q

theorem bodyP_mono {A : Ann} {X X' : CallP} (hX : MonoP X X') {f : FuncId} {args : List Value} {M : Mem} {wall : Nat} {Q Q' : OutP} (hQ : ∀ p, Q p → Q' p) (h : bodyP P A X f args M wall Q) : bodyP P A X' f args M wall Q' := by
  unfold bodyP at *
  split at h
  · exact h
  · split at h
    · exact h
    · exact evP_mono hX _ _ _ _ _ (fun e r M => by cases e <;> first | exact condP_mono (hQ _) id | exact id) h
theorem stepW_mono {A : Ann} {S : Told0} (hS : ∀ f args M wall (Q Q' : OutP), (∀ p, Q p → Q' p) → S.base f args M wall Q → S.base f args M wall Q') {X X' : CallP} (hX : MonoP X X') : MonoP (stepW P A S X) (stepW P A S X') :=
  fun f args M wall Q Q' hQ h => condP_mono (hS _ _ _ _ _ _ hQ) (fun h => ⟨h.1, bodyP_mono hX hQ h.2⟩) h
end Go.Ev

/-! ### the least fixed point -/
namespace Go.Ev
variable {P : Program} {E : TypeId → Option (List CK)} {q : FuncId → Bool}

/-- What is told of a call holds of the model's. -/
def CallSem (P : Program) (f : FuncId) (args : List Value) (M : Mem) (wall : Nat) (Q : OutP) : Prop :=
  ∀ (φ : Fi) (args' : Array Value) (w : World), Rel φ M wall w → wall ≤ M.length → VRs φ args args'.toList →
    Calls P f args' w fun e w' => ∃ φ' v v' M', e = .returned v' ∧ VR φ' v v' ∧ Post φ φ' M M' wall w w' ∧ Keeps M M' wall ∧ Q (v, M')
def DefP (P : Program) (f : FuncId) : Prop := ∃ fn, P.funcs[f]? = some fn ∧ fn.body.isSome = true ∧ (fn.name == "runtime.NumGoroutine") = false
/-- What two runs of one call have in common. -/
def PairQ (P : Program) (q : FuncId → Bool) (f : FuncId) (M : Mem) (wall : Nat) (Q Q' : OutP) : Prop :=
  ∃ p, Q p ∧ Q' p ∧ Keeps M p.2 wall ∧ (q f = true → trim P M p.2 p.1 = p ∧ Keeps M p.2 M.length)

structure Told0Ok (P : Program) (A : Ann) (S : Told0) : Prop where
  mono : ∀ f args M wall (Q Q' : OutP), (∀ p, Q p → Q' p) → S.base f args M wall Q → S.base f args M wall Q'
  pair : ∀ f args M wall Q Q', S.base f args M wall Q → S.base f args M wall Q' → PairQ P A.q f M wall Q Q'
  isDef : ∀ f args M wall Q, S.base f args M wall Q → DefP P f
  sound : ∀ f args M wall Q, S.base f args M wall Q → CallSem P f args M wall Q

variable {A : Ann} {S : Told0}

theorem WP_mono (hS : Told0Ok P A S) : MonoP (WP P A S) (WP P A S) := fun f args M wall Q Q' hQ h =>
  h (fun f args M wall Q => ∀ Q' : OutP, (∀ p, Q p → Q' p) → WP P A S f args M wall Q')
    (fun f args M wall Q hs Q' hQ' X hX => hX _ _ _ _ _ (stepW_mono hS.mono (fun g as M w Q1 Q2 h12 h => h Q2 h12 X hX) _ _ _ _ _ _ hQ' hs)) Q' hQ
theorem WP_of (hS : Told0Ok P A S) {f : FuncId} {args : List Value} {M : Mem} {wall : Nat} {Q : OutP} (h : stepW P A S (WP P A S) f args M wall Q) : WP P A S f args M wall Q := fun X hX =>
  hX _ _ _ _ _ (stepW_mono (X := WP P A S) (X' := X) hS.mono (fun g as M w Q1 Q2 h12 h => WP_mono hS g as M w Q1 Q2 h12 h X hX) f args M wall Q Q (fun _ h => h) h)
theorem WP_un (hS : Told0Ok P A S) {f : FuncId} {args : List Value} {M : Mem} {wall : Nat} {Q : OutP} (h : WP P A S f args M wall Q) : stepW P A S (WP P A S) f args M wall Q :=
  h (stepW P A S (WP P A S)) fun f args M wall Q hs => stepW_mono (X := stepW P A S (WP P A S)) (X' := WP P A S) hS.mono (fun g as M w Q1 Q2 h12 h => WP_mono hS g as M w Q1 Q2 h12 (WP_of hS h)) f args M wall Q Q (fun _ h => h) hs
theorem WP_ind (hS : Told0Ok P A S) {X : CallP} (hX : ∀ f args M wall Q, stepW P A S (fun f args M wall Q => WP P A S f args M wall Q ∧ X f args M wall Q) f args M wall Q → X f args M wall Q)
    {f : FuncId} {args : List Value} {M : Mem} {wall : Nat} {Q : OutP} (h : WP P A S f args M wall Q) : X f args M wall Q := by
  refine (h (fun f args M wall Q => (∀ Q' : OutP, (∀ p, Q p → Q' p) → WP P A S f args M wall Q' ∧ X f args M wall Q')) ?_ Q (fun _ h => h)).2
  intro f args M wall Q hs Q' hQ
  have hs' : stepW P A S (fun f args M wall Q => WP P A S f args M wall Q ∧ X f args M wall Q) f args M wall Q' := stepW_mono hS.mono (fun g as M w Q1 Q2 h12 h => h Q2 h12) _ _ _ _ _ _ hQ hs
  exact ⟨WP_of hS (stepW_mono hS.mono (fun g as M w Q1 Q2 h12 h => WP_mono hS _ _ _ _ _ _ h12 h.1) _ _ _ _ _ _ (fun _ h => h) hs'), hX _ _ _ _ _ hs'⟩

/-- A function's body, gone through. -/
theorem WP_body (hS : Told0Ok P A S) {f : FuncId} {args : List Value} {M : Mem} {wall : Nat} {Q : OutP} (ht : S.told f = false) (hf : fnOk P A f = true) (h : bodyP P A (WP P A S) f args M wall Q) : WP P A S f args M wall Q := by
  refine WP_of hS ?_
  unfold stepW
  rw [ht]
  exact ⟨hf, h⟩

theorem fnOk_def {f : FuncId} {fn : Func} (hf : fnOk P A f = true) (hfn : P.funcs[f]? = some fn) : (fn.name == "runtime.NumGoroutine") = false ∧ ∀ c, fn.body = some c → plansOk P A.q (A.reg f) c = true := by
  simp only [fnOk, hfn, Bool.and_eq_true, Bool.not_eq_true'] at hf
  refine ⟨hf.1, fun c hc => ?_⟩
  have := hf.2
  rw [hc] at this
  exact this

theorem stepW_def (hS : Told0Ok P A S) {X : CallP} {f : FuncId} {args : List Value} {M : Mem} {wall : Nat} {Q : OutP} (h : stepW P A S X f args M wall Q) : DefP P f := by
  unfold stepW at h
  cases ht : S.told f
  · rw [ht] at h
    obtain ⟨h1, h2⟩ := h
    unfold bodyP at h2
    split at h2
    · exact h2.elim
    · rename_i fn hfn
      split at h2
      · exact h2.elim
      · rename_i c hc
        exact ⟨fn, hfn, by simp [hc], (fnOk_def h1 hfn).1⟩
  · rw [ht] at h
    exact hS.isDef _ _ _ _ _ h
theorem WP_def (hS : Told0Ok P A S) {f : FuncId} {args : List Value} {M : Mem} {wall : Nat} {Q : OutP} (h : WP P A S f args M wall Q) : DefP P f := stepW_def hS (WP_un hS h)

/-! ### two runs -/

theorem guardP_ok {ops : Array Oper} {o : Oper} {cg : Guarded} {r : List Value} {exec skip : Guarded → List Value → Prop} (h : guardP ops o cg r exec skip) (ht : Told ops cg r) :
    ∃ cg' b, Told ops cg' r ∧ wantedV ops o r = some b ∧ cond b (exec cg' r) (skip cg' r) ∧ ∀ exec' skip', guardP ops o cg r exec' skip' = cond b (exec' cg' r) (skip' cg' r) := by
  unfold guardP at h
  split at h
  · rename_i hg
    exact ⟨cg, true, ht, by simp [wantedV, hg], h, fun e s => by simp [guardP, hg]⟩
  · rename_i j want hg
    have dec : ∀ d, decided cg j want = some d → wantedV ops o r = some d := by
      intro d hd
      unfold decided at hd
      split at hd
      · rename_i j' w' d'
        cases hb : (Nat.beq j' j && (w' == want))
        · rw [hb] at hd; cases hd
        · rw [hb] at hd
          cases hd
          simp only [Bool.and_eq_true, Nat.beq_eq, beq_iff_eq] at hb
          obtain ⟨rfl, rfl⟩ := hb
          obtain ⟨b, h1, h2⟩ := ht _ _ _ rfl
          simp [wantedV, hg, h1, h2]
      · cases hd
    split at h
    · rename_i hd
      exact ⟨cg, true, ht, dec true hd, h, fun e s => by simp [guardP, hg, hd]⟩
    · rename_i hd
      exact ⟨cg, false, ht, dec false hd, h, fun e s => by simp [guardP, hg, hd]⟩
    · rename_i hd
      split at h
      · rename_i b hb
        have hbe := bare_eq hb
        cases want <;> cases b <;> simp only [cond_true, cond_false] at h <;> rw [hbe] at h
        · exact ⟨some (j, false, true), true, fun j' w' d' e => by cases e; exact ⟨false, hb, rfl⟩, by simp [wantedV, hg, hb], h, fun e s => by simp [guardP, hg, hd, hb, hbe]⟩
        · exact ⟨some (j, false, false), false, fun j' w' d' e => by cases e; exact ⟨true, hb, rfl⟩, by simp [wantedV, hg, hb], h, fun e s => by simp [guardP, hg, hd, hb, hbe]⟩
        · exact ⟨some (j, true, false), false, fun j' w' d' e => by cases e; exact ⟨false, hb, rfl⟩, by simp [wantedV, hg, hb], h, fun e s => by simp [guardP, hg, hd, hb, hbe]⟩
        · exact ⟨some (j, true, true), true, fun j' w' d' e => by cases e; exact ⟨true, hb, rfl⟩, by simp [wantedV, hg, hb], h, fun e s => by simp [guardP, hg, hd, hb, hbe]⟩
      · rename_i hno
        cases hs : isSk (guardVal ops r j)
        · rw [hs] at h; exact h.elim
        · rw [hs] at h
          refine ⟨cg, false, ht, ?_, h, fun e s => ?_⟩
          · simp only [wantedV, hg]
            cases hv : guardVal ops r j with
            | bool b => exact absurd hv (hno b)
            | _ => rw [hv] at hs; simp [hs]
          · simp only [guardP, hg, hd]
            cases hv : guardVal ops r j with
            | bool b => exact absurd hv (hno b)
            | _ => rw [hv] at hs; simp [hs]

theorem dummy_keeps : CallKeeps (plainB dummyB) := fun _ _ _ _ _ _ h => by cases h
theorem stepB_keeps {wall : Nat} {r : List Value} {M : Mem} {op : Op} {p : Value × Mem} (h : (stepX P E q wall r M op).val = some p) : Keeps M p.2 wall := step_keeps (P := P) (E := E) (q := q) dummy_keeps (stepX_ok h)

def PairC (C1 C2 : CallP) : Prop := ∀ g args M wall Q Q', C1 g args M wall Q → C2 g args M wall Q' → ∃ p, Q p ∧ Q' p ∧ Keeps M p.2 wall
theorem condP_true {b : Bool} {a : Prop} (h : cond b a False) : b = true ∧ a := by cases b <;> first | exact h.elim | exact ⟨rfl, h⟩

theorem Keeps.wallQ {M M' : Mem} {wall : Nat} {b : Bool} (h : Keeps M M' (cond b M.length wall)) : Keeps M M' wall := by
  cases b
  · exact h
  · exact ⟨h.1, fun b _ hl => h.2 b hl hl⟩

theorem execP_pair {C1 C2 : CallP} (hC : PairC C1 C2) {wall : Nat} {r : List Value} {M : Mem} {op : Op} {κ1 κ2 : OutP} (h1 : execP P E q C1 wall r M op κ1) (h2 : execP P E q C2 wall r M op κ2) : ∃ p, κ1 p ∧ κ2 p ∧ Keeps M p.2 wall := by
  unfold execP at h1 h2
  split at h1
  · obtain ⟨_, h1⟩ := condP_true h1
    obtain ⟨_, h2⟩ := condP_true h2
    obtain ⟨p, g1, g2, g3⟩ := hC _ _ _ _ _ _ h1 h2
    exact ⟨_, (condP_true g1).2, (condP_true g2).2, g3.wallQ⟩
  · obtain ⟨x, e1, g1⟩ := apP_iff.1 h1
    obtain ⟨y, e2, g2⟩ := apP_iff.1 h2
    rw [e1] at e2
    cases e2
    exact ⟨x, g1, g2, stepB_keeps e1⟩
  · rename_i hn1 hn2
    obtain ⟨x, e1, g1⟩ := Br.all_iff.1 h1
    have h2' : (stepX P E q wall r M op).all κ2 := by
      split at h2
      · exact absurd rfl (hn1 _ _ _)
      · exact absurd rfl (hn2 _ _)
      · exact h2
    obtain ⟨y, e2, g2⟩ := Br.all_iff.1 h2'
    rw [e1] at e2
    cases e2
    exact ⟨x, g1, g2, stepB_keeps e1⟩

theorem evOpsP_pair {C1 C2 : CallP} (hC : PairC C1 C2) {ops : Array Oper} {wallOf : Nat → List Value → Nat} {wall : Nat} (hwall : ∀ i r, wall ≤ wallOf i r) : ∀ (ord : List Nat) (cg : Guarded) (r : List Value) (M : Mem) (κ1 κ2 : List Value → Mem → Prop), Told ops cg r →
    evOpsP P E q C1 ops wallOf ord cg r M κ1 → evOpsP P E q C2 ops wallOf ord cg r M κ2 → ∃ r' M', κ1 r' M' ∧ κ2 r' M' ∧ Keeps M M' wall := by
  intro ord
  induction ord with
  | nil => intro cg r M κ1 κ2 _ h1 h2; exact ⟨r, M, h1, h2, .refl _ _⟩
  | cons i rest ih =>
    intro cg r M κ1 κ2 ht h1 h2
    cases ho : ops[i]? with
    | none => simp only [evOpsP, ho] at h1
    | some o =>
      simp only [evOpsP, ho] at h1 h2
      obtain ⟨cg', b, t1, t2, t3, t4⟩ := guardP_ok h1 ht
      rw [t4] at h2
      cases b with
      | true =>
        simp only [cond_true] at t3 h2
        obtain ⟨p, g1, g2, g3⟩ := execP_pair hC t3 h2
        obtain ⟨r', M', k1, k2, k3⟩ := ih _ _ _ _ _ (t1.put o.dst p.1) g1 g2
        exact ⟨r', M', k1, k2, (g3.mono (hwall _ _)).trans k3⟩
      | false =>
        simp only [cond_false] at t3 h2
        exact ih _ _ _ _ _ (t1.put o.dst sk) t3 h2

theorem dP_pair {C1 C2 : CallP} (hC : PairC C1 C2) : PairC (dP C1) (dP C2) := fun g args M wall Q Q' ⟨p1, a1, b1⟩ ⟨p2, a2, b2⟩ => by
  obtain ⟨p, e1, e2, k⟩ := hC _ _ _ _ _ _ a1 a2
  subst e1 e2
  exact ⟨_, b1, b2, k⟩

theorem evP_pair {ann : Nat → RAnn} {C1 C2 : CallP} (hC : PairC C1 C2) (hM : MonoP C2 C2) {wall : Nat} : ∀ (c : Code) (r : List Value) (M : Mem) (κ1 κ2 : KontP), evP P E q ann C1 wall c r M κ1 → evP P E q ann C2 wall c r M κ2 →
    ∃ e r' M', κ1 e r' M' ∧ κ2 e r' M' ∧ Keeps M M' wall := by
  intro c
  induction c with
  | skip => intro r M κ1 κ2 h1 h2; exact ⟨_, _, _, h1, h2, .refl _ _⟩
  | label l => intro r M κ1 κ2 h1 h2; exact ⟨_, _, _, h1, h2, .refl _ _⟩
  | exit id => intro r M κ1 κ2 h1 h2; exact ⟨_, _, _, h1, h2, .refl _ _⟩
  | ret => intro r M κ1 κ2 h1 h2; exact ⟨_, _, _, h1, h2, .refl _ _⟩
  | seq x y ihx ihy =>
    intro r M κ1 κ2 h1 h2
    simp only [evP] at h1 h2
    obtain ⟨e, r', M', g1, g2, k⟩ := ihx _ _ _ _ h1 h2
    cases e with
    | norm =>
      obtain ⟨e2, r2, M2, a1, a2, k2⟩ := ihy _ _ _ _ g1 g2
      exact ⟨_, _, _, a1, a2, k.trans k2⟩
    | exit id => exact ⟨_, _, _, g1, g2, k⟩
    | ret => exact ⟨_, _, _, g1, g2, k⟩
  | cond b x y ihx ihy =>
    intro r M κ1 κ2 h1 h2
    simp only [evP] at h1 h2
    split at h1
    · rename_i t hb
      simp only [hb] at h2
      cases t
      · exact ihy _ _ _ _ h1 h2
      · exact ihx _ _ _ _ h1 h2
    · exact h1.elim
  | block id x ih =>
    intro r M κ1 κ2 h1 h2
    simp only [evP, forceP_eq] at h1 h2
    obtain ⟨e, r', M', g1, g2, k⟩ := ih _ _ _ _ h1 h2
    cases e with
    | norm => exact ⟨_, _, _, g1, g2, k⟩
    | ret => exact ⟨_, _, _, g1, g2, k⟩
    | exit j =>
      dsimp only at g1 g2
      cases hj : Nat.beq j id
      · rw [hj] at g1 g2; exact ⟨_, _, _, g1, g2, k⟩
      · rw [hj] at g1 g2; exact ⟨_, _, _, g1, g2, k⟩
  | scope x ih => intro r M κ1 κ2 h1 h2; simp only [evP] at h1 h2; exact ih _ _ _ _ h1 h2
  | loop x ih =>
    intro r M κ1 κ2 h1 h2
    simp only [evP, forceP_eq] at h1 h2
    have hT : ∀ r M (κ κ' : KontP), (∀ e r M, κ e r M → κ' e r M) → evP P E q ann C2 wall x r M (backP (headLive ann x) (exitLive ann x) κ) → evP P E q ann C2 wall x r M (backP (headLive ann x) (exitLive ann x) κ') :=
      fun r M κ κ' hκ => evP_mono hM _ _ _ _ _ (backP_mono hκ)
    refine h1 (fun r M => loopP (fun r M κ => evP P E q ann C2 wall x r M (backP (headLive ann x) (exitLive ann x) κ)) r M κ2 → ∃ e r' M', κ1 e r' M' ∧ κ2 e r' M' ∧ Keeps M M' wall) ?_ h2
    intro r M t1 t2
    have t2 := loopP_un hT t2
    obtain ⟨e, r', M', g1, g2, k⟩ := ih _ _ _ _ t1 t2
    cases e with
    | norm =>
      simp only [backP, forceP_eq] at g1 g2
      obtain ⟨e2, r2, M2, a1, a2, k2⟩ := g1 g2
      exact ⟨_, _, _, a1, a2, k.trans k2⟩
    | exit id =>
      simp only [backP, forceP_eq] at g1 g2
      exact ⟨_, _, _, g1, g2, k⟩
    | ret =>
      simp only [backP, forceP_eq] at g1 g2
      exact ⟨_, _, _, g1, g2, k⟩
  | region id ops draw =>
    intro r M κ1 κ2 h1 h2
    simp only [evP, forceP_eq] at h1 h2
    cases draw with
    | false =>
      obtain ⟨r', M', g1, g2, k⟩ := evOpsP_pair hC (fun _ _ => Nat.le_refl _) _ _ _ _ _ _ (fun _ _ _ e => by cases e) h1 h2
      exact ⟨_, _, _, g1, g2, k⟩
    | true =>
      obtain ⟨r', M', g1, g2, k⟩ := evOpsP_pair (dP_pair hC) (wallFor_ge _ _ _) _ _ _ _ _ _ (fun _ _ _ e => by cases e) h1 h2
      exact ⟨_, _, _, g1, g2, k⟩
  | goto l => intro r M κ1 κ2 h1 h2; simp [evP] at h1
  | rangeFunc f ps x y ihx ihy => intro r M κ1 κ2 h1 h2; simp [evP] at h1
  | refuse s => intro r M κ1 κ2 h1 h2; simp [evP] at h1

theorem trim1_again {M M' : Mem} {v v' : Value} {k : Blk} (h : trim1 P M M' v = some (v', k)) : trim1 P M (M ++ [k]) v' = some (v', k) := by
  obtain ⟨a, n, c, k0, rfl, hk, hge, hl, hok, hfit, hflat, rfl, rfl⟩ := trim1_some h
  have hcell : P.cellsOf k0.elem = 1 := by
    simp only [trim1, hk] at h
    cases hb : (Nat.ble M.length a.block && k0.live && Nat.beq (P.cellsOf k0.elem) 1 && trimOk a && Nat.ble (a.off + trimLen a n c) k0.cells.length && ((k0.cells.drop a.off).take (trimLen a n c)).all flat1)
    · rw [hb] at h; cases h
    · simp only [Bool.and_eq_true, Nat.beq_eq] at hb
      exact hb.1.1.1.2
  have hlen : ((k0.cells.drop a.off).take (trimLen a n c)).length = trimLen a n c := by rw [List.length_take, List.length_drop]; omega
  have hok' : trimOk ⟨M.length, 0, a.spot⟩ = true := hok
  have htl : trimLen ⟨M.length, 0, a.spot⟩ n (trimLen a n c) = trimLen a n c := by
    cases hs : a.spot <;> simp [trimLen, hs]
  have hget : (M ++ [(⟨(k0.cells.drop a.off).take (trimLen a n c), k0.elem, true⟩ : Blk)])[M.length]? = some ⟨(k0.cells.drop a.off).take (trimLen a n c), k0.elem, true⟩ := by simp
  have htake : ((k0.cells.drop a.off).take (trimLen a n c)).take (trimLen a n c) = (k0.cells.drop a.off).take (trimLen a n c) := by rw [List.take_take, Nat.min_self]
  have hle : Nat.ble (0 + trimLen a n c) ((k0.cells.drop a.off).take (trimLen a n c)).length = true := by rw [hlen]; exact Nat.ble_eq_true_of_le (by omega)
  have hge' : Nat.ble M.length M.length = true := Nat.ble_eq_true_of_le (Nat.le_refl _)
  simp only [trim1, hget, htl, hcell, Nat.beq_refl, hok', hle, List.drop_zero, htake, hflat, hge', Bool.and_self, cond_true]

theorem trim_again (M M' : Mem) (v : Value) : trim P M (trim P M M' v).2 (trim P M M' v).1 = trim P M M' v := by
  cases hf : flatR v with
  | true =>
    have e : trim P M M' v = (v, M) := by simp [trim, hf]
    rw [e]
    simp [trim, hf]
  | false =>
    have whole : trim P M M' v = (v, M') → trim P M (trim P M M' v).2 (trim P M M' v).1 = trim P M M' v := fun e => by rw [e]; exact e
    by_cases hw : trim P M M' v = (v, M')
    · exact whole hw
    · cases v with
      | tuple vs =>
        have e0 : trim P M M' (.tuple vs) = (match vs.toList with
          | [a, b] => cond (flat b) (match trim1 P M M' a with | some (a', k) => (.tuple #[a', b], M ++ [k]) | none => (.tuple vs, M')) (.tuple vs, M')
          | _ => (.tuple vs, M')) := by simp only [trim, hf, cond_false]; rfl
        split at e0
        · rename_i a b hab
          cases hb : flat b
          · rw [hb] at e0; exact whole e0
          · rw [hb] at e0
            simp only [cond_true] at e0
            cases ht : trim1 P M M' a with
            | none => rw [ht] at e0; exact whole e0
            | some x =>
              obtain ⟨a', k⟩ := x
              rw [ht] at e0
              dsimp only at e0
              rw [e0]
              obtain ⟨a0, n0, c0, k0, rfl, _, _, _, _, _, _, rfl, _⟩ := trim1_some ht
              have hf2 : flatR (.tuple #[.slice (some ⟨M.length, 0, a0.spot⟩) n0 (trimLen a0 n0 c0), b]) = false := by simp [flatR, flat, flat1]
              simp only [trim, hf2, cond_false, hb, cond_true, trim1_again ht]
        · exact whole e0
      | slice a n c =>
        have e0 : trim P M M' (.slice a n c) = (match trim1 P M M' (.slice a n c) with | some (v', k) => (v', M ++ [k]) | none => (.slice a n c, M')) := by simp only [trim, hf, cond_false]; rfl
        cases ht : trim1 P M M' (.slice a n c) with
        | none => rw [ht] at e0; exact whole e0
        | some x =>
          obtain ⟨v', k⟩ := x
          rw [ht] at e0
          dsimp only at e0
          rw [e0]
          obtain ⟨a0, n0, c0, k0, _, _, _, _, _, _, _, rfl, _⟩ := trim1_some ht
          have hf2 : flatR (.slice (some ⟨M.length, 0, a0.spot⟩) n0 (trimLen a0 n0 c0)) = false := by simp [flatR, flat, flat1]
          simp only [trim, hf2, cond_false, trim1_again ht]
      | _ => exact absurd (by simp only [trim, hf, cond_false, trim1]; try rfl) hw

theorem bodyP_pair {C1 C2 : CallP} (hC : PairC C1 C2) (hM : MonoP C2 C2) {f : FuncId} {args : List Value} {M : Mem} {wall : Nat} {Q Q' : OutP} (h1 : bodyP P A C1 f args M wall Q) (h2 : bodyP P A C2 f args M wall Q') : PairQ P A.q f M wall Q Q' := by
  unfold bodyP at h1 h2
  cases hfn : P.funcs[f]? with
  | none => rw [hfn] at h1; exact h1.elim
  | some fn =>
    rw [hfn] at h1 h2
    dsimp only at h1 h2
    cases hb : fn.body with
    | none => rw [hb] at h1; exact h1.elim
    | some c =>
      rw [hb] at h1 h2
      dsimp only at h1 h2
      obtain ⟨e, r', M', g1, g2, k⟩ := evP_pair hC hM _ _ _ _ _ h1 h2
      have fin : cond (resG P fn r' M').1 (Q (cond (A.q f) (trim P M M' (resG P fn r' M').2) ((resG P fn r' M').2, M'))) False → cond (resG P fn r' M').1 (Q' (cond (A.q f) (trim P M M' (resG P fn r' M').2) ((resG P fn r' M').2, M'))) False → PairQ P A.q f M wall Q Q' := by
        intro a1 a2
        refine ⟨_, (condP_true a1).2, (condP_true a2).2, ?_⟩
        cases hq : A.q f
        · rw [hq] at k
          exact ⟨k, fun e => by cases e⟩
        · rw [hq] at k
          have kt := trim_keeps (P := P) M M' (resG P fn r' M').2 (fun b hb => k.2 b hb hb) k.1
          exact ⟨⟨kt.1, fun b _ hl => kt.2 b hl hl⟩, fun _ => ⟨trim_again _ _ _, kt⟩⟩
      cases e with
      | norm => exact fin g1 g2
      | ret => exact fin g1 g2
      | exit id => exact g1.elim

theorem WP_pair (hS : Told0Ok P A S) {f : FuncId} {args : List Value} {M : Mem} {wall : Nat} {Q Q' : OutP} (h1 : WP P A S f args M wall Q) (h2 : WP P A S f args M wall Q') : PairQ P A.q f M wall Q Q' := by
  refine WP_ind hS (X := fun f args M wall Q => ∀ Q' : OutP, WP P A S f args M wall Q' → PairQ P A.q f M wall Q Q') ?_ h1 Q' h2
  intro f args M wall Q hs Q' h2
  have h2 := WP_un hS h2
  unfold stepW at hs h2
  cases ht : S.told f
  · rw [ht] at hs h2
    exact bodyP_pair (fun g args M wall Q Q' a b => let ⟨p, x, y, z, _⟩ := a.2 Q' b; ⟨p, x, y, z⟩) (WP_mono hS) hs.2 h2.2
  · rw [ht] at hs h2
    exact hS.pair _ _ _ _ _ _ hs h2
/-- One outcome. -/
theorem WP_one (hS : Told0Ok P A S) {f : FuncId} {args : List Value} {M : Mem} {wall : Nat} {p p' : Value × Mem} (h1 : WP P A S f args M wall (· = p)) (h2 : WP P A S f args M wall (· = p')) : p = p' := by
  obtain ⟨x, e1, e2, _⟩ := WP_pair hS h1 h2
  exact e1.symm.trans e2
end Go.Ev


/-
  What the transformer tells holds of the model's calls.
-/
namespace Go.Ev
variable {P : Program} {E : TypeId → Option (List CK)} {q : FuncId → Bool}

/-! ### loops of the model -/

/-- A loop, from within. -/
def loopIn (P : Program) (c : Code) (Q : Exit → Act → World → Prop) (a : Act) (w : World) : Prop :=
  ∀ (b : Frame) (k : List Item) (cs : List Frame), ∃ e a' w', Q e a' w' ∧ Arrives P (lone (b.at a (.code c :: .inLoop c :: k)) cs w) b k cs e a' w'
theorem loopIn_step {c : Code} {Q : Exit → Act → World → Prop} {a : Act} {w : World} (h : c.wp P (Exit.then (loopIn P c Q) Q) a w) : loopIn P c Q a w := by
  intro b k cs
  obtain ⟨e, a₁, w₁, hq, harr⟩ := h b (.inLoop c :: k) cs
  cases e with
  | normal =>
    obtain ⟨e₂, a₂, w₂, hq₂, harr₂⟩ := hq b k cs
    exact ⟨e₂, a₂, w₂, hq₂, .of_steps (Steps.trans harr (.one step_inLoop)) harr₂⟩
  | exit id => exact ⟨_, a₁, w₁, hq, .pass (x := .inLoop c) rfl (fun _ _ => .inl (by simp)) harr⟩
  | goto l => exact ⟨_, a₁, w₁, hq, .pass (x := .inLoop c) rfl (fun _ _ => .inl (by simp)) harr⟩
  | ret => exact ⟨_, a₁, w₁, hq, .pass (x := .inLoop c) rfl (fun _ _ => .inl (by simp)) harr⟩
  | panic ch => exact ⟨_, a₁, w₁, hq, .pass (x := .inLoop c) rfl (fun _ _ => .inl (by simp)) harr⟩
  | outgrown => exact ⟨_, a₁, w₁, hq, .pass (x := .inLoop c) rfl (fun _ _ => .inl (by simp)) harr⟩
theorem wp_of_loopIn {c : Code} {Q : Exit → Act → World → Prop} {a : Act} {w : World} (h : loopIn P c Q a w) : (Code.loop c).wp P Q a w := fun b k cs =>
  let ⟨e, a', w', hq, harr⟩ := h b k cs; ⟨e, a', w', hq, .of_steps (.one step_loop) harr⟩

/-! ### operations -/

theorem dummy_ok : CallOk P (plainB dummyB) := fun _ _ _ _ _ _ h => by cases h
theorem dummy_def : CallDef P (plainB dummyB) := fun _ _ _ _ _ h => by cases h

theorem isFn_eq {v : Value} (h : isFn v = true) : ∃ g xs ys, v = .func (.func g) xs ys := by
  unfold isFn at h
  split at h
  · exact ⟨_, _, _, rfl⟩
  · cases h

theorem VR.func_inv {φ : Fi} {g : FuncId} {xs ys : Array Value} {v' : Value} (h : VR φ (.func (.func g) xs ys) v') : ∃ xs' ys', v' = .func (.func g) xs' ys' ∧ VRs φ xs.toList xs'.toList ∧ VRs φ ys.toList ys'.toList := by
  have harr : ∀ (xs ys : Array Value), xs.size = ys.size → (∀ i (h1 : i < xs.size) (h2 : i < ys.size), VR φ xs[i] ys[i]) → VRs φ xs.toList ys.toList := by
    intro xs ys hs hc
    refine ⟨by simpa using hs, fun i u u' h1 h2 => ?_⟩
    have i1 : i < xs.size := by simpa using lt_of_getElem? h1
    have i2 : i < ys.size := by simpa using lt_of_getElem? h2
    have e1 : xs[i] = u := by simpa [i1] using h1
    have e2 : ys[i] = u' := by simpa [i2] using h2
    exact e1 ▸ e2 ▸ hc i i1 i2
  cases h with
  | scal _ h => cases h
  | func _ _ xs' _ ys' hs ht hcs hds => exact ⟨xs', ys', rfl, harr _ _ hs hcs, harr _ _ ht hds⟩

theorem fitLs_ok : ∀ {ts : List TypeId} {j : Nat} {v : Value}, (fitLs P ts j v).1 = true → (fitLs P ts j v).2 = (List.range' j ts.length).map (tupAt v) := by
  intro ts
  induction ts with
  | nil => intro j v _; rfl
  | cons t ts ih =>
    intro j v h
    simp only [fitLs, Bool.and_eq_true] at h
    simp only [fitLs, ih h.2, fitG_ok h.1, List.length_cons, List.range'_succ, List.map_cons]
theorem fitR_ok {ts : List TypeId} {v : Value} (h : (fitR P ts v).1 = true) : (fitR P ts v).2 = v := by
  unfold fitR at *
  split at h
  · rfl
  · exact fitG_ok h
  · simp only [Bool.and_eq_true] at h
    obtain ⟨h1, h2⟩ := h
    show Value.tuple (fitLs P ts 0 v).2.toArray = v
    rw [fitLs_ok h2]
    cases v with
    | tuple vs =>
      simp only [isTup, Nat.beq_eq] at h1
      congr 1
      apply Array.ext'
      apply List.ext_getElem?
      intro i
      simp only [List.getElem?_map]
      by_cases hi : i < vs.toList.length
      · rw [List.getElem?_range' (by omega)]
        simp [tupAt, List.getD, List.getElem?_eq_getElem hi]
      · rw [List.getElem?_eq_none (by simpa using (by omega : ts.length ≤ i) ), List.getElem?_eq_none (by omega)]
        rfl
    | _ => cases h1
theorem fitF_ok {f : FuncId} {v : Value} (h : (fitF P f v).1 = true) : (fitF P f v).2 = v := by
  unfold fitF at *
  split at h
  · exact fitR_ok h
  · rfl

structure SemC (P : Program) (q : FuncId → Bool) (C : CallP) : Prop where
  sem : ∀ g args M wall Q, C g args M wall Q → CallSem P g args M wall Q
  isDef : ∀ g args M wall Q, C g args M wall Q → DefP P g
  pair : ∀ g args M wall Q Q', C g args M wall Q → C g args M wall Q' → PairQ P q g M wall Q Q'

theorem args_rel {φ : Fi} {r : List Value} {a : Act} (hrr : RR φ r a.tmps) {args : Array Operand} {xs ys xs' ys' : Array Value} (h1 : VRs φ xs.toList xs'.toList) (h2 : VRs φ ys.toList ys'.toList) :
    VRs φ (xs.toList ++ (args.toList.map (ev r) ++ ys.toList)) (xs' ++ args.map a.eval ++ ys').toList := by
  have e : (xs' ++ args.map a.eval ++ ys').toList = xs'.toList ++ (args.toList.map a.eval ++ ys'.toList) := by simp
  rw [e]
  exact h1.append ((VRs.map_ev _ fun y _ => hrr.ev y).append h2)

theorem execP_wp (hE : EqOk P E) {C : CallP} (hC : SemC P q C) {o : Oper} {a : Act} {w : World} {wall : Nat} {r : List Value} {M : Mem} {κ : OutP} {φ : Fi}
    (h : execP P E q C wall r M o.op κ) (hr : Rel φ M wall w) (hw : wall ≤ M.length) (hrr : RR φ r a.tmps) {next : Act → World → Prop} {Q : Exit → Act → World → Prop}
    (hn : ∀ φ' p v' w', κ p → VR φ' p.1 v' → Post φ φ' M p.2 wall w w' → Keeps M p.2 wall → next (a.put o.dst v') w') : o.wp P a w next Q := by
  unfold execP at h
  split at h
  · rename_i f args ts hop
    obtain ⟨hf, h⟩ := condP_true h
    obtain ⟨g, xs, ys, e⟩ := isFn_eq hf
    have hv := hrr.ev f
    rw [e] at h hv
    obtain ⟨xs', ys', e', h1, h2⟩ := hv.func_inv
    obtain ⟨fn, d1, d2, d3⟩ := hC.isDef _ _ _ _ _ h
    have hw' : wall ≤ cond (q g) M.length wall := by cases q g <;> first | exact Nat.le_refl _ | exact hw
    have hw2 : cond (q g) M.length wall ≤ M.length := by cases q g <;> first | exact hw | exact Nat.le_refl _
    refine upon_call hop e' d1 d2 d3 ((hC.sem _ _ _ _ _ h φ _ w (hr.weaken hw') hw2 (args_rel hrr h1 h2)).mono ?_)
    rintro e w' ⟨φ', v, v', M', rfl, e2, e3, e4, e5⟩
    obtain ⟨g1, g2⟩ := condP_true e5
    have hfit := fitF_ok g1
    dsimp only at g2 hfit
    rw [hfit] at g2
    exact hn φ' _ v' w' g2 e2 (e3.lower hr hw' hw2 fun b hb => e4.2 b hb (Nat.lt_of_lt_of_le hb hw2)) e4.wallQ
  · rename_i args ts hop
    obtain ⟨x, h1, h2⟩ := apP_iff.1 h
    have hs := stepX_ok h1
    rw [← hop] at hs
    exact step_wp hE dummy_ok dummy_keeps dummy_def hs hr hw hrr fun φ' v' w' hv hp => hn φ' x v' w' h2 hv hp (stepB_keeps h1)
  · obtain ⟨x, h1, h2⟩ := Br.all_iff.1 h
    have hs := stepX_ok h1
    exact step_wp hE dummy_ok dummy_keeps dummy_def hs hr hw hrr fun φ' v' w' hv hp => hn φ' x v' w' h2 hv hp (stepB_keeps h1)

theorem evOpsP_wp (hE : EqOk P E) {C : CallP} (hC : SemC P q C) {ops : Array Oper} {wall : Nat} {Q : Exit → Act → World → Prop} : ∀ (ord : List Nat) (cg : Guarded) (r : List Value) (M : Mem) (κ : List Value → Mem → Prop), Told ops cg r →
    evOpsP P E q C ops (fun _ _ => wall) ord cg r M κ → ∀ {φ : Fi} {a : Act} {w : World}, Rel φ M wall w → wall ≤ M.length → RR φ r a.tmps → a.defers = [] →
    (∀ φ' r' M' a' w', κ r' M' → RR φ' r' a'.tmps → Post φ φ' M M' wall w w' → Keeps M M' wall → a'.defers = [] → Q .normal a' w') → wpOps P ops Q ord a w := by
  intro ord
  induction ord with
  | nil => intro cg r M κ _ h φ a w hr hw hrr hdf hq; exact hq φ r M a w h hrr (Post.refl hr) (.refl _ _) hdf
  | cons i rest ih =>
    intro cg r M κ ht h φ a w hr hw hrr hdf hq
    cases ho : ops[i]? with
    | none => simp only [evOpsP, ho] at h
    | some o =>
      simp only [evOpsP, ho] at h
      obtain ⟨cg', b, t1, t2, t3, _⟩ := guardP_ok h ht
      cases b with
      | true =>
        simp only [cond_true] at t3
        simp only [wpOps, ho, wanted_of hrr t2, if_true]
        left
        refine execP_wp hE hC t3 hr hw hrr fun φ1 p v1 w1 hκ hv hp hk => ?_
        refine ih _ _ _ _ (t1.put o.dst p.1) hκ hp.rel (hp.rel_wall hw) ((hrr.mono hp.ext).put o.dst hv) (by cases hdst : o.dst <;> simp [Act.put, hdf]) fun φ2 r2 M2 a2 w2 hκ2 hrr2 hp2 hk2 hdf2 => ?_
        exact hq φ2 r2 M2 a2 w2 hκ2 hrr2 (hp.trans hr hp2) (hk.trans hk2) hdf2
      | false =>
        simp only [cond_false] at t3
        simp only [wpOps, ho, wanted_of hrr t2, Bool.false_eq_true, if_false]
        exact ih _ _ _ _ (t1.put o.dst sk) t3 hr hw (hrr.put o.dst .sk) (by cases hdst : o.dst <;> simp [Act.put, hdf]) hq

/-! ### regions that draw -/

open Classical in
noncomputable def oneOf (C : CallP) : CallFn := fun f args M wall => if h : ∃ p, C f args M wall (fun p' => p' = p) then some (Classical.choose h) else none
theorem oneOf_some {C : CallP} (hC : SemC P q C) {f : FuncId} {args : List Value} {M : Mem} {wall : Nat} {p : Value × Mem} (h : C f args M wall (fun p' => p' = p)) : oneOf C f args M wall = some p := by
  unfold oneOf
  have hex : ∃ p, C f args M wall (fun p' => p' = p) := ⟨p, h⟩
  rw [dif_pos hex]
  obtain ⟨x, e1, e2, _⟩ := hC.pair _ _ _ _ _ _ (Classical.choose_spec hex) h
  rw [← e1, ← e2]
theorem oneOf_inv {C : CallP} {f : FuncId} {args : List Value} {M : Mem} {wall : Nat} {p : Value × Mem} (h : oneOf C f args M wall = some p) : C f args M wall (fun p' => p' = p) := by
  unfold oneOf at h
  split at h
  · rename_i hex
    cases h
    exact Classical.choose_spec hex
  · cases h
theorem oneOf_ok {C : CallP} (hC : SemC P q C) : CallOk P (oneOf C) := fun f args M wall v M' h φ args' w hr hw ha => (hC.sem _ _ _ _ _ (oneOf_inv h) φ args' w hr hw ha).mono fun e w' ⟨φ', v1, v', M1, e1, e2, e3, _, e5⟩ => by
  cases e5
  exact ⟨φ', v', e1, e2, e3⟩
theorem oneOf_keeps {C : CallP} (hC : SemC P q C) : CallKeeps (oneOf C) := fun f args M wall v M' h => by
  obtain ⟨p, e1, _, k, _⟩ := hC.pair _ _ _ _ _ _ (oneOf_inv h) (oneOf_inv h)
  subst e1
  exact k
theorem oneOf_def {C : CallP} (hC : SemC P q C) : CallDef P (oneOf C) := fun f args M wall r h => hC.isDef _ _ _ _ _ (oneOf_inv h)

theorem execP_step {C : CallP} (hC : SemC P q C) {wall : Nat} {r : List Value} {M : Mem} {op : Op} {κ : OutP} (h : execP P E q (dP C) wall r M op κ) : ∃ p, evStep P E q (oneOf C) wall r M op = some p ∧ κ p := by
  have other : (∀ f args ts, op ≠ .call ⟨.value f, args, ts⟩) → ∀ p, (stepX P E q wall r M op).val = some p → evStep P E q (oneOf C) wall r M op = some p := fun hn p hp => by
    rw [step_indep (c2 := plainB dummyB) hn]
    exact stepX_ok hp
  unfold execP at h
  split at h
  · rename_i f args ts
    obtain ⟨hf, p, h1, h2⟩ := condP_true h
    obtain ⟨g, xs, ys, e⟩ := isFn_eq hf
    obtain ⟨g1, g2⟩ := condP_true h2
    have hfit := fitF_ok g1
    rw [hfit] at g2
    refine ⟨p, ?_, g2⟩
    rw [e] at h1
    have h1' := oneOf_some hC h1
    obtain ⟨x, e1, _, k, kq⟩ := hC.pair _ _ _ _ _ _ h1 h1
    subst e1
    simp only [evStep, e, evCallee]
    cases hq : q g
    · rw [show fnOf (.func (.func g) xs ys) = g from rfl, hq] at h1'
      exact h1'
    · rw [show fnOf (.func (.func g) xs ys) = g from rfl, hq] at h1'
      have ht := (kq hq).1
      simp only [cond_true] at h1' ⊢
      rw [show firstOf (.func (.func g) xs ys) = xs.toList from rfl, show capdOf (.func (.func g) xs ys) = ys.toList from rfl] at h1'
      rw [h1']
      simp [ht]
  · obtain ⟨x, h1, h2⟩ := apP_iff.1 h
    exact ⟨x, other (fun f args ts e => by cases e) x h1, h2⟩
  · rename_i hn1 hn2
    obtain ⟨x, h1, h2⟩ := Br.all_iff.1 h
    exact ⟨x, other (fun f args ts e => hn1 f args ts e) x h1, h2⟩

theorem evOpsP_tr {C : CallP} (hC : SemC P q C) {ops : Array Oper} {wallOf : Nat → List Value → Nat} : ∀ (ord : List Nat) (cg : Guarded) (r : List Value) (M : Mem) (κ : List Value → Mem → Prop), Told ops cg r →
    evOpsP P E q (dP C) ops wallOf ord cg r M κ → ∃ r' M', Tr P E q (oneOf C) ops wallOf ord r M r' M' ∧ κ r' M' := by
  intro ord
  induction ord with
  | nil => intro cg r M κ _ h; exact ⟨r, M, .nil r M, h⟩
  | cons i rest ih =>
    intro cg r M κ ht h
    cases ho : ops[i]? with
    | none => simp only [evOpsP, ho] at h
    | some o =>
      simp only [evOpsP, ho] at h
      obtain ⟨cg', b, t1, t2, t3, _⟩ := guardP_ok h ht
      cases b with
      | true =>
        simp only [cond_true] at t3
        obtain ⟨⟨v, M1⟩, h1, h2⟩ := execP_step hC t3
        obtain ⟨r', M', g1, g2⟩ := ih _ _ _ _ (t1.put o.dst v) h2
        exact ⟨r', M', .exec i rest o r M M1 v r' M' ho t2 h1 g1, g2⟩
      | false =>
        simp only [cond_false] at t3
        obtain ⟨r', M', g1, g2⟩ := ih _ _ _ _ (t1.put o.dst sk) t3
        exact ⟨r', M', .skip i rest o r M r' M' ho t2 g1, g2⟩

/-! ### code -/

theorem evP_wp (hE : EqOk P E) (hm : P.follows .mixedOrders = true) {C : CallP} (hC : SemC P q C) {ann : Nat → RAnn} {wall : Nat} : ∀ (c : Code), plansOk P q ann c = true → ∀ (r : List Value) (M : Mem) (κ : KontP), evP P E q ann C wall c r M κ →
    ∀ {φ : Fi} {a : Act} {w : World}, Rel φ M wall w → wall ≤ M.length → RR φ r a.tmps → a.defers = [] → ∀ {Q : Exit → Act → World → Prop},
    (∀ φ' e r' M' a' w', κ e r' M' → RR φ' r' a'.tmps → Post φ φ' M M' wall w w' → Keeps M M' wall → a'.defers = [] → Q (toExit e) a' w') → c.wp P Q a w := by
  intro c
  induction c with
  | skip => intro _ r M κ h φ a w hr hw hrr hdf Q hq; exact wp_skip (hq φ .norm r M a w h hrr (Post.refl hr) (.refl _ _) hdf)
  | label l => intro _ r M κ h φ a w hr hw hrr hdf Q hq; exact wp_label (hq φ .norm r M a w h hrr (Post.refl hr) (.refl _ _) hdf)
  | exit id => intro _ r M κ h φ a w hr hw hrr hdf Q hq; exact wp_exit (hq φ (.exit id) r M a w h hrr (Post.refl hr) (.refl _ _) hdf)
  | ret => intro _ r M κ h φ a w hr hw hrr hdf Q hq; exact wp_ret (hq φ .ret r M a w h hrr (Post.refl hr) (.refl _ _) hdf)
  | seq x y ihx ihy =>
    intro hp r M κ h φ a w hr hw hrr hdf Q hq
    simp only [plansOk, Bool.and_eq_true] at hp
    simp only [evP] at h
    refine wp_seq (ihx hp.1 _ _ _ h hr hw hrr hdf fun φ1 e r1 M1 a1 w1 hκ hrr1 hp1 hk1 hdf1 => ?_)
    cases e with
    | norm => exact ihy hp.2 _ _ _ hκ hp1.rel (hp1.rel_wall hw) hrr1 hdf1 fun φ2 e2 r2 M2 a2 w2 hκ2 hrr2 hp2 hk2 hdf2 => hq φ2 e2 r2 M2 a2 w2 hκ2 hrr2 (hp1.trans hr hp2) (hk1.trans hk2) hdf2
    | exit id => exact hq φ1 (.exit id) r1 M1 a1 w1 hκ hrr1 hp1 hk1 hdf1
    | ret => exact hq φ1 .ret r1 M1 a1 w1 hκ hrr1 hp1 hk1 hdf1
  | cond b x y ihx ihy =>
    intro hp r M κ h φ a w hr hw hrr hdf Q hq
    simp only [plansOk, Bool.and_eq_true] at hp
    simp only [evP] at h
    split at h
    · rename_i t hb
      have hev := hrr.ev b
      rw [hb] at hev
      cases t
      · simp only [cond_false, bareOp_eq hb] at h
        exact wp_cond_false hev.bool_inv (ihy hp.2 _ _ _ h hr hw hrr hdf hq)
      · simp only [cond_true, bareOp_eq hb] at h
        exact wp_cond_true hev.bool_inv (ihx hp.1 _ _ _ h hr hw hrr hdf hq)
    · exact h.elim
  | block id x ih =>
    intro hp r M κ h φ a w hr hw hrr hdf Q hq
    simp only [plansOk] at hp
    simp only [evP, forceP_eq] at h
    refine wp_block (ih hp _ _ _ h hr hw hrr hdf fun φ1 e r1 M1 a1 w1 hκ hrr1 hp1 hk1 hdf1 => ?_)
    cases e with
    | norm => exact hq φ1 .norm _ M1 a1 w1 hκ (keepO_rr hrr1 _) hp1 hk1 hdf1
    | ret => exact hq φ1 .ret r1 M1 a1 w1 hκ hrr1 hp1 hk1 hdf1
    | exit j =>
      dsimp only at hκ
      simp only [toExit, Exit.inBlock]
      cases hj : Nat.beq j id
      · rw [hj] at hκ
        rw [if_neg (fun e => by rw [e] at hj; simp at hj)]
        exact hq φ1 (.exit j) r1 M1 a1 w1 hκ hrr1 hp1 hk1 hdf1
      · rw [hj] at hκ
        rw [if_pos (by simpa using hj)]
        exact hq φ1 .norm _ M1 a1 w1 hκ (keepO_rr hrr1 _) hp1 hk1 hdf1
  | scope x ih =>
    intro hp r M κ h φ a w hr hw hrr hdf Q hq
    simp only [plansOk] at hp
    simp only [evP] at h
    refine wp_scope_straight (ih hp _ _ _ h hr hw hrr hdf fun φ1 e r1 M1 a1 w1 hκ hrr1 hp1 hk1 hdf1 => ?_)
    have := hq φ1 e r1 M1 a1 w1 hκ hrr1 hp1 hk1 hdf1
    cases e <;> exact this
  | loop x ih =>
    intro hp r M κ h φ a w hr hw hrr hdf Q hq
    simp only [plansOk] at hp
    simp only [evP, forceP_eq] at h
    refine wp_of_loopIn ?_
    refine h (fun r M => ∀ (φ : Fi) (a : Act) (w : World), Rel φ M wall w → wall ≤ M.length → RR φ r a.tmps → a.defers = [] → ∀ Q : Exit → Act → World → Prop,
      (∀ φ' e r' M' a' w', κ e r' M' → RR φ' r' a'.tmps → Post φ φ' M M' wall w w' → Keeps M M' wall → a'.defers = [] → Q (toExit e) a' w') → loopIn P x Q a w) ?_ φ a w hr hw (keepO_rr hrr _) hdf Q hq
    intro r M ht φ a w hr hw hrr hdf Q hq
    refine loopIn_step (ih hp _ _ _ ht hr hw hrr hdf fun φ1 e r1 M1 a1 w1 hκ hrr1 hp1 hk1 hdf1 => ?_)
    cases e with
    | norm =>
      simp only [backP, forceP_eq] at hκ
      exact hκ φ1 a1 w1 hp1.rel (hp1.rel_wall hw) (keepO_rr hrr1 _) hdf1 Q fun φ2 e2 r2 M2 a2 w2 hκ2 hrr2 hp2 hk2 hdf2 => hq φ2 e2 r2 M2 a2 w2 hκ2 hrr2 (hp1.trans hr hp2) (hk1.trans hk2) hdf2
    | exit id =>
      simp only [backP, forceP_eq] at hκ
      exact hq φ1 (.exit id) _ M1 a1 w1 hκ (keepO_rr hrr1 _) hp1 hk1 hdf1
    | ret =>
      simp only [backP, forceP_eq] at hκ
      exact hq φ1 .ret _ M1 a1 w1 hκ (keepO_rr hrr1 _) hp1 hk1 hdf1
  | region id ops draw =>
    intro hp r M κ h φ a w hr hw hrr hdf Q hq
    simp only [plansOk, Bool.or_eq_true, Bool.not_eq_true'] at hp
    simp only [evP, forceP_eq] at h
    cases draw with
    | false =>
      exact wp_region (evOpsP_wp hE hC _ _ _ _ _ (fun _ _ _ e => by cases e) h hr hw (keepO_rr hrr _) hdf fun φ' r' M' a' w' hκ hrr' hp' hk' hdf' => hq φ' .norm r' M' a' w' hκ hrr' hp' hk' hdf')
    | true =>
      have hpl : planOk P q (ann id) ops = true := hp.resolve_left (fun e => by cases e)
      obtain ⟨r', M', ht, hκ⟩ := evOpsP_tr hC _ _ _ _ _ (fun _ _ _ e => by cases e) h
      exact wp_region_any hm (draw_wp hE (oneOf_ok hC) (oneOf_keeps hC) (oneOf_def hC) hpl ht hr hw (keepO_rr hrr _) hdf fun φ' a' w' h1 h2 h3 => hq φ' .norm r' M' a' w' hκ h1 h2 (tr_keeps (oneOf_keeps hC) (wallFor_ge _ _ _) ht) h3)
  | goto l => intro _ r M κ h; simp [evP] at h
  | rangeFunc f ps x y ihx ihy => intro _ r M κ h; simp [evP] at h
  | refuse s => intro _ r M κ h; simp [evP] at h

/-! ### calls -/

structure FitsW (P : Program) (A : Ann) : Prop where
  eqs : EqOk P A.E
  mixed : P.follows .mixedOrders = true

variable {A : Ann} {S : Told0}

theorem bodyP_sem (hf : FitsW P A) {C : CallP} (hC : SemC P A.q C) {f : FuncId} {args : List Value} {M : Mem} {wall : Nat} {Q : OutP} (hok : fnOk P A f = true) (h : bodyP P A C f args M wall Q) : CallSem P f args M wall Q := by
  intro φ args' w hr hw ha
  unfold bodyP at h
  cases hfn : P.funcs[f]? with
  | none => rw [hfn] at h; exact h.elim
  | some fn =>
    rw [hfn] at h
    dsimp only at h
    cases hb : fn.body with
    | none => rw [hb] at h; exact h.elim
    | some c =>
      rw [hb] at h
      dsimp only at h
      have hw' : wall ≤ cond (A.q f) M.length wall := by cases A.q f <;> first | exact Nat.le_refl _ | exact hw
      have hw2 : cond (A.q f) M.length wall ≤ M.length := by cases A.q f <;> first | exact hw | exact Nat.le_refl _
      refine calls_of_wp hfn hb (evP_wp hf.eqs hf.mixed hC c ((fnOk_def hok hfn).2 c hb) _ _ _ h (hr.weaken hw') hw2 ?_ rfl ?_)
      · refine (show VRs φ (start fn args) (args' ++ Array.replicate (fn.ntmps - args'.size) undef).toList from ?_)
        have e : (args' ++ Array.replicate (fn.ntmps - args'.size) undef).toList = args'.toList ++ List.replicate (fn.ntmps - args'.size) undef := by simp
        rw [e]
        unfold start
        have hl : args.length = args'.size := by simpa using ha.1
        rw [hl]
        exact ha.append (VRs.replicate (.undef _) _)
      · intro φ1 e r1 M1 a1 w1 hκ hrr1 hp1 hk1 hdf1
        have res : cond (resG P fn r1 M1).1 (Q (cond (A.q f) (trim P M M1 (resG P fn r1 M1).2) ((resG P fn r1 M1).2, M1))) False → a1.defers = [] ∧ ∃ v', (results fn a1.tmps).run P w1 = .ok v' w1 ∧
            ∃ φ' v v'' M', Ending.returned v' = .returned v'' ∧ VR φ' v v'' ∧ Post φ φ' M M' wall w w1 ∧ Keeps M M' wall ∧ Q (v, M') := by
          intro h0
          obtain ⟨g1, g2⟩ := condP_true h0
          obtain ⟨v', e1, e2⟩ := evRes_sound (P := P) hp1.rel hrr1 (resG_ok g1)
          refine ⟨hdf1, v', e1, ?_⟩
          cases hq : A.q f
          · rw [hq] at g2 hp1 hk1
            exact ⟨φ1, _, v', M1, rfl, e2, hp1, hk1, g2⟩
          · rw [hq] at g2 hp1 hk1
            obtain ⟨φ2, t1, t2⟩ := trim_post (P := P) hr hw (fun b hb => hk1.2 b hb hb) hp1 e2
            have kt := trim_keeps (P := P) M M1 (resG P fn r1 M1).2 (fun b hb => hk1.2 b hb hb) hk1.1
            exact ⟨φ2, _, v', _, rfl, t1, t2, ⟨kt.1, fun b _ hl => kt.2 b hl hl⟩, g2⟩
        cases e with
        | norm => exact res hκ
        | ret => exact res hκ
        | exit id => exact hκ.elim

theorem WP_sem (hf : FitsW P A) (hS : Told0Ok P A S) {f : FuncId} {args : List Value} {M : Mem} {wall : Nat} {Q : OutP} (h : WP P A S f args M wall Q) : CallSem P f args M wall Q := by
  refine WP_ind hS (X := fun f args M wall Q => CallSem P f args M wall Q) ?_ h
  intro f args M wall Q hs
  unfold stepW at hs
  cases ht : S.told f
  · rw [ht] at hs
    exact bodyP_sem hf ⟨fun _ _ _ _ _ h => h.2, fun _ _ _ _ _ h => WP_def hS h.1, fun _ _ _ _ _ _ h h' => WP_pair hS h.1 h'.1⟩ hs.1 hs.2
  · rw [ht] at hs
    exact hS.sound _ _ _ _ _ hs

/-- A call of scalars that tells a bool. -/
theorem WP_bool (hf : FitsW P A) (hS : Told0Ok P A S) {f : FuncId} {args : List Value} {b : Bool} (h : WP P A S f args [] 0 (fun p => p.1 = .bool b)) (hargs : args.all flat = true) (w : World) :
    Calls P f args.toArray w fun e w' => e = .returned (.bool b) ∧ RowKit.Below w.heap.size w w' := by
  have ha : VRs (fun _ => none) args args.toArray.toList := by
    refine ⟨by simp, fun i v v' h1 h2 => ?_⟩
    have e := h1.symm.trans (by simpa using h2)
    cases e
    exact VR.flat_self (List.all_eq_true.1 hargs v (List.mem_of_getElem? h1))
  refine (WP_sem hf hS h _ _ w (Rel.empty w) (Nat.le_refl _) ha).mono ?_
  rintro e w' ⟨φ', v, v', M', rfl, hv, hp, _, rfl⟩
  rw [hv.bool_inv]
  exact ⟨rfl, hp.os, hp.tape, hp.output, hp.size, fun c hc => hp.frame c hc fun b l k _ h => by cases h⟩

/-- Functions told by an oracle. -/
def toldQ (q : FuncId → Bool) (told : FuncId → Bool) (T : CallFn) : Told0 := ⟨told, fun f args M wall Q => ∃ p, T f args M (cond (q f) M.length wall) = some p ∧ Q p⟩
theorem toldQ_ok {told : FuncId → Bool} {CK : CallC} (hC : OkC P A.q CK) : Told0Ok P A (toldQ A.q told (plainC CK)) where
  mono := fun _ _ _ _ _ _ hQ ⟨p, h1, h2⟩ => ⟨p, h1, hQ p h2⟩
  pair := fun f args M wall Q Q' ⟨p, h1, h2⟩ ⟨p', h1', h2'⟩ => by
    rw [h1] at h1'
    cases h1'
    have k := hC.good.keeps _ _ _ _ _ _ h1
    refine ⟨p, h2, h2', k.wallQ, fun hq => ?_⟩
    rw [hq] at h1 k
    exact ⟨hC.cps.quiet _ _ _ _ _ hq h1, k⟩
  isDef := fun _ _ _ _ _ ⟨p, h1, _⟩ => hC.good.isDef _ _ _ _ _ h1
  sound := fun f args M wall Q ⟨p, h1, h2⟩ φ args' w hr hw ha => by
    have hw' : wall ≤ cond (A.q f) M.length wall := by cases A.q f <;> first | exact Nat.le_refl _ | exact hw
    have hw2 : cond (A.q f) M.length wall ≤ M.length := by cases A.q f <;> first | exact hw | exact Nat.le_refl _
    have k := hC.good.keeps _ _ _ _ _ _ h1
    refine (hC.good.ok _ _ _ _ _ _ h1 φ args' w (hr.weaken hw') hw2 ha).mono ?_
    rintro e w' ⟨φ', v', e1, e2, e3⟩
    exact ⟨φ', p.1, v', p.2, e1, e2, e3.lower hr hw' hw2 fun b hb => k.2 b hb (Nat.lt_of_lt_of_le hb hw2), k.wallQ, h2⟩
/-- What is told is what it comes to. -/
theorem WP_told {told : FuncId → Bool} {CK : CallC} (hC : OkC P A.q CK) {f : FuncId} {args : List Value} {M : Mem} {wall : Nat} {p : Value × Mem} (ht : told f = true) (h : CK f args M (cond (A.q f) M.length wall) some = some p) :
    WP P A (toldQ A.q told (plainC CK)) f args M wall (fun p' => p' = p) := by
  refine WP_of (toldQ_ok hC) ?_
  unfold stepW
  rw [show (toldQ A.q told (plainC CK)).told f = true from ht]
  exact ⟨p, h, rfl⟩
/-- Nothing is told ahead. -/
def toldN (q : FuncId → Bool) : Told0 := toldQ q (fun _ => false) (plainC noneC)
theorem toldN_ok : Told0Ok P A (toldN A.q) := toldQ_ok ok_noneC
end Go.Ev

/-! ### one outcome -/
namespace Go.Ev
variable {P : Program} {E : TypeId → Option (List CK)} {q : FuncId → Bool} {A : Ann} {S : Told0}

def DetC (C C' : CallP) : Prop := ∀ g args M wall (Q : OutP), C g args M wall Q → ∃ p, Q p ∧ C' g args M wall (fun p' => p' = p)

theorem dP_det {C C' : CallP} (h : DetC C C') : DetC (dP C) (dP C') := fun g args M wall Q ⟨p, h1, h2⟩ => by
  obtain ⟨p', e, h3⟩ := h _ _ _ _ _ h1
  subst e
  exact ⟨p', h2, p', h3, rfl⟩

theorem execP_det {C C' : CallP} (hC : DetC C C') (hm : MonoP C' C') {wall : Nat} {r : List Value} {M : Mem} {op : Op} {κ : OutP} (h : execP P E q C wall r M op κ) : ∃ p, κ p ∧ ∀ κ' : OutP, κ' p → execP P E q C' wall r M op κ' := by
  unfold execP at h
  split at h
  · rename_i f args ts
    obtain ⟨h0, h⟩ := condP_true h
    obtain ⟨p, h1, h2⟩ := hC _ _ _ _ _ h
    obtain ⟨g1, g2⟩ := condP_true h1
    refine ⟨_, g2, fun κ' hκ => ?_⟩
    simp only [execP, h0, cond_true]
    exact hm _ _ _ _ _ _ (fun p' e => by subst e; rw [g1]; exact hκ) h2
  · rename_i args ts
    obtain ⟨x, h1, h2⟩ := apP_iff.1 h
    exact ⟨x, h2, fun κ' hκ => by simp only [execP]; exact apP_iff.2 ⟨x, h1, hκ⟩⟩
  · rename_i hn1 hn2
    obtain ⟨x, h1, h2⟩ := Br.all_iff.1 h
    refine ⟨x, h2, fun κ' hκ => ?_⟩
    unfold execP
    split
    · exact absurd rfl (hn1 _ _ _)
    · exact absurd rfl (hn2 _ _)
    · exact Br.all_iff.2 ⟨x, h1, hκ⟩

theorem evOpsP_det {C C' : CallP} (hC : DetC C C') (hm : MonoP C' C') {ops : Array Oper} {wallOf : Nat → List Value → Nat} : ∀ (ord : List Nat) (cg : Guarded) (r : List Value) (M : Mem) (κ : List Value → Mem → Prop), Told ops cg r →
    evOpsP P E q C ops wallOf ord cg r M κ → ∃ r' M', κ r' M' ∧ ∀ κ' : List Value → Mem → Prop, κ' r' M' → evOpsP P E q C' ops wallOf ord cg r M κ' := by
  intro ord
  induction ord with
  | nil => intro cg r M κ _ h; exact ⟨r, M, h, fun κ' h' => h'⟩
  | cons i rest ih =>
    intro cg r M κ ht h
    cases ho : ops[i]? with
    | none => simp only [evOpsP, ho] at h
    | some o =>
      simp only [evOpsP, ho] at h
      obtain ⟨cg', b, t1, t2, t3, t4⟩ := guardP_ok h ht
      cases b with
      | true =>
        simp only [cond_true] at t3
        obtain ⟨p, g1, g2⟩ := execP_det hC hm t3
        obtain ⟨r', M', k1, k2⟩ := ih _ _ _ _ (t1.put o.dst p.1) g1
        exact ⟨r', M', k1, fun κ' h' => by simp only [evOpsP, ho]; rw [t4]; exact g2 (fun p => evOpsP P E q C' ops wallOf rest (keepsGuard ops cg' o.dst) (put r o.dst p.1) p.2 κ') (k2 κ' h')⟩
      | false =>
        simp only [cond_false] at t3
        obtain ⟨r', M', k1, k2⟩ := ih _ _ _ _ (t1.put o.dst sk) t3
        exact ⟨r', M', k1, fun κ' h' => by simp only [evOpsP, ho]; rw [t4]; exact k2 κ' h'⟩

theorem evP_det {ann : Nat → RAnn} {C C' : CallP} (hC : DetC C C') (hm : MonoP C' C') {wall : Nat} : ∀ (c : Code) (r : List Value) (M : Mem) (κ : KontP), evP P E q ann C wall c r M κ → ∃ e r' M', κ e r' M' ∧ ∀ κ' : KontP, κ' e r' M' → evP P E q ann C' wall c r M κ' := by
  intro c
  induction c with
  | skip => intro r M κ h; exact ⟨.norm, r, M, h, fun κ' h' => h'⟩
  | label l => intro r M κ h; exact ⟨.norm, r, M, h, fun κ' h' => h'⟩
  | exit id => intro r M κ h; exact ⟨.exit id, r, M, h, fun κ' h' => h'⟩
  | ret => intro r M κ h; exact ⟨.ret, r, M, h, fun κ' h' => h'⟩
  | seq x y ihx ihy =>
    intro r M κ h
    simp only [evP] at h
    obtain ⟨e, r', M', g1, g2⟩ := ihx _ _ _ h
    cases e with
    | norm =>
      obtain ⟨e2, r2, M2, a1, a2⟩ := ihy _ _ _ g1
      exact ⟨e2, r2, M2, a1, fun κ' h' => by simp only [evP]; exact g2 _ (a2 κ' h')⟩
    | exit id => exact ⟨_, _, _, g1, fun κ' h' => by simp only [evP]; exact g2 _ h'⟩
    | ret => exact ⟨_, _, _, g1, fun κ' h' => by simp only [evP]; exact g2 _ h'⟩
  | cond b x y ihx ihy =>
    intro r M κ h
    simp only [evP] at h
    split at h
    · rename_i t hb
      cases t
      · obtain ⟨e, r', M', g1, g2⟩ := ihy _ _ _ h
        exact ⟨e, r', M', g1, fun κ' h' => by simp only [evP, hb]; exact g2 κ' h'⟩
      · obtain ⟨e, r', M', g1, g2⟩ := ihx _ _ _ h
        exact ⟨e, r', M', g1, fun κ' h' => by simp only [evP, hb]; exact g2 κ' h'⟩
    · exact h.elim
  | block id x ih =>
    intro r M κ h
    simp only [evP, forceP_eq] at h
    obtain ⟨e, r', M', g1, g2⟩ := ih _ _ _ h
    cases e with
    | norm => exact ⟨.norm, _, M', g1, fun κ' h' => by simp only [evP, forceP_eq]; exact g2 _ h'⟩
    | ret => exact ⟨.ret, _, M', g1, fun κ' h' => by simp only [evP, forceP_eq]; exact g2 _ h'⟩
    | exit j =>
      dsimp only at g1
      cases hj : Nat.beq j id
      · rw [hj] at g1
        exact ⟨.exit j, _, M', g1, fun κ' h' => by simp only [evP, forceP_eq]; exact g2 _ (by simp only [hj, cond_false]; exact h')⟩
      · rw [hj] at g1
        exact ⟨.norm, _, M', g1, fun κ' h' => by simp only [evP, forceP_eq]; exact g2 _ (by simp only [hj, cond_true]; exact h')⟩
  | scope x ih =>
    intro r M κ h
    simp only [evP] at h
    obtain ⟨e, r', M', g1, g2⟩ := ih _ _ _ h
    exact ⟨e, r', M', g1, fun κ' h' => by simp only [evP]; exact g2 κ' h'⟩
  | loop x ih =>
    intro r M κ h
    simp only [evP, forceP_eq] at h
    have hT : ∀ r M (κ κ' : KontP), (∀ e r M, κ e r M → κ' e r M) → evP P E q ann C' wall x r M (backP (headLive ann x) (exitLive ann x) κ) → evP P E q ann C' wall x r M (backP (headLive ann x) (exitLive ann x) κ') :=
      fun r M κ κ' hκ => evP_mono hm _ _ _ _ _ (backP_mono hκ)
    have key := h (fun r M => ∃ e r' M', κ e r' M' ∧ ∀ κ' : KontP, κ' e r' M' → loopP (fun r M κ => evP P E q ann C' wall x r M (backP (headLive ann x) (exitLive ann x) κ)) r M κ') (by
      intro r M t
      obtain ⟨e, r', M', g1, g2⟩ := ih _ _ _ t
      cases e with
      | norm =>
        simp only [backP, forceP_eq] at g1
        obtain ⟨e2, r2, M2, a1, a2⟩ := g1
        refine ⟨e2, r2, M2, a1, fun κ' h' => loopP_of hT (g2 _ ?_)⟩
        simp only [backP, forceP_eq]
        exact a2 κ' h'
      | exit id =>
        simp only [backP, forceP_eq] at g1
        refine ⟨_, _, _, g1, fun κ' h' => loopP_of hT (g2 _ ?_)⟩
        simp only [backP, forceP_eq]
        exact h'
      | ret =>
        simp only [backP, forceP_eq] at g1
        refine ⟨_, _, _, g1, fun κ' h' => loopP_of hT (g2 _ ?_)⟩
        simp only [backP, forceP_eq]
        exact h')
    obtain ⟨e, r', M', g1, g2⟩ := key
    exact ⟨e, r', M', g1, fun κ' h' => by simp only [evP, forceP_eq]; exact g2 κ' h'⟩
  | region id ops draw =>
    intro r M κ h
    simp only [evP, forceP_eq] at h
    cases draw with
    | false =>
      obtain ⟨r', M', g1, g2⟩ := evOpsP_det hC hm _ _ _ _ _ (fun _ _ _ e => by cases e) h
      exact ⟨.norm, r', M', g1, fun κ' h' => by simp only [evP, forceP_eq]; exact g2 _ h'⟩
    | true =>
      obtain ⟨r', M', g1, g2⟩ := evOpsP_det (dP_det hC) (dP_mono hm) _ _ _ _ _ (fun _ _ _ e => by cases e) h
      exact ⟨.norm, r', M', g1, fun κ' h' => by simp only [evP, forceP_eq]; exact g2 _ h'⟩
  | goto l => intro r M κ h; simp [evP] at h
  | rangeFunc f ps x y ihx ihy => intro r M κ h; simp [evP] at h
  | refuse s => intro r M κ h; simp [evP] at h

def DetS (S : Told0) : Prop := DetC S.base S.base

theorem WP_det (hS : Told0Ok P A S) (hd : DetS S) {f : FuncId} {args : List Value} {M : Mem} {wall : Nat} {Q : OutP} (h : WP P A S f args M wall Q) : ∃ p, Q p ∧ WP P A S f args M wall (fun p' => p' = p) := by
  refine WP_ind hS (X := fun f args M wall Q => ∃ p, Q p ∧ WP P A S f args M wall (fun p' => p' = p)) ?_ h
  intro f args M wall Q hs
  unfold stepW at hs
  cases ht : S.told f
  · rw [ht] at hs
    obtain ⟨h0, hs⟩ := hs
    unfold bodyP at hs
    cases hfn : P.funcs[f]? with
    | none => rw [hfn] at hs; exact hs.elim
    | some fn =>
      rw [hfn] at hs
      dsimp only at hs
      cases hb : fn.body with
      | none => rw [hb] at hs; exact hs.elim
      | some c =>
        rw [hb] at hs
        dsimp only at hs
        obtain ⟨e, r', M', g1, g2⟩ := evP_det (C' := WP P A S) (fun g args M wall Q h => h.2) (WP_mono hS) _ _ _ _ hs
        have fin : cond (resG P fn r' M').1 (Q (cond (A.q f) (trim P M M' (resG P fn r' M').2) ((resG P fn r' M').2, M'))) False → (∀ Q' : OutP, retP P (A.q f) M fn Q' e r' M' = cond (resG P fn r' M').1 (Q' (cond (A.q f) (trim P M M' (resG P fn r' M').2) ((resG P fn r' M').2, M'))) False) →
            ∃ p, Q p ∧ WP P A S f args M wall (fun p' => p' = p) := by
          intro a1 hr
          obtain ⟨b1, b2⟩ := condP_true a1
          refine ⟨_, b2, WP_body hS ht h0 ?_⟩
          unfold bodyP
          simp only [hfn, hb]
          refine g2 _ ?_
          rw [hr, b1]
          rfl
        cases e with
        | norm => exact fin g1 fun _ => rfl
        | ret => exact fin g1 fun _ => rfl
        | exit id => exact g1.elim
  · rw [ht] at hs
    obtain ⟨p, h1, h2⟩ := hd _ _ _ _ _ hs
    refine ⟨p, h1, WP_of hS ?_⟩
    unfold stepW
    rw [ht]
    exact h2

theorem toldQ_det {told : FuncId → Bool} {T : CallFn} : DetS (toldQ q told T) := fun f args M wall Q ⟨p, h1, h2⟩ => ⟨p, h2, p, h1, rfl⟩

/-- What lies behind the wall stays. -/
theorem WP_keep (hS : Told0Ok P A S) (hd : DetS S) {f : FuncId} {args : List Value} {M : Mem} {wall : Nat} {Q : OutP} (h : WP P A S f args M wall Q) : WP P A S f args M wall (fun p => Q p ∧ Keeps M p.2 wall) := by
  obtain ⟨p, h1, h2⟩ := WP_det hS hd h
  obtain ⟨p', e, _, k, _⟩ := WP_pair hS h2 h2
  subst e
  exact WP_mono hS _ _ _ _ _ _ (fun p e => by subst e; exact ⟨h1, k⟩) h2
theorem dP_of (hS : Told0Ok P A S) (hd : DetS S) {g : FuncId} {args : List Value} {M : Mem} {w : Nat} {κ : OutP} {Q : OutP} (h : WP P A S g args M w Q) (hq : ∀ p, Q p → κ p) : dP (WP P A S) g args M w κ := by
  obtain ⟨p, h1, h2⟩ := WP_det hS hd h
  exact ⟨p, h2, hq p h1⟩
end Go.Ev
