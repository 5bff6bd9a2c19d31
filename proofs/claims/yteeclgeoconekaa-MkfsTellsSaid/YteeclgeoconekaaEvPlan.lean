/-
  What is asked of a region that draws its order; its states in the order of the plan.
-/
import Derived.Test.YteeclgeoconekaaEvTrace
namespace Go.Ev
variable {P : Program} {E : TypeId → Option (List CK)} {φ : Fi} {q : FuncId → Bool} {call : CallFn} {ops : Array Oper}

def predsOf (ops : Array Oper) (j : Nat) : List Nat := match ops[j]? with | some o => (o.after.toList.filter (Region.binds .any)).map (·.on) | none => []
def posOf (ord : List Nat) (j : Nat) : Nat := ord.idxOf j
def ancAll (ops : Array Oper) : List (List Nat) :=
  (List.range ops.size).foldl (fun acc j => acc ++ [(predsOf ops j ++ (predsOf ops j).flatMap fun p => acc.getD p []).eraseDups]) []
def namesOf (ops : Array Oper) (j : Nat) : List Tmp := match ops[j]? with | some o => o.looksAt ops ++ o.dst.toList | none => []
def dstOf (ops : Array Oper) (j : Nat) : Option Tmp := (ops[j]?).bind (·.dst)

/-- 0: a value's; 1: a load; 2: it turns nothing that is there; 3: any other. -/
def kindOf (P : Program) (q : FuncId → Bool) : Op → Nat
  | .move _ | .assign _ | .pick .. | .binOp .. | .unOp .. | .nilCheck _ | .extract .. | .field .. | .index .. | .fieldAddr .. | .indexAddr .. | .slice .. | .build .. | .makeFunc .. => 0
  | .call ⟨.builtin .len, _, _⟩ | .call ⟨.builtin .cap, _, _⟩ | .call ⟨.builtin .min, _, _⟩ | .call ⟨.builtin .max, _, _⟩ => 0
  | .convert src dst _ => match P.underlying src, P.underlying dst with
    | some (.slice _), some (.slice _) => 3
    | some (.slice _), _ => 2
    | _, some (.slice _) => 2
    | _, _ => 0
  | .load .. => 1
  | .alloc _ | .box .. | .makeSlice .. | .buildSlice .. => 2
  | .call ⟨.value (.func g), _, _⟩ => cond (q g) 2 3
  | _ => 3
def kindAt (P : Program) (q : FuncId → Bool) (ops : Array Oper) (j : Nat) : Nat := match ops[j]? with | some o => kindOf P q o.op | none => 0
def addrTmp (ops : Array Oper) (j : Nat) : Option Tmp := match ops[j]? with | some o => (match o.op with | .load _ (.tmp t) => some t | _ => none) | none => none

def planOk (P : Program) (q : FuncId → Bool) (A : RAnn) (ops : Array Oper) : Bool :=
  let R := List.range ops.size
  let anc := ancAll ops
  let before := fun i j => (anc.getD j []).contains i
  let pos := posOf A.ord
  Nat.beq A.ord.length ops.size && R.all (fun j => A.ord.contains j) && R.all (fun p => match A.ord[p]? with | some i => Nat.blt i ops.size && Nat.beq (pos i) p | none => false) &&
  R.all (fun j => (predsOf ops j).all fun p => Nat.blt p j && Nat.blt (pos p) (pos j)) &&
  R.all (fun j => (anc.getD j []).all fun i => (predsOf ops j).contains i || (predsOf ops j).any fun m => before i m) &&
  R.all (fun i => match dstOf ops i with
    | none => true
    | some t => R.all fun j => Nat.beq i j || !(namesOf ops j).contains t || before i j || before j i) &&
  R.all (fun i => !Nat.beq (kindAt P q ops i) 3 || R.all fun j => Nat.beq j i || Nat.beq (kindAt P q ops j) 0 || before i j || before j i ||
    (Nat.beq (kindAt P q ops j) 1 && Nat.blt (pos j) (pos i) && (match A.conf.lookup i with | some js => js.contains j | none => false))) &&
  R.all (fun i => match addrTmp ops i with
    | none => true
    | some t => R.all fun j => !(dstOf ops j == some t) || Nat.blt (pos j) (pos i))

structure Plan (P : Program) (q : FuncId → Bool) (A : RAnn) (ops : Array Oper) (before : Nat → Nat → Prop) : Prop where
  len : A.ord.length = ops.size
  all : ∀ j, j < ops.size → j ∈ A.ord
  place : ∀ p, p < ops.size → ∃ i, A.ord[p]? = some i ∧ i < ops.size ∧ posOf A.ord i = p
  preds : ∀ j, j < ops.size → ∀ p ∈ predsOf ops j, p < j ∧ posOf A.ord p < posOf A.ord j
  anc : ∀ j, j < ops.size → ∀ i, before i j → i ∈ predsOf ops j ∨ ∃ m ∈ predsOf ops j, before i m
  names : ∀ i j t, i < ops.size → j < ops.size → i ≠ j → dstOf ops i = some t → t ∈ namesOf ops j → before i j ∨ before j i
  loud : ∀ i j, i < ops.size → j < ops.size → j ≠ i → kindAt P q ops i = 3 → kindAt P q ops j ≠ 0 → before i j ∨ before j i ∨
    (kindAt P q ops j = 1 ∧ posOf A.ord j < posOf A.ord i ∧ ∃ js, A.conf.lookup i = some js ∧ j ∈ js)
  addr : ∀ i j t, i < ops.size → j < ops.size → addrTmp ops i = some t → dstOf ops j = some t → posOf A.ord j < posOf A.ord i

theorem plan_of {A : RAnn} (h : planOk P q A ops = true) : Plan P q A ops fun i j => i ∈ (ancAll ops).getD j [] := by
  simp only [planOk, Bool.and_eq_true, List.all_eq_true, List.mem_range, Nat.beq_eq, Nat.blt_eq, List.contains_iff_mem, Bool.or_eq_true, Bool.not_eq_true', List.any_eq_true, beq_eq_false_iff_ne] at h
  obtain ⟨⟨⟨⟨⟨⟨⟨h1, h2⟩, h2'⟩, h3⟩, h4⟩, h5⟩, h6⟩, h7⟩ := h
  refine ⟨h1, h2, fun p hp => ?_, fun j hj p hp => h3 j hj p hp, fun j hj i hi => ?_, fun i j t hi hj hne hd ht => ?_, fun i j hi hj hne hk hk0 => ?_, fun i j t hi hj ha hd => ?_⟩
  · have := h2' p hp
    split at this
    · rename_i i hi
      simp only [Bool.and_eq_true, Nat.blt_eq, Nat.beq_eq] at this
      exact ⟨i, hi, this.1, this.2⟩
    · cases this
  · exact h4 j hj i hi
  · have := h5 i hi
    rw [hd] at this
    simp only [List.all_eq_true, List.mem_range, Bool.or_eq_true, Nat.beq_eq, Bool.not_eq_true', List.contains_iff_mem] at this
    rcases this j hj with ((h | h) | h) | h
    · exact absurd h hne
    · have : (namesOf ops j).contains t = true := by simpa using ht
      rw [h] at this
      cases this
    · exact .inl h
    · exact .inr h
  · rcases h6 i hi with h | h
    · rw [hk] at h; cases h
    · rcases h j hj with ((((h | h) | h) | h) | h)
      · exact absurd h hne
      · exact absurd h hk0
      · exact .inl h
      · exact .inr (.inl h)
      · refine .inr (.inr ⟨h.1.1, h.1.2, ?_⟩)
        have h2 := h.2
        split at h2
        · rename_i js hjs
          exact ⟨js, hjs, by simpa using h2⟩
        · cases h2
  · have := h7 i hi
    rw [ha] at this
    simp only [List.all_eq_true, List.mem_range, Bool.or_eq_true, Bool.not_eq_true', Nat.blt_eq] at this
    rcases this j hj with h | h
    · rw [hd] at h
      simp at h
    · exact h

/-- The states of a trace, place by place. -/
structure States (P : Program) (E : TypeId → Option (List CK)) (q : FuncId → Bool) (call : CallFn) (ops : Array Oper) (wallOf : Nat → List Value → Nat) (ord : List Nat) (r : List Value) (M : Mem) (r' : List Value) (M' : Mem)
    (rs : Nat → List Value) (Ms : Nat → Mem) (val : Nat → Value) : Prop where
  r0 : rs 0 = r
  m0 : Ms 0 = M
  rn : rs ord.length = r'
  mn : Ms ord.length = M'
  step : ∀ p i, ord[p]? = some i → ∃ o, ops[i]? = some o ∧ rs (p + 1) = put (rs p) o.dst (val p) ∧
    ((wantedV ops o (rs p) = some true ∧ evStep P E q call (wallOf i (rs p)) (rs p) (Ms p) o.op = some (val p, Ms (p + 1))) ∨
     (wantedV ops o (rs p) = some false ∧ val p = sk ∧ Ms (p + 1) = Ms p))

theorem states_of {wallOf : Nat → List Value → Nat} {ord : List Nat} {r r' : List Value} {M M' : Mem} (h : Tr P E q call ops wallOf ord r M r' M') : ∃ rs Ms val, States P E q call ops wallOf ord r M r' M' rs Ms val := by
  induction h with
  | nil r M => exact ⟨fun _ => r, fun _ => M, fun _ => undef, rfl, rfl, rfl, rfl, fun p i h => by simp at h⟩
  | exec i rest o r M M1 v r' M' ho hw hs ht ih =>
    obtain ⟨rs, Ms, val, hst⟩ := ih
    refine ⟨fun p => match p with | 0 => r | p + 1 => rs p, fun p => match p with | 0 => M | p + 1 => Ms p, fun p => match p with | 0 => v | p + 1 => val p, rfl, rfl, hst.rn, hst.mn, fun p j hj => ?_⟩
    cases p with
    | zero =>
      simp at hj
      subst hj
      exact ⟨o, ho, hst.r0, .inl ⟨hw, by dsimp only; rw [hst.m0]; exact hs⟩⟩
    | succ p => exact hst.step p j (by simpa using hj)
  | skip i rest o r M r' M' ho hw ht ih =>
    obtain ⟨rs, Ms, val, hst⟩ := ih
    refine ⟨fun p => match p with | 0 => r | p + 1 => rs p, fun p => match p with | 0 => M | p + 1 => Ms p, fun p => match p with | 0 => sk | p + 1 => val p, rfl, rfl, hst.rn, hst.mn, fun p j hj => ?_⟩
    cases p with
    | zero =>
      simp at hj
      subst hj
      exact ⟨o, ho, hst.r0, .inr ⟨hw, rfl, hst.m0⟩⟩
    | succ p => exact hst.step p j (by simpa using hj)

/-- What an operation tells hangs on its operands alone. -/
theorem step_congr {r r' : List Value} (op : Op) (h : ∀ x ∈ op.operands, ev r x = ev r' x) (wall : Nat) (M : Mem) : evStep P E q call wall r M op = evStep P E q call wall r' M op := by
  have hm : ∀ (l : List Operand), (∀ x ∈ l, ev r x = ev r' x) → l.map (ev r) = l.map (ev r') := fun l hl => List.map_congr_left hl
  have hp : ∀ (l : List (Nat × Operand)), (∀ x ∈ l.map (·.2), ev r x = ev r' x) → (l.map fun p => (p.1, ev r p.2)) = l.map fun p => (p.1, ev r' p.2) := fun l hl =>
    List.map_congr_left fun p hp => by rw [hl p.2 (List.mem_map.2 ⟨p, hp, rfl⟩)]
  cases op <;> simp only [Op.operands] at h
  case build t ps => simp only [evStep, evPure, hp ps.toList fun x hx => h x (by simpa using hx)]
  case buildSlice t n ps => simp only [evStep, evPure, hp ps.toList fun x hx => h x (by simpa using hx)]
  case makeFunc fn first captured => simp only [evStep, evPure, hm first.toList fun x hx => h x (by simp at hx ⊢; exact .inl hx), hm captured.toList fun x hx => h x (by simp at hx ⊢; exact .inr hx)]
  case slice t x lo hi mx =>
    have hx := h x (by simp)
    have h1 : lo.map (ev r) = lo.map (ev r') := by cases lo <;> simp_all
    have h2 : hi.map (ev r) = hi.map (ev r') := by cases hi <;> simp_all
    have h3 : mx.map (ev r) = mx.map (ev r') := by cases mx <;> simp_all
    simp only [evStep, evPure, hx, h1, h2, h3]
  case call c =>
    obtain ⟨callee, args, ts⟩ := c
    simp only [Call.operands] at h
    have ha := hm args.toList fun x hx => h x (by simp at hx ⊢; exact .inr hx)
    have hl : ∀ x ∈ args.toList, ev r x = ev r' x := fun x hx => h x (by simp at hx ⊢; exact .inr hx)
    cases callee with
    | value f =>
      have hf := h f (by simp)
      simp only [evStep, evPure, hf, ha]
    | invoke f n => simp [evStep, evPure]
    | builtin b =>
      cases b <;> simp only [evStep, evPure, ha]
      all_goals
        generalize args.toList = l at hl
        generalize ts.toList = m
        rcases m with _ | ⟨t, m⟩ <;> rcases l with _ | ⟨x, _ | ⟨y, _ | ⟨z, l⟩⟩⟩ <;> first
          | rfl
          | (simp only [hl x (by simp), hl y (by simp)]; done)
          | (simp only [hl x (by simp)]; done)
  case convert src dst x => simp only [evStep, evPure, h x (by simp)]
  all_goals first
    | rfl
    | (simp only [evStep, evPure]
       first | done | (simp_all; done) | (repeat rw [h _ (by simp)]))

end Go.Ev
