/-
  Loops told ahead: where a summary of a loop is known, the evaluator leaps over it.
-/
import Derived.Test.YteeclgeoconekaaEvLocal
namespace Go.Ev
variable {P : Program} {E : TypeId → Option (List CK)} {q : FuncId → Bool} {call : CallFn}

abbrev LoopFn := Nat → List Value → Mem → Option (Kont → Ret)

def leap (L : LoopFn) (id : Option Nat) (r : List Value) (M : Mem) : Option (Kont → Ret) := match id with | some id => L id r M | none => none

def evS (P : Program) (E : TypeId → Option (List CK)) (q : FuncId → Bool) (ann : Nat → RAnn) (call : CallFn) (wall : Nat) (k : Nat) (L : LoopFn) : Code → List Value → Mem → Kont → Ret
  | .skip, r, M, κ => κ .norm r M
  | .label _, r, M, κ => κ .norm r M
  | .seq a b, r, M, κ => evS P E q ann call wall k L a r M fun e r M => match e with
    | .norm => evS P E q ann call wall k L b r M κ
    | e => κ e r M
  | .cond c a b, r, M, κ => match ev r c with
    | .bool t => cond t (evS P E q ann call wall k L a (bareOp r c true) M κ) (evS P E q ann call wall k L b (bareOp r c false) M κ)
    | _ => none
  | .block id c, r, M, κ => evS P E q ann call wall k L c r M fun e r' M' => match e with
    | .norm => tidy (ann (blkAt id)).live M.length r' M' fun r M => κ .norm r M
    | .exit j => cond (Nat.beq j id) (tidy (ann (blkAt id)).live M.length r' M' fun r M => κ .norm r M) (κ (.exit j) r' M')
    | .ret => κ .ret r' M'
  | .scope c, r, M, κ => evS P E q ann call wall k L c r M κ
  | .loop c, r, M, κ => forceL (keepO (headLive ann c) r) fun r => match leap L (firstReg c) r M with
    | some g => g κ
    | none => loopN (fun r M κ => evC P E q ann call wall k c r M (backK (headLive ann c) κ)) k r M κ
  | .exit id, r, M, κ => κ (.exit id) r M
  | .ret, r, M, κ => κ .ret r M
  | .region id ops draw, r, M, κ =>
    forceL (keepO (ann id).live r) fun r =>
      cond draw (evOps P E q call ops (wallFor ops (ann id).conf wall) (ann id).ord none r M fun r M => κ .norm r M)
        (evOps P E q call ops (fun _ _ => wall) (List.range ops.size) none r M fun r M => κ .norm r M)
  | _, _, _, _ => none

/-- What one continuation tells, another tells. -/
def KLe (κ κ' : Kont) : Prop := ∀ e r M R, κ e r M = some R → κ' e r M = some R
def KLe2 (κ κ' : List Value → Mem → Ret) : Prop := ∀ r M R, κ r M = some R → κ' r M = some R

theorem KLe.refl (κ : Kont) : KLe κ κ := fun _ _ _ _ h => h

theorem evOps_le {ops : Array Oper} {wallOf : Nat → List Value → Nat} {κ κ' : List Value → Mem → Ret} (hk : KLe2 κ κ') : ∀ (ord : List Nat) (cg : Guarded) (r : List Value) (M : Mem) (R : Value × Mem),
    evOps P E q call ops wallOf ord cg r M κ = some R → evOps P E q call ops wallOf ord cg r M κ' = some R := by
  intro ord
  induction ord with
  | nil => intro cg r M R h; exact hk _ _ _ h
  | cons i rest ih =>
    intro cg r M R h
    simp only [evOps] at h ⊢
    split at h
    · cases h
    · rename_i o ho
      have exec : ∀ (cg : Guarded) (r : List Value), (match chk P r M o.op with
            | some gv => cond gv.1 (evOps P E q call ops wallOf rest (keepsGuard ops cg o.dst) (put r o.dst gv.2) M κ) none
            | none => (evStep P E q call (wallOf i r) r M o.op).bind fun p => evOps P E q call ops wallOf rest (keepsGuard ops cg o.dst) (put r o.dst p.1) p.2 κ) = some R →
          (match chk P r M o.op with
            | some gv => cond gv.1 (evOps P E q call ops wallOf rest (keepsGuard ops cg o.dst) (put r o.dst gv.2) M κ') none
            | none => (evStep P E q call (wallOf i r) r M o.op).bind fun p => evOps P E q call ops wallOf rest (keepsGuard ops cg o.dst) (put r o.dst p.1) p.2 κ') = some R := by
        intro cg r h
        split at h
        · rename_i gv hgv
          obtain ⟨g, v⟩ := gv
          cases g
          · cases h
          · exact ih _ _ _ _ h
        · simp only [Option.bind_eq_some_iff] at h ⊢
          obtain ⟨p, h1, h2⟩ := h
          exact ⟨p, h1, ih _ _ _ _ h2⟩
      split at h
      · exact exec _ _ h
      · rename_i j want hg
        split at h
        · exact exec _ _ h
        · exact ih _ _ _ _ h
        · split at h
          · rename_i b hb
            cases want <;> cases b
            · exact exec _ _ h
            · exact ih _ _ _ _ h
            · exact ih _ _ _ _ h
            · exact exec _ _ h
          · cases hs : isSk (guardVal ops r j)
            · rw [hs] at h; cases h
            · rw [hs] at h; exact ih _ _ _ _ h

theorem tidy_le {L : Option (List Nat)} {n : Nat} {r : List Value} {M : Mem} {κ κ' : List Value → Mem → Ret} (hk : KLe2 κ κ') {R : Value × Mem} (h : tidy L n r M κ = some R) : tidy L n r M κ' = some R := by
  unfold tidy at h ⊢
  cases L with
  | none => exact hk _ _ _ h
  | some L =>
    simp only [forceL_eq] at h ⊢
    cases hb : Nat.blt n M.length
    · rw [hb] at h; exact hk _ _ _ h
    · rw [hb] at h
      simp only [cond_true] at h ⊢
      cases hc : ((keep L r).all (low n) && (M.take n).all fun k => k.cells.all (low1 n))
      · rw [hc] at h; exact hk _ _ _ h
      · rw [hc] at h; exact hk _ _ _ h

theorem blockK_le {id : Nat} {L : Option (List Nat)} {n : Nat} {κ κ' : Kont} (hk : KLe κ κ') : KLe
    (fun e r' M' => match e with
      | .norm => tidy L n r' M' fun r M => κ .norm r M
      | .exit j => cond (Nat.beq j id) (tidy L n r' M' fun r M => κ .norm r M) (κ (.exit j) r' M')
      | .ret => κ .ret r' M')
    (fun e r' M' => match e with
      | .norm => tidy L n r' M' fun r M => κ' .norm r M
      | .exit j => cond (Nat.beq j id) (tidy L n r' M' fun r M => κ' .norm r M) (κ' (.exit j) r' M')
      | .ret => κ' .ret r' M') := by
  intro e r M R h
  cases e with
  | norm => exact tidy_le (fun _ _ _ => hk .norm _ _ _) h
  | ret => exact hk _ _ _ _ h
  | exit j =>
    dsimp only at h ⊢
    cases hj : Nat.beq j id
    · rw [hj] at h; exact hk _ _ _ _ h
    · rw [hj] at h; simp only [cond_true] at h ⊢; exact tidy_le (fun r M R => hk .norm r M R) h

theorem backK_le {L : Option (List Nat)} {κ κ' : Kont} (hk : KLe κ κ') : KLe (backK L κ) (backK L κ') := by
  intro e r M R h
  cases e with
  | norm => simp only [backK, forceL_eq] at h ⊢; exact hk _ _ _ _ h
  | ret => exact hk _ _ _ _ h
  | exit j => exact hk _ _ _ _ h

theorem loopN_le {step step' : List Value → Mem → Kont → Ret} (hs : ∀ r M κ κ', KLe κ κ' → ∀ R, step r M κ = some R → step' r M κ' = some R) : ∀ (n : Nat) (r : List Value) (M : Mem) (κ κ' : Kont), KLe κ κ' → ∀ R,
    loopN step n r M κ = some R → loopN step' n r M κ' = some R := by
  intro n
  induction n with
  | zero => intro r M κ κ' hk R h; cases h
  | succ n ih =>
    intro r M κ κ' hk R h
    simp only [loopN] at h ⊢
    refine hs _ _ _ _ ?_ _ h
    intro e r M R h
    cases e with
    | norm => exact ih _ _ _ _ hk _ h
    | exit j => exact hk _ _ _ _ h
    | ret => exact hk _ _ _ _ h

theorem evC_le {ann : Nat → RAnn} {wall k : Nat} : ∀ (c : Code) (r : List Value) (M : Mem) (κ κ' : Kont), KLe κ κ' → ∀ R, evC P E q ann call wall k c r M κ = some R → evC P E q ann call wall k c r M κ' = some R := by
  intro c
  induction c with
  | skip => intro r M κ κ' hk R h; exact hk _ _ _ _ h
  | label l => intro r M κ κ' hk R h; exact hk _ _ _ _ h
  | exit id => intro r M κ κ' hk R h; exact hk _ _ _ _ h
  | ret => intro r M κ κ' hk R h; exact hk _ _ _ _ h
  | seq x y ihx ihy =>
    intro r M κ κ' hk R h
    simp only [evC] at h ⊢
    refine ihx _ _ _ _ ?_ _ h
    intro e r M R h
    cases e with
    | norm => exact ihy _ _ _ _ hk _ h
    | exit j => exact hk _ _ _ _ h
    | ret => exact hk _ _ _ _ h
  | cond b x y ihx ihy =>
    intro r M κ κ' hk R h
    simp only [evC] at h ⊢
    split at h
    · rename_i t _
      cases t
      · exact ihy _ _ _ _ hk _ h
      · exact ihx _ _ _ _ hk _ h
    · cases h
  | block id x ih =>
    intro r M κ κ' hk R h
    simp only [evC] at h ⊢
    exact ih _ _ _ _ (blockK_le hk) _ h
  | loop x ih =>
    intro r M κ κ' hk R h
    simp only [evC, forceL_eq] at h ⊢
    exact loopN_le (step := fun r M κ => evC P E q ann call wall k x r M (backK (headLive ann x) κ)) (fun r M κ κ' hk R h => ih _ _ _ _ (backK_le hk) _ h) _ _ _ _ _ hk _ h
  | scope x ih =>
    intro r M κ κ' hk R h
    simp only [evC] at h ⊢
    exact ih _ _ _ _ hk _ h
  | region id ops draw =>
    intro r M κ κ' hk R h
    simp only [evC, forceL_eq] at h ⊢
    cases draw
    · exact evOps_le (fun _ _ _ => hk .norm _ _ _) _ _ _ _ _ h
    · exact evOps_le (fun _ _ _ => hk .norm _ _ _) _ _ _ _ _ h
  | goto l => intro r M κ κ' hk R h; simp [evC] at h
  | rangeFunc f ps x y ihx ihy => intro r M κ κ' hk R h; simp [evC] at h
  | refuse s => intro r M κ κ' hk R h; simp [evC] at h

/-- The loops of code, the outer ahead of the inner. -/
def loopsOf : Code → List Code
  | .seq a b => loopsOf a ++ loopsOf b
  | .cond _ a b => loopsOf a ++ loopsOf b
  | .block _ c => loopsOf c
  | .scope c => loopsOf c
  | .loop c => c :: loopsOf c
  | _ => []

/-- Summaries hold of a code's loops. -/
def LoopsOk (P : Program) (E : TypeId → Option (List CK)) (q : FuncId → Bool) (ann : Nat → RAnn) (call : CallFn) (wall k : Nat) (L : LoopFn) (c : Code) : Prop :=
  ∀ c' ∈ loopsOf c, ∀ id, firstReg c' = some id → ∀ r M g, L id r M = some g → ∀ κ R, g κ = some R →
    loopN (fun r M κ => evC P E q ann call wall k c' r M (backK (headLive ann c') κ)) k r M κ = some R

theorem evS_le {ann : Nat → RAnn} {wall k : Nat} {L : LoopFn} : ∀ (c : Code), LoopsOk P E q ann call wall k L c → ∀ (r : List Value) (M : Mem) (κ κ' : Kont), KLe κ κ' → ∀ R,
    evS P E q ann call wall k L c r M κ = some R → evC P E q ann call wall k c r M κ' = some R := by
  intro c
  induction c with
  | skip => intro _ r M κ κ' hk R h; exact hk _ _ _ _ h
  | label l => intro _ r M κ κ' hk R h; exact hk _ _ _ _ h
  | exit id => intro _ r M κ κ' hk R h; exact hk _ _ _ _ h
  | ret => intro _ r M κ κ' hk R h; exact hk _ _ _ _ h
  | seq x y ihx ihy =>
    intro hl r M κ κ' hk R h
    simp only [evC, evS] at h ⊢
    refine ihx (fun c' hc => hl c' (by simp [loopsOf, hc])) _ _ _ _ ?_ _ h
    intro e r M R h
    cases e with
    | norm => exact ihy (fun c' hc => hl c' (by simp [loopsOf, hc])) _ _ _ _ hk _ h
    | exit j => exact hk _ _ _ _ h
    | ret => exact hk _ _ _ _ h
  | cond b x y ihx ihy =>
    intro hl r M κ κ' hk R h
    simp only [evC, evS] at h ⊢
    split at h
    · rename_i t ht
      rw [ht]
      cases t
      · exact ihy (fun c' hc => hl c' (by simp [loopsOf, hc])) _ _ _ _ hk _ h
      · exact ihx (fun c' hc => hl c' (by simp [loopsOf, hc])) _ _ _ _ hk _ h
    · cases h
  | block id x ih =>
    intro hl r M κ κ' hk R h
    simp only [evC, evS] at h ⊢
    exact ih hl _ _ _ _ (blockK_le hk) _ h
  | loop x ih =>
    intro hl r M κ κ' hk R h
    simp only [evC, evS, forceL_eq] at h ⊢
    have mono := fun {r M R} => loopN_le (step := fun r M κ => evC P E q ann call wall k x r M (backK (headLive ann x) κ)) (step' := fun r M κ => evC P E q ann call wall k x r M (backK (headLive ann x) κ))
      (fun r M κ κ' hk R h => evC_le _ _ _ _ _ (backK_le hk) _ h) k r M κ κ' hk R
    split at h
    · rename_i g hg
      unfold leap at hg
      split at hg
      · rename_i id hid
        exact mono (hl x (by simp [loopsOf]) id hid _ _ _ hg _ _ h)
      · cases hg
    · exact mono h
  | scope x ih =>
    intro hl r M κ κ' hk R h
    simp only [evC, evS] at h ⊢
    exact ih hl _ _ _ _ hk _ h
  | region id ops draw =>
    intro _ r M κ κ' hk R h
    simp only [evC, evS, forceL_eq] at h ⊢
    cases draw
    · exact evOps_le (fun _ _ _ => hk .norm _ _ _) _ _ _ _ _ h
    · exact evOps_le (fun _ _ _ => hk .norm _ _ _) _ _ _ _ _ h
  | goto l => intro _ r M κ κ' hk R h; simp [evS] at h
  | rangeFunc f ps x y ihx ihy => intro _ r M κ κ' hk R h; simp [evS] at h
  | refuse s => intro _ r M κ κ' hk R h; simp [evS] at h

/-- A function's code. -/
def codeOf (P : Program) (f : FuncId) : Code := match P.funcs[f]? with | some fn => (match fn.body with | some c => c | none => .skip) | none => .skip

/-- A function's body, loops told ahead. -/
def bodyS (P : Program) (A : Ann) (call : CallFn) (k : Nat) (L : LoopFn) : CallFn := fun f args M wall =>
  match P.funcs[f]? with
  | none => none
  | some fn => match fn.body with
    | none => none
    | some c => evS P A.E A.q (A.reg f) call wall k L c (start fn args) M (retK P fn)

theorem bodyS_le {A : Ann} {k : Nat} {L : LoopFn} {f : FuncId} {args : List Value} {M : Mem} {wall : Nat} {R : Value × Mem} (hl : LoopsOk P A.E A.q (A.reg f) call wall k L (codeOf P f)) (h : bodyS P A call k L f args M wall = some R) :
    bodyCall P A call k f args M wall = some R := by
  unfold bodyS at h
  unfold bodyCall
  split at h
  · cases h
  · rename_i fn hfn
    split at h
    · cases h
    · rename_i c hc
      rw [show codeOf P f = c from by simp [codeOf, hfn, hc]] at hl
      rw [hfn]
      simp only [hc]
      exact evS_le c hl _ _ _ _ (KLe.refl _) _ h

/-- A part of code. -/
def sub : Code → List Nat → Code
  | c, [] => c
  | .seq a b, i :: p => cond (Nat.beq i 0) (sub a p) (sub b p)
  | .cond _ a b, i :: p => cond (Nat.beq i 0) (sub a p) (sub b p)
  | .block _ c, _ :: p => sub c p
  | .loop c, _ :: p => sub c p
  | .scope c, _ :: p => sub c p
  | c, _ => c

/-- Registers, laid out. -/
def mk (n : Nat) (l : List (Nat × Value)) : List Value := (List.range n).map fun i => match l.lookup i with | some v => v | none => undef

/-- One of two, by what is found. -/
def optK {α β : Type} (x : Option α) (a : α → β) (b : β) : β := match x with | some x => a x | none => b

end Go.Ev
