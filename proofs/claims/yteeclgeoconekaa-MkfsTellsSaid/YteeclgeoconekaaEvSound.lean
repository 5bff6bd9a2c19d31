/-
  What the evaluator tells of a call holds of the model's call.
-/
import Derived.Test.YteeclgeoconekaaEvCode
namespace Go.Ev
variable {P : Program} {φ : Fi}

/-- What is owed of a program, once: all of it closed. -/
structure Fits (P : Program) (A : Ann) : Prop where
  eqs : EqOk P A.E
  mixed : P.follows .mixedOrders = true
  names : ∀ (f : Nat) (fn : Func), P.funcs[f]? = some fn → (fn.name == "runtime.NumGoroutine") = false
  plans : ∀ (f : Nat) (fn : Func) (c : Code), P.funcs[f]? = some fn → fn.body = some c → plansOk P A.q (A.reg f) c = true

/-- One result. -/
def resSem (t : Array Value) : ResultVar → Sem Value
  | .tmp s => pure (t.getD s undef)
  | .cell a ty => do loadVar ty (← asAddr (t.getD a undef))

theorem results_eq (fn : Func) (t : Array Value) : results fn t = (do let vs ← fn.results.mapM (resSem t); pure (if h : vs.size = 1 then vs[0] else .tuple vs)) := by
  unfold results
  congr 2

theorem evRes1_sound {M : Mem} {wall : Nat} {w : World} (hr : Rel φ M wall w) {r : List Value} {t : Array Value} (hrr : RR φ r t) {x : ResultVar} {v : Value} (h : evRes1 P r M x = some v) :
    ∃ v', ((resSem t x).run P w) = .ok v' w ∧ VR φ v v' := by
  cases x with
  | tmp s =>
    simp only [evRes1, Option.some.injEq] at h
    subst h
    exact ⟨_, rfl, hrr.getD s⟩
  | cell a ty =>
    simp only [evRes1] at h
    obtain ⟨v', e1, e2⟩ := evLoad_sound (P := P) hr h (hrr.getD a)
    refine ⟨v', ?_, e2⟩
    have hv := hrr.getD a
    unfold evLoad at h
    split at h
    · rename_i ad he
      rw [he] at hv
      obtain ⟨l, _, _, e⟩ := hv.ptr_inv
      rw [e] at e1
      show (do loadVar ty (← asAddr (t.getD a undef)) : Sem Value).run P w = _
      rw [e]
      simpa [asAddr, Instr.loadAt, Instr.sureAddr] using e1
    · cases h

theorem evRes_mapM {M : Mem} {wall : Nat} {w : World} (hr : Rel φ M wall w) {r : List Value} {t : Array Value} (hrr : RR φ r t) : ∀ (xs : List ResultVar) (vs : List Value), xs.mapM (evRes1 P r M) = some vs →
    ∃ vs', (xs.mapM (resSem t)).run P w = .ok vs' w ∧ VRs φ vs vs' := by
  intro xs
  induction xs with
  | nil => intro vs h; simp at h; subst h; exact ⟨[], by simp, .nil⟩
  | cons x xs ih =>
    intro vs h
    simp only [List.mapM_cons, Option.bind_eq_bind, Option.bind_eq_some_iff, Option.pure_def, Option.some.injEq] at h
    obtain ⟨v, hv, vs1, hvs, rfl⟩ := h
    obtain ⟨v', e1, e2⟩ := evRes1_sound hr hrr hv
    obtain ⟨vs', g1, g2⟩ := ih vs1 hvs
    refine ⟨v' :: vs', ?_, .cons e2 g2⟩
    simp only [List.mapM_cons, Sem.run_bind, e1, Result.andThen_ok, g1, Sem.run_pure]

theorem evRes_sound {M : Mem} {wall : Nat} {w : World} (hr : Rel φ M wall w) {r : List Value} {t : Array Value} (hrr : RR φ r t) {fn : Func} {v : Value} (h : evRes P fn r M = some v) :
    ∃ v', (results fn t).run P w = .ok v' w ∧ VR φ v v' := by
  have main : ∀ vs vs', fn.results.toList.mapM (evRes1 P r M) = some vs → VRs φ vs vs' → (fn.results.toList.mapM (resSem t)).run P w = .ok vs' w →
      (results fn t).run P w = .ok (if h : vs'.toArray.size = 1 then vs'.toArray[0] else .tuple vs'.toArray) w := by
    intro vs vs' _ _ hrun
    rw [results_eq, Array.mapM_eq_mapM_toList]
    simp only [Sem.run_bind, Sem.run_map, hrun, Result.andThen_ok, Sem.run_pure]
  unfold evRes at h
  split at h
  · rename_i x hx
    have hm : fn.results.toList.mapM (evRes1 P r M) = some [v] := by rw [hx]; simp [h]
    obtain ⟨vs', g1, g2⟩ := evRes_mapM (P := P) hr hrr _ _ hm
    obtain ⟨v', vs2, rfl, hv, hn⟩ := g2.inv_cons
    obtain rfl := hn.inv_nil
    exact ⟨v', by rw [main _ _ hm g2 g1]; simp, hv⟩
  · rename_i hne
    simp only [Option.bind_eq_some_iff, Option.some.injEq] at h
    obtain ⟨vs, hm, rfl⟩ := h
    obtain ⟨vs', g1, g2⟩ := evRes_mapM (P := P) hr hrr _ _ hm
    have hlen : vs.length = fn.results.toList.length := by
      clear g1 g2 main hne
      generalize fn.results.toList = xs at hm
      induction xs generalizing vs with
      | nil => simp at hm; subst hm; rfl
      | cons x xs ih =>
        simp only [List.mapM_cons, Option.bind_eq_bind, Option.bind_eq_some_iff, Option.pure_def, Option.some.injEq] at hm
        obtain ⟨_, _, vs1, hvs, rfl⟩ := hm
        simp [ih _ hvs]
    have hn1 : vs'.length ≠ 1 := by
      rw [← g2.1, hlen]
      intro e
      obtain ⟨x, hx⟩ := List.length_eq_one_iff.1 e
      exact hne x hx
    refine ⟨.tuple vs'.toArray, by rw [main _ _ hm g2 g1]; simp [hn1], ?_⟩
    match vs, vs', g2, hn1 with
    | [], ws, g2, _ => obtain rfl := g2.inv_nil; exact .undef _
    | [a], ws, g2, hn1 => exact absurd g2.1.symm hn1
    | a :: b :: rest, ws, g2, _ =>
      refine .tuple _ _ (by simp) (by simpa using g2.1) fun i h1 h2 => g2.2 i _ _ (by simp at h1; simp [h1]) (by simp at h2; simp [h2])

/-- What is told of calls, sound. -/
structure CallGood (P : Program) (call : CallFn) : Prop where
  ok : CallOk P call
  keeps : CallKeeps call
  isDef : CallDef P call

/-- A function's body, run over what is told of calls. -/
def bodyCall (P : Program) (A : Ann) (call : CallFn) (k : Nat) : CallFn := fun f args M wall =>
  match P.funcs[f]? with
  | none => none
  | some fn => match fn.body with
    | none => none
    | some c => evC P A.E A.q (A.reg f) call wall k c (start fn args) M (retK P fn)

theorem good_none : CallGood P fun _ _ _ _ => none :=
  ⟨fun _ _ _ _ _ _ h => (by cases h), fun _ _ _ _ _ _ h => (by cases h), fun _ _ _ _ _ h => (by cases h)⟩

theorem good_of {S : CallFn} (h : ∀ f args M wall R, S f args M wall = some R → ∃ T, CallGood P T ∧ T f args M wall = some R) : CallGood P S :=
  ⟨fun f args M wall v M' e => let ⟨_, g, e'⟩ := h f args M wall _ e; g.ok f args M wall v M' e', fun f args M wall v M' e => let ⟨_, g, e'⟩ := h f args M wall _ e; g.keeps f args M wall v M' e',
    fun f args M wall r e => let ⟨_, g, e'⟩ := h f args M wall _ e; g.isDef f args M wall r e'⟩

theorem good_body {A : Ann} (hf : Fits P A) {call : CallFn} (ih : CallGood P call) (k : Nat) : CallGood P (bodyCall P A call k) := by
  obtain ⟨hc, hk, hd⟩ := ih
  refine ⟨?_, ?_, ?_⟩
  · intro f args M wall v M' h φ args' w hr hw ha
    simp only [bodyCall] at h
    split at h
    · cases h
    · rename_i fn hfn
      split at h
      · cases h
      · rename_i c hb
        obtain ⟨h1, _⟩ := evC_wp hf.eqs hf.mixed hc hk hd (A.reg f) wall k c (hf.plans f fn c hfn hb) _ _ _ _ h
        refine calls_of_wp hfn hb (h1 φ _ w hr hw ?_ rfl _ ?_)
        · refine (show VRs φ (start fn args) (args' ++ Array.replicate (fn.ntmps - args'.size) undef).toList from ?_)
          have e : (args' ++ Array.replicate (fn.ntmps - args'.size) undef).toList = args'.toList ++ List.replicate (fn.ntmps - args'.size) undef := by simp
          rw [e]
          unfold start
          have hl : args.length = args'.size := by simpa using ha.1
          rw [hl]
          exact ha.append (VRs.replicate (.undef _) _)
        · intro e r' M2 φ' a' w' he hrr hp hdf
          have res : ∀ (h0 : ((evRes P fn r' M2).bind fun v => some (v, M2)) = some (v, M')), a'.defers = [] ∧ ∃ v', (results fn a'.tmps).run P w' = .ok v' w' ∧
              ∃ φ' v'', Ending.returned v' = .returned v'' ∧ VR φ' v v'' ∧ Post φ φ' M M' wall w w' := by
            intro h0
            simp only [Option.bind_eq_some_iff, Option.some.injEq, Prod.mk.injEq] at h0
            obtain ⟨v0, hres, rfl, rfl⟩ := h0
            obtain ⟨v', e1, e2⟩ := evRes_sound (P := P) hp.rel hrr hres
            exact ⟨hdf, v', e1, φ', v', rfl, e2, hp⟩
          cases e with
          | norm => exact res he
          | ret => exact res he
          | exit id => cases he
  · intro f args M wall v M' h
    simp only [bodyCall] at h
    split at h
    · cases h
    · rename_i fn hfn
      split at h
      · cases h
      · rename_i c hb
        obtain ⟨_, e, r', M2, he, hkp⟩ := evC_wp hf.eqs hf.mixed hc hk hd (A.reg f) wall k c (hf.plans f fn c hfn hb) _ _ _ _ h
        have res : ((evRes P fn r' M2).bind fun v => some (v, M2)) = some (v, M') → M2 = M' := by
          intro h0
          simp only [Option.bind_eq_some_iff, Option.some.injEq, Prod.mk.injEq] at h0
          obtain ⟨_, _, _, rfl⟩ := h0
          rfl
        cases e with
        | norm => exact res he ▸ hkp
        | ret => exact res he ▸ hkp
        | exit id => cases he
  · intro f args M wall r h
    simp only [bodyCall] at h
    split at h
    · cases h
    · rename_i fn hfn
      split at h
      · cases h
      · rename_i c hb
        exact ⟨fn, hfn, by simp [hb], hf.names f fn hfn⟩

theorem good_call {A : Ann} (hf : Fits P A) : ∀ k, CallGood P (evCall P A k)
  | 0 => ⟨fun _ _ _ _ _ _ h => (by simp [evCall] at h), fun _ _ _ _ _ _ h => (by simp [evCall] at h), fun _ _ _ _ _ h => (by simp [evCall] at h)⟩
  | k + 1 => good_body hf (good_call hf k) k

/-- ████ WHAT THE EVALUATOR TELLS OF A CALL HOLDS OF THE MODEL's CALL, UNDER EVERY TAPE. -/
theorem evCall_sound {A : Ann} (hf : Fits P A) {k : Nat} {f : FuncId} {args : List Value} {M M' : Mem} {wall : Nat} {v : Value} (h : evCall P A k f args M wall = some (v, M'))
    {args' : Array Value} {w : World} (hr : Rel φ M wall w) (hw : wall ≤ M.length) (ha : VRs φ args args'.toList) :
    Calls P f args' w fun e w' => ∃ φ' v', e = .returned v' ∧ VR φ' v v' ∧ Post φ φ' M M' wall w w' :=
  (good_call hf k).ok _ _ _ _ _ _ h φ args' w hr hw ha

theorem Rel.empty (w : World) : Rel (fun _ => none) [] 0 w := ⟨fun b l h => (by cases h), fun b l k h => (by cases h), fun b b' l l' k k' h => (by cases h)⟩

/-- A call of scalars that tells a bool. -/
theorem calls_bool {T : CallFn} (hT : CallGood P T) {f : FuncId} {args : List Value} {M' : Mem} {b : Bool} (h : T f args [] 0 = some (.bool b, M')) (hargs : args.all flat = true) (w : World) :
    Calls P f args.toArray w fun e w' => e = .returned (.bool b) ∧ RowKit.Below w.heap.size w w' := by
  have ha : VRs (fun _ => none) args args.toArray.toList := by
    refine ⟨by simp, fun i v v' h1 h2 => ?_⟩
    have e := h1.symm.trans (by simpa using h2)
    cases e
    exact VR.flat_self (List.all_eq_true.1 hargs v (List.mem_of_getElem? h1))
  refine (hT.ok _ _ _ _ _ _ h _ _ w (Rel.empty w) (Nat.le_refl _) ha).mono ?_
  rintro e w' ⟨φ', v', rfl, hv, hp⟩
  rw [hv.bool_inv]
  exact ⟨rfl, hp.os, hp.tape, hp.output, hp.size, fun c hc => hp.frame c hc fun b l k _ h => by cases h⟩

end Go.Ev
