/-
  The evaluator that goes on where values and memory are not known in full: checks stand out as branches; loops are told; calls are told or gone through.
-/
import Derived.Test.YteeclgeoconekaaEvProj
import Derived.Test.YteeclgeoconekaaEvTold
namespace Go.Ev
variable {P : Program} {E : TypeId → Option (List CK)} {q : FuncId → Bool}

/-- Calls, with what comes behind. -/
abbrev CallC := FuncId → List Value → Mem → Nat → (Value × Mem → Ret) → Ret
def plainC (CK : CallC) : CallFn := fun f args M wall => CK f args M wall some
structure CpsOk (P : Program) (q : FuncId → Bool) (CK : CallC) : Prop where
  cps : ∀ f args M wall κ R, CK f args M wall κ = some R → ∃ p, CK f args M wall some = some p ∧ κ p = some R ∧ ∀ κ', CK f args M wall κ' = κ' p
  quiet : ∀ f args M v M', q f = true → CK f args M M.length some = some (v, M') → trim P M M' v = (v, M')

def dummyB : CallB := fun _ _ _ _ => .lf false (undef, [])

/-- What comes behind, once. -/
def apK (t : Br (Value × Mem)) (κ : Value × Mem → Ret) : Ret := match t.val with | some p => κ p | none => none
theorem apK_val {t : Br (Value × Mem)} {p : Value × Mem} (h : t.val = some p) (κ : Value × Mem → Ret) : apK t κ = κ p := by simp only [apK, h]
theorem apK_some (t : Br (Value × Mem)) : apK t some = t.val := by cases h : t.val <;> simp only [apK, h]
theorem apK_ok {t : Br (Value × Mem)} {κ : Value × Mem → Ret} {R : Value × Mem} (h : apK t κ = some R) : ∃ x, t.val = some x ∧ κ x = some R ∧ ∀ κ', apK t κ' = κ' x := by
  cases hv : t.val with
  | none => simp only [apK, hv] at h; cases h
  | some p => exact ⟨p, rfl, by simpa only [apK, hv] using h, fun κ' => apK_val hv κ'⟩

/-- One operation, with what comes behind. -/
def execB (P : Program) (E : TypeId → Option (List CK)) (q : FuncId → Bool) (CK : CallC) (wall : Nat) (r : List Value) (M : Mem) (op : Op) (κ : Value × Mem → Ret) : Ret :=
  match op with
  | .call ⟨.value f, args, _⟩ => match ev r f with
    | .func (.func g) first captured => CK g (first.toList ++ (args.toList.map (ev r) ++ captured.toList)) M (cond (q g) M.length wall) κ
    | _ => none
  | .call ⟨.builtin .append, args, ts⟩ => apK (stepB P E q dummyB wall r M (.call ⟨.builtin .append, args, ts⟩)) κ
  | op => (stepB P E q dummyB wall r M op).run κ

theorem step_indep {c1 c2 : CallFn} {wall : Nat} {r : List Value} {M : Mem} {op : Op} (h : ∀ f args ts, op ≠ .call ⟨.value f, args, ts⟩) : evStep P E q c1 wall r M op = evStep P E q c2 wall r M op := by
  unfold evStep
  split <;> first | rfl | (rename_i f args ts; exact absurd rfl (h f args ts))

theorem dummy_quiet : QuietOk P q dummyB := fun _ _ _ _ _ _ h => by cases h

theorem execB_ok {CK : CallC} (hC : CpsOk P q CK) {wall : Nat} {r : List Value} {M : Mem} {op : Op} {κ : Value × Mem → Ret} {R : Value × Mem} (h : execB P E q CK wall r M op κ = some R) :
    ∃ p, evStep P E q (plainC CK) wall r M op = some p ∧ κ p = some R ∧ ∀ κ', execB P E q CK wall r M op κ' = κ' p := by
  have other : (∀ f args ts, op ≠ .call ⟨.value f, args, ts⟩) → (stepB P E q dummyB wall r M op).run κ = some R → (∀ κ', execB P E q CK wall r M op κ' = (stepB P E q dummyB wall r M op).run κ') →
      ∃ p, evStep P E q (plainC CK) wall r M op = some p ∧ κ p = some R ∧ ∀ κ', execB P E q CK wall r M op κ' = κ' p := by
    intro hn h he
    obtain ⟨p, h1, h2, h3⟩ := Br.run_ok h
    refine ⟨p, ?_, h2, fun κ' => (he κ').trans (h3 κ')⟩
    rw [step_indep (c2 := plainB dummyB) hn]
    exact stepB_ok dummy_quiet h1
  unfold execB at h
  split at h
  · rename_i f args ts
    split at h
    · rename_i g first captured hf
      obtain ⟨p, h1, h2, h3⟩ := hC.cps _ _ _ _ _ _ h
      refine ⟨p, ?_, h2, fun κ' => by simp only [execB, hf]; exact h3 κ'⟩
      simp only [evStep, hf, evCallee]
      cases hqg : q g
      · rw [hqg] at h1
        simpa [plainC] using h1
      · rw [hqg] at h1
        simp only [cond_true] at h1 ⊢
        have := hC.quiet _ _ _ _ _ hqg h1
        simp only [plainC, h1, Option.bind_some, this]
    · cases h
  · rename_i args ts
    obtain ⟨p, h1, h2, h3⟩ := apK_ok h
    refine ⟨p, ?_, h2, h3⟩
    rw [step_indep (c2 := plainB dummyB) (fun f args' ts' e => by cases e)]
    exact stepB_ok dummy_quiet h1
  · rename_i hn hn2
    exact other (fun f args ts e => hn f args ts e) h fun κ' => by
      unfold execB
      split
      · rename_i f args ts
        exact absurd rfl (hn f args ts)
      · rename_i args ts
        exact absurd rfl (hn2 args ts)
      · rfl

/-- Is an operation wanted? What comes then. -/
def guardB (ops : Array Oper) (o : Oper) (cg : Guarded) (r : List Value) (exec skip : Guarded → List Value → Ret) : Ret :=
  match o.guard with
  | none => exec cg r
  | some (j, want) =>
    match decided cg j want with
    | some true => exec cg r
    | some false => skip cg r
    | none =>
      match guardVal ops r j with
      | .bool b => cond want
          (cond b (exec (some (j, want, true)) (bare r ((ops[j]?).bind (·.dst)) true)) (skip (some (j, want, false)) (bare r ((ops[j]?).bind (·.dst)) false)))
          (cond b (skip (some (j, want, false)) (bare r ((ops[j]?).bind (·.dst)) true)) (exec (some (j, want, true)) (bare r ((ops[j]?).bind (·.dst)) false)))
      | v => cond (isSk v) (skip cg r) none

theorem guardB_ok {ops : Array Oper} {o : Oper} {cg : Guarded} {r : List Value} {exec skip : Guarded → List Value → Ret} {R : Value × Mem} (h : guardB ops o cg r exec skip = some R) (ht : Told ops cg r) :
    ∃ cg' b, Told ops cg' r ∧ wantedV ops o r = some b ∧ cond b (exec cg' r) (skip cg' r) = some R ∧ ∀ exec' skip', guardB ops o cg r exec' skip' = cond b (exec' cg' r) (skip' cg' r) := by
  unfold guardB at h
  split at h
  · rename_i hg
    exact ⟨cg, true, ht, by simp [wantedV, hg], h, fun e s => by simp [guardB, hg]⟩
  · rename_i j want hg
    have dec : ∀ d, decided cg j want = some d → wantedV ops o r = some d := by
      intro d hd
      unfold decided at hd
      split at hd
      · rename_i j' w' d'
        cases hb : (Nat.beq j' j && (w' == want))
        · rw [hb] at hd; cases hd
        · rw [hb] at hd
          cases hd
          simp only [Bool.and_eq_true, Nat.beq_eq, beq_iff_eq] at hb
          obtain ⟨rfl, rfl⟩ := hb
          obtain ⟨b, h1, h2⟩ := ht _ _ _ rfl
          simp [wantedV, hg, h1, h2]
      · cases hd
    split at h
    · rename_i hd
      exact ⟨cg, true, ht, dec true hd, h, fun e s => by simp [guardB, hg, hd]⟩
    · rename_i hd
      exact ⟨cg, false, ht, dec false hd, h, fun e s => by simp [guardB, hg, hd]⟩
    · rename_i hd
      split at h
      · rename_i b hb
        have hbe := bare_eq hb
        cases want <;> cases b <;> rw [hbe] at h
        · exact ⟨some (j, false, true), true, fun j' w' d' e => by cases e; exact ⟨false, hb, rfl⟩, by simp [wantedV, hg, hb], h, fun e s => by simp [guardB, hg, hd, hb, hbe]⟩
        · exact ⟨some (j, false, false), false, fun j' w' d' e => by cases e; exact ⟨true, hb, rfl⟩, by simp [wantedV, hg, hb], h, fun e s => by simp [guardB, hg, hd, hb, hbe]⟩
        · exact ⟨some (j, true, false), false, fun j' w' d' e => by cases e; exact ⟨false, hb, rfl⟩, by simp [wantedV, hg, hb], h, fun e s => by simp [guardB, hg, hd, hb, hbe]⟩
        · exact ⟨some (j, true, true), true, fun j' w' d' e => by cases e; exact ⟨true, hb, rfl⟩, by simp [wantedV, hg, hb], h, fun e s => by simp [guardB, hg, hd, hb, hbe]⟩
      · rename_i hno
        cases hs : isSk (guardVal ops r j)
        · rw [hs] at h; cases h
        · rw [hs] at h
          refine ⟨cg, false, ht, ?_, h, fun e s => ?_⟩
          · simp only [wantedV, hg]
            cases hv : guardVal ops r j with
            | bool b => exact absurd hv (hno b)
            | _ => rw [hv] at hs; simp [hs]
          · simp only [guardB, hg, hd]
            cases hv : guardVal ops r j with
            | bool b => exact absurd hv (hno b)
            | _ => rw [hv] at hs; simp [hs]

def evOpsB (P : Program) (E : TypeId → Option (List CK)) (q : FuncId → Bool) (CK : CallC) (ops : Array Oper) (wallOf : Nat → List Value → Nat) :
    List Nat → Guarded → List Value → Mem → (List Value → Mem → Ret) → Ret
  | [], _, r, M, κ => κ r M
  | i :: rest, cg, r, M, κ =>
    match ops[i]? with
    | none => none
    | some o => guardB ops o cg r
        (fun cg r => execB P E q CK (wallOf i r) r M o.op fun p => evOpsB P E q CK ops wallOf rest (keepsGuard ops cg o.dst) (put r o.dst p.1) p.2 κ)
        (fun cg r => evOpsB P E q CK ops wallOf rest (keepsGuard ops cg o.dst) (put r o.dst sk) M κ)

theorem evOpsB_trace {CK : CallC} (hC : CpsOk P q CK) {ops : Array Oper} {wallOf : Nat → List Value → Nat} : ∀ (ord : List Nat) (cg : Guarded) (r : List Value) (M : Mem) (κ : List Value → Mem → Ret) (R : Value × Mem),
    evOpsB P E q CK ops wallOf ord cg r M κ = some R → Told ops cg r → ∃ r' M', Tr P E q (plainC CK) ops wallOf ord r M r' M' ∧ κ r' M' = some R ∧ ∀ κ', evOpsB P E q CK ops wallOf ord cg r M κ' = κ' r' M' := by
  intro ord
  induction ord with
  | nil => intro cg r M κ R h _; exact ⟨r, M, .nil r M, h, fun _ => rfl⟩
  | cons i rest ih =>
    intro cg r M κ R h ht
    cases ho : ops[i]? with
    | none => simp only [evOpsB, ho] at h; cases h
    | some o =>
      simp only [evOpsB, ho] at h
      obtain ⟨cg', b, t1, t2, t3, t4⟩ := guardB_ok h ht
      cases b with
      | true =>
        simp only [cond_true] at t3
        obtain ⟨⟨v, M1⟩, h1, h2, h3⟩ := execB_ok hC t3
        obtain ⟨r', M', g1, g2, g3⟩ := ih _ _ _ _ _ h2 (t1.put o.dst v)
        exact ⟨r', M', .exec i rest o r M M1 v r' M' ho t2 h1 g1, g2, fun κ' => by simp only [evOpsB, ho]; rw [t4]; exact (h3 _).trans (g3 κ')⟩
      | false =>
        simp only [cond_false] at t3
        obtain ⟨r', M', g1, g2, g3⟩ := ih _ _ _ _ _ t3 (t1.put o.dst sk)
        exact ⟨r', M', .skip i rest o r M r' M' ho t2 g1, g2, fun κ' => by simp only [evOpsB, ho]; rw [t4]; exact g3 κ'⟩

/-- A run of code, from a state to a state. -/
def Runs (P : Program) (wall : Nat) (c : Code) (r : List Value) (M : Mem) (e : Ex) (r' : List Value) (M' : Mem) : Prop :=
  Keeps M M' wall ∧ ∀ (φ : Fi) (a : Act) (w : World), Rel φ M wall w → wall ≤ M.length → RR φ r a.tmps → a.defers = [] → ∀ Q : Exit → Act → World → Prop,
    (∀ φ' a' w', RR φ' r' a'.tmps → Post φ φ' M M' wall w w' → a'.defers = [] → Q (toExit e) a' w') → c.wp P Q a w

/-- What is told of code, with what comes behind. -/
def Sem (P : Program) (wall : Nat) (c : Code) (r : List Value) (M : Mem) (g : Kont → Ret) : Prop :=
  ∀ κ R, g κ = some R → ∃ e r' M', κ e r' M' = some R ∧ (∀ κ', g κ' = κ' e r' M') ∧ Runs P wall c r M e r' M'

abbrev LoopB := Nat → List Value → Mem → Option (Kont → Ret)

def evB (P : Program) (E : TypeId → Option (List CK)) (q : FuncId → Bool) (ann : Nat → RAnn) (CK : CallC) (wall : Nat) (L : LoopB) : Code → List Value → Mem → Kont → Ret
  | .skip, r, M, κ => κ .norm r M
  | .label _, r, M, κ => κ .norm r M
  | .seq a b, r, M, κ => evB P E q ann CK wall L a r M fun e r M => match e with
    | .norm => evB P E q ann CK wall L b r M κ
    | e => κ e r M
  | .cond c a b, r, M, κ => match ev r c with
    | .bool t => cond t (evB P E q ann CK wall L a (bareOp r c true) M κ) (evB P E q ann CK wall L b (bareOp r c false) M κ)
    | _ => none
  | .block id c, r, M, κ => evB P E q ann CK wall L c r M fun e r' M' => match e with
    | .norm => tidy (ann (blkAt id)).live M.length r' M' fun r M => κ .norm r M
    | .exit j => cond (Nat.beq j id) (tidy (ann (blkAt id)).live M.length r' M' fun r M => κ .norm r M) (κ (.exit j) r' M')
    | .ret => κ .ret r' M'
  | .scope c, r, M, κ => evB P E q ann CK wall L c r M κ
  | .loop c, r, M, κ => forceL (keepO (headLive ann c) r) fun r => match leap L (firstReg c) r M with
    | some g => g κ
    | none => none
  | .exit id, r, M, κ => κ (.exit id) r M
  | .ret, r, M, κ => κ .ret r M
  | .region id ops draw, r, M, κ =>
    forceL (keepO (ann id).live r) fun r =>
      cond draw (evOpsB P E q CK ops (wallFor ops (ann id).conf wall) (ann id).ord none r M fun r M => κ .norm r M)
        (evOpsB P E q CK ops (fun _ _ => wall) (List.range ops.size) none r M fun r M => κ .norm r M)
  | _, _, _, _ => none

/-- The loops of some code are told truly. -/
def LoopsSem (P : Program) (wall : Nat) (L : LoopB) (c : Code) : Prop :=
  ∀ x ∈ loopsOf c, ∀ id, firstReg x = some id → ∀ r M g, L id r M = some g → Sem P wall (.loop x) r M g

theorem tidy_cps {L : Option (List Nat)} {n : Nat} {r : List Value} {M : Mem} {κ : List Value → Mem → Ret} {R : Value × Mem} (h : tidy L n r M κ = some R) : ∃ r2 M2, κ r2 M2 = some R ∧ ∀ κ', tidy L n r M κ' = κ' r2 M2 := by
  unfold tidy at *
  cases L with
  | none => exact ⟨r, M, h, fun _ => rfl⟩
  | some L =>
    simp only [forceL_eq] at h ⊢
    cases hb : Nat.blt n M.length
    · rw [hb] at h; exact ⟨_, _, h, fun _ => rfl⟩
    · rw [hb] at h
      simp only [cond_true] at h ⊢
      cases hc : ((keep L r).all (low n) && (M.take n).all fun k => k.cells.all (low1 n))
      · rw [hc] at h; exact ⟨_, _, h, fun _ => rfl⟩
      · rw [hc] at h; exact ⟨_, _, h, fun _ => rfl⟩

theorem tidy_both {L : Option (List Nat)} {r : List Value} {M M' : Mem} {κ : List Value → Mem → Ret} {R : Value × Mem} (h : tidy L M.length r M' κ = some R) {wall : Nat} :
    ∃ r2 M2, κ r2 M2 = some R ∧ (∀ κ', tidy L M.length r M' κ' = κ' r2 M2) ∧ (∀ (φ φ' : Fi) (w w' : World) (t : Array Value), Rel φ M wall w → Post φ φ' M M' wall w w' → RR φ' r t → ∃ φ2, RR φ2 r2 t ∧ Post φ φ2 M M2 wall w w') ∧ (Keeps M M' wall → Keeps M M2 wall) := by
  obtain ⟨r2, M2, k2, u2⟩ := tidy_cps h
  have hh : tidy L M.length r M' (fun r M => some (.agg r.toArray, M)) = some (.agg r2.toArray, M2) := u2 _
  obtain ⟨r4, M4, k4, s4, t4⟩ := tidy_sound (wall := wall) hh
  simp only [Option.some.injEq, Prod.mk.injEq, Value.agg.injEq] at k4
  obtain ⟨e4, rfl⟩ := k4
  have e5 : r4 = r2 := by have := congrArg Array.toList e4; simpa using this
  subst e5
  exact ⟨r4, M4, k2, u2, s4, t4⟩

theorem keepO_rr {φ : Fi} {r : List Value} {t : Array Value} (h : RR φ r t) (L : Option (List Nat)) : RR φ (keepO L r) t := by
  unfold keepO
  split
  · exact keep_rr h _
  · exact h

/-- Slots that are forgotten ahead. -/
theorem Runs.keep {wall : Nat} {c : Code} {r : List Value} {M : Mem} {e : Ex} {r' : List Value} {M' : Mem} {L : Option (List Nat)} (h : Runs P wall c (keepO L r) M e r' M') : Runs P wall c r M e r' M' :=
  ⟨h.1, fun φ a w hr hw hrr hdf Q hq => h.2 φ a w hr hw (keepO_rr hrr L) hdf Q hq⟩

theorem evB_sem (hE : EqOk P E) (hm : P.follows .mixedOrders = true) {CK : CallC} (hC : CpsOk P q CK) (hG : CallGood P (plainC CK)) (ann : Nat → RAnn) (wall : Nat) (L : LoopB) : ∀ (c : Code), plansOk P q ann c = true → LoopsSem P wall L c →
    ∀ (r : List Value) (M : Mem), Sem P wall c r M (fun κ => evB P E q ann CK wall L c r M κ) := by
  obtain ⟨hc, hk, hd⟩ := hG
  intro c
  induction c with
  | skip =>
    intro _ _ r M κ R h
    exact ⟨.norm, r, M, h, fun _ => rfl, .refl _ _, fun φ a w hr hw hrr hdf Q hq => wp_skip (hq φ a w hrr (Post.refl hr) hdf)⟩
  | label l =>
    intro _ _ r M κ R h
    exact ⟨.norm, r, M, h, fun _ => rfl, .refl _ _, fun φ a w hr hw hrr hdf Q hq => wp_label (hq φ a w hrr (Post.refl hr) hdf)⟩
  | exit id =>
    intro _ _ r M κ R h
    exact ⟨.exit id, r, M, h, fun _ => rfl, .refl _ _, fun φ a w hr hw hrr hdf Q hq => wp_exit (hq φ a w hrr (Post.refl hr) hdf)⟩
  | ret =>
    intro _ _ r M κ R h
    exact ⟨.ret, r, M, h, fun _ => rfl, .refl _ _, fun φ a w hr hw hrr hdf Q hq => wp_ret (hq φ a w hrr (Post.refl hr) hdf)⟩
  | seq x y ihx ihy =>
    intro hp hl r M κ R h
    simp only [plansOk, Bool.and_eq_true] at hp
    have hlx : LoopsSem P wall L x := fun z hz => hl z (by simp [loopsOf, hz])
    have hly : LoopsSem P wall L y := fun z hz => hl z (by simp [loopsOf, hz])
    simp only [evB] at h
    obtain ⟨e1, r1, M1, k1, u1, n1, w1⟩ := ihx hp.1 hlx r M _ R h
    replace u1 : ∀ κ', evB P E q ann CK wall L x r M κ' = κ' e1 r1 M1 := u1
    have stop : e1 ≠ .norm → κ e1 r1 M1 = some R → ∃ e r' M', κ e r' M' = some R ∧ (∀ κ', evB P E q ann CK wall L (.seq x y) r M κ' = κ' e r' M') ∧ Runs P wall (.seq x y) r M e r' M' := by
      intro hne k1
      refine ⟨e1, r1, M1, k1, fun κ' => ?_, n1, fun φ a w hr hw hrr hdf Q hq => wp_seq (w1 φ a w hr hw hrr hdf _ fun φ' a' w' hrr' hp' hdf' => ?_)⟩
      · simp only [evB]
        rw [u1]
        cases e1 <;> first | exact absurd rfl hne | rfl
      · have := hq φ' a' w' hrr' hp' hdf'
        cases e1 <;> first | exact absurd rfl hne | exact this
    cases e1 with
    | norm =>
      obtain ⟨e2, r2, M2, k2, u2, n2, w2⟩ := ihy hp.2 hly r1 M1 κ R k1
      refine ⟨e2, r2, M2, k2, fun κ' => ?_, n1.trans n2, fun φ a w hr hw hrr hdf Q hq => wp_seq (w1 φ a w hr hw hrr hdf _ fun φ' a' w' hrr' hp' hdf' => ?_)⟩
      · simp only [evB]
        rw [u1]
        exact u2 κ'
      · exact w2 φ' a' w' hp'.rel (hp'.rel_wall hw) hrr' hdf' Q fun φ2 a2 w2 hrr2 hp2 hdf2 => hq φ2 a2 w2 hrr2 (hp'.trans hr hp2) hdf2
    | exit id => exact stop (fun e => by cases e) k1
    | ret => exact stop (fun e => by cases e) k1
  | cond b x y ihx ihy =>
    intro hp hl r M κ R h
    simp only [plansOk, Bool.and_eq_true] at hp
    have hlx : LoopsSem P wall L x := fun z hz => hl z (by simp [loopsOf, hz])
    have hly : LoopsSem P wall L y := fun z hz => hl z (by simp [loopsOf, hz])
    simp only [evB] at h
    split at h
    · rename_i t hb
      cases t
      · simp only [cond_false, bareOp_eq hb] at h
        obtain ⟨e1, r1, M1, k1, u1, n1, w1⟩ := ihy hp.2 hly r M κ R h
        exact ⟨e1, r1, M1, k1, fun κ' => by simp only [evB, hb, cond_false, bareOp_eq hb]; exact u1 κ', n1,
          fun φ a w hr hw hrr hdf Q hq => wp_cond_false (by have := hrr.ev b; rw [hb] at this; exact this.bool_inv) (w1 φ a w hr hw hrr hdf Q hq)⟩
      · simp only [cond_true, bareOp_eq hb] at h
        obtain ⟨e1, r1, M1, k1, u1, n1, w1⟩ := ihx hp.1 hlx r M κ R h
        exact ⟨e1, r1, M1, k1, fun κ' => by simp only [evB, hb, cond_true, bareOp_eq hb]; exact u1 κ', n1,
          fun φ a w hr hw hrr hdf Q hq => wp_cond_true (by have := hrr.ev b; rw [hb] at this; exact this.bool_inv) (w1 φ a w hr hw hrr hdf Q hq)⟩
    · cases h
  | block id x ih =>
    intro hp hl r M κ R h
    simp only [plansOk] at hp
    have hlx : LoopsSem P wall L x := fun z hz => hl z (by simpa [loopsOf] using hz)
    simp only [evB] at h
    obtain ⟨e1, r1, M1, k1, u1, n1, w1⟩ := ih hp hlx r M _ R h
    replace u1 : ∀ κ', evB P E q ann CK wall L x r M κ' = κ' e1 r1 M1 := u1
    have norm : (∀ κ', evB P E q ann CK wall L (.block id x) r M κ' = tidy (ann (blkAt id)).live M.length r1 M1 fun r M => κ' .norm r M) → (∀ (Q : Exit → Act → World → Prop) a w, Q .normal a w → Exit.inBlock id Q (toExit e1) a w) →
        tidy (ann (blkAt id)).live M.length r1 M1 (fun r M => κ .norm r M) = some R →
        ∃ e r' M', κ e r' M' = some R ∧ (∀ κ', evB P E q ann CK wall L (.block id x) r M κ' = κ' e r' M') ∧ Runs P wall (.block id x) r M e r' M' := by
      intro hu hin ht
      obtain ⟨r2, M2, k2, u2, s2, t2⟩ := tidy_both (wall := wall) ht
      refine ⟨.norm, r2, M2, k2, fun κ' => (hu κ').trans (u2 _), t2 n1, fun φ a w hr hw hrr hdf Q hq => wp_block (w1 φ a w hr hw hrr hdf _ fun φ' a' w' hrr' hp' hdf' => ?_)⟩
      obtain ⟨φ2, g3, g4⟩ := s2 φ φ' w w' a'.tmps hr hp' hrr'
      exact hin _ _ _ (hq φ2 a' w' g3 g4 hdf')
    cases e1 with
    | norm => exact norm (fun κ' => by simp only [evB]; rw [u1]) (fun _ _ _ h => h) k1
    | ret =>
      exact ⟨.ret, r1, M1, k1, fun κ' => by simp only [evB]; rw [u1], n1, fun φ a w hr hw hrr hdf Q hq => wp_block (w1 φ a w hr hw hrr hdf _ fun φ' a' w' hrr' hp' hdf' => hq φ' a' w' hrr' hp' hdf')⟩
    | exit j =>
      dsimp only at k1
      cases hj : Nat.beq j id
      · rw [hj] at k1
        have hin : ∀ (Q : Exit → Act → World → Prop) a w, Q (.exit j) a w → Exit.inBlock id Q (toExit (.exit j)) a w := by
          intro Q a w h
          simp only [toExit, Exit.inBlock]
          rw [if_neg (fun e => by rw [e] at hj; simp at hj)]
          exact h
        exact ⟨.exit j, r1, M1, k1, fun κ' => by simp only [evB]; rw [u1]; simp [hj], n1,
          fun φ a w hr hw hrr hdf Q hq => wp_block (w1 φ a w hr hw hrr hdf _ fun φ' a' w' hrr' hp' hdf' => hin _ _ _ (hq φ' a' w' hrr' hp' hdf'))⟩
      · rw [hj] at k1
        have hin : ∀ (Q : Exit → Act → World → Prop) a w, Q .normal a w → Exit.inBlock id Q (toExit (.exit j)) a w := by
          intro Q a w h
          simp only [toExit, Exit.inBlock]
          rw [if_pos (by simpa using hj)]
          exact h
        exact norm (fun κ' => by simp only [evB]; rw [u1]; simp [hj]) hin k1
  | loop x ih =>
    intro hp hl r M κ R h
    simp only [evB, forceL_eq] at h
    unfold leap at h
    cases hid : firstReg x with
    | none => rw [hid] at h; cases h
    | some id =>
      rw [hid] at h
      dsimp only at h
      cases hg : L id (keepO (headLive ann x) r) M with
      | none => rw [hg] at h; cases h
      | some g =>
        rw [hg] at h
        obtain ⟨e, r', M', k1, u1, n1⟩ := hl x (by simp [loopsOf]) id hid _ _ _ hg κ R h
        exact ⟨e, r', M', k1, fun κ' => by simp only [evB, forceL_eq, leap, hid, hg]; exact u1 κ', n1.keep⟩
  | region id ops draw =>
    intro hp _ r M κ R h
    simp only [plansOk, Bool.or_eq_true, Bool.not_eq_true'] at hp
    simp only [evB] at h
    rw [forceL_eq] at h
    cases draw with
    | false =>
      simp only [cond_false] at h
      obtain ⟨r', M', ht, hκ, hu⟩ := evOpsB_trace hC _ _ _ _ _ _ h (fun _ _ _ e => by cases e)
      exact ⟨.norm, r', M', hκ, fun κ' => by simp only [evB]; rw [forceL_eq]; exact hu _, tr_keeps hk (fun _ _ => Nat.le_refl _) ht,
        fun φ a w hr hw hrr hdf Q hq => wp_region (tr_wp hE hc hk hd ht hr hw (keepO_rr hrr _) hdf fun φ' a' w' h1 h2 h3 => hq φ' a' w' h1 h2 h3)⟩
    | true =>
      simp only [cond_true] at h
      have hpl : planOk P q (ann id) ops = true := hp.resolve_left (fun e => by cases e)
      obtain ⟨r', M', ht, hκ, hu⟩ := evOpsB_trace hC _ _ _ _ _ _ h (fun _ _ _ e => by cases e)
      exact ⟨.norm, r', M', hκ, fun κ' => by simp only [evB]; rw [forceL_eq]; exact hu _, tr_keeps hk (wallFor_ge _ _ _) ht,
        fun φ a w hr hw hrr hdf Q hq => wp_region_any hm (draw_wp hE hc hk hd hpl ht hr hw (keepO_rr hrr _) hdf fun φ' a' w' h1 h2 h3 => hq φ' a' w' h1 h2 h3)⟩
  | goto l => intro _ _ r M κ R h; simp [evB] at h
  | scope x ih =>
    intro hp hl r M κ R h
    simp only [plansOk] at hp
    have hlx : LoopsSem P wall L x := fun z hz => hl z (by simpa [loopsOf] using hz)
    simp only [evB] at h
    obtain ⟨e1, r1, M1, k1, u1, n1, w1⟩ := ih hp hlx r M _ R h
    refine ⟨e1, r1, M1, k1, fun κ' => by simp only [evB]; exact u1 κ', n1, fun φ a w hr hw hrr hdf Q hq => wp_scope_straight (w1 φ a w hr hw hrr hdf _ fun φ' a' w' hrr' hp' hdf' => ?_)⟩
    have := hq φ' a' w' hrr' hp' hdf'
    cases e1 <;> exact this
  | rangeFunc f ps x y ihx ihy => intro _ _ r M κ R h; simp [evB] at h
  | refuse s => intro _ _ r M κ R h; simp [evB] at h

end Go.Ev


/-
  Loops told by their rounds; functions over told calls and told loops; calls gone through in place.
-/
namespace Go.Ev
variable {P : Program} {E : TypeId → Option (List CK)} {q : FuncId → Bool}

/-! ### loops -/

inductive LO (S O : Type) where
  | next (s : S)
  | done (o : O)

/-- Rounds, till one is the last. -/
def itrv {S O : Type} (rnd : S → Br (LO S O)) : Nat → S → Option O
  | 0, _ => none
  | n + 1, s => match (rnd s).val with
    | some (.next s') => itrv rnd n s'
    | some (.done o) => some o
    | none => none

/-- A state, written down. -/
def recK : Kont := fun e r M => some (.tuple #[(match e with | .norm => .bool true | .exit i => .int .i64 i | .ret => .bool false), .agg r.toArray], M)
theorem recK_inj {e e' : Ex} {r r' : List Value} {M M' : Mem} (h : recK e r M = recK e' r' M') : e = e' ∧ r = r' ∧ M = M' := by
  simp only [recK, Option.some.injEq, Prod.mk.injEq, Value.tuple.injEq] at h
  obtain ⟨h1, h2⟩ := h
  have h3 := congrArg Array.toList h1
  simp only [List.cons.injEq, Value.agg.injEq, and_true] at h3
  obtain ⟨h4, h5⟩ := h3
  refine ⟨?_, by simpa using congrArg Array.toList h5, h2⟩
  cases e <;> cases e' <;> first | rfl | (simp_all; done) | (simp_all; omega)

def keepE (L : Option (List Nat)) (e : Ex) (r : List Value) : List Value := match e with | .norm => keepO L r | _ => r

/-- One round, told. -/
theorem round_runs (hE : EqOk P E) (hm : P.follows .mixedOrders = true) {CK : CallC} (hC : CpsOk P q CK) (hG : CallGood P (plainC CK)) {ann : Nat → RAnn} {wall : Nat} {L : LoopB} {x : Code} (hp : plansOk P q ann x = true) (hl : LoopsSem P wall L x)
    {r : List Value} {M : Mem} {e : Ex} {r' : List Value} {M' : Mem} (h : ∀ κ, evB P E q ann CK wall L x r M (backK (headLive ann x) κ) = κ e r' M') :
    ∃ r1, Runs P wall x r M e r1 M' ∧ r' = keepE (headLive ann x) e r1 := by
  obtain ⟨e1, r1, M1, k1, u1, n1⟩ := evB_sem hE hm hC hG ann wall L x hp hl r M (backK (headLive ann x) recK) _ (h recK)
  replace u1 : ∀ κ', evB P E q ann CK wall L x r M κ' = κ' e1 r1 M1 := u1
  have h2 := h recK
  rw [u1] at h2
  cases e1 with
  | norm =>
    simp only [backK, forceL_eq] at h2
    obtain ⟨rfl, rfl, rfl⟩ := recK_inj h2
    exact ⟨r1, n1, rfl⟩
  | exit i =>
    replace h2 : recK (.exit i) r1 M1 = recK e r' M' := h2
    obtain ⟨rfl, rfl, rfl⟩ := recK_inj h2
    exact ⟨r1, n1, rfl⟩
  | ret =>
    replace h2 : recK .ret r1 M1 = recK e r' M' := h2
    obtain ⟨rfl, rfl, rfl⟩ := recK_inj h2
    exact ⟨r1, n1, rfl⟩

/-- Rounds of the model. -/
def RunsR (P : Program) (wall : Nat) (x : Code) (n : Nat) (r : List Value) (M : Mem) (e : Ex) (r' : List Value) (M' : Mem) : Prop :=
  Keeps M M' wall ∧ ∀ (φ : Fi) (a : Act) (w : World), Rel φ M wall w → wall ≤ M.length → RR φ r a.tmps → a.defers = [] → ∀ Q : Exit → Act → World → Prop,
    (∀ φ' a' w', RR φ' r' a'.tmps → Post φ φ' M M' wall w w' → a'.defers = [] → Q (toExit e) a' w') → Code.rounds P x Q n a w

theorem RunsR.last {wall : Nat} {x : Code} {r : List Value} {M : Mem} {e : Ex} {r' : List Value} {M' : Mem} (h : Runs P wall x r M e r' M') (he : e ≠ .norm) (n : Nat) : RunsR P wall x (n + 1) r M e r' M' :=
  ⟨h.1, fun φ a w hr hw hrr hdf Q hq => by
    rw [rounds_succ]
    refine h.2 φ a w hr hw hrr hdf _ fun φ' a' w' hrr' hp' hdf' => ?_
    have := hq φ' a' w' hrr' hp' hdf'
    cases e <;> first | exact absurd rfl he | exact this⟩

theorem RunsR.more {wall : Nat} {x : Code} {r r1 : List Value} {M M1 : Mem} {e : Ex} {r' : List Value} {M' : Mem} {L : Option (List Nat)} {n : Nat} (h : Runs P wall x r M .norm r1 M1) (h' : RunsR P wall x n (keepO L r1) M1 e r' M') : RunsR P wall x (n + 1) r M e r' M' :=
  ⟨h.1.trans h'.1, fun φ a w hr hw hrr hdf Q hq => by
    rw [rounds_succ]
    refine h.2 φ a w hr hw hrr hdf _ fun φ' a' w' hrr' hp' hdf' => ?_
    exact h'.2 φ' a' w' hp'.rel (hp'.rel_wall hw) (keepO_rr hrr' L) hdf' Q fun φ2 a2 w2 hrr2 hp2 hdf2 => hq φ2 a2 w2 hrr2 (hp'.trans hr hp2) hdf2⟩

theorem RunsR.loop {wall : Nat} {x : Code} {n : Nat} {r : List Value} {M : Mem} {e : Ex} {r' : List Value} {M' : Mem} (h : RunsR P wall x n r M e r' M') : Runs P wall (.loop x) r M e r' M' :=
  ⟨h.1, fun φ a w hr hw hrr hdf Q hq => wp_loop_rounds n (h.2 φ a w hr hw hrr hdf Q hq)⟩

/-- A loop whose rounds are told by trees. -/
theorem loop_sem {S O : Type} (hE : EqOk P E) (hm : P.follows .mixedOrders = true) {CK : CallC} (hC : CpsOk P q CK) (hG : CallGood P (plainC CK)) {ann : Nat → RAnn} {wall : Nat} {L : LoopB} {x : Code} (hp : plansOk P q ann x = true) (hl : LoopsSem P wall L x)
    {st : S → List Value × Mem} {rnd : S → Br (LO S O)} {fe : O → Ex} {fr : O → List Value × Mem} (hfe : ∀ o, fe o ≠ .norm)
    (hround : ∀ s κ, evB P E q ann CK wall L x (st s).1 (st s).2 (backK (headLive ann x) κ) = (rnd s).run fun o => match o with | .next s' => κ .norm (st s').1 (st s').2 | .done o => κ (fe o) (fr o).1 (fr o).2) :
    ∀ (n : Nat) (s : S), Sem P wall (.loop x) (st s).1 (st s).2 fun κ => optK (itrv rnd n s) (fun o => κ (fe o) (fr o).1 (fr o).2) none := by
  have key : ∀ (n : Nat) (s : S) (o : O), itrv rnd n s = some o → RunsR P wall x n (st s).1 (st s).2 (fe o) (fr o).1 (fr o).2 := by
    intro n
    induction n with
    | zero => intro s o h; cases h
    | succ n ih =>
      intro s o h
      simp only [itrv] at h
      cases hv : (rnd s).val with
      | none => rw [hv] at h; cases h
      | some y =>
        have hr := fun κ => (hround s κ).trans (Br.run_val hv _)
        rw [hv] at h
        cases y with
        | next s' =>
          obtain ⟨r1, g1, g2⟩ := round_runs hE hm hC hG hp hl (e := .norm) hr
          have := ih s' o h
          rw [g2] at this
          exact RunsR.more g1 this
        | done o' =>
          cases h
          obtain ⟨r1, g1, g2⟩ := round_runs hE hm hC hG hp hl (e := fe o) hr
          have e0 := hfe o
          have : (fr o).1 = r1 := by
            rw [g2]
            unfold keepE
            split
            · rename_i e1
              exact absurd e1 e0
            · rfl
          rw [this]
          exact RunsR.last g1 e0 n
  intro n s κ R h
  cases ho : itrv rnd n s with
  | none => simp only [ho, optK] at h; cases h
  | some o =>
    simp only [ho, optK] at h
    exact ⟨_, _, _, h, fun _ => by simp only [ho, optK], (key n s o ho).loop⟩

/-! ### states, written as lists of values -/

class HV (α : Type) where
  enc : α → Value
  dec : Value → Option α
  ok : ∀ v a, dec v = some a → v = enc a

class HVs (α : Type) where
  enc : α → List Value
  dec : List Value → Option α
  ok : ∀ l a, dec l = some a → l = enc a

instance : HV Int where
  enc := .int .i64
  dec := fun | .int .i64 n => some n | _ => none
  ok := by intro v a h; split at h <;> cases h; rfl
instance : HV Bool where
  enc := .bool
  dec := fun | .bool n => some n | _ => none
  ok := by intro v a h; split at h <;> cases h; rfl
instance : HV Value where
  enc := id
  dec := some
  ok := by intro v a h; cases h; rfl
/-- A row of cells. -/
instance : HV (List Value) where
  enc l := .agg l.toArray
  dec := fun | .agg a => some a.toList | _ => none
  ok := by intro v a h; split at h <;> cases h; simp
/-- An integer of another kind. -/
structure IK (k : IntKind) where
  n : Int
def ikEq : IntKind → IntKind → Bool
  | .i8, .i8 | .i16, .i16 | .i32, .i32 | .i64, .i64 | .u8, .u8 | .u16, .u16 | .u32, .u32 | .u64, .u64 => true
  | _, _ => false
theorem ikEq_eq {a b : IntKind} (h : ikEq a b = true) : a = b := by cases a <;> cases b <;> first | rfl | cases h
instance {k : IntKind} : HV (IK k) where
  enc x := .int k x.n
  dec := fun | .int k' n => cond (ikEq k' k) (some ⟨n⟩) none | _ => none
  ok := by
    intro v a h
    split at h
    · rename_i k' n
      cases hk : ikEq k' k
      · rw [hk] at h; cases h
      · rw [hk] at h; cases h; rw [ikEq_eq hk]
    · cases h
/-- A slice at the start of block 'b'. -/
structure SL (b : Nat) where
  n : Nat
  c : Nat
instance {b : Nat} : HV (SL b) where
  enc x := .slice (some ⟨b, 0, none⟩) x.n x.c
  dec := fun | .slice (some ⟨b', o, none⟩) n c => cond (Nat.beq b' b && Nat.beq o 0) (some ⟨n, c⟩) none | _ => none
  ok := by
    intro v a h
    split at h
    · rename_i b' o n c
      cases hk : (Nat.beq b' b && Nat.beq o 0)
      · rw [hk] at h; cases h
      · rw [hk] at h; cases h
        simp only [Bool.and_eq_true, Nat.beq_eq] at hk
        obtain ⟨rfl, rfl⟩ := hk
        rfl
    · cases h
/-- A slice at the start of block 'b', grown or not. -/
structure SLs (b : Nat) where
  sp : Option Nat
  n : Nat
  c : Nat
instance {b : Nat} : HV (SLs b) where
  enc x := .slice (some ⟨b, 0, x.sp⟩) x.n x.c
  dec := fun | .slice (some ⟨b', o, sp⟩) n c => cond (Nat.beq b' b && Nat.beq o 0) (some ⟨sp, n, c⟩) none | _ => none
  ok := by
    intro v a h
    split at h
    · rename_i b' o sp n c
      cases hk : (Nat.beq b' b && Nat.beq o 0)
      · rw [hk] at h; cases h
      · rw [hk] at h; cases h
        simp only [Bool.and_eq_true, Nat.beq_eq] at hk
        obtain ⟨rfl, rfl⟩ := hk
        rfl
    · cases h
/-- A slice at the start of a block that is named: grown by elements of so many cells, or not. -/
structure SX where
  b : Nat
  sp : Option Nat
  n : Nat
  c : Nat
instance : HV SX where
  enc x := .slice (some ⟨x.b, 0, x.sp⟩) x.n x.c
  dec := fun | .slice (some ⟨b', o, sp⟩) n c => cond (Nat.beq o 0) (some ⟨b', sp, n, c⟩) none | _ => none
  ok := by
    intro v a h
    split at h
    · rename_i b' o sp n c
      cases hk : Nat.beq o 0
      · rw [hk] at h; cases h
      · rw [hk] at h; cases h
        obtain rfl : o = 0 := by simpa using hk
        rfl
    · cases h

instance : HVs Unit where
  enc _ := []
  dec := fun | [] => some () | _ => none
  ok := by intro v a h; split at h <;> cases h; rfl
instance {α β : Type} [HV α] [HVs β] : HVs (α × β) where
  enc x := HV.enc x.1 :: HVs.enc x.2
  dec := fun | v :: vs => (match HV.dec v with | some a => (match HVs.dec vs with | some b => some (a, b) | none => none) | none => none) | _ => none
  ok := by
    intro l x h
    cases l with
    | nil => cases h
    | cons v vs =>
      dsimp only at h
      cases h1 : (HV.dec v : Option α) with
      | none => rw [h1] at h; cases h
      | some a =>
        rw [h1] at h
        cases h2 : (HVs.dec vs : Option β) with
        | none => rw [h2] at h; cases h
        | some b =>
          rw [h2] at h
          cases h
          rw [HV.ok _ _ h1, HVs.ok _ _ h2]

/-- A memory by pattern, and what lies behind it. -/
def fitMT : List MPt → Mem → Option (List Value × Mem)
  | [], M => some ([], M)
  | .cells ps e :: qs, k :: ks => cond (k.live && Nat.beq k.elem e) (match fitL ps k.cells with
    | some a => match fitMT qs ks with | some b => some (a ++ b.1, b.2) | none => none
    | none => none) none
  | .row :: qs, k :: ks => cond k.live (match fitMT qs ks with | some b => some (.agg k.cells.toArray :: .int .i64 k.elem :: b.1, b.2) | none => none) none
  | .rowE e :: qs, k :: ks => cond (k.live && Nat.beq k.elem e) (match fitMT qs ks with | some b => some (.agg k.cells.toArray :: b.1, b.2) | none => none) none
  | _, _ => none

theorem fitMT_plug : ∀ {qs : List MPt} {M : Mem} {hs : List Value} {t : Mem}, fitMT qs M = some (hs, t) → M = plugM qs hs ++ t := by
  intro qs
  induction qs with
  | nil => intro M hs t h; simp only [fitMT, Option.some.injEq, Prod.mk.injEq] at h; obtain ⟨rfl, rfl⟩ := h; rfl
  | cons p qs ih => intro M hs t h; cases M with
    | nil => cases p <;> simp [fitMT] at h
    | cons k ks =>
      obtain ⟨cells, elem, live⟩ := k
      cases p with
      | cells ps e =>
        simp only [fitMT] at h
        cases hc : (live && Nat.beq elem e)
        · rw [hc] at h; cases h
        · rw [hc] at h
          simp only [cond_true] at h
          simp only [Bool.and_eq_true, Nat.beq_eq] at hc
          obtain ⟨rfl, rfl⟩ := hc
          split at h
          · rename_i a ha
            split at h
            · rename_i b hb
              cases h
              obtain ⟨h1, h2⟩ := fitL_plug ha
              have h3 := ih hb
              simp only [plugM]
              rw [plug_append b.1 h2, ← h1, ← h2, List.drop_left, List.cons_append, ← h3]
            · cases h
          · cases h
      | row =>
        simp only [fitMT] at h
        cases hc : live
        · rw [hc] at h; cases h
        · rw [hc] at h
          simp only [cond_true] at h
          split at h
          · rename_i b hb
            cases h
            have h3 := ih hb
            simp [plugM, rowOf, ← h3]
          · cases h
      | rowE e =>
        simp only [fitMT] at h
        cases hc : (live && Nat.beq elem e)
        · rw [hc] at h; cases h
        · rw [hc] at h
          simp only [cond_true] at h
          simp only [Bool.and_eq_true, Nat.beq_eq] at hc
          obtain ⟨rfl, rfl⟩ := hc
          split at h
          · rename_i b hb
            cases h
            have h3 := ih hb
            simp [plugM, cellsOf, ← h3]
          · cases h

/-- The state of a loop: slots, memory ahead, memory behind. -/
abbrev stOf {A B : Type} [HVs A] [HVs B] (rp : List Pt) (mp : List MPt) (s : A × B × Mem) : List Value × Mem := (plug rp (HVs.enc s.1), plugM mp (HVs.enc s.2.1) ++ s.2.2)

/-- A loop told by its rounds: at its head's number, at a state of this pattern. -/
def sumB {A B O : Type} [HVs A] [HVs B] (id : Nat) (rp : List Pt) (mp : List MPt) (rnd : A × B × Mem → Br (LO (A × B × Mem) O)) (n : Nat) (ko : O → Kont → Ret) (L : LoopB) : LoopB := fun id' r M =>
  cond (Nat.beq id' id) (match fitL rp r, fitMT mp M with
    | some a, some b => match (HVs.dec a : Option A), (HVs.dec b.1 : Option B) with
      | some x, some y => some fun κ => optK (itrv rnd n (x, y, b.2)) (fun o => ko o κ) none
      | _, _ => none
    | _, _ => none) (L id' r M)
def noB : LoopB := fun _ _ _ => none

theorem sumB_some {A B O : Type} [HVs A] [HVs B] {id : Nat} {rp : List Pt} {mp : List MPt} {rnd : A × B × Mem → Br (LO (A × B × Mem) O)} {n : Nat} {ko : O → Kont → Ret} {L : LoopB} {r : List Value} {M : Mem} {g : Kont → Ret}
    (h : sumB id rp mp rnd n ko L id r M = some g) : ∃ s : A × B × Mem, r = (stOf rp mp s).1 ∧ M = (stOf rp mp s).2 ∧ g = fun κ => optK (itrv rnd n s) (fun o => ko o κ) none := by
  unfold sumB at h
  simp only [Nat.beq_refl, cond_true] at h
  split at h
  · rename_i a b ha hb
    split at h
    · rename_i x y hx hy
      cases h
      refine ⟨(x, y, b.2), ?_, ?_, rfl⟩
      · rw [(fitL_plug ha).1, HVs.ok _ _ hx]
      · rw [fitMT_plug (hs := b.1) (t := b.2) hb, HVs.ok _ _ hy]
    · cases h
  · cases h

/-- What is owed of a loop that is told. -/
structure LoopIs {A B O : Type} [HVs A] [HVs B] (P : Program) (E : TypeId → Option (List CK)) (q : FuncId → Bool) (ann : Nat → RAnn) (CK : CallC) (wall : Nat) (L : LoopB) (x : Code) (rp : List Pt) (mp : List MPt)
    (rnd : A × B × Mem → Br (LO (A × B × Mem) O)) (ko : O → Kont → Ret) (fe : O → Ex) (fr : O → List Value × Mem) : Prop where
  out : ∀ o, fe o ≠ .norm
  outs : ∀ o κ, ko o κ = κ (fe o) (fr o).1 (fr o).2
  round : ∀ s κ, evB P E q ann CK wall L x (stOf rp mp s).1 (stOf rp mp s).2 (backK (headLive ann x) κ) = (rnd s).run fun o => match o with | .next s' => κ .norm (stOf rp mp s').1 (stOf rp mp s').2 | .done o => ko o κ

/-- One loop more that is told. -/
theorem LoopsSem.cons {A B O : Type} [HVs A] [HVs B] (hE : EqOk P E) (hm : P.follows .mixedOrders = true) {CK : CallC} (hC : CpsOk P q CK) (hG : CallGood P (plainC CK)) {ann : Nat → RAnn} {wall : Nat} {L L' : LoopB} {x : Code} {xs : List Code} {id : Nat}
    {rp : List Pt} {mp : List MPt} {rnd : A × B × Mem → Br (LO (A × B × Mem) O)} {n : Nat} {ko : O → Kont → Ret} {fe : O → Ex} {fr : O → List Value × Mem}
    (hp : plansOk P q ann x = true) (hl : LoopsSem P wall L' x) (hi : LoopIs P E q ann CK wall L' x rp mp rnd ko fe fr) (hid : ∀ y ∈ xs, ∀ id', firstReg y = some id' → id' ≠ id) (hx : firstReg x = some id)
    (hxs : ∀ y ∈ xs, ∀ id', firstReg y = some id' → ∀ r M g, L id' r M = some g → Sem P wall (.loop y) r M g) :
    ∀ y ∈ x :: xs, ∀ id', firstReg y = some id' → ∀ r M g, sumB id rp mp rnd n ko L id' r M = some g → Sem P wall (.loop y) r M g := by
  intro y hy id' hid' r M g h
  rcases List.mem_cons.1 hy with rfl | hy
  · rw [hx] at hid'
    cases hid'
    obtain ⟨s, rfl, rfl, rfl⟩ := sumB_some h
    have := loop_sem hE hm hC hG hp hl (st := stOf rp mp) (rnd := rnd) (fe := fe) (fr := fr) hi.out (fun s κ => by
      rw [hi.round s κ]
      congr 1
      funext o
      cases o
      · rfl
      · exact hi.outs _ _) n s
    intro κ R hR
    have e : (fun κ : Kont => optK (itrv rnd n s) (fun o => ko o κ) none) = fun κ => optK (itrv rnd n s) (fun o => κ (fe o) (fr o).1 (fr o).2) none := by
      funext κ
      congr 1
      funext o
      exact hi.outs o κ
    rw [e] at hR ⊢
    exact this κ R hR
  · have hne := hid y hy id' hid'
    have hb : Nat.beq id' id = false := by
      cases e : Nat.beq id' id
      · rfl
      · exact absurd (Nat.eq_of_beq_eq_true e) hne
    unfold sumB at h
    rw [hb] at h
    exact hxs y hy id' hid' r M g h

/-! ### functions -/

def res1G (P : Program) (r : List Value) (M : Mem) : ResultVar → Bool × Value
  | .tmp t => (true, r.getD t undef)
  | .cell a t => loadG P M t (r.getD a undef)
def resLG (P : Program) (r : List Value) (M : Mem) : List ResultVar → Bool × List Value
  | [] => (true, [])
  | x :: xs => ((res1G P r M x).1 && (resLG P r M xs).1, (res1G P r M x).2 :: (resLG P r M xs).2)
def resG (P : Program) (fn : Func) (r : List Value) (M : Mem) : Bool × Value :=
  match fn.results.toList with
  | [x] => res1G P r M x
  | xs => ((resLG P r M xs).1, .tuple (resLG P r M xs).2.toArray)

theorem res1G_ok {r : List Value} {M : Mem} {x : ResultVar} (h : (res1G P r M x).1 = true) : evRes1 P r M x = some (res1G P r M x).2 := by
  cases x with
  | tmp t => rfl
  | cell a t => exact loadG_ok h
theorem resLG_ok {r : List Value} {M : Mem} : ∀ {xs : List ResultVar}, (resLG P r M xs).1 = true → xs.mapM (evRes1 P r M) = some (resLG P r M xs).2 := by
  intro xs
  induction xs with
  | nil => intro _; rfl
  | cons x xs ih =>
    intro h
    simp only [resLG, Bool.and_eq_true] at h
    simp [resLG, List.mapM_cons, res1G_ok h.1, ih h.2]
theorem resG_ok {fn : Func} {r : List Value} {M : Mem} (h : (resG P fn r M).1 = true) : evRes P fn r M = some (resG P fn r M).2 := by
  unfold resG at *
  unfold evRes
  generalize fn.results.toList = xs at *
  match xs, h with
  | [], h => exact congrArg (·.bind fun vs => some (Value.tuple vs.toArray)) (resLG_ok h)
  | [x], h => exact res1G_ok h
  | x :: y :: zs, h => exact congrArg (·.bind fun vs => some (Value.tuple vs.toArray)) (resLG_ok h)

def retC (P : Program) (fn : Func) (κ : Value × Mem → Ret) : Kont := fun e r M => match e with
  | .exit _ => none
  | _ => cond (resG P fn r M).1 (κ ((resG P fn r M).2, M)) none

/-- A function, over what is told. -/
def bodyB (P : Program) (A : Ann) (CK : CallC) (L : LoopB) (f : FuncId) (args : List Value) (M : Mem) (wall : Nat) (κ : Value × Mem → Ret) : Ret :=
  match P.funcs[f]? with
  | none => none
  | some fn => match fn.body with
    | none => none
    | some c => evB P A.E A.q (A.reg f) CK wall L c (start fn args) M (retC P fn κ)

/-- A call that is gone through: what it leaves, and that it is so. -/
theorem bodyB_ok {A : Ann} (hf : Fits P A) {CK : CallC} (hC : CpsOk P A.q CK) (hG : CallGood P (plainC CK)) {f : FuncId} {L : LoopB} {wall : Nat} (hL : LoopsSem P wall L (codeOf P f)) {args : List Value} {M : Mem} {κ : Value × Mem → Ret} {R : Value × Mem}
    (h : bodyB P A CK L f args M wall κ = some R) : ∃ v M', κ (v, M') = some R ∧ (∀ κ', bodyB P A CK L f args M wall κ' = κ' (v, M')) ∧ ∃ T, CallGood P T ∧ T f args M wall = some (v, M') := by
  classical
  unfold bodyB at h
  cases hfn : P.funcs[f]? with
  | none => rw [hfn] at h; cases h
  | some fn =>
    rw [hfn] at h
    dsimp only at h
    cases hb : fn.body with
    | none => rw [hb] at h; cases h
    | some c =>
      rw [hb] at h
      dsimp only at h
      have hcode : codeOf P f = c := by simp [codeOf, hfn, hb]
      rw [hcode] at hL
      obtain ⟨e, r', M', k1, u1, n1, w1⟩ := evB_sem hf.eqs hf.mixed hC hG (A.reg f) wall L c (hf.plans f fn c hfn hb) hL _ _ _ _ h
      replace u1 : ∀ κ', evB P A.E A.q (A.reg f) CK wall L c (start fn args) M κ' = κ' e r' M' := u1
      have fin : (∀ κ', retC P fn κ' e r' M' = cond (resG P fn r' M').1 (κ' ((resG P fn r' M').2, M')) none) → (toExit e = .normal ∨ toExit e = .ret) →
          ∃ v M', κ (v, M') = some R ∧ (∀ κ', bodyB P A CK L f args M wall κ' = κ' (v, M')) ∧ ∃ T, CallGood P T ∧ T f args M wall = some (v, M') := by
        intro hret hex
        rw [hret] at k1
        cases hg : (resG P fn r' M').1
        · rw [hg] at k1; cases k1
        · rw [hg] at k1
          simp only [cond_true] at k1
          refine ⟨_, _, k1, fun κ' => ?_, ?_⟩
          · simp only [bodyB, hfn, hb]
            rw [u1, hret, hg]
            rfl
          · refine ⟨fun f' args' M0 wall' => if f' = f ∧ args' = args ∧ M0 = M ∧ wall' = wall then some ((resG P fn r' M').2, M') else none, ⟨?_, ?_, ?_⟩, by simp⟩
            · intro f' args' M0 wall' v M2 he φ cargs w hr hw ha
              dsimp only at he
              split at he
              · rename_i hh
                obtain ⟨rfl, rfl, rfl, rfl⟩ := hh
                cases he
                refine calls_of_wp hfn hb (w1 φ _ w hr hw ?_ rfl _ ?_)
                · refine (show VRs φ (start fn args') (cargs ++ Array.replicate (fn.ntmps - cargs.size) undef).toList from ?_)
                  have e : (cargs ++ Array.replicate (fn.ntmps - cargs.size) undef).toList = cargs.toList ++ List.replicate (fn.ntmps - cargs.size) undef := by simp
                  rw [e]
                  unfold start
                  have hl : args'.length = cargs.size := by simpa using ha.1
                  rw [hl]
                  exact ha.append (VRs.replicate (.undef _) _)
                · intro φ' a' w' hrr hp hdf
                  obtain ⟨v', e1, e2⟩ := evRes_sound (P := P) hp.rel hrr (resG_ok hg)
                  rcases hex with hex | hex
                  · rw [hex]; exact ⟨hdf, v', e1, φ', v', rfl, e2, hp⟩
                  · rw [hex]; exact ⟨hdf, v', e1, φ', v', rfl, e2, hp⟩
              · cases he
            · intro f' args' M0 wall' v M2 he
              dsimp only at he
              split at he
              · rename_i hh
                obtain ⟨rfl, rfl, rfl, rfl⟩ := hh
                cases he
                exact n1
              · cases he
            · intro f' args' M0 wall' r he
              dsimp only at he
              split at he
              · rename_i hh
                obtain ⟨rfl, rfl, rfl, rfl⟩ := hh
                exact ⟨fn, hfn, by simp [hb], hf.names f' fn hfn⟩
              · cases he
      cases e with
      | norm => exact fin (fun κ' => rfl) (.inl rfl)
      | ret => exact fin (fun κ' => rfl) (.inr rfl)
      | exit i => cases k1

end Go.Ev


/-
  What is told of calls, put together; a quiet call run in a small memory: what it is handed, pulled there; what it makes, handed on.
-/
namespace Go.Ev
variable {P : Program} {E : TypeId → Option (List CK)} {q : FuncId → Bool}

abbrev Body := List Value → Mem → Nat → (Value × Mem → Ret) → Ret
def noneC : CallC := fun _ _ _ _ _ => none
/-- One function more. -/
def moreC (f : FuncId) (b : Body) (CK : CallC) : CallC := fun f' args M wall κ => cond (Nat.beq f' f) (b args M wall κ) (CK f' args M wall κ)

structure TellOk (P : Program) (q : FuncId → Bool) (f : FuncId) (b : Body) : Prop where
  cps : ∀ args M wall κ R, b args M wall κ = some R → ∃ p, b args M wall some = some p ∧ κ p = some R ∧ ∀ κ', b args M wall κ' = κ' p
  quiet : q f = true → ∀ args M v M', b args M M.length some = some (v, M') → trim P M M' v = (v, M')
  good : ∀ args M wall R, b args M wall some = some R → ∃ T, CallGood P T ∧ T f args M wall = some R

/-- Oracles, sound. -/
structure OkC (P : Program) (q : FuncId → Bool) (CK : CallC) : Prop where
  cps : CpsOk P q CK
  good : CallGood P (plainC CK)

theorem ok_noneC : OkC P q noneC := ⟨⟨fun _ _ _ _ _ _ h => (by cases h), fun _ _ _ _ _ _ h => (by cases h)⟩, good_none⟩

theorem ok_moreC {f : FuncId} {b : Body} {CK : CallC} (hC : OkC P q CK) (hb : TellOk P q f b) : OkC P q (moreC f b CK) := by
  refine ⟨⟨?_, ?_⟩, good_of ?_⟩
  · intro f' args M wall κ R h
    simp only [moreC] at h ⊢
    cases hf : Nat.beq f' f
    · rw [hf] at h; exact hC.cps.cps _ _ _ _ _ _ h
    · rw [hf] at h; exact hb.cps _ _ _ _ _ h
  · intro f' args M v M' hq h
    simp only [moreC] at h
    cases hf : Nat.beq f' f
    · rw [hf] at h; exact hC.cps.quiet _ _ _ _ _ hq h
    · rw [hf] at h
      obtain rfl := Nat.eq_of_beq_eq_true hf
      exact hb.quiet hq _ _ _ _ h
  · intro f' args M wall R h
    simp only [plainC, moreC] at h
    cases hf : Nat.beq f' f
    · rw [hf] at h; exact ⟨_, hC.good, h⟩
    · rw [hf] at h
      obtain rfl := Nat.eq_of_beq_eq_true hf
      exact hb.good _ _ _ _ h

/-! ### told by trees -/

theorem run_some {α : Type} : ∀ {t : Br (Value × Mem)}, t.run some = t.val := by
  intro t
  induction t with
  | lf g x => cases g <;> rfl
  | nd c a b iha ihb => cases c <;> first | exact iha | exact ihb

abbrev Tree := List Value → Mem → Nat → Br (Value × Mem)
def bodyT (t : Tree) : Body := fun args M wall κ => (t args M wall).run κ

theorem tellT {f : FuncId} {t : Tree} (hq : q f = true → ∀ args M v M', (t args M M.length).val = some (v, M') → trim P M M' v = (v, M'))
    (hg : ∀ args M wall R, (t args M wall).val = some R → ∃ T, CallGood P T ∧ T f args M wall = some R) : TellOk P q f (bodyT t) := by
  refine ⟨?_, ?_, ?_⟩
  · intro args M wall κ R h
    obtain ⟨p, h1, h2, h3⟩ := Br.run_ok h
    exact ⟨p, (h3 some).trans rfl, h2, h3⟩
  · intro hqf args M v M' h
    rw [bodyT, run_some (α := Unit)] at h
    exact hq hqf _ _ _ _ h
  · intro args M wall R h
    rw [bodyT, run_some (α := Unit)] at h
    exact hg _ _ _ _ h

/-! ### gone through in place -/

/-- A quiet call's oracle, trimmed. -/
theorem good_trim {T : CallFn} (hT : CallGood P T) : CallGood P fun f args M _ => (T f args M M.length).bind fun p => some (trim P M p.2 p.1) := by
  obtain ⟨hc, hk, hd⟩ := hT
  refine ⟨?_, ?_, ?_⟩
  · intro f args M wall v M' h φ args' w hr hw ha
    exact evCallee_sound (q := fun _ => true) hc hk (M := M) (wall := wall) (f := f) (args := args) (by simpa [evCallee] using h) hr hw ha
  · intro f args M wall v M' h
    simp only [Option.bind_eq_some_iff, Option.some.injEq] at h
    obtain ⟨⟨v1, M1⟩, h1, h2⟩ := h
    have hk1 := hk _ _ _ _ _ _ h1
    have := trim_keeps (P := P) M M1 v1 (fun b hb => hk1.2 b hb hb) hk1.1
    dsimp only at h2
    rw [h2] at this
    exact ⟨this.1, fun b _ hb => this.2 b hb hb⟩
  · intro f args M wall r h
    simp only [Option.bind_eq_some_iff] at h
    obtain ⟨⟨v1, M1⟩, h1, h2⟩ := h
    exact hd _ _ _ _ _ h1

/-- A function gone through in place. 'quiet': it turns nothing, and what it tells is flat. -/
def inlB (P : Program) (A : Ann) (CK : CallC) (L : LoopB) (f : FuncId) (quiet : Bool) : Body := fun args M wall κ =>
  cond quiet (bodyB P A CK L f args M M.length fun p => cond (flatR p.1) (κ (p.1, M)) none) (bodyB P A CK L f args M wall κ)

theorem tellI {A : Ann} (hf : Fits P A) {CK : CallC} (hC : OkC P A.q CK) {f : FuncId} {L : LoopB} {quiet : Bool} (hquiet : quiet = A.q f) (hL : ∀ wall, LoopsSem P wall L (codeOf P f)) : TellOk P A.q f (inlB P A CK L f quiet) := by
  subst hquiet
  refine ⟨?_, ?_, ?_⟩
  · intro args M wall κ R h
    cases hq : A.q f
    · simp only [inlB, hq, cond_false] at h ⊢
      obtain ⟨v, M', h1, h2, _⟩ := bodyB_ok hf hC.cps hC.good (hL wall) h
      exact ⟨(v, M'), h2 some, h1, h2⟩
    · simp only [inlB, hq, cond_true] at h ⊢
      obtain ⟨v, M', h1, h2, _⟩ := bodyB_ok hf hC.cps hC.good (hL _) h
      cases hv : flatR v
      · rw [hv] at h1; cases h1
      · rw [hv] at h1
        exact ⟨(v, M), by rw [h2]; simp [hv], h1, fun κ' => by rw [h2]; simp [hv]⟩
  · intro hq args M v M' h
    simp only [inlB, hq, cond_true] at h
    obtain ⟨v1, M1, h1, h2, _⟩ := bodyB_ok hf hC.cps hC.good (hL _) h
    cases hv : flatR v1
    · rw [hv] at h1; cases h1
    · rw [hv] at h1
      cases h1
      simp [trim, hv]
  · intro args M wall R h
    cases hq : A.q f
    · simp only [inlB, hq, cond_false] at h
      obtain ⟨v, M', h1, h2, T, hT, h3⟩ := bodyB_ok hf hC.cps hC.good (hL wall) h
      cases h1
      exact ⟨T, hT, h3⟩
    · simp only [inlB, hq, cond_true] at h
      obtain ⟨v, M', h1, h2, T, hT, h3⟩ := bodyB_ok hf hC.cps hC.good (hL _) h
      cases hv : flatR v
      · rw [hv] at h1; cases h1
      · rw [hv] at h1
        cases h1
        exact ⟨_, good_trim hT, by simp [h3, trim, hv]⟩

/-! ### pulled into a small memory -/

/-- Where the blocks of a small memory lie in a greater one: which block, from which cell on. -/
abbrev Pl := List (Nat × Nat)
def pullFi (φ : Fi) (σ : Pl) : Fi := fun b => match σ[b]? with
  | some p => (match φ p.1 with | some l => some ⟨l.blk, l.off + p.2, l.room⟩ | none => none)
  | none => none
def PV (σ : Pl) (v0 v : Value) : Prop := ∀ φ v', VR φ v v' → VR (pullFi φ σ) v0 v'

theorem PV.flat {σ : Pl} {v : Value} (h : flat v = true) : PV σ v v := fun φ v' hv => by rw [hv.of_flat h]; exact VR.flat_self h
theorem PV.sl {σ : Pl} {b b' s o n c : Nat} (h : σ[b]? = some (b', s)) : PV σ (.slice (some ⟨b, o, none⟩) n c) (.slice (some ⟨b', s + o, none⟩) n c) := by
  intro φ v' hv
  cases hv with
  | scal _ h => cases h
  | sl _ _ _ _ l hl =>
    have : pullFi φ σ b = some ⟨l.blk, l.off + s, l.room⟩ := by simp [pullFi, h, hl]
    have := VR.sl (φ := pullFi φ σ) b o n c _ this
    simpa [Nat.add_assoc] using this
theorem PV.slg {σ : Pl} {b b' s o z n c : Nat} (h : σ[b]? = some (b', s)) : PV σ (.slice (some ⟨b, o, some z⟩) n c) (.slice (some ⟨b', s + o, some z⟩) n c) := by
  intro φ v' hv
  cases hv with
  | scal _ h => cases h
  | slg _ _ _ _ _ k' l hl h1 h2 h3 =>
    have : pullFi φ σ b = some ⟨l.blk, l.off + s, l.room⟩ := by simp [pullFi, h, hl]
    have := VR.slg (φ := pullFi φ σ) b o z n c k' _ this h1 h2 (by simpa [Nat.add_assoc] using h3)
    simpa [Nat.add_assoc] using this

/-- A small memory that is pulled out of a greater one. -/
structure Pulled (σ : Pl) (M M0 : Mem) : Prop where
  len : σ.length = M0.length
  blk : ∀ (b : Nat) (k0 : Blk), M0[b]? = some k0 → ∃ (b' s : Nat) (k : Blk), σ[b]? = some (b', s) ∧ M[b']? = some k ∧ k.live = true ∧ k0.elem = k.elem ∧ s + k0.cells.length ≤ k.cells.length ∧
    ∀ (j : Nat) (v0 : Value), k0.cells[j]? = some v0 → ∃ v, k.cells[s + j]? = some v ∧ PV σ v0 v

theorem rel_pull {φ : Fi} {σ : Pl} {M M0 : Mem} {wall : Nat} {w : World} (hr : Rel φ M wall w) (h : Pulled σ M M0) : Rel (pullFi φ σ) M0 M0.length w := by
  have dom : ∀ b l, pullFi φ σ b = some l → b < M0.length := by
    intro b l e
    unfold pullFi at e
    split at e
    · rename_i p hp
      rw [← h.len]
      exact lt_of_getElem? hp
    · cases e
  refine ⟨dom, ?_, fun b b' l l' k k' e1 e2 e3 e4 e5 e6 e7 _ => absurd (dom b l e1) (by omega)⟩
  intro b l k0 e hk hl
  obtain ⟨b', s, k, g1, g2, g3, g4, g5, g6⟩ := h.blk b k0 hk
  have hb := dom b l e
  unfold pullFi at e
  rw [g1] at e
  dsimp only at e
  cases hφ : φ b' with
  | none => rw [hφ] at e; cases e
  | some l' =>
    rw [hφ] at e
    cases e
    obtain ⟨arr, f, c1, c2, c3, c4, c5⟩ := hr.at_ b' l' k hφ g2 g3
    refine ⟨arr, f, by rw [g4]; exact c1, fun e => absurd hb (by omega), c3, by dsimp only; omega, fun j v0 hj => ?_⟩
    obtain ⟨v, d1, d2⟩ := g6 j v0 hj
    obtain ⟨v', d3, d4⟩ := c5 _ v d1
    exact ⟨v', by rw [← d3]; dsimp only; congr 1; omega, d2 φ v' d4⟩

/-! ### handed on -/

/-- 'v'' at new places stands for what 'v' stood for. -/
def HVal (τ : List Nat) (base : Nat) (v' v : Value) : Prop := ∀ φ1 φ2 : Fi, (∀ j t, τ[j]? = some t → φ2 (base + j) = φ1 t) → ∀ vc, VR φ1 v vc → VR φ2 v' vc

theorem HVal.flat {τ : List Nat} {base : Nat} {v : Value} (h : Ev.flat v = true) : HVal τ base v v := fun φ1 φ2 _ vc hv => by rw [hv.of_flat h]; exact VR.flat_self h
theorem HVal.sl {τ : List Nat} {base j t o n c : Nat} (h : τ[j]? = some t) : HVal τ base (.slice (some ⟨base + j, o, none⟩) n c) (.slice (some ⟨t, o, none⟩) n c) := by
  intro φ1 φ2 hφ vc hv
  cases hv with
  | scal _ h => cases h
  | sl _ _ _ _ l hl => exact .sl _ _ _ _ l ((hφ j t h).trans hl)

/-- What a quiet call made, handed on: new blocks, and where they lay. -/
structure Hand (M0 M1 : Mem) (v0 : Value) (M : Mem) (v : Value) (N : Mem) : Prop where
  ex : ∃ τ : List Nat, τ.length = N.length ∧ τ.Nodup ∧ (∀ t ∈ τ, M0.length ≤ t) ∧ HVal τ M.length v v0 ∧
    ∀ (j : Nat) (k' : Blk), N[j]? = some k' → ∃ (t : Nat) (k : Blk), τ[j]? = some t ∧ M1[t]? = some k ∧ k.live = true ∧ k'.elem = k.elem ∧ k'.cells.length ≤ k.cells.length ∧
      ∀ (i : Nat) (u' : Value), k'.cells[i]? = some u' → ∃ u, k.cells[i]? = some u ∧ HVal τ M.length u' u

theorem hand_ok {φ φ0 φ1 : Fi} {M M0 M1 N : Mem} {wall wall0 : Nat} {w w' : World} (hr : Rel φ M wall w) (hr0 : Rel φ0 M0 wall0 w) (h : Post φ0 φ1 M0 M1 M0.length w w') {v v0 vc : Value} (ht : Hand M0 M1 v0 M v N) (hv : VR φ1 v0 vc) :
    ∃ φ2, VR φ2 v vc ∧ Post φ φ2 M (M ++ N) wall w w' := by
  obtain ⟨τ, t1, t2, t3, t4, t5⟩ := ht.ex
  have hold := h.quiet_old hr0
  have fresh : ∀ t l, M0.length ≤ t → φ1 t = some l → w.heap.size ≤ l.blk := by
    intro t l ht hl
    rcases h.new _ _ hl with e | ⟨_, _, e⟩
    · exact absurd (hr0.dom _ _ e) (by omega)
    · rcases e with e | ⟨b0, l0, k0, g1, g2, _⟩
      · exact e
      · exact absurd (hr0.dom _ _ g2) (by omega)
  let φ2 : Fi := fun b => if b < M.length then φ b else match τ[b - M.length]? with | some t => φ1 t | none => none
  have φ2_old : ∀ b, b < M.length → φ2 b = φ b := fun b hb => if_pos hb
  have φ2_new : ∀ j t, τ[j]? = some t → φ2 (M.length + j) = φ1 t := by
    intro j t e
    show (if M.length + j < M.length then _ else _) = _
    rw [if_neg (by omega), show M.length + j - M.length = j from by omega, e]
  have φ2_inv : ∀ b l, φ2 b = some l → (b < M.length ∧ φ b = some l) ∨ ∃ j t, b = M.length + j ∧ τ[j]? = some t ∧ φ1 t = some l := by
    intro b l e
    by_cases hb : b < M.length
    · rw [φ2_old b hb] at e; exact .inl ⟨hb, e⟩
    · have e' : (match τ[b - M.length]? with | some t => φ1 t | none => none) = some l := by
        have : φ2 b = (match τ[b - M.length]? with | some t => φ1 t | none => none) := if_neg hb
        rw [← this]; exact e
      cases hj : τ[b - M.length]? with
      | none => rw [hj] at e'; cases e'
      | some t => rw [hj] at e'; exact .inr ⟨b - M.length, t, by omega, hj, e'⟩
  have getN : ∀ (j : Nat) (k : Blk), (M ++ N)[M.length + j]? = some k → N[j]? = some k := by
    intro j k e
    rw [List.getElem?_append_right (by omega), show M.length + j - M.length = j from by omega] at e
    exact e
  have getM : ∀ (b : Nat), b < M.length → (M ++ N)[b]? = M[b]? := fun b hb => List.getElem?_append_left hb
  have hext : Ext φ φ2 := fun b l e => (φ2_old b (hr.dom b l e)).trans e
  -- what lies at a new place
  have newAt : ∀ (j t : Nat) (l : Loc) (k : Blk), τ[j]? = some t → φ1 t = some l → N[j]? = some k → ∃ k1, M1[t]? = some k1 ∧ k1.live = true ∧ At φ2 k l (M0.length ≤ t) w' := by
    intro j t l k ej el ek
    obtain ⟨t', k1, a1, a2, a3, a4, a5, a6⟩ := t5 j k ek
    rw [ej] at a1; cases a1
    obtain ⟨arr, f, c1, c2, c3, c4, c5⟩ := h.rel.at_ t l k1 el a2 a3
    refine ⟨k1, a2, a3, arr, f, by rw [a4]; exact c1, c2, c3, by omega, fun i u' hu => ?_⟩
    obtain ⟨u, d1, d2⟩ := a6 i u' hu
    obtain ⟨v', d3, d4⟩ := c5 i u d1
    exact ⟨v', d3, d2 φ1 φ2 (fun j t e => φ2_new j t e) v' d4⟩
  have oldBlk : ∀ (b : Nat) (l : Loc) (k : Blk), φ b = some l → M[b]? = some k → k.live = true → l.blk < w.heap.size := by
    intro b l k e1 e2 e3
    obtain ⟨arr, f, c1, _⟩ := hr.at_ b l k e1 e2 e3
    exact (Array.getElem?_eq_some_iff.1 c1).1
  refine ⟨φ2, t4 φ1 φ2 (fun j t e => φ2_new j t e) vc hv, hext, ?_, ⟨?_, ?_, ?_⟩, by simp, ?_, h.size, fun c hc _ => hold c hc, h.os, h.tape, h.output⟩
  · intro b l e
    rcases φ2_inv b l e with ⟨_, e⟩ | ⟨j, t, rfl, ej, el⟩
    · exact .inl e
    · have hj := lt_of_getElem? ej
      exact .inr ⟨by omega, by simp; omega, .inl (fresh t l (t3 t (List.mem_of_getElem? ej)) el)⟩
  · intro b l e
    rcases φ2_inv b l e with ⟨hb, _⟩ | ⟨j, t, rfl, ej, el⟩
    · simp; omega
    · have hj := lt_of_getElem? ej
      simp; omega
  · intro b l k e hk hl
    rcases φ2_inv b l e with ⟨hb, e⟩ | ⟨j, t, rfl, ej, el⟩
    · rw [getM b hb] at hk
      obtain ⟨arr, f, c1, c2, c3, c4, c5⟩ := hr.at_ b l k e hk hl
      refine ⟨arr, f, (hold _ (oldBlk b l k e hk hl)).trans c1, c2, c3, c4, fun j v hj => ?_⟩
      obtain ⟨v', d1, d2⟩ := c5 j v hj
      exact ⟨v', d1, d2.mono hext⟩
    · obtain ⟨k1, _, _, arr, f, c1, c2, c3⟩ := newAt j t l k ej el (getN j k hk)
      exact ⟨arr, f, c1, fun _ => c2 (t3 t (List.mem_of_getElem? ej)), c3⟩
  · intro b b' l l' k k' e e' hk hk' hl hl' hw hne
    rcases φ2_inv b l e with ⟨hb, e⟩ | ⟨j, t, rfl, ej, el⟩ <;> rcases φ2_inv b' l' e' with ⟨hb', e'⟩ | ⟨j', t', rfl, ej', el'⟩
    · rw [getM b hb] at hk
      rw [getM b' hb'] at hk'
      exact hr.sep b b' l l' k k' e e' hk hk' hl hl' hw hne
    · rw [getM b hb] at hk
      have := oldBlk b l k e hk hl
      have := fresh t' l' (t3 t' (List.mem_of_getElem? ej')) el'
      omega
    · rw [getM b' hb'] at hk'
      have := oldBlk b' l' k' e' hk' hl'
      have := fresh t l (t3 t (List.mem_of_getElem? ej)) el
      omega
    · obtain ⟨k1, g1, g2, _⟩ := newAt j t l k ej el (getN j k hk)
      obtain ⟨k1', g1', g2', _⟩ := newAt j' t' l' k' ej' el' (getN j' k' hk')
      refine h.rel.sep t t' l l' k1 k1' el el' g1 g1' g2 g2' (t3 t (List.mem_of_getElem? ej)) fun ett => hne ?_
      subst ett
      have hj := lt_of_getElem? ej
      have hj' := lt_of_getElem? ej'
      have eq : τ[j] = τ[j'] := by
        have a := List.getElem?_eq_some_iff.1 ej
        have b := List.getElem?_eq_some_iff.1 ej'
        exact a.2.trans b.2.symm
      have hpw := List.pairwise_iff_getElem.1 t2
      rcases Nat.lt_trichotomy j j' with hlt | rfl | hgt
      · exact absurd eq (hpw j j' hj hj' hlt)
      · rfl
      · exact absurd eq.symm (hpw j' j hj' hj hgt)
  · intro b k k' hk hk' hl
    rw [getM b (lt_of_getElem? hk), hk] at hk'
    cases hk'
    exact hl

/-- A quiet call told in any memory out of its run in a small one. -/
theorem good_pull {S : CallFn} (h : ∀ f args M wall R, S f args M wall = some R → ∃ (T : CallFn) (σ : Pl) (args0 : List Value) (M0 M1 N : Mem) (v0 : Value), CallGood P T ∧ Pulled σ M M0 ∧ args0.length = args.length ∧
      (∀ (i : Nat) (a0 a : Value), args0[i]? = some a0 → args[i]? = some a → PV σ a0 a) ∧ T f args0 M0 M0.length = some (v0, M1) ∧ Hand M0 M1 v0 M R.1 N ∧ R.2 = M ++ N) : CallGood P S := by
  refine ⟨?_, ?_, ?_⟩
  · intro f args M wall v M' e φ args' w hr hw ha
    obtain ⟨T, σ, args0, M0, M1, N, v0, hT, hp, hlen, hpv, hrun, hh, hM⟩ := h _ _ _ _ _ e
    dsimp only at hM hh
    subst hM
    have hr0 := rel_pull hr hp
    have ha0 : VRs (pullFi φ σ) args0 args'.toList := by
      refine ⟨hlen.trans ha.1, fun i a0 a' h1 h2 => ?_⟩
      have hi : i < args.length := hlen ▸ lt_of_getElem? h1
      have e1 : args[i]? = some args[i] := by simp [hi]
      exact hpv i a0 _ h1 e1 φ a' (ha.2 i _ a' e1 h2)
    refine (hT.ok _ _ _ _ _ _ hrun _ args' w hr0 (Nat.le_refl _) ha0).mono ?_
    rintro e w' ⟨φ1, vc, rfl, hv, hpost⟩
    obtain ⟨φ2, g1, g2⟩ := hand_ok hr hr0 hpost hh hv
    exact ⟨φ2, vc, rfl, g1, g2⟩
  · intro f args M wall v M' e
    obtain ⟨T, σ, args0, M0, M1, N, v0, hT, hp, hlen, hpv, hrun, hh, hM⟩ := h _ _ _ _ _ e
    dsimp only at hM
    subst hM
    exact ⟨by simp, fun b _ hb => List.getElem?_append_left hb⟩
  · intro f args M wall r e
    obtain ⟨T, σ, args0, M0, M1, N, v0, hT, hp, hlen, hpv, hrun, hh, hM⟩ := h _ _ _ _ _ e
    exact hT.isDef _ _ _ _ _ hrun

end Go.Ev
