/-
  A region gone through in an order: its trace; and, in the order of the text, held against the model's.
-/
import Derived.Test.YteeclgeoconekaaEvStep
import Derived.Orders
namespace Go.Ev
variable {P : Program} {E : TypeId → Option (List CK)} {φ : Fi} {q : FuncId → Bool} {call : CallFn} {ops : Array Oper}

/-- Is an operation wanted? -/
def wantedV (ops : Array Oper) (o : Oper) (r : List Value) : Option Bool :=
  match o.guard with
  | none => some true
  | some (j, want) => match guardVal ops r j with
    | .bool b => some (b == want)
    | v => cond (isSk v) (some false) none

inductive Tr (P : Program) (E : TypeId → Option (List CK)) (q : FuncId → Bool) (call : CallFn) (ops : Array Oper) (wallOf : Nat → List Value → Nat) : List Nat → List Value → Mem → List Value → Mem → Prop where
  | nil (r : List Value) (M : Mem) : Tr P E q call ops wallOf [] r M r M
  | exec (i : Nat) (rest : List Nat) (o : Oper) (r : List Value) (M M1 : Mem) (v : Value) (r' : List Value) (M' : Mem) (ho : ops[i]? = some o) (hw : wantedV ops o r = some true)
      (hs : evStep P E q call (wallOf i r) r M o.op = some (v, M1)) (ht : Tr P E q call ops wallOf rest (put r o.dst v) M1 r' M') : Tr P E q call ops wallOf (i :: rest) r M r' M'
  | skip (i : Nat) (rest : List Nat) (o : Oper) (r : List Value) (M : Mem) (r' : List Value) (M' : Mem) (ho : ops[i]? = some o) (hw : wantedV ops o r = some false)
      (ht : Tr P E q call ops wallOf rest (put r o.dst sk) M r' M') : Tr P E q call ops wallOf (i :: rest) r M r' M'

/-- A guard that was asked still tells what it told. -/
def Told (ops : Array Oper) (cg : Guarded) (r : List Value) : Prop := ∀ j w d, cg = some (j, w, d) → ∃ b, guardVal ops r j = .bool b ∧ (b == w) = d

theorem Told.put {cg : Guarded} {r : List Value} (h : Told ops cg r) (dst : Option Tmp) (v : Value) : Told ops (keepsGuard ops cg dst) (put r dst v) := by
  intro j w d he
  cases dst with
  | none =>
    have e : keepsGuard ops cg none = cg := by cases cg <;> rfl
    rw [e] at he
    exact h j w d he
  | some t =>
    cases cg with
    | none => cases he
    | some x =>
      obtain ⟨j0, w0, d0⟩ := x
      simp only [keepsGuard] at he
      obtain ⟨b0, hb0, hd0⟩ := h j0 w0 d0 rfl
      cases hu : (ops[j0]?).bind (·.dst) with
      | none =>
        rw [hu] at he
        cases he
        exact ⟨b0, (by simp only [guardVal, hu] at hb0; cases hb0), hd0⟩
      | some u =>
        rw [hu] at he
        dsimp only at he
        cases hut : Nat.beq u t
        · rw [hut] at he
          cases he
          refine ⟨b0, ?_, hd0⟩
          simp only [guardVal, hu, Ev.put] at hb0 ⊢
          have hne : u ≠ t := fun e => by rw [e] at hut; simp at hut
          simp only [List.getD_eq_getElem?_getD, List.getElem?_set] at hb0 ⊢
          rw [if_neg (fun e => hne e.symm)]
          exact hb0
        · rw [hut] at he; cases he

theorem bndG_ok {v : Option Value} {hi d : Nat} (h : bndG v hi = true) : bnd v hi d = some (bndV v d) := by
  cases v with
  | none => rfl
  | some v =>
    cases v with
    | int k i => simp only [bndG, Bool.and_eq_true, decide_eq_true_eq] at h; simp [bnd, bndV, h.1, h.2]
    | _ => cases h

theorem bnds_ok {lo hi : Option Value} {len cap : Nat} (h1 : bndG hi cap = true) (h2 : bndG lo (bndV hi len) = true) : bnds len cap lo hi none = some (bndV lo 0, bndV hi len, cap) := by
  have e1 := bndG_ok (d := len) h1
  have e2 := bndG_ok (d := 0) h2
  have e : bnds len cap lo hi none = (bnd none cap cap).bind fun m => (bnd hi m len).bind fun h => (bnd lo h 0).bind fun l => some (l, h, m) := by cases hi <;> rfl
  rw [e]
  show (bnd hi cap len).bind _ = _
  rw [e1]
  show (bnd lo (bndV hi len) 0).bind _ = _
  rw [e2]
  rfl

theorem chk_sound {wall : Nat} {r : List Value} {M : Mem} {op : Op} {v : Value} (h : chk P r M op = some (true, v)) : evStep P E q call wall r M op = some (v, M) := by
  unfold chk at h
  split at h
  · rename_i t x
    split at h
    · rename_i k hk
      simp only [Option.some.injEq, Prod.mk.injEq] at h
      obtain ⟨h1, rfl⟩ := h
      simp [evStep, evLoadT, hk, h1]
    · rename_i hk
      simp only [Option.some.injEq, Prod.mk.injEq] at h
      obtain ⟨h1, rfl⟩ := h
      cases hl : evLoad P M t (ev r x) with
      | none => rw [hl] at h1; cases h1
      | some u =>
        rw [hl] at h1
        cases u <;> first | cases h1 | skip
        simp [evStep, evLoadT, hk, hl, boolIn]
    · cases h
  · rename_i t x ix
    split at h
    · rename_i e a len cap kk i hu hx hi
      split at h
      · rename_i inf hinf
        simp only [Option.some.injEq, Prod.mk.injEq, Bool.and_eq_true, decide_eq_true_eq] at h
        obtain ⟨⟨h1, h2⟩, rfl⟩ := h
        simp [evStep, evPure, evIndexAddr, hu, hx, hi, hinf, h1, h2]
      · cases h
    · rename_i len e a kk i hu hx hi
      split at h
      · rename_i inf hinf
        simp only [Option.some.injEq, Prod.mk.injEq, Bool.and_eq_true, decide_eq_true_eq, Option.isNone_iff_eq_none] at h
        obtain ⟨⟨h0, h1, h2⟩, rfl⟩ := h
        simp [evStep, evPure, evIndexAddr, hu, hx, hi, hinf, h0, h1, h2]
      · cases h
    · cases h
  · rename_i t x y u
    split at h
    · rename_i k a k' b hx hy
      simp only [Option.some.injEq, Prod.mk.injEq, Bool.and_eq_true, decide_eq_true_eq, Bool.not_eq_true', beq_eq_false_iff_ne] at h
      obtain ⟨⟨rfl, h2⟩, rfl⟩ := h
      simp [evStep, evPure, evBin, hx, hy, arith, h2]
    · cases h
  · rename_i t x y u
    split at h
    · rename_i k a k' b hx hy
      simp only [Option.some.injEq, Prod.mk.injEq, Bool.and_eq_true, decide_eq_true_eq, Bool.not_eq_true', beq_eq_false_iff_ne] at h
      obtain ⟨⟨rfl, h2⟩, rfl⟩ := h
      simp [evStep, evPure, evBin, hx, hy, arith, h2]
    · cases h
  · rename_i t x lo hi
    split at h
    · rename_i e a len cap hu hx
      split at h
      · rename_i inf hinf
        split at h
        · rename_i hs
          simp only [Option.some.injEq, Prod.mk.injEq, Bool.and_eq_true] at h
          obtain ⟨⟨h1, h2⟩, rfl⟩ := h
          have e := bnds_ok h1 h2
          simp only [evStep, evPure, evSlice, hu, hx, hinf, Option.map_none, e, Option.bind_some, hs]
        · rename_i z hs
          simp only [Option.some.injEq, Prod.mk.injEq, Bool.and_eq_true, Nat.beq_eq, Bool.or_eq_true, Nat.blt_eq] at h
          obtain ⟨⟨⟨h1, h2⟩, h3, h4⟩, rfl⟩ := h
          have e := bnds_ok h1 h2
          simp only [evStep, evPure, evSlice, hu, hx, hinf, Option.map_none, e, Option.bind_some, hs]
          rw [if_pos ⟨h3, h4⟩]
          rfl
      · cases h
    · rename_i n e a hu hx
      split at h
      · rename_i inf hinf
        simp only [Option.some.injEq, Prod.mk.injEq, Bool.and_eq_true, Option.isNone_iff_eq_none] at h
        obtain ⟨⟨h0, h1, h2⟩, rfl⟩ := h
        have e := bnds_ok h1 h2
        simp only [evStep, evPure, evSlice, hu, hx, hinf, Option.map_none, e, Option.bind_some]
        rw [if_pos h0]
        rfl
      · cases h
    · cases h
  · cases h

theorem set_getD {r : List Value} {d : Nat} {v : Value} (h : r.getD d undef = v) (hv : v ≠ undef) : r.set d v = r := by
  rcases Nat.lt_or_ge d r.length with hd | hd
  · have : r[d] = v := by rw [← h]; simp [List.getD_eq_getElem?_getD, hd]
    rw [← this, List.set_getElem_self]
  · exfalso
    apply hv
    rw [← h]
    simp [List.getD_eq_getElem?_getD, hd]

theorem bare_eq {r : List Value} {j : Nat} {b : Bool} (h : guardVal ops r j = .bool b) : bare r ((ops[j]?).bind (·.dst)) b = r := by
  unfold guardVal at h
  unfold bare
  cases hd : (ops[j]?).bind (·.dst) with
  | none => rfl
  | some d => rw [hd] at h; exact set_getD h (by simp [undef])

theorem bareOp_eq {r : List Value} {c : Operand} {b : Bool} (h : ev r c = .bool b) : bareOp r c b = r := by
  cases c with
  | tmp d => exact set_getD h (by simp [undef])
  | const _ => rfl
  | global _ => rfl
  | func _ => rfl

theorem evOps_trace {wallOf : Nat → List Value → Nat} : ∀ (ord : List Nat) (cg : Guarded) (r : List Value) (M : Mem) (κ : List Value → Mem → Ret) (R : Value × Mem),
    evOps P E q call ops wallOf ord cg r M κ = some R → Told ops cg r → ∃ r' M', Tr P E q call ops wallOf ord r M r' M' ∧ κ r' M' = some R := by
  intro ord
  induction ord with
  | nil => intro cg r M κ R h _; exact ⟨r, M, .nil r M, h⟩
  | cons i rest ih =>
    intro cg r M κ R h ht
    simp only [evOps] at h
    split at h
    · cases h
    · rename_i o ho
      have exec : ∀ cg', Told ops cg' r → wantedV ops o r = some true →
          (match chk P r M o.op with
            | some gv => cond gv.1 (evOps P E q call ops wallOf rest (keepsGuard ops cg' o.dst) (put r o.dst gv.2) M κ) none
            | none => (evStep P E q call (wallOf i r) r M o.op).bind fun p => evOps P E q call ops wallOf rest (keepsGuard ops cg' o.dst) (put r o.dst p.1) p.2 κ) = some R →
          ∃ r' M', Tr P E q call ops wallOf (i :: rest) r M r' M' ∧ κ r' M' = some R := by
        intro cg' ht' hw he
        split at he
        · rename_i gv hgv
          obtain ⟨g, v⟩ := gv
          cases g
          · cases he
          · obtain ⟨r', M', g1, g2⟩ := ih _ _ _ _ _ he (ht'.put o.dst v)
            exact ⟨r', M', .exec i rest o r M M v r' M' ho hw (chk_sound hgv) g1, g2⟩
        · simp only [Option.bind_eq_some_iff] at he
          obtain ⟨⟨v, M1⟩, hs, he⟩ := he
          obtain ⟨r', M', g1, g2⟩ := ih _ _ _ _ _ he (ht'.put o.dst v)
          exact ⟨r', M', .exec i rest o r M M1 v r' M' ho hw hs g1, g2⟩
      have skip : ∀ cg', Told ops cg' r → wantedV ops o r = some false →
          evOps P E q call ops wallOf rest (keepsGuard ops cg' o.dst) (put r o.dst sk) M κ = some R →
          ∃ r' M', Tr P E q call ops wallOf (i :: rest) r M r' M' ∧ κ r' M' = some R := by
        intro cg' ht' hw he
        obtain ⟨r', M', g1, g2⟩ := ih _ _ _ _ _ he (ht'.put o.dst sk)
        exact ⟨r', M', .skip i rest o r M r' M' ho hw g1, g2⟩
      split at h
      · rename_i hg
        exact exec cg ht (by simp [wantedV, hg]) h
      · rename_i j want hg
        -- what a guard told before
        have dec : ∀ d, decided cg j want = some d → wantedV ops o r = some d := by
          intro d hd
          unfold decided at hd
          split at hd
          · rename_i j' w' d'
            cases hb : (Nat.beq j' j && (w' == want))
            · rw [hb] at hd; cases hd
            · rw [hb] at hd
              cases hd
              simp only [Bool.and_eq_true, Nat.beq_eq, beq_iff_eq] at hb
              obtain ⟨rfl, rfl⟩ := hb
              obtain ⟨b, h1, h2⟩ := ht _ _ _ rfl
              simp [wantedV, hg, h1, h2]
          · cases hd
        split at h
        · exact exec cg ht (dec true ‹_›) h
        · exact skip cg ht (dec false ‹_›) h
        · split at h
          · rename_i b hb
            have hbe := bare_eq hb
            cases want <;> cases b <;> rw [hbe] at h
            · exact exec _ (fun j' w' d' e => by cases e; exact ⟨false, hb, rfl⟩) (by simp [wantedV, hg, hb]) h
            · exact skip _ (fun j' w' d' e => by cases e; exact ⟨true, hb, rfl⟩) (by simp [wantedV, hg, hb]) h
            · exact skip _ (fun j' w' d' e => by cases e; exact ⟨false, hb, rfl⟩) (by simp [wantedV, hg, hb]) h
            · exact exec _ (fun j' w' d' e => by cases e; exact ⟨true, hb, rfl⟩) (by simp [wantedV, hg, hb]) h
          · rename_i hno
            cases hs : isSk (guardVal ops r j)
            · rw [hs] at h; cases h
            · rw [hs] at h
              refine skip cg ht ?_ h
              simp only [wantedV, hg]
              cases hv : guardVal ops r j with
              | bool b => exact absurd hv (hno b)
              | _ => rw [hv] at hs; simp [hs]

theorem isSk_eq {v : Value} (h : isSk v = true) : v = .tuple #[.tuple #[]] := by
  unfold isSk at h
  split at h
  · rename_i vs
    split at h
    · rename_i us e
      have e2 : vs = #[.tuple us] := by apply Array.ext'; simpa using e
      have e3 : us = #[] := by simpa [Array.isEmpty] using h
      rw [e2, e3]
    · cases h
  · cases h

theorem VR.sk_inv {v : Value} (h : VR φ (.tuple #[.tuple #[]]) v) : v = .tuple #[] := by
  cases h with
  | sk => rfl
  | scal _ h => cases h
  | tuple _ _ h0 => simp at h0

theorem yielded_of {r : List Value} {a : Act} (hrr : RR φ r a.tmps) (j : Nat) : (∀ b, guardVal ops r j = .bool b → yielded ops a.tmps j = some b) ∧ (isSk (guardVal ops r j) = true → yielded ops a.tmps j = none) := by
  unfold guardVal yielded
  cases hd : (ops[j]?).bind (·.dst) with
  | none => exact ⟨fun b h => by simp [undef] at h, fun _ => by simp⟩
  | some d =>
    have hv := hrr.getD d
    constructor
    · intro b hb
      dsimp only at hb
      rw [hb] at hv
      have e := hv.bool_inv
      have : a.tmps[d]? = some (.bool b) := by
        cases hx : a.tmps[d]? with
        | none => simp [hx, undef] at e
        | some x => simp [hx] at e; rw [e]
      simp [this]
    · intro hs
      dsimp only at hs
      rw [isSk_eq hs] at hv
      have e := hv.sk_inv
      cases hx : a.tmps[d]? with
      | none => simp [hx]
      | some x => simp [hx] at e; subst e; simp [hx]

theorem wanted_of {r : List Value} {a : Act} (hrr : RR φ r a.tmps) {o : Oper} {b : Bool} (h : wantedV ops o r = some b) : Region.wanted o (yielded ops a.tmps) = b := by
  unfold wantedV at h
  unfold Region.wanted
  split at h
  · rename_i hg
    cases h
    rw [hg]
  · rename_i j want hg
    rw [hg]
    dsimp only
    obtain ⟨h1, h2⟩ := yielded_of (ops := ops) hrr j
    split at h
    · rename_i c hc
      cases h
      rw [h1 c hc]
      cases c <;> cases want <;> rfl
    · cases hs : isSk (guardVal ops r j)
      · rw [hs] at h; cases h
      · rw [hs] at h
        cases h
        rw [h2 hs]
        cases want <;> rfl

theorem Post.rel_wall {φ' : Fi} {M M' : Mem} {wall : Nat} {w w' : World} (h : Post φ φ' M M' wall w w') (hw : wall ≤ M.length) : wall ≤ M'.length := Nat.le_trans hw h.len

/-- In the order of the text. -/
theorem tr_wp (hE : EqOk P E) (hc : CallOk P call) (hk : CallKeeps call) (hd : CallDef P call) {wall : Nat} {Q : Exit → Act → World → Prop} {ord : List Nat} {r r' : List Value} {M M' : Mem}
    (ht : Tr P E q call ops (fun _ _ => wall) ord r M r' M') : ∀ {φ : Fi} {a : Act} {w : World}, Rel φ M wall w → wall ≤ M.length → RR φ r a.tmps → a.defers = [] →
    (∀ φ' a' w', RR φ' r' a'.tmps → Post φ φ' M M' wall w w' → a'.defers = [] → Q .normal a' w') → wpOps P ops Q ord a w := by
  induction ht with
  | nil r M =>
    intro φ a w hr hw hrr hdf hq
    exact hq φ a w hrr (Post.refl hr) hdf
  | exec i rest o r M M1 v r' M' ho hwt hs ht ih =>
    intro φ a w hr hw hrr hdf hq
    simp only [wpOps, ho, wanted_of hrr hwt, if_true]
    left
    refine step_wp hE hc hk hd hs hr hw hrr fun φ1 v1 w1 hv hp => ?_
    refine ih hp.rel (hp.rel_wall hw) ((hrr.mono hp.ext).put o.dst hv) (by cases hdst : o.dst <;> simp [Act.put, hdf]) fun φ2 a2 w2 hrr2 hp2 hdf2 => ?_
    exact hq φ2 a2 w2 hrr2 (hp.trans hr hp2) hdf2
  | skip i rest o r M r' M' ho hwt ht ih =>
    intro φ a w hr hw hrr hdf hq
    simp only [wpOps, ho, wanted_of hrr hwt, Bool.false_eq_true, if_false]
    exact ih hr hw (hrr.put o.dst .sk) (by cases hdst : o.dst <;> simp [Act.put, hdf]) hq

theorem Keeps.mono {M M' : Mem} {wall wall' : Nat} (h : Keeps M M' wall') (hw : wall ≤ wall') : Keeps M M' wall := ⟨h.1, fun b hb hl => h.2 b (Nat.lt_of_lt_of_le hb hw) hl⟩

theorem tr_keeps (hk : CallKeeps call) {wallOf : Nat → List Value → Nat} {wall : Nat} (hwall : ∀ i r, wall ≤ wallOf i r) {ord : List Nat} {r r' : List Value} {M M' : Mem}
    (ht : Tr P E q call ops wallOf ord r M r' M') : Keeps M M' wall := by
  induction ht with
  | nil => exact .refl _ _
  | exec i rest o r M M1 v r' M' ho hwt hs ht ih => exact ((step_keeps hk hs).mono (hwall i r)).trans ih
  | skip i rest o r M r' M' ho hwt ht ih => exact ih

theorem foldl_max_ge (f : Nat → Nat) (js : List Nat) (w : Nat) : w ≤ js.foldl (fun w j => max w (f j)) w := by
  induction js generalizing w with
  | nil => exact Nat.le_refl _
  | cons j js ih => exact Nat.le_trans (Nat.le_max_left _ _) (ih _)

theorem wallFor_ge (ops : Array Oper) (conf : List (Nat × List Nat)) (wall : Nat) (i : Nat) (r : List Value) : wall ≤ wallFor ops conf wall i r := by
  unfold wallFor
  split
  · exact Nat.le_refl _
  · split
    · rename_i js _
      exact foldl_max_ge (fun j => needB ops r i j) _ _
    · exact Nat.le_refl _

end Go.Ev
