/-
  The kinds of operations; that the states of a plan are bounded.
-/
import Derived.Test.YteeclgeoconekaaEvPlan
namespace Go.Ev
variable {P : Program} {E : TypeId → Option (List CK)} {φ : Fi} {q : FuncId → Bool} {call : CallFn} {ops : Array Oper}

theorem kind0_pure {wall : Nat} {r : List Value} {M M' : Mem} {op : Op} {v : Value} (hk : kindOf P q op = 0) (h : evStep P E q call wall r M op = some (v, M')) : M' = M ∧ evPure P E r op = some v := by
  have pure : ∀ {op0 : Op}, ((evPure P E r op0).bind fun v => some (v, M)) = some (v, M') → M' = M ∧ evPure P E r op0 = some v := by
    intro op0 h0
    simp only [Option.bind_eq_some_iff, Option.some.injEq, Prod.mk.injEq] at h0
    obtain ⟨_, h1, rfl, rfl⟩ := h0
    exact ⟨rfl, h1⟩
  unfold evStep at h
  split at h
  · simp [kindOf] at hk
  · simp [kindOf] at hk
  · simp [kindOf] at hk
  · simp [kindOf] at hk
  · simp [kindOf] at hk
  · simp [kindOf] at hk
  · simp [kindOf] at hk
  · simp [kindOf] at hk
  · rename_i f args ts
    cases f <;> simp [kindOf] at hk
    rename_i g
    cases hq : q g <;> rw [hq] at hk <;> cases hk
  · rename_i src dst x
    simp only [kindOf] at hk
    split at h
    · rename_i hx hd
      rw [hd] at hk
      split at hk <;> first
        | (cases hk; done)
        | (rename_i h1 _; exact absurd rfl (h1 _))
        | (rename_i h1; exact absurd rfl (h1 _))
        | (rename_i h1 _ _; exact absurd rfl (h1 _))
    · rename_i hx
      exfalso
      rw [hx] at h
      unfold evConv at h
      split at h
      · rename_i h2; cases h2
      · rename_i hs hd _
        rw [hs, hd] at hk
        cases hk
      · rename_i hs hd _
        rw [hs, hd] at hk
        cases hk
      · cases h
    · exact pure h
  · exact pure h

theorem kind1_load {op : Op} (hk : kindOf P q op = 1) : ∃ t x, op = .load t x := by
  unfold kindOf at hk
  split at hk <;> first
    | exact ⟨_, _, rfl⟩
    | cases hk
    | (split at hk <;> cases hk)
    | (rename_i g _ _; cases hq : q g <;> rw [hq] at hk <;> cases hk)

theorem kind2_wall {wall wall' : Nat} {r : List Value} {M M' : Mem} {op : Op} {v : Value} (hk : kindOf P q op = 2) (h : evStep P E q call wall r M op = some (v, M')) : evStep P E q call wall' r M op = some (v, M') := by
  unfold kindOf at hk
  split at hk
  all_goals first | (cases hk; done) | skip
  · -- conversions
    rename_i src dst x
    simp only [evStep] at h ⊢
    split at h
    · rename_i s e hx hd
      rw [hx] at h ⊢
      unfold evConv at h ⊢
      split at h
      · exact h
      · rename_i h2; cases h2
      · rename_i h2; cases h2
      · cases h
    · rename_i a n c hx
      rw [hx] at h ⊢
      unfold evConv at h ⊢
      split at h
      · rename_i h2; cases h2
      · exact h
      · rename_i hs hd _
        rw [hs, hd] at hk
        cases hk
      · cases h
    · exact h
  · exact h
  · exact h
  · exact h
  · exact h
  · rename_i g args ts
    cases hq : q g
    · rw [hq] at hk; cases hk
    · simp only [evStep, ev, evCallee, hq, cond_true] at h ⊢
      exact h

theorem kind_cases (op : Op) : kindOf P q op = 0 ∨ kindOf P q op = 1 ∨ kindOf P q op = 2 ∨ kindOf P q op = 3 := by
  unfold kindOf
  split <;> first
    | exact .inl rfl
    | exact .inr (.inl rfl)
    | exact .inr (.inr (.inl rfl))
    | exact .inr (.inr (.inr rfl))
    | (split <;> first | exact .inl rfl | exact .inr (.inr (.inl rfl)) | exact .inr (.inr (.inr rfl)))
    | (rename_i g _ _; cases q g; exact .inr (.inr (.inr rfl)); exact .inr (.inr (.inl rfl)))

theorem kind_keeps (hkp : CallKeeps call) {wall : Nat} {r : List Value} {M M' : Mem} {op : Op} {v : Value} (hk : kindOf P q op ≠ 3) (h : evStep P E q call wall r M op = some (v, M')) : Keeps M M' M.length := by
  have hle := kind_cases (P := P) (q := q) op
  rcases hle with h0 | h1 | h2 | h3
  · rw [(kind0_pure h0 h).1]; exact .refl _ _
  · obtain ⟨t, x, rfl⟩ := kind1_load h1
    simp only [evStep, Option.bind_eq_some_iff, Option.some.injEq, Prod.mk.injEq] at h
    obtain ⟨_, _, _, rfl⟩ := h
    exact .refl _ _
  · exact step_keeps hkp (kind2_wall (wall' := M.length) h2 h)
  · exact absurd h3 hk

/-- What must hold behind an operation holds of some act and world. -/
theorem wp_exists {o : Oper} {a : Act} {w : World} {next : Act → World → Prop} (h : o.wp P a w next (fun _ _ _ => False)) : ∃ a' w', next a' w' := by
  unfold Oper.wp at h
  generalize (execOp a.eval o).run P w = res at h
  cases res with
  | ok n w' =>
    cases n <;> simp only [Oper.upon] at h
    · exact ⟨_, _, h⟩
    · exact ⟨_, _, h⟩
    · obtain ⟨e, w'', _, hR, _⟩ := h []
      cases e with
      | returned v => exact ⟨_, _, hR⟩
      | panicked c => exact hR.elim
      | outgrown => obtain ⟨_, _, hf⟩ := hR; exact hf.elim
    · exact ⟨_, _, h⟩
    · obtain ⟨v, w'', hR, _⟩ := h default []
      exact ⟨_, _, hR⟩
  | halt x w' => cases x <;> simp only [Oper.upon] at h

/-- The states of a plan: some world stands for each. -/
theorem states_world (hE : EqOk P E) (hc : CallOk P call) (hk : CallKeeps call) (hd : CallDef P call) {conf : List (Nat × List Nat)} {wall : Nat} {ord : List Nat} {r r' : List Value} {M M' : Mem} {rs : Nat → List Value} {Ms : Nat → Mem}
    {val : Nat → Value} (hst : States P E q call ops (wallFor ops conf wall) ord r M r' M' rs Ms val) {φ : Fi} {a : Act} {w : World} (hr : Rel φ M wall w) (hw : wall ≤ M.length) (hrr : RR φ r a.tmps)
    (hwall : ∀ p i, ord[p]? = some i → ∀ (φp : Fi) (ap : Act) (wp : World), wall ≤ (Ms p).length → Rel φp (Ms p) wall wp → RR φp (rs p) ap.tmps → wallFor ops conf wall i (rs p) ≤ (Ms p).length) :
    ∀ p, p ≤ ord.length → ∃ (φp : Fi) (ap : Act) (wp : World), RR φp (rs p) ap.tmps ∧ Post φ φp M (Ms p) wall w wp := by
  intro p
  induction p with
  | zero =>
    intro _
    rw [hst.r0, hst.m0]
    exact ⟨φ, a, w, hrr, Post.refl hr⟩
  | succ p ih =>
    intro hp
    obtain ⟨φp, ap, wp, hrp, hpp⟩ := ih (by omega)
    have hi : ord[p]? = some ord[p] := by simp [show p < ord.length by omega]
    obtain ⟨o, ho, hrs, hor⟩ := hst.step p ord[p] hi
    rcases hor with ⟨hwt, hs⟩ | ⟨hwt, hv, hm⟩
    · have hge := wallFor_ge ops conf wall ord[p] (rs p)
      have hle := hwall p _ hi φp ap wp (hpp.rel_wall hw) hpp.rel hrp
      have hex := wp_exists (next := fun a' w' => ∃ φ', RR φ' (rs (p + 1)) a'.tmps ∧ Post φ φ' M (Ms (p + 1)) wall w w')
        (step_wp hE hc hk hd (o := o) (a := ap) (w := wp) hs (hpp.rel.weaken hge) hle hrp fun φ' v' w' hv hp' => by
          have hlow := hp'.lower hpp.rel hge hle fun b hb => (step_keeps hk hs).2 b hb (Nat.lt_of_lt_of_le hb hle)
          refine ⟨φ', ?_, hpp.trans hr hlow⟩
          rw [hrs]
          exact (hrp.mono hp'.ext).put o.dst hv)
      obtain ⟨a', w', φ', h1, h2⟩ := hex
      exact ⟨φ', a', w', h1, h2⟩
    · rw [hm, hrs, hv]
      exact ⟨φp, ap.put o.dst undef, wp, hrp.put o.dst .sk, hpp⟩

end Go.Ev
