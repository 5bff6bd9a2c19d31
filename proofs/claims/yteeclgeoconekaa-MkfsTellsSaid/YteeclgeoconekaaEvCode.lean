/-
  Code, functions, calls: what the evaluator tells holds of the model's calls.
-/
import Derived.Test.YteeclgeoconekaaEvDraw
import Derived.LoopN
import Derived.Scope
namespace Go.Ev
variable {P : Program} {E : TypeId → Option (List CK)} {φ : Fi} {q : FuncId → Bool} {call : CallFn}

def toExit : Ex → Exit
  | .norm => .normal
  | .exit id => .exit id
  | .ret => .ret

/-- The regions that draw fit what is known of them ahead. -/
def plansOk (P : Program) (q : FuncId → Bool) (ann : Nat → RAnn) : Code → Bool
  | .region id ops draw => !draw || planOk P q (ann id) ops
  | .seq a b => plansOk P q ann a && plansOk P q ann b
  | .cond _ a b => plansOk P q ann a && plansOk P q ann b
  | .block _ c => plansOk P q ann c
  | .loop c => plansOk P q ann c
  | .scope c => plansOk P q ann c
  | _ => true

theorem forceL_eq {α : Type} (l : List α) : ∀ k : List α → Ret, forceL l k = k l := by
  induction l with
  | nil => intro k; rfl
  | cons x l ih => intro k; rw [forceL, ih]

theorem keep_rr {r : List Value} {t : Array Value} (h : RR φ r t) (L : List Nat) : RR φ (keep L r) t := by
  unfold keep
  have base : RR φ (List.replicate r.length undef) t := by
    refine ⟨by simp [h.1], fun i u u' h1 h2 => ?_⟩
    simp only [List.getElem?_replicate] at h1
    split at h1
    · cases h1; exact .undef _
    · cases h1
  generalize List.replicate r.length undef = acc at base
  induction L generalizing acc with
  | nil => exact base
  | cons t0 L ih =>
    simp only [List.foldl_cons]
    refine ih _ ⟨by simpa using base.1, fun i u u' h1 h2 => ?_⟩
    rw [List.getElem?_set] at h1
    by_cases hi : t0 = i
    · rw [if_pos hi] at h1
      split at h1
      · cases h1
        have := h.getD t0
        have e : t.getD t0 undef = u' := by
          rw [hi]
          rw [Array.getElem?_toList] at h2
          simp [h2]
        rw [e] at this
        exact this
      · cases h1
    · rw [if_neg hi] at h1
      exact base.2 i u u' h1 h2

theorem low1_cut {n : Nat} {v v' : Value} (h : VR φ v v') (hl : low1 n v = true) : VR (cut φ n) v v' := by
  cases h with
  | undef _ => exact .undef _
  | sk => exact .sk
  | scal _ h => exact .scal _ h
  | ptr b o l h => simp only [low1, Nat.blt_eq] at hl; exact .ptr b o l (cut_some h hl)
  | sl b o n k l h => simp only [low1, Nat.blt_eq] at hl; exact .sl b o n k l (cut_some h hl)
  | slg b o z n k k' l h hk hn hr => simp only [low1, Nat.blt_eq] at hl; exact .slg b o z n k k' l (cut_some h hl) hk hn hr
  | agg cs cs' hs h => simp [low1, flat1] at hl
  | tuple cs cs' h0 hs h => simp [low1] at hl; subst hl; simp at h0
  | func f cs cs' ds ds' hs ht h h' => simp [low1, flat1] at hl

theorem low_cut {n : Nat} {v v' : Value} (h : VR φ v v') (hl : low n v = true) : VR (cut φ n) v v' := by
  cases h with
  | undef _ => exact .undef _
  | sk => exact .sk
  | scal _ h => exact .scal _ h
  | ptr b o l h => exact low1_cut (.ptr b o l h) (by simpa [low, isSk] using hl)
  | sl b o n k l h => exact low1_cut (.sl b o n k l h) (by simpa [low, isSk] using hl)
  | slg b o z n k k' l h hk hn hr => exact low1_cut (.slg b o z n k k' l h hk hn hr) (by simpa [low, isSk] using hl)
  | agg cs cs' hs h =>
    simp only [low, List.all_eq_true] at hl
    exact .agg cs cs' hs fun i h1 h2 => low1_cut (h i h1 h2) (hl _ (by simp))
  | tuple cs cs' h0 hs h =>
    simp only [low, Bool.or_eq_true] at hl
    rcases hl with hl | hl
    · exact low1_cut (.tuple cs cs' h0 hs h) hl
    · exfalso
      simp only [isSk] at hl
      split at hl
      · rename_i e
        have : cs.size = 1 := by rw [← Array.length_toList, e]; rfl
        omega
      · cases hl
  | func f cs cs' ds ds' hs ht h h' => simp [low, low1, flat1, isSk] at hl

/-- Memory cut back to what it was at the start. -/
theorem Post.cutBack {φ φ' : Fi} {M M' : Mem} {wall : Nat} {w w' : World} (hr : Rel φ M wall w) (hp : Post φ φ' M M' wall w w')
    (hc : (M'.take M.length).all (fun k => k.cells.all (low1 M.length)) = true) : cut φ' M.length = φ ∧ Post φ φ M (M'.take M.length) wall w w' := by
  have e : cut φ' M.length = φ := by
    funext b
    cases hb : φ b with
    | none =>
      unfold cut
      split
      · rename_i hlt
        cases hb' : φ' b with
        | none => rfl
        | some l =>
          rcases hp.new b l hb' with h | ⟨h, _⟩
          · rw [hb] at h; cases h
          · omega
      · rfl
    | some l => exact cut_some (hp.ext b l hb) (hr.dom b l hb)
  have get : ∀ b k, (M'.take M.length)[b]? = some k → M'[b]? = some k ∧ b < M.length := by
    intro b k h
    rw [List.getElem?_take] at h
    split at h
    · exact ⟨h, ‹_›⟩
    · cases h
  have hlen : (M'.take M.length).length = M.length := by have := hp.len; simp; omega
  refine ⟨e, .refl _, fun b l h => .inl h, ⟨fun b l h => by rw [hlen]; exact hr.dom b l h, ?_, ?_⟩, by rw [hlen]; exact Nat.le_refl _, ?_, hp.size, hp.frame, hp.os, hp.tape, hp.output⟩
  · intro b l k h1 h2 h3
    obtain ⟨arr, f, a1, a2, a3, a4, a5⟩ := hp.rel.at_ b l k (hp.ext b l h1) (get b k h2).1 h3
    refine ⟨arr, f, a1, a2, a3, a4, fun j v hj => ?_⟩
    obtain ⟨v', g1, g2⟩ := a5 j v hj
    refine ⟨v', g1, e ▸ low1_cut g2 ?_⟩
    have := List.all_eq_true.1 hc k (List.mem_of_getElem? h2)
    exact List.all_eq_true.1 this v (List.mem_of_getElem? hj)
  · intro b b' l l' k k' h1 h2 h3 h4 h5 h6 h7 h8
    exact hp.rel.sep b b' l l' k k' (hp.ext b l h1) (hp.ext b' l' h2) (get b k h3).1 (get b' k' h4).1 h5 h6 h7 h8
  · intro b k k' h1 h2 h3
    exact hp.dead b k k' h1 (get b k' h2).1 h3

theorem tidy_sound {L : Option (List Nat)} {r : List Value} {M M' : Mem} {κ : List Value → Mem → Ret} {R : Value × Mem} (h : tidy L M.length r M' κ = some R) {wall : Nat} :
    ∃ r2 M2, κ r2 M2 = some R ∧ (∀ (φ φ' : Fi) (w w' : World) (t : Array Value), Rel φ M wall w → Post φ φ' M M' wall w w' → RR φ' r t → ∃ φ2, RR φ2 r2 t ∧ Post φ φ2 M M2 wall w w') ∧ (Keeps M M' wall → Keeps M M2 wall) := by
  unfold tidy at h
  cases L with
  | none => exact ⟨r, M', h, fun φ φ' w w' t _ hp hrr => ⟨φ', hrr, hp⟩, id⟩
  | some L =>
    simp only [forceL_eq] at h
    have same : κ (keep L r) M' = some R → ∃ r2 M2, κ r2 M2 = some R ∧ (∀ (φ φ' : Fi) (w w' : World) (t : Array Value), Rel φ M wall w → Post φ φ' M M' wall w w' → RR φ' r t → ∃ φ2, RR φ2 r2 t ∧ Post φ φ2 M M2 wall w w') ∧ (Keeps M M' wall → Keeps M M2 wall) :=
      fun h => ⟨_, M', h, fun φ φ' w w' t _ hp hrr => ⟨φ', keep_rr hrr L, hp⟩, id⟩
    cases hb : Nat.blt M.length M'.length
    · rw [hb] at h; exact same h
    · rw [hb] at h
      simp only [cond_true] at h
      cases hc : ((keep L r).all (low M.length) && (M'.take M.length).all fun k => k.cells.all (low1 M.length))
      · rw [hc] at h; exact same h
      · rw [hc] at h
        simp only [cond_true] at h
        simp only [Bool.and_eq_true] at hc
        refine ⟨_, _, h, fun φ φ' w w' t hr hp hrr => ?_, fun hk => ?_⟩
        · obtain ⟨e, hp2⟩ := hp.cutBack hr hc.2
          refine ⟨φ, ?_, hp2⟩
          have hrr2 := keep_rr hrr L
          refine ⟨hrr2.1, fun i v v' h1 h2 => ?_⟩
          exact e ▸ low_cut (hrr2.2 i v v' h1 h2) (List.all_eq_true.1 hc.1 v (List.mem_of_getElem? h1))
        · refine ⟨by have := hk.1; simp; omega, fun b h1 h2 => ?_⟩
          rw [List.getElem?_take_of_lt h2]
          exact hk.2 b h1 h2

/-- Code, held against the model's; and what it keeps. -/
theorem evC_wp (hE : EqOk P E) (hm : P.follows .mixedOrders = true) (hc : CallOk P call) (hk : CallKeeps call) (hd : CallDef P call) (ann : Nat → RAnn) (wall k : Nat) : ∀ (c : Code), plansOk P q ann c = true →
    ∀ (r : List Value) (M : Mem) (κ : Kont) (R : Value × Mem), evC P E q ann call wall k c r M κ = some R →
    (∀ (φ : Fi) (a : Act) (w : World), Rel φ M wall w → wall ≤ M.length → RR φ r a.tmps → a.defers = [] → ∀ Q : Exit → Act → World → Prop,
      (∀ e r' M' φ' a' w', κ e r' M' = some R → RR φ' r' a'.tmps → Post φ φ' M M' wall w w' → a'.defers = [] → Q (toExit e) a' w') → c.wp P Q a w) ∧
    (∃ e r' M', κ e r' M' = some R ∧ Keeps M M' wall) := by
  intro c
  induction c with
  | skip =>
    intro _ r M κ R h
    exact ⟨fun φ a w hr hw hrr hdf Q hq => wp_skip (hq .norm r M φ a w h hrr (Post.refl hr) hdf), .norm, r, M, h, .refl _ _⟩
  | label l =>
    intro _ r M κ R h
    exact ⟨fun φ a w hr hw hrr hdf Q hq => wp_label (hq .norm r M φ a w h hrr (Post.refl hr) hdf), .norm, r, M, h, .refl _ _⟩
  | exit id =>
    intro _ r M κ R h
    exact ⟨fun φ a w hr hw hrr hdf Q hq => wp_exit (hq (.exit id) r M φ a w h hrr (Post.refl hr) hdf), .exit id, r, M, h, .refl _ _⟩
  | ret =>
    intro _ r M κ R h
    exact ⟨fun φ a w hr hw hrr hdf Q hq => wp_ret (hq .ret r M φ a w h hrr (Post.refl hr) hdf), .ret, r, M, h, .refl _ _⟩
  | seq x y ihx ihy =>
    intro hp r M κ R h
    simp only [plansOk, Bool.and_eq_true] at hp
    simp only [evC] at h
    obtain ⟨hx1, ex, rx, Mx, hx2, hx3⟩ := ihx hp.1 r M _ R h
    refine ⟨fun φ a w hr hw hrr hdf Q hq => wp_seq (hx1 φ a w hr hw hrr hdf _ ?_), ?_⟩
    · intro e r' M' φ' a' w' he hrr' hp' hdf'
      cases e with
      | norm =>
        refine (ihy hp.2 r' M' κ R he).1 φ' a' w' hp'.rel (hp'.rel_wall hw) hrr' hdf' Q ?_
        intro e2 r2 M2 φ2 a2 w2 he2 hrr2 hp2 hdf2
        exact hq e2 r2 M2 φ2 a2 w2 he2 hrr2 (hp'.trans hr hp2) hdf2
      | exit id => exact hq (.exit id) r' M' φ' a' w' he hrr' hp' hdf'
      | ret => exact hq .ret r' M' φ' a' w' he hrr' hp' hdf'
    · cases ex with
      | norm =>
        obtain ⟨_, e2, r2, M2, h2, h3⟩ := ihy hp.2 rx Mx κ R hx2
        exact ⟨e2, r2, M2, h2, hx3.trans h3⟩
      | exit id => exact ⟨.exit id, rx, Mx, hx2, hx3⟩
      | ret => exact ⟨.ret, rx, Mx, hx2, hx3⟩
  | cond b x y ihx ihy =>
    intro hp r M κ R h
    simp only [plansOk, Bool.and_eq_true] at hp
    simp only [evC] at h
    split at h
    · rename_i t hb
      cases t
      · simp only [cond_false, bareOp_eq hb] at h
        obtain ⟨h1, h2⟩ := ihy hp.2 r M κ R h
        exact ⟨fun φ a w hr hw hrr hdf Q hq => wp_cond_false (by have := hrr.ev b; rw [hb] at this; exact this.bool_inv) (h1 φ a w hr hw hrr hdf Q hq), h2⟩
      · simp only [cond_true, bareOp_eq hb] at h
        obtain ⟨h1, h2⟩ := ihx hp.1 r M κ R h
        exact ⟨fun φ a w hr hw hrr hdf Q hq => wp_cond_true (by have := hrr.ev b; rw [hb] at this; exact this.bool_inv) (h1 φ a w hr hw hrr hdf Q hq), h2⟩
    · cases h
  | block id x ih =>
    intro hp r M κ R h
    simp only [plansOk] at hp
    simp only [evC] at h
    obtain ⟨h1, ex, rx, Mx, hx2, hx3⟩ := ih hp r M _ R h
    refine ⟨fun φ a w hr hw hrr hdf Q hq => wp_block (h1 φ a w hr hw hrr hdf _ ?_), ?_⟩
    · intro e r' M' φ' a' w' he hrr' hp' hdf'
      cases e with
      | norm =>
        obtain ⟨r2, M2, g1, g2, _⟩ := tidy_sound (wall := wall) he
        obtain ⟨φ2, g3, g4⟩ := g2 φ φ' w w' a'.tmps hr hp' hrr'
        exact hq .norm r2 M2 φ2 a' w' g1 g3 g4 hdf'
      | ret => exact hq .ret r' M' φ' a' w' he hrr' hp' hdf'
      | exit j =>
        dsimp only at he
        simp only [toExit, Exit.inBlock]
        cases hj : Nat.beq j id
        · rw [hj] at he
          rw [if_neg (fun e => by rw [e] at hj; simp at hj)]
          exact hq (.exit j) r' M' φ' a' w' he hrr' hp' hdf'
        · rw [hj] at he
          rw [if_pos (by simpa using hj)]
          obtain ⟨r2, M2, g1, g2, _⟩ := tidy_sound (wall := wall) he
          obtain ⟨φ2, g3, g4⟩ := g2 φ φ' w w' a'.tmps hr hp' hrr'
          exact hq .norm r2 M2 φ2 a' w' g1 g3 g4 hdf'
    · cases ex with
      | norm =>
        obtain ⟨r2, M2, g1, _, g2⟩ := tidy_sound (wall := wall) hx2
        exact ⟨.norm, r2, M2, g1, g2 hx3⟩
      | ret => exact ⟨.ret, rx, Mx, hx2, hx3⟩
      | exit j =>
        dsimp only at hx2
        cases hj : Nat.beq j id
        · rw [hj] at hx2; exact ⟨.exit j, rx, Mx, hx2, hx3⟩
        · rw [hj] at hx2
          obtain ⟨r2, M2, g1, _, g2⟩ := tidy_sound (wall := wall) hx2
          exact ⟨.norm, r2, M2, g1, g2 hx3⟩
  | loop x ih =>
    intro hp r M κ R h
    simp only [plansOk] at hp
    simp only [evC] at h
    have keepRR : ∀ (φ : Fi) (r : List Value) (t : Array Value), RR φ r t → RR φ (keepO (headLive ann x) r) t := by
      intro φ r t hrr
      unfold keepO
      split
      · exact keep_rr hrr _
      · exact hrr
    have key : ∀ (n : Nat) (r : List Value) (M : Mem), loopN (fun r M κ => evC P E q ann call wall k x r M (backK (headLive ann x) κ)) n r M κ = some R →
        (∀ (φ : Fi) (a : Act) (w : World), Rel φ M wall w → wall ≤ M.length → RR φ r a.tmps → a.defers = [] → ∀ Q : Exit → Act → World → Prop,
          (∀ e r' M' φ' a' w', κ e r' M' = some R → RR φ' r' a'.tmps → Post φ φ' M M' wall w w' → a'.defers = [] → Q (toExit e) a' w') → Code.rounds P x Q n a w) ∧
        (∃ e r' M', κ e r' M' = some R ∧ Keeps M M' wall) := by
      intro n
      induction n with
      | zero => intro r M h; cases h
      | succ n ihn =>
        intro r M h
        simp only [loopN] at h
        obtain ⟨h1, ex, rx, Mx, hx2, hx3⟩ := ih hp r M _ R h
        refine ⟨fun φ a w hr hw hrr hdf Q hq => ?_, ?_⟩
        · rw [rounds_succ]
          refine h1 φ a w hr hw hrr hdf _ ?_
          intro e r' M' φ' a' w' he hrr' hp' hdf'
          cases e with
          | norm =>
            simp only [backK, forceL_eq] at he
            refine (ihn _ M' he).1 φ' a' w' hp'.rel (hp'.rel_wall hw) (keepRR _ _ _ hrr') hdf' Q ?_
            intro e2 r2 M2 φ2 a2 w2 he2 hrr2 hp2 hdf2
            exact hq e2 r2 M2 φ2 a2 w2 he2 hrr2 (hp'.trans hr hp2) hdf2
          | exit id => exact hq (.exit id) r' M' φ' a' w' he hrr' hp' hdf'
          | ret => exact hq .ret r' M' φ' a' w' he hrr' hp' hdf'
        · cases ex with
          | norm =>
            simp only [backK, forceL_eq] at hx2
            obtain ⟨_, e2, r2, M2, h2, h3⟩ := ihn _ Mx hx2
            exact ⟨e2, r2, M2, h2, hx3.trans h3⟩
          | exit id => exact ⟨.exit id, rx, Mx, hx2, hx3⟩
          | ret => exact ⟨.ret, rx, Mx, hx2, hx3⟩
    rw [forceL_eq] at h
    obtain ⟨h1, h2⟩ := key k _ M h
    exact ⟨fun φ a w hr hw hrr hdf Q hq => wp_loop_rounds k (h1 φ a w hr hw (keepRR _ _ _ hrr) hdf Q hq), h2⟩
  | region id ops draw =>
    intro hp r M κ R h
    simp only [plansOk, Bool.or_eq_true, Bool.not_eq_true'] at hp
    simp only [evC] at h
    obtain ⟨r0, hr0, hkeep⟩ : ∃ r0, keepO (ann id).live r = r0 ∧ ∀ (φ : Fi) (t : Array Value), RR φ r t → RR φ r0 t := by
      refine ⟨_, rfl, fun φ t ht => ?_⟩
      unfold keepO
      split
      · exact keep_rr ht _
      · exact ht
    rw [forceL_eq, hr0] at h
    cases draw with
    | false =>
      simp only [cond_false] at h
      obtain ⟨r', M', ht, hκ⟩ := evOps_trace _ _ _ _ _ _ h (fun _ _ _ e => by cases e)
      exact ⟨fun φ a w hr hw hrr hdf Q hq => wp_region (tr_wp hE hc hk hd ht hr hw (hkeep φ _ hrr) hdf fun φ' a' w' h1 h2 h3 => hq .norm r' M' φ' a' w' hκ h1 h2 h3),
        .norm, r', M', hκ, tr_keeps hk (fun _ _ => Nat.le_refl _) ht⟩
    | true =>
      simp only [cond_true] at h
      have hpl : planOk P q (ann id) ops = true := hp.resolve_left (fun e => by cases e)
      obtain ⟨r', M', ht, hκ⟩ := evOps_trace _ _ _ _ _ _ h (fun _ _ _ e => by cases e)
      exact ⟨fun φ a w hr hw hrr hdf Q hq => wp_region_any hm (draw_wp hE hc hk hd hpl ht hr hw (hkeep φ _ hrr) hdf fun φ' a' w' h1 h2 h3 => hq .norm r' M' φ' a' w' hκ h1 h2 h3),
        .norm, r', M', hκ, tr_keeps hk (wallFor_ge _ _ _) ht⟩
  | goto l => intro _ r M κ R h; simp [evC] at h
  | scope x ih =>
    intro hp r M κ R h
    simp only [plansOk] at hp
    simp only [evC] at h
    obtain ⟨h1, h2⟩ := ih hp r M κ R h
    refine ⟨fun φ a w hr hw hrr hdf Q hq => wp_scope_straight (h1 φ a w hr hw hrr hdf _ ?_), h2⟩
    intro e r' M' φ' a' w' he hrr' hp' hdf'
    have := hq e r' M' φ' a' w' he hrr' hp' hdf'
    cases e <;> exact this
  | rangeFunc f ps x y ihx ihy => intro _ r M κ R h; simp [evC] at h
  | refuse s => intro _ r M κ R h; simp [evC] at h

end Go.Ev
