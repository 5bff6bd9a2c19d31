/-
  A call that turns nothing, run in a small memory of its own: what it is handed, copied; what it makes, handed on.
-/
import Derived.Test.YteeclgeoconekaaEvSound
namespace Go.Ev
variable {P : Program} {φ : Fi}

def view1 (P : Program) (M : Mem) (j : Nat) (v : Value) : Option (Value × List Blk) :=
  match v with
  | .slice (some a) n c =>
    match M[a.block]? with
    | some k => cond (k.live && Nat.ble a.off k.cells.length && ((k.cells.drop a.off).take (n * P.cellsOf k.elem)).all flat1)
        (some (.slice (some ⟨j, 0, a.spot⟩) n c, [⟨(k.cells.drop a.off).take (n * P.cellsOf k.elem), k.elem, true⟩])) none
    | none => none
  | v => cond (flat v) (some (v, [])) none

def view (P : Program) (M : Mem) : List Value → Nat → Option (List Value × Mem)
  | [], _ => some ([], [])
  | v :: vs, j => (view1 P M j v).bind fun p => (view P M vs (j + p.2.length)).bind fun r => some (p.1 :: r.1, p.2 ++ r.2)

/-- What it made, handed on. -/
def handOn (P : Program) (M0 M1 : Mem) (v : Value) (M : Mem) : Option (Value × Mem) :=
  cond (flatR v) (some (v, M))
    (match v with
     | .tuple vs => match vs.toList with
       | [a, b] => cond (flat b) (match trim1 P M0 M1 a with | some (.slice (some x) n c, k) => some (.tuple #[.slice (some ⟨M.length, x.off, x.spot⟩) n c, b], M ++ [k]) | _ => none) none
       | _ => none
     | v => match trim1 P M0 M1 v with | some (.slice (some x) n c, k) => some (.slice (some ⟨M.length, x.off, x.spot⟩) n c, M ++ [k]) | _ => none)

def locCall (P : Program) (T : CallFn) : CallFn := fun f args M _ =>
  (view P M args 0).bind fun p => (T f p.1 p.2 p.2.length).bind fun r => handOn P p.2 r.2 r.1 M

/-- A copied row. -/
def AtF (k : Blk) (l : Loc) (w : World) : Prop :=
  k.live = true ∧ ∃ arr f, w.heap[l.blk]? = some (.cells arr k.elem f) ∧ arr.size = l.room ∧ l.off + k.cells.length ≤ l.room ∧
    ∀ (j : Nat) (v : Value), k.cells[j]? = some v → flat1 v = true ∧ arr[l.off + j]? = some v

theorem view1_ok {M : Mem} {wall : Nat} {w : World} (hr : Rel φ M wall w) {j : Nat} {v u v' : Value} {ks : List Blk} (h : view1 P M j v = some (u, ks)) (hv : VR φ v v') :
    ∃ locs : List Loc, locs.length = ks.length ∧ (∀ (i : Nat) (l : Loc) (k : Blk), locs[i]? = some l → ks[i]? = some k → AtF k l w) ∧
      ∀ ψ : Fi, (∀ (i : Nat) (l : Loc), locs[i]? = some l → ψ (j + i) = some l) → VR ψ u v' := by
  have flatCase : ∀ {v u : Value} {ks : List Blk}, VR φ v v' → cond (flat v) (some (v, ([] : List Blk))) none = some (u, ks) → ∃ locs : List Loc, locs.length = ks.length ∧ (∀ (i : Nat) (l : Loc) (k : Blk), locs[i]? = some l → ks[i]? = some k → AtF k l w) ∧
      ∀ ψ : Fi, (∀ (i : Nat) (l : Loc), locs[i]? = some l → ψ (j + i) = some l) → VR ψ u v' := by
    intro v u ks hv h
    cases hf : flat v
    · rw [hf] at h; cases h
    · rw [hf] at h
      simp only [cond_true, Option.some.injEq, Prod.mk.injEq] at h
      obtain ⟨rfl, rfl⟩ := h
      exact ⟨[], rfl, fun i l k h => by simp at h, fun ψ _ => by rw [hv.of_flat hf]; exact VR.flat_self hf⟩
  unfold view1 at h
  split at h
  · rename_i a n c
    split at h
    · rename_i k hk
      cases hb : (k.live && Nat.ble a.off k.cells.length && ((k.cells.drop a.off).take (n * P.cellsOf k.elem)).all flat1)
      · rw [hb] at h; cases h
      · rw [hb] at h
        simp only [cond_true, Option.some.injEq, Prod.mk.injEq] at h
        obtain ⟨rfl, rfl⟩ := h
        simp only [Bool.and_eq_true, Nat.ble_eq] at hb
        obtain ⟨⟨b1, b2⟩, b3⟩ := hb
        obtain ⟨l, c', hloc, rfl, hex, hgr⟩ := hv.slice_inv
        obtain ⟨arr, f, c1, c2, c3, c4, c5⟩ := hr.at_ _ l k hloc hk b1
        refine ⟨[⟨l.blk, l.off + a.off, l.room⟩], rfl, ?_, ?_⟩
        · intro i l' k' h1 h2
          cases i with
          | succ i => simp at h1
          | zero =>
            simp only [List.getElem?_cons_zero, Option.some.injEq] at h1 h2
            subst h1 h2
            refine ⟨rfl, arr, f, c1, c3, by simp; omega, fun j v hj => ?_⟩
            have hf : flat1 v = true := List.all_eq_true.1 b3 v (List.mem_of_getElem? hj)
            refine ⟨hf, ?_⟩
            rw [List.getElem?_take] at hj
            split at hj
            · rw [List.getElem?_drop] at hj
              obtain ⟨u', e1, e2⟩ := c5 _ v hj
              rw [e2.of_flat1 hf] at e1
              rw [← e1]
              dsimp only
              congr 1
              omega
            · cases hj
        · intro ψ hψ
          have e := hψ 0 _ rfl
          cases hs : a.spot with
          | none =>
            rw [hex hs]
            simpa using VR.sl (φ := ψ) j 0 n c _ e
          | some z =>
            obtain ⟨g1, g2, g3⟩ := hgr z hs
            simpa using VR.slg (φ := ψ) j 0 z n c c' _ e g1 g2 (by simpa using g3)
    · cases h
  · exact flatCase hv h

theorem view_ok {M : Mem} {wall : Nat} {w : World} (hr : Rel φ M wall w) : ∀ {vs us vs' : List Value} {ks : Mem} {j : Nat}, view P M vs j = some (us, ks) → VRs φ vs vs' →
    ∃ locs : List Loc, locs.length = ks.length ∧ (∀ (i : Nat) (l : Loc) (k : Blk), locs[i]? = some l → ks[i]? = some k → AtF k l w) ∧
      ∀ ψ : Fi, (∀ (i : Nat) (l : Loc), locs[i]? = some l → ψ (j + i) = some l) → VRs ψ us vs' := by
  intro vs
  induction vs with
  | nil =>
    intro us vs' ks j h hv
    simp only [view, Option.some.injEq, Prod.mk.injEq] at h
    obtain ⟨rfl, rfl⟩ := h
    obtain rfl := hv.inv_nil
    exact ⟨[], rfl, fun i l k h => by simp at h, fun ψ _ => .nil⟩
  | cons v vs ih =>
    intro us vs' ks j h hv
    obtain ⟨v', ws, rfl, hv1, hv2⟩ := hv.inv_cons
    simp only [view, Option.bind_eq_some_iff, Option.some.injEq, Prod.mk.injEq] at h
    obtain ⟨⟨u1, k1⟩, h1, ⟨u2, k2⟩, h2, rfl, rfl⟩ := h
    dsimp only at h2 ⊢
    obtain ⟨L1, a1, a2, a3⟩ := view1_ok hr h1 hv1
    obtain ⟨L2, b1, b2, b3⟩ := ih h2 hv2
    refine ⟨L1 ++ L2, by simp [a1, b1], ?_, fun ψ hψ => .cons (a3 ψ fun i l e => hψ i l ?_) (b3 ψ fun i l e => ?_)⟩
    · intro i l k e1 e2
      rcases Nat.lt_or_ge i L1.length with hi | hi
      · rw [List.getElem?_append_left hi] at e1
        rw [List.getElem?_append_left (a1 ▸ hi)] at e2
        exact a2 i l k e1 e2
      · rw [List.getElem?_append_right hi] at e1
        rw [List.getElem?_append_right (a1 ▸ hi), ← a1] at e2
        exact b2 _ l k e1 e2
    · rw [List.getElem?_append_left (lt_of_getElem? e)]; exact e
    · have := hψ (k1.length + i) l (by rw [List.getElem?_append_right (by omega)]; rw [← e]; congr 1; omega)
      rw [← this]
      congr 1
      omega

theorem rel_of_locs {locs : List Loc} {ks : Mem} {w : World} (hl : locs.length = ks.length) (h : ∀ (i : Nat) (l : Loc) (k : Blk), locs[i]? = some l → ks[i]? = some k → AtF k l w) :
    Rel (fun b => locs[b]?) ks ks.length w := by
  have lt : ∀ {b : Nat} {l : Loc}, locs[b]? = some l → b < ks.length := fun e => by have := lt_of_getElem? e; omega
  refine ⟨fun b l e => lt e, fun b l k e1 e2 _ => ?_, fun b b' l l' k k' e1 e2 e3 e4 e5 e6 e7 _ => absurd (lt e1) (by omega)⟩
  obtain ⟨_, arr, f, c1, c2, c3, c4⟩ := h b l k e1 e2
  exact ⟨arr, f, c1, fun e => absurd (lt e1) (by omega), c2, c3, fun j v hj => ⟨v, (c4 j v hj).2, .scal _ (c4 j v hj).1⟩⟩

theorem hand1 {φ0 φ1 : Fi} {M M0 M1 : Mem} {wall wall0 : Nat} {w w' : World} (hr : Rel φ M wall w) (hr0 : Rel φ0 M0 wall0 w) (h : Post φ0 φ1 M0 M1 M0.length w w') {v v' vc : Value} {kb : Blk} (ht : trim1 P M0 M1 v = some (v', kb)) (hv : VR φ1 v vc) :
    ∃ x n c, v' = .slice (some x) n c ∧ ∃ φ2, Ext φ φ2 ∧ VR φ2 (.slice (some ⟨M.length, x.off, x.spot⟩) n c) vc ∧ Post φ φ2 M (M ++ [kb]) wall w w' := by
  obtain ⟨a, n, c, k, rfl, hk, hge, hl, hok, hfit, hflat, rfl, rfl⟩ := trim1_some ht
  obtain ⟨l, c', hloc, rfl, hex, hgr⟩ := hv.slice_inv
  have hfresh : w.heap.size ≤ l.blk := by
    rcases h.new _ _ hloc with e | ⟨_, _, e⟩
    · exact absurd (hr0.dom _ _ e) (by omega)
    · rcases e with e | ⟨b0, l0, k0, g1, g2, _⟩
      · exact e
      · exact absurd (hr0.dom _ _ g2) (by omega)
  obtain ⟨arr, f, c1, c2, c3, c4, c5⟩ := h.rel.at_ _ l k hloc hk hl
  refine ⟨_, _, _, rfl, upd φ M.length ⟨l.blk, l.off + a.off, l.room⟩, upd_ext hr.none_at, ?_, ?_⟩
  · cases hs : a.spot with
    | none =>
      rw [hex hs]
      have e : trimLen a n c = c := by simp [trimLen, hs]
      rw [e]
      have := VR.sl (φ := upd φ M.length ⟨l.blk, l.off + a.off, l.room⟩) M.length 0 n c _ (upd_same _ _ _)
      simpa using this
    | some z =>
      obtain ⟨g1, g2, g3⟩ := hgr z hs
      have e : trimLen a n c = n := by simp [trimLen, hs]
      rw [e]
      have := VR.slg (φ := upd φ M.length ⟨l.blk, l.off + a.off, l.room⟩) M.length 0 z n n c' _ (upd_same _ _ _) (by omega) (Nat.le_refl _) (by simpa using g3)
      simpa using this
  · refine post_fresh hr (l2 := ⟨l.blk, l.off + a.off, l.room⟩) (f := f) hfresh c1 (c2 hge) c3 ?_ ?_ (h.quiet_old hr0) h.size h.os h.tape h.output
    · simp; omega
    · intro j u hu
      have hu1 : flat1 u = true := List.all_eq_true.1 hflat u (List.mem_of_getElem? hu)
      rw [List.getElem?_take] at hu
      split at hu
      · rw [List.getElem?_drop] at hu
        obtain ⟨u', e1, e2⟩ := c5 _ u hu
        have := e2.of_flat1 hu1
        subst this
        exact ⟨_, by rw [← e1]; dsimp only; congr 1; omega, .scal _ hu1⟩
      · cases hu

theorem handOn_ok {φ0 φ1 : Fi} {M M0 M1 M' : Mem} {wall wall0 : Nat} {w w' : World} (hr : Rel φ M wall w) (hr0 : Rel φ0 M0 wall0 w) (h : Post φ0 φ1 M0 M1 M0.length w w') {v v' vc : Value} (ht : handOn P M0 M1 v M = some (v', M')) (hv : VR φ1 v vc) :
    ∃ φ2, VR φ2 v' vc ∧ Post φ φ2 M M' wall w w' := by
  unfold handOn at ht
  cases hf : flatR v
  · rw [hf] at ht
    simp only [cond_false] at ht
    split at ht
    · rename_i vs
      split at ht
      · rename_i a b hab
        cases hb : flat b
        · rw [hb] at ht; cases ht
        · rw [hb] at ht
          simp only [cond_true] at ht
          split at ht
          · rename_i x n c kb htr
            simp only [Option.some.injEq, Prod.mk.injEq] at ht
            obtain ⟨rfl, rfl⟩ := ht
            obtain rfl : vs = #[a, b] := by apply Array.ext'; simpa using hab
            obtain ⟨a0, n0, c0, k0, rfl, _⟩ := trim1_some htr
            cases hv with
            | scal _ h => cases h
            | tuple _ cs' _ hs hc =>
              obtain ⟨l⟩ := cs'
              match l, hs with
              | [u1, u2], _ =>
                have v1 := hc 0 (by simp) (by simp)
                have v2 := hc 1 (by simp) (by simp)
                simp only [List.getElem_toArray, List.getElem_cons_zero, List.getElem_cons_succ] at v1 v2
                obtain ⟨x', n', c', e, φ2, g1, g2, g3⟩ := hand1 (P := P) hr hr0 h htr v1
                cases e
                refine ⟨φ2, ?_, g3⟩
                refine .tuple _ _ (by simp) (by simp) fun i h1 h2 => ?_
                have v2' : VR φ2 b u2 := by rw [v2.of_flat hb]; exact VR.flat_self hb
                match i, h1 with
                | 0, _ => exact g2
                | 1, _ => exact v2'
          · cases ht
      · cases ht
    · split at ht
      · rename_i x n c kb htr
        simp only [Option.some.injEq, Prod.mk.injEq] at ht
        obtain ⟨rfl, rfl⟩ := ht
        obtain ⟨x', n', c', e, φ2, g1, g2, g3⟩ := hand1 (P := P) hr hr0 h htr hv
        cases e
        exact ⟨φ2, g2, g3⟩
      · cases ht
  · rw [hf] at ht
    simp only [cond_true, Option.some.injEq, Prod.mk.injEq] at ht
    obtain ⟨rfl, rfl⟩ := ht
    refine ⟨φ, hv.flatR_any hf, ?_⟩
    have hold := h.quiet_old hr0
    exact ⟨.refl _, fun b l e => .inl e, hr.grown hold, Nat.le_refl _, fun b k k' h1 h2 h3 => by rw [h1] at h2; cases h2; exact h3, h.size, fun c hc _ => hold c hc, h.os, h.tape, h.output⟩

theorem handOn_keeps {M0 M1 M M' : Mem} {v v' : Value} {wall : Nat} (ht : handOn P M0 M1 v M = some (v', M')) : Keeps M M' wall := by
  have same : Keeps M M wall := ⟨Nat.le_refl _, fun _ _ _ => rfl⟩
  have more : ∀ k : Blk, Keeps M (M ++ [k]) wall := fun k => ⟨by simp, fun b _ h => List.getElem?_append_left h⟩
  unfold handOn at ht
  cases hf : flatR v
  · rw [hf] at ht
    simp only [cond_false] at ht
    split at ht
    · split at ht
      · rename_i b hab
        cases hb : flat b
        · rw [hb] at ht; cases ht
        · rw [hb] at ht
          simp only [cond_true] at ht
          split at ht
          · cases ht; exact more _
          · cases ht
      · cases ht
    · split at ht
      · cases ht; exact more _
      · cases ht
  · rw [hf] at ht
    cases ht
    exact same

theorem good_loc {T : CallFn} (hT : CallGood P T) : CallGood P (locCall P T) := by
  refine ⟨?_, ?_, ?_⟩
  · intro f args M wall v M' h φ args' w hr hw ha
    simp only [locCall, Option.bind_eq_some_iff] at h
    obtain ⟨⟨as, M0⟩, h1, ⟨v0, M1⟩, h2, h3⟩ := h
    obtain ⟨locs, a1, a2, a3⟩ := view_ok hr h1 ha
    have hr0 := rel_of_locs a1 a2
    have ha0 := a3 (fun b => locs[b]?) fun i l e => by simpa using e
    refine (hT.ok _ _ _ _ _ _ h2 _ args' w hr0 (Nat.le_refl _) ha0).mono ?_
    rintro e w' ⟨φ1, vc, rfl, hv, hp⟩
    obtain ⟨φ2, g1, g2⟩ := handOn_ok hr hr0 hp h3 hv
    exact ⟨φ2, vc, rfl, g1, g2⟩
  · intro f args M wall v M' h
    simp only [locCall, Option.bind_eq_some_iff] at h
    obtain ⟨⟨as, M0⟩, h1, ⟨v0, M1⟩, h2, h3⟩ := h
    exact handOn_keeps h3
  · intro f args M wall r h
    simp only [locCall, Option.bind_eq_some_iff] at h
    obtain ⟨⟨as, M0⟩, h1, ⟨v0, M1⟩, h2, h3⟩ := h
    exact hT.isDef _ _ _ _ _ h2

theorem view_flat (M : Mem) : ∀ (args : List Value) (j : Nat), args.all flat = true → view P M args j = some (args, []) := by
  intro args
  induction args with
  | nil => intro j _; rfl
  | cons v vs ih =>
    intro j h
    simp only [List.all_cons, Bool.and_eq_true] at h
    have : view1 P M j v = some (v, []) := by
      unfold view1
      split
      · simp [flat, flat1] at h
      · simp [h.1]
    simp [view, this, ih _ h.2]

/-- A call of scalars that tells what is flat. -/
theorem loc_flat {T : CallFn} {f : FuncId} {args : List Value} {v : Value} {M1 : Mem} (ha : args.all flat = true) (hv : flatR v = true) (h : T f args [] 0 = some (v, M1)) (M : Mem) (wall : Nat) : locCall P T f args M wall = some (v, M) := by
  simp [locCall, view_flat M args 0 ha, h, handOn, hv]

end Go.Ev
