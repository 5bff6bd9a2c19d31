/-
  A call, and what of its memory is kept; one operation, held against the model's.
-/
import Derived.Test.YteeclgeoconekaaEvMem
import Derived.Calls
namespace Go.Ev
variable {P : Program} {E : TypeId → Option (List CK)} {φ : Fi}

theorem Rel.grown {M : Mem} {wall : Nat} {w w' : World} (hr : Rel φ M wall w) (h : ∀ c, c < w.heap.size → w'.heap[c]? = w.heap[c]?) : Rel φ M wall w' :=
  ⟨hr.dom, fun b l k h1 h2 h3 => let ⟨arr, f, c1, c2⟩ := hr.at_ b l k h1 h2 h3; ⟨arr, f, (h _ (Array.getElem?_eq_some_iff.1 c1).1).trans c1, c2⟩, hr.sep⟩

/-- A block that is new, wherever it lies. -/
theorem post_fresh {M : Mem} {wall : Nat} {w w' : World} (hr : Rel φ M wall w) {l2 : Loc} {cs : List Value} {arr : Array Value} {e : TypeId} {f : Nat × Nat}
    (hl2 : w.heap.size ≤ l2.blk) (hat : w'.heap[l2.blk]? = some (.cells arr e f)) (hf : Thaw f arr.size) (hroom : arr.size = l2.room) (hfit : l2.off + cs.length ≤ l2.room)
    (hc : ∀ (j : Nat) (v : Value), cs[j]? = some v → ∃ v', arr[l2.off + j]? = some v' ∧ VR φ v v')
    (hold : ∀ c, c < w.heap.size → w'.heap[c]? = w.heap[c]?) (hsize : w.heap.size ≤ w'.heap.size)
    (hos : w'.os = w.os) (htape : w'.tape = w.tape) (hout : w'.output = w.output) :
    Post φ (upd φ M.length l2) M (M ++ [⟨cs, e, true⟩]) wall w w' := by
  have hn := hr.none_at
  have hext : Ext φ (upd φ M.length l2) := upd_ext hn
  have hcases : ∀ b l, upd φ M.length l2 b = some l → (b = M.length ∧ l = l2) ∨ (φ b = some l ∧ b < M.length) := by
    intro b l hb
    unfold upd at hb
    split at hb
    · exact .inl ⟨‹_›, (Option.some.inj hb).symm⟩
    · exact .inr ⟨hb, hr.dom _ _ hb⟩
  have hgetold : ∀ (b : Nat) (k : Blk), b < M.length → (M ++ [⟨cs, e, true⟩])[b]? = some k → M[b]? = some k := by
    intro b k hb hk
    rwa [List.getElem?_append_left hb] at hk
  have hgetnew : ∀ (k : Blk), (M ++ [(⟨cs, e, true⟩ : Blk)])[M.length]? = some k → k = ⟨cs, e, true⟩ := by
    intro k hk
    simp at hk
    exact hk.symm
  have hlocold : ∀ b l k, φ b = some l → M[b]? = some k → k.live = true → l.blk < w.heap.size := by
    intro b l k h1 h2 h3
    obtain ⟨arr0, f0, c1, _⟩ := hr.at_ b l k h1 h2 h3
    exact (Array.getElem?_eq_some_iff.1 c1).1
  refine ⟨hext, ?_, ⟨?_, ?_, ?_⟩, by simp, ?_, hsize, fun c hlt _ => hold c hlt, hos, htape, hout⟩
  · intro b l hb
    rcases hcases b l hb with ⟨rfl, rfl⟩ | ⟨h1, _⟩
    · exact .inr ⟨Nat.le_refl _, by simp, .inl hl2⟩
    · exact .inl h1
  · intro b l hb
    rcases hcases b l hb with ⟨rfl, _⟩ | ⟨_, h2⟩ <;> simp <;> omega
  · intro b l k hb hk hl
    rcases hcases b l hb with ⟨rfl, rfl⟩ | ⟨h1, h2⟩
    · obtain rfl := hgetnew k hk
      exact ⟨arr, f, hat, fun _ => hf, hroom, hfit, fun j v hv => by
        obtain ⟨v', e1, e2⟩ := hc j v hv
        exact ⟨v', e1, e2.mono hext⟩⟩
    · obtain ⟨arr0, f0, c1, c2, c3, c4, c5⟩ := hr.at_ b l k h1 (hgetold b k h2 hk) hl
      exact ⟨arr0, f0, by rw [hold _ (Array.getElem?_eq_some_iff.1 c1).1]; exact c1, c2, c3, c4, fun j v hv => by
        obtain ⟨v', e1, e2⟩ := c5 j v hv
        exact ⟨v', e1, e2.mono hext⟩⟩
  · intro b b' l l' k k' hb hb' hk hk' hl hl' hw hne
    rcases hcases b l hb with ⟨rfl, rfl⟩ | ⟨h1, h2⟩
    · rcases hcases b' l' hb' with ⟨rfl, _⟩ | ⟨h1', h2'⟩
      · exact absurd rfl hne
      · have := hlocold b' l' k' h1' (hgetold b' k' h2' hk') hl'
        omega
    · rcases hcases b' l' hb' with ⟨rfl, rfl⟩ | ⟨h1', h2'⟩
      · have := hlocold b l k h1 (hgetold b k h2 hk) hl
        omega
      · exact hr.sep b b' l l' k k' h1 h1' (hgetold b k h2 hk) (hgetold b' k' h2' hk') hl hl' hw hne
  · intro b k k' hk hk' hl
    rw [List.getElem?_append_left (lt_of_getElem? hk)] at hk'
    rw [hk] at hk'
    cases hk'
    exact hl

/-- What a call that turns nothing leaves: memory of one's own is as it was. -/
theorem Post.quiet_old {φ1 : Fi} {M M1 : Mem} {wall : Nat} {w w' : World} (hr : Rel φ M wall w) (h : Post φ φ1 M M1 M.length w w') : ∀ c, c < w.heap.size → w'.heap[c]? = w.heap[c]? :=
  fun c hc => h.frame c hc fun b l k hb e => absurd (hr.dom b l e) (by omega)

theorem trim1_some {M M' : Mem} {v v' : Value} {kb : Blk} (h : trim1 P M M' v = some (v', kb)) :
    ∃ a n c k, v = .slice (some a) n c ∧ M'[a.block]? = some k ∧ M.length ≤ a.block ∧ k.live = true ∧ trimOk a = true ∧
      a.off + trimLen a n c ≤ k.cells.length ∧ ((k.cells.drop a.off).take (trimLen a n c)).all flat1 = true ∧ v' = .slice (some ⟨M.length, 0, a.spot⟩) n (trimLen a n c) ∧
      kb = ⟨(k.cells.drop a.off).take (trimLen a n c), k.elem, true⟩ := by
  unfold trim1 at h
  split at h
  · rename_i a n c
    split at h
    · rename_i k hk
      cases hb : (Nat.ble M.length a.block && k.live && Nat.beq (P.cellsOf k.elem) 1 && trimOk a && Nat.ble (a.off + trimLen a n c) k.cells.length && ((k.cells.drop a.off).take (trimLen a n c)).all flat1)
      · rw [hb] at h; cases h
      · rw [hb] at h
        simp only [cond_true, Option.some.injEq, Prod.mk.injEq] at h
        simp only [Bool.and_eq_true, Nat.ble_eq] at hb
        exact ⟨a, n, c, k, rfl, hk, hb.1.1.1.1.1, hb.1.1.1.1.2, hb.1.1.2, hb.1.2, hb.2, h.1.symm, h.2.symm⟩
    · cases h
  · cases h

/-- What is kept of a slice stands for what the call made. -/
theorem trim1_post {φ1 : Fi} {M M1 : Mem} {wall : Nat} {w w' : World} (hr : Rel φ M wall w) (h : Post φ φ1 M M1 M.length w w') {v v' vc : Value} {kb : Blk} (ht : trim1 P M M1 v = some (v', kb)) (hv : VR φ1 v vc) :
    ∃ φ2, Ext φ φ2 ∧ VR φ2 v' vc ∧ Post φ φ2 M (M ++ [kb]) wall w w' := by
  obtain ⟨a, n, c, k, rfl, hk, hge, hl, hok, hfit, hflat, rfl, rfl⟩ := trim1_some ht
  obtain ⟨l, c', hloc, rfl, hex, hgr⟩ := hv.slice_inv
  have hfresh : w.heap.size ≤ l.blk := by
    rcases h.new _ _ hloc with e | ⟨_, _, e⟩
    · exact absurd (hr.dom _ _ e) (by omega)
    · rcases e with e | ⟨b0, l0, k0, g1, g2, _⟩
      · exact e
      · exact absurd (hr.dom _ _ g2) (by omega)
  obtain ⟨arr, f, c1, c2, c3, c4, c5⟩ := h.rel.at_ _ l k hloc hk hl
  refine ⟨upd φ M.length ⟨l.blk, l.off + a.off, l.room⟩, upd_ext hr.none_at, ?_, ?_⟩
  · cases hs : a.spot with
    | none =>
      rw [hex hs]
      have e : trimLen a n c = c := by simp [trimLen, hs]
      rw [e]
      have := VR.sl (φ := upd φ M.length ⟨l.blk, l.off + a.off, l.room⟩) M.length 0 n c _ (upd_same _ _ _)
      simpa using this
    | some z =>
      obtain ⟨g1, g2, g3⟩ := hgr z hs
      have e : trimLen a n c = n := by simp [trimLen, hs]
      rw [e]
      have := VR.slg (φ := upd φ M.length ⟨l.blk, l.off + a.off, l.room⟩) M.length 0 z n n c' _ (upd_same _ _ _) (by omega) (Nat.le_refl _) (by simpa using g3)
      simpa using this
  · refine post_fresh hr (l2 := ⟨l.blk, l.off + a.off, l.room⟩) (f := f) hfresh c1 (c2 hge) c3 ?_ ?_ (h.quiet_old hr) h.size h.os h.tape h.output
    · simp; omega
    · intro j u hu
      have hu1 : flat1 u = true := List.all_eq_true.1 hflat u (List.mem_of_getElem? hu)
      rw [List.getElem?_take] at hu
      split at hu
      · rw [List.getElem?_drop] at hu
        obtain ⟨u', e1, e2⟩ := c5 _ u hu
        have := e2.of_flat1 hu1
        subst this
        exact ⟨_, by rw [← e1]; dsimp only; congr 1; omega, .scal _ hu1⟩
      · cases hu

theorem trim_post {φ1 : Fi} {M M1 : Mem} {wall : Nat} {w w' : World} (hr : Rel φ M wall w) (hw : wall ≤ M.length) (hkeep : ∀ b, b < M.length → M1[b]? = M[b]?) (h : Post φ φ1 M M1 M.length w w') {v vc : Value} (hv : VR φ1 v vc) :
    ∃ φ2, VR φ2 (trim P M M1 v).1 vc ∧ Post φ φ2 M (trim P M M1 v).2 wall w w' := by
  have whole : ∃ φ2, VR φ2 v vc ∧ Post φ φ2 M M1 wall w w' := ⟨φ1, hv, h.lower hr hw (Nat.le_refl _) hkeep⟩
  unfold trim
  cases hf : flatR v
  · simp only [cond_false]
    split
    · rename_i vs
      split
      · rename_i a b hab
        cases hb : flat b
        · exact whole
        · simp only [cond_true]
          cases ht : trim1 P M M1 a with
          | none => exact whole
          | some x =>
            obtain ⟨a', kb⟩ := x
            obtain rfl : vs = #[a, b] := by apply Array.ext'; simpa using hab
            obtain ⟨a0, n0, c0, k0, rfl, _⟩ := trim1_some ht
            cases hv with
            | scal _ h => cases h
            | tuple _ cs' _ hs hc =>
              obtain ⟨l⟩ := cs'
              match l, hs with
              | [u1, u2], _ =>
                have v1 := hc 0 (by simp) (by simp)
                have v2 := hc 1 (by simp) (by simp)
                simp only [List.getElem_toArray, List.getElem_cons_zero, List.getElem_cons_succ] at v1 v2
                obtain ⟨φ2, g1, g2, g3⟩ := trim1_post (P := P) hr h ht v1
                refine ⟨φ2, ?_, g3⟩
                refine .tuple _ _ (by simp) (by simp) fun i h1 h2 => ?_
                have v2' : VR φ2 b u2 := by rw [v2.of_flat hb]; exact VR.flat_self hb
                match i, h1 with
                | 0, _ => exact g2
                | 1, _ => exact v2'
      · exact whole
    · rename_i hno
      cases ht : trim1 P M M1 v with
      | none => exact whole
      | some x =>
        obtain ⟨v', kb⟩ := x
        obtain ⟨φ2, g1, g2, g3⟩ := trim1_post (P := P) hr h ht hv
        exact ⟨φ2, g2, g3⟩
  · simp only [cond_true]
    refine ⟨φ, hv.flatR_any hf, ?_⟩
    have hold := h.quiet_old hr
    exact ⟨.refl _, fun b l e => .inl e, hr.grown hold, Nat.le_refl _, fun b k k' h1 h2 h3 => by rw [h1] at h2; cases h2; exact h3, h.size, fun c hc _ => hold c hc, h.os, h.tape, h.output⟩

/-- What is told of calls holds of the model's. -/
def CallOk (P : Program) (call : CallFn) : Prop := ∀ f args M wall v M', call f args M wall = some (v, M') → ∀ (φ : Fi) (args' : Array Value) (w : World), Rel φ M wall w → wall ≤ M.length → VRs φ args args'.toList →
  Calls P f args' w fun e w' => ∃ φ' v', e = .returned v' ∧ VR φ' v v' ∧ Post φ φ' M M' wall w w'

/-- What lies behind the wall stays. -/
def Keeps (M M' : Mem) (wall : Nat) : Prop := M.length ≤ M'.length ∧ ∀ b, b < wall → b < M.length → M'[b]? = M[b]?
def CallKeeps (call : CallFn) : Prop := ∀ f args M wall v M', call f args M wall = some (v, M') → Keeps M M' wall

theorem trim_keeps (M M1 : Mem) (v : Value) (hk : ∀ b, b < M.length → M1[b]? = M[b]?) (hl : M.length ≤ M1.length) : Keeps M (trim P M M1 v).2 M.length := by
  have whole : Keeps M M1 M.length := ⟨hl, fun b h _ => hk b h⟩
  have more : ∀ k : Blk, Keeps M (M ++ [k]) M.length := fun k => ⟨by simp, fun b h _ => List.getElem?_append_left h⟩
  unfold trim
  cases flatR v
  · simp only [cond_false]
    split
    · split
      · cases flat _
        · exact whole
        · simp only [cond_true]
          split
          · exact more _
          · exact whole
      · exact whole
    · split
      · exact more _
      · exact whole
  · exact ⟨Nat.le_refl _, fun _ _ _ => rfl⟩

theorem evCallee_keeps {q : FuncId → Bool} {call : CallFn} (hk : CallKeeps call) {M M' : Mem} {wall : Nat} {f : FuncId} {args : List Value} {v : Value} (h : evCallee q P call M wall f args = some (v, M')) :
    Keeps M M' wall ∧ (q f = true → Keeps M M' M.length) := by
  unfold evCallee at h
  cases hq : q f
  · rw [hq] at h
    simp only [cond_false] at h
    exact ⟨hk _ _ _ _ _ _ h, fun e => by cases e⟩
  · rw [hq] at h
    simp only [cond_true, Option.bind_eq_some_iff, Option.some.injEq] at h
    obtain ⟨⟨v1, M1⟩, h1, h2⟩ := h
    have hk1 := hk _ _ _ _ _ _ h1
    have := trim_keeps (P := P) M M1 v1 (fun b hb => hk1.2 b hb hb) hk1.1
    dsimp only at h2
    rw [h2] at this
    exact ⟨⟨this.1, fun b _ hb => this.2 b hb hb⟩, fun _ => this⟩

theorem evCallee_sound {q : FuncId → Bool} {call : CallFn} (hc : CallOk P call) (hk : CallKeeps call) {M M' : Mem} {wall : Nat} {f : FuncId} {args : List Value} {v : Value} (h : evCallee q P call M wall f args = some (v, M'))
    {w : World} (hr : Rel φ M wall w) (hw : wall ≤ M.length) {args' : Array Value} (ha : VRs φ args args'.toList) :
    Calls P f args' w fun e w' => ∃ φ' v', e = .returned v' ∧ VR φ' v v' ∧ Post φ φ' M M' wall w w' := by
  unfold evCallee at h
  cases hq : q f
  · rw [hq] at h
    simp only [cond_false] at h
    exact hc _ _ _ _ _ _ h φ args' w hr hw ha
  · rw [hq] at h
    simp only [cond_true, Option.bind_eq_some_iff, Option.some.injEq] at h
    obtain ⟨⟨v1, M1⟩, h1, h2⟩ := h
    dsimp only at h2
    have hk1 := hk _ _ _ _ _ _ h1
    refine (hc _ _ _ _ _ _ h1 φ args' w (hr.weaken hw) (Nat.le_refl _) ha).mono ?_
    rintro e w' ⟨φ1, vc, rfl, hv, hp⟩
    obtain ⟨φ2, g1, g2⟩ := trim_post (P := P) hr hw (fun b hb => hk1.2 b hb hb) hp hv
    rw [h2] at g1 g2
    exact ⟨φ2, vc, rfl, g1, g2⟩

end Go.Ev
