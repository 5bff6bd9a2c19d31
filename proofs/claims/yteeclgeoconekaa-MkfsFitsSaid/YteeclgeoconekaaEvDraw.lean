/-
  A region that draws its order: whatever the order, what it leaves is what its plan told.
-/
import Derived.Test.YteeclgeoconekaaEvKind
namespace Go.Ev
variable {P : Program} {E : TypeId → Option (List CK)} {φ : Fi} {q : FuncId → Bool} {call : CallFn} {ops : Array Oper}

/-- What has come of the world since the region began. -/
structure PW (φ0 φ : Fi) (M0 : Mem) (wall : Nat) (w0 w : World) : Prop where
  ext : Ext φ0 φ
  new : ∀ b l, φ b = some l → φ0 b = some l ∨ (M0.length ≤ b ∧ (w0.heap.size ≤ l.blk ∨ ∃ b0 l0 k0, wall ≤ b0 ∧ φ0 b0 = some l0 ∧ M0[b0]? = some k0 ∧ k0.live = true ∧ l0.blk = l.blk))
  size : w0.heap.size ≤ w.heap.size
  frame : ∀ c, c < w0.heap.size → (∀ b l k, wall ≤ b → φ0 b = some l → M0[b]? = some k → k.live = true → l.blk ≠ c) → w.heap[c]? = w0.heap[c]?
  os : w.os = w0.os
  tape : w.tape = w0.tape
  output : w.output = w0.output

theorem PW.step {φ0 φ φ' : Fi} {M0 Mq Mq' : Mem} {wall : Nat} {w0 w w' : World} (h : PW φ0 φ M0 wall w0 w) (hr0 : Rel φ0 M0 wall w0) (hp : Post φ φ' Mq Mq' wall w w') (hlen : M0.length ≤ Mq.length)
    (hdead : ∀ (b : Nat) (k0 k : Blk), M0[b]? = some k0 → Mq[b]? = some k → k.live = true → k0.live = true) : PW φ0 φ' M0 wall w0 w' := by
  have old : ∀ b l, φ0 b = some l → ∃ k0, M0[b]? = some k0 := fun b l e => ⟨M0[b]'(hr0.dom b l e), by simp [hr0.dom b l e]⟩
  refine ⟨h.ext.trans hp.ext, ?_, Nat.le_trans h.size hp.size, ?_, hp.os.trans h.os, hp.tape.trans h.tape, hp.output.trans h.output⟩
  · intro b l e
    rcases hp.new b l e with e1 | ⟨g1, g2, g3⟩
    · exact h.new b l e1
    · refine .inr ⟨Nat.le_trans hlen g1, ?_⟩
      rcases g3 with g3 | ⟨b0, l0, k0, f1, f2, f3, f4, f5⟩
      · exact .inl (Nat.le_trans h.size g3)
      · rcases h.new b0 l0 f2 with e0 | ⟨_, e0⟩
        · obtain ⟨k00, hk00⟩ := old b0 l0 e0
          exact .inr ⟨b0, l0, k00, f1, e0, hk00, hdead b0 k00 k0 hk00 f3 f4, f5⟩
        · rcases e0 with e0 | ⟨b1, l1, k1, d1, d2, d3, d4, d5⟩
          · exact .inl (f5 ▸ e0)
          · exact .inr ⟨b1, l1, k1, d1, d2, d3, d4, d5.trans f5⟩
  · intro c hc hno
    rw [hp.frame c (Nat.lt_of_lt_of_le hc h.size) ?_, h.frame c hc hno]
    intro b l k f1 f2 f3 f4
    rcases h.new b l f2 with e0 | ⟨_, e0⟩
    · obtain ⟨k0, hk0⟩ := old b l e0
      exact hno b l k0 f1 e0 hk0 (hdead b k0 k hk0 f3 f4)
    · rcases e0 with e0 | ⟨b1, l1, k1, d1, d2, d3, d4, d5⟩
      · omega
      · exact d5 ▸ hno b1 l1 k1 d1 d2 d3 d4

theorem PW.quiet {φ0 φ φ' : Fi} {M0 : Mem} {wall : Nat} {w0 w w' : World} (h : PW φ0 φ M0 wall w0 w) (he : Ext φ φ') (hn : ∀ b l, φ' b = some l → φ b = some l ∨ (M0.length ≤ b ∧ w.heap.size ≤ l.blk))
    (hold : ∀ c, c < w.heap.size → w'.heap[c]? = w.heap[c]?) (hs : w.heap.size ≤ w'.heap.size) (h1 : w'.os = w.os) (h2 : w'.tape = w.tape) (h3 : w'.output = w.output) : PW φ0 φ' M0 wall w0 w' := by
  refine ⟨h.ext.trans he, ?_, Nat.le_trans h.size hs, ?_, h1.trans h.os, h2.trans h.tape, h3.trans h.output⟩
  · intro b l e
    rcases hn b l e with e1 | ⟨g1, g2⟩
    · exact h.new b l e1
    · exact .inr ⟨g1, .inl (Nat.le_trans h.size g2)⟩
  · intro c hc hno
    rw [hold c (Nat.lt_of_lt_of_le hc h.size), h.frame c hc hno]

/-- What two maps of places tell together. -/
def both (φ1 φ : Fi) : Fi := fun b => match φ1 b with | some l => some l | none => φ b

theorem evLoad_congr {M M' : Mem} {t : TypeId} {a : Addr} (h : M[a.block]? = M'[a.block]?) : evLoad P M t (.pointer (some a)) = evLoad P M' t (.pointer (some a)) := by
  simp only [evLoad, Mem.row, Mem.cell, h]

theorem evLoad_ptr {M : Mem} {t : TypeId} {x v : Value} (h : evLoad P M t x = some v) : ∃ a, x = .pointer (some a) ∧ a.block < M.length := by
  unfold evLoad at h
  split at h
  · rename_i a
    refine ⟨a, rfl, ?_⟩
    split at h
    · simp only [Option.bind_eq_some_iff] at h
      obtain ⟨cs, hc, _⟩ := h
      obtain ⟨k, hk, _⟩ := Mem.row_some hc
      exact lt_of_getElem? hk
    · obtain ⟨k, hk, _⟩ := Mem.cell_some h
      exact lt_of_getElem? hk
    · cases h
  · cases h

theorem blockOf_le {M : Mem} {wall : Nat} {w : World} (hr : Rel φ M wall w) {v v' : Value} (hv : VR φ v v') : blockOf v ≤ M.length := by
  unfold blockOf
  split
  · rename_i a
    obtain ⟨l, _, hl, _⟩ := hv.ptr_inv
    have := hr.dom _ _ hl
    omega
  · exact Nat.zero_le _

theorem foldl_max_le (f : Nat → Nat) (m : Nat) : ∀ (js : List Nat) (w : Nat), w ≤ m → (∀ j ∈ js, f j ≤ m) → js.foldl (fun w j => max w (f j)) w ≤ m := by
  intro js
  induction js with
  | nil => intro w h _; exact h
  | cons j js ih => intro w h hf; exact ih _ (Nat.max_le.2 ⟨h, hf j (by simp)⟩) fun x hx => hf x (by simp [hx])

theorem foldl_max_mem (f : Nat → Nat) : ∀ (js : List Nat) (w : Nat) (j : Nat), j ∈ js → f j ≤ js.foldl (fun w j => max w (f j)) w := by
  intro js
  induction js with
  | nil => intro w j h; simp at h
  | cons x js ih =>
    intro w j h
    simp only [List.foldl_cons]
    rcases List.mem_cons.1 h with rfl | h
    · exact Nat.le_trans (Nat.le_max_right _ _) (foldl_max_ge f js _)
    · exact ih _ j h

theorem wallFor_le {M : Mem} {wall : Nat} {w : World} (hr : Rel φ M wall w) (hw : wall ≤ M.length) {r : List Value} {a : Act} (hrr : RR φ r a.tmps) (conf : List (Nat × List Nat)) (i : Nat) : wallFor ops conf wall i r ≤ M.length := by
  unfold wallFor
  split
  · exact hw
  · split
    · refine foldl_max_le (fun j => blockOf (loadAddr ops r j)) _ _ _ hw fun j _ => ?_
      unfold loadAddr
      split
      · split
        · exact blockOf_le hr (hrr.ev _)
        · exact Nat.zero_le _
      · exact Nat.zero_le _
    · exact hw

theorem wallFor_mem {conf : List (Nat × List Nat)} {wall i j : Nat} {js : List Nat} (h : conf.lookup i = some js) (hj : j ∈ js) (r : List Value) : blockOf (loadAddr ops r j) ≤ wallFor ops conf wall i r := by
  unfold wallFor
  split
  · simp at h
  · rw [h]
    exact foldl_max_mem (fun j => blockOf (loadAddr ops r j)) js wall j hj

theorem getD_set_bool (l : Array Bool) (i j : Nat) (hi : i < l.size) (d : Bool) : (l.setIfInBounds i true).getD j d = if j = i then true else l.getD j d := by
  simp only [Array.getD_eq_getD_getElem?, Array.getElem?_setIfInBounds]
  by_cases h : i = j
  · subst h
    simp [hi]
  · rw [if_neg h, if_neg (fun e => h e.symm)]

theorem put_len (r : List Value) (d : Option Tmp) (v : Value) : (put r d v).length = r.length := by cases d <;> simp [put]
theorem put_get_ne (r : List Value) {d : Option Tmp} (v : Value) {t : Nat} (h : d ≠ some t) : (put r d v).getD t undef = r.getD t undef := by
  cases d with
  | none => rfl
  | some u =>
    have : u ≠ t := fun e => h (by rw [e])
    simp [put, List.getD_eq_getElem?_getD, List.getElem?_set, this]
theorem put_get_eq (r : List Value) (v : Value) {t : Nat} (h : t < r.length) : (put r (some t) v).getD t undef = v := by
  simp [put, h]
theorem aput_get_ne (a : Act) {d : Option Tmp} (v : Value) {t : Nat} (h : d ≠ some t) : (a.put d v).tmps.getD t undef = a.tmps.getD t undef := by
  cases d with
  | none => rfl
  | some u =>
    have : u ≠ t := fun e => h (by rw [e])
    simp [Act.put, Array.getElem?_setIfInBounds, this]
theorem aput_get_eq (a : Act) (v : Value) {t : Nat} (h : t < a.tmps.size) : (a.put (some t) v).tmps.getD t undef = v := by
  simp [Act.put, Array.getElem?_setIfInBounds, h]

section
variable {A : RAnn} {wall : Nat} {r r' : List Value} {M M' : Mem} {rs : Nat → List Value} {Ms : Nat → Mem} {val : Nat → Value} {before : Nat → Nat → Prop}

/-- Which operations have been carried out; what of slots, memory, places stands. -/
structure Inv (P : Program) (q : FuncId → Bool) (ops : Array Oper) (A : RAnn) (wall : Nat) (r : List Value) (M : Mem) (rs : Nat → List Value) (Ms : Nat → Mem) (φ0 : Fi) (w0 : World)
    (on : Nat → Prop) (φ : Fi) (a : Act) (w : World) : Prop where
  closed : ∀ j, j < ops.size → on j → ∀ p ∈ predsOf ops j, on p
  size : a.tmps.size = r.length
  regs : ∀ t p, p ≤ ops.size → (∀ j, j < ops.size → dstOf ops j = some t → (on j ↔ posOf A.ord j < p)) → VR φ ((rs p).getD t undef) (a.tmps.getD t undef)
  mem : ∀ p, p ≤ ops.size → (∀ j, j < ops.size → kindAt P q ops j = 3 → (on j ↔ posOf A.ord j < p)) → Rel (cut φ (Ms p).length) (Ms p) wall w
  dom : ∀ b l, φ b = some l → b < M.length ∨ ∃ j, j < ops.size ∧ on j ∧ (Ms (posOf A.ord j)).length ≤ b ∧ b < (Ms (posOf A.ord j + 1)).length
  pw : PW φ0 φ M wall w0 w
  defers : a.defers = []
  phase : ∃ p, p ≤ ops.size ∧ ∀ j, j < ops.size → kindAt P q ops j = 3 → (on j ↔ posOf A.ord j < p)

/-- The facts of a plan and its states that the steps lean on. -/
structure Facts (P : Program) (E : TypeId → Option (List CK)) (q : FuncId → Bool) (call : CallFn) (ops : Array Oper) (A : RAnn) (wall : Nat) (r : List Value) (M : Mem) (r' : List Value) (M' : Mem) (rs : Nat → List Value) (Ms : Nat → Mem) (val : Nat → Value)
    (before : Nat → Nat → Prop) (φ0 : Fi) (w0 : World) : Prop where
  plan : Plan P q A ops before
  st : States P E q call ops (wallFor ops A.conf wall) A.ord r M r' M' rs Ms val
  world : ∀ p, p ≤ ops.size → ∃ (φp : Fi) (ap : Act) (wp : World), RR φp (rs p) ap.tmps ∧ Post φ0 φp M (Ms p) wall w0 wp
  rel0 : Rel φ0 M wall w0
  wall0 : wall ≤ M.length

variable {φ0 : Fi} {w0 : World} (F : Facts P E q call ops A wall r M r' M' rs Ms val before φ0 w0) (hk : CallKeeps call)
include F

theorem Facts.at_pos {j : Nat} (hj : j < ops.size) : A.ord[posOf A.ord j]? = some j := by
  have h := F.plan.all j hj
  have hlt : A.ord.idxOf j < A.ord.length := List.idxOf_lt_length_iff.2 h
  unfold posOf
  rw [List.getElem?_eq_getElem hlt]
  simp

theorem Facts.pos_lt {j : Nat} (hj : j < ops.size) : posOf A.ord j < ops.size := by
  have := lt_of_getElem? (F.at_pos hj)
  rw [F.plan.len] at this
  exact this

theorem Facts.pos_inj {i j : Nat} (hi : i < ops.size) (hj : j < ops.size) (h : posOf A.ord i = posOf A.ord j) : i = j := by
  have h1 := F.at_pos hi
  have h2 := F.at_pos hj
  rw [h, h2] at h1
  exact (Option.some.inj h1).symm

theorem Facts.before_pos : ∀ (j i : Nat), j < ops.size → before i j → posOf A.ord i < posOf A.ord j := by
  intro j
  induction j using Nat.strongRecOn with
  | _ j ih =>
    intro i hj h
    rcases F.plan.anc j hj i h with h | ⟨m, hm, h⟩
    · exact (F.plan.preds j hj i h).2
    · obtain ⟨h1, h2⟩ := F.plan.preds j hj m hm
      exact Nat.lt_trans (ih m h1 i (by omega) h) h2

theorem Facts.before_on {on : Nat → Prop} (hcl : ∀ j, j < ops.size → on j → ∀ p ∈ predsOf ops j, on p) : ∀ (j i : Nat), j < ops.size → on j → before i j → on i := by
  intro j
  induction j using Nat.strongRecOn with
  | _ j ih =>
    intro i hj hon h
    rcases F.plan.anc j hj i h with h | ⟨m, hm, h⟩
    · exact hcl j hj hon i h
    · have h1 := (F.plan.preds j hj m hm).1
      exact ih m h1 i (by omega) (hcl j hj hon m hm) h

theorem Facts.before_ready {on : Nat → Prop} (hcl : ∀ j, j < ops.size → on j → ∀ p ∈ predsOf ops j, on p) {i j : Nat} (hi : i < ops.size) (hready : ∀ p ∈ predsOf ops i, on p) (h : before j i) : on j := by
  rcases F.plan.anc i hi j h with h | ⟨m, hm, h⟩
  · exact hready j h
  · have h1 := (F.plan.preds i hi m hm).1
    exact F.before_on hcl m j (by omega) (hready m hm) h

include hk in
theorem Facts.keeps1 {p : Nat} (hp : p < ops.size) : Keeps (Ms p) (Ms (p + 1)) wall ∧ (∀ i, A.ord[p]? = some i → kindAt P q ops i ≠ 3 → Keeps (Ms p) (Ms (p + 1)) (Ms p).length) ∧
    (∀ i, A.ord[p]? = some i → Keeps (Ms p) (Ms (p + 1)) (wallFor ops A.conf wall i (rs p))) ∧ (∀ i, A.ord[p]? = some i → kindAt P q ops i = 0 ∨ kindAt P q ops i = 1 → Ms (p + 1) = Ms p) := by
  obtain ⟨i0, hi0, _, _⟩ := F.plan.place p hp
  obtain ⟨o, ho, _, hor⟩ := F.st.step p i0 hi0
  have hkind : kindAt P q ops i0 = kindOf P q o.op := by simp [kindAt, ho]
  rcases hor with ⟨_, hs⟩ | ⟨_, _, hm⟩
  · refine ⟨(step_keeps hk hs).mono (wallFor_ge _ _ _ _ _), ?_, ?_, ?_⟩
    · intro i hi hne
      rw [hi0] at hi
      cases hi
      rw [hkind] at hne
      exact kind_keeps hk hne hs
    · intro i hi
      rw [hi0] at hi
      cases hi
      exact step_keeps hk hs
    · intro i hi hor
      rw [hi0] at hi
      cases hi
      rw [hkind] at hor
      rcases hor with h0 | h1
      · exact (kind0_pure h0 hs).1
      · obtain ⟨t, x, hop⟩ := kind1_load h1
        rw [hop] at hs
        simp only [evStep, Option.bind_eq_some_iff, Option.some.injEq, Prod.mk.injEq] at hs
        obtain ⟨_, _, _, h⟩ := hs
        exact h.symm
  · rw [hm]
    exact ⟨.refl _ _, fun _ _ _ => .refl _ _, fun _ _ => .refl _ _, fun _ _ _ => rfl⟩

include hk in
theorem Facts.len_mono {p p' : Nat} (h : p ≤ p') (hp : p' ≤ ops.size) : (Ms p).length ≤ (Ms p').length := by
  induction h with
  | refl => exact Nat.le_refl _
  | step h ih => exact Nat.le_trans (ih (by omega)) (F.keeps1 hk (by omega)).1.1

/-- Where no loud operation stands, what is there stays. -/
theorem Facts.segment (hk : CallKeeps call) {p p' : Nat} (h : p ≤ p') (hp : p' ≤ ops.size) (hno : ∀ j, j < ops.size → kindAt P q ops j = 3 → ¬(p ≤ posOf A.ord j ∧ posOf A.ord j < p')) :
    ∀ b, b < (Ms p).length → (Ms p')[b]? = (Ms p)[b]? := by
  induction h with
  | refl => exact fun _ _ => rfl
  | step h ih =>
    rename_i m
    intro b hb
    have h1 := ih (by omega) (fun j hj hj3 hc => hno j hj hj3 ⟨hc.1, by omega⟩) b hb
    obtain ⟨i, hi, hlt, hpos⟩ := F.plan.place m (by omega)
    have hne : kindAt P q ops i ≠ 3 := fun e => hno i hlt e ⟨by rw [hpos]; exact h, by rw [hpos]; omega⟩
    have h2 := (F.keeps1 hk (p := m) (by omega)).2.1 i hi hne
    have hb2 := Nat.lt_of_lt_of_le hb (F.len_mono hk h (by omega))
    rw [h2.2 b hb2 hb2, h1]

theorem Facts.rs_len {p : Nat} (hp : p ≤ ops.size) : (rs p).length = r.length := by
  induction p with
  | zero => rw [F.st.r0]
  | succ p ih =>
    obtain ⟨i, hi, _, _⟩ := F.plan.place p (by omega)
    obtain ⟨o, _, hrs, _⟩ := F.st.step p i hi
    rw [hrs, put_len, ih (by omega)]

theorem Facts.m_len {p : Nat} (hp : p ≤ ops.size) : M.length ≤ (Ms p).length := by
  obtain ⟨φp, ap, wp, _, h⟩ := F.world p hp
  exact h.len

theorem Facts.bd {p : Nat} (hp : p ≤ ops.size) (t : Nat) : Bd (Ms p).length ((rs p).getD t undef) := by
  obtain ⟨φp, ap, wp, h1, h2⟩ := F.world p hp
  exact ⟨φp, _, h2.rel.dom, h1.getD t⟩

/-- A slot that nobody writes between two places. -/
theorem Facts.slot {p p' : Nat} (h : p ≤ p') (hp : p' ≤ ops.size) {t : Nat} (hno : ∀ j, j < ops.size → dstOf ops j = some t → ¬(p ≤ posOf A.ord j ∧ posOf A.ord j < p')) :
    (rs p').getD t undef = (rs p).getD t undef := by
  induction h with
  | refl => rfl
  | step h ih =>
    rename_i m
    obtain ⟨i, hi, hlt, hpos⟩ := F.plan.place m (by omega)
    obtain ⟨o, ho, hrs, _⟩ := F.st.step m i hi
    rw [hrs, put_get_ne, ih (by omega) (fun j hj hd hc => hno j hj hd ⟨hc.1, by omega⟩)]
    intro e
    have hd : dstOf ops i = some t := by simp [dstOf, ho, e]
    exact hno i hlt hd ⟨by rw [hpos]; exact h, by rw [hpos]; omega⟩

end

end Go.Ev
