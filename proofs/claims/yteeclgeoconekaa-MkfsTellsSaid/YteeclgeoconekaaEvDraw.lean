/-
  A region that draws its order: whatever the order, what it leaves is what its plan told.
-/
import Derived.Test.YteeclgeoconekaaEvKind
namespace Go.Ev
variable {P : Program} {E : TypeId → Option (List CK)} {φ : Fi} {q : FuncId → Bool} {call : CallFn} {ops : Array Oper}

/-- What has come of the world since the region began. -/
structure PW (φ0 φ : Fi) (M0 : Mem) (wall : Nat) (w0 w : World) : Prop where
  ext : Ext φ0 φ
  new : ∀ b l, φ b = some l → φ0 b = some l ∨ (M0.length ≤ b ∧ (w0.heap.size ≤ l.blk ∨ ∃ b0 l0 k0, wall ≤ b0 ∧ φ0 b0 = some l0 ∧ M0[b0]? = some k0 ∧ k0.live = true ∧ l0.blk = l.blk))
  size : w0.heap.size ≤ w.heap.size
  frame : ∀ c, c < w0.heap.size → (∀ b l k, wall ≤ b → φ0 b = some l → M0[b]? = some k → k.live = true → l.blk ≠ c) → w.heap[c]? = w0.heap[c]?
  os : w.os = w0.os
  tape : w.tape = w0.tape
  output : w.output = w0.output

theorem PW.step {φ0 φ φ' : Fi} {M0 Mq Mq' : Mem} {wall : Nat} {w0 w w' : World} (h : PW φ0 φ M0 wall w0 w) (hr0 : Rel φ0 M0 wall w0) (hp : Post φ φ' Mq Mq' wall w w') (hlen : M0.length ≤ Mq.length)
    (hdead : ∀ (b : Nat) (k0 k : Blk), M0[b]? = some k0 → Mq[b]? = some k → k.live = true → k0.live = true) : PW φ0 φ' M0 wall w0 w' := by
  have old : ∀ b l, φ0 b = some l → ∃ k0, M0[b]? = some k0 := fun b l e => ⟨M0[b]'(hr0.dom b l e), by simp [hr0.dom b l e]⟩
  refine ⟨h.ext.trans hp.ext, ?_, Nat.le_trans h.size hp.size, ?_, hp.os.trans h.os, hp.tape.trans h.tape, hp.output.trans h.output⟩
  · intro b l e
    rcases hp.new b l e with e1 | ⟨g1, g2, g3⟩
    · exact h.new b l e1
    · refine .inr ⟨Nat.le_trans hlen g1, ?_⟩
      rcases g3 with g3 | ⟨b0, l0, k0, f1, f2, f3, f4, f5⟩
      · exact .inl (Nat.le_trans h.size g3)
      · rcases h.new b0 l0 f2 with e0 | ⟨_, e0⟩
        · obtain ⟨k00, hk00⟩ := old b0 l0 e0
          exact .inr ⟨b0, l0, k00, f1, e0, hk00, hdead b0 k00 k0 hk00 f3 f4, f5⟩
        · rcases e0 with e0 | ⟨b1, l1, k1, d1, d2, d3, d4, d5⟩
          · exact .inl (f5 ▸ e0)
          · exact .inr ⟨b1, l1, k1, d1, d2, d3, d4, d5.trans f5⟩
  · intro c hc hno
    rw [hp.frame c (Nat.lt_of_lt_of_le hc h.size) ?_, h.frame c hc hno]
    intro b l k f1 f2 f3 f4
    rcases h.new b l f2 with e0 | ⟨_, e0⟩
    · obtain ⟨k0, hk0⟩ := old b l e0
      exact hno b l k0 f1 e0 hk0 (hdead b k0 k hk0 f3 f4)
    · rcases e0 with e0 | ⟨b1, l1, k1, d1, d2, d3, d4, d5⟩
      · omega
      · exact d5 ▸ hno b1 l1 k1 d1 d2 d3 d4

theorem PW.quiet {φ0 φ φ' : Fi} {M0 : Mem} {wall : Nat} {w0 w w' : World} (h : PW φ0 φ M0 wall w0 w) (he : Ext φ φ') (hn : ∀ b l, φ' b = some l → φ b = some l ∨ (M0.length ≤ b ∧ w.heap.size ≤ l.blk))
    (hold : ∀ c, c < w.heap.size → w'.heap[c]? = w.heap[c]?) (hs : w.heap.size ≤ w'.heap.size) (h1 : w'.os = w.os) (h2 : w'.tape = w.tape) (h3 : w'.output = w.output) : PW φ0 φ' M0 wall w0 w' := by
  refine ⟨h.ext.trans he, ?_, Nat.le_trans h.size hs, ?_, h1.trans h.os, h2.trans h.tape, h3.trans h.output⟩
  · intro b l e
    rcases hn b l e with e1 | ⟨g1, g2⟩
    · exact h.new b l e1
    · exact .inr ⟨g1, .inl (Nat.le_trans h.size g2)⟩
  · intro c hc hno
    rw [hold c (Nat.lt_of_lt_of_le hc h.size), h.frame c hc hno]

/-- What two maps of places tell together. -/
def both (φ1 φ : Fi) : Fi := fun b => match φ1 b with | some l => some l | none => φ b

theorem evLoad_congr {M M' : Mem} {t : TypeId} {a : Addr} (h : M[a.block]? = M'[a.block]?) : evLoad P M t (.pointer (some a)) = evLoad P M' t (.pointer (some a)) := by
  simp only [evLoad, Mem.row, Mem.cell, h]

theorem evLoad_ptr {M : Mem} {t : TypeId} {x v : Value} (h : evLoad P M t x = some v) : ∃ a, x = .pointer (some a) ∧ a.block < M.length := by
  unfold evLoad at h
  split at h
  · rename_i a
    refine ⟨a, rfl, ?_⟩
    split at h
    · simp only [Option.bind_eq_some_iff] at h
      obtain ⟨cs, hc, _⟩ := h
      obtain ⟨k, hk, _⟩ := Mem.row_some hc
      exact lt_of_getElem? hk
    · obtain ⟨k, hk, _⟩ := Mem.cell_some h
      exact lt_of_getElem? hk
    · cases h
  · cases h

theorem blockOf_le {M : Mem} {wall : Nat} {w : World} (hr : Rel φ M wall w) {v v' : Value} (hv : VR φ v v') : blockOf v ≤ M.length := by
  unfold blockOf
  split
  · rename_i a
    obtain ⟨l, _, hl, _⟩ := hv.ptr_inv
    have := hr.dom _ _ hl
    omega
  · exact Nat.zero_le _

theorem foldl_max_le (f : Nat → Nat) (m : Nat) : ∀ (js : List Nat) (w : Nat), w ≤ m → (∀ j ∈ js, f j ≤ m) → js.foldl (fun w j => max w (f j)) w ≤ m := by
  intro js
  induction js with
  | nil => intro w h _; exact h
  | cons j js ih => intro w h hf; exact ih _ (Nat.max_le.2 ⟨h, hf j (by simp)⟩) fun x hx => hf x (by simp [hx])

theorem foldl_max_mem (f : Nat → Nat) : ∀ (js : List Nat) (w : Nat) (j : Nat), j ∈ js → f j ≤ js.foldl (fun w j => max w (f j)) w := by
  intro js
  induction js with
  | nil => intro w j h; simp at h
  | cons x js ih =>
    intro w j h
    simp only [List.foldl_cons]
    rcases List.mem_cons.1 h with rfl | h
    · exact Nat.le_trans (Nat.le_max_right _ _) (foldl_max_ge f js _)
    · exact ih _ j h

theorem wallFor_le {M : Mem} {wall : Nat} {w : World} (hr : Rel φ M wall w) (hw : wall ≤ M.length) {r : List Value} {a : Act} (hrr : RR φ r a.tmps) (conf : List (Nat × List Nat)) (i : Nat) : wallFor ops conf wall i r ≤ M.length := by
  unfold wallFor
  split
  · exact hw
  · split
    · refine foldl_max_le (fun j => needB ops r i j) _ _ _ hw fun j _ => ?_
      unfold needB
      cases asideB ops r i (blockOf (loadAddr ops r j))
      case true => exact Nat.zero_le _
      simp only [cond_false]
      unfold loadAddr
      split
      · split
        · exact blockOf_le hr (hrr.ev _)
        · exact Nat.zero_le _
      · exact Nat.zero_le _
    · exact hw

theorem wallFor_mem {conf : List (Nat × List Nat)} {wall i j : Nat} {js : List Nat} (h : conf.lookup i = some js) (hj : j ∈ js) (r : List Value) : needB ops r i j ≤ wallFor ops conf wall i r := by
  unfold wallFor
  split
  · simp at h
  · rw [h]
    exact foldl_max_mem (fun j => needB ops r i j) js wall j hj

theorem getD_set_bool (l : Array Bool) (i j : Nat) (hi : i < l.size) (d : Bool) : (l.setIfInBounds i true).getD j d = if j = i then true else l.getD j d := by
  simp only [Array.getD_eq_getD_getElem?, Array.getElem?_setIfInBounds]
  by_cases h : i = j
  · subst h
    simp [hi]
  · rw [if_neg h, if_neg (fun e => h e.symm)]

theorem put_len (r : List Value) (d : Option Tmp) (v : Value) : (put r d v).length = r.length := by cases d <;> simp [put]
theorem put_get_ne (r : List Value) {d : Option Tmp} (v : Value) {t : Nat} (h : d ≠ some t) : (put r d v).getD t undef = r.getD t undef := by
  cases d with
  | none => rfl
  | some u =>
    have : u ≠ t := fun e => h (by rw [e])
    simp [put, List.getD_eq_getElem?_getD, List.getElem?_set, this]
theorem put_get_eq (r : List Value) (v : Value) {t : Nat} (h : t < r.length) : (put r (some t) v).getD t undef = v := by
  simp [put, h]
theorem aput_get_ne (a : Act) {d : Option Tmp} (v : Value) {t : Nat} (h : d ≠ some t) : (a.put d v).tmps.getD t undef = a.tmps.getD t undef := by
  cases d with
  | none => rfl
  | some u =>
    have : u ≠ t := fun e => h (by rw [e])
    simp [Act.put, Array.getElem?_setIfInBounds, this]
theorem aput_get_eq (a : Act) (v : Value) {t : Nat} (h : t < a.tmps.size) : (a.put (some t) v).tmps.getD t undef = v := by
  simp [Act.put, Array.getElem?_setIfInBounds, h]

section
variable {A : RAnn} {wall : Nat} {r r' : List Value} {M M' : Mem} {rs : Nat → List Value} {Ms : Nat → Mem} {val : Nat → Value} {before : Nat → Nat → Prop}

/-- Which operations have been carried out; what of slots, memory, places stands. -/
structure Inv (P : Program) (q : FuncId → Bool) (ops : Array Oper) (A : RAnn) (wall : Nat) (r : List Value) (M : Mem) (rs : Nat → List Value) (Ms : Nat → Mem) (φ0 : Fi) (w0 : World)
    (on : Nat → Prop) (φ : Fi) (a : Act) (w : World) : Prop where
  closed : ∀ j, j < ops.size → on j → ∀ p ∈ predsOf ops j, on p
  size : a.tmps.size = r.length
  regs : ∀ t p, p ≤ ops.size → (∀ j, j < ops.size → dstOf ops j = some t → (on j ↔ posOf A.ord j < p)) → VR φ ((rs p).getD t undef) (a.tmps.getD t undef)
  mem : ∀ p, p ≤ ops.size → (∀ j, j < ops.size → kindAt P q ops j = 3 → (on j ↔ posOf A.ord j < p)) → Rel (cut φ (Ms p).length) (Ms p) wall w
  dom : ∀ b l, φ b = some l → b < M.length ∨ ∃ j, j < ops.size ∧ on j ∧ (Ms (posOf A.ord j)).length ≤ b ∧ b < (Ms (posOf A.ord j + 1)).length
  pw : PW φ0 φ M wall w0 w
  defers : a.defers = []
  phase : ∃ p, p ≤ ops.size ∧ ∀ j, j < ops.size → kindAt P q ops j = 3 → (on j ↔ posOf A.ord j < p)

/-- The facts of a plan and its states that the steps lean on. -/
structure Facts (P : Program) (E : TypeId → Option (List CK)) (q : FuncId → Bool) (call : CallFn) (ops : Array Oper) (A : RAnn) (wall : Nat) (r : List Value) (M : Mem) (r' : List Value) (M' : Mem) (rs : Nat → List Value) (Ms : Nat → Mem) (val : Nat → Value)
    (before : Nat → Nat → Prop) (φ0 : Fi) (w0 : World) : Prop where
  plan : Plan P q A ops before
  st : States P E q call ops (wallFor ops A.conf wall) A.ord r M r' M' rs Ms val
  world : ∀ p, p ≤ ops.size → ∃ (φp : Fi) (ap : Act) (wp : World), RR φp (rs p) ap.tmps ∧ Post φ0 φp M (Ms p) wall w0 wp
  rel0 : Rel φ0 M wall w0
  wall0 : wall ≤ M.length

variable {φ0 : Fi} {w0 : World} (F : Facts P E q call ops A wall r M r' M' rs Ms val before φ0 w0) (hk : CallKeeps call)
include F

theorem Facts.at_pos {j : Nat} (hj : j < ops.size) : A.ord[posOf A.ord j]? = some j := by
  have h := F.plan.all j hj
  have hlt : A.ord.idxOf j < A.ord.length := List.idxOf_lt_length_iff.2 h
  unfold posOf
  rw [List.getElem?_eq_getElem hlt]
  simp

theorem Facts.pos_lt {j : Nat} (hj : j < ops.size) : posOf A.ord j < ops.size := by
  have := lt_of_getElem? (F.at_pos hj)
  rw [F.plan.len] at this
  exact this

theorem Facts.pos_inj {i j : Nat} (hi : i < ops.size) (hj : j < ops.size) (h : posOf A.ord i = posOf A.ord j) : i = j := by
  have h1 := F.at_pos hi
  have h2 := F.at_pos hj
  rw [h, h2] at h1
  exact (Option.some.inj h1).symm

theorem Facts.before_pos : ∀ (j i : Nat), j < ops.size → before i j → posOf A.ord i < posOf A.ord j := by
  intro j
  induction j using Nat.strongRecOn with
  | _ j ih =>
    intro i hj h
    rcases F.plan.anc j hj i h with h | ⟨m, hm, h⟩
    · exact (F.plan.preds j hj i h).2
    · obtain ⟨h1, h2⟩ := F.plan.preds j hj m hm
      exact Nat.lt_trans (ih m h1 i (by omega) h) h2

theorem Facts.before_on {on : Nat → Prop} (hcl : ∀ j, j < ops.size → on j → ∀ p ∈ predsOf ops j, on p) : ∀ (j i : Nat), j < ops.size → on j → before i j → on i := by
  intro j
  induction j using Nat.strongRecOn with
  | _ j ih =>
    intro i hj hon h
    rcases F.plan.anc j hj i h with h | ⟨m, hm, h⟩
    · exact hcl j hj hon i h
    · have h1 := (F.plan.preds j hj m hm).1
      exact ih m h1 i (by omega) (hcl j hj hon m hm) h

theorem Facts.before_ready {on : Nat → Prop} (hcl : ∀ j, j < ops.size → on j → ∀ p ∈ predsOf ops j, on p) {i j : Nat} (hi : i < ops.size) (hready : ∀ p ∈ predsOf ops i, on p) (h : before j i) : on j := by
  rcases F.plan.anc i hi j h with h | ⟨m, hm, h⟩
  · exact hready j h
  · have h1 := (F.plan.preds i hi m hm).1
    exact F.before_on hcl m j (by omega) (hready m hm) h

include hk in
theorem Facts.keeps1 {p : Nat} (hp : p < ops.size) : Keeps (Ms p) (Ms (p + 1)) wall ∧ (∀ i, A.ord[p]? = some i → kindAt P q ops i ≠ 3 → Keeps (Ms p) (Ms (p + 1)) (Ms p).length) ∧
    (∀ i, A.ord[p]? = some i → Keeps (Ms p) (Ms (p + 1)) (wallFor ops A.conf wall i (rs p))) ∧ (∀ i, A.ord[p]? = some i → kindAt P q ops i = 0 ∨ kindAt P q ops i = 1 → Ms (p + 1) = Ms p) ∧
    (∀ i, A.ord[p]? = some i → ∀ b, asideB ops (rs p) i (b + 1) = true → b < (Ms p).length → (Ms (p + 1))[b]? = (Ms p)[b]?) := by
  obtain ⟨i0, hi0, _, _⟩ := F.plan.place p hp
  obtain ⟨o, ho, _, hor⟩ := F.st.step p i0 hi0
  have hkind : kindAt P q ops i0 = kindOf P q o.op := by simp [kindAt, ho]
  rcases hor with ⟨_, hs⟩ | ⟨_, _, hm⟩
  · refine ⟨(step_keeps hk hs).mono (wallFor_ge _ _ _ _ _), ?_, ?_, ?_, ?_⟩
    · intro i hi hne
      rw [hi0] at hi
      cases hi
      rw [hkind] at hne
      exact kind_keeps hk hne hs
    · intro i hi
      rw [hi0] at hi
      cases hi
      exact step_keeps hk hs
    · intro i hi hor
      rw [hi0] at hi
      cases hi
      rw [hkind] at hor
      rcases hor with h0 | h1
      · exact (kind0_pure h0 hs).1
      · obtain ⟨t, x, hop⟩ := kind1_load h1
        rw [hop] at hs
        simp only [evStep, Option.bind_eq_some_iff, Option.some.injEq, Prod.mk.injEq] at hs
        obtain ⟨_, _, _, h⟩ := hs
        exact h.symm
    · intro i hi b hb hlt
      rw [hi0] at hi
      cases hi
      simp only [asideB, ho] at hb
      split at hb
      · rename_i args ts hop
        rw [hop] at hs
        simp only [evStep] at hs
        split at hb
        · rename_i s0 x0 hargs
          rw [hargs] at hs
          dsimp only at hs
          split at hb
          · rename_i ad l c hev
            rw [hev] at hs
            refine evAppend_aside hs (fun e => ?_) hlt
            subst e
            simp at hb
          · cases hb
        · cases hb
      · cases hb
  · rw [hm]
    exact ⟨.refl _ _, fun _ _ _ => .refl _ _, fun _ _ => .refl _ _, fun _ _ _ => rfl, fun _ _ _ _ _ => rfl⟩

include hk in
theorem Facts.len_mono {p p' : Nat} (h : p ≤ p') (hp : p' ≤ ops.size) : (Ms p).length ≤ (Ms p').length := by
  induction h with
  | refl => exact Nat.le_refl _
  | step h ih => exact Nat.le_trans (ih (by omega)) (F.keeps1 hk (by omega)).1.1

/-- Where no loud operation stands, what is there stays. -/
theorem Facts.segment (hk : CallKeeps call) {p p' : Nat} (h : p ≤ p') (hp : p' ≤ ops.size) (hno : ∀ j, j < ops.size → kindAt P q ops j = 3 → ¬(p ≤ posOf A.ord j ∧ posOf A.ord j < p')) :
    ∀ b, b < (Ms p).length → (Ms p')[b]? = (Ms p)[b]? := by
  induction h with
  | refl => exact fun _ _ => rfl
  | step h ih =>
    rename_i m
    intro b hb
    have h1 := ih (by omega) (fun j hj hj3 hc => hno j hj hj3 ⟨hc.1, by omega⟩) b hb
    obtain ⟨i, hi, hlt, hpos⟩ := F.plan.place m (by omega)
    have hne : kindAt P q ops i ≠ 3 := fun e => hno i hlt e ⟨by rw [hpos]; exact h, by rw [hpos]; omega⟩
    have h2 := (F.keeps1 hk (p := m) (by omega)).2.1 i hi hne
    have hb2 := Nat.lt_of_lt_of_le hb (F.len_mono hk h (by omega))
    rw [h2.2 b hb2 hb2, h1]

theorem Facts.rs_len {p : Nat} (hp : p ≤ ops.size) : (rs p).length = r.length := by
  induction p with
  | zero => rw [F.st.r0]
  | succ p ih =>
    obtain ⟨i, hi, _, _⟩ := F.plan.place p (by omega)
    obtain ⟨o, _, hrs, _⟩ := F.st.step p i hi
    rw [hrs, put_len, ih (by omega)]

theorem Facts.m_len {p : Nat} (hp : p ≤ ops.size) : M.length ≤ (Ms p).length := by
  obtain ⟨φp, ap, wp, _, h⟩ := F.world p hp
  exact h.len

theorem Facts.bd {p : Nat} (hp : p ≤ ops.size) (t : Nat) : Bd (Ms p).length ((rs p).getD t undef) := by
  obtain ⟨φp, ap, wp, h1, h2⟩ := F.world p hp
  exact ⟨φp, _, h2.rel.dom, h1.getD t⟩

/-- A slot that nobody writes between two places. -/
theorem Facts.slot {p p' : Nat} (h : p ≤ p') (hp : p' ≤ ops.size) {t : Nat} (hno : ∀ j, j < ops.size → dstOf ops j = some t → ¬(p ≤ posOf A.ord j ∧ posOf A.ord j < p')) :
    (rs p').getD t undef = (rs p).getD t undef := by
  induction h with
  | refl => rfl
  | step h ih =>
    rename_i m
    obtain ⟨i, hi, hlt, hpos⟩ := F.plan.place m (by omega)
    obtain ⟨o, ho, hrs, _⟩ := F.st.step m i hi
    rw [hrs, put_get_ne, ih (by omega) (fun j hj hd hc => hno j hj hd ⟨hc.1, by omega⟩)]
    intro e
    have hd : dstOf ops i = some t := by simp [dstOf, ho, e]
    exact hno i hlt hd ⟨by rw [hpos]; exact h, by rw [hpos]; omega⟩

end

end Go.Ev


/-
  A region that draws its order: the steps, and the end.
-/
namespace Go.Ev
set_option linter.unusedSectionVars false
variable {P : Program} {E : TypeId → Option (List CK)} {φ : Fi} {q : FuncId → Bool} {call : CallFn} {ops : Array Oper}

/-- The slots that an operation looks at. -/
def seen (ops : Array Oper) (o : Oper) (r : List Value) : List Value := (List.range r.length).map fun t => if t ∈ o.looksAt ops then r.getD t undef else undef

theorem seen_get {o : Oper} {r : List Value} {t : Nat} (h : t ∈ o.looksAt ops) : (seen ops o r).getD t undef = r.getD t undef := by
  unfold seen
  by_cases ht : t < r.length
  · simp [List.getD_eq_getElem?_getD, ht, h]
  · simp [List.getD_eq_getElem?_getD, ht]

theorem seen_rr {o : Oper} {r : List Value} {t : Array Value} (hs : t.size = r.length) (h : ∀ s ∈ o.looksAt ops, VR φ (r.getD s undef) (t.getD s undef)) : RR φ (seen ops o r) t := by
  refine ⟨by simp [seen, hs], fun i u u' h1 h2 => ?_⟩
  have hi : i < r.length := by have := lt_of_getElem? h1; simpa [seen] using this
  simp only [seen, List.getElem?_map, List.getElem?_range hi, Option.map_some, Option.some.injEq] at h1
  split at h1
  · rename_i hm
    have := h i hm
    have e : t.getD i undef = u' := by
      rw [Array.getElem?_toList] at h2
      simp [h2]
    rw [e, h1] at this
    exact this
  · rw [← h1]; exact .undef _

theorem looks_operand {o : Oper} {t : Tmp} (h : Operand.tmp t ∈ o.op.operands) : t ∈ o.looksAt ops :=
  List.mem_append_left _ (List.mem_filterMap.2 ⟨.tmp t, by simpa using h, rfl⟩)

theorem seen_ev {o : Oper} {r : List Value} {x : Operand} (h : x ∈ o.op.operands) : ev (seen ops o r) x = ev r x := by
  cases x with
  | tmp t => exact seen_get (looks_operand h)
  | _ => rfl

theorem seen_step {o : Oper} {r : List Value} (wall : Nat) (M : Mem) : evStep P E q call wall (seen ops o r) M o.op = evStep P E q call wall r M o.op := step_congr o.op (fun _ hx => seen_ev hx) wall M

theorem seen_wanted {o : Oper} {r : List Value} : wantedV ops o (seen ops o r) = wantedV ops o r := by
  unfold wantedV
  cases hg : o.guard with
  | none => rfl
  | some g =>
    obtain ⟨j, want⟩ := g
    have : guardVal ops (seen ops o r) j = guardVal ops r j := by
      unfold guardVal
      cases hd : (ops[j]?).bind (·.dst) with
      | none => rfl
      | some d =>
        exact seen_get (by simp [Oper.looksAt, hg, hd])
    simp only [this]

section
variable {A : RAnn} {wall : Nat} {r r' : List Value} {M M' : Mem} {rs : Nat → List Value} {Ms : Nat → Mem} {val : Nat → Value} {before : Nat → Nat → Prop} {φ0 : Fi} {w0 : World}
  (F : Facts P E q call ops A wall r M r' M' rs Ms val before φ0 w0) {on : Nat → Prop} {a : Act} {w : World} (I : Inv P q ops A wall r M rs Ms φ0 w0 on φ a w) {i : Nat} (hi : i < ops.size) (hoff : ¬on i)
  (hready : ∀ p ∈ predsOf ops i, on p) {o : Oper} (ho : ops[i]? = some o)
include F I hi hoff hready ho

theorem Facts.regs_step (hrs : rs (posOf A.ord i + 1) = put (rs (posOf A.ord i)) o.dst (val (posOf A.ord i))) {φ' : Fi} (he : Ext φ φ') {v' : Value} (hv : VR φ' (val (posOf A.ord i)) v') :
    ∀ t p, p ≤ ops.size → (∀ j, j < ops.size → dstOf ops j = some t → ((on j ∨ j = i) ↔ posOf A.ord j < p)) → VR φ' ((rs p).getD t undef) ((a.put o.dst v').tmps.getD t undef) := by
  intro t p hp hcond
  by_cases ht : o.dst = some t
  · have hd : dstOf ops i = some t := by simp [dstOf, ho, ht]
    have hlt : posOf A.ord i < p := (hcond i hi hd).1 (.inr rfl)
    have hslot := F.slot (p := posOf A.ord i + 1) (p' := p) hlt hp (t := t) fun j hj hdj hc => by
      have hne : j ≠ i := fun e => by rw [e] at hc; omega
      have hon : on j := by
        rcases (hcond j hj hdj).2 hc.2 with h | h
        · exact h
        · exact absurd h hne
      have hname : t ∈ namesOf ops j := by
        simp only [dstOf] at hdj
        unfold namesOf
        cases hoj : ops[j]? with
        | none => rw [hoj] at hdj; cases hdj
        | some oj => rw [hoj] at hdj; simp at hdj; simp [hdj]
      rcases F.plan.names i j t hi hj (fun e => hne e.symm) hd hname with h | h
      · exact hoff (F.before_on I.closed j i hj hon h)
      · have := F.before_pos i j hi h
        omega
    rw [hslot, hrs, ht]
    by_cases hl : t < r.length
    · rw [put_get_eq _ _ (by rw [F.rs_len (Nat.le_of_lt (F.pos_lt hi))]; exact hl), aput_get_eq _ _ (by rw [I.size]; exact hl)]
      exact hv
    · have : (put (rs (posOf A.ord i)) (some t) (val (posOf A.ord i))).getD t undef = undef := by
        have hl2 : (put (rs (posOf A.ord i)) (some t) (val (posOf A.ord i))).length ≤ t := by rw [put_len, F.rs_len (Nat.le_of_lt (F.pos_lt hi))]; exact Nat.le_of_not_lt hl
        simp [List.getD_eq_getElem?_getD, List.getElem?_eq_none hl2]
      rw [this]
      exact .undef _
  · rw [aput_get_ne _ _ ht]
    refine (I.regs t p hp fun j hj hdj => ?_).mono he
    have hne : j ≠ i := fun e => by
      rw [e] at hdj
      simp [dstOf, ho] at hdj
      exact ht hdj
    have := hcond j hj hdj
    rw [← this]
    exact ⟨.inl, fun h => h.resolve_right hne⟩

theorem Facts.closed_step : ∀ j, j < ops.size → (on j ∨ j = i) → ∀ p ∈ predsOf ops j, (on p ∨ p = i) := by
  intro j hj h p hp
  rcases h with h | rfl
  · exact .inl (I.closed j hj h p hp)
  · exact .inl (hready p hp)

/-- An operation that turns no memory. -/
theorem Facts.inv_same (hrs : rs (posOf A.ord i + 1) = put (rs (posOf A.ord i)) o.dst (val (posOf A.ord i))) (hk3 : kindAt P q ops i ≠ 3) {v' : Value} (hv : VR φ (val (posOf A.ord i)) v') :
    Inv P q ops A wall r M rs Ms φ0 w0 (fun j => on j ∨ j = i) φ (a.put o.dst v') w := by
  have hcond : ∀ {j : Nat}, j < ops.size → kindAt P q ops j = 3 → ((on j ∨ j = i) ↔ on j) := fun hj h3 => ⟨fun h => h.resolve_right fun e => hk3 (e ▸ h3), .inl⟩
  refine ⟨F.closed_step I hi hoff hready ho, ?_, F.regs_step I hi hoff hready ho hrs (.refl _) hv, fun p hp hc => I.mem p hp fun j hj h3 => by rw [← hc j hj h3, hcond hj h3], ?_, I.pw, ?_, ?_⟩
  · have : (a.put o.dst v').tmps.size = a.tmps.size := by cases o.dst <;> simp [Act.put]
    rw [this, I.size]
  · intro b l e
    rcases I.dom b l e with h | ⟨j, h1, h2, h3⟩
    · exact .inl h
    · exact .inr ⟨j, h1, .inl h2, h3⟩
  · have := I.defers
    cases hd : o.dst <;> simp [Act.put, this]
  · obtain ⟨p, hp, hc⟩ := I.phase
    exact ⟨p, hp, fun j hj h3 => by rw [hcond hj h3]; exact hc j hj h3⟩

/-- Where an operation that is no load, and no value's, is ready, the loud ones are done that stand ahead of it. -/
theorem Facts.cond_ready (h2 : kindAt P q ops i ≠ 0) (h1 : kindAt P q ops i ≠ 1) : ∀ j, j < ops.size → kindAt P q ops j = 3 → (on j ↔ posOf A.ord j < posOf A.ord i) := by
  intro j hj h3
  by_cases hji : j = i
  · subst hji
    exact ⟨fun h => absurd h hoff, fun h => absurd h (Nat.lt_irrefl _)⟩
  · rcases F.plan.loud j i hj hi (fun e => hji e.symm) h3 h2 with h | h | ⟨h, _⟩
    · exact ⟨fun _ => F.before_pos i j hi h, fun _ => F.before_ready I.closed hi hready h⟩
    · exact ⟨fun hon => absurd (F.before_on I.closed j i hj hon h) hoff, fun hp => absurd (F.before_pos j i hj h) (by omega)⟩
    · exact absurd h h1

theorem Facts.rr_seen : RR φ (seen ops o (rs (posOf A.ord i))) a.tmps := by
  refine seen_rr (by rw [I.size, F.rs_len (Nat.le_of_lt (F.pos_lt hi))]) fun s hs => ?_
  refine I.regs s _ (Nat.le_of_lt (F.pos_lt hi)) fun j hj hd => ?_
  have hname : s ∈ namesOf ops i := by simp [namesOf, ho, hs]
  by_cases hji : j = i
  · subst hji
    exact ⟨fun h => absurd h hoff, fun h => absurd h (Nat.lt_irrefl _)⟩
  · rcases F.plan.names j i s hj hi hji hd hname with h | h
    · exact ⟨fun _ => F.before_pos i j hi h, fun _ => F.before_ready I.closed hi hready h⟩
    · exact ⟨fun hon => absurd (F.before_on I.closed j i hj hon h) hoff, fun hp => absurd (F.before_pos j i hj h) (by omega)⟩

theorem Facts.rr_cut : RR (cut φ (Ms (posOf A.ord i)).length) (seen ops o (rs (posOf A.ord i))) a.tmps := by
  have h := F.rr_seen I hi hoff hready ho
  refine ⟨h.1, fun j u u' h1 h2 => ?_⟩
  refine (h.2 j u u' h1 h2).cut_of_bd ?_
  have hj : j < (rs (posOf A.ord i)).length := by have := lt_of_getElem? h1; simpa [seen] using this
  simp only [seen, List.getElem?_map, List.getElem?_range hj, Option.map_some, Option.some.injEq] at h1
  split at h1
  · rw [← h1]; exact F.bd (Nat.le_of_lt (F.pos_lt hi)) j
  · rw [← h1]; exact ⟨fun _ => none, undef, (fun b l e => by cases e), .undef _⟩

/-- An operation that turns nothing that is there, but may make blocks. -/
theorem Facts.inv_quiet (hk : CallKeeps call) (hrs : rs (posOf A.ord i + 1) = put (rs (posOf A.ord i)) o.dst (val (posOf A.ord i))) (hk2 : kindAt P q ops i = 2) {φ1 : Fi} {w' : World} {v' : Value}
    (hv : VR φ1 (val (posOf A.ord i)) v') (hp : Post (cut φ (Ms (posOf A.ord i)).length) φ1 (Ms (posOf A.ord i)) (Ms (posOf A.ord i + 1)) (Ms (posOf A.ord i)).length w w') :
    Inv P q ops A wall r M rs Ms φ0 w0 (fun j => on j ∨ j = i) (both φ1 φ) (a.put o.dst v') w' := by
  have hpi := F.pos_lt hi
  have hk3 : kindAt P q ops i ≠ 3 := by omega
  have hrq : Rel (cut φ (Ms (posOf A.ord i)).length) (Ms (posOf A.ord i)) wall w := I.mem _ (Nat.le_of_lt hpi) (F.cond_ready I hi hoff hready ho (by omega) (by omega))
  have hold := hp.quiet_old (hrq.weaken (Nat.le_trans F.wall0 (F.m_len (Nat.le_of_lt hpi))))
  -- what φ1 tells
  have new1 : ∀ b l, φ1 b = some l → (φ b = some l ∧ b < (Ms (posOf A.ord i)).length) ∨ ((Ms (posOf A.ord i)).length ≤ b ∧ b < (Ms (posOf A.ord i + 1)).length ∧ w.heap.size ≤ l.blk) := by
    intro b l e
    rcases hp.new b l e with h | ⟨h1, h2, h3⟩
    · obtain ⟨hb, he⟩ := cut_lt h
      exact .inl ⟨he, hb⟩
    · refine .inr ⟨h1, h2, ?_⟩
      rcases h3 with h3 | ⟨b0, l0, k0, g1, g2, _⟩
      · exact h3
      · have := (cut_lt g2).1
        omega
  have none2 : ∀ b, (Ms (posOf A.ord i)).length ≤ b → b < (Ms (posOf A.ord i + 1)).length → φ b = none := by
    intro b h1 h2
    cases e : φ b with
    | none => rfl
    | some l =>
      exfalso
      rcases I.dom b l e with h | ⟨j, hj, hon, h3, h4⟩
      · have := F.m_len (Nat.le_of_lt hpi)
        omega
      · have hne : j ≠ i := fun x => hoff (x ▸ hon)
        have hpne : posOf A.ord j ≠ posOf A.ord i := fun x => hne (F.pos_inj hj hi x)
        rcases Nat.lt_or_gt_of_ne hpne with hlt | hlt
        · have := F.len_mono hk (p := posOf A.ord j + 1) (p' := posOf A.ord i) hlt (Nat.le_of_lt hpi)
          omega
        · have := F.len_mono hk (p := posOf A.ord i + 1) (p' := posOf A.ord j) hlt (Nat.le_of_lt (F.pos_lt hj))
          omega
  have ext2 : Ext φ (both φ1 φ) := by
    intro b l e
    unfold both
    cases e1 : φ1 b with
    | none => exact e
    | some l1 =>
      rcases new1 b l1 e1 with ⟨h, _⟩ | ⟨h1, h2, _⟩
      · rw [e] at h; cases h; rfl
      · rw [none2 b h1 h2] at e; cases e
  have ext1 : Ext φ1 (both φ1 φ) := by
    intro b l e
    simp only [both, e]
  have cases2 : ∀ b l, both φ1 φ b = some l → φ b = some l ∨ (φ1 b = some l ∧ (Ms (posOf A.ord i)).length ≤ b ∧ b < (Ms (posOf A.ord i + 1)).length ∧ w.heap.size ≤ l.blk) := by
    intro b l e
    unfold both at e
    cases e1 : φ1 b with
    | none => rw [e1] at e; exact .inl e
    | some l1 =>
      rw [e1] at e
      cases e
      rcases new1 b l e1 with ⟨h, _⟩ | h
      · exact .inl h
      · exact .inr ⟨rfl, h⟩
  have hcond : ∀ {j : Nat}, j < ops.size → kindAt P q ops j = 3 → ((on j ∨ j = i) ↔ on j) := fun hj h3 => ⟨fun h => h.resolve_right fun e => hk3 (e ▸ h3), .inl⟩
  have hcr := F.cond_ready I hi hoff hready ho (by omega) (by omega)
  refine ⟨F.closed_step I hi hoff hready ho, ?_, F.regs_step I hi hoff hready ho hrs ext2 (hv.mono ext1), ?_, ?_, ?_, ?_, ?_⟩
  · have : (a.put o.dst v').tmps.size = a.tmps.size := by cases o.dst <;> simp [Act.put]
    rw [this, I.size]
  · -- memory
    intro p hple hc
    have hc' : ∀ j, j < ops.size → kindAt P q ops j = 3 → (on j ↔ posOf A.ord j < p) := fun j hj h3 => by rw [← hc j hj h3, hcond hj h3]
    have hrp := I.mem p hple hc'
    rcases Nat.lt_or_ge (posOf A.ord i) p with hlt | hge
    · -- the new blocks are there
      have hseg := F.segment hk (p := posOf A.ord i + 1) (p' := p) hlt hple fun j hj h3 hcc => by
        have g1 := (hc' j hj h3).2 hcc.2
        have g2 := (hcr j hj h3).1 g1
        omega
      have hlm := F.len_mono hk (p := posOf A.ord i + 1) (p' := p) hlt hple
      have extc : Ext φ1 (cut (both φ1 φ) (Ms p).length) := fun b l e => cut_some (ext1 b l e) (Nat.lt_of_lt_of_le (hp.rel.dom b l e) hlm)
      have exto : Ext (cut φ (Ms p).length) (cut (both φ1 φ) (Ms p).length) := cut_mono ext2 _
      have oldblk : ∀ b l k, φ b = some l → b < (Ms p).length → (Ms p)[b]? = some k → k.live = true → l.blk < w.heap.size := by
        intro b l k e hb h1 h2
        obtain ⟨arr, f, c1, _⟩ := hrp.at_ b l k (cut_some e hb) h1 h2
        exact (Array.getElem?_eq_some_iff.1 c1).1
      refine ⟨fun b l e => (cut_lt e).1, ?_, ?_⟩
      · intro b l k e h1 h2
        obtain ⟨hb, e⟩ := cut_lt e
        rcases cases2 b l e with e0 | ⟨e1, g1, g2, g3⟩
        · obtain ⟨arr, f, c1, c2, c3, c4, c5⟩ := hrp.at_ b l k (cut_some e0 hb) h1 h2
          exact ⟨arr, f, by rw [hold _ (Array.getElem?_eq_some_iff.1 c1).1]; exact c1, c2, c3, c4, fun j v hv => by
            obtain ⟨v', d1, d2⟩ := c5 j v hv
            exact ⟨v', d1, d2.mono exto⟩⟩
        · rw [hseg b g2] at h1
          obtain ⟨arr, f, c1, c2, c3, c4, c5⟩ := hp.rel.at_ b l k e1 h1 h2
          exact ⟨arr, f, c1, fun _ => c2 g1, c3, c4, fun j v hv => by
            obtain ⟨v', d1, d2⟩ := c5 j v hv
            exact ⟨v', d1, d2.mono extc⟩⟩
      · intro b b' l l' k k' e e' h1 h1' h2 h2' hw hne
        obtain ⟨hb, e⟩ := cut_lt e
        obtain ⟨hb', e'⟩ := cut_lt e'
        rcases cases2 b l e with e0 | ⟨e1, g1, g2, g3⟩
        · rcases cases2 b' l' e' with e0' | ⟨e1', g1', g2', g3'⟩
          · exact hrp.sep b b' l l' k k' (cut_some e0 hb) (cut_some e0' hb') h1 h1' h2 h2' hw hne
          · have := oldblk b l k e0 hb h1 h2
            omega
        · rcases cases2 b' l' e' with e0' | ⟨e1', g1', g2', g3'⟩
          · have := oldblk b' l' k' e0' hb' h1' h2'
            omega
          · rw [hseg b g2] at h1
            rw [hseg b' g2'] at h1'
            exact hp.rel.sep b b' l l' k k' e1 e1' h1 h1' h2 h2' g1 hne
    · -- they are not
      have hlm := F.len_mono hk (p := p) (p' := posOf A.ord i) hge (Nat.le_of_lt hpi)
      have e : cut (both φ1 φ) (Ms p).length = cut φ (Ms p).length := by
        funext b
        unfold cut
        split
        · rename_i hb
          cases eb : both φ1 φ b with
          | some l =>
            rcases cases2 b l eb with e0 | ⟨_, g1, _⟩
            · exact e0.symm
            · omega
          | none =>
            cases e0 : φ b with
            | none => rfl
            | some l => rw [ext2 b l e0] at eb; cases eb
        · rfl
      rw [e]
      exact hrp.grown hold
  · intro b l e
    rcases cases2 b l e with e0 | ⟨_, g1, g2, _⟩
    · rcases I.dom b l e0 with h | ⟨j, h1, h2, h3⟩
      · exact .inl h
      · exact .inr ⟨j, h1, .inl h2, h3⟩
    · exact .inr ⟨i, hi, .inr rfl, g1, g2⟩
  · refine I.pw.quiet ext2 (fun b l e => ?_) hold hp.size hp.os hp.tape hp.output
    rcases cases2 b l e with e0 | ⟨_, g1, _, g3⟩
    · exact .inl e0
    · exact .inr ⟨Nat.le_trans (F.m_len (Nat.le_of_lt hpi)) g1, g3⟩
  · have := I.defers
    cases hd : o.dst <;> simp [Act.put, this]
  · obtain ⟨p, hple, hc⟩ := I.phase
    exact ⟨p, hple, fun j hj h3 => by rw [hcond hj h3]; exact hc j hj h3⟩

/-- Behind all that came before it, a loud operation meets the memory of its place. -/
theorem Facts.cut_loud (hk : CallKeeps call) (hk3 : kindAt P q ops i = 3) : cut φ (Ms (posOf A.ord i)).length = φ := by
  have hpi := F.pos_lt hi
  funext b
  unfold cut
  split
  · rfl
  · rename_i hb
    cases e : φ b with
    | none => rfl
    | some l =>
      exfalso
      rcases I.dom b l e with h | ⟨j, hj, hon, h3, h4⟩
      · have := F.m_len (Nat.le_of_lt hpi)
        omega
      · have hne : j ≠ i := fun x => hoff (x ▸ hon)
        by_cases h01 : kindAt P q ops j = 0 ∨ kindAt P q ops j = 1
        · have := (F.keeps1 hk (F.pos_lt hj)).2.2.2.1 j (F.at_pos hj) h01
          rw [this] at h4
          omega
        · rcases F.plan.loud i j hi hj hne hk3 (fun x => h01 (.inl x)) with h | h | ⟨h, _⟩
          · exact hoff (F.before_on I.closed j i hj hon h)
          · have hlt := F.before_pos i j hi h
            have := F.len_mono hk (p := posOf A.ord j + 1) (p' := posOf A.ord i) hlt (Nat.le_of_lt hpi)
            omega
          · exact h01 (.inr h)

theorem Facts.inv_loud (hk : CallKeeps call) (hrs : rs (posOf A.ord i + 1) = put (rs (posOf A.ord i)) o.dst (val (posOf A.ord i))) (hk3 : kindAt P q ops i = 3) {φ1 : Fi} {w' : World} {v' : Value}
    (hv : VR φ1 (val (posOf A.ord i)) v') (hp : Post φ φ1 (Ms (posOf A.ord i)) (Ms (posOf A.ord i + 1)) wall w w') :
    Inv P q ops A wall r M rs Ms φ0 w0 (fun j => on j ∨ j = i) φ1 (a.put o.dst v') w' := by
  have hpi := F.pos_lt hi
  have hcr := F.cond_ready I hi hoff hready ho (by omega) (by omega)
  refine ⟨F.closed_step I hi hoff hready ho, ?_, F.regs_step I hi hoff hready ho hrs hp.ext hv, ?_, ?_, ?_, ?_, ?_⟩
  · have : (a.put o.dst v').tmps.size = a.tmps.size := by cases o.dst <;> simp [Act.put]
    rw [this, I.size]
  · intro p hple hc
    have hlt : posOf A.ord i < p := (hc i hi hk3).1 (.inr rfl)
    have hseg := F.segment hk (p := posOf A.ord i + 1) (p' := p) hlt hple fun j hj h3 hcc => by
      have hne : j ≠ i := fun x => by rw [x] at hcc; omega
      have g1 := ((hc j hj h3).2 hcc.2).resolve_right hne
      have g2 := (hcr j hj h3).1 g1
      omega
    have hlm := F.len_mono hk (p := posOf A.ord i + 1) (p' := p) hlt hple
    have e : cut φ1 (Ms p).length = φ1 := by
      funext b
      unfold cut
      split
      · rfl
      · rename_i hb
        cases e : φ1 b with
        | none => rfl
        | some l => have := hp.rel.dom b l e; omega
    rw [e]
    refine ⟨fun b l e => Nat.lt_of_lt_of_le (hp.rel.dom b l e) hlm, fun b l k e h1 h2 => ?_, fun b b' l l' k k' e e' h1 h1' h2 h2' hw hne => ?_⟩
    · rw [hseg b (hp.rel.dom b l e)] at h1
      exact hp.rel.at_ b l k e h1 h2
    · rw [hseg b (hp.rel.dom b l e)] at h1
      rw [hseg b' (hp.rel.dom b' l' e')] at h1'
      exact hp.rel.sep b b' l l' k k' e e' h1 h1' h2 h2' hw hne
  · intro b l e
    rcases hp.new b l e with h | ⟨h1, h2, _⟩
    · rcases I.dom b l h with h | ⟨j, h1, h2, h3⟩
      · exact .inl h
      · exact .inr ⟨j, h1, .inl h2, h3⟩
    · exact .inr ⟨i, hi, .inr rfl, h1, h2⟩
  · obtain ⟨φp, ap, wp, _, hpp⟩ := F.world _ (Nat.le_of_lt hpi)
    exact I.pw.step F.rel0 hp (F.m_len (Nat.le_of_lt hpi)) hpp.dead
  · have := I.defers
    cases hd : o.dst <;> simp [Act.put, this]
  · refine ⟨posOf A.ord i + 1, hpi, fun j hj h3 => ?_⟩
    by_cases hji : j = i
    · subst hji
      exact ⟨fun _ => Nat.lt_succ_self _, fun _ => .inr rfl⟩
    · have hne : posOf A.ord j ≠ posOf A.ord i := fun x => hji (F.pos_inj hj hi x)
      have := hcr j hj h3
      constructor
      · intro h
        have := this.1 (h.resolve_right hji)
        omega
      · intro h
        exact .inl (this.2 (by omega))

/-- What a load tells, whenever it is carried out. -/
theorem Facts.load_any (hk : CallKeeps call) (hk1 : kindAt P q ops i = 1) {t : TypeId} {x : Operand} (hop : o.op = .load t x) {v : Value} (hl : evLoad P (Ms (posOf A.ord i)) t (ev (rs (posOf A.ord i)) x) = some v) :
    ∃ v', (Instr.loadAt t (a.eval x)).run P w = .ok v' w ∧ VR φ v v' := by
  have hpi := F.pos_lt hi
  have hrr := F.rr_seen I hi hoff hready ho
  have hx : VR φ (ev (rs (posOf A.ord i)) x) (a.eval x) := by
    have := hrr.ev x
    rwa [seen_ev (by rw [hop]; simp [Op.operands])] at this
  obtain ⟨ad, had, hlt⟩ := evLoad_ptr hl
  obtain ⟨p, hple, hph⟩ := I.phase
  -- a place whose memory the world bears, with the same block
  have hplace : ∃ p', p' ≤ ops.size ∧ (∀ j, j < ops.size → kindAt P q ops j = 3 → (on j ↔ posOf A.ord j < p')) ∧ (Ms p')[ad.block]? = (Ms (posOf A.ord i))[ad.block]? ∧ ad.block < (Ms p').length := by
    rcases Nat.lt_or_ge (posOf A.ord i) p with hip | hip
    · refine ⟨p, hple, hph, ?_, Nat.lt_of_lt_of_le hlt (F.len_mono hk (Nat.le_of_lt hip) hple)⟩
      -- loud operations between do not touch it
      have key : ∀ m, posOf A.ord i ≤ m → m ≤ p → (Ms m)[ad.block]? = (Ms (posOf A.ord i))[ad.block]? := by
        intro m hm
        induction hm with
        | refl => intro _; rfl
        | step hm ih =>
          rename_i m
          intro hmp
          have ih' := ih (by omega)
          have hm' : posOf A.ord i ≤ m := hm
          have hbm : ad.block < (Ms m).length := Nat.lt_of_lt_of_le hlt (F.len_mono hk hm (by omega))
          obtain ⟨j, hjo, hj, hjp⟩ := F.plan.place m (by omega)
          have hkp := F.keeps1 hk (p := m) (by omega)
          by_cases h3 : kindAt P q ops j = 3
          · have hji : j ≠ i := fun e => by rw [e, hk1] at h3; cases h3
            have honj : on j := (hph j hj h3).2 (by omega)
            rcases F.plan.loud j i hj hi (fun e => hji e.symm) h3 (by omega) with h | h | ⟨_, hlt2, js, hjs, hmem⟩
            · have := F.before_pos i j hi h
              omega
            · exact absurd (F.before_on I.closed j i hj honj h) hoff
            · have hw := hkp.2.2.1 j hjo
              have hge := wallFor_mem (ops := ops) (wall := wall) hjs hmem (rs m)
              -- the address is the same
              have haddr : loadAddr ops (rs m) i = ev (rs (posOf A.ord i)) x := by
                simp only [loadAddr, ho, hop]
                cases x with
                | tmp s =>
                  exact F.slot (p := posOf A.ord i) (p' := m) hm (by omega) fun j' hj' hd' hcc => by
                    have := F.plan.addr i j' s hi hj' (by simp [addrTmp, ho, hop]) hd'
                    omega
                | const c => rfl
                | global g => rfl
                | func f => rfl
              cases has : asideB ops (rs m) j (blockOf (loadAddr ops (rs m) i))
              · unfold needB at hge
                rw [has, cond_false, haddr, had] at hge
                simp only [blockOf] at hge
                rw [hw.2 ad.block (by omega) hbm, ih']
              · rw [haddr, had] at has
                simp only [blockOf] at has
                rw [hkp.2.2.2.2 j hjo ad.block has hbm, ih']
          · rw [(hkp.2.1 j hjo h3).2 ad.block hbm hbm, ih']
      exact key p (Nat.le_of_lt hip) (Nat.le_refl _)
    · refine ⟨posOf A.ord i, Nat.le_of_lt hpi, fun j hj h3 => ?_, rfl, hlt⟩
      have hji : j ≠ i := fun e => by rw [e, hk1] at h3; cases h3
      constructor
      · intro hon
        have := (hph j hj h3).1 hon
        omega
      · intro hlt2
        rcases F.plan.loud j i hj hi (fun e => hji e.symm) h3 (by omega) with h | h | ⟨_, h, _⟩
        · exact F.before_ready I.closed hi hready h
        · have := F.before_pos j i hj h
          omega
        · omega
  obtain ⟨p', hp', hc', hblk, hlt'⟩ := hplace
  have hrel := I.mem p' hp' hc'
  rw [had] at hl hx
  obtain ⟨l, hsp, hloc, hae⟩ := hx.ptr_inv
  have hx' : VR (cut φ (Ms p').length) (.pointer (some ad)) (a.eval x) := by
    rw [hae]
    have : ad = ⟨ad.block, ad.off, none⟩ := by cases ad; simp at hsp; rw [hsp]
    rw [this]
    exact .ptr _ _ l (cut_some hloc hlt')
  have hl' : evLoad P (Ms p') t (.pointer (some ad)) = some v := by rw [evLoad_congr hblk]; exact hl
  obtain ⟨v', e1, e2⟩ := evLoad_sound (P := P) hrel hl' hx'
  exact ⟨v', e1, e2.mono (cut_ext _ _)⟩

end

theorem on_set {listed : Array Bool} {i : Nat} (hi : i < listed.size) : (fun j => (listed.setIfInBounds i true).getD j true = true) = fun j => (listed.getD j true = true ∨ j = i) := by
  funext j
  rw [getD_set_bool _ _ _ hi]
  by_cases h : j = i
  · simp [h]
  · simp [h]

theorem mem_ready {listed : Array Bool} {i : Nat} (h : i ∈ Region.ready .any ops listed) : i < ops.size ∧ listed.getD i true = false ∧ ∃ o, ops[i]? = some o ∧ ∀ p ∈ predsOf ops i, listed.getD p true = true := by
  simp only [Region.ready, List.mem_filter, List.mem_range, Bool.and_eq_true, Bool.not_eq_true'] at h
  obtain ⟨h1, h2, h3⟩ := h
  have ho : ops[i]? = some ops[i] := by simp [h1]
  refine ⟨h1, h2, ops[i], ho, fun p hp => ?_⟩
  rw [ho] at h3
  simp only [Option.map_some, Option.getD_some, Array.all_eq_true'] at h3
  simp only [predsOf, ho, List.mem_map, List.mem_filter] at hp
  obtain ⟨e, ⟨he, hb⟩, rfl⟩ := hp
  have := h3 e (by simpa using he)
  rw [hb] at this
  simp only [Bool.not_true, Bool.false_or] at this
  cases hx : listed[e.on]? with
  | none => simp [hx] at this
  | some b => simp [hx] at this; simp [hx, this]

theorem ready_nil {A : RAnn} {before : Nat → Nat → Prop} (hp : Plan P q A ops before) {listed : Array Bool} (hs : listed.size = ops.size) (h : Region.ready .any ops listed = []) : ∀ j, j < ops.size → listed.getD j true = true := by
  intro j
  induction j using Nat.strongRecOn with
  | _ j ih =>
    intro hj
    cases hl : listed.getD j true with
    | true => rfl
    | false =>
      exfalso
      have : j ∈ Region.ready .any ops listed := by
        simp only [Region.ready, List.mem_filter, List.mem_range, Bool.and_eq_true, Bool.not_eq_true']
        refine ⟨hj, hl, ?_⟩
        have ho : ops[j]? = some ops[j] := by simp [hj]
        rw [ho]
        simp only [Option.map_some, Option.getD_some, Array.all_eq_true']
        intro e he
        cases hb : Region.binds .any e with
        | false => rfl
        | true =>
          have hm : e.on ∈ predsOf ops j := by
            simp only [predsOf, ho, List.mem_map, List.mem_filter]
            exact ⟨e, ⟨by simpa using he, hb⟩, rfl⟩
          have hlt := (hp.preds j hj _ hm).1
          have := ih e.on hlt (by omega)
          have hlt2 : e.on < listed.size := by omega
          simp only [Array.getD_eq_getD_getElem?, hlt2, getElem?_pos, Option.getD_some] at this
          simp [hlt2, this]
      rw [h] at this
      cases this

def left (n : Nat) (listed : Array Bool) : List Nat := (List.range n).filter fun j => !listed.getD j true

theorem left_set {n : Nat} {listed : Array Bool} {i : Nat} (hs : listed.size = n) (hi : i < n) (hl : listed.getD i true = false) : (left n (listed.setIfInBounds i true)).length < (left n listed).length := by
  have e : left n (listed.setIfInBounds i true) = (left n listed).filter fun j => j != i := by
    unfold left
    rw [List.filter_filter]
    apply List.filter_congr
    intro j _
    rw [getD_set_bool _ _ _ (by omega)]
    by_cases h : j = i
    · simp [h]
    · simp [h]
  rw [e]
  refine List.length_filter_lt_length_iff_exists.2 ⟨i, ?_, by simp⟩
  simp only [left, List.mem_filter, List.mem_range, hl]
  exact ⟨hi, rfl⟩

theorem draw_wp (hE : EqOk P E) (hc : CallOk P call) (hk : CallKeeps call) (hd : CallDef P call) {A : RAnn} (hpl : planOk P q A ops = true) {wall : Nat} {Q : Exit → Act → World → Prop} {r r' : List Value} {M M' : Mem}
    (ht : Tr P E q call ops (wallFor ops A.conf wall) A.ord r M r' M') {φ : Fi} {a : Act} {w : World} (hr : Rel φ M wall w) (hw : wall ≤ M.length) (hrr : RR φ r a.tmps) (hdf : a.defers = [])
    (hq : ∀ φ' a' w', RR φ' r' a'.tmps → Post φ φ' M M' wall w w' → a'.defers = [] → Q .normal a' w') :
    wpAny P .any ops Q ops.size (Array.replicate ops.size false) a { w with drawn := w.drawn + 1 } := by
  obtain ⟨rs, Ms, val, hst⟩ := states_of ht
  have hplan := plan_of hpl
  have F : Facts P E q call ops A wall r M r' M' rs Ms val (fun i j => i ∈ (ancAll ops).getD j []) φ w := by
    refine ⟨hplan, hst, fun p hp => ?_, hr, hw⟩
    exact states_world hE hc hk hd hst hr hw hrr (fun p i hi φp ap wp h1 h2 h3 => wallFor_le h2 h1 h3 _ _) p (by rw [hplan.len]; exact hp)
  -- each step
  have main : ∀ (fuel : Nat) (listed : Array Bool) (φ1 : Fi) (a1 : Act) (w1 : World), listed.size = ops.size → (left ops.size listed).length ≤ fuel →
      Inv P q ops A wall r M rs Ms φ w (fun j => listed.getD j true = true) φ1 a1 w1 → wpAny P .any ops Q fuel listed a1 w1 := by
    have done : ∀ (listed : Array Bool) (φ1 : Fi) (a1 : Act) (w1 : World), (∀ j, j < ops.size → listed.getD j true = true) →
        Inv P q ops A wall r M rs Ms φ w (fun j => listed.getD j true = true) φ1 a1 w1 → Q .normal a1 w1 := by
      intro listed φ1 a1 w1 hall I
      have hn : A.ord.length = ops.size := hplan.len
      have hrel := I.mem ops.size (Nat.le_refl _) fun j hj _ => ⟨fun _ => F.pos_lt hj, fun _ => hall j hj⟩
      have hdom : ∀ b l, φ1 b = some l → b < (Ms ops.size).length := by
        intro b l e
        rcases I.dom b l e with h | ⟨j, hj, _, _, h⟩
        · exact Nat.lt_of_lt_of_le h (F.m_len (Nat.le_refl _))
        · exact Nat.lt_of_lt_of_le h (F.len_mono hk (p := posOf A.ord j + 1) (p' := ops.size) (F.pos_lt hj) (Nat.le_refl _))
      have e : cut φ1 (Ms ops.size).length = φ1 := by
        funext b
        unfold cut
        split
        · rfl
        · cases e : φ1 b with
          | none => rfl
          | some l => have := hdom b l e; omega
      rw [e] at hrel
      have hmn : Ms ops.size = M' := by rw [← hn]; exact hst.mn
      have hrn : rs ops.size = r' := by rw [← hn]; exact hst.rn
      rw [hmn] at hrel hdom
      obtain ⟨φp, ap, wp, _, hpp⟩ := F.world ops.size (Nat.le_refl _)
      rw [hmn] at hpp
      refine hq φ1 a1 w1 ?_ ⟨I.pw.ext, fun b l e => (I.pw.new b l e).imp id fun ⟨x, y⟩ => ⟨x, hdom b l e, y⟩, hrel, hpp.len, hpp.dead, I.pw.size, I.pw.frame, I.pw.os, I.pw.tape, I.pw.output⟩ I.defers
      have hlen : r'.length = a1.tmps.size := by rw [← hrn, F.rs_len (Nat.le_refl _), I.size]
      refine ⟨by simpa using hlen, fun t u u' h1 h2 => ?_⟩
      have hreg := I.regs t ops.size (Nat.le_refl _) fun j hj _ => ⟨fun _ => F.pos_lt hj, fun _ => hall j hj⟩
      rw [hrn] at hreg
      rw [Array.getElem?_toList] at h2
      have e1 : r'.getD t undef = u := by simp [h1]
      have e2 : a1.tmps.getD t undef = u' := by simp [h2]
      rw [e1, e2] at hreg
      exact hreg
    intro fuel
    induction fuel with
    | zero =>
      intro listed φ1 a1 w1 hs hl I
      have hnil : left ops.size listed = [] := by simpa using hl
      have hall : ∀ j, j < ops.size → listed.getD j true = true := by
        intro j hj
        cases h : listed.getD j true with
        | true => rfl
        | false =>
          have : j ∈ left ops.size listed := by
            simp only [left, List.mem_filter, List.mem_range, h]
            exact ⟨hj, rfl⟩
          rw [hnil] at this
          cases this
      refine ⟨?_, done listed φ1 a1 w1 hall I⟩
      cases hx : Region.ready .any ops listed with
      | nil => rfl
      | cons x xs =>
        obtain ⟨h1, h2, _⟩ := mem_ready (ops := ops) (listed := listed) (i := x) (by rw [hx]; simp)
        rw [hall x h1] at h2
        cases h2
    | succ fuel ih =>
      intro listed φ1 a1 w1 hs hl I
      refine ⟨fun hnil => done listed φ1 a1 w1 (ready_nil hplan hs hnil) I, fun i hmem => ?_⟩
      obtain ⟨hi, hoff, o, ho, hready⟩ := mem_ready hmem
      have hoff' : ¬(listed.getD i true = true) := by rw [hoff]; simp
      have hi' : i < listed.size := by omega
      have next : ∀ (φ2 : Fi) (a2 : Act) (w2 : World), Inv P q ops A wall r M rs Ms φ w (fun j => listed.getD j true = true ∨ j = i) φ2 a2 w2 → wpAny P .any ops Q fuel (listed.setIfInBounds i true) a2 w2 := by
        intro φ2 a2 w2 I2
        rw [← on_set hi'] at I2
        have := left_set hs hi hoff
        exact ih _ φ2 a2 w2 (by simpa using hs) (by omega) I2
      have hpi := F.pos_lt hi
      obtain ⟨o', ho', hrs, hor⟩ := hst.step _ i (F.at_pos hi)
      rw [ho] at ho'
      cases ho'
      have hkind : kindAt P q ops i = kindOf P q o.op := by simp [kindAt, ho]
      have hseen := F.rr_seen I hi hoff' hready ho
      unfold wpOp
      simp only [ho]
      rcases hor with ⟨hwt, hs'⟩ | ⟨hwt, hv, hm⟩
      · rw [wanted_of hseen (by rw [seen_wanted]; exact hwt), if_pos rfl]
        left
        by_cases h0 : kindAt P q ops i = 0
        · obtain ⟨hm, hpu⟩ := kind0_pure (hkind ▸ h0) hs'
          have hpu' : evPure P E (seen ops o (rs (posOf A.ord i))) o.op = some (val (posOf A.ord i)) := by
            have := (kind0_pure (hkind ▸ h0) ((seen_step (P := P) (E := E) (q := q) (call := call) (ops := ops) (o := o) _ _).trans hs')).2
            exact this
          obtain ⟨v', e1, e2⟩ := pure_sound hE hpu' hseen w1
          exact upon_value e1 (next φ1 _ w1 (F.inv_same I hi hoff' hready ho hrs (by omega) e2))
        · by_cases h1 : kindAt P q ops i = 1
          · obtain ⟨t, x, hop⟩ := kind1_load (hkind ▸ h1)
            have hl2 := hs'
            rw [hop] at hl2
            simp only [evStep, Option.bind_eq_some_iff, Option.some.injEq, Prod.mk.injEq] at hl2
            obtain ⟨v0, hload, hv0, _⟩ := hl2
            rw [hv0] at hload
            replace hload := evLoadT_some hload
            obtain ⟨v', e1, e2⟩ := F.load_any I hi hoff' hready ho hk h1 hop hload
            exact upon_value (v' := v') (w' := w1) (by simp [execOp, hop, e1]) (next φ1 _ w1 (F.inv_same I hi hoff' hready ho hrs (by omega) e2))
          · have hmr := I.mem _ (Nat.le_of_lt hpi) (F.cond_ready I hi hoff' hready ho h0 h1)
            have hcut := F.rr_cut I hi hoff' hready ho
            have hmlen := F.m_len (Nat.le_of_lt hpi)
            by_cases h3 : kindAt P q ops i = 3
            · have hce := F.cut_loud I hi hoff' hready ho hk h3
              rw [hce] at hmr hcut
              have hge := wallFor_ge ops A.conf wall i (rs (posOf A.ord i))
              obtain ⟨φp, ap, wp, hrp, hpp⟩ := F.world _ (Nat.le_of_lt hpi)
              have hle : wallFor ops A.conf wall i (rs (posOf A.ord i)) ≤ (Ms (posOf A.ord i)).length := wallFor_le hpp.rel (Nat.le_trans hw hmlen) hrp _ _
              refine step_wp hE hc hk hd ((seen_step _ _).trans hs') (hmr.weaken hge) hle hcut fun φ2 v2 w2 hv2 hp2 => ?_
              have hlow := hp2.lower hmr hge hle fun b hb => (step_keeps hk hs').2 b hb (Nat.lt_of_lt_of_le hb hle)
              exact next φ2 _ w2 (F.inv_loud I hi hoff' hready ho hk hrs h3 hv2 hlow)
            · have h2 : kindOf P q o.op = 2 := by
                rw [← hkind]
                have hle : kindOf P q o.op = 0 ∨ kindOf P q o.op = 1 ∨ kindOf P q o.op = 2 ∨ kindOf P q o.op = 3 := kind_cases _
                rw [← hkind] at hle
                omega
              have hs2 := kind2_wall (wall' := (Ms (posOf A.ord i)).length) h2 hs'
              refine step_wp hE hc hk hd ((seen_step _ _).trans hs2) (hmr.weaken (Nat.le_trans hw hmlen)) (Nat.le_refl _) hcut fun φ2 v2 w2 hv2 hp2 => ?_
              exact next _ _ w2 (F.inv_quiet I hi hoff' hready ho hk hrs (hkind.trans h2) hv2 hp2)
      · rw [wanted_of hseen (by rw [seen_wanted]; exact hwt)]
        simp only [Bool.false_eq_true, if_false]
        by_cases h3 : kindAt P q ops i = 3
        · have hmr := I.mem _ (Nat.le_of_lt hpi) (F.cond_ready I hi hoff' hready ho (by omega) (by omega))
          rw [F.cut_loud I hi hoff' hready ho hk h3] at hmr
          refine next φ1 _ w1 (F.inv_loud I hi hoff' hready ho hk hrs h3 (by rw [hv]; exact .sk) ?_)
          rw [hm]
          exact Post.refl hmr
        · exact next φ1 _ w1 (F.inv_same I hi hoff' hready ho hrs h3 (by rw [hv]; exact .sk))
  have hall0 : ∀ j, j < ops.size → (Array.replicate ops.size false).getD j true = false := by
    intro j hj
    simp [hj]
  refine main ops.size _ φ a _ (by simp) ?_ ?_
  · exact Nat.le_trans (List.length_filter_le _ _) (by simp)
  · have none0 : ∀ j, j < ops.size → ¬((Array.replicate ops.size false).getD j true = true) := fun j hj h => by rw [hall0 j hj] at h; cases h
    refine ⟨fun j hj h => absurd h (none0 j hj), ?_, ?_, ?_, fun b l e => .inl (hr.dom b l e), ?_, hdf, 0, Nat.zero_le _, fun j hj _ => ⟨fun h => absurd h (none0 j hj), fun h => absurd h (Nat.not_lt_zero _)⟩⟩
    · simpa using hrr.1.symm
    · intro t p hp hcond
      have e := F.slot (p := 0) (p' := p) (Nat.zero_le _) hp (t := t) fun j hj hdj hc => absurd ((hcond j hj hdj).2 hc.2) (none0 j hj)
      rw [e, hst.r0]
      exact hrr.getD t
    · intro p hp hcond
      have hseg := F.segment hk (p := 0) (p' := p) (Nat.zero_le _) hp fun j hj h3 hc => absurd ((hcond j hj h3).2 hc.2) (none0 j hj)
      rw [hst.m0] at hseg
      have hlm := F.m_len hp
      have e : cut φ (Ms p).length = φ := by
        funext b
        unfold cut
        split
        · rfl
        · cases e : φ b with
          | none => rfl
          | some l => have := hr.dom b l e; omega
      rw [e]
      refine Rel.heap (w := w) ⟨fun b l e => Nat.lt_of_lt_of_le (hr.dom b l e) hlm, fun b l k e h1 h2 => ?_, fun b b' l l' k k' e e' h1 h1' h2 h2' hw hne => ?_⟩ rfl
      · rw [hseg b (hr.dom b l e)] at h1
        exact hr.at_ b l k e h1 h2
      · rw [hseg b (hr.dom b l e)] at h1
        rw [hseg b' (hr.dom b' l' e')] at h1'
        exact hr.sep b b' l l' k k' e e' h1 h1' h2 h2' hw hne
    · exact ⟨.refl _, fun b l e => .inl e, Nat.le_refl _, fun _ _ _ => rfl, rfl, rfl, rfl⟩

end Go.Ev
