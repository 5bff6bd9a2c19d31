/-
  How abstract memory stands for a world: the relation of values, of slots, of memory; what a step leaves.
-/
import Derived.Test.YteeclgeoconekaaEvDefs
namespace Go.Ev

/-- Where an abstract block lies: the block, from which cell on, and how many cells that block has. -/
structure Loc where
  blk : Nat
  off : Nat
  room : Nat

abbrev Fi := Nat → Option Loc

inductive VR (φ : Fi) : Value → Value → Prop where
  | undef (v : Value) : VR φ (.tuple #[]) v
  | sk : VR φ (.tuple #[.tuple #[]]) (.tuple #[])
  | scal (v : Value) (h : flat1 v = true) : VR φ v v
  | ptr (b o : Nat) (l : Loc) (h : φ b = some l) : VR φ (.pointer (some ⟨b, o, none⟩)) (.pointer (some ⟨l.blk, l.off + o, none⟩))
  | sl (b o n k : Nat) (l : Loc) (h : φ b = some l) : VR φ (.slice (some ⟨b, o, none⟩) n k) (.slice (some ⟨l.blk, l.off + o, none⟩) n k)
  | slg (b o z n k k' : Nat) (l : Loc) (h : φ b = some l) (hk : k ≤ k') (hn : n ≤ k) (hr : l.off + o + k' * z ≤ l.room) :
      VR φ (.slice (some ⟨b, o, some z⟩) n k) (.slice (some ⟨l.blk, l.off + o, none⟩) n k')
  | agg (cs cs' : Array Value) (hs : cs.size = cs'.size) (h : ∀ i (h1 : i < cs.size) (h2 : i < cs'.size), VR φ cs[i] cs'[i]) : VR φ (.agg cs) (.agg cs')
  | tuple (cs cs' : Array Value) (h0 : 2 ≤ cs.size) (hs : cs.size = cs'.size) (h : ∀ i (h1 : i < cs.size) (h2 : i < cs'.size), VR φ cs[i] cs'[i]) : VR φ (.tuple cs) (.tuple cs')
  | func (f : Fn) (cs cs' ds ds' : Array Value) (hs : cs.size = cs'.size) (ht : ds.size = ds'.size) (h : ∀ i (h1 : i < cs.size) (h2 : i < cs'.size), VR φ cs[i] cs'[i])
      (h' : ∀ i (h1 : i < ds.size) (h2 : i < ds'.size), VR φ ds[i] ds'[i]) : VR φ (.func f cs ds) (.func f cs' ds')

/-- One map of places says at least what another says. -/
def Ext (φ φ' : Fi) : Prop := ∀ b l, φ b = some l → φ' b = some l

theorem Ext.refl (φ : Fi) : Ext φ φ := fun _ _ h => h
theorem Ext.trans {φ φ' φ'' : Fi} (h : Ext φ φ') (h' : Ext φ' φ'') : Ext φ φ'' := fun b l e => h' b l (h b l e)

theorem VR.mono {φ φ' : Fi} (he : Ext φ φ') {v v' : Value} (h : VR φ v v') : VR φ' v v' := by
  induction h with
  | undef v => exact .undef v
  | sk => exact .sk
  | scal v h => exact .scal v h
  | ptr b o l h => exact .ptr b o l (he _ _ h)
  | sl b o n k l h => exact .sl b o n k l (he _ _ h)
  | slg b o z n k k' l h hk hn hr => exact .slg b o z n k k' l (he _ _ h) hk hn hr
  | agg cs cs' hs _ ih => exact .agg cs cs' hs ih
  | tuple cs cs' h0 hs _ ih => exact .tuple cs cs' h0 hs ih
  | func f cs cs' ds ds' hs ht _ _ ih ih' => exact .func f cs cs' ds ds' hs ht ih ih'

/-- A map of places, cut off at a block. -/
def cut (φ : Fi) (m : Nat) : Fi := fun b => if b < m then φ b else none

theorem cut_ext (φ : Fi) (m : Nat) : Ext (cut φ m) φ := by
  intro b l h
  unfold cut at h
  split at h
  · exact h
  · cases h

theorem cut_le {φ : Fi} {m m' : Nat} (h : m ≤ m') : Ext (cut φ m) (cut φ m') := by
  intro b l e
  unfold cut at *
  split at e
  · rw [if_pos (by omega)]; exact e
  · cases e

theorem cut_some {φ : Fi} {m b : Nat} {l : Loc} (h : φ b = some l) (hb : b < m) : cut φ m b = some l := by
  unfold cut; rw [if_pos hb]; exact h

theorem cut_lt {φ : Fi} {m b : Nat} {l : Loc} (h : cut φ m b = some l) : b < m ∧ φ b = some l := by
  unfold cut at h
  split at h
  · exact ⟨‹_›, h⟩
  · cases h

theorem cut_mono {φ φ' : Fi} (h : Ext φ φ') (m : Nat) : Ext (cut φ m) (cut φ' m) := by
  intro b l e
  obtain ⟨hb, he⟩ := cut_lt e
  exact cut_some (h b l he) hb

/-- A value whose blocks lie below a bound. -/
def Bd (m : Nat) (v : Value) : Prop := ∃ (ψ : Fi) (v' : Value), (∀ b l, ψ b = some l → b < m) ∧ VR ψ v v'

theorem VR.restrict {φ ψ : Fi} {m : Nat} (hψ : ∀ b l, ψ b = some l → b < m) {v v' : Value} (h : VR φ v v') : ∀ u, VR ψ v u → VR (cut φ m) v v' := by
  induction h with
  | undef v => intro u hu; exact .undef v
  | sk => intro u hu; exact .sk
  | scal v h => intro u hu; exact .scal v h
  | ptr b o l h =>
    intro u hu
    cases hu with
    | scal _ h' => cases h'
    | ptr _ _ l' h' => exact .ptr b o l (cut_some h (hψ _ _ h'))
  | sl b o n k l h =>
    intro u hu
    cases hu with
    | scal _ h' => cases h'
    | sl _ _ _ _ l' h' => exact .sl b o n k l (cut_some h (hψ _ _ h'))
  | slg b o z n k k' l h hk hn hr =>
    intro u hu
    cases hu with
    | scal _ h' => cases h'
    | slg _ _ _ _ _ _ l' h' => exact .slg b o z n k k' l (cut_some h (hψ _ _ h')) hk hn hr
  | agg cs cs' hs hc ih =>
    intro u hu
    cases hu with
    | scal _ h' => cases h'
    | agg _ us hs' hu' => exact .agg cs cs' hs fun i h1 h2 => ih i h1 h2 _ (hu' i h1 (hs' ▸ h1))
  | tuple cs cs' h0 hs hc ih =>
    intro u hu
    cases hu with
    | undef _ => simp at h0
    | sk => simp at h0
    | scal _ h' => cases h'
    | tuple _ us _ hs' hu' => exact .tuple cs cs' h0 hs fun i h1 h2 => ih i h1 h2 _ (hu' i h1 (hs' ▸ h1))
  | func f cs cs' ds ds' hs ht hc hd ih ih' =>
    intro u hu
    cases hu with
    | scal _ h' => cases h'
    | func _ _ us _ ws hs' ht' hu' hw' => exact .func f cs cs' ds ds' hs ht (fun i h1 h2 => ih i h1 h2 _ (hu' i h1 (hs' ▸ h1))) (fun i h1 h2 => ih' i h1 h2 _ (hw' i h1 (ht' ▸ h1)))

theorem VR.cut_of_bd {φ : Fi} {m : Nat} {v v' : Value} (h : VR φ v v') (hb : Bd m v) : VR (cut φ m) v v' := by
  obtain ⟨ψ, u, hψ, hu⟩ := hb
  exact h.restrict hψ u hu

theorem Bd.mono {m m' : Nat} {v : Value} (h : Bd m v) (hm : m ≤ m') : Bd m' v := by
  obtain ⟨ψ, u, hψ, hu⟩ := h
  exact ⟨ψ, u, fun b l e => Nat.lt_of_lt_of_le (hψ b l e) hm, hu⟩

/-- What is flat stands for itself alone. -/
theorem VR.of_flat1 {φ : Fi} {v v' : Value} (h : VR φ v v') (hf : flat1 v = true) : v' = v := by
  cases h <;> first | rfl | (simp [flat1] at hf; done)

theorem flat_agg {cs : Array Value} (h : flat (.agg cs) = true) (i : Nat) (hi : i < cs.size) : flat1 cs[i] = true := by
  simp only [flat, List.all_eq_true] at h
  exact h _ (by simp)

theorem VR.of_flat {φ : Fi} {v v' : Value} (h : VR φ v v') (hf : flat v = true) : v' = v := by
  cases h with
  | agg cs cs' hs hc =>
    congr 1
    apply Array.ext
    · exact hs.symm
    · intro i h1 h2
      exact (hc i h2 h1).of_flat1 (flat_agg hf i h2)
  | tuple cs cs' _ _ _ => simp [flat, flat1] at hf
  | undef _ => simp [flat, flat1] at hf
  | sk => simp [flat, flat1] at hf
  | scal => rfl
  | ptr => simp [flat, flat1] at hf
  | sl => simp [flat, flat1] at hf
  | slg => simp [flat, flat1] at hf
  | func => simp [flat, flat1] at hf

theorem VR.flat_self {φ : Fi} {v : Value} (hf : flat v = true) : VR φ v v := by
  cases v with
  | agg cs => exact .agg cs cs rfl fun i h1 h2 => .scal _ (flat_agg hf i h1)
  | _ => exact .scal _ (by simpa [flat] using hf)

/-- A flat result stands for itself, whatever the places. -/
theorem VR.flatR_any {φ φ' : Fi} {v v' : Value} (h : VR φ v v') (hf : flatR v = true) : VR φ' v v' := by
  cases h with
  | undef => exact .undef _
  | sk => exact .sk
  | scal _ h => exact .scal _ h
  | ptr => simp [flatR, flat, flat1] at hf
  | sl => simp [flatR, flat, flat1] at hf
  | slg => simp [flatR, flat, flat1] at hf
  | agg cs cs' hs hc =>
    have := (VR.agg (φ := φ) cs cs' hs hc).of_flat hf
    rw [this]
    exact VR.flat_self hf
  | tuple cs cs' h0 hs hc =>
    simp only [flatR, Bool.and_eq_true, List.all_eq_true] at hf
    refine .tuple cs cs' h0 hs fun i h1 h2 => ?_
    have hfi : flat cs[i] = true := hf.1 _ (by simp)
    rw [(hc i h1 h2).of_flat hfi]
    exact VR.flat_self hfi
  | func => simp [flatR, flat, flat1] at hf

theorem VR.oneCell {φ : Fi} {v v' : Value} (h : VR φ v v') (h1 : v.oneCell' = true) : v'.oneCell' = true := by
  cases h <;> first | rfl | exact h1 | simp [Value.oneCell'] at h1

/-- An integer, a bool, a string stand for themselves. -/
theorem VR.int_inv {φ : Fi} {k : IntKind} {n : Int} {v : Value} (h : VR φ (.int k n) v) : v = .int k n := h.of_flat1 rfl
theorem VR.bool_inv {φ : Fi} {b : Bool} {v : Value} (h : VR φ (.bool b) v) : v = .bool b := h.of_flat1 rfl
theorem VR.string_inv {φ : Fi} {s : ByteArray} {v : Value} (h : VR φ (.string s) v) : v = .string s := h.of_flat1 rfl
theorem VR.int' {φ : Fi} (k : IntKind) (n : Int) : VR φ (.int k n) (.int k n) := .scal _ rfl
theorem VR.bool' {φ : Fi} (b : Bool) : VR φ (.bool b) (.bool b) := .scal _ rfl
theorem VR.string' {φ : Fi} (s : ByteArray) : VR φ (.string s) (.string s) := .scal _ rfl

/-- The cells of a value, by place. -/
theorem VR.cells {φ : Fi} {v v' : Value} (h : VR φ v v') (h1 : v.cells.toList.all Value.oneCell' = true) :
    v.cells.size = v'.cells.size ∧ ∀ i (h1 : i < v.cells.size) (h2 : i < v'.cells.size), VR φ v.cells[i] v'.cells[i] := by
  cases h with
  | undef v => simp [Value.cells, Value.oneCell'] at h1
  | sk => simp [Value.cells, Value.oneCell'] at h1
  | tuple cs cs' _ _ _ => simp [Value.cells, Value.oneCell'] at h1
  | agg cs cs' hs hc => exact ⟨hs, hc⟩
  | scal v h => exact ⟨rfl, fun i h1 h2 => by
      cases v <;> first | (simp [flat1] at h; done) | (simp only [Value.cells, List.size_toArray, List.length_singleton] at h1; obtain rfl : i = 0 := by omega
                                                       exact .scal _ h)⟩
  | ptr b o l h => exact ⟨rfl, fun i h1 h2 => by
      simp only [Value.cells, List.size_toArray, List.length_singleton] at h1; obtain rfl : i = 0 := by omega
      exact .ptr b o l h⟩
  | sl b o n k l h => exact ⟨rfl, fun i h1 h2 => by
      simp only [Value.cells, List.size_toArray, List.length_singleton] at h1; obtain rfl : i = 0 := by omega
      exact .sl b o n k l h⟩
  | slg b o z n k k' l h hk hn hr => exact ⟨rfl, fun i h1 h2 => by
      simp only [Value.cells, List.size_toArray, List.length_singleton] at h1; obtain rfl : i = 0 := by omega
      exact .slg b o z n k k' l h hk hn hr⟩
  | func f cs cs' ds ds' hs ht hc hd => exact ⟨rfl, fun i h1 h2 => by
      simp only [Value.cells, List.size_toArray, List.length_singleton] at h1; obtain rfl : i = 0 := by omega
      exact .func f cs cs' ds ds' hs ht hc hd⟩

/-- Lists of values, place by place. -/
def VRs (φ : Fi) (vs vs' : List Value) : Prop := vs.length = vs'.length ∧ ∀ (i : Nat) (v v' : Value), vs[i]? = some v → vs'[i]? = some v' → VR φ v v'

theorem VRs.nil {φ : Fi} : VRs φ [] [] := ⟨rfl, fun i v v' h => by simp at h⟩
theorem VRs.cons {φ : Fi} {v v' : Value} {vs vs' : List Value} (h : VR φ v v') (hs : VRs φ vs vs') : VRs φ (v :: vs) (v' :: vs') :=
  ⟨by simp [hs.1], fun i u u' h1 h2 => by
    cases i with
    | zero => simp at h1 h2; exact h1 ▸ h2 ▸ h
    | succ i => exact hs.2 i u u' (by simpa using h1) (by simpa using h2)⟩
theorem VRs.inv_cons {φ : Fi} {v : Value} {vs ws : List Value} (h : VRs φ (v :: vs) ws) : ∃ v' vs', ws = v' :: vs' ∧ VR φ v v' ∧ VRs φ vs vs' := by
  cases ws with
  | nil => simp [VRs] at h
  | cons v' vs' => exact ⟨v', vs', rfl, h.2 0 _ _ rfl rfl, by simpa using h.1, fun i u u' h1 h2 => h.2 (i + 1) u u' (by simpa using h1) (by simpa using h2)⟩
theorem VRs.inv_nil {φ : Fi} {ws : List Value} (h : VRs φ [] ws) : ws = [] := by
  cases ws with
  | nil => rfl
  | cons => simp [VRs] at h
theorem VRs.append {φ : Fi} {a a' b b' : List Value} (h : VRs φ a a') (h' : VRs φ b b') : VRs φ (a ++ b) (a' ++ b') := by
  refine ⟨by simp [h.1, h'.1], fun i v v' h1 h2 => ?_⟩
  rw [List.getElem?_append] at h1 h2
  rw [← h.1] at h2
  split at h1
  · rw [if_pos ‹_›] at h2; exact h.2 i v v' h1 h2
  · rw [if_neg ‹_›] at h2; exact h'.2 _ v v' h1 h2
theorem VRs.mono {φ φ' : Fi} (he : Ext φ φ') {a a' : List Value} (h : VRs φ a a') : VRs φ' a a' := ⟨h.1, fun i v v' h1 h2 => (h.2 i v v' h1 h2).mono he⟩
theorem VRs.get {φ : Fi} {a a' : List Value} (h : VRs φ a a') {i : Nat} {v : Value} (hv : a[i]? = some v) : ∃ v', a'[i]? = some v' ∧ VR φ v v' := by
  have hi : i < a'.length := h.1 ▸ (List.getElem?_eq_some_iff.1 hv).1
  exact ⟨a'[i], by simp [hi], h.2 i v _ hv (by simp [hi])⟩
theorem VRs.replicate {φ : Fi} {v v' : Value} (h : VR φ v v') (n : Nat) : VRs φ (List.replicate n v) (List.replicate n v') := by
  refine ⟨by simp, fun i u u' h1 h2 => ?_⟩
  simp only [List.getElem?_replicate] at h1 h2
  split at h1
  · rw [if_pos ‹_›] at h2; cases h1; cases h2; exact h
  · cases h1
theorem VRs.take {φ : Fi} {a a' : List Value} (h : VRs φ a a') (n : Nat) : VRs φ (a.take n) (a'.take n) := by
  refine ⟨by simp [h.1], fun i u u' h1 h2 => ?_⟩
  rw [List.getElem?_take] at h1 h2
  split at h1
  · rw [if_pos ‹_›] at h2; exact h.2 i u u' h1 h2
  · cases h1
theorem VRs.drop {φ : Fi} {a a' : List Value} (h : VRs φ a a') (n : Nat) : VRs φ (a.drop n) (a'.drop n) := by
  refine ⟨by simp [h.1], fun i u u' h1 h2 => ?_⟩
  rw [List.getElem?_drop] at h1 h2
  exact h.2 _ u u' h1 h2
theorem VRs.flat_self {φ : Fi} {a : List Value} (h : a.all flat1 = true) : VRs φ a a := by
  refine ⟨rfl, fun i u u' h1 h2 => ?_⟩
  have e := h1.symm.trans h2
  cases e
  exact .scal _ (List.all_eq_true.1 h _ (List.mem_of_getElem? h1))
theorem VRs.of_flat {φ : Fi} {a b : List Value} (h : VRs φ a b) (hf : a.all flat1 = true) : b = a := by
  apply List.ext_getElem? 
  intro i
  cases hi : a[i]? with
  | none =>
    have h1 : a.length ≤ i := by simpa using hi
    have h2 : b.length ≤ i := h.1 ▸ h1
    simp [h2]
  | some v =>
    obtain ⟨v', h1, h2⟩ := h.get hi
    rw [h1, h2.of_flat1 (List.all_eq_true.1 hf _ (List.mem_of_getElem? hi))]
theorem VRs.map_ev {φ : Fi} {α : Type} {f g : α → Value} (l : List α) (h : ∀ x ∈ l, VR φ (f x) (g x)) : VRs φ (l.map f) (l.map g) := by
  induction l with
  | nil => exact .nil
  | cons x l ih => exact .cons (h x (by simp)) (ih fun y hy => h y (by simp [hy]))
theorem VR.agg_of {φ : Fi} {a a' : List Value} (h : VRs φ a a') : VR φ (.agg a.toArray) (.agg a'.toArray) :=
  .agg _ _ (by simpa using h.1) fun i h1 h2 => h.2 i _ _ (by simp at h1; simp [h1]) (by simp at h2; simp [h2])
theorem VR.agg_inv {φ : Fi} {cs : Array Value} {v : Value} (h : VR φ (.agg cs) v) : ∃ cs', v = .agg cs' ∧ VRs φ cs.toList cs'.toList := by
  cases h with
  | scal _ h => cases h
  | agg _ cs' hs hc =>
    refine ⟨cs', rfl, by simpa using hs, fun i u u' h1 h2 => ?_⟩
    have i1 : i < cs.size := by simpa using (List.getElem?_eq_some_iff.1 h1).1
    have i2 : i < cs'.size := by simpa using (List.getElem?_eq_some_iff.1 h2).1
    have e1 : cs[i] = u := by simpa [i1] using h1
    have e2 : cs'[i] = u' := by simpa [i2] using h2
    exact e1 ▸ e2 ▸ hc i i1 i2
theorem VR.cellsL {φ : Fi} {v v' : Value} (h : VR φ v v') (h1 : v.cells.toList.all Value.oneCell' = true) : VRs φ v.cells.toList v'.cells.toList := by
  obtain ⟨hs, hc⟩ := h.cells h1
  refine ⟨by simpa using hs, fun i u u' h1 h2 => ?_⟩
  have i1 : i < v.cells.size := by simpa using (List.getElem?_eq_some_iff.1 h1).1
  have i2 : i < v'.cells.size := by simpa using (List.getElem?_eq_some_iff.1 h2).1
  have e1 : v.cells[i] = u := by simpa [i1] using h1
  have e2 : v'.cells[i] = u' := by simpa [i2] using h2
  exact e1 ▸ e2 ▸ hc i i1 i2
theorem VRs.one {φ : Fi} {a a' : List Value} (h : VRs φ a a') (h1 : a.all Value.oneCell' = true) : ∀ v ∈ a', v.oneCell' = true := by
  intro v hv
  obtain ⟨i, hi⟩ := List.getElem?_of_mem hv
  have hl : i < a.length := h.1 ▸ (List.getElem?_eq_some_iff.1 hi).1
  exact (h.2 i a[i] v (by simp [hl]) hi).oneCell (List.all_eq_true.1 h1 _ (by simp))

/-- The slots of a frame. -/
def RR (φ : Fi) (r : List Value) (t : Array Value) : Prop := VRs φ r t.toList

theorem RR.getD {φ : Fi} {r : List Value} {t : Array Value} (h : RR φ r t) (i : Nat) : VR φ (r.getD i undef) (t.getD i undef) := by
  by_cases hi : i < r.length
  · obtain ⟨v', h1, h2⟩ := h.get (i := i) (v := r[i]) (by simp [hi])
    have e : t.getD i undef = v' := by simp only [Array.getElem?_toList] at h1; simp [h1]
    rw [e]
    simpa [hi] using h2
  · have e : r.getD i undef = undef := by simp [hi]
    rw [e]
    exact .undef _

theorem RR.ev {φ : Fi} {r : List Value} {a : Act} (h : RR φ r a.tmps) (x : Operand) : VR φ (ev r x) (a.eval x) := by
  cases x with
  | tmp t => exact h.getD t
  | const v =>
    show VR φ (cond (flat v) v undef) v
    cases hf : flat v
    · exact .undef _
    · exact VR.flat_self hf
  | global g => exact .undef _
  | func f => exact .func _ _ _ _ _ rfl rfl (fun i h1 => by simp at h1) (fun i h1 => by simp at h1)

theorem RR.put {φ : Fi} {r : List Value} {a : Act} (h : RR φ r a.tmps) (dst : Option Tmp) {v v' : Value} (hv : VR φ v v') : RR φ (put r dst v) (a.put dst v').tmps := by
  cases dst with
  | none => exact h
  | some d =>
    refine ⟨by simp [Ev.put, Act.put, h.1], fun i u u' h1 h2 => ?_⟩
    simp only [Ev.put, Act.put, Array.toList_setIfInBounds, List.getElem?_set] at h1 h2
    by_cases hd : d = i
    · rw [if_pos hd] at h1 h2
      split at h1
      · split at h2
        · cases h1; cases h2; exact hv
        · cases h2
      · cases h1
    · rw [if_neg hd] at h1 h2
      exact h.2 i u u' h1 h2

theorem RR.mono {φ φ' : Fi} (he : Ext φ φ') {r : List Value} {t : Array Value} (h : RR φ r t) : RR φ' r t := VRs.mono he h

/-- No cell is frozen. -/
def Thaw (f : Nat × Nat) (n : Nat) : Prop := f.1 = f.2 ∨ n ≤ f.1

/-- A block of abstract memory and the block of the world for which it stands. -/
def At (φ : Fi) (k : Blk) (l : Loc) (free : Prop) (w : World) : Prop :=
  ∃ arr f, w.heap[l.blk]? = some (.cells arr k.elem f) ∧ (free → Thaw f arr.size) ∧ arr.size = l.room ∧ l.off + k.cells.length ≤ l.room ∧
    ∀ j v, k.cells[j]? = some v → ∃ v', arr[l.off + j]? = some v' ∧ VR φ v v'

structure Rel (φ : Fi) (M : Mem) (wall : Nat) (w : World) : Prop where
  dom : ∀ b l, φ b = some l → b < M.length
  at_ : ∀ b l k, φ b = some l → M[b]? = some k → k.live = true → At φ k l (wall ≤ b) w
  sep : ∀ b b' l l' k k', φ b = some l → φ b' = some l' → M[b]? = some k → M[b']? = some k' → k.live = true → k'.live = true → wall ≤ b → b ≠ b' → l.blk ≠ l'.blk

/-- What a step leaves. -/
structure Post (φ φ' : Fi) (M M' : Mem) (wall : Nat) (w w' : World) : Prop where
  ext : Ext φ φ'
  new : ∀ b l, φ' b = some l → φ b = some l ∨ (M.length ≤ b ∧ b < M'.length ∧ (w.heap.size ≤ l.blk ∨
    ∃ b0 l0 k0, wall ≤ b0 ∧ φ b0 = some l0 ∧ M[b0]? = some k0 ∧ k0.live = true ∧ l0.blk = l.blk))
  rel : Rel φ' M' wall w'
  len : M.length ≤ M'.length
  dead : ∀ (b : Nat) (k k' : Blk), M[b]? = some k → M'[b]? = some k' → k'.live = true → k.live = true
  size : w.heap.size ≤ w'.heap.size
  frame : ∀ c, c < w.heap.size → (∀ b l k, wall ≤ b → φ b = some l → M[b]? = some k → k.live = true → l.blk ≠ c) → w'.heap[c]? = w.heap[c]?
  os : w'.os = w.os
  tape : w'.tape = w.tape
  output : w'.output = w.output

theorem Post.refl {φ : Fi} {M : Mem} {wall : Nat} {w : World} (h : Rel φ M wall w) : Post φ φ M M wall w w :=
  ⟨.refl _, fun b l e => .inl e, h, Nat.le_refl _, fun b k k' h1 h2 h3 => by rw [h1] at h2; cases h2; exact h3, Nat.le_refl _, fun _ _ _ => rfl, rfl, rfl, rfl⟩

theorem lt_of_getElem? {α : Type} {l : List α} {i : Nat} {x : α} (h : l[i]? = some x) : i < l.length := (List.getElem?_eq_some_iff.1 h).1

theorem Post.trans {φ φ1 φ2 : Fi} {M M1 M2 : Mem} {wall : Nat} {w w1 w2 : World} (hr : Rel φ M wall w) (h : Post φ φ1 M M1 wall w w1) (h' : Post φ1 φ2 M1 M2 wall w1 w2) :
    Post φ φ2 M M2 wall w w2 := by
  -- what is live in M1 and told by φ1 is told by φ and live in M, or new
  have old : ∀ b l k, φ1 b = some l → M1[b]? = some k → k.live = true → (∃ k0, φ b = some l ∧ M[b]? = some k0 ∧ k0.live = true) ∨ (M.length ≤ b ∧ (w.heap.size ≤ l.blk ∨
      ∃ b0 l0 k0, wall ≤ b0 ∧ φ b0 = some l0 ∧ M[b0]? = some k0 ∧ k0.live = true ∧ l0.blk = l.blk)) := by
    intro b l k hb hk hl
    rcases h.new b l hb with e | ⟨h1, _, h3⟩
    · have hlt := hr.dom b l e
      have e0 : M[b]? = some M[b] := by simp [hlt]
      exact .inl ⟨M[b], e, e0, h.dead b _ k e0 hk hl⟩
    · exact .inr ⟨h1, h3⟩
  refine ⟨h.ext.trans h'.ext, ?_, h'.rel, Nat.le_trans h.len h'.len, ?_, Nat.le_trans h.size h'.size, ?_, h'.os.trans h.os, h'.tape.trans h.tape, h'.output.trans h.output⟩
  · intro b l e
    rcases h'.new b l e with e1 | ⟨h1, h2, h3⟩
    · rcases h.new b l e1 with e0 | ⟨g1, g2, g3⟩
      · exact .inl e0
      · exact .inr ⟨g1, Nat.lt_of_lt_of_le g2 h'.len, g3⟩
    · refine .inr ⟨Nat.le_trans h.len h1, h2, ?_⟩
      rcases h3 with h3 | ⟨b0, l0, k0, hw, hb, hk, hl, he⟩
      · exact .inl (Nat.le_trans h.size h3)
      · rcases old b0 l0 k0 hb hk hl with ⟨k, e0, ek, el⟩ | ⟨_, hn⟩
        · exact .inr ⟨b0, l0, k, hw, e0, ek, el, he⟩
        · rcases hn with hn | ⟨b1, l1, k1, a, b', c, d, e'⟩
          · exact .inl (he ▸ hn)
          · exact .inr ⟨b1, l1, k1, a, b', c, d, e'.trans he⟩
  · intro b k k2 hk hk2 hl
    have hlt : b < M1.length := Nat.lt_of_lt_of_le (lt_of_getElem? hk) h.len
    have e1 : M1[b]? = some M1[b] := by simp [hlt]
    exact h.dead b k _ hk e1 (h'.dead b _ k2 e1 hk2 hl)
  · intro c hc hno
    rw [h'.frame c (Nat.lt_of_lt_of_le hc h.size) ?_, h.frame c hc hno]
    intro b l k hw hb hk hl
    rcases old b l k hb hk hl with ⟨k0, e0, ek, el⟩ | ⟨_, hn⟩
    · exact hno b l k0 hw e0 ek el
    · rcases hn with hn | ⟨b1, l1, k1, a, b', c', d, e'⟩
      · omega
      · exact e' ▸ hno b1 l1 k1 a b' c' d

theorem Rel.weaken {φ : Fi} {M : Mem} {wall wall' : Nat} {w : World} (h : Rel φ M wall w) (hw : wall ≤ wall') : Rel φ M wall' w :=
  ⟨h.dom, fun b l k h1 h2 h3 => let ⟨arr, f, a, b', c⟩ := h.at_ b l k h1 h2 h3; ⟨arr, f, a, fun hb => b' (Nat.le_trans hw hb), c⟩,
   fun b b' l l' k k' h1 h2 h3 h4 h5 h6 h7 h8 => h.sep b b' l l' k k' h1 h2 h3 h4 h5 h6 (Nat.le_trans hw h7) h8⟩

/-- What stood behind a higher wall stands behind a lower one, too. -/
theorem Post.lower {φ φ' : Fi} {M M' : Mem} {wall wall' : Nat} {w w' : World} (hr : Rel φ M wall w) (hw : wall ≤ wall') (hle : wall' ≤ M.length)
    (hkeep : ∀ b, b < wall' → M'[b]? = M[b]?) (h : Post φ φ' M M' wall' w w') : Post φ φ' M M' wall w w' := by
  refine ⟨h.ext, fun b l e => (h.new b l e).imp id fun ⟨a, b', c⟩ => ⟨a, b', c.imp id fun ⟨b0, l0, k0, x, y⟩ => ⟨b0, l0, k0, Nat.le_trans hw x, y⟩⟩, ?_, h.len, h.dead, h.size,
    fun c hc hno => h.frame c hc fun b l k h1 => hno b l k (Nat.le_trans hw h1), h.os, h.tape, h.output⟩
  have loc : ∀ b l, φ' b = some l → b < wall' → φ b = some l := by
    intro b l e hb
    rcases h.new b l e with e | ⟨a, _⟩
    · exact e
    · omega
  refine ⟨h.rel.dom, ?_, ?_⟩
  · intro b l k e hk hl
    obtain ⟨arr, f, a1, a2, a3⟩ := h.rel.at_ b l k e hk hl
    refine ⟨arr, f, a1, fun hb => ?_, a3⟩
    by_cases hb' : wall' ≤ b
    · exact a2 hb'
    · have hb2 : b < wall' := by omega
      have e0 := loc b l e hb2
      rw [hkeep b hb2] at hk
      obtain ⟨arr0, f0, c1, c2, c3⟩ := hr.at_ b l k e0 hk hl
      -- the block has not turned
      have hsz : l.blk < w.heap.size := (Array.getElem?_eq_some_iff.1 c1).1
      have hfr : w'.heap[l.blk]? = w.heap[l.blk]? := h.frame _ hsz fun b1 l1 k1 g1 g2 g3 g4 g5 =>
        hr.sep b1 b l1 l k1 k g2 e0 g3 hk g4 hl (Nat.le_trans hw g1) (by omega) g5
      rw [hfr, c1] at a1
      cases a1
      exact c2 hb
  · intro b b' l l' k k' e e' hk hk' hl hl' hb hne
    by_cases hb1 : wall' ≤ b
    · exact h.rel.sep b b' l l' k k' e e' hk hk' hl hl' hb1 hne
    · by_cases hb2 : wall' ≤ b'
      · exact fun q => h.rel.sep b' b l' l k' k e' e hk' hk hl' hl hb2 (fun x => hne x.symm) q.symm
      · rw [hkeep b (by omega)] at hk
        rw [hkeep b' (by omega)] at hk'
        exact hr.sep b b' l l' k k' (loc b l e (by omega)) (loc b' l' e' (by omega)) hk hk' hl hl' hb hne

end Go.Ev
