/-
  Abstract memory and the world: what a new block, a store, a load leave.
-/
import Derived.Test.YteeclgeoconekaaEvPure
namespace Go.Ev
variable {P : Program} {E : TypeId → Option (List CK)} {φ : Fi}

def upd (φ : Fi) (b : Nat) (l : Loc) : Fi := fun c => if c = b then some l else φ c

theorem upd_same (φ : Fi) (b : Nat) (l : Loc) : upd φ b l b = some l := by simp [upd]
theorem upd_ext {φ : Fi} {b : Nat} {l : Loc} (h : φ b = none) : Ext φ (upd φ b l) := by
  intro c l' e
  unfold upd
  split
  · subst_vars; rw [h] at e; cases e
  · exact e

theorem Rel.none_at {M : Mem} {wall : Nat} {w : World} (h : Rel φ M wall w) : φ M.length = none := by
  cases e : φ M.length with
  | none => rfl
  | some l => exact absurd (h.dom _ l e) (Nat.lt_irrefl _)

/-- A new block. -/
theorem post_alloc {M : Mem} {wall : Nat} {w w' : World} (hr : Rel φ M wall w) {cells : List Value} {arr : Array Value} {e : TypeId} {f : Nat × Nat}
    (hheap : w'.heap = w.heap.push (.cells arr e f)) (hos : w'.os = w.os) (htape : w'.tape = w.tape) (hout : w'.output = w.output) (hf : Thaw f arr.size)
    (hc : ∀ (j : Nat) (v : Value), cells[j]? = some v → ∃ v', arr[j]? = some v' ∧ VR φ v v') (hlen : cells.length ≤ arr.size) :
    Post φ (upd φ M.length ⟨w.heap.size, 0, arr.size⟩) M (M ++ [⟨cells, e, true⟩]) wall w w' := by
  have hn := hr.none_at
  have hext : Ext φ (upd φ M.length ⟨w.heap.size, 0, arr.size⟩) := upd_ext hn
  have hold : ∀ c, c < w.heap.size → w'.heap[c]? = w.heap[c]? := by
    intro c hlt
    rw [hheap, Array.getElem?_push, if_neg (by omega)]
  have hnew : w'.heap[w.heap.size]? = some (.cells arr e f) := by rw [hheap]; simp
  have hcases : ∀ b l, upd φ M.length ⟨w.heap.size, 0, arr.size⟩ b = some l → (b = M.length ∧ l = ⟨w.heap.size, 0, arr.size⟩) ∨ (φ b = some l ∧ b < M.length) := by
    intro b l hb
    unfold upd at hb
    split at hb
    · exact .inl ⟨‹_›, (Option.some.inj hb).symm⟩
    · exact .inr ⟨hb, hr.dom _ _ hb⟩
  have hgetold : ∀ (b : Nat) (k : Blk), b < M.length → (M ++ [⟨cells, e, true⟩])[b]? = some k → M[b]? = some k := by
    intro b k hb hk
    rwa [List.getElem?_append_left hb] at hk
  have hgetnew : ∀ (k : Blk), (M ++ [(⟨cells, e, true⟩ : Blk)])[M.length]? = some k → k = ⟨cells, e, true⟩ := by
    intro k hk
    simp at hk
    exact hk.symm
  have hlocold : ∀ b l k, φ b = some l → M[b]? = some k → k.live = true → l.blk < w.heap.size := by
    intro b l k h1 h2 h3
    obtain ⟨arr0, f0, c1, _⟩ := hr.at_ b l k h1 h2 h3
    exact (Array.getElem?_eq_some_iff.1 c1).1
  refine ⟨hext, ?_, ⟨?_, ?_, ?_⟩, by simp, ?_, by rw [hheap]; simp, fun c hlt _ => hold c hlt, hos, htape, hout⟩
  · intro b l hb
    rcases hcases b l hb with ⟨rfl, rfl⟩ | ⟨h1, _⟩
    · exact .inr ⟨Nat.le_refl _, by simp, .inl (Nat.le_refl _)⟩
    · exact .inl h1
  · intro b l hb
    rcases hcases b l hb with ⟨rfl, _⟩ | ⟨_, h2⟩ <;> simp <;> omega
  · intro b l k hb hk hl
    rcases hcases b l hb with ⟨rfl, rfl⟩ | ⟨h1, h2⟩
    · obtain rfl := hgetnew k hk
      exact ⟨arr, f, hnew, fun _ => hf, rfl, by simpa using hlen, fun j v hv => by
        obtain ⟨v', e1, e2⟩ := hc j v hv
        exact ⟨v', by simpa using e1, e2.mono hext⟩⟩
    · obtain ⟨arr0, f0, c1, c2, c3, c4, c5⟩ := hr.at_ b l k h1 (hgetold b k h2 hk) hl
      exact ⟨arr0, f0, by rw [hold _ (Array.getElem?_eq_some_iff.1 c1).1]; exact c1, c2, c3, c4, fun j v hv => by
        obtain ⟨v', e1, e2⟩ := c5 j v hv
        exact ⟨v', e1, e2.mono hext⟩⟩
  · intro b b' l l' k k' hb hb' hk hk' hl hl' hw hne
    rcases hcases b l hb with ⟨rfl, rfl⟩ | ⟨h1, h2⟩
    · rcases hcases b' l' hb' with ⟨rfl, _⟩ | ⟨h1', h2'⟩
      · exact absurd rfl hne
      · exact (Nat.ne_of_lt (hlocold b' l' k' h1' (hgetold b' k' h2' hk') hl')).symm
    · rcases hcases b' l' hb' with ⟨rfl, rfl⟩ | ⟨h1', h2'⟩
      · exact Nat.ne_of_lt (hlocold b l k h1 (hgetold b k h2 hk) hl)
      · exact hr.sep b b' l l' k k' h1 h1' (hgetold b k h2 hk) (hgetold b' k' h2' hk') hl hl' hw hne
  · intro b k k' hk hk' hl
    rw [List.getElem?_append_left (lt_of_getElem? hk)] at hk'
    rw [hk] at hk'
    cases hk'
    exact hl

/-- A store into a block. -/
theorem post_store {M : Mem} {wall : Nat} {w w' : World} (hr : Rel φ M wall w) {b : Nat} {l : Loc} {k : Blk} {cs : List Value} {arr arr' : Array Value} {f f' : Nat × Nat}
    (hb : φ b = some l) (hk : M[b]? = some k) (hl : k.live = true) (hw : wall ≤ b) (hat : w.heap[l.blk]? = some (.cells arr k.elem f)) (hsz : arr'.size = arr.size)
    (hcs : cs.length = k.cells.length) (hc : ∀ (j : Nat) (v : Value), cs[j]? = some v → ∃ v', arr'[l.off + j]? = some v' ∧ VR φ v v')
    (hnew : w'.heap[l.blk]? = some (.cells arr' k.elem f')) (hf : Thaw f arr.size → Thaw f' arr'.size) (hold : ∀ c, c ≠ l.blk → w'.heap[c]? = w.heap[c]?) (hsize : w'.heap.size = w.heap.size)
    (hos : w'.os = w.os) (htape : w'.tape = w.tape) (hout : w'.output = w.output) :
    Post φ φ M (M.set b { k with cells := cs }) wall w w' := by
  have hblt : b < M.length := lt_of_getElem? hk
  have hget : ∀ (c : Nat) (q : Blk), (M.set b { k with cells := cs })[c]? = some q → (c = b ∧ q = { k with cells := cs }) ∨ (c ≠ b ∧ M[c]? = some q) := by
    intro c q hq
    rw [List.getElem?_set] at hq
    by_cases hcb : b = c
    · rw [if_pos hcb, if_pos hblt] at hq
      exact .inl ⟨hcb.symm, (Option.some.inj hq).symm⟩
    · rw [if_neg hcb] at hq
      exact .inr ⟨fun x => hcb x.symm, hq⟩
  have hlive : ∀ (c : Nat) (q : Blk), (M.set b { k with cells := cs })[c]? = some q → q.live = true → ∃ q0, M[c]? = some q0 ∧ q0.live = true := by
    intro c q hq hlq
    rcases hget c q hq with ⟨rfl, rfl⟩ | ⟨_, h2⟩
    · exact ⟨k, hk, hl⟩
    · exact ⟨q, h2, hlq⟩
  obtain ⟨arr0, f0, c1, c2, c3, c4, c5⟩ := hr.at_ b l k hb hk hl
  rw [hat] at c1
  cases c1
  refine ⟨.refl _, fun b l e => .inl e, ⟨?_, ?_, ?_⟩, by simp, ?_, by omega, ?_, hos, htape, hout⟩
  · intro c l' e
    simpa using hr.dom c l' e
  · intro c l' q hc' hq hlq
    rcases hget c q hq with ⟨rfl, rfl⟩ | ⟨hne, h2⟩
    · rw [hb] at hc'
      cases hc'
      exact ⟨arr', f', hnew, fun h => hf (c2 h), by rw [hsz]; exact c3, by simpa [hcs] using c4, hc⟩
    · obtain ⟨arr1, f1, d1, d2, d3, d4, d5⟩ := hr.at_ c l' q hc' h2 hlq
      have hne' : l'.blk ≠ l.blk := fun x => hr.sep b c l l' k q hb hc' hk h2 hl hlq hw (fun y => hne y.symm) x.symm
      exact ⟨arr1, f1, by rw [hold _ hne']; exact d1, d2, d3, d4, d5⟩
  · intro c c' l1 l2 q q' h1 h2 hq hq' hlq hlq' hw' hne
    obtain ⟨q0, e1, e2⟩ := hlive c q hq hlq
    obtain ⟨q0', e1', e2'⟩ := hlive c' q' hq' hlq'
    exact hr.sep c c' l1 l2 q0 q0' h1 h2 e1 e1' e2 e2' hw' hne
  · intro c q q' hq hq' hlq'
    rcases hget c q' hq' with ⟨rfl, rfl⟩ | ⟨_, h2⟩
    · rw [hk] at hq; cases hq; exact hl
    · rw [hq] at h2; cases h2; exact hlq'
  · intro c _ hno
    exact hold c fun x => hno b l k hw hb hk hl x.symm

/-- A block that dies, another that takes its place: at the same cells, or at new ones. -/
theorem post_move {M : Mem} {wall : Nat} {w w' : World} (hr : Rel φ M wall w) {b : Nat} {l l2 : Loc} {k : Blk} {cs : List Value} {arr : Array Value} {e : TypeId} {f : Nat × Nat}
    (hb : φ b = some l) (hk : M[b]? = some k) (hl : k.live = true) (hw : wall ≤ b)
    (hl2 : l2.blk = l.blk ∨ w.heap.size ≤ l2.blk) (hat : w'.heap[l2.blk]? = some (.cells arr e f)) (hf : Thaw f arr.size) (hroom : arr.size = l2.room) (hfit : l2.off + cs.length ≤ l2.room)
    (hc : ∀ (j : Nat) (v : Value), cs[j]? = some v → ∃ v', arr[l2.off + j]? = some v' ∧ VR φ v v')
    (hold : ∀ c, c ≠ l.blk → c < w.heap.size → w'.heap[c]? = w.heap[c]?) (hsize : w.heap.size ≤ w'.heap.size)
    (hos : w'.os = w.os) (htape : w'.tape = w.tape) (hout : w'.output = w.output) :
    Post φ (upd φ M.length l2) M (M.kill b ++ [⟨cs, e, true⟩]) wall w w' := by
  have hblt : b < M.length := lt_of_getElem? hk
  have hkl : (M.kill b).length = M.length := by simp [Mem.kill]
  have hn := hr.none_at
  have hext : Ext φ (upd φ M.length l2) := upd_ext hn
  have hget : ∀ (c : Nat) (q : Blk), (M.kill b ++ [⟨cs, e, true⟩])[c]? = some q → q.live = true → (c = M.length ∧ q = ⟨cs, e, true⟩) ∨ (c ≠ b ∧ c < M.length ∧ M[c]? = some q) := by
    intro c q hq hlq
    by_cases hc1 : c < M.length
    · rw [List.getElem?_append_left (by omega)] at hq
      simp only [Mem.kill, List.getElem?_set] at hq
      by_cases hcb : b = c
      · rw [if_pos hcb, if_pos hblt] at hq
        cases hq
        cases hlq
      · rw [if_neg hcb] at hq
        exact .inr ⟨fun x => hcb x.symm, hc1, hq⟩
    · rw [List.getElem?_append_right (by omega)] at hq
      have hz : c - (M.kill b).length = 0 := by
        have := lt_of_getElem? hq
        simp at this
        omega
      rw [hz] at hq
      exact .inl ⟨by omega, by simpa using hq.symm⟩
  have hcases : ∀ c l', upd φ M.length l2 c = some l' → (c = M.length ∧ l' = l2) ∨ (φ c = some l' ∧ c < M.length) := by
    intro c l' h
    unfold upd at h
    split at h
    · exact .inl ⟨‹_›, (Option.some.inj h).symm⟩
    · exact .inr ⟨h, hr.dom _ _ h⟩
  have hloc : ∀ c l' q, φ c = some l' → M[c]? = some q → q.live = true → c ≠ b → l'.blk ≠ l.blk ∧ l'.blk < w.heap.size := by
    intro c l' q h1 h2 h3 h4
    obtain ⟨arr0, f0, c1, _⟩ := hr.at_ c l' q h1 h2 h3
    exact ⟨fun x => hr.sep b c l l' k q hb h1 hk h2 hl h3 hw (fun y => h4 y.symm) x.symm, (Array.getElem?_eq_some_iff.1 c1).1⟩
  refine ⟨hext, ?_, ⟨?_, ?_, ?_⟩, by simp [hkl], ?_, hsize, ?_, hos, htape, hout⟩
  · intro c l' h
    rcases hcases c l' h with ⟨rfl, rfl⟩ | ⟨h1, _⟩
    · refine .inr ⟨Nat.le_refl _, by simp [hkl], ?_⟩
      rcases hl2 with h2 | h2
      · exact .inr ⟨b, l, k, hw, hb, hk, hl, h2.symm⟩
      · exact .inl h2
    · exact .inl h1
  · intro c l' h
    rcases hcases c l' h with ⟨rfl, _⟩ | ⟨_, h2⟩ <;> simp [hkl] <;> omega
  · intro c l' q h hq hlq
    rcases hcases c l' h with ⟨rfl, rfl⟩ | ⟨h1, h2⟩
    · rcases hget _ q hq hlq with ⟨_, rfl⟩ | ⟨_, h3, _⟩
      · exact ⟨arr, f, hat, fun _ => hf, hroom, hfit, fun j v hv => by
          obtain ⟨v', e1, e2⟩ := hc j v hv
          exact ⟨v', e1, e2.mono hext⟩⟩
      · omega
    · rcases hget c q hq hlq with ⟨rfl, _⟩ | ⟨h3, _, h4⟩
      · omega
      · obtain ⟨arr1, f1, d1, d2, d3, d4, d5⟩ := hr.at_ c l' q h1 h4 hlq
        obtain ⟨g1, g2⟩ := hloc c l' q h1 h4 hlq h3
        exact ⟨arr1, f1, by rw [hold _ g1 g2]; exact d1, d2, d3, d4, fun j v hv => by
          obtain ⟨v', e1, e2⟩ := d5 j v hv
          exact ⟨v', e1, e2.mono hext⟩⟩
  · intro c c' l1 l1' q q' h h' hq hq' hlq hlq' hw' hne
    rcases hcases c l1 h with ⟨rfl, rfl⟩ | ⟨h1, h2⟩
    · rcases hcases c' l1' h' with ⟨rfl, _⟩ | ⟨h1', h2'⟩
      · exact absurd rfl hne
      · rcases hget c' q' hq' hlq' with ⟨rfl, _⟩ | ⟨h3, _, h4⟩
        · omega
        · obtain ⟨g1, g2⟩ := hloc c' l1' q' h1' h4 hlq' h3
          rcases hl2 with x | x
          · rw [x]; exact fun y => g1 y.symm
          · omega
    · rcases hget c q hq hlq with ⟨rfl, _⟩ | ⟨h3, _, h4⟩
      · omega
      · obtain ⟨g1, g2⟩ := hloc c l1 q h1 h4 hlq h3
        rcases hcases c' l1' h' with ⟨rfl, rfl⟩ | ⟨h1', h2'⟩
        · rcases hl2 with x | x
          · rw [x]; exact g1
          · omega
        · rcases hget c' q' hq' hlq' with ⟨rfl, _⟩ | ⟨_, _, h4'⟩
          · omega
          · exact hr.sep c c' l1 l1' q q' h1 h1' h4 h4' hlq hlq' hw' hne
  · intro c q q' hq hq' hlq'
    rcases hget c q' hq' hlq' with ⟨rfl, _⟩ | ⟨_, _, h4⟩
    · have := lt_of_getElem? hq
      omega
    · rw [hq] at h4; cases h4; exact hlq'
  · intro c hlt hno
    exact hold c (fun x => hno b l k hw hb hk hl x.symm) hlt

/-- A draw of the tape, a mark: nothing turns. -/
theorem Post.same {M : Mem} {wall : Nat} {w w' : World} (hr : Rel φ M wall w) (hheap : w'.heap = w.heap) (hos : w'.os = w.os) (htape : w'.tape = w.tape) (hout : w'.output = w.output) : Post φ φ M M wall w w' := by
  refine ⟨.refl _, fun b l e => .inl e, ⟨hr.dom, ?_, hr.sep⟩, Nat.le_refl _, fun b k k' h1 h2 h3 => by rw [h1] at h2; cases h2; exact h3, by rw [hheap]; exact Nat.le_refl _, fun c _ _ => by rw [hheap], hos, htape, hout⟩
  intro b l k h1 h2 h3
  obtain ⟨arr, f, c1, c2⟩ := hr.at_ b l k h1 h2 h3
  exact ⟨arr, f, by rw [hheap]; exact c1, c2⟩

theorem Mem.cell_some {M : Mem} {b o : Nat} {v : Value} (h : M.cell b o = some v) : ∃ k, M[b]? = some k ∧ k.live = true ∧ k.cells[o]? = some v := by
  unfold Mem.cell at h
  split at h
  · rename_i k hk
    cases hl : k.live
    · rw [hl] at h; cases h
    · rw [hl] at h; exact ⟨k, hk, hl, h⟩
  · cases h

theorem Mem.row_some {M : Mem} {b o n : Nat} {cs : List Value} (h : M.row b o n = some cs) : ∃ k, M[b]? = some k ∧ k.live = true ∧ o + n ≤ k.cells.length ∧ cs = (k.cells.drop o).take n := by
  unfold Mem.row at h
  split at h
  · rename_i k hk
    cases hl : (k.live && Nat.ble (o + n) k.cells.length)
    · rw [hl] at h; cases h
    · rw [hl] at h
      simp only [Bool.and_eq_true, Nat.ble_eq] at hl
      cases h
      exact ⟨k, hk, hl.1, hl.2, rfl⟩
  · cases h

theorem Mem.put1_some {M M' : Mem} {b o : Nat} {v : Value} (h : M.put1 b o v = some M') : ∃ k, M[b]? = some k ∧ k.live = true ∧ o < k.cells.length ∧ v.oneCell' = true ∧ M' = M.set b { k with cells := k.cells.set o v } := by
  unfold Mem.put1 at h
  split at h
  · rename_i k hk
    cases hl : (k.live && Nat.ble (o + 1) k.cells.length && v.oneCell')
    · rw [hl] at h; cases h
    · rw [hl] at h
      simp only [Bool.and_eq_true, Nat.ble_eq] at hl
      cases h
      exact ⟨k, hk, hl.1.1, hl.1.2, hl.2, rfl⟩
  · cases h

theorem Mem.put_some {M M' : Mem} {b o : Nat} {vs : List Value} (h : M.put b o vs = some M') : ∃ k, M[b]? = some k ∧ k.live = true ∧ o + vs.length ≤ k.cells.length ∧ vs.all Value.oneCell' = true ∧
    M' = M.set b { k with cells := k.cells.take o ++ (vs ++ k.cells.drop (o + vs.length)) } := by
  unfold Mem.put at h
  split at h
  · rename_i k hk
    cases hl : (k.live && Nat.ble (o + vs.length) k.cells.length && vs.all Value.oneCell')
    · rw [hl] at h; cases h
    · rw [hl] at h
      simp only [Bool.and_eq_true, Nat.ble_eq] at hl
      cases h
      exact ⟨k, hk, hl.1.1, hl.1.2, hl.2, rfl⟩
  · cases h

/-- A cell that is read. -/
theorem cell_run {M : Mem} {wall : Nat} {w : World} (hr : Rel φ M wall w) {b o : Nat} {l : Loc} {v : Value} (hb : φ b = some l) (h : M.cell b o = some v) :
    ∃ v', w.cell? ⟨l.blk, l.off + o, none⟩ = some v' ∧ VR φ v v' := by
  obtain ⟨k, hk, hl, hv⟩ := Mem.cell_some h
  obtain ⟨arr, f, c1, _, _, _, c5⟩ := hr.at_ b l k hb hk hl
  obtain ⟨v', e1, e2⟩ := c5 o v hv
  exact ⟨v', by simp [World.cell?, c1, e1], e2⟩

/-- Cells that are read. -/
theorem row_run {M : Mem} {wall : Nat} {w : World} (hr : Rel φ M wall w) {b o n : Nat} {l : Loc} {cs : List Value} (hb : φ b = some l) (h : M.row b o n = some cs) :
    ∃ cs', cs'.length = n ∧ cs.length = n ∧ VRs φ cs cs' ∧ (∀ (j : Nat) (u : Value), cs'[j]? = some u → w.cell? ((⟨l.blk, l.off + o, none⟩ : Addr).add j) = some u) ∧
      (loadCells ⟨l.blk, l.off + o, none⟩ n).run P w = .ok cs'.toArray w := by
  obtain ⟨k, hk, hl, hfit, rfl⟩ := Mem.row_some h
  obtain ⟨arr, f, c1, _, c3, c4, c5⟩ := hr.at_ b l k hb hk hl
  refine ⟨(arr.toList.drop (l.off + o)).take n, ?_, ?_, ⟨?_, ?_⟩, ?_, ?_⟩
  · simp; omega
  · simp; omega
  · simp; omega
  · intro i v v' h1 h2
    rw [List.getElem?_take] at h1 h2
    split at h1
    · rw [if_pos ‹_›] at h2
      rw [List.getElem?_drop] at h1 h2
      obtain ⟨u, e1, e2⟩ := c5 _ v h1
      rw [Array.getElem?_toList, show l.off + o + i = l.off + (o + i) by omega, e1] at h2
      cases h2
      exact e2
    · cases h1
  · intro j u hu
    rw [List.getElem?_take] at hu
    split at hu
    · rw [List.getElem?_drop, Array.getElem?_toList] at hu
      rw [addr_add]
      simp [World.cell?, c1, hu]
    · cases hu
  · have := run_loadCells_list (P := P) w ⟨l.blk, l.off + o, none⟩ ((arr.toList.drop (l.off + o)).take n) (fun j u hu => by
      rw [List.getElem?_take] at hu
      split at hu
      · rw [List.getElem?_drop, Array.getElem?_toList] at hu
        rw [addr_add]
        simp [World.cell?, c1, hu]
      · cases hu)
    have hl2 : ((arr.toList.drop (l.off + o)).take n).length = n := by simp; omega
    rw [hl2] at this
    exact this

/-- Cells that are written, one behind the other. -/
theorem run_storeCells_thaw (g o : Nat) (t : TypeId) (f : Nat × Nat) : ∀ (vs : List Value) (i : Nat) (cur : Array Value) (w : World), w.heap[g]? = some (.cells cur t f) → Thaw f cur.size → o + i + vs.length ≤ cur.size →
    (∀ v ∈ vs, v.oneCell' = true) →
    (storeCells ⟨g, o, none⟩ vs i).run P w = .ok () (w.setRow g (cur.toList.take (o + i) ++ vs ++ cur.toList.drop (o + i + vs.length)).toArray)
  | [], i, cur, w, hg, _, _, _ => by
    simp only [storeCells, List.append_nil, List.length_nil, Nat.add_zero, List.take_append_drop, Array.toArray_toList]
    rw [setRow_self w g cur t f hg]
    rfl
  | v :: rest, i, cur, w, hg, hf, hl, h1 => by
    have hi : o + i < cur.size := by simp at hl; omega
    have hadd : (⟨g, o, none⟩ : Addr).add i = ⟨g, o + i, none⟩ := addr_add g o i
    have hcell : w.cell? ⟨g, o + i, none⟩ = some cur[o + i] := by simp [World.cell?, hg, hi]
    have hfro : w.frozen? ⟨g, o + i, none⟩ = false := by
      simp only [World.frozen?, hg]
      rcases hf with e | e
      · rw [e]; simp
      · simp; omega
    have hst : (store ((⟨g, o, none⟩ : Addr).add i) v).run P w = .ok () (w.setRow g (cur.setIfInBounds (o + i) v)) := by
      rw [hadd, run_store P w _ v _ (h1 v (by simp)), hcell]
      simp [hfro, setCell_eq_setRow w g (o + i) cur t f v hg]
    have ih := run_storeCells_thaw g o t f rest (i + 1) (cur.setIfInBounds (o + i) v) (w.setRow g (cur.setIfInBounds (o + i) v)) (setRow_heap w g cur _ t _ hg) (by simpa using hf) (by simp at hl ⊢; omega) (fun x hx => h1 x (by simp [hx]))
    simp only [storeCells, Sem.run_bind, hst, Result.andThen_ok, ih, setRow_setRow]
    congr 3
    have e := list_seg_step cur.toList (o + i) v rest (by simp at hl ⊢; omega)
    simpa [Array.toList_setIfInBounds, Nat.add_assoc] using e

theorem getElem?_splice (l m : List Value) (o : Nat) (ho : o + m.length ≤ l.length) (j : Nat) :
    (l.take o ++ (m ++ l.drop (o + m.length)))[j]? = if j < o then l[j]? else if j < o + m.length then m[j - o]? else l[j]? := by
  by_cases h1 : j < o
  · rw [if_pos h1, List.getElem?_append_left (by simp; omega), List.getElem?_take, if_pos h1]
  · rw [if_neg h1, List.getElem?_append_right (by simp; omega)]
    have e1 : j - (l.take o).length = j - o := by simp; omega
    rw [e1]
    by_cases h2 : j < o + m.length
    · rw [if_pos h2, List.getElem?_append_left (by omega)]
    · rw [if_neg h2, List.getElem?_append_right (by omega), List.getElem?_drop]
      congr 1
      omega

/-- A row of cells written into a block. -/
theorem put_run {M M' : Mem} {wall : Nat} {w : World} (hr : Rel φ M wall w) {b o : Nat} {l : Loc} {vs vs' : List Value} (hb : φ b = some l) (hw : wall ≤ b) (h : M.put b o vs = some M') (hv : VRs φ vs vs') :
    ∃ w', (storeCells ⟨l.blk, l.off + o, none⟩ vs').run P w = .ok () w' ∧ Post φ φ M M' wall w w' := by
  obtain ⟨k, hk, hl, hfit, hone, rfl⟩ := Mem.put_some h
  obtain ⟨arr, f, c1, c2, c3, c4, c5⟩ := hr.at_ b l k hb hk hl
  have hlen : vs'.length = vs.length := hv.1.symm
  have hfit' : l.off + o + 0 + vs'.length ≤ arr.size := by omega
  have hrun := run_storeCells_thaw (P := P) l.blk (l.off + o) k.elem f vs' 0 arr w c1 (c2 hw) hfit' (hv.one hone)
  simp only [Nat.add_zero] at hrun
  refine ⟨_, hrun, ?_⟩
  refine post_store hr (arr := arr) (arr' := (arr.toList.take (l.off + o) ++ vs' ++ arr.toList.drop (l.off + o + vs'.length)).toArray) (f := f) (f' := f) hb hk hl hw c1 ?_ ?_ ?_ ?_ ?_ ?_ ?_ rfl rfl rfl
  · simp; omega
  · simp; omega
  · intro j v hj
    rw [getElem?_splice _ _ _ hfit] at hj
    rw [List.append_assoc, List.getElem?_toArray, getElem?_splice _ _ _ (by simp; omega)]
    by_cases h1 : j < o
    · rw [if_pos h1] at hj
      rw [if_pos (by omega)]
      obtain ⟨v', e1, e2⟩ := c5 j v hj
      exact ⟨v', by simpa using e1, e2⟩
    · rw [if_neg h1] at hj
      rw [if_neg (by omega)]
      by_cases h2 : j < o + vs.length
      · rw [if_pos h2] at hj
        rw [if_pos (by omega)]
        obtain ⟨v', e1, e2⟩ := hv.get hj
        exact ⟨v', by rw [← e1]; congr 1; omega, e2⟩
      · rw [if_neg h2] at hj
        rw [if_neg (by omega)]
        obtain ⟨v', e1, e2⟩ := c5 j v hj
        exact ⟨v', by simpa using e1, e2⟩
  · exact setRow_heap w l.blk arr _ k.elem f c1
  · intro h
    have e : (arr.toList.take (l.off + o) ++ vs' ++ arr.toList.drop (l.off + o + vs'.length)).toArray.size = arr.size := by simp; omega
    rw [e]; exact h
  · intro c hc
    exact setRow_other w l.blk c _ hc
  · simp

theorem put1_eq_put {M : Mem} {b o : Nat} {v : Value} : M.put1 b o v = M.put b o [v] := by
  unfold Mem.put1 Mem.put
  cases hk : M[b]? with
  | none => rfl
  | some k =>
    simp only [List.length_singleton, List.all_cons, List.all_nil, Bool.and_true]
    cases hb : (k.live && Nat.ble (o + 1) k.cells.length && v.oneCell')
    · rfl
    · simp only [Bool.and_eq_true, Nat.ble_eq] at hb
      simp only [cond_true, Option.some.injEq]
      congr 2
      apply List.ext_getElem?
      intro j
      have hs := getElem?_splice k.cells [v] o (by simp; omega) j
      simp only [List.length_singleton] at hs
      rw [hs, List.getElem?_set]
      by_cases h1 : j < o
      · rw [if_pos h1, if_neg (by omega)]
      · rw [if_neg h1]
        by_cases h2 : j < o + 1
        · have : o = j := by omega
          subst this
          rw [if_pos h2, if_pos rfl, if_pos (by omega)]
          simp
        · rw [if_neg h2, if_neg (by omega)]

end Go.Ev


/-
  The evaluator's operations on memory, held against the model's.
-/
namespace Go.Ev
variable {P : Program} {E : TypeId → Option (List CK)} {φ : Fi}

theorem Rel.heap {M : Mem} {wall : Nat} {w w' : World} (hr : Rel φ M wall w) (h : w'.heap = w.heap) : Rel φ M wall w' :=
  ⟨hr.dom, fun b l k h1 h2 h3 => let ⟨arr, f, c1, c2⟩ := hr.at_ b l k h1 h2 h3; ⟨arr, f, by rw [h]; exact c1, c2⟩, hr.sep⟩

theorem run_load_cell {a : Addr} {v : Value} {w : World} (h : w.cell? a = some v) : (load a).run P w = .ok v w := by simp [load, Sem.run, h]

theorem isInt_eq {k : IntKind} {v : Value} (h : isInt k v = true) : v = .int k (intOf v) := by
  cases v with
  | int k' n => cases k <;> cases k' <;> first | rfl | cases h
  | _ => cases h

theorem evLoadT_some {M : Mem} {t : TypeId} {x v : Value} (h : evLoadT P M t x = some v) : evLoad P M t x = some v := by
  unfold evLoadT at h
  split at h
  · rename_i k _
    cases hb : okInt k (evLoad P M t x)
    · rw [hb] at h; cases h
    · rw [hb] at h
      cases hl : evLoad P M t x with
      | none => rw [hl] at hb; cases hb
      | some u =>
        rw [hl] at hb h
        cases h
        exact congrArg some (isInt_eq hb)
  · exact h

theorem evLoad_sound {M : Mem} {wall : Nat} {w : World} (hr : Rel φ M wall w) {t : TypeId} {x x' v : Value} (h : evLoad P M t x = some v) (hx : VR φ x x') :
    ∃ v', (Instr.loadAt t x').run P w = .ok v' w ∧ VR φ v v' := by
  unfold evLoad at h
  split at h
  · obtain ⟨l, _, hl, rfl⟩ := hx.ptr_inv
    split at h
    · rename_i ht hi
      simp only [Option.bind_eq_some_iff, Option.some.injEq] at h
      obtain ⟨cs, hc, rfl⟩ := h
      obtain ⟨cs', h1, h2, h3, h4, h5⟩ := row_run (P := P) hr hl hc
      exact ⟨.agg cs'.toArray, by simp [Instr.loadAt, Instr.sureAddr, loadVar, tyAgg_run ht, run_sizeOf' hi, h5], VR.agg_of h3⟩
    · rename_i ht
      obtain ⟨v', e1, e2⟩ := cell_run hr hl h
      exact ⟨v', by simp [Instr.loadAt, Instr.sureAddr, loadVar, tyAgg_run ht, e1], e2⟩
    · cases h
  · cases h

theorem evStore_sound {M M' : Mem} {wall : Nat} {w : World} (hr : Rel φ M wall w) {t : TypeId} {x x' v v' : Value} (h : evStore P M wall t x v = some M') (hx : VR φ x x') (hv : VR φ v v') :
    ∃ w', (Instr.storeAt t x' v').run P w = .ok () w' ∧ Post φ φ M M' wall w w' := by
  unfold evStore at h
  split at h
  · rename_i a i hi
    obtain ⟨l, _, hl, rfl⟩ := hx.ptr_inv
    cases hb : (Nat.ble wall a.block && Nat.beq v.cells.size i.size)
    · rw [hb] at h; cases h
    · rw [hb] at h
      simp only [Bool.and_eq_true, Nat.ble_eq, Nat.beq_eq] at hb
      simp only [cond_true] at h
      have hput : M.put a.block a.off v.cells.toList = some M' := by
        split at h
        · exact h
        · rename_i hno
          rw [put1_eq_put] at h
          cases v <;> first | exact (hno _ rfl).elim | exact h
      obtain ⟨k, _, _, _, hone, _⟩ := Mem.put_some hput
      obtain ⟨w', h1, h2⟩ := put_run (P := P) hr hl hb.1 hput (hv.cellsL hone)
      have hsz : v'.cells.size = i.size := by rw [← (hv.cells hone).1]; exact hb.2
      exact ⟨w', by simp [Instr.storeAt, Instr.sureAddr, storeVar, run_sizeOf' hi, hsz, h1], h2⟩
  · cases h

theorem evBox_sound {M M' : Mem} {wall : Nat} {w : World} (hr : Rel φ M wall w) {t : TypeId} {v v' r : Value} (h : evBox M t v = some (r, M')) (hv : VR φ v v') :
    ∃ φ' r' w', (newVar t v').run P w = .ok r' w' ∧ VR φ' r (.pointer (some r')) ∧ Post φ φ' M M' wall w w' := by
  unfold evBox at h
  cases hb : v.cells.toList.all Value.oneCell'
  · rw [hb] at h; cases h
  · rw [hb] at h
    simp only [cond_true, Option.some.injEq, Prod.mk.injEq] at h
    obtain ⟨rfl, rfl⟩ := h
    have hc := hv.cellsL hb
    refine ⟨upd φ M.length ⟨w.heap.size, 0, v'.cells.size⟩, ⟨w.heap.size, 0, none⟩, w.alloc (.cells v'.cells t), rfl, ?_, ?_⟩
    · exact .ptr _ 0 _ (upd_same _ _ _)
    · exact post_alloc hr (f := (0, 0)) rfl rfl rfl rfl (.inl rfl) (fun j u hu => by
        obtain ⟨u', e1, e2⟩ := hc.get hu
        exact ⟨u', by simpa using e1, e2⟩) (by have := hc.1; simp at this ⊢; omega)

theorem zeros_flatten (z : List Value) (n : Nat) : zeros z n = (List.replicate n z).flatten := by
  unfold zeros
  split
  · rename_i v
    induction n with
    | zero => rfl
    | succ n ih => simp only [List.replicate_succ, List.flatten_cons, List.singleton_append, ih]
  · rfl

theorem zeros_length (z : List Value) (n : Nat) : (zeros z n).length = n * z.length := by
  rw [zeros_flatten]
  simp

theorem zeros_get (z : List Value) (hz : 0 < z.length) (n : Nat) : ∀ j, j < n * z.length → (zeros z n)[j]? = z[j % z.length]? := by
  rw [zeros_flatten]
  induction n with
  | zero => intro j hj; simp at hj
  | succ n ih =>
    intro j hj
    rw [List.replicate_succ, List.flatten_cons, List.getElem?_append]
    split
    · rename_i h; rw [Nat.mod_eq_of_lt h]
    · rename_i h
      rw [ih (j - z.length) (by rw [Nat.add_mul] at hj; omega)]
      congr 1
      have : j = (j - z.length) + z.length := by omega
      conv => rhs; rw [this]
      simp

theorem zeros_all {z : List Value} {p : Value → Bool} (h : z.all p = true) (n : Nat) : (zeros z n).all p = true := by
  rw [zeros_flatten]
  simp only [List.all_eq_true, List.mem_flatten, List.mem_replicate] at h ⊢
  rintro x ⟨l, ⟨_, rfl⟩, hx⟩
  exact h x hx

theorem range_zero (z : Array Value) (hz : 0 < z.size) (m : Nat) (n : Nat) (hm : m = n * z.size) : ((Array.range m).map fun i => z[i % z.size]!).toList = zeros z.toList n := by
  apply List.ext_getElem?
  intro j
  by_cases hj : j < m
  · rw [zeros_get z.toList (by simpa using hz) n j (by simp; omega)]
    have : j % z.size < z.size := Nat.mod_lt _ hz
    simp [hj, this]
  · have h1 : (zeros z.toList n).length = m := by rw [zeros_length]; simp; omega
    have h2 : (zeros z.toList n)[j]? = none := by rw [List.getElem?_eq_none_iff]; omega
    rw [h2]
    simp; omega

theorem flat1_one {v : Value} (h : flat1 v = true) : v.oneCell' = true := by cases v <;> first | rfl | simp [flat1] at h

theorem run_askRoom (n : Nat) (w : World) : (askRoom n).run P w = .ok () w := by
  unfold askRoom
  split <;> simp [mark, Sem.run]

theorem run_newRow (e : TypeId) (cs : Array Value) (w : World) : (newRow e cs).run P w = .ok ⟨w.heap.size, 0, none⟩ (w.alloc (.cells cs e)) := rfl

theorem wrap_in {n : Int} (h0 : 0 ≤ n) (h : n ≤ 9223372036854775807) : IntKind.i64.wrap n = n := by
  unfold IntKind.wrap IntKind.bits IntKind.signed
  simp
  omega

theorem post_flat {M : Mem} {wall : Nat} {w : World} (hr : Rel φ M wall w) (cs : List Value) (arr : Array Value) (e : TypeId) (hc : VRs φ cs arr.toList) :
    Post φ (upd φ M.length ⟨w.heap.size, 0, arr.size⟩) M (M ++ [⟨cs, e, true⟩]) wall w (w.alloc (.cells arr e)) :=
  post_alloc hr (f := (0, 0)) rfl rfl rfl rfl (.inl rfl) (fun j u hu => by
    obtain ⟨u', e1, e2⟩ := hc.get hu
    exact ⟨u', by simpa using e1, e2⟩) (by have := hc.1; simp at this; omega)

theorem evMakeSlice_sound {M M' : Mem} {wall : Nat} {w : World} (hr : Rel φ M wall w) {t : TypeId} {l c l' c' r : Value} (h : evMakeSlice P M t l c = some (r, M')) (hl : VR φ l l') (hc : VR φ c c') :
    ∃ φ' r' w', (Instr.makeSlice t l' c').run P w = .ok r' w' ∧ VR φ' r r' ∧ Post φ φ' M M' wall w w' := by
  unfold evMakeSlice at h
  split at h
  · rename_i e k1 n k2 m ht
    obtain rfl := hl.int_inv
    obtain rfl := hc.int_inv
    split at h
    · rename_i i hi
      split at h
      · rename_i z hz
        split at h
        · rename_i hb
          obtain ⟨h0, h1, h2, h3, h4, h5, h6⟩ := hb
          cases h
          have hflat : (zeros z.cells.toList m.toNat).all flat1 = true := zeros_all h6 _
          have hlen : (zeros z.cells.toList m.toNat).length = m.toNat * i.size := by rw [zeros_length]; simp [h5]
          have hw1 := wrap_in h0 (by omega)
          have hw2 : IntKind.i64.wrap m = m := wrap_in (by omega) h3
          refine ⟨upd φ M.length ⟨w.heap.size, 0, (zeros z.cells.toList m.toNat).toArray.size⟩, .slice (some ⟨w.heap.size, 0, none⟩) n.toNat m.toNat, w.alloc (.cells (zeros z.cells.toList m.toNat).toArray e), ?_, ?_, ?_⟩
          · have hmk : (zeros z.cells.toList m.toNat).toArray = (if m.toNat * i.size = 0 then #[] else (Array.range (m.toNat * i.size)).map fun j => z.cells[j % z.cells.size]!) := by
              split
              · rename_i hzero
                apply Array.ext'
                rw [hzero] at hlen
                simpa using hlen
              · apply Array.ext'
                rw [range_zero z.cells (by omega) (m.toNat * i.size) m.toNat (by rw [h5])]
            have nb : ¬(m < 0 ∨ (i.bytes : Int) * m > 2 ^ 48 ∨ n < 0 ∨ n > m) := by omega
            simp only [Instr.makeSlice, run_underlying ht, asInt, asIntOf, Sem.run_bind, Sem.run_pure, Result.andThen_ok, typeInfo, Sem.run, program, hi, hw1, hw2]
            have c1 : (decide (m < 0) || decide ((i.bytes : Int) * m > 2 ^ 48) || decide (n < 0) || decide (n > m)) = false := by simp; omega
            simp only [Bool.or_assoc] at c1 ⊢
            rw [c1]
            simp only [Bool.false_eq_true, if_false, Sem.run_bind, Sem.run_pure, Result.andThen_ok, run_askRoom, run_sizeOf' hi]
            by_cases hzero : m.toNat * i.size = 0
            · rw [if_pos hzero] at hmk
              simp [hzero, run_newRow, hmk, show Array.range 0 = #[] from rfl]
            · rw [if_neg hzero] at hmk
              simp [hzero, run_newRow, hmk, run_zeroValue' hi hz]
          · exact .sl _ 0 _ _ _ (upd_same _ _ _)
          · exact post_flat hr _ _ e (by simpa using VRs.flat_self hflat)
        · cases h
      · cases h
    · cases h
  · cases h

theorem evBuildSlice_sound {M M' : Mem} {wall : Nat} {w : World} (hr : Rel φ M wall w) {t : TypeId} {len : Nat} {ps ps' : List (Nat × Value)} {r : Value} (h : evBuildSlice P M t len ps = some (r, M')) (hp : PR φ ps ps') :
    ∃ φ' r' w', (Instr.buildSlice t len ps'.toArray).run P w = .ok r' w' ∧ VR φ' r r' ∧ Post φ φ' M M' wall w w' := by
  unfold evBuildSlice at h
  split at h
  · rename_i e ht
    split at h
    · rename_i i hi
      split at h
      · rename_i z hz
        cases hb : (Nat.ble (len * i.size) 16777216 && Nat.blt 0 i.size && Nat.beq z.cells.size i.size && z.cells.toList.all flat1)
        · rw [hb] at h; cases h
        · rw [hb] at h
          simp only [Bool.and_eq_true, Nat.ble_eq, Nat.beq_eq, Nat.blt_eq] at hb
          obtain ⟨⟨⟨b1, b2⟩, b3⟩, b4⟩ := hb
          simp only [cond_true, Option.bind_eq_some_iff, Option.some.injEq, Prod.mk.injEq] at h
          obtain ⟨cs, hf, rfl, rfl⟩ := h
          have hzs : (if len * i.size = 0 then (#[] : Array Value) else (Array.range (len * i.size)).map fun j => z.cells[j % z.cells.size]!).toList = zeros z.cells.toList len := by
            split
            · rename_i hzero
              have : (zeros z.cells.toList len).length = 0 := by rw [zeros_length]; simp [b3, hzero]
              simpa using (List.length_eq_zero_iff.1 this).symm
            · rw [range_zero z.cells (by omega) _ len (by rw [b3])]
          obtain ⟨r', e1, e2⟩ := evFill_sound (φ := φ) (cs' := (zeros z.cells.toList len).toArray) hf hp (by simpa using VRs.flat_self (zeros_all b4 len))
          refine ⟨upd φ M.length ⟨w.heap.size, 0, r'.size⟩, .slice (some ⟨w.heap.size, 0, none⟩) len len, w.alloc (.cells r' e), ?_, .sl _ 0 _ _ _ (upd_same _ _ _), post_flat hr _ _ e e2⟩
          have nb : ¬(len * i.size > 2 ^ 24) := by omega
          by_cases hzero : len * i.size = 0
          · rw [if_pos hzero] at hzs
            have ez : (zeros z.cells.toList len).toArray = #[] := by rw [← hzs]
            rw [ez] at e1
            simp only [Instr.buildSlice, Sem.run_bind, run_underlying ht, Result.andThen_ok, run_sizeOf' hi, nb, if_false, hzero, if_true, Sem.run_pure]
            simp [e1, run_newRow, show Array.range 0 = #[] from rfl]
          · rw [if_neg hzero] at hzs
            have ez : (zeros z.cells.toList len).toArray = ((Array.range (len * i.size)).map fun j => z.cells[j % z.cells.size]!) := by rw [← hzs]
            rw [ez] at e1
            simp only [Instr.buildSlice, Sem.run_bind, run_underlying ht, Result.andThen_ok, run_sizeOf' hi, nb, if_false, hzero, Sem.run_pure, run_zeroValue' hi hz]
            simp [e1, run_newRow]
      · cases h
    · cases h
  · cases h

end Go.Ev


/-
  append, copy, bytes and strings: held against the model's.
-/
namespace Go.Ev
variable {P : Program} {E : TypeId → Option (List CK)} {φ : Fi}

/-- What append does with a source of n elements, 'news'. -/
structure Src (P : Program) (ts : Array TypeId) (e : TypeId) (i : TypeInfo) (z : Value) (x' : Value) (n : Nat) (news : Array Value) (w : World) : Prop where
  place : ∀ (ty : TypeId) (base : Option Addr) (sLen sCap : Nat), sLen + n ≤ sCap →
    (Builtin.append_ ts ty #[.slice base sLen sCap, x']).run P w = ((match base with | some a => storeCells (a.add (sLen * i.size)) news.toList | none => pure () : Sem Unit).run P w).andThen fun _ w2 => .ok (.slice base (sLen + n) sCap) w2
  grow : ∀ (ty : TypeId) (base : Option Addr) (sLen sCap : Nat), ¬ sLen + n ≤ sCap → (sLen + n) * i.bytes ≤ 140737488355328 → sLen + n ≤ 4611686018427387904 → ∀ old,
    (Builtin.firstCells i.size sLen (.slice base sLen sCap)).run P w.drew = .ok old w.drew →
    (Builtin.append_ ts ty #[.slice base sLen sCap, x']).run P w = .ok (.slice (some ⟨w.heap.size, 0, none⟩) (sLen + n) (grownCap w (sLen + n) sCap e))
      (w.drew.alloc (.cells (old ++ news ++ Builtin.zeroCells z.cells (grownCap w (sLen + n) sCap e - (sLen + n))) e))

theorem imax : IntKind.i64.max = 9223372036854775807 := by decide

theorem drew_eq (w : World) : ({ w with drawn := w.drawn + 1 } : World) = w.drew := rfl

/-- A source that is a slice or a string. -/
theorem src_of {ts : Array TypeId} {sT xT e : TypeId} {d : TypeDesc} {i : TypeInfo} {z : Value} (h0 : ts[0]? = some sT) (h1 : ts[1]? = some xT) (hs : P.underlying sT = some (.slice e)) (hd : P.underlying xT = some d)
    (hnd : ∀ k, d ≠ .int k) (hi : P.info? e = some i) (hz : i.zero = some z) {x' : Value} {n : Nat} {news : Array Value} {w : World} (hn : (Builtin.lenOf x').run P w = .ok n w)
    (ha : (Builtin.firstCells i.size n x').run P w = .ok news w) (ha' : (Builtin.firstCells i.size n x').run P w.drew = .ok news w.drew) : Src P ts e i z x' n news w := by
  constructor
  · intro ty base sLen sCap hroom
    cases d <;> first | exact absurd rfl (hnd _) | (
      simp only [Builtin.append_, h0, h1, List.getElem?_toArray, List.getElem?_cons_zero, List.getElem?_cons_succ, Sem.run_bind, run_underlying hs, Result.andThen_ok, run_sizeOf' hi, run_underlying hd, Sem.run_pure,
        Bool.false_eq_true, if_false, hn, hroom, if_true, Bool.not_false, ha]
      cases base <;> simp)
  · intro ty base sLen sCap hroom hb h62 old hold
    have hcap := growslice_fits (Nat.not_le.1 hroom) hb
    have nb : ¬(((sLen + n : Nat) : Int) > IntKind.i64.max ∧ i.bytes = 0) := by rw [imax]; omega
    have nc : ¬(Builtin.nextslicecap (sLen + n) sCap * i.bytes > 2 ^ 48) := by omega
    have ti : ∀ w0 : World, (typeInfo e).run P w0 = .ok i w0 := fun w0 => by simp [typeInfo, hi]
    have hch : (choose (.appendCap (sLen + n) sCap e)).run P w = .ok (grownCap w (sLen + n) sCap e) w.drew := rfl
    cases d <;> first | exact absurd rfl (hnd _) | (
      simp only [Builtin.append_, h0, h1, List.getElem?_toArray, List.getElem?_cons_zero, List.getElem?_cons_succ, Sem.run_bind, run_underlying hs, Result.andThen_ok, run_sizeOf' hi, run_underlying hd, Sem.run_pure,
        Bool.false_eq_true, if_false, hn, hroom, Bool.not_false, if_true, ti, nc, nb, false_or, hch, run_askRoom, hold, ha', run_zeroValue' hi hz, run_newRow]
      rfl)

/-- A source that is a number of zeros. -/
theorem src_zeros {ts : Array TypeId} {sT xT e : TypeId} {k q : IntKind} {i : TypeInfo} {z : Value} (h0 : ts[0]? = some sT) (h1 : ts[1]? = some xT) (hs : P.underlying sT = some (.slice e)) (hd : P.underlying xT = some (.int k))
    (hi : P.info? e = some i) (hz : i.zero = some z) (hzs : z.cells.size = i.size) (hpos : 0 < i.size) {m : Int} (m0 : 0 ≤ m) (m1 : m * (i.bytes : Int) ≤ 281474976710656) (m2 : m ≤ 9223372036854775807) (w : World) :
    Src P ts e i z (.int q m) m.toNat (zeros z.cells.toList m.toNat).toArray w := by
  have hw := wrap_in m0 m2
  have n1 : ¬(m < 0) := by omega
  have n2 : ¬(m * (i.bytes : Int) > 2 ^ 48) := by omega
  have ti : ∀ w0 : World, (typeInfo e).run P w0 = .ok i w0 := fun w0 => by simp [typeInfo, hi]
  have happ : ∀ w0 : World, ((if m.toNat * i.size = 0 then pure #[] else do pure (Builtin.zeroCells (← zeroValue e).cells m.toNat)) : Sem (Array Value)).run P w0 = .ok (zeros z.cells.toList m.toNat).toArray w0 := by
    intro w0
    split
    · rename_i h
      have : (zeros z.cells.toList m.toNat).length = 0 := by rw [zeros_length]; simp [hzs, h]
      rw [List.length_eq_zero_iff.1 this]
      rfl
    · rw [Sem.run_bind, run_zeroValue' hi hz]
      simp only [Result.andThen_ok, Sem.run_pure, Result.ok.injEq, and_true]
      apply Array.ext'
      rw [← range_zero z.cells (by omega) (m.toNat * z.cells.size) m.toNat rfl]
      rfl
  constructor
  · intro ty base sLen sCap hroom
    simp only [Builtin.append_, h0, h1, List.getElem?_toArray, List.getElem?_cons_zero, List.getElem?_cons_succ, Sem.run_bind, run_underlying hs, Result.andThen_ok, run_sizeOf' hi, run_underlying hd, Sem.run_pure, if_true, asInt, asIntOf,
      n1, n2, if_false, ti, Bool.not_true, Bool.false_eq_true, hw, hroom]
    rw [happ w]
    cases base <;> simp
  · intro ty base sLen sCap hroom hb h62 old hold
    have hcap := growslice_fits (Nat.not_le.1 hroom) hb
    have nb : ¬(((sLen + m.toNat : Nat) : Int) > IntKind.i64.max) := by rw [imax]; omega
    have nc : ¬(Builtin.nextslicecap (sLen + m.toNat) sCap * i.bytes > 2 ^ 48) := by omega
    have hch : (choose (.appendCap (sLen + m.toNat) sCap e)).run P w = .ok (grownCap w (sLen + m.toNat) sCap e) w.drew := rfl
    simp only [Builtin.append_, h0, h1, List.getElem?_toArray, List.getElem?_cons_zero, List.getElem?_cons_succ, Sem.run_bind, run_underlying hs, Result.andThen_ok, run_sizeOf' hi, run_underlying hd, Sem.run_pure, if_true, asInt, asIntOf,
      n1, n2, if_false, ti, Bool.not_true, Bool.false_eq_true, hw, hroom, nb, nc, false_and, hch, run_askRoom, hold]
    rw [happ w.drew]
    simp only [Result.andThen_ok, run_zeroValue' hi hz, run_newRow]
    rfl

end Go.Ev


/-
  append, copy, bytes and strings: held against the model's.
-/
namespace Go.Ev
variable {P : Program} {E : TypeId → Option (List CK)} {φ : Fi}

theorem alloc_old (w : World) (o : Obj) (c : Nat) (h : c < w.heap.size) : (w.alloc o).heap[c]? = w.heap[c]? := by
  show (w.heap.push o)[c]? = _
  rw [Array.getElem?_push, if_neg (by omega)]
theorem alloc_new (w : World) (o : Obj) : (w.alloc o).heap[w.heap.size]? = some o := by
  show (w.heap.push o)[w.heap.size]? = _
  simp

theorem run_first_string (n : Nat) (s : ByteArray) (w : World) : (Builtin.firstCells 1 n (.string s)).run P w = .ok ((strCells s).take n).toArray w := by
  have : ((s.extract 0 n).data.map fun b => Value.int .u8 b.toNat) = ((strCells s).take n).toArray := by
    apply Array.ext'
    simp [strCells, ByteArray.data_extract, Array.toList_extract, List.extract_eq_take_drop, List.map_take]
  simp only [Builtin.firstCells, this, Sem.run_pure]

theorem strCells_flat (s : ByteArray) : (strCells s).all flat1 = true := by
  simp only [strCells, List.all_eq_true, List.mem_map]
  rintro _ ⟨b, _, rfl⟩
  rfl

theorem strCells_length (s : ByteArray) : (strCells s).length = s.size := by simp [strCells]

theorem evSrc_sound {M : Mem} {wall : Nat} {w : World} (hr : Rel φ M wall w) {ts : Array TypeId} {sT e : TypeId} {i : TypeInfo} {z : Value} {x x' : Value} {n : Nat} {news : List Value}
    (h : evSrc P M i ts.toList x = some (n, news)) (hx : VR φ x x') (h0 : ts[0]? = some sT) (hs : P.underlying sT = some (.slice e)) (hi : P.info? e = some i) (hz : i.zero = some z) (hzs : z.cells.size = i.size) (hpos : 0 < i.size) :
    ∃ news', Src P ts e i z x' n news' w ∧ VRs φ news news'.toList ∧ news.length = n * i.size := by
  unfold evSrc at h
  split at h
  · rename_i sT' xT hts
    have h1 : ts[1]? = some xT := by rw [← Array.getElem?_toList, hts]; rfl
    split at h
    · rename_i k hd
      split at h
      · rename_i q m z' hz'
        rw [hz] at hz'
        cases hz'
        split at h
        · rename_i hb
          obtain ⟨b0, b1, b2, b3, b4⟩ := hb
          cases h
          obtain rfl := hx.int_inv
          exact ⟨_, src_zeros h0 h1 hs hd hi hz hzs hpos b0 b1 b2 w, by simpa using VRs.flat_self (zeros_all b4 _), by rw [zeros_length]; simp [hzs]⟩
        · cases h
      · cases h
    · rename_i d hnd hd
      have hnd' : ∀ k, d ≠ .int k := fun k hk => hnd k (by rw [hk])
      split at h
      · cases h
        obtain rfl := hx.snil_inv
        refine ⟨#[], src_of h0 h1 hs hd hnd' hi hz ?_ ?_ ?_, VRs.nil, by simp⟩ <;> simp [Builtin.lenOf, Builtin.firstCells]
      · rename_i a m c
        simp only [Option.bind_eq_some_iff, Option.some.injEq, Prod.mk.injEq] at h
        obtain ⟨cs, hc, rfl, rfl⟩ := h
        obtain ⟨l, c', hl, rfl, _⟩ := hx.slice_inv
        obtain ⟨cs', g1, g2, g3, g4, g5⟩ := row_run (P := P) hr hl hc
        obtain ⟨cs2, g1', _, _, g4', g5'⟩ := row_run (P := P) (hr.heap (w' := w.drew) rfl) hl hc
        have hcc : cs2 = cs' := by
          apply List.ext_getElem?
          intro j
          cases hj : cs'[j]? with
          | none => simp at hj ⊢; omega
          | some u =>
            have hlt : j < cs2.length := by have := lt_of_getElem? hj; omega
            have e2 : cs2[j]? = some cs2[j] := by simp [hlt]
            have a1 := g4 j u hj
            have a2 := g4' j _ e2
            rw [e2]
            exact a2.symm.trans a1
        refine ⟨cs'.toArray, src_of h0 h1 hs hd hnd' hi hz ?_ ?_ ?_, by simpa using g3, by omega⟩
        · simp [Builtin.lenOf]
        · simpa [Builtin.firstCells] using g5
        · rw [hcc] at g5'
          simpa [Builtin.firstCells] using g5'
      · rename_i s
        cases hb : Nat.beq i.size 1
        · rw [hb] at h; cases h
        · rw [hb] at h
          simp only [Nat.beq_eq] at hb
          cases h
          obtain rfl := hx.string_inv
          have e1 : (strCells s).take s.size = strCells s := by rw [List.take_of_length_le]; rw [strCells_length]; exact Nat.le_refl _
          refine ⟨(strCells s).toArray, src_of h0 h1 hs hd hnd' hi hz ?_ ?_ ?_, by simpa using VRs.flat_self (strCells_flat s), by rw [strCells_length, hb]; omega⟩
          · simp [Builtin.lenOf]
          · rw [hb, run_first_string, e1]
          · rw [hb, run_first_string, e1]
      · cases h
    · cases h
  · cases h

theorem drew_post {M : Mem} {wall : Nat} {w : World} (hr : Rel φ M wall w) : Post φ φ M M wall w w.drew := Post.same hr rfl rfl rfl rfl

theorem zeroCells_size (z : Array Value) (n : Nat) : (Builtin.zeroCells z n).size = n * z.size := by simp [Builtin.zeroCells]

theorem evGrow_sound {M M' : Mem} {wall : Nat} {w : World} (hr : Rel φ M wall w) {ts : Array TypeId} {ty e : TypeId} {i : TypeInfo} {z : Value} {s s' x' r : Value} {n : Nat} {news : List Value} {news' : Array Value}
    (h : evGrow M wall e i s n news = some (r, M')) (hs : VR φ s s') (hsrc : Src P ts e i z x' n news' w) (hn : VRs φ news news'.toList) (hl : news.length = n * i.size) (hone : news.all Value.oneCell' = true)
    (hzs : z.cells.size = i.size) :
    ∃ φ' r' w', (Builtin.append_ ts ty #[s', x']).run P w = .ok r' w' ∧ VR φ' r r' ∧ Post φ φ' M M' wall w w' := by
  have hnl : news'.size = n * i.size := by rw [← hl, hn.1]; simp
  unfold evGrow at h
  split at h
  · -- none yet
    obtain rfl := hs.snil_inv
    cases hb : Nat.beq n 0
    · rw [hb] at h
      simp only [cond_false] at h
      cases hb2 : (Nat.ble (n * i.bytes) 140737488355328 && Nat.ble n 4611686018427387904)
      · rw [hb2] at h; cases h
      · rw [hb2] at h
        simp only [cond_true, Option.some.injEq, Prod.mk.injEq] at h
        simp only [Bool.and_eq_true, Nat.ble_eq] at hb2
        obtain ⟨rfl, rfl⟩ := h
        have hn0 : n ≠ 0 := fun e => by rw [e] at hb; cases hb
        have hrun := hsrc.grow ty none 0 0 (by omega) (by simpa using hb2.1) (by omega) #[] (by simp [Builtin.firstCells])
        simp only [Nat.zero_add] at hrun
        refine ⟨upd φ M.length ⟨w.heap.size, 0, (#[] ++ news' ++ Builtin.zeroCells z.cells (grownCap w n 0 e - n)).size⟩, _, _, hrun, ?_, ?_⟩
        · have hcap := grownCap_ge w n 0 e
          refine .slg M.length 0 i.size n n _ _ (upd_same _ _ _) hcap (Nat.le_refl _) ?_
          simp only [Nat.zero_add, Array.size_append, Array.size_empty, zeroCells_size, hzs, hnl]
          rw [← Nat.add_mul]
          exact Nat.le_of_eq (by congr 1; omega)
        · refine post_alloc hr (f := (0, 0)) rfl rfl rfl rfl (.inl rfl) (fun j u hu => ?_) ?_
          · obtain ⟨u', e1, e2⟩ := hn.get hu
            refine ⟨u', ?_, e2⟩
            rw [Array.getElem?_toList] at e1
            rw [Array.getElem?_append_left (by have := (Array.getElem?_eq_some_iff.1 e1).1; simp; omega)]
            simpa using e1
          · simp [hl, hnl]
    · rw [hb] at h
      cases h
      obtain rfl : n = 0 := by simpa using hb
      have hrun := hsrc.place ty none 0 0 (by omega)
      exact ⟨φ, _, w, by simpa using hrun, .scal _ rfl, Post.refl hr⟩
  · rename_i a len cap
    obtain ⟨l, c', hl', rfl, hex, hgr⟩ := hs.slice_inv
    have hcc : cap ≤ c' := by
      cases hs0 : a.spot with
      | none => rw [hex hs0]; exact Nat.le_refl _
      | some y => exact (hgr y hs0).1
    -- the slice behind an append in place
    have back : ∀ n', (a.spot = none ∨ n' ≤ cap) → VR φ (.slice (some a) n' cap) (.slice (some ⟨l.blk, l.off + a.off, none⟩) n' c') := by
      intro n' hle
      cases hs0 : a.spot with
      | none =>
        have ea : a = ⟨a.block, a.off, none⟩ := by cases a; simp at hs0; subst hs0; rfl
        rw [hex hs0, ea]
        exact .sl _ _ _ _ l hl'
      | some y =>
        have ea : a = ⟨a.block, a.off, some y⟩ := by cases a; simp at hs0; subst hs0; rfl
        obtain ⟨g1, g2, g3⟩ := hgr y hs0
        rw [ea]
        have hle' : n' ≤ cap := by
          rcases hle with hle | hle
          · rw [hs0] at hle; cases hle
          · exact hle
        exact .slg _ _ _ _ _ _ l hl' g1 hle' g3
    cases hb : Nat.ble (len + n) cap
    · rw [hb] at h
      simp only [cond_false] at h
      cases hb2 : (Nat.ble ((len + n) * i.bytes) 140737488355328 && Nat.ble (len + n) 4611686018427387904)
      · rw [hb2] at h; cases h
      · rw [hb2] at h
        simp only [cond_true, Option.bind_eq_some_iff] at h
        simp only [Bool.and_eq_true, Nat.ble_eq] at hb2
        obtain ⟨old, hold, h⟩ := h
        have hroom : ¬len + n ≤ cap := fun e => by rw [Nat.ble_eq_true_of_le e] at hb; cases hb
        obtain ⟨old', g1, g2, g3, g4, g5⟩ := row_run (P := P) (hr.heap (w' := w.drew) rfl) hl' hold
        have growing : ¬len + n ≤ c' → (Builtin.append_ ts ty #[.slice (some ⟨l.blk, l.off + a.off, none⟩) len c', x']).run P w = .ok (.slice (some ⟨w.heap.size, 0, none⟩) (len + n) (grownCap w (len + n) c' e))
            (w.drew.alloc (.cells (old'.toArray ++ news' ++ Builtin.zeroCells z.cells (grownCap w (len + n) c' e - (len + n))) e)) :=
          fun hno => hsrc.grow ty (some _) len c' hno hb2.1 hb2.2 old'.toArray (by simpa [Builtin.firstCells] using g5)
        have hcells : ∀ (c : Nat) (j : Nat) (v : Value), (old ++ news)[j]? = some v → ∃ v', (old'.toArray ++ news' ++ Builtin.zeroCells z.cells c)[j]? = some v' ∧ VR φ v v' := by
          intro c j v hv
          obtain ⟨v', e1, e2⟩ := (g3.append hn).get hv
          refine ⟨v', ?_, e2⟩
          rw [Array.getElem?_append_left (by have := lt_of_getElem? e1; simpa using this), ← Array.getElem?_toList]
          simpa using e1
        have hsize : ∀ c, (old'.toArray ++ news' ++ Builtin.zeroCells z.cells c).size = (len + n) * i.size + c * i.size := by
          intro c
          simp only [Array.size_append, List.size_toArray, zeroCells_size, hzs, hnl, g1]
          rw [Nat.add_mul]
        split at h
        · rename_i hs0
          cases h
          have hc0 := hex hs0
          subst hc0
          refine ⟨upd φ M.length ⟨w.heap.size, 0, (old'.toArray ++ news' ++ Builtin.zeroCells z.cells (grownCap w (len + n) c' e - (len + n))).size⟩, _, _, growing hroom, ?_, ?_⟩
          · have hcap := grownCap_ge w (len + n) c' e
            refine .slg M.length 0 i.size _ _ _ _ (upd_same _ _ _) hcap (Nat.le_refl _) ?_
            rw [hsize]
            simp only [Nat.zero_add]
            rw [← Nat.add_mul]
            exact Nat.le_of_eq (by congr 1; omega)
          · refine post_alloc hr (f := (0, 0)) rfl rfl rfl rfl (.inl rfl) (hcells _) ?_
            rw [hsize]
            simp [g2, hl, Nat.add_mul]
        · rename_i y hs0
          cases hb3 : (Nat.beq y i.size && Nat.ble wall a.block && M.elemIs a.block e)
          · rw [hb3] at h; cases h
          · rw [hb3] at h
            simp only [cond_true, Option.some.injEq, Prod.mk.injEq] at h
            obtain ⟨rfl, rfl⟩ := h
            simp only [Bool.and_eq_true, Nat.beq_eq, Nat.ble_eq] at hb3
            obtain ⟨⟨rfl, hwall⟩, hel⟩ := hb3
            obtain ⟨k, hk, hkl, hfit, rfl⟩ := Mem.row_some hold
            simp only [Mem.elemIs, hk, Nat.beq_eq] at hel
            obtain ⟨q1, q2, q3⟩ := hgr i.size hs0
            obtain ⟨arr, f, c1, c2, c3, c4, c5⟩ := hr.at_ _ l k hl' hk hkl
            by_cases hno : len + n ≤ c'
            · -- in place
              have hrun := hsrc.place ty (some ⟨l.blk, l.off + a.off, none⟩) len c' hno
              have hle : (len + n) * i.size ≤ c' * i.size := Nat.mul_le_mul_right _ hno
              rw [Nat.add_mul] at hle
              have hst := run_storeCells_thaw (P := P) l.blk (l.off + a.off + len * i.size) k.elem f news'.toList 0 arr w c1 (c2 hwall) (by simp [hnl]; omega) (hn.one hone)
              simp only [Nat.add_zero] at hst
              dsimp only at hrun
              rw [addr_add] at hrun
              rw [hst] at hrun
              simp only [Result.andThen_ok] at hrun
              refine ⟨upd φ M.length ⟨l.blk, l.off + a.off, l.room⟩, _, _, hrun, ?_, ?_⟩
              · have := VR.slg (φ := upd φ M.length ⟨l.blk, l.off + a.off, l.room⟩) M.length 0 i.size (len + n) (len + n) c' _ (upd_same _ _ _) hno (Nat.le_refl _) (by simpa using q3)
                simpa using this
              · refine post_move hr (l2 := ⟨l.blk, l.off + a.off, l.room⟩) (f := f) hl' hk hkl hwall (.inl rfl) (setRow_heap w l.blk arr _ k.elem f c1 |>.trans (by rw [hel])) ?_ ?_ ?_ ?_ ?_ ?_ rfl rfl rfl
                · have e : (arr.toList.take (l.off + a.off + len * i.size) ++ news'.toList ++ arr.toList.drop (l.off + a.off + len * i.size + news'.toList.length)).toArray.size = arr.size := by
                    simp [hnl]; omega
                  rw [e]
                  exact c2 hwall
                · simp [hnl]; omega
                · simp [hl]; omega
                · intro j v hv
                  rw [List.append_assoc, List.getElem?_toArray, getElem?_splice _ _ _ (by simp [hnl]; omega)]
                  by_cases hj : j < len * i.size
                  · rw [List.getElem?_append_left (by simp; omega), List.getElem?_take, if_pos hj, List.getElem?_drop] at hv
                    dsimp only
                    rw [if_pos (by omega)]
                    obtain ⟨v', e1, e2⟩ := c5 _ v hv
                    exact ⟨v', by rw [Array.getElem?_toList, ← e1]; congr 1; omega, e2⟩
                  · rw [List.getElem?_append_right (by simp; omega)] at hv
                    have hlo : ((k.cells.drop a.off).take (len * i.size)).length = len * i.size := by simp; omega
                    rw [hlo] at hv
                    have hlt := lt_of_getElem? hv
                    dsimp only
                    rw [if_neg (by omega), if_pos (by simp [hnl]; omega)]
                    obtain ⟨v', e1, e2⟩ := hn.get hv
                    exact ⟨v', by rw [← e1]; congr 1; omega, e2⟩
                · intro c hc _
                  exact setRow_other w l.blk c _ hc
                · simp
            · -- a new array
              refine ⟨upd φ M.length ⟨w.heap.size, 0, (old'.toArray ++ news' ++ Builtin.zeroCells z.cells (grownCap w (len + n) c' e - (len + n))).size⟩, _, _, growing hno, ?_, ?_⟩
              · have hcap := grownCap_ge w (len + n) c' e
                refine .slg M.length 0 i.size _ _ _ _ (upd_same _ _ _) hcap (Nat.le_refl _) ?_
                rw [hsize]
                simp only [Nat.zero_add]
                rw [← Nat.add_mul]
                exact Nat.le_of_eq (by congr 1; omega)
              · refine post_move hr (l2 := ⟨w.heap.size, 0, (old'.toArray ++ news' ++ Builtin.zeroCells z.cells (grownCap w (len + n) c' e - (len + n))).size⟩) (f := (0, 0)) hl' hk hkl hwall (.inr (Nat.le_refl _))
                  (heap_alloc_new w.drew _) (.inl rfl) rfl ?_ ?_ ?_ ?_ rfl rfl rfl
                · rw [hsize]
                  dsimp only
                  rw [List.length_append, g2, hl, Nat.add_mul]
                  omega
                · intro j v hv
                  simpa using hcells _ j v hv
                · intro c _ hc
                  exact alloc_old w.drew _ c (show c < w.drew.heap.size from hc)
                · have : w.drew.heap.size ≤ (w.drew.alloc (.cells (old'.toArray ++ news' ++ Builtin.zeroCells z.cells (grownCap w (len + n) c' e - (len + n))) e)).heap.size := by simp
                  exact this
    · rw [hb] at h
      simp only [cond_true] at h
      have hroom : len + n ≤ cap := Nat.le_of_ble_eq_true hb
      have hrun := hsrc.place ty (some ⟨l.blk, l.off + a.off, none⟩) len c' (by omega)
      cases hb2 : Nat.beq n 0
      · rw [hb2] at h
        simp only [cond_false] at h
        cases hb3 : Nat.ble wall a.block
        · rw [hb3] at h; cases h
        · rw [hb3] at h
          simp only [cond_true, Option.bind_eq_some_iff, Option.some.injEq, Prod.mk.injEq] at h
          obtain ⟨M2, hput, rfl, rfl⟩ := h
          obtain ⟨w', e1, e2⟩ := put_run (P := P) hr hl' (Nat.le_of_ble_eq_true hb3) hput hn
          dsimp only at hrun
          rw [addr_add] at hrun
          simp only [Nat.add_assoc] at hrun e1
          rw [e1] at hrun
          simp only [Result.andThen_ok] at hrun
          refine ⟨φ, _, w', by simpa only [Nat.add_assoc] using hrun, back _ (.inr (by omega)), e2⟩
      · rw [hb2] at h
        cases h
        obtain rfl : n = 0 := by simpa using hb2
        have hnil : news'.toList = [] := by simpa using hnl
        rw [hnil] at hrun
        simp only [storeCells, Sem.run_pure, Result.andThen_ok] at hrun
        refine ⟨φ, _, w, hrun, ?_, Post.refl hr⟩
        exact back len (.inr (by omega))
  · cases h

theorem evAppend_sound {M M' : Mem} {wall : Nat} {w : World} (hr : Rel φ M wall w) {ts : Array TypeId} {ty : TypeId} {s s' x x' r : Value} (h : evAppend P M wall ts.toList s x = some (r, M')) (hs : VR φ s s') (hx : VR φ x x') :
    ∃ φ' r' w', (Builtin.append_ ts ty #[s', x']).run P w = .ok r' w' ∧ VR φ' r r' ∧ Post φ φ' M M' wall w w' := by
  unfold evAppend at h
  split at h
  · rename_i sT rest hts
    have h0 : ts[0]? = some sT := by rw [← Array.getElem?_toList, hts]; rfl
    split at h
    · rename_i e hu
      split at h
      · rename_i i hi
        split at h
        · rename_i z hz
          cases hb : (Nat.blt 0 i.size && Nat.beq z.cells.size i.size)
          · rw [hb] at h; cases h
          · rw [hb] at h
            simp only [Bool.and_eq_true, Nat.blt_eq, Nat.beq_eq] at hb
            simp only [cond_true, Option.bind_eq_some_iff] at h
            obtain ⟨⟨n, news⟩, hsrc, h⟩ := h
            dsimp only at h
            cases hone : news.all Value.oneCell'
            · rw [hone] at h; cases h
            · rw [hone] at h
              simp only [cond_true] at h
              obtain ⟨news', g1, g2, g3⟩ := evSrc_sound hr hsrc hx h0 hu hi hz hb.2 hb.1
              exact evGrow_sound hr h hs g1 g2 g3 hone hb.2
        · cases h
      · cases h
    · cases h
  · cases h

theorem evCopy_sound {M M' : Mem} {wall : Nat} {w : World} (hr : Rel φ M wall w) {ts : Array TypeId} {ty : TypeId} {d d' x x' r : Value} (h : evCopy P M wall ts.toList d x = some (r, M')) (hd : VR φ d d') (hx : VR φ x x') :
    ∃ r' w', (Builtin.copy_ ts ty #[d', x']).run P w = .ok r' w' ∧ VR φ r r' ∧ Post φ φ M M' wall w w' := by
  unfold evCopy at h
  split at h
  · rename_i sT rest da dLen dCap hts
    have h0 : ts[0]? = some sT := by rw [← Array.getElem?_toList, hts]; rfl
    split at h
    · rename_i e hu
      split at h
      · rename_i i hi
        simp only [Option.bind_eq_some_iff] at h
        obtain ⟨⟨n, cs⟩, hsrc, h⟩ := h
        dsimp only at h
        -- what is read
        have hread : ∃ (sl : Nat) (cs' : List Value), (Builtin.lenOf x').run P w = .ok sl w ∧ Nat.min sl dLen = n ∧ (Builtin.firstCells i.size n x').run P w = .ok cs'.toArray w ∧ VRs φ cs cs' ∧ (n = 0 → cs' = []) := by
          split at hsrc
          · cases hsrc
            obtain rfl := hx.snil_inv
            exact ⟨0, [], by simp [Builtin.lenOf], Nat.zero_min dLen, by simp [Builtin.firstCells], .nil, fun _ => rfl⟩
          · rename_i a m c
            simp only [Option.bind_eq_some_iff, Option.some.injEq, Prod.mk.injEq] at hsrc
            obtain ⟨cs0, hc, rfl, rfl⟩ := hsrc
            obtain ⟨l, c', hl, rfl, _⟩ := hx.slice_inv
            obtain ⟨cs', g1, g2, g3, g4, g5⟩ := row_run (P := P) hr hl hc
            exact ⟨m, cs', by simp [Builtin.lenOf], rfl, by simpa [Builtin.firstCells] using g5, g3, fun e => by rw [e] at g1; simpa using g1⟩
          · rename_i s
            cases hb : Nat.beq i.size 1
            · rw [hb] at hsrc; cases hsrc
            · rw [hb] at hsrc
              simp only [Nat.beq_eq] at hb
              cases hsrc
              obtain rfl := hx.string_inv
              refine ⟨s.size, (strCells s).take (min s.size dLen), by simp [Builtin.lenOf], rfl, by rw [hb, run_first_string], VRs.flat_self ?_, fun e => by rw [e]; rfl⟩
              simp only [List.all_eq_true]
              intro v hv
              exact List.all_eq_true.1 (strCells_flat s) v (List.mem_of_mem_take hv)
          · cases hsrc
        obtain ⟨sl, cs', r1, r2, r3, r4, r5⟩ := hread
        have hrun : ∀ (base : Option Addr) (c : Nat), (Builtin.copy_ ts ty #[.slice base dLen c, x']).run P w =
            ((match base with | some a => storeCells a cs' | none => pure () : Sem Unit).run P w).andThen fun _ w2 => .ok (.int .i64 n) w2 := by
          intro base c
          simp only [Builtin.copy_, h0, List.getElem?_toArray, List.getElem?_cons_zero, List.getElem?_cons_succ, Sem.run_bind, run_underlying hu, Result.andThen_ok, r1, r2, run_sizeOf' hi, r3]
          cases base <;> simp [goInt]
        split at h
        · obtain rfl := hd.snil_inv
          cases hb : Nat.beq n 0
          · rw [hb] at h; cases h
          · rw [hb] at h
            cases h
            obtain rfl : n = 0 := by simpa using hb
            exact ⟨_, w, by rw [hrun]; rfl, .scal _ rfl, Post.refl hr⟩
        · rename_i a
          obtain ⟨l, c', hl, rfl, _⟩ := hd.slice_inv
          cases hb : Nat.beq n 0
          · rw [hb] at h
            simp only [cond_false] at h
            cases hb3 : Nat.ble wall a.block
            · rw [hb3] at h; cases h
            · rw [hb3] at h
              simp only [cond_true, Option.bind_eq_some_iff, Option.some.injEq, Prod.mk.injEq] at h
              obtain ⟨M2, hput, rfl, rfl⟩ := h
              obtain ⟨w', e1, e2⟩ := put_run (P := P) hr hl (Nat.le_of_ble_eq_true hb3) hput r4
              refine ⟨.int .i64 n, w', ?_, .scal _ rfl, e2⟩
              rw [hrun]
              simp [e1]
          · rw [hb] at h
            cases h
            obtain rfl : n = 0 := by simpa using hb
            refine ⟨.int .i64 0, w, ?_, .scal _ rfl, Post.refl hr⟩
            rw [hrun, r5 rfl]
            rfl
      · cases h
    · cases h
  · cases h

theorem bytes_of_cells : ∀ (cs : List Value) (bs : List UInt8), cs.mapM byteOf? = some bs → ∃ ns : List Int, cs = ns.map (Value.int .u8) ∧ bs = ns.map fun n => UInt8.ofNat n.toNat := by
  intro cs
  induction cs with
  | nil => intro bs h; simp at h; subst h; exact ⟨[], rfl, rfl⟩
  | cons c cs ih =>
    intro bs h
    simp only [List.mapM_cons, Option.bind_eq_bind, Option.bind_eq_some_iff, Option.pure_def, Option.some.injEq] at h
    obtain ⟨b, hb, bs', hbs, rfl⟩ := h
    obtain ⟨ns, rfl, rfl⟩ := ih bs' hbs
    unfold byteOf? at hb
    split at hb
    · rename_i n
      cases hb
      exact ⟨n :: ns, rfl, rfl⟩
    · cases hb

theorem foldl_push (ns : List Int) : ∀ acc : ByteArray, ns.foldl (fun r n => r.push (UInt8.ofNat n.toNat)) acc = ⟨acc.data ++ (ns.map fun n => UInt8.ofNat n.toNat).toArray⟩ := by
  induction ns with
  | nil => intro acc; simp
  | cons n ns ih => intro acc; rw [List.foldl_cons, ih]; simp [ByteArray.push]

theorem evConv_sound {M M' : Mem} {wall : Nat} {w : World} (hr : Rel φ M wall w) {src dst : TypeId} {x x' r : Value} (h : evConv P M wall src dst x = some (r, M')) (hx : VR φ x x') :
    ∃ φ' r' w', (convert src dst x').run P w = .ok r' w' ∧ VR φ' r r' ∧ Post φ φ' M M' wall w w' := by
  unfold evConv at h
  split at h
  · rename_i e s hsrc hdst
    split at h
    · rename_i he
      cases h
      obtain rfl := hx.string_inv
      have hcap := grownCap_ge w s.size 0 e
      let arr : Array Value := (s.data.map fun b => .int .u8 b.toNat) ++ Array.replicate (grownCap w s.size 0 e - s.size) (.int .u8 0)
      have hsz : arr.size = grownCap w s.size 0 e := by
        have : (s.data.map fun b => Value.int .u8 b.toNat).size = s.size := by simp
        simp only [arr, Array.size_append, this, Array.size_replicate]
        omega
      refine ⟨upd φ M.length ⟨w.heap.size, 0, arr.size⟩, .slice (some ⟨w.heap.size, 0, none⟩) s.size (grownCap w s.size 0 e), { w with drawn := w.drawn + 1, heap := w.heap.push (.cells arr e (arr.size, arr.size + 1)) }, ?_, ?_, ?_⟩
      · have hch : (choose (.appendCap s.size 0 e)).run P w = .ok (grownCap w s.size 0 e) w.drew := rfl
        have hmark : (markStringish ⟨w.heap.size, 0, none⟩).run P (w.drew.alloc (.cells arr e)) = .ok () { w with drawn := w.drawn + 1, heap := w.heap.push (.cells arr e (arr.size, arr.size + 1)) } := by
          have hsh : (w.drew.alloc (.cells arr e)).shape? w.heap.size = some (e, arr.size) := by
            have : (w.drew.alloc (.cells arr e)).heap[w.heap.size]? = some (.cells arr e) := alloc_new w.drew _
            unfold World.shape?
            rw [this]
          simp only [markStringish, shape, Sem.run_bind, Sem.run, hsh, Result.andThen_ok, freeze]
          congr 1
          unfold World.freeze
          simp only [Nat.succ_ne_zero, if_false]
          show ({ w.drew.alloc (.cells arr e) with heap := _ } : World) = _
          have hpush : (w.drew.alloc (.cells arr e)).heap = w.heap.push (.cells arr e) := rfl
          rw [hpush]
          have hmod : (w.heap.push (.cells arr e)).modify w.heap.size (fun o => match o with
              | .cells c elem (lo, hi) => .cells c elem (if lo == hi then (arr.size, arr.size + 1) else (min lo arr.size, max hi (arr.size + 1)))
              | o => o) = w.heap.push (.cells arr e (arr.size, arr.size + 1)) := by
            apply Array.ext
            · simp
            · intro j h1 h2
              rw [Array.getElem_modify]
              by_cases hj : w.heap.size = j
              · subst hj
                simp
              · rw [if_neg hj]
                have : j < w.heap.size := by simp at h2; omega
                simp [Array.getElem_push, this]
          exact congrArg (fun hp => ({ heap := hp, tape := w.tape, drawn := w.drawn + 1, os := w.os, output := w.output } : World)) hmod
        simp only [convert, run_underlying hsrc, run_underlying hdst, run_underlying he, Sem.run_bind, Result.andThen_ok, Conv.stringToBytes, hch, run_newRow]
        have e0 : w.drew.heap.size = w.heap.size := rfl
        simp only [e0]
        rw [hmark]
        rfl
      · refine .slg M.length 0 1 _ _ _ _ (upd_same _ _ _) hcap (Nat.le_refl _) ?_
        rw [hsz]
        simp
      · refine post_alloc hr (f := (arr.size, arr.size + 1)) rfl rfl rfl rfl (.inr (Nat.le_refl _)) (fun j v hv => ⟨v, ?_, .scal _ (List.all_eq_true.1 (strCells_flat s) _ (List.mem_of_getElem? hv))⟩) ?_
        · have hlt : j < s.size := by have := lt_of_getElem? hv; rwa [strCells_length] at this
          simp only [arr]
          rw [Array.getElem?_append_left (by simpa using hlt), ← Array.getElem?_toList]
          simpa [strCells] using hv
        · rw [hsz, strCells_length]
          exact hcap
    · cases h
  · rename_i e a n c hsrc hdst
    split at h
    · rename_i he
      split at h
      · cases hb : Nat.beq n 0
        · rw [hb] at h; cases h
        · rw [hb] at h
          cases h
          obtain rfl := hx.snil_inv
          exact ⟨φ, .string .empty, w, by simp [convert, run_underlying hsrc, run_underlying hdst, run_underlying he, Conv.bytesToString], .scal _ rfl, Post.refl hr⟩
      · rename_i a
        simp only [Option.bind_eq_some_iff, Option.some.injEq, Prod.mk.injEq] at h
        obtain ⟨cs, hc, bs, hbs, rfl, rfl⟩ := h
        obtain ⟨l, c', hl, rfl, _⟩ := hx.slice_inv
        obtain ⟨cs', g1, g2, g3, g4, g5⟩ := row_run (P := P) hr hl hc
        obtain ⟨ns, rfl, rfl⟩ := bytes_of_cells cs bs hbs
        have hflat : (ns.map (Value.int .u8)).all flat1 = true := by
          simp only [List.all_eq_true, List.mem_map]
          rintro _ ⟨b, _, rfl⟩
          rfl
        rw [g3.of_flat hflat] at g5
        refine ⟨φ, .string ⟨(ns.map fun n => UInt8.ofNat n.toNat).toArray⟩, w, ?_, .scal _ rfl, Post.refl hr⟩
        rw [run_convert_bytes_string w src dst e _ _ _ hsrc he hdst, run_bytesToString w _ _ _ ns g5, foldl_push]
        simp
    · cases h
  · rename_i d e a n c hsrc hdst
    split at h
    · rename_i he
      cases hb : (Nat.beq src dst && Nat.ble wall a.block && M.liveAt a.block)
      · rw [hb] at h; cases h
      · rw [hb] at h
        cases h
        simp only [Bool.and_eq_true, Nat.beq_eq, Nat.ble_eq] at hb
        obtain ⟨⟨rfl, hwall⟩, hlive⟩ := hb
        obtain ⟨l, c', hl, rfl, _⟩ := hx.slice_inv
        unfold Mem.liveAt at hlive
        split at hlive
        · rename_i k hk
          obtain ⟨arr, f, c1, c2, c3, c4, c5⟩ := hr.at_ _ l k hl hk hlive
          have hlt : l.blk < w.heap.size := (Array.getElem?_eq_some_iff.1 c1).1
          let f' : Nat × Nat := if f.1 == f.2 then (arr.size, arr.size + 1) else (min f.1 arr.size, max f.2 (arr.size + 1))
          have hsh : w.shape? l.blk = some (k.elem, arr.size) := by
            unfold World.shape?
            rw [c1]
          have hrun : (convert src src (.slice (some ⟨l.blk, l.off + a.off, none⟩) n c')).run P w = .ok (.slice (some ⟨l.blk, l.off + a.off, none⟩) n c') (w.freeze ⟨l.blk, arr.size, none⟩ 1) := by
            have hm : (markStringish ⟨l.blk, l.off + a.off, none⟩).run P w = .ok () (w.freeze ⟨l.blk, arr.size, none⟩ 1) := by
              simp only [markStringish, shape, Sem.run_bind, Sem.run, hsh, Result.andThen_ok, freeze]
            have hde : d = e := by rw [hsrc] at hdst; cases hdst; rfl
            subst hde
            simp only [convert, run_underlying hsrc, run_underlying he, Sem.run_bind, Result.andThen_ok, beq_self_eq_true, hm, Sem.run_pure]
          have hnew : (w.freeze ⟨l.blk, arr.size, none⟩ 1).heap[l.blk]? = some (.cells arr k.elem f') := by
            unfold World.freeze
            simp only [Nat.succ_ne_zero, if_false]
            rw [Array.getElem?_modify, if_pos rfl, c1]
            rfl
          have hold : ∀ c, c ≠ l.blk → (w.freeze ⟨l.blk, arr.size, none⟩ 1).heap[c]? = w.heap[c]? := by
            intro c hc
            unfold World.freeze
            simp only [Nat.succ_ne_zero, if_false]
            rw [Array.getElem?_modify, if_neg (fun x => hc x.symm)]
          have hMset : M.set a.block { k with cells := k.cells } = M := by
            apply List.ext_getElem?
            intro j
            rw [List.getElem?_set]
            by_cases hj : a.block = j
            · rw [if_pos hj, if_pos (lt_of_getElem? hk), ← hj, hk]
            · rw [if_neg hj]
          have hp := post_store hr (arr := arr) (arr' := arr) (cs := k.cells) (f := f) (f' := f') (w' := w.freeze ⟨l.blk, arr.size, none⟩ 1) hl hk hlive hwall c1 rfl rfl c5 hnew (by
            intro hf
            simp only [f']
            split
            · exact .inr (Nat.le_refl _)
            · rename_i hne
              rcases hf with hf | hf
              · exact absurd (by simpa using hf) hne
              · exact .inr (by simp; omega)) hold (by simp [World.freeze]) (by simp [World.freeze]) (by simp [World.freeze]) (by simp [World.freeze])
          rw [hMset] at hp
          exact ⟨φ, _, _, hrun, hx, hp⟩
        · cases hlive
    · cases h
  · cases h

end Go.Ev
