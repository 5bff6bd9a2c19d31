/-
  Abstract memory and the world: what a new block, a store, a load leave.
-/
import Derived.Test.YteeclgeoconekaaEvPure3
namespace Go.Ev
variable {P : Program} {E : TypeId → Option (List CK)} {φ : Fi}

def upd (φ : Fi) (b : Nat) (l : Loc) : Fi := fun c => if c = b then some l else φ c

theorem upd_same (φ : Fi) (b : Nat) (l : Loc) : upd φ b l b = some l := by simp [upd]
theorem upd_ext {φ : Fi} {b : Nat} {l : Loc} (h : φ b = none) : Ext φ (upd φ b l) := by
  intro c l' e
  unfold upd
  split
  · subst_vars; rw [h] at e; cases e
  · exact e

theorem Rel.none_at {M : Mem} {wall : Nat} {w : World} (h : Rel φ M wall w) : φ M.length = none := by
  cases e : φ M.length with
  | none => rfl
  | some l => exact absurd (h.dom _ l e) (Nat.lt_irrefl _)

/-- A new block. -/
theorem post_alloc {M : Mem} {wall : Nat} {w w' : World} (hr : Rel φ M wall w) {cells : List Value} {arr : Array Value} {e : TypeId} {f : Nat × Nat}
    (hheap : w'.heap = w.heap.push (.cells arr e f)) (hos : w'.os = w.os) (htape : w'.tape = w.tape) (hout : w'.output = w.output) (hf : Thaw f arr.size)
    (hc : ∀ (j : Nat) (v : Value), cells[j]? = some v → ∃ v', arr[j]? = some v' ∧ VR φ v v') (hlen : cells.length ≤ arr.size) :
    Post φ (upd φ M.length ⟨w.heap.size, 0, arr.size⟩) M (M ++ [⟨cells, e, true⟩]) wall w w' := by
  have hn := hr.none_at
  have hext : Ext φ (upd φ M.length ⟨w.heap.size, 0, arr.size⟩) := upd_ext hn
  have hold : ∀ c, c < w.heap.size → w'.heap[c]? = w.heap[c]? := by
    intro c hlt
    rw [hheap, Array.getElem?_push, if_neg (by omega)]
  have hnew : w'.heap[w.heap.size]? = some (.cells arr e f) := by rw [hheap]; simp
  have hcases : ∀ b l, upd φ M.length ⟨w.heap.size, 0, arr.size⟩ b = some l → (b = M.length ∧ l = ⟨w.heap.size, 0, arr.size⟩) ∨ (φ b = some l ∧ b < M.length) := by
    intro b l hb
    unfold upd at hb
    split at hb
    · exact .inl ⟨‹_›, (Option.some.inj hb).symm⟩
    · exact .inr ⟨hb, hr.dom _ _ hb⟩
  have hgetold : ∀ (b : Nat) (k : Blk), b < M.length → (M ++ [⟨cells, e, true⟩])[b]? = some k → M[b]? = some k := by
    intro b k hb hk
    rwa [List.getElem?_append_left hb] at hk
  have hgetnew : ∀ (k : Blk), (M ++ [(⟨cells, e, true⟩ : Blk)])[M.length]? = some k → k = ⟨cells, e, true⟩ := by
    intro k hk
    simp at hk
    exact hk.symm
  have hlocold : ∀ b l k, φ b = some l → M[b]? = some k → k.live = true → l.blk < w.heap.size := by
    intro b l k h1 h2 h3
    obtain ⟨arr0, f0, c1, _⟩ := hr.at_ b l k h1 h2 h3
    exact (Array.getElem?_eq_some_iff.1 c1).1
  refine ⟨hext, ?_, ⟨?_, ?_, ?_⟩, by simp, ?_, by rw [hheap]; simp, fun c hlt _ => hold c hlt, hos, htape, hout⟩
  · intro b l hb
    rcases hcases b l hb with ⟨rfl, rfl⟩ | ⟨h1, _⟩
    · exact .inr ⟨Nat.le_refl _, by simp, .inl (Nat.le_refl _)⟩
    · exact .inl h1
  · intro b l hb
    rcases hcases b l hb with ⟨rfl, _⟩ | ⟨_, h2⟩ <;> simp <;> omega
  · intro b l k hb hk hl
    rcases hcases b l hb with ⟨rfl, rfl⟩ | ⟨h1, h2⟩
    · obtain rfl := hgetnew k hk
      exact ⟨arr, f, hnew, fun _ => hf, rfl, by simpa using hlen, fun j v hv => by
        obtain ⟨v', e1, e2⟩ := hc j v hv
        exact ⟨v', by simpa using e1, e2.mono hext⟩⟩
    · obtain ⟨arr0, f0, c1, c2, c3, c4, c5⟩ := hr.at_ b l k h1 (hgetold b k h2 hk) hl
      exact ⟨arr0, f0, by rw [hold _ (Array.getElem?_eq_some_iff.1 c1).1]; exact c1, c2, c3, c4, fun j v hv => by
        obtain ⟨v', e1, e2⟩ := c5 j v hv
        exact ⟨v', e1, e2.mono hext⟩⟩
  · intro b b' l l' k k' hb hb' hk hk' hl hl' hw hne
    rcases hcases b l hb with ⟨rfl, rfl⟩ | ⟨h1, h2⟩
    · rcases hcases b' l' hb' with ⟨rfl, _⟩ | ⟨h1', h2'⟩
      · exact absurd rfl hne
      · exact (Nat.ne_of_lt (hlocold b' l' k' h1' (hgetold b' k' h2' hk') hl')).symm
    · rcases hcases b' l' hb' with ⟨rfl, rfl⟩ | ⟨h1', h2'⟩
      · exact Nat.ne_of_lt (hlocold b l k h1 (hgetold b k h2 hk) hl)
      · exact hr.sep b b' l l' k k' h1 h1' (hgetold b k h2 hk) (hgetold b' k' h2' hk') hl hl' hw hne
  · intro b k k' hk hk' hl
    rw [List.getElem?_append_left (lt_of_getElem? hk)] at hk'
    rw [hk] at hk'
    cases hk'
    exact hl

/-- A store into a block. -/
theorem post_store {M : Mem} {wall : Nat} {w w' : World} (hr : Rel φ M wall w) {b : Nat} {l : Loc} {k : Blk} {cs : List Value} {arr arr' : Array Value} {f f' : Nat × Nat}
    (hb : φ b = some l) (hk : M[b]? = some k) (hl : k.live = true) (hw : wall ≤ b) (hat : w.heap[l.blk]? = some (.cells arr k.elem f)) (hsz : arr'.size = arr.size)
    (hcs : cs.length = k.cells.length) (hc : ∀ (j : Nat) (v : Value), cs[j]? = some v → ∃ v', arr'[l.off + j]? = some v' ∧ VR φ v v')
    (hnew : w'.heap[l.blk]? = some (.cells arr' k.elem f')) (hf : Thaw f arr.size → Thaw f' arr'.size) (hold : ∀ c, c ≠ l.blk → w'.heap[c]? = w.heap[c]?) (hsize : w'.heap.size = w.heap.size)
    (hos : w'.os = w.os) (htape : w'.tape = w.tape) (hout : w'.output = w.output) :
    Post φ φ M (M.set b { k with cells := cs }) wall w w' := by
  have hblt : b < M.length := lt_of_getElem? hk
  have hget : ∀ (c : Nat) (q : Blk), (M.set b { k with cells := cs })[c]? = some q → (c = b ∧ q = { k with cells := cs }) ∨ (c ≠ b ∧ M[c]? = some q) := by
    intro c q hq
    rw [List.getElem?_set] at hq
    by_cases hcb : b = c
    · rw [if_pos hcb, if_pos hblt] at hq
      exact .inl ⟨hcb.symm, (Option.some.inj hq).symm⟩
    · rw [if_neg hcb] at hq
      exact .inr ⟨fun x => hcb x.symm, hq⟩
  have hlive : ∀ (c : Nat) (q : Blk), (M.set b { k with cells := cs })[c]? = some q → q.live = true → ∃ q0, M[c]? = some q0 ∧ q0.live = true := by
    intro c q hq hlq
    rcases hget c q hq with ⟨rfl, rfl⟩ | ⟨_, h2⟩
    · exact ⟨k, hk, hl⟩
    · exact ⟨q, h2, hlq⟩
  obtain ⟨arr0, f0, c1, c2, c3, c4, c5⟩ := hr.at_ b l k hb hk hl
  rw [hat] at c1
  cases c1
  refine ⟨.refl _, fun b l e => .inl e, ⟨?_, ?_, ?_⟩, by simp, ?_, by omega, ?_, hos, htape, hout⟩
  · intro c l' e
    simpa using hr.dom c l' e
  · intro c l' q hc' hq hlq
    rcases hget c q hq with ⟨rfl, rfl⟩ | ⟨hne, h2⟩
    · rw [hb] at hc'
      cases hc'
      exact ⟨arr', f', hnew, fun h => hf (c2 h), by rw [hsz]; exact c3, by simpa [hcs] using c4, hc⟩
    · obtain ⟨arr1, f1, d1, d2, d3, d4, d5⟩ := hr.at_ c l' q hc' h2 hlq
      have hne' : l'.blk ≠ l.blk := fun x => hr.sep b c l l' k q hb hc' hk h2 hl hlq hw (fun y => hne y.symm) x.symm
      exact ⟨arr1, f1, by rw [hold _ hne']; exact d1, d2, d3, d4, d5⟩
  · intro c c' l1 l2 q q' h1 h2 hq hq' hlq hlq' hw' hne
    obtain ⟨q0, e1, e2⟩ := hlive c q hq hlq
    obtain ⟨q0', e1', e2'⟩ := hlive c' q' hq' hlq'
    exact hr.sep c c' l1 l2 q0 q0' h1 h2 e1 e1' e2 e2' hw' hne
  · intro c q q' hq hq' hlq'
    rcases hget c q' hq' with ⟨rfl, rfl⟩ | ⟨_, h2⟩
    · rw [hk] at hq; cases hq; exact hl
    · rw [hq] at h2; cases h2; exact hlq'
  · intro c _ hno
    exact hold c fun x => hno b l k hw hb hk hl x.symm

/-- A block that dies, another that takes its place: at the same cells, or at new ones. -/
theorem post_move {M : Mem} {wall : Nat} {w w' : World} (hr : Rel φ M wall w) {b : Nat} {l l2 : Loc} {k : Blk} {cs : List Value} {arr : Array Value} {e : TypeId} {f : Nat × Nat}
    (hb : φ b = some l) (hk : M[b]? = some k) (hl : k.live = true) (hw : wall ≤ b)
    (hl2 : l2.blk = l.blk ∨ w.heap.size ≤ l2.blk) (hat : w'.heap[l2.blk]? = some (.cells arr e f)) (hf : Thaw f arr.size) (hroom : arr.size = l2.room) (hfit : l2.off + cs.length ≤ l2.room)
    (hc : ∀ (j : Nat) (v : Value), cs[j]? = some v → ∃ v', arr[l2.off + j]? = some v' ∧ VR φ v v')
    (hold : ∀ c, c ≠ l.blk → c < w.heap.size → w'.heap[c]? = w.heap[c]?) (hsize : w.heap.size ≤ w'.heap.size)
    (hos : w'.os = w.os) (htape : w'.tape = w.tape) (hout : w'.output = w.output) :
    Post φ (upd φ M.length l2) M (M.kill b ++ [⟨cs, e, true⟩]) wall w w' := by
  have hblt : b < M.length := lt_of_getElem? hk
  have hkl : (M.kill b).length = M.length := by simp [Mem.kill]
  have hn := hr.none_at
  have hext : Ext φ (upd φ M.length l2) := upd_ext hn
  have hget : ∀ (c : Nat) (q : Blk), (M.kill b ++ [⟨cs, e, true⟩])[c]? = some q → q.live = true → (c = M.length ∧ q = ⟨cs, e, true⟩) ∨ (c ≠ b ∧ c < M.length ∧ M[c]? = some q) := by
    intro c q hq hlq
    by_cases hc1 : c < M.length
    · rw [List.getElem?_append_left (by omega)] at hq
      simp only [Mem.kill, List.getElem?_set] at hq
      by_cases hcb : b = c
      · rw [if_pos hcb, if_pos hblt] at hq
        cases hq
        cases hlq
      · rw [if_neg hcb] at hq
        exact .inr ⟨fun x => hcb x.symm, hc1, hq⟩
    · rw [List.getElem?_append_right (by omega)] at hq
      have hz : c - (M.kill b).length = 0 := by
        have := lt_of_getElem? hq
        simp at this
        omega
      rw [hz] at hq
      exact .inl ⟨by omega, by simpa using hq.symm⟩
  have hcases : ∀ c l', upd φ M.length l2 c = some l' → (c = M.length ∧ l' = l2) ∨ (φ c = some l' ∧ c < M.length) := by
    intro c l' h
    unfold upd at h
    split at h
    · exact .inl ⟨‹_›, (Option.some.inj h).symm⟩
    · exact .inr ⟨h, hr.dom _ _ h⟩
  have hloc : ∀ c l' q, φ c = some l' → M[c]? = some q → q.live = true → c ≠ b → l'.blk ≠ l.blk ∧ l'.blk < w.heap.size := by
    intro c l' q h1 h2 h3 h4
    obtain ⟨arr0, f0, c1, _⟩ := hr.at_ c l' q h1 h2 h3
    exact ⟨fun x => hr.sep b c l l' k q hb h1 hk h2 hl h3 hw (fun y => h4 y.symm) x.symm, (Array.getElem?_eq_some_iff.1 c1).1⟩
  refine ⟨hext, ?_, ⟨?_, ?_, ?_⟩, by simp [hkl], ?_, hsize, ?_, hos, htape, hout⟩
  · intro c l' h
    rcases hcases c l' h with ⟨rfl, rfl⟩ | ⟨h1, _⟩
    · refine .inr ⟨Nat.le_refl _, by simp [hkl], ?_⟩
      rcases hl2 with h2 | h2
      · exact .inr ⟨b, l, k, hw, hb, hk, hl, h2.symm⟩
      · exact .inl h2
    · exact .inl h1
  · intro c l' h
    rcases hcases c l' h with ⟨rfl, _⟩ | ⟨_, h2⟩ <;> simp [hkl] <;> omega
  · intro c l' q h hq hlq
    rcases hcases c l' h with ⟨rfl, rfl⟩ | ⟨h1, h2⟩
    · rcases hget _ q hq hlq with ⟨_, rfl⟩ | ⟨_, h3, _⟩
      · exact ⟨arr, f, hat, fun _ => hf, hroom, hfit, fun j v hv => by
          obtain ⟨v', e1, e2⟩ := hc j v hv
          exact ⟨v', e1, e2.mono hext⟩⟩
      · omega
    · rcases hget c q hq hlq with ⟨rfl, _⟩ | ⟨h3, _, h4⟩
      · omega
      · obtain ⟨arr1, f1, d1, d2, d3, d4, d5⟩ := hr.at_ c l' q h1 h4 hlq
        obtain ⟨g1, g2⟩ := hloc c l' q h1 h4 hlq h3
        exact ⟨arr1, f1, by rw [hold _ g1 g2]; exact d1, d2, d3, d4, fun j v hv => by
          obtain ⟨v', e1, e2⟩ := d5 j v hv
          exact ⟨v', e1, e2.mono hext⟩⟩
  · intro c c' l1 l1' q q' h h' hq hq' hlq hlq' hw' hne
    rcases hcases c l1 h with ⟨rfl, rfl⟩ | ⟨h1, h2⟩
    · rcases hcases c' l1' h' with ⟨rfl, _⟩ | ⟨h1', h2'⟩
      · exact absurd rfl hne
      · rcases hget c' q' hq' hlq' with ⟨rfl, _⟩ | ⟨h3, _, h4⟩
        · omega
        · obtain ⟨g1, g2⟩ := hloc c' l1' q' h1' h4 hlq' h3
          rcases hl2 with x | x
          · rw [x]; exact fun y => g1 y.symm
          · omega
    · rcases hget c q hq hlq with ⟨rfl, _⟩ | ⟨h3, _, h4⟩
      · omega
      · obtain ⟨g1, g2⟩ := hloc c l1 q h1 h4 hlq h3
        rcases hcases c' l1' h' with ⟨rfl, rfl⟩ | ⟨h1', h2'⟩
        · rcases hl2 with x | x
          · rw [x]; exact g1
          · omega
        · rcases hget c' q' hq' hlq' with ⟨rfl, _⟩ | ⟨_, _, h4'⟩
          · omega
          · exact hr.sep c c' l1 l1' q q' h1 h1' h4 h4' hlq hlq' hw' hne
  · intro c q q' hq hq' hlq'
    rcases hget c q' hq' hlq' with ⟨rfl, _⟩ | ⟨_, _, h4⟩
    · have := lt_of_getElem? hq
      omega
    · rw [hq] at h4; cases h4; exact hlq'
  · intro c hlt hno
    exact hold c (fun x => hno b l k hw hb hk hl x.symm) hlt

/-- A draw of the tape, a mark: nothing turns. -/
theorem Post.same {M : Mem} {wall : Nat} {w w' : World} (hr : Rel φ M wall w) (hheap : w'.heap = w.heap) (hos : w'.os = w.os) (htape : w'.tape = w.tape) (hout : w'.output = w.output) : Post φ φ M M wall w w' := by
  refine ⟨.refl _, fun b l e => .inl e, ⟨hr.dom, ?_, hr.sep⟩, Nat.le_refl _, fun b k k' h1 h2 h3 => by rw [h1] at h2; cases h2; exact h3, by rw [hheap]; exact Nat.le_refl _, fun c _ _ => by rw [hheap], hos, htape, hout⟩
  intro b l k h1 h2 h3
  obtain ⟨arr, f, c1, c2⟩ := hr.at_ b l k h1 h2 h3
  exact ⟨arr, f, by rw [hheap]; exact c1, c2⟩

theorem Mem.cell_some {M : Mem} {b o : Nat} {v : Value} (h : M.cell b o = some v) : ∃ k, M[b]? = some k ∧ k.live = true ∧ k.cells[o]? = some v := by
  unfold Mem.cell at h
  split at h
  · rename_i k hk
    cases hl : k.live
    · rw [hl] at h; cases h
    · rw [hl] at h; exact ⟨k, hk, hl, h⟩
  · cases h

theorem Mem.row_some {M : Mem} {b o n : Nat} {cs : List Value} (h : M.row b o n = some cs) : ∃ k, M[b]? = some k ∧ k.live = true ∧ o + n ≤ k.cells.length ∧ cs = (k.cells.drop o).take n := by
  unfold Mem.row at h
  split at h
  · rename_i k hk
    cases hl : (k.live && Nat.ble (o + n) k.cells.length)
    · rw [hl] at h; cases h
    · rw [hl] at h
      simp only [Bool.and_eq_true, Nat.ble_eq] at hl
      cases h
      exact ⟨k, hk, hl.1, hl.2, rfl⟩
  · cases h

theorem Mem.put1_some {M M' : Mem} {b o : Nat} {v : Value} (h : M.put1 b o v = some M') : ∃ k, M[b]? = some k ∧ k.live = true ∧ o < k.cells.length ∧ v.oneCell' = true ∧ M' = M.set b { k with cells := k.cells.set o v } := by
  unfold Mem.put1 at h
  split at h
  · rename_i k hk
    cases hl : (k.live && Nat.ble (o + 1) k.cells.length && v.oneCell')
    · rw [hl] at h; cases h
    · rw [hl] at h
      simp only [Bool.and_eq_true, Nat.ble_eq] at hl
      cases h
      exact ⟨k, hk, hl.1.1, hl.1.2, hl.2, rfl⟩
  · cases h

theorem Mem.put_some {M M' : Mem} {b o : Nat} {vs : List Value} (h : M.put b o vs = some M') : ∃ k, M[b]? = some k ∧ k.live = true ∧ o + vs.length ≤ k.cells.length ∧ vs.all Value.oneCell' = true ∧
    M' = M.set b { k with cells := k.cells.take o ++ (vs ++ k.cells.drop (o + vs.length)) } := by
  unfold Mem.put at h
  split at h
  · rename_i k hk
    cases hl : (k.live && Nat.ble (o + vs.length) k.cells.length && vs.all Value.oneCell')
    · rw [hl] at h; cases h
    · rw [hl] at h
      simp only [Bool.and_eq_true, Nat.ble_eq] at hl
      cases h
      exact ⟨k, hk, hl.1.1, hl.1.2, hl.2, rfl⟩
  · cases h

/-- A cell that is read. -/
theorem cell_run {M : Mem} {wall : Nat} {w : World} (hr : Rel φ M wall w) {b o : Nat} {l : Loc} {v : Value} (hb : φ b = some l) (h : M.cell b o = some v) :
    ∃ v', w.cell? ⟨l.blk, l.off + o, none⟩ = some v' ∧ VR φ v v' := by
  obtain ⟨k, hk, hl, hv⟩ := Mem.cell_some h
  obtain ⟨arr, f, c1, _, _, _, c5⟩ := hr.at_ b l k hb hk hl
  obtain ⟨v', e1, e2⟩ := c5 o v hv
  exact ⟨v', by simp [World.cell?, c1, e1], e2⟩

/-- Cells that are read. -/
theorem row_run {M : Mem} {wall : Nat} {w : World} (hr : Rel φ M wall w) {b o n : Nat} {l : Loc} {cs : List Value} (hb : φ b = some l) (h : M.row b o n = some cs) :
    ∃ cs', cs'.length = n ∧ cs.length = n ∧ VRs φ cs cs' ∧ (∀ (j : Nat) (u : Value), cs'[j]? = some u → w.cell? ((⟨l.blk, l.off + o, none⟩ : Addr).add j) = some u) ∧
      (loadCells ⟨l.blk, l.off + o, none⟩ n).run P w = .ok cs'.toArray w := by
  obtain ⟨k, hk, hl, hfit, rfl⟩ := Mem.row_some h
  obtain ⟨arr, f, c1, _, c3, c4, c5⟩ := hr.at_ b l k hb hk hl
  refine ⟨(arr.toList.drop (l.off + o)).take n, ?_, ?_, ⟨?_, ?_⟩, ?_, ?_⟩
  · simp; omega
  · simp; omega
  · simp; omega
  · intro i v v' h1 h2
    rw [List.getElem?_take] at h1 h2
    split at h1
    · rw [if_pos ‹_›] at h2
      rw [List.getElem?_drop] at h1 h2
      obtain ⟨u, e1, e2⟩ := c5 _ v h1
      rw [Array.getElem?_toList, show l.off + o + i = l.off + (o + i) by omega, e1] at h2
      cases h2
      exact e2
    · cases h1
  · intro j u hu
    rw [List.getElem?_take] at hu
    split at hu
    · rw [List.getElem?_drop, Array.getElem?_toList] at hu
      rw [addr_add]
      simp [World.cell?, c1, hu]
    · cases hu
  · have := run_loadCells_list (P := P) w ⟨l.blk, l.off + o, none⟩ ((arr.toList.drop (l.off + o)).take n) (fun j u hu => by
      rw [List.getElem?_take] at hu
      split at hu
      · rw [List.getElem?_drop, Array.getElem?_toList] at hu
        rw [addr_add]
        simp [World.cell?, c1, hu]
      · cases hu)
    have hl2 : ((arr.toList.drop (l.off + o)).take n).length = n := by simp; omega
    rw [hl2] at this
    exact this

/-- Cells that are written, one behind the other. -/
theorem run_storeCells_thaw (g o : Nat) (t : TypeId) (f : Nat × Nat) : ∀ (vs : List Value) (i : Nat) (cur : Array Value) (w : World), w.heap[g]? = some (.cells cur t f) → Thaw f cur.size → o + i + vs.length ≤ cur.size →
    (∀ v ∈ vs, v.oneCell' = true) →
    (storeCells ⟨g, o, none⟩ vs i).run P w = .ok () (w.setRow g (cur.toList.take (o + i) ++ vs ++ cur.toList.drop (o + i + vs.length)).toArray)
  | [], i, cur, w, hg, _, _, _ => by
    simp only [storeCells, List.append_nil, List.length_nil, Nat.add_zero, List.take_append_drop, Array.toArray_toList]
    rw [setRow_self w g cur t f hg]
    rfl
  | v :: rest, i, cur, w, hg, hf, hl, h1 => by
    have hi : o + i < cur.size := by simp at hl; omega
    have hadd : (⟨g, o, none⟩ : Addr).add i = ⟨g, o + i, none⟩ := addr_add g o i
    have hcell : w.cell? ⟨g, o + i, none⟩ = some cur[o + i] := by simp [World.cell?, hg, hi]
    have hfro : w.frozen? ⟨g, o + i, none⟩ = false := by
      simp only [World.frozen?, hg]
      rcases hf with e | e
      · rw [e]; simp
      · simp; omega
    have hst : (store ((⟨g, o, none⟩ : Addr).add i) v).run P w = .ok () (w.setRow g (cur.setIfInBounds (o + i) v)) := by
      rw [hadd, run_store P w _ v _ (h1 v (by simp)), hcell]
      simp [hfro, setCell_eq_setRow w g (o + i) cur t f v hg]
    have ih := run_storeCells_thaw g o t f rest (i + 1) (cur.setIfInBounds (o + i) v) (w.setRow g (cur.setIfInBounds (o + i) v)) (setRow_heap w g cur _ t _ hg) (by simpa using hf) (by simp at hl ⊢; omega) (fun x hx => h1 x (by simp [hx]))
    simp only [storeCells, Sem.run_bind, hst, Result.andThen_ok, ih, setRow_setRow]
    congr 3
    have e := list_seg_step cur.toList (o + i) v rest (by simp at hl ⊢; omega)
    simpa [Array.toList_setIfInBounds, Nat.add_assoc] using e

theorem getElem?_splice (l m : List Value) (o : Nat) (ho : o + m.length ≤ l.length) (j : Nat) :
    (l.take o ++ (m ++ l.drop (o + m.length)))[j]? = if j < o then l[j]? else if j < o + m.length then m[j - o]? else l[j]? := by
  by_cases h1 : j < o
  · rw [if_pos h1, List.getElem?_append_left (by simp; omega), List.getElem?_take, if_pos h1]
  · rw [if_neg h1, List.getElem?_append_right (by simp; omega)]
    have e1 : j - (l.take o).length = j - o := by simp; omega
    rw [e1]
    by_cases h2 : j < o + m.length
    · rw [if_pos h2, List.getElem?_append_left (by omega)]
    · rw [if_neg h2, List.getElem?_append_right (by omega), List.getElem?_drop]
      congr 1
      omega

/-- A row of cells written into a block. -/
theorem put_run {M M' : Mem} {wall : Nat} {w : World} (hr : Rel φ M wall w) {b o : Nat} {l : Loc} {vs vs' : List Value} (hb : φ b = some l) (hw : wall ≤ b) (h : M.put b o vs = some M') (hv : VRs φ vs vs') :
    ∃ w', (storeCells ⟨l.blk, l.off + o, none⟩ vs').run P w = .ok () w' ∧ Post φ φ M M' wall w w' := by
  obtain ⟨k, hk, hl, hfit, hone, rfl⟩ := Mem.put_some h
  obtain ⟨arr, f, c1, c2, c3, c4, c5⟩ := hr.at_ b l k hb hk hl
  have hlen : vs'.length = vs.length := hv.1.symm
  have hfit' : l.off + o + 0 + vs'.length ≤ arr.size := by omega
  have hrun := run_storeCells_thaw (P := P) l.blk (l.off + o) k.elem f vs' 0 arr w c1 (c2 hw) hfit' (hv.one hone)
  simp only [Nat.add_zero] at hrun
  refine ⟨_, hrun, ?_⟩
  refine post_store hr (arr := arr) (arr' := (arr.toList.take (l.off + o) ++ vs' ++ arr.toList.drop (l.off + o + vs'.length)).toArray) (f := f) (f' := f) hb hk hl hw c1 ?_ ?_ ?_ ?_ ?_ ?_ ?_ rfl rfl rfl
  · simp; omega
  · simp; omega
  · intro j v hj
    rw [getElem?_splice _ _ _ hfit] at hj
    rw [List.append_assoc, List.getElem?_toArray, getElem?_splice _ _ _ (by simp; omega)]
    by_cases h1 : j < o
    · rw [if_pos h1] at hj
      rw [if_pos (by omega)]
      obtain ⟨v', e1, e2⟩ := c5 j v hj
      exact ⟨v', by simpa using e1, e2⟩
    · rw [if_neg h1] at hj
      rw [if_neg (by omega)]
      by_cases h2 : j < o + vs.length
      · rw [if_pos h2] at hj
        rw [if_pos (by omega)]
        obtain ⟨v', e1, e2⟩ := hv.get hj
        exact ⟨v', by rw [← e1]; congr 1; omega, e2⟩
      · rw [if_neg h2] at hj
        rw [if_neg (by omega)]
        obtain ⟨v', e1, e2⟩ := c5 j v hj
        exact ⟨v', by simpa using e1, e2⟩
  · exact setRow_heap w l.blk arr _ k.elem f c1
  · intro h
    have e : (arr.toList.take (l.off + o) ++ vs' ++ arr.toList.drop (l.off + o + vs'.length)).toArray.size = arr.size := by simp; omega
    rw [e]; exact h
  · intro c hc
    exact setRow_other w l.blk c _ hc
  · simp

theorem put1_eq_put {M : Mem} {b o : Nat} {v : Value} : M.put1 b o v = M.put b o [v] := by
  unfold Mem.put1 Mem.put
  cases hk : M[b]? with
  | none => rfl
  | some k =>
    simp only [List.length_singleton, List.all_cons, List.all_nil, Bool.and_true]
    cases hb : (k.live && Nat.ble (o + 1) k.cells.length && v.oneCell')
    · rfl
    · simp only [Bool.and_eq_true, Nat.ble_eq] at hb
      simp only [cond_true, Option.some.injEq]
      congr 2
      apply List.ext_getElem?
      intro j
      have hs := getElem?_splice k.cells [v] o (by simp; omega) j
      simp only [List.length_singleton] at hs
      rw [hs, List.getElem?_set]
      by_cases h1 : j < o
      · rw [if_pos h1, if_neg (by omega)]
      · rw [if_neg h1]
        by_cases h2 : j < o + 1
        · have : o = j := by omega
          subst this
          rw [if_pos h2, if_pos rfl, if_pos (by omega)]
          simp
        · rw [if_neg h2, if_neg (by omega)]

end Go.Ev
