/-
  append, copy, bytes and strings: held against the model's.
-/
import Derived.Test.YteeclgeoconekaaEvMem3
namespace Go.Ev
variable {P : Program} {E : TypeId → Option (List CK)} {φ : Fi}

theorem alloc_old (w : World) (o : Obj) (c : Nat) (h : c < w.heap.size) : (w.alloc o).heap[c]? = w.heap[c]? := by
  show (w.heap.push o)[c]? = _
  rw [Array.getElem?_push, if_neg (by omega)]
theorem alloc_new (w : World) (o : Obj) : (w.alloc o).heap[w.heap.size]? = some o := by
  show (w.heap.push o)[w.heap.size]? = _
  simp

theorem run_first_string (n : Nat) (s : ByteArray) (w : World) : (Builtin.firstCells 1 n (.string s)).run P w = .ok ((strCells s).take n).toArray w := by
  have : ((s.extract 0 n).data.map fun b => Value.int .u8 b.toNat) = ((strCells s).take n).toArray := by
    apply Array.ext'
    simp [strCells, ByteArray.data_extract, Array.toList_extract, List.extract_eq_take_drop, List.map_take]
  simp only [Builtin.firstCells, this, Sem.run_pure]

theorem strCells_flat (s : ByteArray) : (strCells s).all flat1 = true := by
  simp only [strCells, List.all_eq_true, List.mem_map]
  rintro _ ⟨b, _, rfl⟩
  rfl

theorem strCells_length (s : ByteArray) : (strCells s).length = s.size := by simp [strCells]

theorem evSrc_sound {M : Mem} {wall : Nat} {w : World} (hr : Rel φ M wall w) {ts : Array TypeId} {sT e : TypeId} {i : TypeInfo} {z : Value} {x x' : Value} {n : Nat} {news : List Value}
    (h : evSrc P M i ts.toList x = some (n, news)) (hx : VR φ x x') (h0 : ts[0]? = some sT) (hs : P.underlying sT = some (.slice e)) (hi : P.info? e = some i) (hz : i.zero = some z) (hzs : z.cells.size = i.size) (hpos : 0 < i.size) :
    ∃ news', Src P ts e i z x' n news' w ∧ VRs φ news news'.toList ∧ news.length = n * i.size := by
  unfold evSrc at h
  split at h
  · rename_i sT' xT hts
    have h1 : ts[1]? = some xT := by rw [← Array.getElem?_toList, hts]; rfl
    split at h
    · rename_i k hd
      split at h
      · rename_i q m z' hz'
        rw [hz] at hz'
        cases hz'
        split at h
        · rename_i hb
          obtain ⟨b0, b1, b2, b3, b4⟩ := hb
          cases h
          obtain rfl := hx.int_inv
          exact ⟨_, src_zeros h0 h1 hs hd hi hz hzs hpos b0 b1 b2 w, by simpa using VRs.flat_self (zeros_all b4 _), by rw [zeros_length]; simp [hzs]⟩
        · cases h
      · cases h
    · rename_i d hnd hd
      have hnd' : ∀ k, d ≠ .int k := fun k hk => hnd k (by rw [hk])
      split at h
      · cases h
        obtain rfl := hx.snil_inv
        refine ⟨#[], src_of h0 h1 hs hd hnd' hi hz ?_ ?_ ?_, VRs.nil, by simp⟩ <;> simp [Builtin.lenOf, Builtin.firstCells]
      · rename_i a m c
        simp only [Option.bind_eq_some_iff, Option.some.injEq, Prod.mk.injEq] at h
        obtain ⟨cs, hc, rfl, rfl⟩ := h
        obtain ⟨l, c', hl, rfl, _⟩ := hx.slice_inv
        obtain ⟨cs', g1, g2, g3, g4, g5⟩ := row_run (P := P) hr hl hc
        obtain ⟨cs2, g1', _, _, g4', g5'⟩ := row_run (P := P) (hr.heap (w' := w.drew) rfl) hl hc
        have hcc : cs2 = cs' := by
          apply List.ext_getElem?
          intro j
          cases hj : cs'[j]? with
          | none => simp at hj ⊢; omega
          | some u =>
            have hlt : j < cs2.length := by have := lt_of_getElem? hj; omega
            have e2 : cs2[j]? = some cs2[j] := by simp [hlt]
            have a1 := g4 j u hj
            have a2 := g4' j _ e2
            rw [e2]
            exact a2.symm.trans a1
        refine ⟨cs'.toArray, src_of h0 h1 hs hd hnd' hi hz ?_ ?_ ?_, by simpa using g3, by omega⟩
        · simp [Builtin.lenOf]
        · simpa [Builtin.firstCells] using g5
        · rw [hcc] at g5'
          simpa [Builtin.firstCells] using g5'
      · rename_i s
        cases hb : Nat.beq i.size 1
        · rw [hb] at h; cases h
        · rw [hb] at h
          simp only [Nat.beq_eq] at hb
          cases h
          obtain rfl := hx.string_inv
          have e1 : (strCells s).take s.size = strCells s := by rw [List.take_of_length_le]; rw [strCells_length]; exact Nat.le_refl _
          refine ⟨(strCells s).toArray, src_of h0 h1 hs hd hnd' hi hz ?_ ?_ ?_, by simpa using VRs.flat_self (strCells_flat s), by rw [strCells_length, hb]; omega⟩
          · simp [Builtin.lenOf]
          · rw [hb, run_first_string, e1]
          · rw [hb, run_first_string, e1]
      · cases h
    · cases h
  · cases h

theorem drew_post {M : Mem} {wall : Nat} {w : World} (hr : Rel φ M wall w) : Post φ φ M M wall w w.drew := Post.same hr rfl rfl rfl rfl

theorem zeroCells_size (z : Array Value) (n : Nat) : (Builtin.zeroCells z n).size = n * z.size := by simp [Builtin.zeroCells]

theorem evGrow_sound {M M' : Mem} {wall : Nat} {w : World} (hr : Rel φ M wall w) {ts : Array TypeId} {ty e : TypeId} {i : TypeInfo} {z : Value} {s s' x' r : Value} {n : Nat} {news : List Value} {news' : Array Value}
    (h : evGrow M wall e i s n news = some (r, M')) (hs : VR φ s s') (hsrc : Src P ts e i z x' n news' w) (hn : VRs φ news news'.toList) (hl : news.length = n * i.size) (hone : news.all Value.oneCell' = true)
    (hzs : z.cells.size = i.size) :
    ∃ φ' r' w', (Builtin.append_ ts ty #[s', x']).run P w = .ok r' w' ∧ VR φ' r r' ∧ Post φ φ' M M' wall w w' := by
  have hnl : news'.size = n * i.size := by rw [← hl, hn.1]; simp
  unfold evGrow at h
  split at h
  · -- none yet
    obtain rfl := hs.snil_inv
    cases hb : Nat.beq n 0
    · rw [hb] at h
      simp only [cond_false] at h
      cases hb2 : (Nat.ble (n * i.bytes) 140737488355328 && Nat.ble n 4611686018427387904)
      · rw [hb2] at h; cases h
      · rw [hb2] at h
        simp only [cond_true, Option.some.injEq, Prod.mk.injEq] at h
        simp only [Bool.and_eq_true, Nat.ble_eq] at hb2
        obtain ⟨rfl, rfl⟩ := h
        have hn0 : n ≠ 0 := fun e => by rw [e] at hb; cases hb
        have hrun := hsrc.grow ty none 0 0 (by omega) (by simpa using hb2.1) (by omega) #[] (by simp [Builtin.firstCells])
        simp only [Nat.zero_add] at hrun
        refine ⟨upd φ M.length ⟨w.heap.size, 0, (#[] ++ news' ++ Builtin.zeroCells z.cells (grownCap w n 0 e - n)).size⟩, _, _, hrun, ?_, ?_⟩
        · have hcap := grownCap_ge w n 0 e
          refine .slg M.length 0 i.size n n _ _ (upd_same _ _ _) hcap (Nat.le_refl _) ?_
          simp only [Nat.zero_add, Array.size_append, Array.size_empty, zeroCells_size, hzs, hnl]
          rw [← Nat.add_mul]
          exact Nat.le_of_eq (by congr 1; omega)
        · refine post_alloc hr (f := (0, 0)) rfl rfl rfl rfl (.inl rfl) (fun j u hu => ?_) ?_
          · obtain ⟨u', e1, e2⟩ := hn.get hu
            refine ⟨u', ?_, e2⟩
            rw [Array.getElem?_toList] at e1
            rw [Array.getElem?_append_left (by have := (Array.getElem?_eq_some_iff.1 e1).1; simp; omega)]
            simpa using e1
          · simp [hl, hnl]
    · rw [hb] at h
      cases h
      obtain rfl : n = 0 := by simpa using hb
      have hrun := hsrc.place ty none 0 0 (by omega)
      exact ⟨φ, _, w, by simpa using hrun, .scal _ rfl, Post.refl hr⟩
  · rename_i a len cap
    obtain ⟨l, c', hl', rfl, hex, hgr⟩ := hs.slice_inv
    have hcc : cap ≤ c' := by
      cases hs0 : a.spot with
      | none => rw [hex hs0]; exact Nat.le_refl _
      | some y => exact (hgr y hs0).1
    -- the slice behind an append in place
    have back : ∀ n', (a.spot = none ∨ n' ≤ cap) → VR φ (.slice (some a) n' cap) (.slice (some ⟨l.blk, l.off + a.off, none⟩) n' c') := by
      intro n' hle
      cases hs0 : a.spot with
      | none =>
        have ea : a = ⟨a.block, a.off, none⟩ := by cases a; simp at hs0; subst hs0; rfl
        rw [hex hs0, ea]
        exact .sl _ _ _ _ l hl'
      | some y =>
        have ea : a = ⟨a.block, a.off, some y⟩ := by cases a; simp at hs0; subst hs0; rfl
        obtain ⟨g1, g2, g3⟩ := hgr y hs0
        rw [ea]
        have hle' : n' ≤ cap := by
          rcases hle with hle | hle
          · rw [hs0] at hle; cases hle
          · exact hle
        exact .slg _ _ _ _ _ _ l hl' g1 hle' g3
    cases hb : Nat.ble (len + n) cap
    · rw [hb] at h
      simp only [cond_false] at h
      cases hb2 : (Nat.ble ((len + n) * i.bytes) 140737488355328 && Nat.ble (len + n) 4611686018427387904)
      · rw [hb2] at h; cases h
      · rw [hb2] at h
        simp only [cond_true, Option.bind_eq_some_iff] at h
        simp only [Bool.and_eq_true, Nat.ble_eq] at hb2
        obtain ⟨old, hold, h⟩ := h
        have hroom : ¬len + n ≤ cap := fun e => by rw [Nat.ble_eq_true_of_le e] at hb; cases hb
        obtain ⟨old', g1, g2, g3, g4, g5⟩ := row_run (P := P) (hr.heap (w' := w.drew) rfl) hl' hold
        have growing : ¬len + n ≤ c' → (Builtin.append_ ts ty #[.slice (some ⟨l.blk, l.off + a.off, none⟩) len c', x']).run P w = .ok (.slice (some ⟨w.heap.size, 0, none⟩) (len + n) (grownCap w (len + n) c' e))
            (w.drew.alloc (.cells (old'.toArray ++ news' ++ Builtin.zeroCells z.cells (grownCap w (len + n) c' e - (len + n))) e)) :=
          fun hno => hsrc.grow ty (some _) len c' hno hb2.1 hb2.2 old'.toArray (by simpa [Builtin.firstCells] using g5)
        have hcells : ∀ (c : Nat) (j : Nat) (v : Value), (old ++ news)[j]? = some v → ∃ v', (old'.toArray ++ news' ++ Builtin.zeroCells z.cells c)[j]? = some v' ∧ VR φ v v' := by
          intro c j v hv
          obtain ⟨v', e1, e2⟩ := (g3.append hn).get hv
          refine ⟨v', ?_, e2⟩
          rw [Array.getElem?_append_left (by have := lt_of_getElem? e1; simpa using this), ← Array.getElem?_toList]
          simpa using e1
        have hsize : ∀ c, (old'.toArray ++ news' ++ Builtin.zeroCells z.cells c).size = (len + n) * i.size + c * i.size := by
          intro c
          simp only [Array.size_append, List.size_toArray, zeroCells_size, hzs, hnl, g1]
          rw [Nat.add_mul]
        split at h
        · rename_i hs0
          cases h
          have hc0 := hex hs0
          subst hc0
          refine ⟨upd φ M.length ⟨w.heap.size, 0, (old'.toArray ++ news' ++ Builtin.zeroCells z.cells (grownCap w (len + n) c' e - (len + n))).size⟩, _, _, growing hroom, ?_, ?_⟩
          · have hcap := grownCap_ge w (len + n) c' e
            refine .slg M.length 0 i.size _ _ _ _ (upd_same _ _ _) hcap (Nat.le_refl _) ?_
            rw [hsize]
            simp only [Nat.zero_add]
            rw [← Nat.add_mul]
            exact Nat.le_of_eq (by congr 1; omega)
          · refine post_alloc hr (f := (0, 0)) rfl rfl rfl rfl (.inl rfl) (hcells _) ?_
            rw [hsize]
            simp [g2, hl, Nat.add_mul]
        · rename_i y hs0
          cases hb3 : (Nat.beq y i.size && Nat.ble wall a.block && M.elemIs a.block e)
          · rw [hb3] at h; cases h
          · rw [hb3] at h
            simp only [cond_true, Option.some.injEq, Prod.mk.injEq] at h
            obtain ⟨rfl, rfl⟩ := h
            simp only [Bool.and_eq_true, Nat.beq_eq, Nat.ble_eq] at hb3
            obtain ⟨⟨rfl, hwall⟩, hel⟩ := hb3
            obtain ⟨k, hk, hkl, hfit, rfl⟩ := Mem.row_some hold
            simp only [Mem.elemIs, hk, Nat.beq_eq] at hel
            obtain ⟨q1, q2, q3⟩ := hgr i.size hs0
            obtain ⟨arr, f, c1, c2, c3, c4, c5⟩ := hr.at_ _ l k hl' hk hkl
            by_cases hno : len + n ≤ c'
            · -- in place
              have hrun := hsrc.place ty (some ⟨l.blk, l.off + a.off, none⟩) len c' hno
              have hle : (len + n) * i.size ≤ c' * i.size := Nat.mul_le_mul_right _ hno
              rw [Nat.add_mul] at hle
              have hst := run_storeCells_thaw (P := P) l.blk (l.off + a.off + len * i.size) k.elem f news'.toList 0 arr w c1 (c2 hwall) (by simp [hnl]; omega) (hn.one hone)
              simp only [Nat.add_zero] at hst
              dsimp only at hrun
              rw [addr_add] at hrun
              rw [hst] at hrun
              simp only [Result.andThen_ok] at hrun
              refine ⟨upd φ M.length ⟨l.blk, l.off + a.off, l.room⟩, _, _, hrun, ?_, ?_⟩
              · have := VR.slg (φ := upd φ M.length ⟨l.blk, l.off + a.off, l.room⟩) M.length 0 i.size (len + n) (len + n) c' _ (upd_same _ _ _) hno (Nat.le_refl _) (by simpa using q3)
                simpa using this
              · refine post_move hr (l2 := ⟨l.blk, l.off + a.off, l.room⟩) (f := f) hl' hk hkl hwall (.inl rfl) (setRow_heap w l.blk arr _ k.elem f c1 |>.trans (by rw [hel])) ?_ ?_ ?_ ?_ ?_ ?_ rfl rfl rfl
                · have e : (arr.toList.take (l.off + a.off + len * i.size) ++ news'.toList ++ arr.toList.drop (l.off + a.off + len * i.size + news'.toList.length)).toArray.size = arr.size := by
                    simp [hnl]; omega
                  rw [e]
                  exact c2 hwall
                · simp [hnl]; omega
                · simp [hl]; omega
                · intro j v hv
                  rw [List.append_assoc, List.getElem?_toArray, getElem?_splice _ _ _ (by simp [hnl]; omega)]
                  by_cases hj : j < len * i.size
                  · rw [List.getElem?_append_left (by simp; omega), List.getElem?_take, if_pos hj, List.getElem?_drop] at hv
                    dsimp only
                    rw [if_pos (by omega)]
                    obtain ⟨v', e1, e2⟩ := c5 _ v hv
                    exact ⟨v', by rw [Array.getElem?_toList, ← e1]; congr 1; omega, e2⟩
                  · rw [List.getElem?_append_right (by simp; omega)] at hv
                    have hlo : ((k.cells.drop a.off).take (len * i.size)).length = len * i.size := by simp; omega
                    rw [hlo] at hv
                    have hlt := lt_of_getElem? hv
                    dsimp only
                    rw [if_neg (by omega), if_pos (by simp [hnl]; omega)]
                    obtain ⟨v', e1, e2⟩ := hn.get hv
                    exact ⟨v', by rw [← e1]; congr 1; omega, e2⟩
                · intro c hc _
                  exact setRow_other w l.blk c _ hc
                · simp
            · -- a new array
              refine ⟨upd φ M.length ⟨w.heap.size, 0, (old'.toArray ++ news' ++ Builtin.zeroCells z.cells (grownCap w (len + n) c' e - (len + n))).size⟩, _, _, growing hno, ?_, ?_⟩
              · have hcap := grownCap_ge w (len + n) c' e
                refine .slg M.length 0 i.size _ _ _ _ (upd_same _ _ _) hcap (Nat.le_refl _) ?_
                rw [hsize]
                simp only [Nat.zero_add]
                rw [← Nat.add_mul]
                exact Nat.le_of_eq (by congr 1; omega)
              · refine post_move hr (l2 := ⟨w.heap.size, 0, (old'.toArray ++ news' ++ Builtin.zeroCells z.cells (grownCap w (len + n) c' e - (len + n))).size⟩) (f := (0, 0)) hl' hk hkl hwall (.inr (Nat.le_refl _))
                  (heap_alloc_new w.drew _) (.inl rfl) rfl ?_ ?_ ?_ ?_ rfl rfl rfl
                · rw [hsize]
                  dsimp only
                  rw [List.length_append, g2, hl, Nat.add_mul]
                  omega
                · intro j v hv
                  simpa using hcells _ j v hv
                · intro c _ hc
                  exact alloc_old w.drew _ c (show c < w.drew.heap.size from hc)
                · have : w.drew.heap.size ≤ (w.drew.alloc (.cells (old'.toArray ++ news' ++ Builtin.zeroCells z.cells (grownCap w (len + n) c' e - (len + n))) e)).heap.size := by simp
                  exact this
    · rw [hb] at h
      simp only [cond_true] at h
      have hroom : len + n ≤ cap := Nat.le_of_ble_eq_true hb
      have hrun := hsrc.place ty (some ⟨l.blk, l.off + a.off, none⟩) len c' (by omega)
      cases hb2 : Nat.beq n 0
      · rw [hb2] at h
        simp only [cond_false] at h
        cases hb3 : Nat.ble wall a.block
        · rw [hb3] at h; cases h
        · rw [hb3] at h
          simp only [cond_true, Option.bind_eq_some_iff, Option.some.injEq, Prod.mk.injEq] at h
          obtain ⟨M2, hput, rfl, rfl⟩ := h
          obtain ⟨w', e1, e2⟩ := put_run (P := P) hr hl' (Nat.le_of_ble_eq_true hb3) hput hn
          dsimp only at hrun
          rw [addr_add] at hrun
          simp only [Nat.add_assoc] at hrun e1
          rw [e1] at hrun
          simp only [Result.andThen_ok] at hrun
          refine ⟨φ, _, w', by simpa only [Nat.add_assoc] using hrun, back _ (.inr (by omega)), e2⟩
      · rw [hb2] at h
        cases h
        obtain rfl : n = 0 := by simpa using hb2
        have hnil : news'.toList = [] := by simpa using hnl
        rw [hnil] at hrun
        simp only [storeCells, Sem.run_pure, Result.andThen_ok] at hrun
        refine ⟨φ, _, w, hrun, ?_, Post.refl hr⟩
        exact back len (.inr (by omega))
  · cases h

theorem evAppend_sound {M M' : Mem} {wall : Nat} {w : World} (hr : Rel φ M wall w) {ts : Array TypeId} {ty : TypeId} {s s' x x' r : Value} (h : evAppend P M wall ts.toList s x = some (r, M')) (hs : VR φ s s') (hx : VR φ x x') :
    ∃ φ' r' w', (Builtin.append_ ts ty #[s', x']).run P w = .ok r' w' ∧ VR φ' r r' ∧ Post φ φ' M M' wall w w' := by
  unfold evAppend at h
  split at h
  · rename_i sT rest hts
    have h0 : ts[0]? = some sT := by rw [← Array.getElem?_toList, hts]; rfl
    split at h
    · rename_i e hu
      split at h
      · rename_i i hi
        split at h
        · rename_i z hz
          cases hb : (Nat.blt 0 i.size && Nat.beq z.cells.size i.size)
          · rw [hb] at h; cases h
          · rw [hb] at h
            simp only [Bool.and_eq_true, Nat.blt_eq, Nat.beq_eq] at hb
            simp only [cond_true, Option.bind_eq_some_iff] at h
            obtain ⟨⟨n, news⟩, hsrc, h⟩ := h
            dsimp only at h
            cases hone : news.all Value.oneCell'
            · rw [hone] at h; cases h
            · rw [hone] at h
              simp only [cond_true] at h
              obtain ⟨news', g1, g2, g3⟩ := evSrc_sound hr hsrc hx h0 hu hi hz hb.2 hb.1
              exact evGrow_sound hr h hs g1 g2 g3 hone hb.2
        · cases h
      · cases h
    · cases h
  · cases h

theorem evCopy_sound {M M' : Mem} {wall : Nat} {w : World} (hr : Rel φ M wall w) {ts : Array TypeId} {ty : TypeId} {d d' x x' r : Value} (h : evCopy P M wall ts.toList d x = some (r, M')) (hd : VR φ d d') (hx : VR φ x x') :
    ∃ r' w', (Builtin.copy_ ts ty #[d', x']).run P w = .ok r' w' ∧ VR φ r r' ∧ Post φ φ M M' wall w w' := by
  unfold evCopy at h
  split at h
  · rename_i sT rest da dLen dCap hts
    have h0 : ts[0]? = some sT := by rw [← Array.getElem?_toList, hts]; rfl
    split at h
    · rename_i e hu
      split at h
      · rename_i i hi
        simp only [Option.bind_eq_some_iff] at h
        obtain ⟨⟨n, cs⟩, hsrc, h⟩ := h
        dsimp only at h
        -- what is read
        have hread : ∃ (sl : Nat) (cs' : List Value), (Builtin.lenOf x').run P w = .ok sl w ∧ Nat.min sl dLen = n ∧ (Builtin.firstCells i.size n x').run P w = .ok cs'.toArray w ∧ VRs φ cs cs' ∧ (n = 0 → cs' = []) := by
          split at hsrc
          · cases hsrc
            obtain rfl := hx.snil_inv
            exact ⟨0, [], by simp [Builtin.lenOf], Nat.zero_min dLen, by simp [Builtin.firstCells], .nil, fun _ => rfl⟩
          · rename_i a m c
            simp only [Option.bind_eq_some_iff, Option.some.injEq, Prod.mk.injEq] at hsrc
            obtain ⟨cs0, hc, rfl, rfl⟩ := hsrc
            obtain ⟨l, c', hl, rfl, _⟩ := hx.slice_inv
            obtain ⟨cs', g1, g2, g3, g4, g5⟩ := row_run (P := P) hr hl hc
            exact ⟨m, cs', by simp [Builtin.lenOf], rfl, by simpa [Builtin.firstCells] using g5, g3, fun e => by rw [e] at g1; simpa using g1⟩
          · rename_i s
            cases hb : Nat.beq i.size 1
            · rw [hb] at hsrc; cases hsrc
            · rw [hb] at hsrc
              simp only [Nat.beq_eq] at hb
              cases hsrc
              obtain rfl := hx.string_inv
              refine ⟨s.size, (strCells s).take (min s.size dLen), by simp [Builtin.lenOf], rfl, by rw [hb, run_first_string], VRs.flat_self ?_, fun e => by rw [e]; rfl⟩
              simp only [List.all_eq_true]
              intro v hv
              exact List.all_eq_true.1 (strCells_flat s) v (List.mem_of_mem_take hv)
          · cases hsrc
        obtain ⟨sl, cs', r1, r2, r3, r4, r5⟩ := hread
        have hrun : ∀ (base : Option Addr) (c : Nat), (Builtin.copy_ ts ty #[.slice base dLen c, x']).run P w =
            ((match base with | some a => storeCells a cs' | none => pure () : Sem Unit).run P w).andThen fun _ w2 => .ok (.int .i64 n) w2 := by
          intro base c
          simp only [Builtin.copy_, h0, List.getElem?_toArray, List.getElem?_cons_zero, List.getElem?_cons_succ, Sem.run_bind, run_underlying hu, Result.andThen_ok, r1, r2, run_sizeOf' hi, r3]
          cases base <;> simp [goInt]
        split at h
        · obtain rfl := hd.snil_inv
          cases hb : Nat.beq n 0
          · rw [hb] at h; cases h
          · rw [hb] at h
            cases h
            obtain rfl : n = 0 := by simpa using hb
            exact ⟨_, w, by rw [hrun]; rfl, .scal _ rfl, Post.refl hr⟩
        · rename_i a
          obtain ⟨l, c', hl, rfl, _⟩ := hd.slice_inv
          cases hb : Nat.beq n 0
          · rw [hb] at h
            simp only [cond_false] at h
            cases hb3 : Nat.ble wall a.block
            · rw [hb3] at h; cases h
            · rw [hb3] at h
              simp only [cond_true, Option.bind_eq_some_iff, Option.some.injEq, Prod.mk.injEq] at h
              obtain ⟨M2, hput, rfl, rfl⟩ := h
              obtain ⟨w', e1, e2⟩ := put_run (P := P) hr hl (Nat.le_of_ble_eq_true hb3) hput r4
              refine ⟨.int .i64 n, w', ?_, .scal _ rfl, e2⟩
              rw [hrun]
              simp [e1]
          · rw [hb] at h
            cases h
            obtain rfl : n = 0 := by simpa using hb
            refine ⟨.int .i64 0, w, ?_, .scal _ rfl, Post.refl hr⟩
            rw [hrun, r5 rfl]
            rfl
      · cases h
    · cases h
  · cases h

theorem bytes_of_cells : ∀ (cs : List Value) (bs : List UInt8), cs.mapM byteOf? = some bs → ∃ ns : List Int, cs = ns.map (Value.int .u8) ∧ bs = ns.map fun n => UInt8.ofNat n.toNat := by
  intro cs
  induction cs with
  | nil => intro bs h; simp at h; subst h; exact ⟨[], rfl, rfl⟩
  | cons c cs ih =>
    intro bs h
    simp only [List.mapM_cons, Option.bind_eq_bind, Option.bind_eq_some_iff, Option.pure_def, Option.some.injEq] at h
    obtain ⟨b, hb, bs', hbs, rfl⟩ := h
    obtain ⟨ns, rfl, rfl⟩ := ih bs' hbs
    unfold byteOf? at hb
    split at hb
    · rename_i n
      cases hb
      exact ⟨n :: ns, rfl, rfl⟩
    · cases hb

theorem foldl_push (ns : List Int) : ∀ acc : ByteArray, ns.foldl (fun r n => r.push (UInt8.ofNat n.toNat)) acc = ⟨acc.data ++ (ns.map fun n => UInt8.ofNat n.toNat).toArray⟩ := by
  induction ns with
  | nil => intro acc; simp
  | cons n ns ih => intro acc; rw [List.foldl_cons, ih]; simp [ByteArray.push]

theorem evConv_sound {M M' : Mem} {wall : Nat} {w : World} (hr : Rel φ M wall w) {src dst : TypeId} {x x' r : Value} (h : evConv P M wall src dst x = some (r, M')) (hx : VR φ x x') :
    ∃ φ' r' w', (convert src dst x').run P w = .ok r' w' ∧ VR φ' r r' ∧ Post φ φ' M M' wall w w' := by
  unfold evConv at h
  split at h
  · rename_i e s hsrc hdst
    split at h
    · rename_i he
      cases h
      obtain rfl := hx.string_inv
      have hcap := grownCap_ge w s.size 0 e
      let arr : Array Value := (s.data.map fun b => .int .u8 b.toNat) ++ Array.replicate (grownCap w s.size 0 e - s.size) (.int .u8 0)
      have hsz : arr.size = grownCap w s.size 0 e := by
        have : (s.data.map fun b => Value.int .u8 b.toNat).size = s.size := by simp
        simp only [arr, Array.size_append, this, Array.size_replicate]
        omega
      refine ⟨upd φ M.length ⟨w.heap.size, 0, arr.size⟩, .slice (some ⟨w.heap.size, 0, none⟩) s.size (grownCap w s.size 0 e), { w with drawn := w.drawn + 1, heap := w.heap.push (.cells arr e (arr.size, arr.size + 1)) }, ?_, ?_, ?_⟩
      · have hch : (choose (.appendCap s.size 0 e)).run P w = .ok (grownCap w s.size 0 e) w.drew := rfl
        have hmark : (markStringish ⟨w.heap.size, 0, none⟩).run P (w.drew.alloc (.cells arr e)) = .ok () { w with drawn := w.drawn + 1, heap := w.heap.push (.cells arr e (arr.size, arr.size + 1)) } := by
          have hsh : (w.drew.alloc (.cells arr e)).shape? w.heap.size = some (e, arr.size) := by
            have : (w.drew.alloc (.cells arr e)).heap[w.heap.size]? = some (.cells arr e) := alloc_new w.drew _
            unfold World.shape?
            rw [this]
          simp only [markStringish, shape, Sem.run_bind, Sem.run, hsh, Result.andThen_ok, freeze]
          congr 1
          unfold World.freeze
          simp only [Nat.succ_ne_zero, if_false]
          show ({ w.drew.alloc (.cells arr e) with heap := _ } : World) = _
          have hpush : (w.drew.alloc (.cells arr e)).heap = w.heap.push (.cells arr e) := rfl
          rw [hpush]
          have hmod : (w.heap.push (.cells arr e)).modify w.heap.size (fun o => match o with
              | .cells c elem (lo, hi) => .cells c elem (if lo == hi then (arr.size, arr.size + 1) else (min lo arr.size, max hi (arr.size + 1)))
              | o => o) = w.heap.push (.cells arr e (arr.size, arr.size + 1)) := by
            apply Array.ext
            · simp
            · intro j h1 h2
              rw [Array.getElem_modify]
              by_cases hj : w.heap.size = j
              · subst hj
                simp
              · rw [if_neg hj]
                have : j < w.heap.size := by simp at h2; omega
                simp [Array.getElem_push, this]
          exact congrArg (fun hp => ({ heap := hp, tape := w.tape, drawn := w.drawn + 1, os := w.os, output := w.output } : World)) hmod
        simp only [convert, run_underlying hsrc, run_underlying hdst, run_underlying he, Sem.run_bind, Result.andThen_ok, Conv.stringToBytes, hch, run_newRow]
        have e0 : w.drew.heap.size = w.heap.size := rfl
        simp only [e0]
        rw [hmark]
        rfl
      · refine .slg M.length 0 1 _ _ _ _ (upd_same _ _ _) hcap (Nat.le_refl _) ?_
        rw [hsz]
        simp
      · refine post_alloc hr (f := (arr.size, arr.size + 1)) rfl rfl rfl rfl (.inr (Nat.le_refl _)) (fun j v hv => ⟨v, ?_, .scal _ (List.all_eq_true.1 (strCells_flat s) _ (List.mem_of_getElem? hv))⟩) ?_
        · have hlt : j < s.size := by have := lt_of_getElem? hv; rwa [strCells_length] at this
          simp only [arr]
          rw [Array.getElem?_append_left (by simpa using hlt), ← Array.getElem?_toList]
          simpa [strCells] using hv
        · rw [hsz, strCells_length]
          exact hcap
    · cases h
  · rename_i e a n c hsrc hdst
    split at h
    · rename_i he
      split at h
      · cases hb : Nat.beq n 0
        · rw [hb] at h; cases h
        · rw [hb] at h
          cases h
          obtain rfl := hx.snil_inv
          exact ⟨φ, .string .empty, w, by simp [convert, run_underlying hsrc, run_underlying hdst, run_underlying he, Conv.bytesToString], .scal _ rfl, Post.refl hr⟩
      · rename_i a
        simp only [Option.bind_eq_some_iff, Option.some.injEq, Prod.mk.injEq] at h
        obtain ⟨cs, hc, bs, hbs, rfl, rfl⟩ := h
        obtain ⟨l, c', hl, rfl, _⟩ := hx.slice_inv
        obtain ⟨cs', g1, g2, g3, g4, g5⟩ := row_run (P := P) hr hl hc
        obtain ⟨ns, rfl, rfl⟩ := bytes_of_cells cs bs hbs
        have hflat : (ns.map (Value.int .u8)).all flat1 = true := by
          simp only [List.all_eq_true, List.mem_map]
          rintro _ ⟨b, _, rfl⟩
          rfl
        rw [g3.of_flat hflat] at g5
        refine ⟨φ, .string ⟨(ns.map fun n => UInt8.ofNat n.toNat).toArray⟩, w, ?_, .scal _ rfl, Post.refl hr⟩
        rw [run_convert_bytes_string w src dst e _ _ _ hsrc he hdst, run_bytesToString w _ _ _ ns g5, foldl_push]
        simp
    · cases h
  · rename_i d e a n c hsrc hdst
    split at h
    · rename_i he
      cases hb : (Nat.beq src dst && Nat.ble wall a.block && M.liveAt a.block)
      · rw [hb] at h; cases h
      · rw [hb] at h
        cases h
        simp only [Bool.and_eq_true, Nat.beq_eq, Nat.ble_eq] at hb
        obtain ⟨⟨rfl, hwall⟩, hlive⟩ := hb
        obtain ⟨l, c', hl, rfl, _⟩ := hx.slice_inv
        unfold Mem.liveAt at hlive
        split at hlive
        · rename_i k hk
          obtain ⟨arr, f, c1, c2, c3, c4, c5⟩ := hr.at_ _ l k hl hk hlive
          have hlt : l.blk < w.heap.size := (Array.getElem?_eq_some_iff.1 c1).1
          let f' : Nat × Nat := if f.1 == f.2 then (arr.size, arr.size + 1) else (min f.1 arr.size, max f.2 (arr.size + 1))
          have hsh : w.shape? l.blk = some (k.elem, arr.size) := by
            unfold World.shape?
            rw [c1]
          have hrun : (convert src src (.slice (some ⟨l.blk, l.off + a.off, none⟩) n c')).run P w = .ok (.slice (some ⟨l.blk, l.off + a.off, none⟩) n c') (w.freeze ⟨l.blk, arr.size, none⟩ 1) := by
            have hm : (markStringish ⟨l.blk, l.off + a.off, none⟩).run P w = .ok () (w.freeze ⟨l.blk, arr.size, none⟩ 1) := by
              simp only [markStringish, shape, Sem.run_bind, Sem.run, hsh, Result.andThen_ok, freeze]
            have hde : d = e := by rw [hsrc] at hdst; cases hdst; rfl
            subst hde
            simp only [convert, run_underlying hsrc, run_underlying he, Sem.run_bind, Result.andThen_ok, beq_self_eq_true, hm, Sem.run_pure]
          have hnew : (w.freeze ⟨l.blk, arr.size, none⟩ 1).heap[l.blk]? = some (.cells arr k.elem f') := by
            unfold World.freeze
            simp only [Nat.succ_ne_zero, if_false]
            rw [Array.getElem?_modify, if_pos rfl, c1]
            rfl
          have hold : ∀ c, c ≠ l.blk → (w.freeze ⟨l.blk, arr.size, none⟩ 1).heap[c]? = w.heap[c]? := by
            intro c hc
            unfold World.freeze
            simp only [Nat.succ_ne_zero, if_false]
            rw [Array.getElem?_modify, if_neg (fun x => hc x.symm)]
          have hMset : M.set a.block { k with cells := k.cells } = M := by
            apply List.ext_getElem?
            intro j
            rw [List.getElem?_set]
            by_cases hj : a.block = j
            · rw [if_pos hj, if_pos (lt_of_getElem? hk), ← hj, hk]
            · rw [if_neg hj]
          have hp := post_store hr (arr := arr) (arr' := arr) (cs := k.cells) (f := f) (f' := f') (w' := w.freeze ⟨l.blk, arr.size, none⟩ 1) hl hk hlive hwall c1 rfl rfl c5 hnew (by
            intro hf
            simp only [f']
            split
            · exact .inr (Nat.le_refl _)
            · rename_i hne
              rcases hf with hf | hf
              · exact absurd (by simpa using hf) hne
              · exact .inr (by simp; omega)) hold (by simp [World.freeze]) (by simp [World.freeze]) (by simp [World.freeze]) (by simp [World.freeze])
          rw [hMset] at hp
          exact ⟨φ, _, _, hrun, hx, hp⟩
        · cases hlive
    · cases h
  · cases h

end Go.Ev
