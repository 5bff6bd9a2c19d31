/-
  The evaluator's operations on memory, held against the model's.
-/
import Derived.Test.YteeclgeoconekaaEvMem
namespace Go.Ev
variable {P : Program} {E : TypeId → Option (List CK)} {φ : Fi}

theorem Rel.heap {M : Mem} {wall : Nat} {w w' : World} (hr : Rel φ M wall w) (h : w'.heap = w.heap) : Rel φ M wall w' :=
  ⟨hr.dom, fun b l k h1 h2 h3 => let ⟨arr, f, c1, c2⟩ := hr.at_ b l k h1 h2 h3; ⟨arr, f, by rw [h]; exact c1, c2⟩, hr.sep⟩

theorem run_load_cell {a : Addr} {v : Value} {w : World} (h : w.cell? a = some v) : (load a).run P w = .ok v w := by simp [load, Sem.run, h]

theorem isInt_eq {k : IntKind} {v : Value} (h : isInt k v = true) : v = .int k (intOf v) := by
  cases v with
  | int k' n => cases k <;> cases k' <;> first | rfl | cases h
  | _ => cases h

theorem evLoadT_some {M : Mem} {t : TypeId} {x v : Value} (h : evLoadT P M t x = some v) : evLoad P M t x = some v := by
  unfold evLoadT at h
  split at h
  · rename_i k _
    cases hb : okInt k (evLoad P M t x)
    · rw [hb] at h; cases h
    · rw [hb] at h
      cases hl : evLoad P M t x with
      | none => rw [hl] at hb; cases hb
      | some u =>
        rw [hl] at hb h
        cases h
        exact congrArg some (isInt_eq hb)
  · exact h

theorem evLoad_sound {M : Mem} {wall : Nat} {w : World} (hr : Rel φ M wall w) {t : TypeId} {x x' v : Value} (h : evLoad P M t x = some v) (hx : VR φ x x') :
    ∃ v', (Instr.loadAt t x').run P w = .ok v' w ∧ VR φ v v' := by
  unfold evLoad at h
  split at h
  · obtain ⟨l, _, hl, rfl⟩ := hx.ptr_inv
    split at h
    · rename_i ht hi
      simp only [Option.bind_eq_some_iff, Option.some.injEq] at h
      obtain ⟨cs, hc, rfl⟩ := h
      obtain ⟨cs', h1, h2, h3, h4, h5⟩ := row_run (P := P) hr hl hc
      exact ⟨.agg cs'.toArray, by simp [Instr.loadAt, Instr.sureAddr, loadVar, tyAgg_run ht, run_sizeOf' hi, h5], VR.agg_of h3⟩
    · rename_i ht
      obtain ⟨v', e1, e2⟩ := cell_run hr hl h
      exact ⟨v', by simp [Instr.loadAt, Instr.sureAddr, loadVar, tyAgg_run ht, e1], e2⟩
    · cases h
  · cases h

theorem evStore_sound {M M' : Mem} {wall : Nat} {w : World} (hr : Rel φ M wall w) {t : TypeId} {x x' v v' : Value} (h : evStore P M wall t x v = some M') (hx : VR φ x x') (hv : VR φ v v') :
    ∃ w', (Instr.storeAt t x' v').run P w = .ok () w' ∧ Post φ φ M M' wall w w' := by
  unfold evStore at h
  split at h
  · rename_i a i hi
    obtain ⟨l, _, hl, rfl⟩ := hx.ptr_inv
    cases hb : (Nat.ble wall a.block && Nat.beq v.cells.size i.size)
    · rw [hb] at h; cases h
    · rw [hb] at h
      simp only [Bool.and_eq_true, Nat.ble_eq, Nat.beq_eq] at hb
      simp only [cond_true] at h
      have hput : M.put a.block a.off v.cells.toList = some M' := by
        split at h
        · exact h
        · rename_i hno
          rw [put1_eq_put] at h
          cases v <;> first | exact (hno _ rfl).elim | exact h
      obtain ⟨k, _, _, _, hone, _⟩ := Mem.put_some hput
      obtain ⟨w', h1, h2⟩ := put_run (P := P) hr hl hb.1 hput (hv.cellsL hone)
      have hsz : v'.cells.size = i.size := by rw [← (hv.cells hone).1]; exact hb.2
      exact ⟨w', by simp [Instr.storeAt, Instr.sureAddr, storeVar, run_sizeOf' hi, hsz, h1], h2⟩
  · cases h

theorem evBox_sound {M M' : Mem} {wall : Nat} {w : World} (hr : Rel φ M wall w) {t : TypeId} {v v' r : Value} (h : evBox M t v = some (r, M')) (hv : VR φ v v') :
    ∃ φ' r' w', (newVar t v').run P w = .ok r' w' ∧ VR φ' r (.pointer (some r')) ∧ Post φ φ' M M' wall w w' := by
  unfold evBox at h
  cases hb : v.cells.toList.all Value.oneCell'
  · rw [hb] at h; cases h
  · rw [hb] at h
    simp only [cond_true, Option.some.injEq, Prod.mk.injEq] at h
    obtain ⟨rfl, rfl⟩ := h
    have hc := hv.cellsL hb
    refine ⟨upd φ M.length ⟨w.heap.size, 0, v'.cells.size⟩, ⟨w.heap.size, 0, none⟩, w.alloc (.cells v'.cells t), rfl, ?_, ?_⟩
    · exact .ptr _ 0 _ (upd_same _ _ _)
    · exact post_alloc hr (f := (0, 0)) rfl rfl rfl rfl (.inl rfl) (fun j u hu => by
        obtain ⟨u', e1, e2⟩ := hc.get hu
        exact ⟨u', by simpa using e1, e2⟩) (by have := hc.1; simp at this ⊢; omega)

theorem zeros_flatten (z : List Value) (n : Nat) : zeros z n = (List.replicate n z).flatten := by
  unfold zeros
  split
  · rename_i v
    induction n with
    | zero => rfl
    | succ n ih => simp only [List.replicate_succ, List.flatten_cons, List.singleton_append, ih]
  · rfl

theorem zeros_length (z : List Value) (n : Nat) : (zeros z n).length = n * z.length := by
  rw [zeros_flatten]
  simp

theorem zeros_get (z : List Value) (hz : 0 < z.length) (n : Nat) : ∀ j, j < n * z.length → (zeros z n)[j]? = z[j % z.length]? := by
  rw [zeros_flatten]
  induction n with
  | zero => intro j hj; simp at hj
  | succ n ih =>
    intro j hj
    rw [List.replicate_succ, List.flatten_cons, List.getElem?_append]
    split
    · rename_i h; rw [Nat.mod_eq_of_lt h]
    · rename_i h
      rw [ih (j - z.length) (by rw [Nat.add_mul] at hj; omega)]
      congr 1
      have : j = (j - z.length) + z.length := by omega
      conv => rhs; rw [this]
      simp

theorem zeros_all {z : List Value} {p : Value → Bool} (h : z.all p = true) (n : Nat) : (zeros z n).all p = true := by
  rw [zeros_flatten]
  simp only [List.all_eq_true, List.mem_flatten, List.mem_replicate] at h ⊢
  rintro x ⟨l, ⟨_, rfl⟩, hx⟩
  exact h x hx

theorem range_zero (z : Array Value) (hz : 0 < z.size) (m : Nat) (n : Nat) (hm : m = n * z.size) : ((Array.range m).map fun i => z[i % z.size]!).toList = zeros z.toList n := by
  apply List.ext_getElem?
  intro j
  by_cases hj : j < m
  · rw [zeros_get z.toList (by simpa using hz) n j (by simp; omega)]
    have : j % z.size < z.size := Nat.mod_lt _ hz
    simp [hj, this]
  · have h1 : (zeros z.toList n).length = m := by rw [zeros_length]; simp; omega
    have h2 : (zeros z.toList n)[j]? = none := by rw [List.getElem?_eq_none_iff]; omega
    rw [h2]
    simp; omega

theorem flat1_one {v : Value} (h : flat1 v = true) : v.oneCell' = true := by cases v <;> first | rfl | simp [flat1] at h

theorem run_askRoom (n : Nat) (w : World) : (askRoom n).run P w = .ok () w := by
  unfold askRoom
  split <;> simp [mark, Sem.run]

theorem run_newRow (e : TypeId) (cs : Array Value) (w : World) : (newRow e cs).run P w = .ok ⟨w.heap.size, 0, none⟩ (w.alloc (.cells cs e)) := rfl

theorem wrap_in {n : Int} (h0 : 0 ≤ n) (h : n ≤ 9223372036854775807) : IntKind.i64.wrap n = n := by
  unfold IntKind.wrap IntKind.bits IntKind.signed
  simp
  omega

theorem post_flat {M : Mem} {wall : Nat} {w : World} (hr : Rel φ M wall w) (cs : List Value) (arr : Array Value) (e : TypeId) (hc : VRs φ cs arr.toList) :
    Post φ (upd φ M.length ⟨w.heap.size, 0, arr.size⟩) M (M ++ [⟨cs, e, true⟩]) wall w (w.alloc (.cells arr e)) :=
  post_alloc hr (f := (0, 0)) rfl rfl rfl rfl (.inl rfl) (fun j u hu => by
    obtain ⟨u', e1, e2⟩ := hc.get hu
    exact ⟨u', by simpa using e1, e2⟩) (by have := hc.1; simp at this; omega)

theorem evMakeSlice_sound {M M' : Mem} {wall : Nat} {w : World} (hr : Rel φ M wall w) {t : TypeId} {l c l' c' r : Value} (h : evMakeSlice P M t l c = some (r, M')) (hl : VR φ l l') (hc : VR φ c c') :
    ∃ φ' r' w', (Instr.makeSlice t l' c').run P w = .ok r' w' ∧ VR φ' r r' ∧ Post φ φ' M M' wall w w' := by
  unfold evMakeSlice at h
  split at h
  · rename_i e k1 n k2 m ht
    obtain rfl := hl.int_inv
    obtain rfl := hc.int_inv
    split at h
    · rename_i i hi
      split at h
      · rename_i z hz
        split at h
        · rename_i hb
          obtain ⟨h0, h1, h2, h3, h4, h5, h6⟩ := hb
          cases h
          have hflat : (zeros z.cells.toList m.toNat).all flat1 = true := zeros_all h6 _
          have hlen : (zeros z.cells.toList m.toNat).length = m.toNat * i.size := by rw [zeros_length]; simp [h5]
          have hw1 := wrap_in h0 (by omega)
          have hw2 : IntKind.i64.wrap m = m := wrap_in (by omega) h3
          refine ⟨upd φ M.length ⟨w.heap.size, 0, (zeros z.cells.toList m.toNat).toArray.size⟩, .slice (some ⟨w.heap.size, 0, none⟩) n.toNat m.toNat, w.alloc (.cells (zeros z.cells.toList m.toNat).toArray e), ?_, ?_, ?_⟩
          · have hmk : (zeros z.cells.toList m.toNat).toArray = (if m.toNat * i.size = 0 then #[] else (Array.range (m.toNat * i.size)).map fun j => z.cells[j % z.cells.size]!) := by
              split
              · rename_i hzero
                apply Array.ext'
                rw [hzero] at hlen
                simpa using hlen
              · apply Array.ext'
                rw [range_zero z.cells (by omega) (m.toNat * i.size) m.toNat (by rw [h5])]
            have nb : ¬(m < 0 ∨ (i.bytes : Int) * m > 2 ^ 48 ∨ n < 0 ∨ n > m) := by omega
            simp only [Instr.makeSlice, run_underlying ht, asInt, asIntOf, Sem.run_bind, Sem.run_pure, Result.andThen_ok, typeInfo, Sem.run, program, hi, hw1, hw2]
            have c1 : (decide (m < 0) || decide ((i.bytes : Int) * m > 2 ^ 48) || decide (n < 0) || decide (n > m)) = false := by simp; omega
            simp only [Bool.or_assoc] at c1 ⊢
            rw [c1]
            simp only [Bool.false_eq_true, if_false, Sem.run_bind, Sem.run_pure, Result.andThen_ok, run_askRoom, run_sizeOf' hi]
            by_cases hzero : m.toNat * i.size = 0
            · rw [if_pos hzero] at hmk
              simp [hzero, run_newRow, hmk, show Array.range 0 = #[] from rfl]
            · rw [if_neg hzero] at hmk
              simp [hzero, run_newRow, hmk, run_zeroValue' hi hz]
          · exact .sl _ 0 _ _ _ (upd_same _ _ _)
          · exact post_flat hr _ _ e (by simpa using VRs.flat_self hflat)
        · cases h
      · cases h
    · cases h
  · cases h

theorem evBuildSlice_sound {M M' : Mem} {wall : Nat} {w : World} (hr : Rel φ M wall w) {t : TypeId} {len : Nat} {ps ps' : List (Nat × Value)} {r : Value} (h : evBuildSlice P M t len ps = some (r, M')) (hp : PR φ ps ps') :
    ∃ φ' r' w', (Instr.buildSlice t len ps'.toArray).run P w = .ok r' w' ∧ VR φ' r r' ∧ Post φ φ' M M' wall w w' := by
  unfold evBuildSlice at h
  split at h
  · rename_i e ht
    split at h
    · rename_i i hi
      split at h
      · rename_i z hz
        cases hb : (Nat.ble (len * i.size) 16777216 && Nat.blt 0 i.size && Nat.beq z.cells.size i.size && z.cells.toList.all flat1)
        · rw [hb] at h; cases h
        · rw [hb] at h
          simp only [Bool.and_eq_true, Nat.ble_eq, Nat.beq_eq, Nat.blt_eq] at hb
          obtain ⟨⟨⟨b1, b2⟩, b3⟩, b4⟩ := hb
          simp only [cond_true, Option.bind_eq_some_iff, Option.some.injEq, Prod.mk.injEq] at h
          obtain ⟨cs, hf, rfl, rfl⟩ := h
          have hzs : (if len * i.size = 0 then (#[] : Array Value) else (Array.range (len * i.size)).map fun j => z.cells[j % z.cells.size]!).toList = zeros z.cells.toList len := by
            split
            · rename_i hzero
              have : (zeros z.cells.toList len).length = 0 := by rw [zeros_length]; simp [b3, hzero]
              simpa using (List.length_eq_zero_iff.1 this).symm
            · rw [range_zero z.cells (by omega) _ len (by rw [b3])]
          obtain ⟨r', e1, e2⟩ := evFill_sound (φ := φ) (cs' := (zeros z.cells.toList len).toArray) hf hp (by simpa using VRs.flat_self (zeros_all b4 len))
          refine ⟨upd φ M.length ⟨w.heap.size, 0, r'.size⟩, .slice (some ⟨w.heap.size, 0, none⟩) len len, w.alloc (.cells r' e), ?_, .sl _ 0 _ _ _ (upd_same _ _ _), post_flat hr _ _ e e2⟩
          have nb : ¬(len * i.size > 2 ^ 24) := by omega
          by_cases hzero : len * i.size = 0
          · rw [if_pos hzero] at hzs
            have ez : (zeros z.cells.toList len).toArray = #[] := by rw [← hzs]
            rw [ez] at e1
            simp only [Instr.buildSlice, Sem.run_bind, run_underlying ht, Result.andThen_ok, run_sizeOf' hi, nb, if_false, hzero, if_true, Sem.run_pure]
            simp [e1, run_newRow, show Array.range 0 = #[] from rfl]
          · rw [if_neg hzero] at hzs
            have ez : (zeros z.cells.toList len).toArray = ((Array.range (len * i.size)).map fun j => z.cells[j % z.cells.size]!) := by rw [← hzs]
            rw [ez] at e1
            simp only [Instr.buildSlice, Sem.run_bind, run_underlying ht, Result.andThen_ok, run_sizeOf' hi, nb, if_false, hzero, Sem.run_pure, run_zeroValue' hi hz]
            simp [e1, run_newRow]
      · cases h
    · cases h
  · cases h

end Go.Ev
