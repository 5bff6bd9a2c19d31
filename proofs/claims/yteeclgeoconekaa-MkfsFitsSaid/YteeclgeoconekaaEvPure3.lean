/-
  Every operation on values, held against the model's.
-/
import Derived.Test.YteeclgeoconekaaEvPure2
namespace Go.Ev
variable {P : Program} {E : TypeId → Option (List CK)} {φ : Fi}

theorem mapM_sizes (fs : List Field) (w : World) (f : Field → Nat × Nat) (h : ∀ x ∈ fs, (sizeOf x.type).run P w = .ok (f x).2 w ∧ x.offset = (f x).1) :
    (fs.mapM fun x => (do pure (x.offset, ← sizeOf x.type) : Sem (Nat × Nat))).run P w = .ok (fs.map f) w := by
  induction fs with
  | nil => simp
  | cons x fs ih =>
    obtain ⟨h1, h2⟩ := h x (by simp)
    have := ih fun y hy => h y (by simp [hy])
    simp only [List.mapM_cons, Sem.run_bind, h1, Result.andThen_ok, Sem.run_pure, this, List.map_cons, h2]

theorem evFill_places {place place' : Nat → Option (Nat × Nat)} : ∀ (ps : List (Nat × Value)) (cs r : List Value), evFill place cs ps = some r → (∀ i x, place i = some x → place' i = some x) → evFill place' cs ps = some r := by
  intro ps
  induction ps with
  | nil => intro cs r h _; exact h
  | cons p ps ih =>
    intro cs r h hp
    obtain ⟨i, v⟩ := p
    simp only [evFill] at h ⊢
    cases hpl : place i with
    | none => simp [hpl] at h
    | some x =>
      obtain ⟨off, size⟩ := x
      rw [hpl] at h
      rw [hp i _ hpl]
      dsimp only at h ⊢
      cases hb : (v.cells.toList.all Value.oneCell' && Nat.beq v.cells.size size && Nat.ble (off + v.cells.size) cs.length)
      · rw [hb] at h; cases h
      · rw [hb] at h
        simp only [cond_true] at h ⊢
        exact ih _ _ h hp

theorem run_build_struct {t : TypeId} {fs : Array Field} {i : TypeInfo} {z : Value} (hi : P.info? t = some i) (hu : P.underlying t = some (.struct fs)) (hz : i.zero = some z)
    (hall : ∀ f ∈ fs.toList, (P.info? f.type).isSome = true) (ps : Array (Nat × Value)) (r : Array Value) (w : World)
    (hf : Instr.fill (fun j => (fs[j]?).bind fun f => (P.info? f.type).bind fun fi => some (f.offset, fi.size)) z.cells ps.toList = some r) :
    (Instr.build t ps).run P w = .ok (.agg r) w := by
  have hm := mapM_sizes (P := P) fs.toList w (fun f => (f.offset, P.cellsOf f.type)) (fun x hx => by
    have := hall x hx
    cases hx2 : P.info? x.type with
    | none => simp [hx2] at this
    | some fi => exact ⟨by simp [sizeOf, typeInfo, hx2, Program.cellsOf], rfl⟩)
  have hm' : (fs.mapM fun x => (do pure (x.offset, ← sizeOf x.type) : Sem (Nat × Nat))).run P w = .ok (fs.map fun f => (f.offset, P.cellsOf f.type)) w := by
    rw [Array.mapM_eq_mapM_toList, Sem.run_map, hm]
    simp only [Result.andThen_ok, Result.ok.injEq, and_true]
    apply Array.ext'
    simp
  have hpl : (fun (j : Nat) => (fs.map fun (f : Field) => (f.offset, P.cellsOf f.type))[j]?) = (fun (j : Nat) => (fs[j]?).bind fun f => (P.info? f.type).bind fun fi => some (f.offset, fi.size)) := by
    funext j
    cases hj : fs[j]? with
    | none => simp [hj]
    | some f =>
      have hmem : f ∈ fs.toList := by
        rw [← Array.getElem?_toList] at hj
        exact List.mem_of_getElem? hj
      have := hall f hmem
      cases hx2 : P.info? f.type with
      | none => simp [hx2] at this
      | some fi => simp [hj, Program.cellsOf, hx2]
  simp only [Instr.build, Sem.run_bind, run_zeroValue' hi hz, Result.andThen_ok, run_underlying hu, hm', hpl, hf, Sem.run_pure]

theorem evBuild_sound {t : TypeId} {ps ps' : List (Nat × Value)} {v : Value} (h : evBuild P t ps = some v) (hp : PR φ ps ps') (w : World) :
    ∃ v', (Instr.build t ps'.toArray).run P w = .ok v' w ∧ VR φ v v' := by
  unfold evBuild at h
  split at h
  · rename_i i fs hi hu
    split at h
    · rename_i z hz
      cases hall : (fs.toList.all fun f => (P.info? f.type).isSome) && z.cells.toList.all flat1
      · rw [hall] at h; cases h
      · rw [hall] at h
        simp only [cond_true, Option.bind_eq_some_iff, Option.some.injEq] at h
        obtain ⟨cs, hf, rfl⟩ := h
        simp only [Bool.and_eq_true, List.all_eq_true] at hall
        obtain ⟨r', e1, e2⟩ := evFill_sound (φ := φ) hf hp (VRs.flat_self (List.all_eq_true.2 hall.2))
        exact ⟨.agg r', run_build_struct hi hu hz hall.1 _ r' w e1, by have := VR.agg_of e2; simpa using this⟩
    · cases h
  · rename_i i n e hi hu
    split at h
    · rename_i z ei hz he
      cases hall : z.cells.toList.all flat1
      · rw [hall] at h; cases h
      · rw [hall] at h
        simp only [cond_true, Option.bind_eq_some_iff, Option.some.injEq] at h
        obtain ⟨cs, hf, rfl⟩ := h
        obtain ⟨r', e1, e2⟩ := evFill_sound (φ := φ) hf hp (VRs.flat_self hall)
        exact ⟨.agg r', by simp [Instr.build, run_zeroValue' hi hz, run_underlying hu, run_sizeOf' he, e1], by have := VR.agg_of e2; simpa using this⟩
    · cases h
  · cases h

theorem VR.tuple_get {cs : Array Value} {v u : Value} {i : Nat} (h : VR φ (.tuple cs) v) (hs : Nat.beq cs.size 1 = false) (hu : cs[i]? = some u) : ∃ cs' u', v = .tuple cs' ∧ cs'[i]? = some u' ∧ VR φ u u' := by
  cases h with
  | undef => simp at hu
  | sk => cases hs
  | scal _ h => cases h
  | tuple _ cs' h0 hs' hc =>
    have h1 : i < cs.size := (Array.getElem?_eq_some_iff.1 hu).1
    have h2 : i < cs'.size := hs' ▸ h1
    have e : cs[i] = u := (Array.getElem?_eq_some_iff.1 hu).2
    exact ⟨cs', cs'[i], rfl, by simp [h2], e ▸ hc i h1 h2⟩

theorem pure_sound (hE : EqOk P E) {r : List Value} {a : Act} {o : Oper} {v : Value} (h : evPure P E r o.op = some v) (hr : RR φ r a.tmps) (w : World) :
    ∃ v', (execOp a.eval o).run P w = .ok (.value v') w ∧ VR φ v v' := by
  obtain ⟨dst, op, type, pos, after, guard⟩ := o
  dsimp only at h
  unfold evPure at h
  split at h
  · cases h; exact ⟨_, by simp [execOp], hr.ev _⟩
  · cases h; exact ⟨_, by simp [execOp], hr.ev _⟩
  · rename_i c x y
    split at h
    · rename_i t hc
      cases h
      have hc' := hr.ev c
      rw [hc] at hc'
      have e := hc'.bool_inv
      cases t
      · exact ⟨a.eval y, by simp [execOp, e, asBool], hr.ev y⟩
      · exact ⟨a.eval x, by simp [execOp, e, asBool], hr.ev x⟩
    · cases h
  · rename_i op t x y yt
    obtain ⟨e, hf⟩ := evBin_sound hE h (hr.ev x) (hr.ev y) x y w
    exact ⟨v, by simp only [execOp, Sem.run_bind] at e ⊢; rw [e]; rfl, .scal _ hf⟩
  · rename_i op t x
    obtain ⟨e, hf⟩ := evUn_sound (P := P) h (hr.ev x) w
    exact ⟨v, by simp [execOp, e], .scal _ hf⟩
  · rename_i src dst' x
    have hx := hr.ev x
    split at h
    · rename_i ds k q n hs hd he
      cases h
      rw [he] at hx
      have e := hx.int_inv
      refine ⟨_, ?_, .scal _ rfl⟩
      simp only [execOp, e, convert, Sem.run_bind, run_underlying hs, run_underlying hd, Result.andThen_ok, Conv.intToInt, Sem.run_pure]
    · rename_i ds s hs hd he
      cases h
      rw [he] at hx
      have e := hx.string_inv
      refine ⟨_, ?_, .scal _ rfl⟩
      simp [execOp, e, convert, run_underlying hs, run_underlying hd]
    · cases h
  · rename_i x
    have hx := hr.ev x
    split at h
    · rename_i ad he
      cases h
      rw [he] at hx
      obtain ⟨l, _, hl, e⟩ := hx.ptr_inv
      refine ⟨_, ?_, he ▸ hr.ev x⟩
      simp [execOp, e]
    · cases h
  · rename_i x i
    have hx := hr.ev x
    split at h
    · rename_i vs he
      rw [he] at hx
      cases hs : Nat.beq vs.size 1
      · rw [hs] at h
        obtain ⟨cs', u', e1, e2, e3⟩ := hx.tuple_get hs h
        exact ⟨u', by simp [execOp, e1, Instr.extract, e2], e3⟩
      · rw [hs] at h; cases h
    · cases h
  · rename_i t x f
    obtain ⟨v', e, hv⟩ := evField_sound h (hr.ev x) w
    exact ⟨v', by simp [execOp, e], hv⟩
  · rename_i t x ix
    obtain ⟨v', e, hv⟩ := evIndex_sound h (hr.ev x) (hr.ev ix) w
    exact ⟨v', by simp [execOp, e], hv⟩
  · rename_i s x f
    obtain ⟨v', e, hv⟩ := evFieldAddr_sound h (hr.ev x) w
    exact ⟨v', by simp [execOp, e], hv⟩
  · rename_i t x ix
    obtain ⟨v', e, hv⟩ := evIndexAddr_sound h (hr.ev x) (hr.ev ix) w
    exact ⟨v', by simp [execOp, e], hv⟩
  · rename_i t x lo hi mx
    obtain ⟨v', e, hv⟩ := evSlice_sound h (hr.ev x) (.map hr lo) (.map hr hi) (.map hr mx) w
    exact ⟨v', by simp [execOp, e], hv⟩
  · rename_i t parts
    obtain ⟨v', e, hv⟩ := evBuild_sound (ps' := parts.toList.map fun p => (p.1, a.eval p.2)) h (PR.of parts.toList fun x => hr.ev x) w
    refine ⟨v', ?_, hv⟩
    have ep : (parts.map fun (i, x) => (i, a.eval x)) = (parts.toList.map fun p => (p.1, a.eval p.2)).toArray := by
      apply Array.ext'
      simp
    simp only [execOp, Sem.run_bind, ep, e, Result.andThen_ok, Sem.run_pure]
  · rename_i fn first captured
    cases h
    refine ⟨.func fn (first.map a.eval) (captured.map a.eval), by simp [execOp, Instr.makeFunc], ?_⟩
    exact .func fn _ _ _ _ (by simp) (by simp) (fun i h1 h2 => by simpa using hr.ev _) (fun i h1 h2 => by simpa using hr.ev _)
  · rename_i args ts
    split at h
    · rename_i t ts' x ht hx
      have ea : args = #[x] := by apply Array.ext'; simpa using hx
      have et : ts[0]? = some t := by rw [← Array.getElem?_toList, ht]; rfl
      obtain ⟨e, hf⟩ := evLen_sound (P := P) (ty := type) h (hr.ev x) et w
      exact ⟨v, by simp [execOp, resolve, invoke, builtin, ea, e], .scal _ hf⟩
    · cases h
  · rename_i args ts
    split at h
    · rename_i t ts' x ht hx
      have ea : args = #[x] := by apply Array.ext'; simpa using hx
      have et : ts[0]? = some t := by rw [← Array.getElem?_toList, ht]; rfl
      obtain ⟨e, hf⟩ := evCap_sound (P := P) (ty := type) h (hr.ev x) et w
      exact ⟨v, by simp [execOp, resolve, invoke, builtin, ea, e], .scal _ hf⟩
    · cases h
  · rename_i args ts
    split at h
    · rename_i x xs hxs
      have hv : VRs φ (args.toList.map (ev r)) (args.toList.map a.eval) := VRs.map_ev _ fun y _ => hr.ev y
      rw [hxs] at hv
      obtain ⟨x', xs', e1, hx, hxs'⟩ := hv.inv_cons
      obtain ⟨v', e, hv'⟩ := evMin_sound (P := P) h hxs' hx w
      refine ⟨v', ?_, hv'⟩
      simp [execOp, resolve, invoke, builtin, Builtin.min_, e1, e]
    · cases h
  · rename_i args ts
    split at h
    · rename_i x xs hxs
      have hv : VRs φ (args.toList.map (ev r)) (args.toList.map a.eval) := VRs.map_ev _ fun y _ => hr.ev y
      rw [hxs] at hv
      obtain ⟨x', xs', e1, hx, hxs'⟩ := hv.inv_cons
      obtain ⟨v', e, hv'⟩ := evMax_sound (P := P) h hxs' hx w
      refine ⟨v', ?_, hv'⟩
      simp [execOp, resolve, invoke, builtin, Builtin.max_, e1, e]
    · cases h
  · cases h

end Go.Ev
