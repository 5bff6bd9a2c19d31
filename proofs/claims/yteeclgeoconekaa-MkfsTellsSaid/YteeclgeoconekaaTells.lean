/-
  A new image of any geometry, laid on a disk of any size behind any dirt. No conditions.
-/
import Derived.Test.YteeclgeoconekaaRows
import Derived.Test.YteeclgeoconekaaQ32
import Derived.Test.YteeclgeoconekaaEvOkW
import Derived.ProofKit
import Derived.OpenShut
import Derived.Below
import Derived.Carry
import Derived.Lib.SmallJoins
namespace Go.Proofs.Yteeclgeoconekaa.mkfsTells
open Go.ChangeShapes Go.WideShapes Go.ChangeAt Go.RowKit

theorem own : ownKnob Try.prog.godebug = none := by kernel_rfl
theorem laid : laidOutB Try.prog = true := by kernel_rfl

/-- A slice of integers of the world's. -/
def Ints (w : World) (x : Value) : Prop := x = .slice none 0 0 ∨ ∃ (ad : Addr) (len cap : Nat) (zs : List Int), x = .slice (some ad) len cap ∧ ad.spot = none ∧ len ≤ cap ∧ zs.length = cap ∧ ∀ i, i < cap → w.cell? (ad.add i) = some (.int .i64 (zs.getD i 0))

theorem walk_of (a b c sec : Int) (x y : Value) (w : World) {ns : List Int} {M : Ev.Mem} {φ : Ev.Fi} (hD : Dirt M M.length x ns) (hr : Ev.Rel φ M M.length w) (hv : Ev.VR φ x y) :
    Calls Try.prog 4 #[gv a b c, .int .i64 sec, y] w fun e w' => e = .returned (.bool true) ∧ Below w.heap.size w w' := by
  have ha : Ev.VRs φ [gv a b c, .int .i64 sec, x] #[gv a b c, .int .i64 sec, y].toList := by
    refine ⟨rfl, fun i v v' h1 h2 => ?_⟩
    match i with
    | 0 => cases h1; cases h2; exact Ev.VR.flat_self rfl
    | 1 => cases h1; cases h2; exact Ev.VR.flat_self rfl
    | 2 => cases h1; cases h2; exact hv
    | n + 3 => simp at h1
  refine (Ev.WP_sem fitsW okS9 (tells_run a b c sec hD) φ _ w hr (Nat.le_refl _) ha).mono ?_
  rintro e w' ⟨φ', v, v', M', rfl, hv, hp, _, hq⟩
  have hq : v = .bool true := hq
  subst hq
  rw [hv.bool_inv]
  exact ⟨rfl, hp.os, hp.tape, hp.output, hp.size, fun k hk => hp.frame k hk fun b l kk h1 h2 => by
    have := hr.dom b l h2
    omega⟩

theorem walk (a b c sec : Int) (x : Value) (w : World) (hx : Ints w x) : Calls Try.prog 4 #[gv a b c, .int .i64 sec, x] w fun e w' => e = .returned (.bool true) ∧ Below w.heap.size w w' := by
  rcases hx with rfl | ⟨ad, len, cap, zs, rfl, hs, hl, hz, hc⟩
  · exact walk_of (M := []) (φ := fun _ => none) (ns := []) a b c sec (.slice none 0 0) _ w ⟨rfl, rfl, .inl rfl⟩ (Ev.Rel.empty w) (.scal _ rfl)
  obtain ⟨blk, off, spot⟩ := ad
  cases hs
  rcases Nat.eq_zero_or_pos cap with h0 | h0
  · subst h0
    obtain rfl : len = 0 := by omega
    refine walk_of (M := [⟨[], 3, false⟩]) (φ := fun b => if b = 0 then some ⟨blk, off, 0⟩ else none) (ns := []) a b c sec (Ev.slc 0 0 none 0 0) _ w ⟨rfl, rfl, .inl rfl⟩ ⟨?_, ?_, ?_⟩ ?_
    · intro b l h
      split at h
      · simp; omega
      · cases h
    · intro b l k h1 h2 h3
      match b with
      | 0 => cases h2; cases h3
      | n + 1 => simp at h2
    · intro b b' l l' k k' h1 h2 h3 h4 h5 h6 h7
      match b with
      | 0 => cases h3; cases h5
      | n + 1 => simp at h3
    · exact .sl 0 0 0 0 ⟨blk, off, 0⟩ rfl
  · have hcell : ∀ i, i < cap → ∃ arr e f, w.heap[blk]? = some (.cells arr e f) ∧ arr[off + i]? = some (.int .i64 (zs.getD i 0)) := by
      intro i hi
      have h := hc i hi
      have e : (Addr.add ⟨blk, off, none⟩ i) = ⟨blk, off + i, none⟩ := by
        unfold Addr.add
        split
        · rename_i h; subst h; rfl
        · rfl
      rw [e] at h
      unfold World.cell? at h
      split at h
      · rename_i arr el f hh
        exact ⟨arr, el, f, hh, by simpa using h⟩
      · cases h
    obtain ⟨arr, el, f, hh, _⟩ := hcell 0 h0
    have hat : ∀ i, i < cap → arr[off + i]? = some (.int .i64 (zs.getD i 0)) := by
      intro i hi
      obtain ⟨arr', e', f', h1, h2⟩ := hcell i hi
      rw [hh] at h1
      cases h1
      exact h2
    have hroom : off + cap ≤ arr.size := by
      have := hat (cap - 1) (by omega)
      obtain ⟨h1, _⟩ := Array.getElem?_eq_some_iff.1 this
      omega
    have hD : Dirt [⟨zs.map (.int .i64 ·), el, true⟩] 1 (Ev.slc 0 0 none len cap) (zs.take len) := by
      have hl' : (zs.take len).length = len := by simp; omega
      refine ⟨rfl, hl'.symm, .inr ⟨0, 0, none, cap, zs.map (.int .i64 ·), el, by rw [hl'], rfl, by omega, ?_⟩⟩
      intro i n hn
      have hi : i < len := by
        have := (List.getElem?_eq_some_iff.1 hn).1
        simp at this
        omega
      rw [List.getElem?_take, if_pos hi] at hn
      simp [hn]
    have hr : Ev.Rel (fun b => if b = 0 then some ⟨blk, off, arr.size⟩ else none) [⟨zs.map (.int .i64 ·), el, true⟩] 1 w := by
      refine ⟨?_, ?_, ?_⟩
      · intro b l h
        split at h
        · simp; omega
        · cases h
      · intro b l k h1 h2 h3
        match b with
        | 0 =>
          cases h1; cases h2
          refine ⟨arr, f, hh, fun h => by simp at h, rfl, by simp [hz]; exact hroom, ?_⟩
          intro j v hj
          have hjl : j < cap := by
            have := (List.getElem?_eq_some_iff.1 hj).1
            simp at this
            omega
          refine ⟨_, hat j hjl, ?_⟩
          rw [List.getElem?_map] at hj
          have e : zs[j]? = some (zs.getD j 0) := by simp [List.getD, show j < zs.length by omega]
          rw [e] at hj
          cases hj
          exact .scal _ rfl
        | n + 1 => simp at h2
      · intro b b' l l' k k' h1 h2 h3 h4 h5 h6 h7
        match b with
        | 0 => simp at h7
        | n + 1 => simp at h3
    exact walk_of a b c sec _ _ w hD hr (.sl 0 0 len cap ⟨blk, off, arr.size⟩ rfl)

/-- What a law's call leaves. -/
theorem law_post {H : Type} {enc : TypeId × Value → H} {P : Program} {f : Func} {s : ChangeSpec} {W W' : World} {args : Array Value} {v : Value} {ds gs : List (DataW H)} {before pa pv : List MemPlace}
    (hW : DataW.Whole enc P f.params.toList s.vars false W args.toList ds gs before)
    (h1 : DataW.TrodAll enc P W' W.heap.size (fun _ => false) false f.resultTypes.toList (v.resultList f.resultTypes.size) (s.fn H (ds ++ gs)).results [])
    (h2 : DataW.TrodAll enc P W' 0 (fun b => decide (b < W.heap.size)) true f.params.toList args.toList (s.fn H (ds ++ gs)).args pa)
    (h3 : DataW.TrodVars enc P W' (fun b => decide (b < W.heap.size)) s.vars (s.fn H (ds ++ gs)).vars pv) (hb : Below W.heap.size W W') :
    s.post enc P f false true false false W args v W' :=
  ⟨ds, gs, before, [], pa, pv, hW, h1, h2, h3, hb.frame _, fun h => by cases h⟩

theorem u30 : Try.prog.underlying 30 = some (.slice 3) := by kernel_rfl
theorem c3 : Try.prog.cellsOf 3 = 1 := by kernel_rfl
theorem c24 : Try.prog.cellsOf 24 = 3 := by kernel_rfl

set_option maxRecDepth 100000 in
theorem lifted (os : Os) (started : os.Started) (H : Type) (enc : TypeId × Value → H) :
    ReturnsInHanded {} Try.checked os 4 .any (Rows.mkfsTellsSpec.pre6 enc Try.prog Try.f4 Rows.mkfsTellsRow.domain false) (Rows.mkfsTellsSpec.post enc Try.prog Try.f4 false true false false) := by
  refine returnsInHanded_of_change (C := Try.checked) own started (by kernel_rfl) Try.func4
    (ChangeSpec.witness6 (enc := enc) (C := Try.checked) false ⟨#[], #[.agg #[.int .i64 0, .int .i64 0, .int .i64 0], .int .i64 0, .slice none 0 0], []⟩ 8 (by kernel_rfl) (by kernel_rfl) (by kernel_rfl) (by kernel_rfl)) ?_
  intro W base args ds gs before hval0 hW hcnd _
  have hval : ∀ (j : Nat) t v, Try.f4.params[j]? = some t → args[j]? = some v → Value.okWide Try.prog W .any base t v := hval0
  have hW' := hW
  obtain ⟨p, q, hA0, hV, rfl, hfz, hnd⟩ := hW
  have hA : DataW.TrodAll enc Try.prog W 0 (fun _ => true) true Try.f4.params.toList args.toList ds p := hA0
  rw [Try.params4] at hA hval
  obtain ⟨v0, vs0, d0, ds0, p0, q0, hargs, rfl, rfl, h0, r0⟩ := trodAll_cons hA
  obtain ⟨v1, vs1, d1, ds1, p1, q1, rfl, rfl, rfl, h1, r1⟩ := trodAll_cons r0
  obtain ⟨v2, vs2, d2, ds2, p2, q2, rfl, rfl, rfl, h2, r2⟩ := trodAll_cons r1
  obtain ⟨rfl, rfl, rfl⟩ := trodAll_nil r2
  obtain rfl : args = #[v0, v1, v2] := by cases args; simp_all
  obtain ⟨rfl, rfl⟩ := trodVars_none hV
  clear hA0 hval0
  simp only [List.append_nil] at hW'
  have hlt : ∀ x ∈ p0 ++ (p1 ++ p2), x.block < W.heap.size := fun x hx => by simpa using hW'.lt x (by simpa using hx)
  have k0 := fun (W' : World) (hb : Below W.heap.size W W') => Below.trod laid (by kernel_rfl) (of_decide_eq_true (by kernel_rfl)) h0 hb (fun x hx => hlt x (by simp [hx]))
  have k1 := fun (W' : World) (hb : Below W.heap.size W W') => Below.trod laid (by kernel_rfl) (of_decide_eq_true (by kernel_rfl)) h1 hb (fun x hx => hlt x (by simp [hx]))
  have k2 := fun (W' : World) (hb : Below W.heap.size W W') => Below.trod laid (by kernel_rfl) (of_decide_eq_true (by kernel_rfl)) h2 hb (fun x hx => hlt x (by simp [hx]))
  obtain ⟨x0, x1, x2, y0, y1, y2, n, rfl, _, _, g0, g1, g2⟩ := Go.Joins.open_agg3 Try.underlying24 (by kernel_rfl) c24 (hval 0 24 v0 rfl rfl) h0
  obtain ⟨a, e0, _, _⟩ := DataW.trod_int Try.underlying3 g0
  obtain ⟨b, e1, _, _⟩ := DataW.trod_int Try.underlying3 g1
  obtain ⟨c, e2, _, _⟩ := DataW.trod_int Try.underlying3 g2
  simp only [List.cons.injEq, and_true] at e0 e1 e2
  subst e0 e1 e2
  obtain ⟨sec, rfl⟩ := okWide_int Try.underlying3 (hval 1 3 v1 rfl rfl)
  have hx : Ints W v2 := by
    obtain ⟨a2, len, cap, rfl⟩ := okWide_slice u30 (hval 2 30 v2 rfl rfl)
    have hk := hval 2 30 _ rfl rfl
    simp only [Value.okWide, u30, Cell.okWide] at hk
    obtain ⟨fuel, hf⟩ := h2
    rcases open_ints u30 Try.underlying3 c3 hf with ⟨e, _⟩ | ⟨ad, len', cap', zs, e, _, hl, _, hz, _, hc, _⟩
    · simp only [Value.cells, List.cons.injEq, and_true] at e
      exact .inl e
    · simp only [Value.cells, List.cons.injEq, and_true] at e
      cases e
      simp only [Cell.ok, u30] at hk
      have hz' : zs.length = cap := hz
      exact .inr ⟨ad, len, cap, zs, rfl, hk.2.2.2.1, hl, hz', fun i hi => hc i (by omega)⟩
  refine (walk a b c sec v2 W hx).mono fun e W' ⟨he, hg⟩ => ?_
  subst he
  exact ⟨_, rfl, law_post (pa := p0 ++ (p1 ++ (p2 ++ []))) (pv := []) hW' (trodAll_cons_mk (shut_bool Try.underlying4 _) trodAll_mk0) (trodAll_cons_mk (k0 W' hg) (trodAll_cons_mk (k1 W' hg) (trodAll_cons_mk (k2 W' hg) trodAll_mk0))) rfl hg⟩

theorem over : Rows.mkfsTellsRow.holds Try.pinned (OpenSpec.ofChange Rows.mkfsTellsSpec) :=
  OpenClaim.holds_of_wide 4 Try.f4 rfl rfl rfl rfl rfl rfl rfl ⟨rfl, rfl, rfl, rfl, rfl⟩ rfl rfl rfl rfl rfl (by kernel_rfl) Try.func4 (by kernel_rfl)
    (of_decide_eq_true (by kernel_rfl)) (by unfold Func.isWrapper; first | (rw [if_pos (by decide +kernel)]; kernel_rfl) | (rw [if_neg (by decide +kernel)]; exact ⟨rfl, rfl⟩))
    (fun os started H enc _ => lifted os started H enc)

theorem proved : Rows.MkfsTellsSaid := over
#print axioms proved
end Go.Proofs.Yteeclgeoconekaa.mkfsTells
