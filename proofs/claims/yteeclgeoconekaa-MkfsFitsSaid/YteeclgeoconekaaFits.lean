/-
  For any two integers: what fits in so many sectors is the reference's answer, more sectors never have fewer blocks, what fits is within its sectors and may be, and the program is awake. No conditions.
-/
import Derived.Test.YteeclgeoconekaaRows
import Derived.Test.YteeclgeoconekaaS7
import Derived.Test.YteeclgeoconekaaP1
import Derived.ProofKit
import Derived.OpenShut
import Derived.Below
namespace Go.Proofs.Yteeclgeoconekaa.mkfsFits
open Go.ChangeShapes Go.WideShapes Go.ChangeAt Go.RowKit

theorem own : ownKnob Try.prog.godebug = none := by kernel_rfl

theorem low_bd (x : Int) : 0 ≤ low x 1000 ∧ low x 1000 < 1000 := by
  have h : IntKind.u64.wrap 1000 = 1000 := by decide
  have h0 : 0 ≤ IntKind.u64.wrap x := by
    show 0 ≤ x % _ 
    exact Int.emod_nonneg _ (by decide)
  unfold low
  rw [h, Int.tmod_eq_emod_of_nonneg h0]
  have h1 := Int.emod_nonneg (IntKind.u64.wrap x) (show (1000 : Int) ≠ 0 by decide)
  have h2 := Int.emod_lt_of_pos (IntKind.u64.wrap x) (show (0 : Int) < 1000 by decide)
  rw [wr_id (by omega) (by omega)]
  exact ⟨h1, h2⟩

theorem run3 (n m : Int) : ∃ M, Ev.evO Try.prog EvA T6 told7 10 3 [I n, I m] [] 0 = some (B true, M) := by
  rw [r3]
  have bn := low_bd n
  have bm := low_bd m
  generalize low n 1000 = x at *
  generalize low m 1000 = y at *
  have hle : min2 x y ≤ max2 x y := by unfold min2 max2; split <;> split <;> omega
  have hpos : 0 ≤ max2 x y := by unfold max2; split <;> omega
  generalize min2 x y = a at *
  generalize max2 x y = b at *
  have e1 : eq3 (fitF a) (refFitF a) = true := by rw [← fit_eq]; simp [eq3]
  have e2 : decide (blocksT (fitF a) ≤ blocksT (fitF b)) = true := decide_eq_true (fit_mono hle)
  have e3 : decide (sectorsT (fitF b) ≤ b) = true := decide_eq_true (fit_sec hpos)
  rw [e1, e2, e3]
  simp only [cond_true]
  rcases fit_may a with h | h
  · have : eq0 (fitF a) = true := by rw [h]; rfl
    rw [this]
    exact ⟨_, rfl⟩
  · have : mayT (fitF a) = true := h
    rw [this]
    cases eq0 (fitF a) <;> exact ⟨_, rfl⟩

theorem walk (n m : Int) (w : World) : Calls Try.prog 3 #[.int .i64 n, .int .i64 m] w fun e w' => e = .returned (.bool true) ∧ Below w.heap.size w w' := by
  obtain ⟨M, h⟩ := run3 n m
  exact Ev.calls_bool (Ev.good_evO evFits good6 told7 10) h rfl w

/-- What a law's call leaves. -/
theorem law_post {H : Type} {enc : TypeId × Value → H} {P : Program} {f : Func} {s : ChangeSpec} {W W' : World} {args : Array Value} {v : Value} {ds gs : List (DataW H)} {before pa pv : List MemPlace}
    (hW : DataW.Whole enc P f.params.toList s.vars false W args.toList ds gs before)
    (h1 : DataW.TrodAll enc P W' W.heap.size (fun _ => false) false f.resultTypes.toList (v.resultList f.resultTypes.size) (s.fn H (ds ++ gs)).results [])
    (h2 : DataW.TrodAll enc P W' 0 (fun b => decide (b < W.heap.size)) true f.params.toList args.toList (s.fn H (ds ++ gs)).args pa)
    (h3 : DataW.TrodVars enc P W' (fun b => decide (b < W.heap.size)) s.vars (s.fn H (ds ++ gs)).vars pv) (hb : Below W.heap.size W W') :
    s.post enc P f false true false false W args v W' :=
  ⟨ds, gs, before, [], pa, pv, hW, h1, h2, h3, hb.frame _, fun h => by cases h⟩

set_option maxRecDepth 100000 in
theorem lifted (os : Os) (started : os.Started) (H : Type) (enc : TypeId × Value → H) :
    ReturnsInHanded {} Try.checked os 3 .any (Rows.mkfsFitsSpec.pre6 enc Try.prog Try.f3 Rows.mkfsFitsRow.domain false) (Rows.mkfsFitsSpec.post enc Try.prog Try.f3 false true false false) := by
  refine returnsInHanded_of_change (C := Try.checked) own started (by kernel_rfl) Try.func3
    (ChangeSpec.witness6 (enc := enc) (C := Try.checked) false ⟨#[], #[.int .i64 0, .int .i64 0], []⟩ 8 (by kernel_rfl) (by kernel_rfl) (by kernel_rfl) (by kernel_rfl)) ?_
  intro W base args ds gs before hval0 hW hcnd _
  have hval : ∀ (j : Nat) t v, Try.f3.params[j]? = some t → args[j]? = some v → Value.okWide Try.prog W .any base t v := hval0
  have hW' := hW
  obtain ⟨p, q, hA0, hV, rfl, hfz, hnd⟩ := hW
  have hA : DataW.TrodAll enc Try.prog W 0 (fun _ => true) true Try.f3.params.toList args.toList ds p := hA0
  rw [Try.params3] at hA hval
  obtain ⟨v0, vs0, d0, ds0, p0, q0, hargs, rfl, rfl, h0, r0⟩ := trodAll_cons hA
  obtain ⟨v1, vs1, d1, ds1, p1, q1, rfl, rfl, rfl, h1, r1⟩ := trodAll_cons r0
  obtain ⟨rfl, rfl, rfl⟩ := trodAll_nil r1
  obtain rfl : args = #[v0, v1] := by cases args; simp_all
  obtain ⟨rfl, rfl⟩ := trodVars_none hV
  obtain ⟨a0, rfl, rfl, rfl, w0⟩ := open_int Try.underlying3 (hval 0 3 v0 rfl rfl) h0
  obtain ⟨a1, rfl, rfl, rfl, w1⟩ := open_int Try.underlying3 (hval 1 3 v1 rfl rfl) h1
  clear hA0 hval0
  simp only [List.append_nil] at hW'
  refine (walk a0 a1 W).mono fun e W' ⟨he, hg⟩ => ?_
  subst he
  exact ⟨_, rfl, law_post (pa := []) (pv := []) hW' (trodAll_cons_mk (shut_bool Try.underlying4 _) trodAll_mk0) (trodAll_cons_mk (shut_int Try.underlying3 w0) (trodAll_cons_mk (shut_int Try.underlying3 w1) trodAll_mk0)) rfl hg⟩

theorem over : Rows.mkfsFitsRow.holds Try.pinned (OpenSpec.ofChange Rows.mkfsFitsSpec) :=
  OpenClaim.holds_of_wide 3 Try.f3 rfl rfl rfl rfl rfl rfl rfl ⟨rfl, rfl, rfl, rfl, rfl⟩ rfl rfl rfl rfl rfl (by kernel_rfl) Try.func3 (by kernel_rfl)
    (of_decide_eq_true (by kernel_rfl)) (by unfold Func.isWrapper; first | (rw [if_pos (by decide +kernel)]; kernel_rfl) | (rw [if_neg (by decide +kernel)]; exact ⟨rfl, rfl⟩))
    (fun os started H enc _ => lifted os started H enc)

theorem proved : Rows.MkfsFitsSaid := over
#print axioms proved
end Go.Proofs.Yteeclgeoconekaa.mkfsFits
