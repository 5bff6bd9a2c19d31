/-
  The document's Image, told in any memory: its rows, where they lie.
-/
import Derived.Test.YteeclgeoconekaaP6
namespace Go.Proofs.Yteeclgeoconekaa
open Go.Ev

theorem HVal.slg {τ : List Nat} {base j t o z n c : Nat} (h : τ[j]? = some t) : HVal τ base (.slice (some ⟨base + j, o, some z⟩) n c) (.slice (some ⟨t, o, some z⟩) n c) := by
  intro φ1 φ2 hφ vc hv
  cases hv with
  | scal _ h => cases h
  | slg _ _ _ _ _ k' l hl h1 h2 h3 => exact .slg _ _ _ _ _ k' l ((hφ j t h).trans hl) h1 h2 h3
/-- A row's slice has grown, but for the zeros. -/
def sptL (l : List Value) : Option Nat := cond (eqRows l Zs) none (some 1)
theorem sptL_imgF (g : Geo) {r : Nat} (hr : r < g.n) : sptL (imgF g r) = spt g r := by unfold sptL spt; rw [imgF_z g hr]
/-- A list of rows, laid behind a memory, as the document's Image leaves them. -/
def layS (n0 : Nat) (rows : List (List Value)) : Mem := ⟨(List.range rows.length).map fun r => .slice (some ⟨n0 + (1 + r), 0, sptL (rows.getD r [])⟩) (rows.getD r []).length (rows.getD r []).length, 35, true⟩ :: rows.map fun l => ⟨l, 5, true⟩

theorem hand_tab {g : Geo} {M1 : Mem} {b : Nat} {s : Option Nat} {ids : List Nat} (h : Tab g M1 (sl b 0 s ids.length ids.length) ids) (hs : s = some 1) (hl : ids.length = g.n) (M : Mem) :
    Hand [] M1 (sl b 0 s ids.length ids.length) M (.slice (some ⟨M.length, 0, some 1⟩) g.n g.n) (layS M.length (rowsOf g)) := by
  subst hs
  obtain ⟨h1, ⟨b', s', e, hs', hb⟩, h3, h4⟩ := h
  simp only [Value.slice.injEq, Option.some.injEq, Addr.mk.injEq] at e
  obtain ⟨⟨rfl, _, _⟩, _, _⟩ := e
  have hlen : (rowsOf g).length = g.n := by simp
  have hget : ∀ r, r < g.n → (rowsOf g).getD r [] = imgF g r := by intro r hr; simp [List.getD, hr]
  refine ⟨b :: ids, by simp [layS, hl], ?_, fun t _ => Nat.zero_le _, ?_, ?_⟩
  · refine List.nodup_cons.2 ⟨fun hm => ?_, h3⟩
    obtain ⟨r, hr⟩ := List.getElem?_of_mem hm
    have hlt := lt_of_getElem? hr
    have e : ids.getD r 0 = b := by simp [List.getD, hr]
    have := h4 r hlt
    rw [e, hb] at this
    have e5 := congrArg (fun o : Option Blk => o.map (·.elem)) this
    simp at e5
  · rw [hl]
    exact HVal.slg (j := 0) rfl
  · intro j k' hk
    cases j with
    | zero =>
      simp only [layS, List.getElem?_cons_zero, Option.some.injEq] at hk
      subst hk
      refine ⟨b, ⟨rowV g ids, 35, true⟩, rfl, hb, rfl, rfl, by simp [rowV, hl], fun i u' hu => ?_⟩
      simp only [hlen, List.getElem?_map] at hu
      by_cases hi : i < g.n
      · rw [List.getElem?_range hi, Option.map_some, Option.some.injEq] at hu
        subst hu
        rw [hget i hi, sptL_imgF g hi, (imgF_ok g i).1]
        have hids : ids[i]? = some (ids.getD i 0) := by
          have : i < ids.length := by omega
          simp [List.getD, this]
        refine ⟨sl (ids.getD i 0) 0 (spt g i) 128 128, ?_, ?_⟩
        · unfold rowV
          rw [List.getElem?_map, List.getElem?_range (by omega), Option.map_some]
        · have hτ : (b :: ids)[1 + i]? = some (ids.getD i 0) := by rw [Nat.add_comm, List.getElem?_cons_succ]; exact hids
          cases hz : spt g i with
          | none => exact HVal.sl (j := 1 + i) hτ
          | some z => exact HVal.slg (j := 1 + i) hτ
      · rw [List.getElem?_eq_none (by simp; omega)] at hu
        cases hu
    | succ j =>
      simp only [layS, List.getElem?_cons_succ, List.getElem?_map] at hk
      by_cases hj : j < g.n
      · rw [List.getElem?_range hj] at hk
        simp only [Option.map_some, Option.some.injEq] at hk
        subst hk
        have hids : ids[j]? = some (ids.getD j 0) := by
          have : j < ids.length := by omega
          simp [List.getD, this]
        refine ⟨ids.getD j 0, ⟨imgF g j, 5, true⟩, by rw [List.getElem?_cons_succ]; exact hids, h4 j (by omega), rfl, rfl, Nat.le_refl _, fun i u' hu => ⟨u', hu, ?_⟩⟩
        have q1 : isInt .u8 u' = true := List.all_eq_true.1 (imgF_ok g j).2.1 u' (List.mem_of_getElem? hu)
        have q2 := u8_flat q1
        refine HVal.flat ?_
        cases u' <;> first | exact q2 | cases q1
      · rw [List.getElem?_eq_none (by simp; omega)] at hk
        cases hk

noncomputable def rimageTree : Tree := fun args M _ => match args with
  | [.agg xs] => match xs.toList with
    | [.int .i64 a, .int .i64 b, .int .i64 c] => .nd (may a b c) (.lf true (.slice (some ⟨M.length, 0, some 1⟩) (imgRows a b c).length (imgRows a b c).length, M ++ layS M.length (imgRows a b c))) (.lf true (nilS, M))
    | _ => .lf false (undef, M)
  | _ => .lf false (undef, M)
theorem rimageTree_inv {args : List Value} {M : Mem} {wall : Nat} {R : Value × Mem} (h : (rimageTree args M wall).val = some R) : ∃ a b c, args = [gv a b c] ∧
    ((may a b c = true ∧ R = (.slice (some ⟨M.length, 0, some 1⟩) (imgRows a b c).length (imgRows a b c).length, M ++ layS M.length (imgRows a b c))) ∨ (may a b c = false ∧ R = (nilS, M))) := by
  unfold rimageTree at h
  split at h
  · rename_i xs
    split at h
    · rename_i a b c e
      obtain rfl : xs = #[I a, I b, I c] := Array.ext' e
      rcases nd_val h with ⟨hc, h⟩ | ⟨hc, h⟩
      · exact ⟨a, b, c, rfl, .inl ⟨hc, (lf_val h).2.symm⟩⟩
      · exact ⟨a, b, c, rfl, .inr ⟨hc, (lf_val h).2.symm⟩⟩
    · cases h
  · cases h

theorem tell15 : TellOk Try.prog EvN.q 15 (bodyT rimageTree) := by
  refine tellT (fun _ args M v M' h => ?_) (fun args M wall R h => ?_)
  · obtain ⟨a, b, c, rfl, ⟨hm, e⟩ | ⟨hm, e⟩⟩ := rimageTree_inv h
    · cases e
      obtain ⟨g, rfl, rfl, rfl⟩ := geo_of hm
      rw [imgRows_geo]
      have hn := g.hn
      have ht : trim1 Try.prog M (M ++ layS M.length (rowsOf g)) (.slice (some ⟨M.length, 0, some 1⟩) (rowsOf g).length (rowsOf g).length) = none := by
        obtain ⟨m, hm⟩ : ∃ m, g.n = m + 1 := ⟨g.n - 1, by omega⟩
        have hcell : ∀ (X : List Value) (v : Value) (k : Nat), flat1 v = false → ((v :: X).drop 0 |>.take (k + 1)).all flat1 = false := by
          intro X v k hv
          simp [hv]
        have hget : (M ++ layS M.length (rowsOf g))[M.length]? = some ⟨(List.range (rowsOf g).length).map fun r => .slice (some ⟨M.length + (1 + r), 0, sptL ((rowsOf g).getD r [])⟩) ((rowsOf g).getD r []).length ((rowsOf g).getD r []).length, 35, true⟩ := by
          rw [List.getElem?_append_right (Nat.le_refl _), Nat.sub_self]
          rfl
        have hall : (((List.range (rowsOf g).length).map fun r => Value.slice (some ⟨M.length + (1 + r), 0, sptL ((rowsOf g).getD r [])⟩) ((rowsOf g).getD r []).length ((rowsOf g).getD r []).length).drop 0 |>.take (rowsOf g).length).all flat1 = false := by
          rw [List.length_map, List.length_range, hm, List.range_succ_eq_map, List.map_cons]
          exact hcell _ _ m rfl
        simp only [trim1, hget, trimLen]
        rw [hall, Bool.and_false]
        rfl
      unfold trim
      have hflat : flatR (.slice (some ⟨M.length, 0, some 1⟩) (rowsOf g).length (rowsOf g).length) = false := rfl
      rw [hflat]
      simp only [cond_false, ht]
    · cases e; simp [trim, flatR, flat, flat1]
  · obtain ⟨a, b, c, rfl, hR⟩ := rimageTree_inv h
    rcases hR with ⟨hm, rfl⟩ | ⟨hm, rfl⟩
    · obtain ⟨g, rfl, rfl, rfl⟩ := geo_of hm
      rw [imgRows_geo]
      have hn := g.hn
      obtain ⟨x, M1, ids, run, ht, hl⟩ := image15_run g
      obtain ⟨b, s, hx, hs, hb⟩ := ht.tb
      have hs1 : s = some 1 := by
        rcases hs with ⟨_, h2⟩ | h2
        · omega
        · exact h2
      subst hx
      obtain ⟨T, hT, hr⟩ := run_told evFitsN okD5 sem15 run
      classical
      refine ⟨fun f args M0 _ => if f = 15 ∧ args = [gv g.a g.b g.c] ∧ M0 = M then some (.slice (some ⟨M.length, 0, some 1⟩) (rowsOf g).length (rowsOf g).length, M ++ layS M.length (rowsOf g)) else none,
        good_pull fun f args M0 wall R e => ?_, by simp⟩
      split at e
      · rename_i hh
        obtain ⟨rfl, rfl, rfl⟩ := hh
        cases e
        refine ⟨T, [], [gv g.a g.b g.c], [], _, layS M0.length (rowsOf g), _, hT, pulled_nil M0, rfl, ?_, hr, ?_, rfl⟩
        · intro i a0 a1 e0 e1
          cases i with
          | succ i => simp at e0
          | zero =>
            simp at e0 e1
            subst e0 e1
            exact PV.flat (by simp [flat, flat1])
        · have := hand_tab ht hs1 hl M0
          simpa using this
      · cases e
    · have run := r15 some a b c
      rw [hm] at run
      have hview : view Try.prog M [gv a b c] 0 = some ([gv a b c], []) := view_flat M _ 0 (by simp [flat, flat1])
      exact loc_told hview (run_told evFitsN okD5 sem15 (wall := 0) run) (by simp [handOn, flatR, flat, flat1]) wall
noncomputable abbrev D6 : CallC := moreC 15 (bodyT rimageTree) D5
theorem okD6 : OkC Try.prog EvN.q D6 := ok_moreC okD5 tell15
end Go.Proofs.Yteeclgeoconekaa


/-
  SameParts, of two tables or of none: told in any memory.
-/
namespace Go.Proofs.Yteeclgeoconekaa
open Go.Ev

theorem run14n : (evO Try.prog EvA (plainC C11) (fun _ => false) 200 14 [nilS, nilS] [] 0).bind (fun p => some p.1) = some (B true) := by kernel_rfl
def isNone2 : List Value → Bool
  | [.slice none 0 0, .slice none 0 0] => true
  | _ => false
theorem isNone2_eq {args : List Value} (h : isNone2 args = true) : args = [nilS, nilS] := by
  unfold isNone2 at h
  split at h
  · rfl
  · cases h
def partsTree2 : Tree := fun args M wall => .nd (isNone2 args) (.lf true (B true, M)) (partsTree args M wall)
theorem tell14b : TellOk Try.prog EvN.q 14 (bodyT partsTree2) := by
  refine tellT (fun _ args M v M' h => ?_) (fun args M wall R h => ?_)
  · rcases nd_val h with ⟨_, h⟩ | ⟨_, h⟩
    · have := (lf_val h).2
      cases this
      rfl
    · obtain ⟨x, y, rfl, hx, hy, e⟩ := partsTree_inv h
      cases e
      rfl
  · rcases nd_val h with ⟨hc, h⟩ | ⟨_, h⟩
    · obtain rfl := isNone2_eq hc
      obtain ⟨_, rfl⟩ := lf_val h
      have run := run14n
      rw [Option.bind_eq_some_iff] at run
      obtain ⟨⟨v, M1⟩, h1, h2⟩ := run
      cases h2
      have hview : view Try.prog M [nilS, nilS] 0 = some ([nilS, nilS], []) := view_flat M _ 0 (by simp [flat, flat1])
      exact loc_told hview ⟨_, good_evO evFits okC11.good (fun _ => false) 200, h1⟩ (by simp [handOn, flatR, flat, flat1]) wall
    · have hg := tell14.good args M wall R (by rw [bodyT, run_some (α := Unit)]; exact h)
      exact hg
noncomputable abbrev D7 : CallC := moreC 14 (bodyT partsTree2) D6
theorem okD7 : OkC Try.prog EvN.q D7 := ok_moreC okD6 tell14b
end Go.Proofs.Yteeclgeoconekaa


/-
  Fill, run: 128 bytes of any number.
-/
namespace Go.Proofs.Yteeclgeoconekaa
open Go.Ev

def fillL (v : Int) : List Value := (List.range 128).map fun (i : Nat) => U8 (IntKind.u8.wrap (IntKind.u8.wrap (v.fdiv ((256 : Int) ^ (i % 4))) + IntKind.u8.wrap (7 * (i : Int))))
theorem run19 (v : Int) : (evO Try.prog EvA (plainC D7) (fun _ => false) 200 19 [I v, I 128] [] 0).bind (fun p => handOn Try.prog [] p.2 p.1 []) = some (sl 0 0 (some 1) 128 128, [⟨fillL v, 5, true⟩]) := by kernel_rfl
end Go.Proofs.Yteeclgeoconekaa


/-
  Fill, told in any memory.
-/
namespace Go.Proofs.Yteeclgeoconekaa
open Go.Ev

theorem fillL_ok (v : Int) : (fillL v).length = 128 ∧ u8s (fillL v) = true ∧ u8r (fillL v) = true := by
  refine ⟨by simp [fillL], ?_, ?_⟩
  · simp [fillL, u8s, isInt]
  · simp only [fillL, u8r, List.all_map, List.all_eq_true, Function.comp, Bool.and_eq_true, decide_eq_true_eq]
    intro i _
    exact wrap8_bd _
def fillTree : Tree := fun args M _ => match args with
  | [.int .i64 v, .int .i64 n] => .lf (n == 128) (.slice (some ⟨M.length, 0, some 1⟩) 128 128, M ++ [⟨fillL v, 5, true⟩])
  | _ => .lf false (undef, M)
theorem fillTree_inv {args : List Value} {M : Mem} {wall : Nat} {R : Value × Mem} (h : (fillTree args M wall).val = some R) : ∃ v, args = [I v, I 128] ∧ R = (.slice (some ⟨M.length, 0, some 1⟩) 128 128, M ++ [⟨fillL v, 5, true⟩]) := by
  unfold fillTree at h
  split at h
  · rename_i v n
    obtain ⟨h1, rfl⟩ := lf_val h
    obtain rfl : n = 128 := by simpa using h1
    exact ⟨v, rfl, rfl⟩
  · cases h
theorem tell19 : TellOk Try.prog EvN.q 19 (bodyT fillTree) := by
  refine tellT (fun _ args M v M' h => ?_) (fun args M wall R h => ?_)
  · obtain ⟨x, rfl, e⟩ := fillTree_inv h
    cases e
    exact trim_rowg (fillL_ok x).1 (u8s_flat (fillL_ok x).2.1)
  · obtain ⟨x, rfl, rfl⟩ := fillTree_inv h
    have run := run19 x
    rw [Option.bind_eq_some_iff] at run
    obtain ⟨⟨v, M1⟩, h1, h2⟩ := run
    have hview : view Try.prog M [I x, I 128] 0 = some ([I x, I 128], []) := view_flat M _ 0 (by simp [flat, flat1])
    exact loc_told hview ⟨_, good_evO evFits okD7.good (fun _ => false) 200, h1⟩ (handOn_anyV h2 M) wall
noncomputable abbrev D8 : CallC := moreC 19 (bodyT fillTree) D7
theorem okD8 : OkC Try.prog EvN.q D8 := ok_moreC okD7 tell19
end Go.Proofs.Yteeclgeoconekaa
