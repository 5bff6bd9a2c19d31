/-
  The law MkfsTells, run.
-/
import Derived.Test.YteeclgeoconekaaQ30
namespace Go.Proofs.Yteeclgeoconekaa
open Go.Ev

theorem DkAt.low {M : Mem} {wall wall' d : Nat} {s : Dk} (h : DkAt M wall d s) (hw : wall' ≤ wall) : DkAt M wall' d s := by
  obtain ⟨hwd, T, Wt, L, hb, ⟨tb, e, htb, hwt⟩, hW, hL⟩ := h
  refine ⟨by omega, T, Wt, L, hb, ⟨tb, e, htb, by omega⟩, ?_, ?_⟩
  · rcases hW with h | ⟨b, h1, h2, h3⟩
    · exact .inl h
    · exact .inr ⟨b, h1, h2, by omega⟩
  · rcases hL with h | ⟨b, cs, h1, h2, h3, h4⟩
    · exact .inl h
    · exact .inr ⟨b, cs, h1, h2, h3, by omega⟩

/-- A table of rows is one to SameParts. -/
theorem tab_d {M : Mem} {b n : Nat} {sp : Option Nat} {rows : List (List Value)} (h : RowTab M b rows) (hn : rows.length = n) (hl : n ≤ 100000) : dOk M (slc b 0 sp n n) = true ∧ dRows M (slc b 0 sp n n) = rows := by
  obtain ⟨cs, h1, h2, h3⟩ := h
  have ec : dCells M (slc b 0 sp n n) = cs := by
    show rowC M b 0 n = cs
    simp only [rowC, h1, List.drop_zero]
    rw [List.take_of_length_le (by omega)]
  constructor
  · have e1 : rowG M b 0 n = true := by simp only [rowG, h1, Bool.true_and]; exact Nat.ble_eq_true_of_le (by omega)
    have e2 : cs.all (bOk M) = true := by
      rw [List.all_eq_true]
      intro v hv
      obtain ⟨i, hi⟩ := List.getElem?_of_mem hv
      exact (h3 i v hi).1
    unfold dOk
    rw [ec]
    show (true && (rowG M b 0 n && (Nat.beq (M.blk b).elem 35 && (cs.all (bOk M) && Nat.ble n 4611686018427387904)))) = true
    rw [e1, e2, Nat.ble_eq_true_of_le (show n ≤ 4611686018427387904 by omega), h1]
    rfl
  · unfold dRows
    rw [ec]
    apply List.ext_getElem?
    intro r
    rw [List.getElem?_map]
    by_cases hr : r < n
    · have hx : cs[r]? = some (cs[r]'(by omega)) := by simp
      obtain ⟨_, _, q3⟩ := h3 r _ hx
      rw [hx, Option.map_some, q3]
      simp [List.getD, hn, hr]
    · rw [List.getElem?_eq_none (by omega), List.getElem?_eq_none (by omega)]
      rfl

/-! ### what was answered is written over -/
theorem LT7 {tb n w : Nat} {base : Nat → Nat} {sec : Int} {dirt g : Value} {κ : KontP} (hinj : ∀ i j, i < n → j < n → base i = base j → i = j) (hw : ∀ i, w ≤ base i) (hn : n ≤ 100000) :
    ∀ (k i : Nat) (j : Int) (M : Mem) (cs : List Value), j = (i : Int) → i + k = n → M.blk tb = ⟨cs, T_s_uint8, true⟩ → (∀ r, r < n → cs[r]? = some (slc (base r) 0 none 128 128)) →
      (∀ r, i ≤ r → r < n → ∃ row, M.blk (base r) = ⟨row, T_uint8, true⟩ ∧ row.length = 128) →
      (∀ M', Fr M M' (fun b e => e ≠ T_uint8 ∨ b < w) → κ (.exit 0) (ex_purlinlaw20_MkfsTells_7 sec dirt g) M') → lp_purlinlaw20_MkfsTells_7 W w sec dirt g (slc tb 0 none n n) j M κ := by
  intro k
  induction k with
  | zero =>
    intro i j M cs hj hi ht hc hr hκ
    subst hj
    refine lp_of (run_mono mW) ?_
    rw [rd_purlinlaw20_MkfsTells_7]
    refine chkP_of rfl (cond_f (dec_f ?_) (hκ M (.refl _ _)))
    show ¬ ((i : Int) < (n : Int))
    omega
  | succ k ih =>
    intro i j M cs hj hi ht hc hr hκ
    subst hj
    refine lp_of (run_mono mW) ?_
    rw [rd_purlinlaw20_MkfsTells_7]
    obtain ⟨row, r1, r2⟩ := hr i (Nat.le_refl _) (by omega)
    refine chkP_of rfl (cond_t (dec_t ?_) (ixS_of (by omega) (by omega) (ldV_of (has_of ht (by simpa using hc i (by omega))) ?_)))
    · show (i : Int) < (n : Int)
      omega
    · refine c0_of mW (W_over (L := 128) r1 r2 (hw i) (by omega)) fun _ M1 e1 => ?_
      rw [Ev.wr_nat (n := i) (by omega)]
      refine ih (i + 1) _ M1 cs rfl (by omega) (Fr.blk e1 ht (blk_ne ht r1 (by decide))) hc (fun r h1 h2 => ?_) fun M' e' => hκ M' ((Fr.trans e1 e').mono fun b hb h => ⟨fun e => (by
        rcases h with h | h
        · exact h (by rw [e, r1])
        · have := hw i; omega), h⟩)
      obtain ⟨row', q1, q2⟩ := hr r (by omega) h2
      exact ⟨row', Fr.blk e1 q1 (fun e => by have := hinj _ _ h2 (by omega) e; omega), q2⟩

/-! ### dirt -/
/-- A slice of integers of the caller's. -/
def Dirt (M : Mem) (wall : Nat) (x : Value) (ns : List Int) : Prop := isSlV x = true ∧ lenOf x = ns.length ∧ (ns = [] ∨ ∃ b o sp c cs e, x = slc b o sp ns.length c ∧ M.blk b = ⟨cs, e, true⟩ ∧ b < wall ∧ ∀ (i : Nat) (n : Int), ns[i]? = some n → cs[o + i]? = some (.int .i64 n))
theorem Dirt.keep {M M' : Mem} {wall : Nat} {x : Value} {ns : List Int} (h : Dirt M wall x ns) (hk : ∀ b, b < wall → M'.blk b = M.blk b) : Dirt M' wall x ns := by
  obtain ⟨h1, h2, h3⟩ := h
  refine ⟨h1, h2, ?_⟩
  rcases h3 with h3 | ⟨b, o, sp, c, cs, el, e, hb, hw, hc⟩
  · exact .inl h3
  · exact .inr ⟨b, o, sp, c, cs, el, e, by rw [hk b hw, hb], hw, hc⟩
theorem Keeps.blk {M M' : Mem} {wall : Nat} (h : Keeps M M' wall) (hw : wall ≤ M.length) : ∀ b, b < wall → M'.blk b = M.blk b := fun b hb => by simp only [Mem.blk]; rw [h.2 b hb (by omega)]
theorem W_low (x : Int) {n : Int} (h1 : 1 ≤ n) (h2 : n ≤ 1000) (M : Mem) (w : Nat) : W F_purlinlaw0_Low [.int .i64 x, .int .i64 n] M w (fun p => p = (.int .i64 (low x n), M)) := by
  refine W_go rfl (by kernel_rfl) ?_
  rw [bd_purlinlaw0_Low]
  have h : IntKind.u64.wrap n = n := by
    show n % _ = n
    exact Int.emod_eq_of_lt (by omega) (by
      refine Int.lt_of_le_of_lt h2 ?_
      decide)
  refine chkP_of ?_ (outT_flat (M := M) rfl rfl)
  show (!(IntKind.u64.wrap n == 0)) = true
  rw [h]
  simp
  omega
theorem LT14 {w d : Nat} {fs : List Value} {fl : Int} {sec : Int} {g : Value} {dirt : Value} {ns : List Int} {κ : KontP} (hs1 : 1 ≤ sec) (hs2 : sec ≤ 400) (hfs : (fs.length : Int) = sec) (hns : ns.length ≤ 20) :
    ∀ (k i : Nat) (j : Int) (M : Mem) (ws : List (Int × Value)) (lg : Nat), j = (i : Int) → i + k = ns.length → w ≤ M.length → Dirt M w dirt ns → DkAt M w d ⟨fs, ws, true, lg, fl⟩ → ws.length ≤ i → lg ≤ i →
      (∀ p ∈ ws, (0 ≤ p.1 ∧ p.1 < (fs.length : Int)) ∧ isSl p.2 = true) →
      (∀ M' ws lg, Fr M M' (fun b e => e = T_api_Geometry) → DkAt M' w d ⟨fs, ws, true, lg, fl⟩ → ws.length ≤ 20 → lg ≤ 20 → (∀ p ∈ ws, (0 ≤ p.1 ∧ p.1 < (fs.length : Int)) ∧ isSl p.2 = true) → κ (.exit 2) (ex_purlinlaw20_MkfsTells_14 sec g (ptr d 0)) M') →
      lp_purlinlaw20_MkfsTells_14 W w sec dirt g (ptr d 0) j M κ := by
  intro k
  induction k with
  | zero =>
    intro i j M ws lg hj hi hw hD hd hwl hll hin hκ
    subst hj
    refine lp_of (run_mono mW) ?_
    rw [rd_purlinlaw20_MkfsTells_14]
    refine chkP_of hD.1 (cond_f (dec_f ?_) (hκ M ws lg (.refl _ _) hd (by omega) (by omega) hin))
    rw [hD.2.1]
    omega
  | succ k ih =>
    intro i j M ws lg hj hi hw hD hd hwl hll hin hκ
    subst hj
    refine lp_of (run_mono mW) ?_
    rw [rd_purlinlaw20_MkfsTells_14]
    refine chkP_of hD.1 (cond_t (dec_t (by rw [hD.2.1]; omega)) ?_)
    obtain ⟨b, o, sp, c, cs, el, e, hb, hbw, hc⟩ := hD.2.2.resolve_left (fun e => by rw [e] at hi; simp at hi)
    subst e
    obtain ⟨n, hn⟩ : ∃ n, ns[i]? = some n := ⟨ns[i]'(by omega), by simp⟩
    have hcell := hc i n hn
    refine ixS_of (by omega) (by omega) (ixS_of (by omega) (by omega) (ldI_of (has_of hb (by simpa using hcell)) (ldI_of (has_of hb (by simpa using hcell)) ?_)))
    refine c1_dP (W_low n hs1 (by omega) _ _) rfl (c1_dP (W_fill n _ _) rfl ?_)
    obtain ⟨e1, l1, n1⟩ := Fr.one M ⟨fillL n, 5, true⟩
    generalize M ++ [(⟨fillL n, 5, true⟩ : Blk)] = M1 at e1 l1 n1 ⊢
    obtain ⟨f1, f2, f3⟩ := fillL_ok n
    have hrow := (bOk_mk (M := M1) (o := 0) (n := 128) (c := 128) (sp := some 1) n1 (by omega) f2 f3 (by omega)).1
    obtain ⟨p0, p1⟩ := low_rg n sec (by omega) (by omega)
    have hd1 : DkAt M1 w d ⟨fs, ws, true, lg, fl⟩ := hd.fr e1 fun _ _ _ => trivial
    refine c1_dW okS9 detS9 (WP_keep okS9 detS9 (W_write hd1 rfl (at_ := low n sec) p0 (by show low n sec < (fs.length : Int); omega) hrow rfl (by show ws.length ≤ 100000; omega) (by show lg ≤ 100000; omega))) ?_
    rintro v M2 ⟨⟨rfl, e2, v', q1, q2, q3, hd2⟩, hk⟩
    refine ⟨rfl, ?_⟩
    rw [Ev.wr_nat (n := i) (by omega)]
    have hD2 : Dirt M2 w (slc b o sp ns.length c) ns := hD.keep fun b' hb' => (Keeps.blk hk (by omega) b' hb').trans (e1.2 b' (by omega) trivial)
    refine ih (i + 1) _ M2 (ws ++ [(low n sec, v')]) (lg + 1) rfl (by omega) (by have := e2.1; dsimp only at this; omega) hD2 hd2 (by simp; omega) (by omega) ?_ ?_
    · intro p hp
      rcases List.mem_append.1 hp with hp | hp
      · exact hin p hp
      · rw [List.mem_singleton] at hp
        subst hp
        obtain ⟨a, m, c', kk, e, _⟩ := bOk_inv q1
        exact ⟨⟨p0, by show low n sec < (fs.length : Int); omega⟩, by rw [e]; rfl⟩
    · intro M' ws' lg' e' hd' h1 h2 h3
      refine hκ M' ws' lg' (((e1.trans e2).trans e').mono fun b hb h => ⟨⟨trivial, ?_⟩, h⟩) hd' h1 h2 h3
      rw [h]
      exact hd.kd (e := T_api_Geometry) (by decide) (by decide) (by decide) b h
end Go.Proofs.Yteeclgeoconekaa


/-
  The law MkfsTells is true of every geometry, number of sectors and dirt.
-/
namespace Go.Proofs.Yteeclgeoconekaa
open Go.Ev

abbrev QT : OutP := fun p => p.1 = .bool true
set_option maxRecDepth 20000 in
theorem K14 {w d : Nat} {fs : List Value} {ws : List (Int × Value)} {lg : Nat} {fl : Int} {a b c sec : Int} {gb_ : Nat} {M0 M : Mem} (hw : w ≤ M.length) (hs1 : 1 ≤ sec) (hs2 : sec ≤ 400) (hfs : (fs.length : Int) = sec) (hg : M.blk gb_ = ⟨gcs a b c, T_api_Geometry, true⟩)
    (hd : DkAt M w d ⟨fs, ws, true, lg, fl⟩) (hws : ws.length ≤ 20) (hlg : lg ≤ 20) (hin : ∀ p ∈ ws, (0 ≤ p.1 ∧ p.1 < (fs.length : Int)) ∧ isSl p.2 = true) :
    kk_purlinlaw20_MkfsTells_14 W w (retP Try.prog true M0 Try.f4 QT) (.exit 2) (ex_purlinlaw20_MkfsTells_14 sec (ptr gb_ 0) (ptr d 0)) M := by
  rw [ke_purlinlaw20_MkfsTells_14_2]
  refine ldA_blk hg rfl rfl rfl ?_
  by_cases hm : may a b c = true ∧ sectors a b c = sec
  · obtain ⟨hm, hsec⟩ := hm
    obtain ⟨g, rfl, rfl, rfl⟩ := geo_of hm
    have hgn := g.hn
    have hlen : (rowsOf g).length = g.n := by simp
    refine c1_of mW (W_format hd rfl g (by rw [hsec, hfs]) (by show ws.length ≤ 1000; omega) (by show lg ≤ 1000; omega) hin) ?_
    rintro v M1 ⟨rfl, e1, vs, lg1, fl1, hd1, hr1, hrow1⟩
    refine ⟨rfl, ?_⟩
    have hgd : gb_ ≠ d := by
      obtain ⟨_, T, Wt, L, hb, _⟩ := hd
      exact blk_ne hg hb (by decide)
    have hg1 := e1.blk hg ⟨by decide, by decide, by decide, hgd⟩
    refine ldA_blk hg1 rfl rfl rfl (c1_eq mW (W_may _ _ _ _ _) rfl (cond_f (by show (!may g.a g.b g.c) = false; rw [hm]; rfl) ?_))
    refine ldA_blk hg1 rfl rfl rfl (c1_eq mW (W_sectors _ _ _ _ _) rfl (cond_f (by show (sectors g.a g.b g.c != sec) = false; rw [hsec]; simp) ?_))
    refine c0_of mW (W_crash hd1 rfl) ?_
    rintro v M2 ⟨e2, hd2⟩
    refine cond_t rfl ?_
    have hg2 := e2.blk hg1 hgd
    have h5 : ∀ b, (M1.blk b).elem = 5 → b ≠ d := fun b h e => by
      obtain ⟨_, T, Wt, L, hb, _⟩ := hd1
      rw [e, hb] at h
      exact absurd (show T_disk_Disk = 5 from h) (by decide)
    obtain ⟨hr2, hrow2⟩ := hr1.fr e2 h5
    have hvs : vs.length = g.n := by
      have := congrArg List.length hrow1
      simpa using this
    refine ldA_blk hg2 rfl rfl rfl ?_
    refine c1_dW okS9 detS9 (W_dimage hd2 (fun e => by rw [show (⟨vs, [], false, lg1, fl1⟩ : Dk).fs = vs from rfl] at e; rw [e] at hvs; simp at hvs; omega) hr2 (by show vs.length ≤ 100000; omega) _) ?_
    rintro v M3 ⟨e3, tb, sp, gs, rfl, hgs, hgl, hgr, hgrow⟩
    refine ⟨rfl, ?_⟩
    refine c1_dP (W_rimage hm _ _) rfl ?_
    rw [imgRows_geo]
    have e4 : Fr M3 (M3 ++ layS M3.length (rowsOf g)) (fun _ _ => True) := Fr.app _ _ _
    have ht4 := layS_tab g M3
    generalize M3 ++ layS M3.length (rowsOf g) = M4 at e4 ht4 ⊢
    have hgl' : gs.length = g.n := by rw [hgl]; exact hvs
    have ht3 : RowTab M3 tb (rowsOf g) := by
      refine ⟨gs, hgs, by rw [hlen, hgl'], fun i x hx => ?_⟩
      obtain ⟨q1, q2⟩ := hgr x (List.mem_of_getElem? hx)
      refine ⟨q1, q2, ?_⟩
      have h1 : (gs.map (bRow M3))[i]? = some (bRow M3 x) := by rw [List.getElem?_map, hx]; rfl
      rw [hgrow, hrow2, hrow1] at h1
      simp [List.getD, h1]
    obtain ⟨d1, d2⟩ := tab_d (sp := sp) (ht3.fr e4 (fun _ _ => trivial) (fun _ => trivial)) (n := gs.length) (by rw [hlen, hgl']) (by omega)
    obtain ⟨d3, d4⟩ := tab_d (sp := some 1) ht4 (n := (rowsOf g).length) rfl (by omega)
    refine c1_dP (W_parts d1 d3 _) rfl (cond_t (by show eqParts _ _ = true; rw [d2, d4]; exact eqParts_self _) ?_)
    have hg4 := e4.blk (e3.blk hg2 (by decide)) trivial
    have hoff : W F_mkfs_Format [ptr d 0, gv g.a g.b g.c] M4 w (fun p => p.1 = .int .i64 4 ∧ Fr M4 p.2 (fun _ _ => True)) := by
      rw [show gv g.a g.b g.c = .agg (gcs g.a g.b g.c).toArray from rfl]
      have hb2 : ∃ cs, M2.blk d = ⟨cs, T_disk_Disk, true⟩ ∧ cs[2]? = some (.bool false) := by
        obtain ⟨_, T, Wt, L, hb, _⟩ := hd2
        exact ⟨_, hb, rfl⟩
      obtain ⟨cs, hb2, hc2⟩ := hb2
      have hb4 := e4.blk (e3.blk hb2 (by decide)) trivial
      refine W_go rfl (by kernel_rfl) ?_
      rw [bd_mkfs_Format]
      refine boxC_any rfl fun M5 e5 l5 n5 => chkP_of rfl (cond_f rfl ?_)
      have hb5 := e5.blk hb4 trivial
      have hon : W F_disk_Disk_On [ptr d 0] M5 M5.length (fun p => p = (.bool false, M5)) := by
        refine W_go rfl (by kernel_rfl) ?_
        rw [bd_disk_Disk_On]
        refine chkP_of rfl (cond_t rfl (nilck_of (fldA_of (ldB_of (has_of hb5 hc2) ?_))))
        exact outT_flat rfl rfl
      exact c1_eq mW hon rfl (cond_t rfl ⟨rfl, e5⟩)
    refine ldA_blk hg4 rfl rfl rfl (c1_dW okS9 detS9 hoff ?_)
    rintro v M5 ⟨rfl, e5⟩
    refine ⟨rfl, cond_t rfl (c1_dP (W_awake _ _) rfl ?_)⟩
    exact outT_flat (M := M5) rfl rfl
  · refine c1_of mW (W_format_arg hd rfl (a := a) (b := b) (c := c) (by
      by_cases h : may a b c = true
      · exact .inr fun e => hm ⟨h, by rw [e]; exact hfs⟩
      · exact .inl (by simpa using h))) ?_
    rintro v M1 ⟨rfl, e1⟩
    refine ⟨rfl, ?_⟩
    have hg1 := e1.blk hg trivial
    refine ldA_blk hg1 rfl rfl rfl (c1_eq mW (W_may a b c _ _) rfl ?_)
    by_cases h : may a b c = true
    · refine cond_f (by show (!may a b c) = false; rw [h]; rfl) ?_
      refine ldA_blk hg1 rfl rfl rfl (c1_eq mW (W_sectors a b c _ _) rfl (cond_t ?_ ?_))
      · show (sectors a b c != sec) = true
        have : sectors a b c ≠ sec := fun e => hm ⟨h, e⟩
        simpa using this
      · exact cond_t rfl (c1_eq mW (W_awake _ _) rfl (outT_flat (M := M1) rfl rfl))
    · exact cond_t (by show (!may a b c) = true; simpa using h) (cond_t rfl (c1_eq mW (W_awake _ _) rfl (outT_flat (M := M1) rfl rfl)))

set_option maxRecDepth 20000 in
theorem K7 {w : Nat} {a b c sec : Int} {gb_ : Nat} {dirt : Value} {ns : List Int} {M0 M : Mem} (hw : w ≤ M.length) (hs2 : sec ≤ 400) (hns : ns.length ≤ 20) (hg : M.blk gb_ = ⟨gcs a b c, T_api_Geometry, true⟩) (hD : Dirt M w dirt ns) :
    kk_purlinlaw20_MkfsTells_7 W w (retP Try.prog true M0 Try.f4 QT) (.exit 0) (ex_purlinlaw20_MkfsTells_7 sec dirt (ptr gb_ 0)) M := by
  rw [ke_purlinlaw20_MkfsTells_7_0]
  by_cases hs1 : sec < 1
  · refine c1_of mW (W_new0 hs1 _ _) fun v M1 e => ⟨rfl, ?_⟩
    cases e
    exact chkP_of rfl (cond_t rfl (c1_eq mW (W_awake _ _) rfl (outT_flat (M := M) rfl rfl)))
  · obtain ⟨n, rfl⟩ : ∃ n : Nat, sec = (n : Int) := ⟨sec.toNat, by omega⟩
    refine c1_of mW (W_new (n := n) (by omega) (by omega) _ _) ?_
    rintro v M1 ⟨d, fs, rfl, hdl, e1, hfs, hr, hd⟩
    refine ⟨rfl, chkP_of rfl (cond_f rfl ?_)⟩
    have hd1 := hd.low hw
    have hD1 : Dirt M1 w dirt ns := hD.keep fun b hb => e1.2 b (by omega) trivial
    have hg1 := e1.blk hg trivial
    refine LT14 (sec := (n : Int)) (ns := ns) (by omega) hs2 (by rw [hfs]) hns ns.length 0 _ M1 [] 0 rfl (by omega) (by have := e1.1; dsimp only at this; omega) hD1 hd1 (Nat.le_refl _) (Nat.le_refl _) (fun p hp => by cases hp) ?_
    intro M2 ws lg e2 hd2 h1 h2 h3
    have hlen := e2.1
    exact K14 (by have := e1.1; dsimp only at this; omega) (by omega) hs2 (by rw [hfs]) (e2.blk hg1 rfl) hd2 h1 h2 h3

set_option maxRecDepth 20000 in
theorem tells_run (a b c sec : Int) {dirt : Value} {ns : List Int} {M : Mem} {wall : Nat} (hD : Dirt M M.length dirt ns) : W F_purlinlaw20_MkfsTells [gv a b c, .int .i64 sec, dirt] M wall QT := by
  refine W_go rfl (by kernel_rfl) ?_
  rw [show gv a b c = .agg (gcs a b c).toArray from rfl, bd_purlinlaw20_MkfsTells]
  refine boxC_any rfl fun M1 e1 l1 n1 => ?_
  have hD1 : Dirt M1 M.length dirt ns := hD.keep fun b hb => e1.2 b hb trivial
  by_cases h400 : 400 < sec
  · exact cond_t (dec_t h400) (c1_eq mW (W_awake _ _) rfl (outT_flat (M := M1) rfl rfl))
  refine cond_f (dec_f h400) (chkP_of hD.1 ?_)
  by_cases h20 : 20 < ns.length
  · exact cond_t (dec_t (by rw [hD.2.1]; omega)) (c1_eq mW (W_awake _ _) rfl (outT_flat (M := M1) rfl rfl))
  refine cond_f (dec_f (by rw [hD.2.1]; omega)) (ldA_blk n1 rfl rfl rfl ?_)
  by_cases hm : may a b c = true
  · obtain ⟨g, rfl, rfl, rfl⟩ := geo_of hm
    have hgn := g.hn
    have hlen : (rowsOf g).length = g.n := by simp
    refine c1_of mW (W_image hm _ _) fun v M2 e => ⟨rfl, ?_⟩
    cases e
    rw [imgRows_geo]
    have e2 : Fr M1 (M1 ++ layRows M1.length (rowsOf g)) (fun _ _ => True) := Fr.app _ _ _
    have ht2 := lay_tab g M1
    obtain ⟨cs, hcs, hcell, hrow⟩ : ∃ cs, (M1 ++ layRows M1.length (rowsOf g)).blk M1.length = ⟨cs, T_s_uint8, true⟩ ∧ (∀ r, r < g.n → cs[r]? = some (slc (M1.length + (1 + r)) 0 none 128 128)) ∧
        (∀ r, r < g.n → ∃ row, (M1 ++ layRows M1.length (rowsOf g)).blk (M1.length + (1 + r)) = ⟨row, T_uint8, true⟩ ∧ row.length = 128) := by
      refine ⟨_, blk_lay (j := 0) _ rfl, fun r hr => ?_, fun r hr => ⟨imgF g r, blk_lay _ ?_, (img_ok g r).1⟩⟩
      · have e : (rowsOf g).getD r [] = imgF g r := by simp [List.getD, hr]
        rw [List.getElem?_map, List.getElem?_range (by rw [hlen]; exact hr), Option.map_some, e, (img_ok g r).1]
        rfl
      · show (_ :: (rowsOf g).map fun l => (⟨l, 5, true⟩ : Blk))[1 + r]? = _
        rw [Nat.add_comm, List.getElem?_cons_succ, List.getElem?_map, rowsOf_get g hr]
        rfl
    generalize M1 ++ layRows M1.length (rowsOf g) = M2 at e2 ht2 hcs hrow ⊢
    refine ldA_blk (e2.blk n1 trivial) rfl rfl rfl (c1_of mW (W_rimage hm _ _) fun v M3 e => ⟨rfl, ?_⟩)
    cases e
    rw [imgRows_geo]
    have e3 : Fr M2 (M2 ++ layS M2.length (rowsOf g)) (fun _ _ => True) := Fr.app _ _ _
    have ht3 := layS_tab g M2
    generalize M2 ++ layS M2.length (rowsOf g) = M3 at e3 ht3 ⊢
    obtain ⟨d1, d2⟩ := tab_d (sp := none) (ht2.fr e3 (fun _ _ => trivial) (fun _ => trivial)) (n := (rowsOf g).length) rfl (by omega)
    obtain ⟨d3, d4⟩ := tab_d (sp := some 1) ht3 (n := (rowsOf g).length) rfl (by omega)
    refine c1_eq mW (W_parts d1 d3 _) rfl (cond_f (by show (!eqParts _ _) = false; rw [d2, d4, eqParts_self]; rfl) ?_)
    show lp_purlinlaw20_MkfsTells_7 W M.length sec dirt (ptr M.length 0) (slc M1.length 0 none (rowsOf g).length (rowsOf g).length) 0 M3 _
    rw [hlen]
    have e13 := (e1.trans e2).trans e3
    refine LT7 (n := g.n) (base := fun r => M1.length + (1 + r)) (fun i j _ _ h => by omega) (fun i => by omega) (by omega) g.n 0 _ M3 cs rfl (by omega) (e3.blk hcs trivial) hcell (fun r _ hr => ?_) fun M4 e4 => ?_
    · obtain ⟨row, q1, q2⟩ := hrow r hr
      exact ⟨row, e3.blk q1 trivial, q2⟩
    · have e34 := e13.trans e4
      refine K7 (a := g.a) (b := g.b) (c := g.c) (ns := ns) (by have := e34.1; omega) (by omega) (by omega) ((e2.trans (e3.trans e4)).blk n1 ⟨trivial, trivial, .inl (by decide)⟩) (hD.keep fun b hb => e34.2 b hb ⟨⟨⟨trivial, trivial⟩, trivial⟩, .inr hb⟩)
  · have hm' : may a b c = false := by simpa using hm
    refine c1_of mW (W_image0 hm' _ _) fun v M2 e => ⟨rfl, ?_⟩
    cases e
    refine ldA_blk n1 rfl rfl rfl (c1_of mW (W_rimage0 hm' _ _) fun v M3 e => ⟨rfl, ?_⟩)
    cases e
    refine c1_eq mW (W_parts0 _ _) rfl (cond_f rfl ?_)
    refine lp_of (run_mono mW) ?_
    rw [rd_purlinlaw20_MkfsTells_7]
    refine chkP_of rfl (cond_f rfl ?_)
    exact K7 (a := a) (b := b) (c := c) (ns := ns) (by omega) (by omega) (by omega) n1 hD1
end Go.Proofs.Yteeclgeoconekaa
