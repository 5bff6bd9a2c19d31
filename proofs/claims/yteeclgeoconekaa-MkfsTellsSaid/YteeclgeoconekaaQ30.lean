/-
  A disk's Image whole; a new disk; what is written over; Format.
-/
import Derived.Test.YteeclgeoconekaaQ29
namespace Go.Proofs.Yteeclgeoconekaa
open Go.Ev

theorem W_dimage {M : Mem} {wall d : Nat} {s : Dk} (hd : DkAt M wall d s) (h0 : s.fs ≠ []) (hr : RowsAt M s.fs) (hn : s.fs.length ≤ 100000) (w : Nat) :
    W F_disk_Disk_Image [ptr d 0] M w (fun p => Fr M p.2 (fun _ e => e ≠ T_s_uint8) ∧ ∃ b sp gs, p.1 = slc b 0 sp gs.length gs.length ∧ p.2.blk b = ⟨gs, T_s_uint8, true⟩ ∧ gs.length = s.fs.length ∧ RowsAt p.2 gs ∧ gs.map (bRow p.2) = s.fs.map (bRow M)) := by
  obtain ⟨hwd, T, Wt, L, hb, ⟨tb, rfl, htb, hwt⟩, _⟩ := hd
  refine W_go rfl (by kernel_rfl) ?_
  rw [bd_disk_Disk_Image]
  refine chkP_of rfl (cond_f rfl (nilck_of (fldA_of (ldV_of (has_of hb rfl) (chkP_of rfl ?_)))))
  refine L_image hn (blk_in htb) s.fs.length 0 _ _ M _ [] rfl rfl (by omega) htb hr (Nat.le_refl _) (.inl ⟨rfl, rfl, rfl⟩) rfl (fun x hx => by cases hx) rfl ?_
  intro M' x' gs e' hx' hl' hr' hm'
  rw [ke_disk_Disk_Image_5_0]
  rcases hx' with ⟨_, _, h⟩ | ⟨b, sp, rfl, hsp, hb', hw'⟩
  · exact absurd (List.eq_nil_of_length_eq_zero h) h0
  · have hp : 0 < s.fs.length := List.length_pos_iff.2 h0
    obtain ⟨y, ys, rfl⟩ : ∃ y ys, gs = y :: ys := by
      cases gs with
      | nil => simp at hl'; omega
      | cons y ys => exact ⟨y, ys, rfl⟩
    refine outT_tab hb' (bOk_slc (hr' y (by simp)).1).1 hp (Nat.le_refl _) ⟨e', b, sp, y :: ys, by rw [hl'], hb', hl', hr', hm'⟩

/-! ### New -/
theorem zrow_ok {M : Mem} {b : Nat} (h : M.blk b = ⟨zeros [Value.int .u8 0] 128, T_uint8, true⟩) : bOk M (slc b 0 none 128 128) = true := (bOk_mk (M := M) (o := 0) (n := 128) (c := 128) (sp := none) h (by rw [zeros_length]; decide) (by kernel_rfl) (by kernel_rfl) (by decide)).1
theorem L_new {d n w : Nat} {κ : KontP} (hn : n ≤ 2048) (hwd : w ≤ d) : ∀ (k i : Nat) (j N : Int) (M : Mem) (T : Value) (fs : List Value), j = (i : Int) → N = (n : Int) → i + k = n →
      M.blk d = ⟨dkCells T nilS nilS true 0, T_disk_Disk, true⟩ → w ≤ M.length →
      ((T = nilS ∧ fs = [] ∧ i = 0) ∨ ∃ b sp, T = slc b 0 sp i i ∧ (sp = none ∨ sp = some 1) ∧ M.blk b = ⟨fs, T_s_uint8, true⟩ ∧ w ≤ b) → fs.length = i → RowsAt M fs → (0 < i → ∃ b, T = slc b 0 (some 1) i i) →
      (∀ M' T' fs, Fr M M' (fun b _ => b < w) → M'.blk d = ⟨dkCells T' nilS nilS true 0, T_disk_Disk, true⟩ →
        ((T' = nilS ∧ fs = [] ∧ n = 0) ∨ ∃ b sp, T' = slc b 0 sp n n ∧ (sp = none ∨ sp = some 1) ∧ M'.blk b = ⟨fs, T_s_uint8, true⟩ ∧ w ≤ b) → fs.length = n → RowsAt M' fs → (0 < n → ∃ b, T' = slc b 0 (some 1) n n) → κ (.exit 0) (ex_disk_New_5 (ptr d 0)) M') →
      lp_disk_New_5 W w (ptr d 0) N j M κ := by
  intro k
  induction k with
  | zero =>
    intro i j N M T fs hj hN hi hb hw hT hf hr hsp hκ
    subst hj hN
    refine lp_of (run_mono mW) ?_
    rw [rd_disk_New_5]
    have hi' : i = n := by omega
    subst hi'
    exact cond_f (dec_f (by omega)) (hκ M T fs (.refl _ _) hb hT hf hr hsp)
  | succ k ih =>
    intro i j N M T fs hj hN hi hb hw hT hf hr hsp hκ
    subst hj hN
    refine lp_of (run_mono mW) ?_
    rw [rd_disk_New_5]
    refine cond_t (dec_t (by omega)) (nilck_of (fldA_of (ldV_of (has_of hb rfl) ?_)))
    refine mkS_any (l := 128) (c := 128) (by omega) (by omega) (by omega) fun M1 e1 l1 n1 => ?_
    refine chkP_of rfl (mkL_any fun M2 e2 l2 n2 => ?_)
    have e12 := e1.trans e2
    have hT2 : (T = .slice none 0 0 ∧ fs = [] ∧ i = 0) ∨ ∃ bs sp, T = slc bs 0 sp i i ∧ (sp = none ∨ sp = some 1) ∧ M2.blk bs = ⟨fs, T_s_uint8, true⟩ ∧ w ≤ bs := by
      rcases hT with h | ⟨b, sp, h1, h2, h3, h4⟩
      · exact .inl h
      · exact .inr ⟨b, sp, h1, h2, e12.blk h3 ⟨trivial, trivial⟩, h4⟩
    refine apA_any hT2 (by omega) n2 rfl rfl (by omega) (by omega) fun M3 e3 l3 n3 => ?_
    have e13 := e12.trans e3
    refine nilck_of (fldA_of (st1_any (e13.blk hb ⟨⟨trivial, trivial⟩, .inl (by decide)⟩) hwd (by show 0 < 6; decide) rfl fun M4 e4 l4 n4 => ?_))
    have e14 := e13.trans e4
    rw [Ev.wr_nat (n := i) (by omega)]
    have hd := blk_in hb
    have z1 := zrow_ok (((e2.trans e3).trans e4).blk n1 ⟨⟨trivial, .inl (by decide)⟩, by omega⟩)
    obtain ⟨f1, _⟩ : RowsAt M4 fs ∧ True := ⟨fun x hx => by
      have hx5 := (hr x hx).1
      obtain ⟨a, m, c, k', rfl, q1, q2, q3, _⟩ := bOk_inv hx5
      have hne : a.block ≠ d := fun e => by
        have := blk_get' q1
        rw [e, hb] at this
        rw [← this] at q3
        exact absurd (show T_disk_Disk = 5 from q3) (by decide)
      have hk : M4.blk a.block = M.blk a.block := e14.2 _ (lt_of_getElem? q1) ⟨⟨⟨trivial, trivial⟩, .inl (by rw [blk_get' q1, q3]; decide)⟩, hne⟩
      exact ⟨bOk_blk hk hx5, (hr _ hx).2⟩, trivial⟩
    refine ih (i + 1) _ _ M4 _ (fs ++ [slc M.length 0 none 128 128]) rfl rfl (by omega) n4 (by omega) (.inr ⟨M2.length, some 1, rfl, .inr rfl, e4.blk n3 (by omega), by omega⟩) (by simp [hf]) ?_ (fun _ => ⟨_, rfl⟩) ?_
    · intro y hy
      rcases List.mem_append.1 hy with hy | hy
      · exact f1 y hy
      · rw [List.mem_singleton] at hy
        subst hy
        exact ⟨z1, rfl⟩
    · intro M' T' fs' e' hd' hT' hl' hr' hs'
      exact hκ M' T' fs' ((e14.trans e').mono fun b hb h => ⟨⟨⟨⟨trivial, trivial⟩, .inr h⟩, by omega⟩, h⟩) hd' hT' hl' hr' hs'
theorem W_new {n : Nat} (h1 : 1 ≤ n) (h2 : n ≤ 2048) (M : Mem) (w : Nat) : W F_disk_New [.int .i64 n] M w (fun p => ∃ d fs, p.1 = ptr d 0 ∧ M.length ≤ d ∧ Fr M p.2 (fun _ _ => True) ∧ fs.length = n ∧ RowsAt p.2 fs ∧ DkAt p.2 M.length d ⟨fs, [], true, 0, 0⟩) := by
  refine W_go rfl (by kernel_rfl) ?_
  rw [bd_disk_New]
  refine cond_f (dec_f (by omega)) (cond_f (dec_f (by omega)) (boxC_any rfl fun M1 e1 l1 n1 => ?_))
  refine L_new (d := M.length) (n := n) h2 (Nat.le_refl _) n 0 _ _ M1 nilS [] rfl rfl (by omega) n1 (by omega) (.inl ⟨rfl, rfl, rfl⟩) rfl (fun x hx => by cases hx) (fun h => absurd h (by omega)) ?_
  intro M' T' fs e' hd hT hl hr hs
  rw [ke_disk_New_5_0]
  obtain ⟨b, rfl⟩ := hs (by omega)
  refine outT_ptr ⟨_, fs, rfl, Nat.le_refl _, (e1.trans e').mono fun b hb _ => ⟨trivial, hb⟩, hl, hr, Nat.le_refl _, _, _, _, hd, ?_, .inl ⟨rfl, rfl⟩, .inl ⟨rfl, rfl⟩⟩
  rcases hT with ⟨h, _⟩ | ⟨b', sp, h, _, h3, h4⟩
  · cases h
  · cases h
    exact ⟨_, by rw [hl], h3, h4⟩
theorem W_new0 {n : Int} (h : n < 1) (M : Mem) (w : Nat) : W F_disk_New [.int .i64 n] M w (fun p => p = (.pointer none, M)) := by
  refine W_go rfl (by kernel_rfl) ?_
  rw [bd_disk_New]
  exact cond_t (dec_t h) (outT_flat (M := M) rfl rfl)

/-! ### what is written over -/
theorem L_over {b L w : Nat} {κ : KontP} (hw : w ≤ b) (hL : L ≤ 100000) : ∀ (k i : Nat) (j : Int) (M : Mem) (cs : List Value), j = (i : Int) → i + k = L → M.blk b = ⟨cs, T_uint8, true⟩ → cs.length = L →
      (∀ M' cs', Fr M M' (fun c _ => c ≠ b) → M'.blk b = ⟨cs', T_uint8, true⟩ → cs'.length = L → κ (.exit 0) (ex_purlinlaw0_OverBytes_1 (slc b 0 none L L)) M') → lp_purlinlaw0_OverBytes_1 W w (slc b 0 none L L) j M κ := by
  intro k
  induction k with
  | zero =>
    intro i j M cs hj hi hb hc hκ
    subst hj
    refine lp_of (run_mono mW) ?_
    rw [rd_purlinlaw0_OverBytes_1]
    refine chkP_of rfl (cond_f (dec_f ?_) (hκ M cs (.refl _ _) hb hc))
    show ¬ ((i : Int) < (L : Int))
    omega
  | succ k ih =>
    intro i j M cs hj hi hb hc hκ
    subst hj
    refine lp_of (run_mono mW) ?_
    rw [rd_purlinlaw0_OverBytes_1]
    refine chkP_of rfl (cond_t (dec_t ?_) (ixS_of (by omega) (by omega) (st1_any hb hw (by omega) rfl fun M1 e1 l1 n1 => ?_)))
    · show (i : Int) < (L : Int)
      omega
    · rw [Ev.wr_nat (n := i) (by omega)]
      exact ih (i + 1) _ M1 _ rfl (by omega) n1 (by simp [hc]) fun M' cs' e' h' hl' => hκ M' cs' ((e1.trans e').mono fun _ _ h => ⟨h, h⟩) h' hl'
theorem W_over {M : Mem} {w b L : Nat} {cs : List Value} (hb : M.blk b = ⟨cs, T_uint8, true⟩) (hc : cs.length = L) (hw : w ≤ b) (hL : L ≤ 100000) : W F_purlinlaw0_OverBytes [slc b 0 none L L] M w (fun p => Fr M p.2 (fun c _ => c ≠ b)) := by
  refine W_go rfl (by kernel_rfl) ?_
  rw [bd_purlinlaw0_OverBytes]
  refine L_over hw hL L 0 _ M cs rfl (by omega) hb hc fun M1 cs1 e1 n1 l1 => ?_
  rw [ke_purlinlaw0_OverBytes_1_0]
  refine mkL_any fun M2 e2 l2 n2 => ?_
  refine apA_sl1 (e2.blk n1 trivial) (by omega) (.inl rfl) hw n2 rfl rfl (by omega) (by omega) ?_
  exact (show Fr M _ (fun c _ => c ≠ b) from ((e1.trans e2).trans (Fr.app M2 _ (fun _ _ => True))).mono fun c _ h => ⟨⟨h, trivial⟩, trivial⟩)

/-! ### Format -/
theorem flushed_app (fs : List Value) (a b : List (Int × Value)) : flushed fs (a ++ b) = flushed (flushed fs a) b := by simp [flushed]
/-- All sectors written, one behind the other. -/
theorem flushed_all : ∀ (vs : List Value) (k : Nat) (fs : List Value), fs.length = k + vs.length →
    flushed fs ((List.range' k vs.length).zipWith (fun (i : Nat) v => ((i : Int), v)) vs) = fs.take k ++ vs := by
  intro vs
  induction vs with
  | nil => intro k fs h; simp only [List.length_nil, Nat.add_zero] at h; simp [flushed, ← h]
  | cons v vs ih =>
    intro k fs h
    simp only [List.length_cons, List.range'_succ, List.zipWith_cons_cons]
    show flushed (fs.set ((k : Int).toNat) v) _ = _
    rw [ih (k + 1) (fs.set ((k : Int).toNat) v) (by simp at h ⊢; omega)]
    have hk : k < fs.length := by simp at h; omega
    have : (fs.set ((k : Int).toNat) v).take (k + 1) = fs.take k ++ [v] := by
      rw [Int.toNat_natCast, List.take_add_one, List.take_set_of_le (Nat.le_refl _)]
      simp [hk]
    rw [this, List.append_assoc]
    rfl
/-- The writes of the first rows. -/
def wsOf (vs : List Value) : List (Int × Value) := (List.range' 0 vs.length).zipWith (fun (i : Nat) v => ((i : Int), v)) vs
theorem wsOf_snoc (vs : List Value) (v : Value) : wsOf (vs ++ [v]) = wsOf vs ++ [((vs.length : Int), v)] := by
  unfold wsOf
  rw [List.length_append, List.length_singleton, ← List.range'_append_1]
  rw [List.zipWith_append (by simp)]
  simp

theorem DkAt.kd {M : Mem} {wall d : Nat} {s : Dk} (hd : DkAt M wall d s) {e : TypeId} (h1 : e ≠ T_disk_write) (h2 : e ≠ T_int) (h3 : e ≠ T_disk_Disk) : ∀ b, (M.blk b).elem = e → Kd d b e := by
  obtain ⟨_, T, Wt, L, hb, _⟩ := hd
  exact fun b h => ⟨h1, h2, fun x => h3 (by rw [← h, x, hb])⟩
theorem DkAt.fr {M M' : Mem} {wall d : Nat} {s : Dk} {X : Nat → TypeId → Prop} (hd : DkAt M wall d s) (hf : Fr M M' X) (hX : ∀ b, wall ≤ b → (M.blk b).elem = T_disk_Disk ∨ (M.blk b).elem = T_s_uint8 ∨ (M.blk b).elem = T_disk_write ∨ (M.blk b).elem = T_int → X b (M.blk b).elem) : DkAt M' wall d s := by
  obtain ⟨hwd, T, Wt, L, hb, ⟨tb, rfl, htb, hwt⟩, hW, hL⟩ := hd
  have key : ∀ {b : Nat} {cs : List Value} {e : TypeId}, M.blk b = ⟨cs, e, true⟩ → wall ≤ b → e = T_disk_Disk ∨ e = T_s_uint8 ∨ e = T_disk_write ∨ e = T_int → M'.blk b = ⟨cs, e, true⟩ := fun {b cs e} h hw he => hf.blk h (by
    have := hX b hw
    rw [h] at this
    exact this he)
  refine ⟨hwd, _, Wt, L, key hb hwd (.inl rfl), ⟨tb, rfl, key htb hwt (.inr (.inl rfl)), hwt⟩, ?_, ?_⟩
  · rcases hW with h | ⟨b, h1, h2, h3⟩
    · exact .inl h
    · exact .inr ⟨b, h1, key h2 h3 (.inr (.inr (.inl rfl))), h3⟩
  · rcases hL with h | ⟨b, cs, h1, h2, h3, h4⟩
    · exact .inl h
    · exact .inr ⟨b, cs, h1, key h2 h4 (.inr (.inr (.inr rfl))), h3, h4⟩
structure RowTab (M : Mem) (b : Nat) (rows : List (List Value)) : Prop where
  tb : ∃ cs, M.blk b = ⟨cs, T_s_uint8, true⟩ ∧ cs.length = rows.length ∧ ∀ i x, cs[i]? = some x → bOk M x = true ∧ lenOf x = 128 ∧ bRow M x = rows.getD i []
theorem RowTab.fr {M M' : Mem} {b : Nat} {rows : List (List Value)} {X : Nat → TypeId → Prop} (h : RowTab M b rows) (hf : Fr M M' X) (h5 : ∀ b, (M.blk b).elem = 5 → X b 5) (ht : (M.blk b).elem = T_s_uint8 → X b T_s_uint8) : RowTab M' b rows := by
  obtain ⟨cs, h1, h2, h3⟩ := h
  refine ⟨cs, hf.blk h1 (ht (by rw [h1])), h2, fun i x hx => ?_⟩
  obtain ⟨q1, q2, q3⟩ := h3 i x hx
  obtain ⟨g1, g2⟩ := bOk_fr hf h5 q1
  exact ⟨g1, q2, g2.trans q3⟩

theorem L_format {wall d tb n : Nat} {rows : List (List Value)} {fs : List Value} {on : Bool} {lg0 : Nat} {fl : Int} {ws0 : List (Int × Value)} {κ : KontP} (hon : on = true) (hn : rows.length = n) (hfs : fs.length = n) (hb : n ≤ 50000) (h0 : ws0.length ≤ 1000) (hlg : lg0 ≤ 1000) :
    ∀ (k i : Nat) (j N : Int) (M : Mem) (vs : List Value), j = (i : Int) → N = (n : Int) → i + k = n → vs.length = i → RowTab M tb rows → DkAt M wall d ⟨fs, ws0 ++ wsOf vs, on, lg0 + i, fl⟩ →
      (∀ r v, vs[r]? = some v → bOk M v = true ∧ lenOf v = 128 ∧ bRow M v = rows.getD r []) →
      (∀ M' vs, vs.length = n → Fr M M' (Kd d) → DkAt M' wall d ⟨fs, ws0 ++ wsOf vs, on, lg0 + n, fl⟩ → (∀ r v, vs[r]? = some v → bOk M' v = true ∧ lenOf v = 128 ∧ bRow M' v = rows.getD r []) → κ (.exit 1) (mkR 44 [(0, (ptr d 0))]) M') →
      lp_mkfs_Format_8 W wall (ptr d 0) (slc tb 0 none n n) N j M κ := by
  intro k
  induction k with
  | zero =>
    intro i j N M vs hj hN hi hv ht hd hr hκ
    subst hj hN
    refine lp_of (run_mono mW) ?_
    rw [rd_mkfs_Format_8]
    have hi' : i = n := by omega
    subst hi'
    exact cond_f (dec_f (by omega)) (hκ M vs hv (.refl _ _) hd hr)
  | succ k ih =>
    intro i j N M vs hj hN hi hv ht hd hr hκ
    subst hj hN
    refine lp_of (run_mono mW) ?_
    rw [rd_mkfs_Format_8]
    obtain ⟨cs, t1, t2, t3⟩ := ht.tb
    obtain ⟨x, hx⟩ : ∃ x, cs[i]? = some x := ⟨cs[i]'(by omega), by simp⟩
    obtain ⟨q1, q2, q3⟩ := t3 i x hx
    have hwl : (wsOf vs).length = vs.length := by simp [wsOf]
    refine cond_t (dec_t (by omega)) (ixS_of (by omega) (by omega) (ldV_of (has_of t1 (by simpa using hx)) ?_))
    refine c1_of mW (W_write hd hon (at_ := (i : Int)) (by omega) (by show (i : Int) < (fs.length : Int); omega) q1 q2 (by simp [hwl]; omega) (by show lg0 + i ≤ 100000; omega)) ?_
    rintro v' M1 ⟨rfl, e1, v2, p1, p2, p3, hd1⟩
    refine ⟨rfl, cond_f rfl ?_⟩
    rw [Ev.wr_nat (n := i) (by omega)]
    have hd2 : DkAt M1 wall d ⟨fs, ws0 ++ wsOf (vs ++ [v2]), on, lg0 + (i + 1), fl⟩ := by
      rw [wsOf_snoc, ← List.append_assoc, hv]
      exact hd1
    have h5 := hd.kd (e := 5) (by decide) (by decide) (by decide)
    refine ih (i + 1) _ _ M1 (vs ++ [v2]) rfl rfl (by omega) (by simp [hv]) (ht.fr e1 h5 (hd.kd (by decide) (by decide) (by decide) _)) hd2 ?_ ?_
    · intro r v hrv
      by_cases hlt : r < vs.length
      · rw [List.getElem?_append_left hlt] at hrv
        obtain ⟨a1, a2, a3⟩ := hr r v hrv
        obtain ⟨g1, g2⟩ := bOk_fr e1 h5 a1
        exact ⟨g1, a2, g2.trans a3⟩
      · rw [List.getElem?_append_right (by omega)] at hrv
        have h0 := lt_of_getElem? hrv
        have hr0 : r = i := by simp at h0; omega
        subst hr0
        rw [hv, Nat.sub_self] at hrv
        simp only [List.getElem?_cons_zero, Option.some.injEq] at hrv
        subst hrv
        exact ⟨p1, p3, p2.trans q3⟩
    · intro M' vs' hl' e' hd' hr'
      exact hκ M' vs' hl' ((e1.trans e').mono fun b hb h => ⟨h, h⟩) hd' hr'
end Go.Proofs.Yteeclgeoconekaa


/-
  Format, in all its cases.
-/
namespace Go.Proofs.Yteeclgeoconekaa
open Go.Ev

theorem blk_lay {M : Mem} (N : Mem) {j : Nat} {k : Blk} (h : N[j]? = some k) : Mem.blk (M ++ N) (M.length + j) = k := by
  unfold Mem.blk
  rw [List.getElem?_append_right (by omega), Nat.add_sub_cancel_left, h]
  rfl
theorem img_ok (g : Geo) (r : Nat) : (imgF g r).length = 128 ∧ u8s (imgF g r) = true ∧ u8r (imgF g r) = true := imgF_ok g r
/-- The program's table of rows; the document's. -/
theorem lay_tab (g : Geo) (M : Mem) : RowTab (M ++ layRows M.length (rowsOf g)) M.length (rowsOf g) := by
  have hlen : (rowsOf g).length = g.n := by simp
  refine ⟨⟨_, blk_lay (j := 0) _ rfl, by simp, fun i x hx => ?_⟩⟩
  rw [List.getElem?_map] at hx
  by_cases hi : i < g.n
  · rw [List.getElem?_range (by rw [hlen]; exact hi)] at hx
    simp only [Option.map_some, Option.some.injEq] at hx
    have e : (rowsOf g).getD i [] = imgF g i := by simp [List.getD, hi]
    rw [e] at hx ⊢
    obtain ⟨k1, k2, k3⟩ := img_ok g i
    have hb : Mem.blk (M ++ layRows M.length (rowsOf g)) (M.length + (1 + i)) = ⟨imgF g i, 5, true⟩ := by
      refine blk_lay _ ?_
      show (_ :: (rowsOf g).map fun l => (⟨l, 5, true⟩ : Blk))[1 + i]? = _
      rw [Nat.add_comm, List.getElem?_cons_succ, List.getElem?_map, rowsOf_get g hi]
      rfl
    obtain ⟨s1, s2⟩ := bOk_mk (M := M ++ layRows M.length (rowsOf g)) (b := M.length + (1 + i)) (o := 0) (n := (imgF g i).length) (c := (imgF g i).length) (sp := none) hb (by omega) k2 k3 (by omega)
    subst hx
    refine ⟨s1, k1, s2.trans ?_⟩
    rw [List.drop_zero, List.take_of_length_le (Nat.le_refl _)]
  · rw [List.getElem?_eq_none (by simp; omega)] at hx
    cases hx
theorem layS_tab (g : Geo) (M : Mem) : RowTab (M ++ layS M.length (rowsOf g)) M.length (rowsOf g) := by
  have hlen : (rowsOf g).length = g.n := by simp
  refine ⟨⟨_, blk_lay (j := 0) _ rfl, by simp, fun i x hx => ?_⟩⟩
  rw [List.getElem?_map] at hx
  by_cases hi : i < g.n
  · rw [List.getElem?_range (by rw [hlen]; exact hi)] at hx
    simp only [Option.map_some, Option.some.injEq] at hx
    have e : (rowsOf g).getD i [] = imgF g i := by simp [List.getD, hi]
    rw [e] at hx ⊢
    obtain ⟨k1, k2, k3⟩ := img_ok g i
    have hb : Mem.blk (M ++ layS M.length (rowsOf g)) (M.length + (1 + i)) = ⟨imgF g i, 5, true⟩ := by
      refine blk_lay _ ?_
      show (_ :: (rowsOf g).map fun l => (⟨l, 5, true⟩ : Blk))[1 + i]? = _
      rw [Nat.add_comm, List.getElem?_cons_succ, List.getElem?_map, rowsOf_get g hi]
      rfl
    obtain ⟨s1, s2⟩ := bOk_mk (M := M ++ layS M.length (rowsOf g)) (b := M.length + (1 + i)) (o := 0) (n := (imgF g i).length) (c := (imgF g i).length) (sp := sptL (imgF g i)) hb (by omega) k2 k3 (by omega)
    subst hx
    refine ⟨s1, k1, s2.trans ?_⟩
    rw [List.drop_zero, List.take_of_length_le (Nat.le_refl _)]
  · rw [List.getElem?_eq_none (by simp; omega)] at hx
    cases hx

abbrev gcs (a b c : Int) : List Value := [.int .i64 a, .int .i64 b, .int .i64 c]
theorem W_format_off {M : Mem} {wall d : Nat} {s : Dk} (hd : DkAt M wall d s) (hon : s.on = false) (a b c : Int) : W F_mkfs_Format [ptr d 0, gv a b c] M wall (fun p => p.1 = .int .i64 4 ∧ Fr M p.2 (fun _ _ => True)) := by
  refine W_go rfl (by kernel_rfl) ?_
  rw [show gv a b c = .agg (gcs a b c).toArray from rfl, bd_mkfs_Format]
  refine boxC_any rfl fun M1 e1 l1 n1 => chkP_of rfl (cond_f rfl ?_)
  have hd1 : DkAt M1 wall d s := hd.fr e1 (fun _ _ _ => trivial)
  refine c1_eq mW (W_on hd1 _) rfl (cond_t (by show (!s.on) = true; rw [hon]; rfl) ?_)
  exact ⟨rfl, e1⟩
theorem W_format_arg {M : Mem} {wall d : Nat} {s : Dk} (hd : DkAt M wall d s) (hon : s.on = true) {a b c : Int} (h : may a b c = false ∨ sectors a b c ≠ s.fs.length) : W F_mkfs_Format [ptr d 0, gv a b c] M wall (fun p => p.1 = .int .i64 2 ∧ Fr M p.2 (fun _ _ => True)) := by
  refine W_go rfl (by kernel_rfl) ?_
  rw [show gv a b c = .agg (gcs a b c).toArray from rfl, bd_mkfs_Format]
  refine boxC_any rfl fun M1 e1 l1 n1 => chkP_of rfl (cond_f rfl ?_)
  have hd1 : DkAt M1 wall d s := hd.fr e1 (fun _ _ _ => trivial)
  refine c1_eq mW (W_on hd1 _) rfl (cond_f (by show (!s.on) = false; rw [hon]; rfl) ?_)
  refine ldA_blk n1 rfl rfl rfl (c1_eq mW (W_may a b c _ _) rfl ?_)
  by_cases hm : may a b c = true
  · refine cond_f (by show (!may a b c) = false; rw [hm]; rfl) (ldA_blk n1 rfl rfl rfl (c1_eq mW (W_sectors a b c _ _) rfl (c1_eq mW (W_secs hd1 _) rfl (cond_t ?_ ⟨rfl, e1⟩))))
    show (sectors a b c != (s.fs.length : Int)) = true
    rcases h with h | h
    · rw [hm] at h; cases h
    · simpa using h
  · exact cond_t (by show (!may a b c) = true; simpa using hm) ⟨rfl, e1⟩
theorem ke_format1 (CK : CallP) (w : Nat) (a0 : Value) (M0 M : Mem) (Q : OutP) : kk_mkfs_Format_8 CK w (retP Try.prog false M0 Try.f20 Q) (.exit 1) (mkR 44 [(0, a0)]) M =
  (c1 (Ev.fI .i64) CK F_disk_Disk_Flush [a0] M w fun (n21 : Int) (M20 : Mem) => outP Q (.int .i64 n21) M20) := by kernel_rfl
theorem wsOf_get {vs : List Value} {p : Int × Value} (h : p ∈ wsOf vs) : ∃ i : Nat, p.1 = (i : Int) ∧ vs[i]? = some p.2 := by
  unfold wsOf at h
  obtain ⟨i, hi⟩ := List.getElem?_of_mem h
  rw [List.getElem?_zipWith] at hi
  have hlt : i < vs.length := by
    rcases Nat.lt_or_ge i vs.length with h | h
    · exact h
    · rw [List.getElem?_eq_none (by simpa using h)] at hi; simp at hi
  rw [List.getElem?_range' hlt, List.getElem?_eq_getElem hlt] at hi
  simp only [Option.some.injEq] at hi
  subst hi
  exact ⟨i, by simp, by simp⟩
theorem wsOf_len (vs : List Value) : (wsOf vs).length = vs.length := by simp [wsOf]
set_option maxRecDepth 20000 in
theorem W_format {M : Mem} {wall d : Nat} {s : Dk} (hd : DkAt M wall d s) (hon : s.on = true) (g : Geo) (hs : sectors g.a g.b g.c = s.fs.length) (hws : s.ws.length ≤ 1000) (hlg : s.lg ≤ 1000) (hin : ∀ p ∈ s.ws, (0 ≤ p.1 ∧ p.1 < (s.fs.length : Int)) ∧ isSl p.2 = true) :
    W F_mkfs_Format [ptr d 0, gv g.a g.b g.c] M wall (fun p => p.1 = .int .i64 0 ∧ Fr M p.2 (fun b e => e ≠ T_disk_write ∧ e ≠ T_int ∧ e ≠ T_s_uint8 ∧ b ≠ d) ∧ ∃ vs lg fl, DkAt p.2 wall d ⟨vs, [], s.on, lg, fl⟩ ∧ RowsAt p.2 vs ∧ vs.map (bRow p.2) = rowsOf g) := by
  have hg := g.hn
  have hfs : s.fs.length = g.n := by
    have := g.sectors_
    omega
  have hgm : may g.a g.b g.c = true := g.may_
  refine W_go rfl (by kernel_rfl) ?_
  rw [show gv g.a g.b g.c = .agg (gcs g.a g.b g.c).toArray from rfl, bd_mkfs_Format]
  refine boxC_any rfl fun M1 e1 l1 n1 => chkP_of rfl (cond_f rfl ?_)
  have hd1 : DkAt M1 wall d s := hd.fr e1 (fun _ _ _ => trivial)
  refine c1_eq mW (W_on hd1 _) rfl (cond_f (by show (!s.on) = false; rw [hon]; rfl) ?_)
  refine ldA_blk n1 rfl rfl rfl (c1_eq mW (W_may _ _ _ _ _) rfl (cond_f (by show (!may g.a g.b g.c) = false; rw [hgm]; rfl) ?_))
  refine ldA_blk n1 rfl rfl rfl (c1_eq mW (W_sectors _ _ _ _ _) rfl (c1_eq mW (W_secs hd1 _) rfl (cond_f ?_ ?_)))
  · show (sectors g.a g.b g.c != (s.fs.length : Int)) = false
    rw [hs]
    simp
  refine ldA_blk n1 rfl rfl rfl (c1_of mW (W_image hgm _ _) fun v M2 e => ⟨rfl, ?_⟩)
  cases e
  rw [imgRows_geo]
  have hlen : (rowsOf g).length = g.n := by simp
  have e2 : Fr M1 (M1 ++ layRows M1.length (rowsOf g)) (fun _ _ => True) := Fr.app _ _ _
  have ht := lay_tab g M1
  generalize M1 ++ layRows M1.length (rowsOf g) = M2 at e2 ht ⊢
  have e12 := e1.trans e2
  have hd2 : DkAt M2 wall d s := hd1.fr e2 (fun _ _ _ => trivial)
  refine chkP_of rfl ?_
  show lp_mkfs_Format_8 W wall (ptr d 0) (slc M1.length 0 none (rowsOf g).length (rowsOf g).length) ((rowsOf g).length : Int) 0 M2 _
  rw [hlen]
  refine L_format (rows := rowsOf g) (n := g.n) (fs := s.fs) (on := s.on) (lg0 := s.lg) (fl := s.fl) (ws0 := s.ws) hon hlen hfs (by omega) hws hlg g.n 0 _ _ M2 [] rfl rfl (by omega) rfl ht (by simpa [wsOf] using hd2) (fun r v h => by simp at h) ?_
  intro M3 vs hv e3 hd3 hr3
  show kk_mkfs_Format_8 W wall _ (.exit 1) (mkR 44 [(0, (ptr d 0))]) M3
  rw [ke_format1]
  have hsl : ∀ p ∈ s.ws ++ wsOf vs, (0 ≤ p.1 ∧ p.1 < (s.fs.length : Int)) ∧ isSl p.2 = true := by
    intro p hp
    rcases List.mem_append.1 hp with hp | hp
    · exact hin p hp
    · obtain ⟨i, h1, h2⟩ := wsOf_get hp
      obtain ⟨q1, _⟩ := hr3 i _ h2
      obtain ⟨a, n, c, k, e, _⟩ := bOk_inv q1
      have := lt_of_getElem? h2
      refine ⟨⟨by omega, by omega⟩, by rw [e]; rfl⟩
  refine c1_of mW (W_flush hd3 hon hsl (by simp [wsOf_len]; omega)) ?_
  rintro v M4 ⟨rfl, e4, fl, hd4⟩
  have hflush : flushed s.fs (s.ws ++ wsOf vs) = vs := by
    rw [flushed_app]
    have := flushed_all vs 0 (flushed s.fs s.ws) (by rw [flushed_len]; omega)
    simpa [wsOf] using this
  have h5 : ∀ b, (M3.blk b).elem = 5 → ((5 : Nat) ≠ T_s_uint8 ∧ b ≠ d) := fun b h => ⟨by decide, fun e => by
    obtain ⟨_, T, Wt, L, hb, _⟩ := hd3
    rw [e, hb] at h
    exact absurd (show T_disk_Disk = 5 from h) (by decide)⟩
  refine ⟨rfl, rfl, ?_, vs, _, fl, by rw [← hflush]; exact hd4, fun x hx => ?_, ?_⟩
  · exact ((e12.trans e3).trans e4).mono fun b hb ⟨h1, h2, h3, h4⟩ => ⟨⟨⟨trivial, trivial⟩, h1, h2, h4⟩, h3, h4⟩
  · obtain ⟨i, hi⟩ := List.getElem?_of_mem hx
    obtain ⟨q1, q2, q3⟩ := hr3 i x hi
    exact ⟨(bOk_fr e4 h5 q1).1, q2⟩
  · apply List.ext_getElem?
    intro r
    rw [List.getElem?_map]
    by_cases hr : r < g.n
    · have hx : vs[r]? = some (vs[r]'(by omega)) := by simp
      obtain ⟨q1, q2, q3⟩ := hr3 r _ hx
      rw [hx, Option.map_some, (bOk_fr e4 h5 q1).2, q3, rowsOf_get g hr]
      simp [List.getD, hr]
    · rw [List.getElem?_eq_none (by omega), List.getElem?_eq_none (by rw [hlen]; omega)]
      rfl
end Go.Proofs.Yteeclgeoconekaa
