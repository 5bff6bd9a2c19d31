/-
  The disk's Flush, Crash, Image; a new disk.
-/
import Derived.Test.YteeclgeoconekaaQ28
namespace Go.Proofs.Yteeclgeoconekaa
open Go.Ev

/-! ### Flush -/
def flushed (fs : List Value) (ws : List (Int × Value)) : List Value := ws.foldl (fun fs p => fs.set p.1.toNat p.2) fs
theorem flushed_len (ws : List (Int × Value)) : ∀ fs, (flushed fs ws).length = fs.length := by
  induction ws with
  | nil => intro fs; rfl
  | cons p ws ih => intro fs; show (flushed (fs.set _ _) ws).length = _; rw [ih]; simp
theorem wCells_row {M : Mem} {b : Nat} {ws : List (Int × Value)} {e : TypeId} (hb : M.blk b = ⟨wCells ws, e, true⟩) {i : Nat} {p : Int × Value} (hi : ws[i]? = some p) : rowC M b (i * 2) 2 = [.int .i64 p.1, p.2] ∧ i * 2 + 2 ≤ (wCells ws).length := by
  have hlt := lt_of_getElem? hi
  refine ⟨?_, by rw [wCells_len]; omega⟩
  simp only [rowC, hb]
  clear hb
  induction ws generalizing i with
  | nil => simp at hi
  | cons q ws ih =>
    cases i with
    | zero => simp only [List.getElem?_cons_zero, Option.some.injEq] at hi; subst hi; rfl
    | succ i =>
      have := ih (i := i) (by simpa using hi) (by simpa using hlt)
      show ((([.int .i64 q.1, q.2] : List Value) ++ wCells ws).drop ((i + 1) * 2)).take 2 = _
      rw [show (i + 1) * 2 = i * 2 + 2 by omega]
      simpa using this

theorem L_flush {wall d tb wb : Nat} {on : Bool} {L : Value} {fl : Int} {ws : List (Int × Value)} {n : Nat} {κ : KontP} (hwd : wall ≤ d) (htw : wall ≤ tb) (hn : ws.length ≤ 100000) (hin : ∀ p ∈ ws, (0 ≤ p.1 ∧ p.1 < (n : Int)) ∧ isSl p.2 = true) :
    ∀ (k i : Nat) (j N : Int) (M : Mem) (fs : List Value), j = (i : Int) → N = (ws.length : Int) → i + k = ws.length → fs.length = n → wall ≤ M.length →
      M.blk d = ⟨dkCells (slc tb 0 (some 1) n n) (slc wb 0 (some 2) ws.length ws.length) L on fl, T_disk_Disk, true⟩ → M.blk tb = ⟨fs, T_s_uint8, true⟩ → M.blk wb = ⟨wCells ws, T_disk_write, true⟩ →
      (∀ M', Fr M M' (fun _ e => e ≠ T_s_uint8) → M'.blk tb = ⟨flushed fs (ws.drop i), T_s_uint8, true⟩ → κ (.exit 0) (ex_disk_Disk_Flush_7 (ptr d 0)) M') →
      lp_disk_Disk_Flush_7 W wall (ptr d 0) (slc wb 0 (some 2) ws.length ws.length) N j M κ := by
  intro k
  induction k with
  | zero =>
    intro i j N M fs hj hN hi hf hwM hb ht hw hκ
    subst hj hN
    refine lp_of (run_mono mW) ?_
    rw [rd_disk_Disk_Flush_7]
    refine cond_f (dec_f (by omega)) ?_
    have := hκ M (.refl _ _)
    rw [List.drop_of_length_le (by omega)] at this
    exact this ht
  | succ k ih =>
    intro i j N M fs hj hN hi hf hwM hb ht hw hκ
    subst hj hN
    obtain ⟨p, hp⟩ : ∃ p, ws[i]? = some p := ⟨ws[i]'(by omega), by simp⟩
    obtain ⟨r1, r2⟩ := wCells_row hw hp
    obtain ⟨⟨p0, p1⟩, p2⟩ := hin p (List.mem_of_getElem? hp)
    obtain ⟨at_, v⟩ := p
    obtain ⟨a, m, c, rfl⟩ := isSl_ex p2
    dsimp only at r1 p0 p1
    refine lp_of (run_mono mW) ?_
    rw [rd_disk_Disk_Flush_7]
    refine cond_t (dec_t (by omega)) (ixS_of (by omega) (by omega) ?_)
    refine ldA_of rfl (by rw [hw]) (xs := [.int .i64 at_, .slice (some a) m c]) (by simpa using r1) (by rw [hw]; simpa using r2) rfl ?_
    refine allocC_any fun M1 e1 l1 n1 => ?_
    refine stA_any n1 (by omega) rfl (by decide) rfl fun M2 e2 l2 n2 => ?_
    have e12 := e1.trans e2
    have hne : ∀ {b : Nat} {cs : List Value} {e : TypeId}, M.blk b = ⟨cs, e, true⟩ → b ≠ M.length := fun h => Nat.ne_of_lt (blk_in h)
    have hb2 := e12.blk hb ⟨trivial, hne hb⟩
    have ht2 := e12.blk ht ⟨trivial, hne ht⟩
    refine nilck_of (fldA_of (fldA_of (fldA_of (ldV_of (has_of hb2 rfl) (ldI_of (has_of n2 rfl) (ldV_of (has_of n2 rfl) (ixS_of p0 p1 ?_)))))))
    refine st1_any ht2 htw (by omega) rfl fun M3 e3 l3 n3 => ?_
    have e13 := e12.trans e3
    rw [Ev.wr_nat (n := i) (by omega)]
    have hfs : fs.set (0 + at_.toNat * 1) (.slice (some a) m c) = fs.set at_.toNat (.slice (some a) m c) := by rw [Nat.zero_add, Nat.mul_one]
    rw [hfs] at n3
    have hdrop : ws.drop i = (at_, .slice (some a) m c) :: ws.drop (i + 1) := by
      rw [List.drop_eq_getElem_cons (by omega)]
      congr 1
      have := List.getElem?_eq_some_iff.1 hp
      exact this.2
    refine ih (i + 1) _ _ M3 _ rfl rfl (by omega) (by simpa using hf) (by omega) (e3.blk hb2 (blk_ne hb ht (by decide))) n3 (e13.blk hw ⟨⟨trivial, hne hw⟩, blk_ne hw ht (by decide)⟩) fun M' e' h' => hκ M' ((e13.trans e').mono fun b hb h => ⟨⟨⟨trivial, Nat.ne_of_lt hb⟩, fun e => h (by rw [e, ht])⟩, h⟩) ?_
    · rw [hdrop]
      exact h'

theorem WtAt.len {M : Mem} {wall : Nat} {T : Value} {ws : List (Int × Value)} (h : WtAt M wall T ws) : isSlV T = true ∧ lenOf T = ws.length := by
  rcases h with ⟨rfl, h⟩ | ⟨b, rfl, _⟩
  · rw [h]; exact ⟨rfl, rfl⟩
  · exact ⟨rfl, rfl⟩
theorem LgAt.fr {M M' : Mem} {wall : Nat} {X : Nat → TypeId → Prop} {T : Value} {n : Nat} (h : LgAt M wall T n) (hf : Fr M M' X) (hX : ∀ b cs, M.blk b = ⟨cs, T_int, true⟩ → X b T_int) : LgAt M' wall T n := by
  rcases h with h | ⟨b, cs, h1, h2, h3, h4⟩
  · exact .inl h
  · exact .inr ⟨b, cs, h1, hf.blk h2 (hX _ _ h2), h3, h4⟩

set_option maxRecDepth 20000 in
theorem W_flush {M : Mem} {wall d : Nat} {s : Dk} (hd : DkAt M wall d s) (hon : s.on = true) (hin : ∀ p ∈ s.ws, (0 ≤ p.1 ∧ p.1 < (s.fs.length : Int)) ∧ isSl p.2 = true) (hws : s.ws.length ≤ 100000) :
    W F_disk_Disk_Flush [ptr d 0] M wall (fun p => p.1 = .int .i64 0 ∧ Fr M p.2 (fun b e => e ≠ T_s_uint8 ∧ b ≠ d) ∧ ∃ fl, DkAt p.2 wall d ⟨flushed s.fs s.ws, [], s.on, s.lg, fl⟩) := by
  have hd0 := hd
  obtain ⟨hwd, T, Wt, L, hb, ⟨tb, rfl, htb, hwt⟩, hW, hL⟩ := hd
  have hdl := blk_in hb
  obtain ⟨hs1, hs2⟩ := hW.len
  refine W_go rfl (by kernel_rfl) ?_
  rw [bd_disk_Disk_Flush]
  refine c1_eq mW (W_asked_ok hd0 rfl hon _) rfl (cond_f rfl ?_)
  refine c1_eq mW (W_falls hd0) rfl (cond_f rfl ?_)
  refine nilck_of (fldA_of (ldV_of (has_of hb rfl) (chkP_of hs1 ?_)))
  have key : ∀ M', Fr M M' (fun _ e => e ≠ T_s_uint8) → M'.blk tb = ⟨flushed s.fs s.ws, T_s_uint8, true⟩ →
      kk_disk_Disk_Flush_7 W wall (retP Try.prog false M Try.f51 (fun p => p.1 = .int .i64 0 ∧ Fr M p.2 (fun b e => e ≠ T_s_uint8 ∧ b ≠ d) ∧ ∃ fl, DkAt p.2 wall d ⟨flushed s.fs s.ws, [], s.on, s.lg, fl⟩)) (.exit 0) (ex_disk_Disk_Flush_7 (ptr d 0)) M' := by
    intro M1 e1 t1
    rw [ke_disk_Disk_Flush_7_0]
    have hb1 := e1.blk hb (by decide)
    refine nilck_of (fldA_of (st1_any hb1 hwd (by show 1 < 6; decide) rfl fun M2 e2 l2 n2 => ?_))
    refine nilck_of (fldA_of (ldI_of (has_of n2 rfl) ?_))
    refine nilck_of (fldA_of (st1_any n2 hwd (by show 5 < 6; decide) rfl fun M3 e3 l3 n3 => ?_))
    have e23 := e2.trans e3
    refine ⟨rfl, (e1.trans e23).mono fun b hb h => ⟨h.1, h.2, h.2⟩, _, hwd, _, _, _, n3, ⟨tb, ?_, e23.blk t1 ⟨blk_ne t1 hb1 (by decide), blk_ne t1 hb1 (by decide)⟩, hwt⟩, .inl ⟨rfl, rfl⟩, ?_⟩
    · rw [flushed_len]
    · exact hL.fr (e1.trans e23) fun b cs h => ⟨by decide, blk_ne h hb (by decide), blk_ne h hb (by decide)⟩
  rcases hW with ⟨rfl, h⟩ | ⟨wb, rfl, h, hww⟩
  · refine lp_of (run_mono mW) ?_
    rw [rd_disk_Disk_Flush_7]
    refine cond_f rfl (key _ (.refl _ _) ?_)
    rw [h]
    exact htb
  · refine L_flush hwd hwt hws hin s.ws.length 0 _ _ M s.fs rfl rfl (by omega) rfl (by omega) hb htb h fun M' e' t' => key M' e' (by simpa using t')

/-! ### Crash, of a disk on which nothing waits -/
theorem W_crash {M : Mem} {wall d : Nat} {s : Dk} (hd : DkAt M wall d s) (hws : s.ws = []) : W F_disk_Disk_Crash [ptr d 0, nilS] M wall (fun p => Fr M p.2 (fun b _ => b ≠ d) ∧ DkAt p.2 wall d ⟨s.fs, [], false, s.lg, s.fl⟩) := by
  obtain ⟨hwd, T, Wt, L, hb, ⟨tb, rfl, htb, hwt⟩, hW, hL⟩ := hd
  obtain ⟨hs1, hs2⟩ := hW.len
  rw [hws] at hs2
  refine W_go rfl (by kernel_rfl) ?_
  rw [bd_disk_Disk_Crash]
  refine chkP_of rfl (cond_f rfl (nilck_of (fldA_of (ldV_of (has_of hb rfl) (chkP_of hs1 ?_)))))
  refine lp_of (run_mono mW) ?_
  rw [rd_disk_Disk_Crash_2]
  refine cond_f (dec_f (by rw [show lenOf Wt = 0 from hs2]; decide)) ?_
  show kk_disk_Disk_Crash_2 W wall _ (.exit 0) (ex_disk_Disk_Crash_2 (ptr d 0)) M
  rw [ke_disk_Disk_Crash_2_0]
  refine nilck_of (fldA_of (st1_any hb hwd (by show 1 < 6; decide) rfl fun M1 e1 l1 n1 => ?_))
  refine nilck_of (fldA_of (st1_any n1 hwd (by show 3 < 6; decide) rfl fun M2 e2 l2 n2 => ?_))
  refine nilck_of (fldA_of (st1_any n2 hwd (by show 2 < 6; decide) rfl fun M3 e3 l3 n3 => ?_))
  have e13 := (e1.trans e2).trans e3
  exact ⟨e13.mono fun b _ h => ⟨⟨h, h⟩, h⟩, hwd, _, _, _, n3, ⟨tb, rfl, e13.blk htb ⟨⟨blk_ne htb hb (by decide), blk_ne htb hb (by decide)⟩, blk_ne htb hb (by decide)⟩, hwt⟩, .inl ⟨rfl, rfl⟩,
    hL.fr e13 fun b cs h => ⟨⟨blk_ne h hb (by decide), blk_ne h hb (by decide)⟩, blk_ne h hb (by decide)⟩⟩

/-! ### what is told of tables, of pointers -/
theorem outT_ptr {Q : OutP} {M0 M : Mem} {b o : Nat} (h : Q (ptr b o, M)) : outT Try.prog Q M0 (ptr b o) M := h
theorem outT_tab {Q : OutP} {M0 M : Mem} {b n c : Nat} {sp : Option Nat} {x : Value} {cs : List Value} {e : TypeId} (hb : M.blk b = ⟨x :: cs, e, true⟩) (hx : flat1 x = false) (hn : 0 < n) (hc : n ≤ c) (h : Q (slc b 0 sp n c, M)) : outT Try.prog Q M0 (slc b 0 sp n c) M := by
  have ht : trim1 Try.prog M0 M (slc b 0 sp n c) = none := by
    obtain ⟨m, hm⟩ : ∃ m, trimLen ⟨b, 0, sp⟩ n c = m + 1 := by
      cases sp
      · exact ⟨c - 1, by show c = _; omega⟩
      · exact ⟨n - 1, by show n = _; omega⟩
    have hall : (((x :: cs).drop 0).take (m + 1)).all flat1 = false := by simp [hx]
    simp only [trim1, slc, blk_is hb, hm, hall, Bool.and_false, cond_false]
  unfold outT
  have e0 : trim Try.prog M0 M (slc b 0 sp n c) = (match trim1 Try.prog M0 M (slc b 0 sp n c) with | some (v', k) => (v', M0 ++ [k]) | none => (slc b 0 sp n c, M)) := rfl
  rw [e0, ht]
  exact h

/-! ### Image -/
theorem bOk_slc {M : Mem} {x : Value} (h : bOk M x = true) : flat1 x = false ∧ one1 x = true := by
  obtain ⟨a, n, c, k, rfl, _⟩ := bOk_inv h
  exact ⟨rfl, rfl⟩
/-- A table of rows. -/
def RowsAt (M : Mem) (fs : List Value) : Prop := ∀ x ∈ fs, bOk M x = true ∧ lenOf x = 128
theorem RowsAt.fr {M M' : Mem} {X : Nat → TypeId → Prop} (hf : Fr M M' X) (hX : ∀ b, (M.blk b).elem = 5 → X b 5) {fs : List Value} (h : RowsAt M fs) : RowsAt M' fs ∧ fs.map (bRow M') = fs.map (bRow M) :=
  ⟨fun x hx => ⟨(bOk_fr hf hX (h x hx).1).1, (h x hx).2⟩, List.map_congr_left fun x hx => (bOk_fr hf hX (h x hx).1).2⟩

theorem bRow_len {M : Mem} {x : Value} (h : bOk M x = true) : (bRow M x).length = lenOf x := (bOk_len h).symm

theorem row_new {M0 M : Mem} {b : Nat} {x : Value} (hb : M.blk b = ⟨bRow M0 x, 5, true⟩) (hx : bOk M0 x = true) (hl : lenOf x ≤ 1000000) : bOk M (slc b 0 (some 1) (lenOf x) (lenOf x)) = true ∧ bRow M (slc b 0 (some 1) (lenOf x) (lenOf x)) = bRow M0 x := by
  have hlen := bRow_len hx
  obtain ⟨g1, g2⟩ := bOk_mk (M := M) (b := b) (o := 0) (n := lenOf x) (c := lenOf x) (sp := some 1) hb (by omega) (bOk_u8 hx) (by
    obtain ⟨a, n, c, k, rfl, _, _, _, _, _, _, _, h⟩ := bOk_inv hx
    exact h) (by omega)
  refine ⟨g1, g2.trans ?_⟩
  rw [List.drop_zero, List.take_of_length_le (by omega)]
theorem L_image {tb : Nat} {fs : List Value} {κ : KontP} {w : Nat} (hn : fs.length ≤ 100000) (htw : tb < w) : ∀ (k i : Nat) (j N : Int) (M : Mem) (x : Value) (gs : List Value), j = (i : Int) → N = (fs.length : Int) → i + k = fs.length →
      M.blk tb = ⟨fs, T_s_uint8, true⟩ → RowsAt M fs → w ≤ M.length →
      ((x = nilS ∧ gs = [] ∧ i = 0) ∨ ∃ b sp, x = slc b 0 sp i i ∧ (sp = none ∨ sp = some 1) ∧ M.blk b = ⟨gs, T_s_uint8, true⟩ ∧ w ≤ b) → gs.length = i → RowsAt M gs → gs.map (bRow M) = (fs.take i).map (bRow M) →
      (∀ M' x' gs, Fr M M' (fun b e => e ≠ T_s_uint8) → ((x' = nilS ∧ gs = [] ∧ fs.length = 0) ∨ ∃ b sp, x' = slc b 0 sp fs.length fs.length ∧ (sp = none ∨ sp = some 1) ∧ M'.blk b = ⟨gs, T_s_uint8, true⟩ ∧ w ≤ b) → gs.length = fs.length → RowsAt M' gs → gs.map (bRow M') = fs.map (bRow M) →
        κ (.exit 0) (ex_disk_Disk_Image_5 x') M') →
      lp_disk_Disk_Image_5 W w x (slc tb 0 (some 1) fs.length fs.length) N j M κ := by
  intro k
  induction k with
  | zero =>
    intro i j N M x gs hj hN hi ht hr hw hx hg hrg hm hκ
    subst hj hN
    refine lp_of (run_mono mW) ?_
    rw [rd_disk_Disk_Image_5]
    have hi' : i = fs.length := by omega
    subst hi'
    refine cond_f (dec_f (by omega)) (hκ M x gs (.refl _ _) hx hg hrg ?_)
    rw [hm, List.take_length]
  | succ k ih =>
    intro i j N M x gs hj hN hi ht hr hw hx hg hrg hm hκ
    subst hj hN
    refine lp_of (run_mono mW) ?_
    rw [rd_disk_Disk_Image_5]
    have hlt : i < fs.length := by omega
    obtain ⟨v, hv⟩ : ∃ v, fs[i]? = some v := ⟨fs[i], by simp⟩
    obtain ⟨v1, v2⟩ := hr v (List.mem_of_getElem? hv)
    refine cond_t (dec_t (by omega)) (ixS_of (by omega) (by omega) (ldV_of (has_of ht (by simpa using hv)) ?_))
    refine c1_of mW (W_clone v1 (by omega) (by omega) _) fun v' M' e => ⟨rfl, ?_⟩
    cases e
    obtain ⟨e1, l1, n1⟩ := Fr.one M ⟨bRow M v, 5, true⟩
    generalize M ++ [(⟨bRow M v, 5, true⟩ : Blk)] = M1 at e1 l1 n1 ⊢
    refine chkP_of rfl (mkL_any fun M2 e2 l2 n2 => ?_)
    have e12 := e1.trans e2
    have hx2 : (x = .slice none 0 0 ∧ gs = [] ∧ i = 0) ∨ ∃ bs sp, x = slc bs 0 sp i i ∧ (sp = none ∨ sp = some 1) ∧ M2.blk bs = ⟨gs, T_s_uint8, true⟩ ∧ w ≤ bs := by
      rcases hx with h | ⟨b, sp, h1, h2, h3, h4⟩
      · exact .inl h
      · exact .inr ⟨b, sp, h1, h2, e12.blk h3 ⟨trivial, trivial⟩, h4⟩
    refine apA_any hx2 (by omega) n2 rfl rfl (by omega) (by omega) fun M3 e3 l3 n3 => ?_
    have e13 := e12.trans e3
    obtain ⟨g1, g2⟩ := row_new ((e2.trans e3).blk n1 ⟨trivial, .inl (by decide)⟩) v1 (by omega)
    obtain ⟨f1, f2⟩ := hr.fr e13 fun _ _ => ⟨⟨trivial, trivial⟩, .inl (by decide)⟩
    obtain ⟨f3, f4⟩ := hrg.fr e13 fun _ _ => ⟨⟨trivial, trivial⟩, .inl (by decide)⟩
    rw [Ev.wr_nat (n := i) (by omega)]
    have htk : fs.take (i + 1) = fs.take i ++ [v] := by
      rw [List.take_add_one, hv]; rfl
    have f5 : (fs.take (i + 1)).map (bRow M3) = (fs.take (i + 1)).map (bRow M) := List.map_congr_left fun x hx => (bOk_fr e13 (fun _ _ => ⟨⟨trivial, trivial⟩, .inl (by decide)⟩) (hr x (List.mem_of_mem_take hx)).1).2
    refine ih (i + 1) _ _ M3 _ (gs ++ [slc M.length 0 (some 1) (lenOf v) (lenOf v)]) rfl rfl (by omega) (e13.blk ht ⟨⟨trivial, trivial⟩, .inr htw⟩) f1 (by omega) (.inr ⟨M2.length, some 1, rfl, .inr rfl, n3, by omega⟩) (by simp [hg]) ?_ ?_ ?_
    · intro y hy
      rcases List.mem_append.1 hy with hy | hy
      · exact f3 y hy
      · rw [List.mem_singleton] at hy
        subst hy
        exact ⟨g1, v2⟩
    · rw [f5, htk, List.map_append, List.map_append, f4, hm]
      simp only [List.map_cons, List.map_nil, g2]
    · intro M' x' gs' e' hx' hl' hr' hm'
      refine hκ M' x' gs' ((e13.trans e').mono fun b hb h => ⟨⟨⟨trivial, trivial⟩, .inl h⟩, h⟩) hx' hl' hr' ?_
      rw [hm', f2]
end Go.Proofs.Yteeclgeoconekaa
