/-
  The disk's Write.
-/
import Derived.Test.YteeclgeoconekaaQ27
namespace Go.Proofs.Yteeclgeoconekaa
open Go.Ev

theorem bOk_isSl {M : Mem} {x : Value} (h : bOk M x = true) : isSlV x = true := by
  obtain ⟨a, n, c, k, rfl, _⟩ := bOk_inv h
  rfl
theorem bOk_blk' {M M' : Mem} {a : Addr} {n c : Nat} (e : M'.blk a.block = M.blk a.block) (h : bOk M (.slice (some a) n c) = true) : bOk M' (.slice (some a) n c) = true ∧ bRow M' (.slice (some a) n c) = bRow M (.slice (some a) n c) := by
  have er : bRow M' (.slice (some a) n c) = bRow M (.slice (some a) n c) := by
    show rowC M' a.block a.off n = rowC M a.block a.off n
    simp only [rowC, e]
  refine ⟨?_, er⟩
  unfold bOk at h ⊢
  rw [er]
  have ea : addrOf (.slice (some a) n c) = a := rfl
  simp only [ea, rowG, e] at h ⊢
  exact h
theorem bOk_blk {M M' : Mem} {a : Addr} {n c : Nat} (e : M'.blk a.block = M.blk a.block) (h : bOk M (.slice (some a) n c) = true) : bOk M' (.slice (some a) n c) = true := (bOk_blk' e h).1
theorem bOk_fr {M M' : Mem} {X : Nat → TypeId → Prop} (hf : Fr M M' X) (hX : ∀ b, (M.blk b).elem = 5 → X b 5) {x : Value} (h : bOk M x = true) : bOk M' x = true ∧ bRow M' x = bRow M x := by
  obtain ⟨a, n, c, k, rfl, h1, h2, h3, _⟩ := bOk_inv h
  have hk : M.blk a.block = k := blk_get' h1
  have hlt : a.block < M.length := lt_of_getElem? h1
  have e : M'.blk a.block = M.blk a.block := hf.2 _ hlt (by rw [hk, h3]; exact hX _ (by rw [hk, h3]))
  have er : bRow M' (.slice (some a) n c) = bRow M (.slice (some a) n c) := by
    show rowC M' a.block a.off n = rowC M a.block a.off n
    simp only [rowC, e]
  refine ⟨?_, er⟩
  unfold bOk at h ⊢
  rw [er]
  have ea : addrOf (.slice (some a) n c) = a := rfl
  simp only [ea, rowG, e] at h ⊢
  exact h
theorem wCells_app (ws : List (Int × Value)) (p : Int × Value) : wCells (ws ++ [p]) = wCells ws ++ [.int .i64 p.1, p.2] := by simp [wCells]
theorem wCells_len (ws : List (Int × Value)) : (wCells ws).length = ws.length * 2 := by
  induction ws with
  | nil => rfl
  | cons p ws ih => simp only [wCells, List.flatMap_cons, List.length_append, List.length_cons, List.length_nil] at ih ⊢; omega
theorem W_asked_ok {M : Mem} {wall d : Nat} {s : Dk} (hd : DkAt M wall d s) {good : Bool} (hg : good = true) (hon : s.on = true) (w : Nat) : W F_disk_Disk_asked [ptr d 0, .bool good] M w (fun p => p = (.int .i64 0, M)) := by
  have := W_asked hd good w
  rw [hg, hon] at this
  rw [hg]
  exact this

/-- What a disk's call keeps. -/
abbrev Kd (d : Nat) (b e : Nat) : Prop := e ≠ T_disk_write ∧ e ≠ T_int ∧ b ≠ d

theorem W_write {M : Mem} {wall d : Nat} {s : Dk} (hd : DkAt M wall d s) (hon : s.on = true) {at_ : Int} (h0 : 0 ≤ at_) (h1 : at_ < s.fs.length) {v : Value} (hv : bOk M v = true) (hl : lenOf v = 128) (hws : s.ws.length ≤ 100000) (hlg : s.lg ≤ 100000) :
    W F_disk_Disk_Write [ptr d 0, .int .i64 at_, v] M wall (fun p => p.1 = .int .i64 0 ∧ Fr M p.2 (Kd d) ∧ ∃ v', bOk p.2 v' = true ∧ bRow p.2 v' = bRow M v ∧ lenOf v' = 128 ∧ DkAt p.2 wall d ⟨s.fs, s.ws ++ [(at_, v')], s.on, s.lg + 1, s.fl⟩) := by
  have hd0 := hd
  obtain ⟨hwd, T, Wt, L, hb, ⟨tb, rfl, htb, hwt⟩, hW, hL⟩ := hd
  have hdl := blk_in hb
  refine W_go rfl (by kernel_rfl) ?_
  rw [bd_disk_Disk_Write]
  refine c1_eq mW (W_there hd0 at_ h0 _) rfl (cond_t (dec_t h1) (chkP_of (bOk_isSl hv) ?_))
  refine c1_eq mW (W_asked_ok hd0 (by rw [hl]; rfl) hon _) rfl (cond_f rfl ?_)
  refine c1_eq mW (W_falls hd0) rfl (cond_f rfl ?_)
  refine nilck_of (fldA_of (ldV_of (has_of hb rfl) ?_))
  refine c1_dP (W_clone hv (by omega) (by omega) _) rfl (chkP_of rfl (chkP_of rfl ?_))
  obtain ⟨e1, l1, n1⟩ := Fr.one M ⟨bRow M v, 5, true⟩
  generalize M ++ [(⟨bRow M v, 5, true⟩ : Blk)] = M1 at e1 l1 n1 ⊢
  refine mkL_any fun M2 e2 l2 n2 => ?_
  -- what waits grows
  have e12 := e1.trans e2
  have hsl : (Wt = .slice none 0 0 ∧ wCells s.ws = [] ∧ s.ws.length = 0) ∨ ∃ bs sp, Wt = slc bs 0 sp s.ws.length s.ws.length ∧ (sp = none ∨ sp = some 2) ∧ M2.blk bs = ⟨wCells s.ws, T_disk_write, true⟩ ∧ wall ≤ bs := by
    rcases hW with ⟨rfl, h⟩ | ⟨b, rfl, h, hw⟩
    · exact .inl ⟨rfl, by rw [h]; rfl, by rw [h]; rfl⟩
    · exact .inr ⟨b, some 2, rfl, .inr rfl, e12.blk h ⟨trivial, trivial⟩, hw⟩
  refine apA_any hsl (wCells_len _) n2 rfl rfl (by omega) (by omega) fun M3 e3 l3 n3 => ?_
  have e13 := e12.trans e3
  refine nilck_of (fldA_of (st1_any (e13.blk hb ⟨⟨trivial, trivial⟩, .inl (by decide)⟩) hwd (by show 1 < 6; decide) rfl fun M4 e4 l4 n4 => ?_))
  have e14 := e13.trans e4
  refine nilck_of (fldA_of (ldV_of (has_of n4 rfl) (mkL_any fun M5 e5 l5 n5 => ?_)))
  -- so does the log
  have e15 := e14.trans e5
  have hlog : ∃ cs, ((L = .slice none 0 0 ∧ cs = [] ∧ s.lg = 0) ∨ ∃ bs sp, L = slc bs 0 sp s.lg s.lg ∧ (sp = none ∨ sp = some 1) ∧ M5.blk bs = ⟨cs, T_int, true⟩ ∧ wall ≤ bs) ∧ cs.length = s.lg * 1 := by
    rcases hL with ⟨rfl, h⟩ | ⟨b, cs, rfl, h, hc, hw⟩
    · exact ⟨[], .inl ⟨rfl, rfl, h⟩, by rw [h]; rfl⟩
    · refine ⟨cs, .inr ⟨b, some 1, rfl, .inr rfl, e15.blk h ⟨⟨⟨⟨trivial, trivial⟩, .inl (by decide)⟩, blk_ne h hb (by decide)⟩, trivial⟩, hw⟩, by omega⟩
  obtain ⟨cs, hlog, hcs⟩ := hlog
  refine apA_any hlog hcs n5 rfl rfl (by omega) (by omega) fun M6 e6 l6 n6 => ?_
  refine nilck_of (fldA_of (st1_any (e6.blk (e5.blk n4 trivial) (.inl (by decide))) hwd (by show 4 < 6; decide) rfl fun M7 e7 l7 n7 => ?_))
  have e16 := e15.trans e6
  have e17 := e16.trans e7
  have hrow : M7.blk M.length = ⟨bRow M v, 5, true⟩ := by
    have := ((((e2.trans e3).trans e4).trans e5).trans e6).trans e7
    exact this.blk n1 ⟨⟨⟨⟨⟨trivial, .inl (by decide)⟩, by omega⟩, trivial⟩, .inl (by decide)⟩, by omega⟩
  have hlen : (bRow M v).length = 128 := by rw [← bOk_len hv]; exact hl
  obtain ⟨g1, g2⟩ := bOk_mk (M := M7) (b := M.length) (o := 0) (n := lenOf v) (c := lenOf v) (sp := some 1) hrow (by omega) (bOk_u8 hv) (by
    obtain ⟨a, n, c, k, rfl, _, _, _, _, _, _, _, h⟩ := bOk_inv hv
    exact h) (by omega)
  refine ⟨rfl, e17.mono fun b e ⟨h1, h2, h3⟩ => ⟨⟨⟨⟨⟨⟨trivial, trivial⟩, .inl h1⟩, h3⟩, trivial⟩, .inl h2⟩, h3⟩, _, g1, ?_, hl, ?_⟩
  · rw [g2, List.drop_zero, List.take_of_length_le (by omega)]
  · refine ⟨hwd, _, _, _, n7, ⟨tb, rfl, ?_, hwt⟩, .inr ⟨M2.length, by simp, ?_, by omega⟩, .inr ⟨M5.length, cs ++ [.int .i64 at_], rfl, ?_, by simp [hcs], by omega⟩⟩
    · exact e17.blk htb ⟨⟨⟨⟨⟨⟨trivial, trivial⟩, .inl (by decide)⟩, blk_ne htb hb (by decide)⟩, trivial⟩, .inl (by decide)⟩, blk_ne htb hb (by decide)⟩
    · rw [wCells_app]
      exact (((e4.trans e5).trans e6).trans e7).blk n3 ⟨⟨⟨by omega, trivial⟩, .inl (by decide)⟩, by omega⟩
    · exact e7.blk n6 (by omega)
end Go.Proofs.Yteeclgeoconekaa
