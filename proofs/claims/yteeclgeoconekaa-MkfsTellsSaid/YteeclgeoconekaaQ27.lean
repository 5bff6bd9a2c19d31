/-
  Calls, as the transformer tells them: what was told by trees, and the rest gone through.
-/
import Derived.Test.YteeclgeoconekaaQ23
import Derived.Test.YteeclgeoconekaaEvV
import Derived.Test.YteeclgeoconekaaV1
namespace Go.Proofs.Yteeclgeoconekaa
open Go.Ev

noncomputable abbrev D9 : CallC := moreC 12 (bodyT (scalB g6 12)) D8
theorem okD9 : OkC Try.prog EvA.q D9 := ok_moreC okD8 (tellS good6 (by
  intro args v h
  have : g6 12 args = ret0 (B true) args := rfl
  rw [this] at h
  unfold ret0 at h
  split at h
  · cases h; rfl
  · cases h))
abbrev toldD (f : FuncId) : Bool := [10, 11, 12, 13, 14, 15, 19, 48].contains f
noncomputable abbrev S9 : Told0 := toldQ EvA.q toldD (plainC D9)
theorem okS9 : Told0Ok Try.prog EvA S9 := toldQ_ok okD9
theorem detS9 : DetS S9 := toldQ_det
noncomputable abbrev W : CallP := WP Try.prog EvA S9
theorem mW : MonoP W W := WP_mono okS9

theorem W_told {f : FuncId} {args : List Value} {M : Mem} {wall : Nat} {p : Value × Mem} (ht : toldD f = true) (h : D9 f args M (cond (EvA.q f) M.length wall) some = some p) : W f args M wall (fun p' => p' = p) := WP_told okD9 ht h
theorem W_go {f : FuncId} {args : List Value} {M : Mem} {wall : Nat} {Q : OutP} (ht : toldD f = false) (hf : fnOk Try.prog EvA f = true) (h : bodyP Try.prog EvA W f args M wall Q) : W f args M wall Q := WP_body okS9 ht hf h

/-! ### what was told -/
theorem W_awake (M : Mem) (wall : Nat) : W 12 [] M wall (fun p => p = (.bool true, M)) := W_told rfl (by kernel_rfl)
theorem W_may (a b c : Int) (M : Mem) (wall : Nat) : W 11 [gv a b c] M wall (fun p => p = (.bool (may a b c), M)) := W_told rfl (by kernel_rfl)
theorem W_sectors (a b c : Int) (M : Mem) (wall : Nat) : W 10 [gv a b c] M wall (fun p => p = (.int .i64 (sectors a b c), M)) := W_told rfl (by kernel_rfl)
theorem W_fill (v : Int) (M : Mem) (wall : Nat) : W 19 [.int .i64 v, .int .i64 128] M wall (fun p => p = (slc M.length 0 (some 1) 128 128, M ++ [⟨fillL v, 5, true⟩])) := W_told rfl (by
  show (fillTree _ _ _).run some = _
  rw [run_some (α := Unit)]
  rfl)
theorem W_clone {x : Value} {M : Mem} (h : bOk M x = true) (h0 : lenOf x ≠ 0) (h1 : lenOf x ≤ 140737488355328) (wall : Nat) :
    W 48 [x] M wall (fun p => p = (slc M.length 0 (some 1) (lenOf x) (lenOf x), M ++ [⟨bRow M x, 5, true⟩])) := W_told rfl (by
  show (cloneTree _ _ _).run some = _
  rw [run_some (α := Unit)]
  have e : (bOk M x && (!(Nat.beq (lenOf x) 0) && Nat.ble (lenOf x) 140737488355328)) = true := by
    rw [h, beq_f h0, Nat.ble_eq_true_of_le h1]
    rfl
  show (Br.lf _ _).val = _
  rw [e]
  rfl)
theorem W_image {a b c : Int} (h : may a b c = true) (M : Mem) (wall : Nat) : W 13 [gv a b c] M wall (fun p => p = (slc M.length 0 none (imgRows a b c).length (imgRows a b c).length, M ++ layRows M.length (imgRows a b c))) := W_told rfl (by
  show (imageTree _ _ _).run some = _
  rw [run_some (α := Unit)]
  show (Br.nd (may a b c) _ _).val = _
  rw [h]
  rfl)
theorem W_image0 {a b c : Int} (h : may a b c = false) (M : Mem) (wall : Nat) : W 13 [gv a b c] M wall (fun p => p = (nilS, M)) := W_told rfl (by
  show (imageTree _ _ _).run some = _
  rw [run_some (α := Unit)]
  show (Br.nd (may a b c) _ _).val = _
  rw [h]
  rfl)
theorem W_rimage {a b c : Int} (h : may a b c = true) (M : Mem) (wall : Nat) : W 15 [gv a b c] M wall (fun p => p = (slc M.length 0 (some 1) (imgRows a b c).length (imgRows a b c).length, M ++ layS M.length (imgRows a b c))) := W_told rfl (by
  show (rimageTree _ _ _).run some = _
  rw [run_some (α := Unit)]
  show (Br.nd (may a b c) _ _).val = _
  rw [h]
  rfl)
theorem W_rimage0 {a b c : Int} (h : may a b c = false) (M : Mem) (wall : Nat) : W 15 [gv a b c] M wall (fun p => p = (nilS, M)) := W_told rfl (by
  show (rimageTree _ _ _).run some = _
  rw [run_some (α := Unit)]
  show (Br.nd (may a b c) _ _).val = _
  rw [h]
  rfl)
theorem W_parts0 (M : Mem) (wall : Nat) : W 14 [nilS, nilS] M wall (fun p => p = (.bool true, M)) := W_told rfl (by kernel_rfl)
theorem W_parts {x y : Value} {M : Mem} (hx : dOk M x = true) (hy : dOk M y = true) (wall : Nat) : W 14 [x, y] M wall (fun p => p = (.bool (eqParts (dRows M x) (dRows M y)), M)) := W_told rfl (by
  show (partsTree2 _ _ _).run some = _
  rw [run_some (α := Unit)]
  have hn : isNone2 [x, y] = false := by
    obtain ⟨a, n, c, k, rfl, _⟩ := dOk_inv hx
    rfl
  show (Br.nd (isNone2 [x, y]) _ (partsTree [x, y] M _)).val = _
  rw [hn]
  show (Br.lf (dOk M x && dOk M y) _).val = _
  rw [hx, hy]
  rfl)

/-! ### the disk's questions -/
/-- A disk: its sectors, what waits, what was done. -/
structure Dk where
  fs : List Value
  ws : List (Int × Value)
  on : Bool
  lg : Nat
  fl : Int
def wCells (ws : List (Int × Value)) : List Value := ws.flatMap fun p => [.int .i64 p.1, p.2]
def TabAt (M : Mem) (wall : Nat) (T : Value) (fs : List Value) : Prop := ∃ b, T = slc b 0 (some 1) fs.length fs.length ∧ M.blk b = ⟨fs, T_s_uint8, true⟩ ∧ wall ≤ b
def WtAt (M : Mem) (wall : Nat) (T : Value) (ws : List (Int × Value)) : Prop := (T = nilS ∧ ws = []) ∨ ∃ b, T = slc b 0 (some 2) ws.length ws.length ∧ M.blk b = ⟨wCells ws, T_disk_write, true⟩ ∧ wall ≤ b
def LgAt (M : Mem) (wall : Nat) (T : Value) (n : Nat) : Prop := (T = nilS ∧ n = 0) ∨ ∃ b cs, T = slc b 0 (some 1) n n ∧ M.blk b = ⟨cs, T_int, true⟩ ∧ cs.length = n ∧ wall ≤ b
def dkCells (T Wt L : Value) (on : Bool) (fl : Int) : List Value := [T, Wt, .bool on, .pointer none, L, .int .i64 fl]
def DkAt (M : Mem) (wall d : Nat) (s : Dk) : Prop := wall ≤ d ∧ ∃ T Wt L, M.blk d = ⟨dkCells T Wt L s.on s.fl, T_disk_Disk, true⟩ ∧ TabAt M wall T s.fs ∧ WtAt M wall Wt s.ws ∧ LgAt M wall L s.lg
/-- Bytes and geometries stay. -/
def Kp (M M' : Mem) : Prop := M.length ≤ M'.length ∧ ∀ b, (M.blk b).live = true → ((M.blk b).elem = 5 ∨ (M.blk b).elem = 24) → M'.blk b = M.blk b

theorem outT_flat {Q : OutP} {M0 M : Mem} {v : Value} (hv : flatR v = true) (h : Q (v, M0)) : outT Try.prog Q M0 v M := by
  unfold outT
  simp only [trim, hv, cond_true]
  exact h

theorem W_secs {M : Mem} {wall d : Nat} {s : Dk} (hd : DkAt M wall d s) (w : Nat) : W F_disk_Disk_Sectors [ptr d 0] M w (fun p => p = (.int .i64 s.fs.length, M)) := by
  obtain ⟨_, T, Wt, L, hb, ⟨b, rfl, _⟩, _⟩ := hd
  refine W_go rfl (by kernel_rfl) ?_
  rw [bd_disk_Disk_Sectors]
  refine chkP_of rfl (cond_f rfl (nilck_of (fldA_of (ldV_of (has_of hb rfl) (chkP_of rfl ?_)))))
  exact outT_flat rfl rfl
theorem W_on {M : Mem} {wall d : Nat} {s : Dk} (hd : DkAt M wall d s) (w : Nat) : W F_disk_Disk_On [ptr d 0] M w (fun p => p = (.bool s.on, M)) := by
  obtain ⟨_, T, Wt, L, hb, _⟩ := hd
  refine W_go rfl (by kernel_rfl) ?_
  rw [bd_disk_Disk_On]
  refine chkP_of rfl (cond_t rfl (nilck_of (fldA_of (ldB_of (has_of hb rfl) ?_))))
  exact outT_flat rfl rfl
theorem W_there {M : Mem} {wall d : Nat} {s : Dk} (hd : DkAt M wall d s) (at_ : Int) (h0 : 0 ≤ at_) (w : Nat) : W F_disk_Disk_there [ptr d 0, .int .i64 at_] M w (fun p => p = (.bool (decide (at_ < s.fs.length)), M)) := by
  refine W_go rfl (by kernel_rfl) ?_
  rw [bd_disk_Disk_there]
  refine cond_t (dec_t h0) (c1_eq mW (W_secs hd _) rfl ?_)
  exact outT_flat rfl rfl
theorem W_asked {M : Mem} {wall d : Nat} {s : Dk} (hd : DkAt M wall d s) (good : Bool) (w : Nat) : W F_disk_Disk_asked [ptr d 0, .bool good] M w (fun p => p = (.int .i64 (cond s.on (cond good 0 2) 4), M)) := by
  obtain ⟨_, T, Wt, L, hb, _⟩ := hd
  refine W_go rfl (by kernel_rfl) ?_
  rw [bd_disk_Disk_asked]
  refine chkP_of rfl (cond_f rfl (nilck_of (fldA_of (ldB_of (has_of hb rfl) ?_))))
  cases s.on <;> cases good <;> exact outT_flat (M := M) rfl rfl
theorem W_falls {M : Mem} {wall d : Nat} {s : Dk} (hd : DkAt M wall d s) : W F_disk_Disk_falls [ptr d 0] M wall (fun p => p = (.bool false, M)) := by
  obtain ⟨_, T, Wt, L, hb, _⟩ := hd
  refine W_go rfl (by kernel_rfl) ?_
  rw [bd_disk_Disk_falls]
  refine nilck_of (fldA_of (ldV_of (has_of hb rfl) (chkP_of rfl (cond_t rfl ?_))))
  exact rfl
end Go.Proofs.Yteeclgeoconekaa
