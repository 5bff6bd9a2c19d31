/-
  Kind and Open of the package seal, Lay and Read of the package super: told in any memory.
-/
import Derived.Test.YteeclgeoconekaaQ2
import Derived.Test.YteeclgeoconekaaS6
namespace Go.Proofs.Yteeclgeoconekaa
open Go.Ev

theorem bOk_mk {M : Mem} {b o n c : Nat} {sp : Option Nat} {cells : List Value} (h : M.blk b = ⟨cells, 5, true⟩) (hn : o + n ≤ cells.length) (hu : u8s cells = true) (hr : u8r cells = true) (hb : n ≤ 4611686018427387904) :
    bOk M (sl b o sp n c) = true ∧ bRow M (sl b o sp n c) = (cells.drop o).take n := by
  have e : bRow M (sl b o sp n c) = (cells.drop o).take n := by
    show ((M.blk b).cells.drop o).take n = _
    rw [h]
  refine ⟨?_, e⟩
  have hs : ∀ v ∈ (cells.drop o).take n, v ∈ cells := fun v hv => List.mem_of_mem_drop (List.mem_of_mem_take hv)
  have g1 : u8s ((cells.drop o).take n) = true := List.all_eq_true.2 fun v hv => List.all_eq_true.1 hu v (hs v hv)
  have g2 : u8r ((cells.drop o).take n) = true := List.all_eq_true.2 fun v hv => List.all_eq_true.1 hr v (hs v hv)
  have g3 : rowG M b o n = true := by simp only [rowG, h]; simpa using hn
  show (true && (rowG M b o n && (Nat.beq (M.blk b).elem 5 && ((u8s (bRow M (sl b o sp n c)) && u8r (bRow M (sl b o sp n c))) && Nat.ble n 4611686018427387904)))) = true
  rw [e, g1, g2, g3, h, Nat.ble_eq_true_of_le hb]
  rfl

/-- What is owed of a slice that is sliced again. -/
def kOk (x : Value) : Bool := (match (addrOf x).spot with | none => true | some z => Nat.beq z 1) && Nat.ble (lenOf x) (capOf x)
def body (cs : List Value) : List Value := (cs.drop 1).take 123
def kindF (cs : List Value) : Int := cond (cs.length == 128) (cond (k0 cs == 0) 0 (cond (eqRows (sealRow (k0 cs) (body cs)) cs) (k0 cs) 0)) 0
def kindTree : Tree := fun args M _ => match args with
  | [x] => .lf (bOk M x && kOk x) (U8 (kindF (bRow M x)), M)
  | _ => .lf false (undef, M)
theorem kindTree_inv {args : List Value} {M : Mem} {wall : Nat} {R : Value × Mem} (h : (kindTree args M wall).val = some R) : ∃ x, args = [x] ∧ bOk M x = true ∧ kOk x = true ∧ R = (U8 (kindF (bRow M x)), M) := by
  unfold kindTree at h
  split at h
  · rename_i x
    obtain ⟨h1, rfl⟩ := lf_val h
    simp only [Bool.and_eq_true] at h1
    exact ⟨x, rfl, h1.1, h1.2, rfl⟩
  · cases h

theorem first_ok {cs : List Value} (h : 0 < cs.length) (hu : u8s cs = true) (hr : u8r cs = true) : okInt .u8 (gI cs 0) = true ∧ 0 ≤ k0 cs ∧ k0 cs < 256 := by
  cases cs with
  | nil => simp at h
  | cons x l =>
    simp only [u8s_cons, u8r_cons, Bool.and_eq_true, decide_eq_true_eq] at hu hr
    exact ⟨hu.1, hr.1.1, hr.1.2⟩

theorem kTail_run {cs : List Value} {n : Nat} {x y : Value} (h128 : cs.length = 128) (hu : u8s cs = true) (hr : u8r cs = true) (hn : n = 128) (hk : (k0 cs == 0) = false) (hy : bOk [⟨cs, 5, true⟩] y = true ∧ bRow [⟨cs, 5, true⟩] y = body cs)
    (hx : ∀ M, M.blk 0 = ⟨cs, 5, true⟩ → bOk M x = true ∧ bRow M x = cs) : kTail some cs n x y = some (U8 (kindF cs), kM2 cs y) := by
  obtain ⟨f1, f2, f3⟩ := first_ok (by omega) hu hr
  obtain ⟨x1, x2⟩ := hx (kM2 cs y) rfl
  have hbody : (body cs).length = 123 := by simp [body, h128]
  have hbu : u8s (body cs) = true := List.all_eq_true.2 fun v hv => List.all_eq_true.1 hu v (List.mem_of_mem_drop (List.mem_of_mem_take hv))
  have hbr : u8r (body cs) = true := List.all_eq_true.2 fun v hv => List.all_eq_true.1 hr v (List.mem_of_mem_drop (List.mem_of_mem_take hv))
  have hlen := sealRow_len (k := k0 cs) (l := body cs) (by omega)
  have hblk : (kM2 cs y).blk 1 = ⟨sealRow (k0 cs) (body cs), 5, true⟩ := by show Blk.mk _ _ _ = _; rw [hy.2]
  obtain ⟨s1, s2⟩ := bOk_mk (M := kM2 cs y) (b := 1) (o := 0) (n := 128) (c := 128) (sp := none) hblk (by omega) (sealRow_u8 hbu) (sealRow_r ⟨f2, f3⟩ hbr) (by omega)
  have s3 : bRow (kM2 cs y) (sl 1 0 none 128 128) = sealRow (k0 cs) (body cs) := by rw [s2]; simp [← hlen]
  have d1 : decide (0 ≤ k0 cs) = true := decide_eq_true f2
  have d2 : decide (k0 cs < 256) = true := decide_eq_true f3
  have d3 : decide ((0 : Int) < (n : Int)) = true := by simp; omega
  have hkind : kindF cs = cond (eqRows (sealRow (k0 cs) (body cs)) cs) (k0 cs) 0 := by
    have : (cs.length == 128) = true := by simp [h128]
    simp only [kindF, this, hk, cond_true, cond_false]
  simp only [kTail, f1, hk, hy.1, d1, d2, d3, s1, x1, s3, x2, hkind, Bool.and_self, Bool.and_true, cond_true, Bool.false_or, show decide (123 < 123) = false from rfl, cond_false]
  cases eqRows (sealRow (k0 cs) (body cs)) cs <;> rfl

theorem kind_run (cs : List Value) (sp : Option Nat) (n c : Nat) (hn : n = cs.length) (hu : u8s cs = true) (hr : u8r cs = true) (hb : cs.length ≤ 4611686018427387904) (hk : kOk (sl 0 0 sp n c) = true) :
    ∃ M1, bn C4 noB 69 [sl 0 0 sp n c] [⟨cs, 5, true⟩] 1 some = some (U8 (kindF cs), M1) := by
  have hx : ∀ M : Mem, M.blk 0 = ⟨cs, 5, true⟩ → bOk M (sl 0 0 sp n c) = true ∧ bRow M (sl 0 0 sp n c) = cs := by
    intro M hM
    obtain ⟨a, b⟩ := bOk_mk (sp := sp) (c := c) (n := n) (o := 0) hM (by omega) hu hr (by omega)
    exact ⟨a, by rw [b]; simp [hn]⟩
  have hy : ∀ c', cs.length = 128 → bOk [⟨cs, 5, true⟩] (sl 0 1 sp 123 c') = true ∧ bRow [⟨cs, 5, true⟩] (sl 0 1 sp 123 c') = body cs := fun c' h =>
    bOk_mk (M := [⟨cs, 5, true⟩]) (b := 0) (o := 1) (n := 123) (c := c') (sp := sp) rfl (by omega) hu hr (by omega)
  by_cases h128 : cs.length = 128
  · have n0 : ((n : Int) != 128) = false := by simp; omega
    have n1 : decide ((0 : Int) < (n : Int)) = true := by simp; omega
    obtain ⟨f1, f2, f3⟩ := first_ok (by omega) hu hr
    simp only [kOk, Bool.and_eq_true, Nat.ble_eq] at hk
    have hc : 128 ≤ c := by have : n ≤ c := hk.2; omega
    have n2 : decide (124 ≤ (c : Int)) = true := by simp; omega
    cases hk0 : (k0 cs == 0)
    · cases sp with
      | none =>
        have e : (if c = 1 then 0 else 0 + 1 * 1) = 1 := by rw [if_neg (by omega)]
        have := kTail_run (n := n) h128 hu hr (by omega) hk0 (hy (c - 1) h128) hx
        refine ⟨kM2 cs (sl 0 1 none 123 (c - 1)), ?_⟩
        rw [r69, n0, n1, f1, hk0, n2, e]
        exact this
      | some z =>
        obtain rfl : z = 1 := Nat.eq_of_beq_eq_true (show Nat.beq z 1 = true from hk.1)
        have n3 : Nat.blt 1 c = true := by simp [Nat.blt]; omega
        have := kTail_run (n := n) h128 hu hr (by omega) hk0 (hy (c - 1) h128) hx
        refine ⟨kM2 cs (sl 0 1 (some 1) 123 (c - 1)), ?_⟩
        rw [r69g, n0, n1, f1, hk0, n2, n3]
        exact this
    · have hkind : kindF cs = 0 := by simp [kindF, hk0]
      rw [hkind]
      cases sp with
      | none => exact ⟨[⟨cs, 5, true⟩], by rw [r69, n0, n1, f1, hk0]; rfl⟩
      | some z => exact ⟨[⟨cs, 5, true⟩], by rw [r69g, n0, n1, f1, hk0]; rfl⟩
  · have n0 : ((n : Int) != 128) = true := by simp; omega
    have hkind : kindF cs = 0 := by
      have : (cs.length == 128) = false := by simp [h128]
      simp [kindF, this]
    rw [hkind]
    cases sp with
    | none => exact ⟨[⟨cs, 5, true⟩], by rw [r69, n0]; rfl⟩
    | some z => exact ⟨[⟨cs, 5, true⟩], by rw [r69g, n0]; rfl⟩

theorem tell69 : TellOk Try.prog EvN.q 69 (bodyT kindTree) := by
  refine tellT (fun _ args M v M' h => ?_) (fun args M wall R h => ?_)
  · obtain ⟨x, rfl, _, _, e⟩ := kindTree_inv h
    cases e
    rfl
  · obtain ⟨x, rfl, hx, hk, rfl⟩ := kindTree_inv h
    obtain ⟨a, n, c, rfl, hn, hv⟩ := view1r hx
    obtain ⟨M1, run⟩ := kind_run _ a.spot n c hn (bOk_u8 hx) (bOk_r hx) (bOk_le hx) hk
    exact loc_told hv (run_told evFitsN okC4 (no_loops (by kernel_rfl)) (wall := 1) run) (by simp [handOn, flatR, flat, flat1]) wall
abbrev C5 : CallC := moreC 69 (bodyT kindTree) C4
theorem okC5 : OkC Try.prog EvN.q C5 := ok_moreC okC4 tell69

/- Open -/
abbrev oTail (κ : Value × Mem → Ret) (cs : List Value) (y : Value) : Ret :=
  cond (bOk [⟨cs, 5, true⟩] y && true) (κ (.tuple #[.slice (some ⟨1, 0, some 1⟩) 123 123, I 0], [⟨cs, 5, true⟩, ⟨bRow [⟨cs, 5, true⟩] y, 5, true⟩])) none
theorem r52 (κ : Value × Mem → Ret) (k : Int) (n c : Nat) (cs : List Value) : bn C5 noB 52 [U8 k, sl 0 0 none n c] [⟨cs, 5, true⟩] 1 κ =
    cond (k == 0) (κ (.tuple #[nilS, I 3], [⟨cs, 5, true⟩]))
      (cond (bOk [⟨cs, 5, true⟩] (sl 0 0 none n c) && kOk (sl 0 0 none n c)) (cond (kindF (bRow [⟨cs, 5, true⟩] (sl 0 0 none n c)) != k) (κ (.tuple #[nilS, I 3], [⟨cs, 5, true⟩]))
        (cond (decide (124 ≤ (c : Int)) && true) (oTail κ cs (sl 0 (if c = 1 then 0 else 0 + 1 * 1) none 123 (c - 1))) none)) none) := by kernel_rfl
theorem r52g (κ : Value × Mem → Ret) (k : Int) (z n c : Nat) (cs : List Value) : bn C5 noB 52 [U8 k, sl 0 0 (some z) n c] [⟨cs, 5, true⟩] 1 κ =
    cond (k == 0) (κ (.tuple #[nilS, I 3], [⟨cs, 5, true⟩]))
      (cond (bOk [⟨cs, 5, true⟩] (sl 0 0 (some z) n c) && kOk (sl 0 0 (some z) n c)) (cond (kindF (bRow [⟨cs, 5, true⟩] (sl 0 0 (some z) n c)) != k) (κ (.tuple #[nilS, I 3], [⟨cs, 5, true⟩]))
        (cond (decide (124 ≤ (c : Int)) && true) (cond (Nat.beq z 1 && (Nat.beq 1 0 || Nat.blt 1 c)) (oTail κ cs (sl 0 (0 + 1 * 1) (some z) 123 (c - 1))) none) none)) none) := by kernel_rfl

/-- Is a row sealed, of this kind? -/
def openF (k : Int) (cs : List Value) : Bool := cond (k == 0) false (kindF cs == k)
def openTree : Tree := fun args M _ => match args with
  | [.int .u8 k, x] => .nd (openF k (bRow M x)) (.lf (bOk M x && kOk x) (.tuple #[.slice (some ⟨M.length, 0, some 1⟩) 123 123, I 0], M ++ [⟨body (bRow M x), 5, true⟩])) (.lf (bOk M x && kOk x) (.tuple #[nilS, I 3], M))
  | _ => .lf false (undef, M)
theorem openTree_inv {args : List Value} {M : Mem} {wall : Nat} {R : Value × Mem} (h : (openTree args M wall).val = some R) : ∃ k x, args = [U8 k, x] ∧ bOk M x = true ∧ kOk x = true ∧
    ((openF k (bRow M x) = true ∧ R = (.tuple #[.slice (some ⟨M.length, 0, some 1⟩) 123 123, I 0], M ++ [⟨body (bRow M x), 5, true⟩])) ∨ (openF k (bRow M x) = false ∧ R = (.tuple #[nilS, I 3], M))) := by
  unfold openTree at h
  split at h
  · rename_i k x
    rcases nd_val h with ⟨hc, h⟩ | ⟨hc, h⟩
    · obtain ⟨h1, rfl⟩ := lf_val h
      simp only [Bool.and_eq_true] at h1
      exact ⟨k, x, rfl, h1.1, h1.2, .inl ⟨hc, rfl⟩⟩
    · obtain ⟨h1, rfl⟩ := lf_val h
      simp only [Bool.and_eq_true] at h1
      exact ⟨k, x, rfl, h1.1, h1.2, .inr ⟨hc, rfl⟩⟩
  · cases h
theorem openF_len {k : Int} {cs : List Value} (h : openF k cs = true) : cs.length = 128 ∧ k ≠ 0 ∧ kindF cs = k := by
  unfold openF at h
  cases hk : (k == 0)
  · rw [hk, cond_false] at h
    have hk' : k ≠ 0 := by simpa using hk
    have e : kindF cs = k := by simpa using h
    refine ⟨?_, hk', e⟩
    unfold kindF at e
    cases hl : (cs.length == 128)
    · rw [hl] at e; exact absurd e.symm hk'
    · simpa using hl
  · rw [hk] at h; cases h

theorem open_run (k : Int) (cs : List Value) (sp : Option Nat) (n c : Nat) (hn : n = cs.length) (hu : u8s cs = true) (hr : u8r cs = true) (hb : cs.length ≤ 4611686018427387904) (hk : kOk (sl 0 0 sp n c) = true) :
    bn C5 noB 52 [U8 k, sl 0 0 sp n c] [⟨cs, 5, true⟩] 1 some = cond (openF k cs) (some (.tuple #[.slice (some ⟨1, 0, some 1⟩) 123 123, I 0], [⟨cs, 5, true⟩, ⟨body cs, 5, true⟩])) (some (.tuple #[nilS, I 3], [⟨cs, 5, true⟩])) := by
  obtain ⟨x1, x2⟩ := bOk_mk (M := [⟨cs, 5, true⟩]) (b := 0) (sp := sp) (c := c) (n := n) (o := 0) rfl (by omega) hu hr (by omega)
  have x3 : bRow [⟨cs, 5, true⟩] (sl 0 0 sp n c) = cs := by rw [x2]; simp [hn]
  have hlc : Nat.ble n c = true := by simp only [kOk, Bool.and_eq_true] at hk; exact hk.2
  have hlc' : n ≤ c := Nat.le_of_ble_eq_true hlc
  cases hk0 : (k == 0)
  · cases hkd : (kindF cs != k)
    · have ho : openF k cs = true := by
        have : (kindF cs == k) = true := by simpa using hkd
        simp [openF, hk0, this]
      obtain ⟨h128, _, _⟩ := openF_len ho
      obtain ⟨y1, y2⟩ := bOk_mk (M := [⟨cs, 5, true⟩]) (b := 0) (o := 1) (n := 123) (c := c - 1) (sp := sp) rfl (by omega) hu hr (by omega)
      have n2 : decide (124 ≤ (c : Int)) = true := by simp; omega
      rw [ho]
      cases sp with
      | none =>
        have e : (if c = 1 then 0 else 0 + 1 * 1) = 1 := by rw [if_neg (by omega)]
        rw [r52, hk0, x1, hk, x3, hkd, n2, e]
        simp only [Bool.and_self, cond_true, cond_false, oTail, y1, y2]
        rfl
      | some z =>
        obtain rfl : z = 1 := by simp only [kOk, Bool.and_eq_true] at hk; exact Nat.eq_of_beq_eq_true (show Nat.beq z 1 = true from hk.1)
        have n3 : Nat.blt 1 c = true := by simp [Nat.blt]; omega
        rw [r52g, hk0, x1, hk, x3, hkd, n2, n3]
        simp only [Bool.and_self, cond_true, cond_false, oTail, Nat.zero_add, Nat.mul_one, y1, y2]
        rfl
    · have ho : openF k cs = false := by
        have : (kindF cs == k) = false := by simpa using hkd
        simp [openF, hk0, this]
      rw [ho]
      cases sp with
      | none => rw [r52, hk0, x1, hk, x3, hkd]; rfl
      | some z => rw [r52g, hk0, x1, hk, x3, hkd]; rfl
  · have ho : openF k cs = false := by simp [openF, hk0]
    rw [ho]
    cases sp with
    | none => rw [r52, hk0]; rfl
    | some z => rw [r52g, hk0]; rfl

theorem body_u8 {cs : List Value} (h : u8s cs = true) : u8s (body cs) = true := List.all_eq_true.2 fun v hv => List.all_eq_true.1 h v (List.mem_of_mem_drop (List.mem_of_mem_take hv))
theorem tell52 : TellOk Try.prog EvN.q 52 (bodyT openTree) := by
  refine tellT (fun _ args M v M' h => ?_) (fun args M wall R h => ?_)
  · obtain ⟨k, x, rfl, hx, hk, ⟨ho, e⟩ | ⟨ho, e⟩⟩ := openTree_inv h
    · cases e
      obtain ⟨h128, _⟩ := openF_len ho
      exact trim_rowg2 (by simp [body, h128]) (u8s_flat (body_u8 (bOk_u8 hx)))
    · cases e; exact trim_nil2
  · obtain ⟨k, x, rfl, hx, hk, hR⟩ := openTree_inv h
    obtain ⟨a, n, c, rfl, hn, hv1⟩ := view_row hx 0
    have hview : view Try.prog M [U8 k, .slice (some a) n c] 0 = some ([U8 k, .slice (some ⟨0, 0, a.spot⟩) n c], [⟨bRow M (.slice (some a) n c), 5, true⟩]) := by
      have h0 : view1 Try.prog M 0 (U8 k) = some (U8 k, []) := rfl
      simp only [view, h0, Option.bind_some, List.length_nil, Nat.add_zero, hv1, List.nil_append, List.append_nil]
    have run := open_run k _ a.spot n c hn (bOk_u8 hx) (bOk_r hx) (bOk_le hx) hk
    have hu := bOk_u8 hx
    generalize bRow M (.slice (some a) n c) = cs at *
    rcases hR with ⟨ho, rfl⟩ | ⟨ho, rfl⟩
    · rw [ho] at run
      obtain ⟨h128, _⟩ := openF_len ho
      exact loc_told hview (run_told evFitsN okC5 (no_loops (by kernel_rfl)) (wall := 1) run) (hand_rowg2 (b := 1) (by simp) rfl (by simp [body, h128]) (u8s_flat (body_u8 hu))) wall
    · rw [ho] at run
      exact loc_told hview (run_told evFitsN okC5 (no_loops (by kernel_rfl)) (wall := 1) run) (by simp [handOn, flatR, flat, flat1]) wall
end Go.Proofs.Yteeclgeoconekaa


/-
  Geometry told as trees; Lay and Read of the package super, told in any memory.
-/
namespace Go.Proofs.Yteeclgeoconekaa
open Go.Ev

abbrev C6a : CallC := moreC 52 (bodyT openTree) C5
theorem okC6a : OkC Try.prog EvN.q C6a := ok_moreC okC5 tell52

/-- What is told of scalars, as a tree. -/
def scalB (g : FuncId → List Value → Option Value) (f : FuncId) : Tree := fun args M _ => match g f args with | some v => .lf true (v, M) | none => .lf false (undef, M)
theorem tellS {g : FuncId → List Value → Option Value} (hg : CallGood Try.prog (scal g)) {f : FuncId} (hf : ∀ args v, g f args = some v → flatR v = true) : TellOk Try.prog EvN.q f (bodyT (scalB g f)) := by
  have inv : ∀ args M wall R, (scalB g f args M wall).val = some R → ∃ v, g f args = some v ∧ R = (v, M) := by
    intro args M wall R h
    unfold scalB at h
    split at h
    · rename_i v hv
      exact ⟨v, hv, (lf_val h).2.symm⟩
    · cases h
  refine tellT (fun _ args M v M' h => ?_) (fun args M wall R h => ?_)
  · obtain ⟨u, hu, e⟩ := inv _ _ _ _ h
    cases e
    simp [trim, hf _ _ hu]
  · obtain ⟨u, hu, rfl⟩ := inv _ _ _ _ h
    exact ⟨_, hg, by simp [scal, hu]⟩

theorem flatG {s : Int → Int → Int → Value} (hs : ∀ a b c, flatR (s a b c) = true) {args : List Value} {v : Value} (h : onG s args = some v) : flatR v = true := by
  obtain ⟨a, b, c, rfl, rfl⟩ := onG_some h
  exact hs a b c
theorem flat3 {s : Int → Int → Int → Value} (hs : ∀ a b c, flatR (s a b c) = true) {args : List Value} {v : Value} (h : on3 s args = some v) : flatR v = true := by
  obtain ⟨a, b, c, rfl, rfl⟩ := on3_some h
  exact hs a b c
theorem tS11 : TellOk Try.prog EvN.q 11 (bodyT (scalB g3 11)) := tellS good3 fun args v h => flatG (s := fun a b c => B (may a b c)) (fun _ _ _ => rfl) h
theorem tS10 : TellOk Try.prog EvN.q 10 (bodyT (scalB g3 10)) := tellS good3 fun args v h => flatG (s := fun a b c => I (sectors a b c)) (fun _ _ _ => rfl) h
theorem tS9 : TellOk Try.prog EvN.q 9 (bodyT (scalB g3 9)) := tellS good3 fun args v h => flatG (s := fun a b c => I (blocks a b c)) (fun _ _ _ => rfl) h
theorem tS26 : TellOk Try.prog EvN.q 26 (bodyT (scalB g3 26)) := tellS good3 fun args v h => flatG (s := fun a b c => I (inodes a b c)) (fun _ _ _ => rfl) h
theorem tS29 : TellOk Try.prog EvN.q 29 (bodyT (scalB g3 29)) := tellS good3 fun args v h => flatG (s := fun _ b c => I (long b c)) (fun _ _ _ => rfl) h
theorem tS30 : TellOk Try.prog EvN.q 30 (bodyT (scalB g3 30)) := tellS good3 fun args v h => flat3 (s := fun n lo hi => B (between n lo hi)) (fun _ _ _ => rfl) h
abbrev C6 : CallC := moreC 11 (bodyT (scalB g3 11)) (moreC 10 (bodyT (scalB g3 10)) (moreC 9 (bodyT (scalB g3 9)) (moreC 26 (bodyT (scalB g3 26)) (moreC 29 (bodyT (scalB g3 29)) (moreC 30 (bodyT (scalB g3 30)) C6a)))))
theorem okC6 : OkC Try.prog EvN.q C6 := ok_moreC (ok_moreC (ok_moreC (ok_moreC (ok_moreC (ok_moreC okC6a tS30) tS29) tS26) tS9) tS10) tS11

/- super.Lay -/
def superL (a b c : Int) (o : Bool) : List Value := [U8 80, U8 82, U8 76, U8 1, U8 (IntKind.u8.wrap a), U8 (IntKind.u8.wrap b), U8 (IntKind.u8.wrap c), U8 (cond o 1 0)]
abbrev lM (a b c : Int) (o : Bool) : Mem := [gb a b c, ⟨[U8 80, U8 82, U8 76, U8 1], 5, true⟩, ⟨[U8 (IntKind.u8.wrap a), U8 (IntKind.u8.wrap b), U8 (IntKind.u8.wrap c), U8 (cond o 1 0)], 5, true⟩, ⟨superL a b c o, 5, true⟩]
abbrev lEnd (κ : Value × Mem → Ret) (a b c : Int) (o : Bool) : Ret :=
  cond (bOk (lM a b c o) (sl 3 0 (some 1) 8 8) && (decide (0 ≤ (83 : Int)) && decide ((83 : Int) < 256))) (κ (.tuple #[.slice (some ⟨4, 0, none⟩) 128 128, I 0], lM a b c o ++ [⟨sealRow 83 (bRow (lM a b c o) (sl 3 0 (some 1) 8 8)), 5, true⟩])) none
theorem r31 (κ : Value × Mem → Ret) (a b c : Int) (o : Bool) : bn C6 noB 31 [gv a b c, B o] [] 0 κ =
    cond (!may a b c) (κ (.tuple #[nilS, I 2], [gb a b c])) (cond o (lEnd κ a b c true) (lEnd κ a b c false)) := by kernel_rfl

theorem superL_ok (a b c : Int) (o : Bool) : u8s (superL a b c o) = true ∧ u8r (superL a b c o) = true := by
  refine ⟨rfl, ?_⟩
  cases o <;> simp [superL, u8r, intOf, wrap8_bd]
theorem lay_run (a b c : Int) (o : Bool) : bn C6 noB 31 [gv a b c, B o] [] 0 some = cond (may a b c) (some (.tuple #[.slice (some ⟨4, 0, none⟩) 128 128, I 0], lM a b c o ++ [⟨sealRow 83 (superL a b c o), 5, true⟩])) (some (.tuple #[nilS, I 2], [gb a b c])) := by
  rw [r31]
  cases may a b c
  · rfl
  · have key : ∀ o, lEnd some a b c o = some (.tuple #[.slice (some ⟨4, 0, none⟩) 128 128, I 0], lM a b c o ++ [⟨sealRow 83 (superL a b c o), 5, true⟩]) := by
      intro o
      obtain ⟨u1, u2⟩ := superL_ok a b c o
      obtain ⟨s1, s2⟩ := bOk_mk (M := lM a b c o) (b := 3) (o := 0) (n := 8) (c := 8) (sp := some 1) rfl (by simp [superL]) u1 u2 (by omega)
      have s3 : bRow (lM a b c o) (sl 3 0 (some 1) 8 8) = superL a b c o := by rw [s2]; rfl
      simp only [lEnd, s1, s3]
      rfl
    cases o
    · exact key false
    · exact key true

def layTree : Tree := fun args M _ => match args with
  | [.agg xs, .bool o] => match xs.toList with
    | [.int .i64 a, .int .i64 b, .int .i64 c] => .nd (may a b c) (.lf true (.tuple #[.slice (some ⟨M.length, 0, none⟩) 128 128, I 0], M ++ [⟨sealRow 83 (superL a b c o), 5, true⟩])) (.lf true (.tuple #[nilS, I 2], M))
    | _ => .lf false (undef, M)
  | _ => .lf false (undef, M)
theorem layTree_inv {args : List Value} {M : Mem} {wall : Nat} {R : Value × Mem} (h : (layTree args M wall).val = some R) : ∃ a b c o, args = [gv a b c, B o] ∧
    ((may a b c = true ∧ R = (.tuple #[.slice (some ⟨M.length, 0, none⟩) 128 128, I 0], M ++ [⟨sealRow 83 (superL a b c o), 5, true⟩])) ∨ (may a b c = false ∧ R = (.tuple #[nilS, I 2], M))) := by
  unfold layTree at h
  split at h
  · rename_i xs o
    split at h
    · rename_i a b c e
      obtain rfl : xs = #[I a, I b, I c] := Array.ext' e
      rcases nd_val h with ⟨hc, h⟩ | ⟨hc, h⟩
      · exact ⟨a, b, c, o, rfl, .inl ⟨hc, (lf_val h).2.symm⟩⟩
      · exact ⟨a, b, c, o, rfl, .inr ⟨hc, (lf_val h).2.symm⟩⟩
    · cases h
  · cases h
theorem superRow_ok (a b c : Int) (o : Bool) : (sealRow 83 (superL a b c o)).length = 128 ∧ u8s (sealRow 83 (superL a b c o)) = true ∧ u8r (sealRow 83 (superL a b c o)) = true :=
  ⟨sealRow_len (by simp [superL]), sealRow_u8 (superL_ok a b c o).1, sealRow_r (by omega) (superL_ok a b c o).2⟩
theorem tell31 : TellOk Try.prog EvN.q 31 (bodyT layTree) := by
  refine tellT (fun _ args M v M' h => ?_) (fun args M wall R h => ?_)
  · obtain ⟨a, b, c, o, rfl, ⟨_, e⟩ | ⟨_, e⟩⟩ := layTree_inv h
    · cases e
      exact trim_row2 (superRow_ok a b c o).1 (u8s_flat (superRow_ok a b c o).2.1)
    · cases e; exact trim_nil2
  · obtain ⟨a, b, c, o, rfl, hR⟩ := layTree_inv h
    have hview : view Try.prog M [gv a b c, B o] 0 = some ([gv a b c, B o], []) := view_flat M _ 0 (by simp [flat, flat1])
    have run := lay_run a b c o
    rcases hR with ⟨hm, rfl⟩ | ⟨hm, rfl⟩
    · rw [hm] at run
      exact loc_told hview (run_told evFitsN okC6 (no_loops (by kernel_rfl)) (wall := 0) run) (hand_row2 (b := 4) (by simp) rfl (superRow_ok a b c o).1 (u8s_flat (superRow_ok a b c o).2.1)) wall
    · rw [hm] at run
      exact loc_told hview (run_told evFitsN okC6 (no_loops (by kernel_rfl)) (wall := 0) run) (by simp [handOn, flatR, flat, flat1]) wall
abbrev C7 : CallC := moreC 31 (bodyT layTree) C6
theorem okC7 : OkC Try.prog EvN.q C7 := ok_moreC okC6 tell31

/- super.Read -/
abbrev at8 (cs : List Value) (i : Nat) : Int := intIn ((body cs)[i]?)
abbrev no3 : Value := .tuple #[gv 0 0 0, B false, I 3]
abbrev w64 (n : Int) : Int := IntKind.i64.wrap n
abbrev rM1 (cs : List Value) : Mem := [⟨cs, 5, true⟩, gb 0 0 0]
abbrev rM3 (cs X : List Value) (a b c : Int) (o : Bool) (z : Blk) : Mem := [⟨cs, 5, true⟩, z, ⟨body X, 5, true⟩, gb a b c, ⟨sealRow 83 (superL a b c o), 5, true⟩]
abbrev rBody (κ : Value × Mem → Ret) (cs X : List Value) (x : Value) (a b c : Int) (o : Bool) : Ret :=
  cond (may a b c) (cond (bOk (rM3 cs X a b c o (gb 0 0 0)) (sl 4 0 none 128 128) && bOk (rM3 cs X a b c o (gb 0 0 0)) x)
      (cond (!eqRows (bRow (rM3 cs X a b c o (gb 0 0 0)) (sl 4 0 none 128 128)) (bRow (rM3 cs X a b c o (gb 0 0 0)) x)) (κ (no3, rM3 cs X a b c o (gb 0 0 0)))
        (κ (.tuple #[gv a b c, B o, I 0], rM3 cs X a b c o (gb a b c)))) none)
    (κ (no3, [⟨cs, 5, true⟩, gb 0 0 0, ⟨body X, 5, true⟩, gb a b c]))
theorem r23 (κ : Value × Mem → Ret) (sp : Option Nat) (n c : Nat) (cs : List Value) : bn C7 noB 23 [sl 0 0 sp n c] [⟨cs, 5, true⟩] 1 κ =
    cond (openF 83 (bRow (rM1 cs) (sl 0 0 sp n c)))
      (cond (bOk (rM1 cs) (sl 0 0 sp n c) && kOk (sl 0 0 sp n c))
        (cond (okInt .u8 ((body (bRow (rM1 cs) (sl 0 0 sp n c)))[4]?) && true) (cond (okInt .u8 ((body (bRow (rM1 cs) (sl 0 0 sp n c)))[5]?) && true) (cond (okInt .u8 ((body (bRow (rM1 cs) (sl 0 0 sp n c)))[6]?) && true) (cond (okInt .u8 ((body (bRow (rM1 cs) (sl 0 0 sp n c)))[7]?) && true)
          (rBody κ cs (bRow (rM1 cs) (sl 0 0 sp n c)) (sl 0 0 sp n c) (w64 (at8 (bRow (rM1 cs) (sl 0 0 sp n c)) 4)) (w64 (at8 (bRow (rM1 cs) (sl 0 0 sp n c)) 5)) (w64 (at8 (bRow (rM1 cs) (sl 0 0 sp n c)) 6)) (at8 (bRow (rM1 cs) (sl 0 0 sp n c)) 7 == 1))
          none) none) none) none) none)
      (cond (bOk (rM1 cs) (sl 0 0 sp n c) && kOk (sl 0 0 sp n c)) (κ (no3, rM1 cs)) none) := by kernel_rfl

/-- Does a row tell a superblock? -/
def readF (cs : List Value) : Bool := openF 83 cs && (may (at8 cs 4) (at8 cs 5) (at8 cs 6) && eqRows (sealRow 83 (superL (at8 cs 4) (at8 cs 5) (at8 cs 6) (at8 cs 7 == 1))) cs)
def readTree : Tree := fun args M _ => match args with
  | [x] => .nd (readF (bRow M x)) (.lf (bOk M x && kOk x) (.tuple #[gv (at8 (bRow M x) 4) (at8 (bRow M x) 5) (at8 (bRow M x) 6), B (at8 (bRow M x) 7 == 1), I 0], M)) (.lf (bOk M x && kOk x) (no3, M))
  | _ => .lf false (undef, M)
theorem readTree_inv {args : List Value} {M : Mem} {wall : Nat} {R : Value × Mem} (h : (readTree args M wall).val = some R) : ∃ x, args = [x] ∧ bOk M x = true ∧ kOk x = true ∧
    R = (cond (readF (bRow M x)) (.tuple #[gv (at8 (bRow M x) 4) (at8 (bRow M x) 5) (at8 (bRow M x) 6), B (at8 (bRow M x) 7 == 1), I 0]) no3, M) := by
  unfold readTree at h
  split at h
  · rename_i x
    rcases nd_val h with ⟨hc, h⟩ | ⟨hc, h⟩
    · obtain ⟨h1, rfl⟩ := lf_val h
      simp only [Bool.and_eq_true] at h1
      exact ⟨x, rfl, h1.1, h1.2, by rw [hc]; rfl⟩
    · obtain ⟨h1, rfl⟩ := lf_val h
      simp only [Bool.and_eq_true] at h1
      exact ⟨x, rfl, h1.1, h1.2, by rw [hc]; rfl⟩
  · cases h
theorem readV_flat (cs : List Value) : flatR (cond (readF cs) (.tuple #[gv (at8 cs 4) (at8 cs 5) (at8 cs 6), B (at8 cs 7 == 1), I 0]) no3) = true := by
  cases readF cs <;> simp [flatR, flat, flat1]

theorem at8_ok {cs : List Value} (h : cs.length = 128) (hu : u8s cs = true) (hr : u8r cs = true) {i : Nat} (hi : i < 123) : okInt .u8 ((body cs)[i]?) = true ∧ 0 ≤ at8 cs i ∧ at8 cs i < 256 := by
  have hl : i < (body cs).length := by simp [body, h]; omega
  have e : (body cs)[i]? = some (body cs)[i] := by simp [hl]
  have hm : (body cs)[i] ∈ cs := List.mem_of_mem_drop (List.mem_of_mem_take (List.getElem_mem hl))
  have h1 := List.all_eq_true.1 hu _ hm
  have h2 := List.all_eq_true.1 hr _ hm
  simp only [Bool.and_eq_true, decide_eq_true_eq] at h2
  refine ⟨by rw [e]; exact h1, ?_, ?_⟩
  · show 0 ≤ intIn ((body cs)[i]?)
    rw [e]; exact h2.1
  · show intIn ((body cs)[i]?) < 256
    rw [e]; exact h2.2

theorem read_run (cs : List Value) (sp : Option Nat) (n c : Nat) (hn : n = cs.length) (hu : u8s cs = true) (hr : u8r cs = true) (hb : cs.length ≤ 4611686018427387904) (hk : kOk (sl 0 0 sp n c) = true) :
    ∃ M1, bn C7 noB 23 [sl 0 0 sp n c] [⟨cs, 5, true⟩] 1 some = some (cond (readF cs) (.tuple #[gv (at8 cs 4) (at8 cs 5) (at8 cs 6), B (at8 cs 7 == 1), I 0]) no3, M1) := by
  have hx : ∀ M : Mem, M.blk 0 = ⟨cs, 5, true⟩ → bOk M (sl 0 0 sp n c) = true ∧ bRow M (sl 0 0 sp n c) = cs := by
    intro M hM
    obtain ⟨a, b⟩ := bOk_mk (sp := sp) (c := c) (n := n) (o := 0) hM (by omega) hu hr (by omega)
    exact ⟨a, by rw [b]; simp [hn]⟩
  obtain ⟨x1, x2⟩ := hx (rM1 cs) rfl
  cases ho : openF 83 cs
  · have : readF cs = false := by simp [readF, ho]
    rw [this]
    refine ⟨rM1 cs, ?_⟩
    rw [r23, x2, ho, x1, hk]
    rfl
  · obtain ⟨h128, _⟩ := openF_len ho
    obtain ⟨a1, a2, a3⟩ := at8_ok h128 hu hr (i := 4) (by omega)
    obtain ⟨b1, b2, b3⟩ := at8_ok h128 hu hr (i := 5) (by omega)
    obtain ⟨c1, c2, c3⟩ := at8_ok h128 hu hr (i := 6) (by omega)
    obtain ⟨d1, d2, d3⟩ := at8_ok h128 hu hr (i := 7) (by omega)
    have ea : w64 (at8 cs 4) = at8 cs 4 := wr_id (by omega) (by omega)
    have eb : w64 (at8 cs 5) = at8 cs 5 := wr_id (by omega) (by omega)
    have ec : w64 (at8 cs 6) = at8 cs 6 := wr_id (by omega) (by omega)
    have hF : readF cs = (may (at8 cs 4) (at8 cs 5) (at8 cs 6) && eqRows (sealRow 83 (superL (at8 cs 4) (at8 cs 5) (at8 cs 6) (at8 cs 7 == 1))) cs) := by simp [readF, ho]
    rw [r23, x2, ho, x1, hk, a1, b1, c1, d1, ea, eb, ec, hF]
    simp only [Bool.and_self, cond_true, rBody]
    generalize at8 cs 4 = a at *
    generalize at8 cs 5 = b at *
    generalize at8 cs 6 = c' at *
    generalize ((at8 cs 7) == 1) = o at *
    cases hm : may a b c'
    · exact ⟨_, rfl⟩
    · obtain ⟨y1, y2⟩ := hx (rM3 cs cs a b c' o (gb 0 0 0)) rfl
      obtain ⟨z0, z1, z2⟩ := superRow_ok a b c' o
      obtain ⟨s1, s2⟩ := bOk_mk (M := rM3 cs cs a b c' o (gb 0 0 0)) (b := 4) (o := 0) (n := 128) (c := 128) (sp := none) rfl (by omega) z1 z2 (by omega)
      have s3 : bRow (rM3 cs cs a b c' o (gb 0 0 0)) (sl 4 0 none 128 128) = sealRow 83 (superL a b c' o) := by rw [s2]; simp [← z0]
      simp only [y1, y2, s1, s3, Bool.and_self, cond_true, Bool.true_and]
      cases eqRows (sealRow 83 (superL a b c' o)) cs <;> exact ⟨_, rfl⟩

theorem tell23 : TellOk Try.prog EvN.q 23 (bodyT readTree) := by
  refine tellT (fun _ args M v M' h => ?_) (fun args M wall R h => ?_)
  · obtain ⟨x, rfl, _, _, e⟩ := readTree_inv h
    cases e
    simp [trim, readV_flat]
  · obtain ⟨x, rfl, hx, hk, rfl⟩ := readTree_inv h
    obtain ⟨a, n, c, rfl, hn, hv⟩ := view1r hx
    obtain ⟨M1, run⟩ := read_run _ a.spot n c hn (bOk_u8 hx) (bOk_r hx) (bOk_le hx) hk
    exact loc_told hv (run_told evFitsN okC7 (no_loops (by kernel_rfl)) (wall := 1) run) (by simp [handOn, readV_flat]) wall
end Go.Proofs.Yteeclgeoconekaa


/-
  Sets of bits, the sector of a group, the empty record, sectors of inodes: told in any memory.
-/
namespace Go.Proofs.Yteeclgeoconekaa
open Go.Ev

abbrev C8a : CallC := moreC 23 (bodyT readTree) C7
theorem okC8a : OkC Try.prog EvN.q C8a := ok_moreC okC7 tell23

/-- A zero; no slice. -/
structure Z0 where
instance : HV Z0 where
  enc _ := I 0
  dec := fun | .int .i64 n => cond (n == 0) (some ⟨⟩) none | _ => none
  ok := by
    intro v a h
    split at h
    · rename_i n
      cases hn : (n == 0)
      · rw [hn] at h; cases h
      · rw [hn] at h; cases h
        obtain rfl : n = 0 := by simpa using hn
        rfl
    · cases h
structure N0 where
instance : HV N0 where
  enc _ := nilS
  dec := fun | .slice none 0 0 => some ⟨⟩ | _ => none
  ok := by intro v a h; split at h <;> cases h; rfl

/- bits.Of(n) -/
abbrev rp33 : List Pt := mkP 36 [(0, .hole), (5, .hole), (18, .hole), (19, .hole), (20, .hole)]
abbrev A33 := Int × SLs 0 × N0 × Z0 × Z0 × Unit
abbrev S33 := A33 × (List Value × Unit) × Mem
def fr33 (s : S33) : List Value × Mem := (mk 36 [(0, I s.1.1), (5, HV.enc s.1.2.1), (18, nilS), (19, I 0), (20, I 0), (21, B false)], (stOf rp33 [.rowE 5] s).2)
theorem is33 : LoopIs Try.prog EvN.E EvN.q (EvN.reg 33) C8a 0 noB (lp 33 0) rp33 [.rowE 5] (fun s : S33 => .lf true (.done s)) (fun s κ => κ (.exit 0) (fr33 s).1 (fr33 s).2) (fun _ => .exit 0) fr33 :=
  ⟨fun o h => (by cases h), fun o κ => rfl, fun s κ => (by obtain ⟨⟨n, x, ⟨⟩, ⟨⟩, ⟨⟩, ⟨⟩⟩, ⟨cs, ⟨⟩⟩, t⟩ := s; kernel_rfl)⟩
abbrev L33 : LoopB := sumB 5 rp33 [.rowE 5] (fun s : S33 => .lf true (.done s)) 1 (fun s κ => κ (.exit 0) (fr33 s).1 (fr33 s).2) noB
theorem sem33 : LoopsSem Try.prog 0 L33 (codeOf Try.prog 33) := by
  intro y hy
  rw [show loopsOf (codeOf Try.prog 33) = [lp 33 0] from by kernel_rfl] at hy
  exact LoopsSem.cons evFitsN.eqs evFitsN.mixed okC8a.cps okC8a.good (by kernel_rfl) (no_loops (by kernel_rfl)) is33 (fun _ h => by cases h) (by kernel_rfl) (fun _ h => by cases h) y hy
abbrev eighth (n : Int) : Int := wr ((wr (n + 7)).tdiv 8)
theorem r33 (κ : Value × Mem → Ret) (n : Int) : bn C8a L33 33 [I n, nilS] [] 0 κ =
    cond (decide (n < 0)) (κ (nilS, [])) (cond (decide (1000 < n)) (κ (nilS, []))
      (cond (decide (0 ≤ eighth n) && (decide (eighth n ≤ eighth n) && (decide (((1 : Nat) : Int) * eighth n ≤ 281474976710656) && (decide (eighth n ≤ 9223372036854775807) && true))))
        (κ (.slice (some ⟨0, 0, none⟩) (eighth n).toNat (eighth n).toNat, [⟨List.replicate (eighth n).toNat Z8, 5, true⟩])) none)) := by kernel_rfl

def bitsN (n : Int) : Nat := ((n + 7) / 8).toNat
def bitsTree : Tree := fun args M _ => match args with
  | [.int .i64 n, .slice none 0 0] => .lf (decide (0 ≤ n) && decide (n ≤ 1000)) (.slice (some ⟨M.length, 0, none⟩) (bitsN n) (bitsN n), M ++ [⟨List.replicate (bitsN n) Z8, 5, true⟩])
  | _ => .lf false (undef, M)
theorem bitsTree_inv {args : List Value} {M : Mem} {wall : Nat} {R : Value × Mem} (h : (bitsTree args M wall).val = some R) : ∃ n, args = [I n, nilS] ∧ 0 ≤ n ∧ n ≤ 1000 ∧
    R = (.slice (some ⟨M.length, 0, none⟩) (bitsN n) (bitsN n), M ++ [⟨List.replicate (bitsN n) Z8, 5, true⟩]) := by
  unfold bitsTree at h
  split at h
  · rename_i n
    obtain ⟨h1, rfl⟩ := lf_val h
    simp only [Bool.and_eq_true, decide_eq_true_eq] at h1
    exact ⟨n, rfl, h1.1, h1.2, rfl⟩
  · cases h
theorem tell33 : TellOk Try.prog EvN.q 33 (bodyT bitsTree) := by
  refine tellT (fun _ args M v M' h => ?_) (fun args M wall R h => ?_)
  · obtain ⟨n, rfl, _, _, e⟩ := bitsTree_inv h
    cases e
    exact trim_row (by simp) (u8s_flat u8s_rep)
  · obtain ⟨n, rfl, h0, h1, rfl⟩ := bitsTree_inv h
    have hview : view Try.prog M [I n, nilS] 0 = some ([I n, nilS], []) := view_flat M _ 0 (by simp [flat, flat1])
    have e8 : eighth n = (n + 7) / 8 := by
      unfold eighth
      rw [wr_id (x := n + 7) (by omega) (by omega), Int.tdiv_eq_ediv_of_nonneg (by omega), wr_id (by omega) (by omega)]
    have run := r33 some n
    have a1 : decide (n < 0) = false := by simp; omega
    have a2 : decide (1000 < n) = false := by simp; omega
    rw [a1, a2, e8] at run
    have a3 : decide (0 ≤ (n + 7) / 8) = true := by simp; omega
    have a4 : decide ((n + 7) / 8 ≤ (n + 7) / 8) = true := by simp
    have a5 : decide (((1 : Nat) : Int) * ((n + 7) / 8) ≤ 281474976710656) = true := by simp; omega
    have a6 : decide ((n + 7) / 8 ≤ 9223372036854775807) = true := by simp; omega
    rw [a3, a4, a5, a6] at run
    exact loc_told hview (run_told evFitsN okC8a sem33 run) (hand_row (b := 0) (by simp) rfl (by simp [bitsN]) (u8s_flat u8s_rep)) wall

/- bits.With(b, 0, true) -/
def bit0 (cs : List Value) : List Value := cs.set 0 (U8 (IntKind.u8.wrap (BitVec.ofInt IntKind.u8.bits (k0 cs) ||| BitVec.ofInt IntKind.u8.bits 1).toNat))
abbrev wM (cs : List Value) (n : Nat) (x : Value) : Mem := [⟨cs, 5, true⟩, ⟨bRow [⟨cs, 5, true⟩] x, 5, true⟩]
theorem r34 (κ : Value × Mem → Ret) (sp : Option Nat) (n c : Nat) (cs : List Value) : bn C8a noB 34 [sl 0 0 sp n c, I 0, B true] [⟨cs, 5, true⟩] 1 κ =
    cond (bOk [⟨cs, 5, true⟩] (sl 0 0 sp n c) && (!(Nat.beq n 0) && Nat.ble n 140737488355328))
      (cond (decide ((n : Int) ≤ 0)) (κ (.slice (some ⟨1, 0, some 1⟩) n n, wM cs n (sl 0 0 sp n c)))
        (cond (decide ((0 : Int) < (n : Int))) (cond (okInt .u8 (gI (bRow [⟨cs, 5, true⟩] (sl 0 0 sp n c)) 0) && true)
          (cond (decide ((0 : Int) < (n : Int))) (cond (putG (wM cs n (sl 0 0 sp n c)) 1 1 0 1)
            (κ (.slice (some ⟨1, 0, some 1⟩) n n, [⟨cs, 5, true⟩, ⟨bit0 (bRow [⟨cs, 5, true⟩] (sl 0 0 sp n c)), 5, true⟩])) none) none) none) none)) none := by kernel_rfl

def withTree : Tree := fun args M _ => match args with
  | [x, .int .i64 i, .bool b] => .lf (bOk M x && ((!(Nat.beq (lenOf x) 0) && Nat.ble (lenOf x) 140737488355328) && ((i == 0) && b))) (.slice (some ⟨M.length, 0, some 1⟩) (lenOf x) (lenOf x), M ++ [⟨bit0 (bRow M x), 5, true⟩])
  | _ => .lf false (undef, M)
theorem withTree_inv {args : List Value} {M : Mem} {wall : Nat} {R : Value × Mem} (h : (withTree args M wall).val = some R) : ∃ x, args = [x, I 0, B true] ∧ bOk M x = true ∧ (!(Nat.beq (lenOf x) 0) && Nat.ble (lenOf x) 140737488355328) = true ∧
    R = (.slice (some ⟨M.length, 0, some 1⟩) (lenOf x) (lenOf x), M ++ [⟨bit0 (bRow M x), 5, true⟩]) := by
  unfold withTree at h
  split at h
  · rename_i x i b
    obtain ⟨h1, rfl⟩ := lf_val h
    simp only [Bool.and_eq_true, beq_iff_eq] at h1
    obtain ⟨h1, h2, rfl, rfl⟩ := h1
    exact ⟨x, rfl, h1, by simpa using h2, rfl⟩
  · cases h
theorem bit0_ok {cs : List Value} (hu : u8s cs = true) (hr : u8r cs = true) : (bit0 cs).length = cs.length ∧ u8s (bit0 cs) = true ∧ u8r (bit0 cs) = true := by
  refine ⟨by simp [bit0], ?_, ?_⟩
  · refine List.all_eq_true.2 fun v hv => ?_
    rcases List.mem_or_eq_of_mem_set hv with h | rfl
    · exact List.all_eq_true.1 hu v h
    · rfl
  · refine List.all_eq_true.2 fun v hv => ?_
    rcases List.mem_or_eq_of_mem_set hv with h | rfl
    · exact List.all_eq_true.1 hr v h
    · have := wrap8_bd ((BitVec.ofInt IntKind.u8.bits (k0 cs) ||| BitVec.ofInt IntKind.u8.bits 1).toNat : Int)
      simp only [intOf, Bool.and_eq_true]
      exact ⟨decide_eq_true this.1, decide_eq_true this.2⟩
theorem tell34 : TellOk Try.prog EvN.q 34 (bodyT withTree) := by
  refine tellT (fun _ args M v M' h => ?_) (fun args M wall R h => ?_)
  · obtain ⟨x, rfl, hx, _, e⟩ := withTree_inv h
    cases e
    obtain ⟨b1, b2, _⟩ := bit0_ok (bOk_u8 hx) (bOk_r hx)
    exact trim_rowg (b1.trans (bOk_len hx).symm) (u8s_flat b2)
  · obtain ⟨x, rfl, hx, h0, rfl⟩ := withTree_inv h
    obtain ⟨a, n, c, hxe, hn, hv1⟩ := view_row hx 0
    have hlen := bOk_len hx
    have hu := bOk_u8 hx
    have hr := bOk_r hx
    have hle := bOk_le hx
    have hview : view Try.prog M [x, I 0, B true] 0 = some ([.slice (some ⟨0, 0, a.spot⟩) n c, I 0, B true], [⟨bRow M x, 5, true⟩]) := by
      have h1 : ∀ j, view1 Try.prog M j (I 0) = some (I 0, []) := fun _ => rfl
      have h2 : ∀ j, view1 Try.prog M j (B true) = some (B true, []) := fun _ => rfl
      simp only [view, hv1, Option.bind_some, h1, h2, List.append_nil, List.nil_append]
    rw [hlen] at h0 ⊢
    generalize bRow M x = cs at *
    subst hn
    obtain ⟨x1, x2⟩ := bOk_mk (M := [⟨cs, 5, true⟩]) (b := 0) (sp := a.spot) (c := c) (n := cs.length) (o := 0) rfl (by omega) hu hr hle
    have x3 : bRow [⟨cs, 5, true⟩] (sl 0 0 a.spot cs.length c) = cs := by rw [x2]; simp
    have hpos : 0 < cs.length := by
      simp only [Bool.and_eq_true, Bool.not_eq_true'] at h0
      cases hz : cs.length with
      | zero => rw [hz] at h0; cases h0.1
      | succ n => omega
    obtain ⟨f1, _⟩ := first_ok hpos hu hr
    have run := r34 some a.spot cs.length c cs
    have d1 : decide ((cs.length : Int) ≤ 0) = false := decide_eq_false (by omega)
    have d2 : decide ((0 : Int) < (cs.length : Int)) = true := decide_eq_true (by omega)
    have d3 : putG (wM cs cs.length (sl 0 0 a.spot cs.length c)) 1 1 0 1 = true := by
      show (true && (true && Nat.ble (0 + 1) (bRow [⟨cs, 5, true⟩] (sl 0 0 a.spot cs.length c)).length)) = true
      have h1 : 0 + 1 ≤ cs.length := by omega
      rw [x3, Nat.ble_eq_true_of_le h1]; rfl
    rw [x1, x3, h0, d1, d2, f1, d3] at run
    obtain ⟨b1, b2, _⟩ := bit0_ok hu hr
    exact loc_told hview (run_told evFitsN okC8a (no_loops (by kernel_rfl)) (wall := 1) run) (hand_rowg (b := 1) (by simp) rfl b1 (u8s_flat b2)) wall
abbrev C8 : CallC := moreC 33 (bodyT bitsTree) (moreC 34 (bodyT withTree) C8a)
theorem okC8 : OkC Try.prog EvN.q C8 := ok_moreC (ok_moreC okC8a tell34) tell33

/- group.Lay -/
abbrev gM1 (xs ys : List Value) : Mem := [⟨xs, 5, true⟩, ⟨ys, 5, true⟩, ⟨List.replicate 16 Z8, 5, true⟩]
def gR1 (xs ys : List Value) (n : Nat) : List Value := rowC (gM1 xs ys) 0 0 (min n 16 * 1)
def gM2 (xs ys : List Value) (n : Nat) : Mem := setBlk (gM1 xs ys) 2 (putC (gM1 xs ys) 2 0 (gR1 xs ys n))
def gR2 (xs ys : List Value) (n m : Nat) : List Value := rowC (gM2 xs ys n) 1 0 (min m 12 * 1)
def gM3 (xs ys : List Value) (n m : Nat) : Mem := setBlk (gM2 xs ys n) 2 (putC (gM2 xs ys n) 2 4 (gR2 xs ys n m))
abbrev okR (r : List Value) (n : Nat) : Bool := r.all Value.oneCell' && (!(Nat.beq n 0) || r.isEmpty)
theorem r35 (κ : Value × Mem → Ret) (sp sp' : Option Nat) (n c m c' : Nat) (xs ys : List Value) : bn C8 noB 35 [sl 0 0 sp n c, sl 1 0 sp' m c'] [⟨xs, 5, true⟩, ⟨ys, 5, true⟩] 2 κ =
    cond (decide ((n : Int) < 1)) (κ (.tuple #[nilS, I 2], [⟨xs, 5, true⟩, ⟨ys, 5, true⟩])) (cond (decide (4 < (n : Int))) (κ (.tuple #[nilS, I 2], [⟨xs, 5, true⟩, ⟨ys, 5, true⟩]))
      (cond (decide ((m : Int) < 2)) (κ (.tuple #[nilS, I 2], [⟨xs, 5, true⟩, ⟨ys, 5, true⟩])) (cond (decide (12 < (m : Int))) (κ (.tuple #[nilS, I 2], [⟨xs, 5, true⟩, ⟨ys, 5, true⟩]))
        (cond (rowG (gM1 xs ys) 0 0 (min n 16 * 1)) (cond (okR (gR1 xs ys n) (min n 16) && putG (gM1 xs ys) 2 2 0 (gR1 xs ys n).length)
          (cond (rowG (gM2 xs ys n) 1 0 (min m 12 * 1)) (cond (okR (gR2 xs ys n m) (min m 12) && putG (gM2 xs ys n) 2 2 4 (gR2 xs ys n m).length)
            (cond (bOk (gM3 xs ys n m) (sl 2 0 none 16 16) && (decide (0 ≤ (71 : Int)) && decide ((71 : Int) < 256)))
              (κ (.tuple #[.slice (some ⟨3, 0, none⟩) 128 128, I 0], gM3 xs ys n m ++ [⟨sealRow 71 (bRow (gM3 xs ys n m) (sl 2 0 none 16 16)), 5, true⟩])) none) none) none) none) none)))) := by kernel_rfl

def groupL (xs ys : List Value) : List Value := (xs ++ List.replicate (4 - xs.length) Z8) ++ (ys ++ List.replicate (12 - ys.length) Z8)
theorem groupL_ok {xs ys : List Value} (h1 : xs.length ≤ 4) (h2 : ys.length ≤ 12) (u1 : u8s xs = true) (u2 : u8s ys = true) (r1 : u8r xs = true) (r2 : u8r ys = true) : (groupL xs ys).length = 16 ∧ u8s (groupL xs ys) = true ∧ u8r (groupL xs ys) = true := by
  refine ⟨by simp [groupL]; omega, by simp [groupL, u8s_append, u8s_rep, u1, u2], by simp [groupL, u8r_append, u8r_rep, r1, r2]⟩
theorem group_plain (xs ys : List Value) (h0 : 1 ≤ xs.length) (h1 : xs.length ≤ 4) (h3 : 2 ≤ ys.length) (h2 : ys.length ≤ 12) :
    gR1 xs ys xs.length = xs ∧ gR2 xs ys xs.length ys.length = ys ∧ rowG (gM1 xs ys) 0 0 (min xs.length 16 * 1) = true ∧ putG (gM1 xs ys) 2 2 0 xs.length = true ∧ rowG (gM2 xs ys xs.length) 1 0 (min ys.length 12 * 1) = true ∧
    putG (gM2 xs ys xs.length) 2 2 4 ys.length = true ∧ gM3 xs ys xs.length ys.length = [⟨xs, 5, true⟩, ⟨ys, 5, true⟩, ⟨groupL xs ys, 5, true⟩] := by
  have m1 : min xs.length 16 * 1 = xs.length := by omega
  have m2 : min ys.length 12 * 1 = ys.length := by omega
  have e1 : gR1 xs ys xs.length = xs := by unfold gR1; rw [m1]; simp [rowC, Mem.blk]
  have e2 : gM2 xs ys xs.length = [⟨xs, 5, true⟩, ⟨ys, 5, true⟩, ⟨xs ++ List.replicate (16 - xs.length) Z8, 5, true⟩] := by
    unfold gM2
    rw [e1]
    have : putC (gM1 xs ys) 2 0 xs = xs ++ List.replicate (16 - xs.length) Z8 := by
      show List.take 0 (List.replicate 16 Z8) ++ (xs ++ List.drop (0 + xs.length) (List.replicate 16 Z8)) = _
      rw [List.take_zero, List.nil_append, Nat.zero_add, List.drop_replicate]
    rw [this]
    rfl
  have e3 : gR2 xs ys xs.length ys.length = ys := by unfold gR2; rw [m2, e2]; simp [rowC, Mem.blk]
  refine ⟨e1, e3, ?_, ?_, ?_, ?_, ?_⟩
  · rw [m1]; simp [rowG, Mem.blk]
  · simp [putG, Mem.blk]; omega
  · rw [m2, e2]; simp [rowG, Mem.blk]
  · rw [e2]; simp [putG, Mem.blk]; omega
  · unfold gM3
    rw [e3, e2]
    have : putC [⟨xs, 5, true⟩, ⟨ys, 5, true⟩, ⟨xs ++ List.replicate (16 - xs.length) Z8, 5, true⟩] 2 4 ys = groupL xs ys := by
      have t4 : List.take 4 (xs ++ List.replicate (16 - xs.length) Z8) = xs ++ List.replicate (4 - xs.length) Z8 := by
        rw [List.take_append]
        rw [List.take_of_length_le h1, List.take_replicate]
        congr 2
        omega
      have d4 : List.drop (4 + ys.length) (xs ++ List.replicate (16 - xs.length) Z8) = List.replicate (12 - ys.length) Z8 := by
        rw [List.drop_append, List.drop_of_length_le (by omega), List.drop_replicate, List.nil_append]
        congr 1
        omega
      show List.take 4 (xs ++ List.replicate (16 - xs.length) Z8) ++ (ys ++ List.drop (4 + ys.length) (xs ++ List.replicate (16 - xs.length) Z8)) = _
      rw [t4, d4]
      rfl
    rw [this]
    rfl

def groupTree : Tree := fun args M _ => match args with
  | [x, y] => .lf ((bOk M x && bOk M y) && ((Nat.ble 1 (lenOf x) && Nat.ble (lenOf x) 4) && (Nat.ble 2 (lenOf y) && Nat.ble (lenOf y) 12))) (.tuple #[.slice (some ⟨M.length, 0, none⟩) 128 128, I 0], M ++ [⟨sealRow 71 (groupL (bRow M x) (bRow M y)), 5, true⟩])
  | _ => .lf false (undef, M)
theorem groupTree_inv {args : List Value} {M : Mem} {wall : Nat} {R : Value × Mem} (h : (groupTree args M wall).val = some R) : ∃ x y, args = [x, y] ∧ bOk M x = true ∧ bOk M y = true ∧ (1 ≤ lenOf x ∧ lenOf x ≤ 4) ∧ (2 ≤ lenOf y ∧ lenOf y ≤ 12) ∧
    R = (.tuple #[.slice (some ⟨M.length, 0, none⟩) 128 128, I 0], M ++ [⟨sealRow 71 (groupL (bRow M x) (bRow M y)), 5, true⟩]) := by
  unfold groupTree at h
  split at h
  · rename_i x y
    obtain ⟨h1, rfl⟩ := lf_val h
    simp only [Bool.and_eq_true, Nat.ble_eq] at h1
    exact ⟨x, y, rfl, h1.1.1, h1.1.2, h1.2.1, h1.2.2, rfl⟩
  · cases h
theorem groupRow_ok {xs ys : List Value} (h1 : xs.length ≤ 4) (h2 : ys.length ≤ 12) (u1 : u8s xs = true) (u2 : u8s ys = true) (r1 : u8r xs = true) (r2 : u8r ys = true) :
    (sealRow 71 (groupL xs ys)).length = 128 ∧ u8s (sealRow 71 (groupL xs ys)) = true ∧ u8r (sealRow 71 (groupL xs ys)) = true := by
  obtain ⟨g1, g2, g3⟩ := groupL_ok h1 h2 u1 u2 r1 r2
  exact ⟨sealRow_len (by omega), sealRow_u8 g2, sealRow_r (by omega) g3⟩
theorem tell35 : TellOk Try.prog EvN.q 35 (bodyT groupTree) := by
  refine tellT (fun _ args M v M' h => ?_) (fun args M wall R h => ?_)
  · obtain ⟨x, y, rfl, hx, hy, lx, ly, e⟩ := groupTree_inv h
    cases e
    rw [bOk_len hx] at lx
    rw [bOk_len hy] at ly
    obtain ⟨g1, g2, _⟩ := groupRow_ok lx.2 ly.2 (bOk_u8 hx) (bOk_u8 hy) (bOk_r hx) (bOk_r hy)
    exact trim_row2 g1 (u8s_flat g2)
  · obtain ⟨x, y, rfl, hx, hy, lx, ly, rfl⟩ := groupTree_inv h
    obtain ⟨sp, n, c, sp', m, c', hn, hm, hv⟩ := view2 hx hy
    rw [bOk_len hx] at lx
    rw [bOk_len hy] at ly
    have ux := bOk_u8 hx
    have uy := bOk_u8 hy
    have rx := bOk_r hx
    have ry := bOk_r hy
    generalize bRow M x = xs at *
    generalize bRow M y = ys at *
    subst hn hm
    obtain ⟨p1, p2, p3, p4, p5, p6, p7⟩ := group_plain xs ys lx.1 lx.2 ly.1 ly.2
    obtain ⟨g1, g2, g3⟩ := groupL_ok lx.2 ly.2 ux uy rx ry
    obtain ⟨s1, s2⟩ := bOk_mk (M := gM3 xs ys xs.length ys.length) (b := 2) (o := 0) (n := 16) (c := 16) (sp := none) (by rw [p7]; rfl) (by omega) g2 g3 (by omega)
    have s3 : bRow (gM3 xs ys xs.length ys.length) (sl 2 0 none 16 16) = groupL xs ys := by rw [s2]; simp [← g1]
    have run := r35 some sp sp' xs.length c ys.length c' xs ys
    have d1 : decide ((xs.length : Int) < 1) = false := by simp; omega
    have d2 : decide (4 < (xs.length : Int)) = false := by simp; omega
    have d3 : decide ((ys.length : Int) < 2) = false := by simp; omega
    have d4 : decide (12 < (ys.length : Int)) = false := by simp; omega
    have b1 : Nat.beq (min xs.length 16) 0 = false := by
      cases e : Nat.beq (min xs.length 16) 0
      · rfl
      · have := Nat.eq_of_beq_eq_true e; omega
    have b2 : Nat.beq (min ys.length 12) 0 = false := by
      cases e : Nat.beq (min ys.length 12) 0
      · rfl
      · have := Nat.eq_of_beq_eq_true e; omega
    rw [d1, d2, d3, d4, p3, p1, p5, p2, p4, p6, s1, s3, p7] at run
    simp only [okR, u8s_one ux, u8s_one uy, b1, b2] at run
    obtain ⟨q1, q2, q3⟩ := groupRow_ok lx.2 ly.2 ux uy rx ry
    exact loc_told hv (run_told evFitsN okC8 (no_loops (by kernel_rfl)) (wall := 2) run) (hand_row2 (b := 3) (by simp) rfl q1 (u8s_flat q2)) wall
end Go.Proofs.Yteeclgeoconekaa
