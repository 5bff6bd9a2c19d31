/-
  What append leaves of a slice without room; plain.
-/
import Derived.Test.YteeclgeoconekaaP4
namespace Go.Proofs.Yteeclgeoconekaa
open Go.Ev

/-- What grows, by numbers. -/
def growN (M : Mem) (wall : Nat) (e sz byt : Nat) (s : Value) (n : Nat) (news : List Value) : Br (Value × Mem) :=
  .nd (isNilS s)
    (.nd (Nat.beq (lenOf s) 0 && Nat.beq (capOf s) 0)
      (.nd (Nat.beq n 0) (.lf true (.slice none 0 0, M))
        (.lf (Nat.ble (n * byt) 140737488355328 && Nat.ble n 4611686018427387904) (.slice (some ⟨M.length, 0, some sz⟩) n n, M ++ [⟨news, e, true⟩]))) (.lf false (undef, M)))
    (.nd (isSl s)
      (.nd (Nat.ble (lenOf s + n) (capOf s))
        (.nd (putG M wall (addrOf s).block ((addrOf s).off + lenOf s * sz) news.length) (.lf true (.slice (some (addrOf s)) (lenOf s + n) (capOf s), setBlk M (addrOf s).block (putC M (addrOf s).block ((addrOf s).off + lenOf s * sz) news)))
          (.lf (Nat.beq n 0) (.slice (some (addrOf s)) (lenOf s) (capOf s), M)))
        (.nd (Nat.ble ((lenOf s + n) * byt) 140737488355328 && Nat.ble (lenOf s + n) 4611686018427387904 && rowG M (addrOf s).block (addrOf s).off (lenOf s * sz))
          (match (addrOf s).spot with
            | none => .lf true (.slice (some ⟨M.length, 0, some sz⟩) (lenOf s + n) (lenOf s + n), M ++ [⟨rowC M (addrOf s).block (addrOf s).off (lenOf s * sz) ++ news, e, true⟩])
            | some z => .lf (Nat.beq z sz && Nat.ble wall (addrOf s).block && Nat.beq (M.blk (addrOf s).block).elem e)
                (.slice (some ⟨M.length, 0, some sz⟩) (lenOf s + n) (lenOf s + n), M.kill (addrOf s).block ++ [⟨rowC M (addrOf s).block (addrOf s).off (lenOf s * sz) ++ news, e, true⟩]))
          (.lf false (undef, M))))
      (.lf false (undef, M)))

theorem growN_nil {M : Mem} {wall e sz byt n : Nat} {news : List Value} (hn : 0 < n) (hb : n * byt ≤ 140737488355328) (hb2 : n ≤ 4611686018427387904) :
    (growN M wall e sz byt (Value.slice none 0 0) n news).val = some (Value.slice (some ⟨M.length, 0, some sz⟩) n n, M ++ [⟨news, e, true⟩]) := by
  have h1 : Nat.beq n 0 = false := by
    cases h : Nat.beq n 0
    · rfl
    · have := Nat.eq_of_beq_eq_true h; omega
  have h2 : Nat.ble (n * byt) 140737488355328 = true := Nat.ble_eq_true_of_le hb
  have h3 : Nat.ble n 4611686018427387904 = true := Nat.ble_eq_true_of_le hb2
  show (Br.nd true (.nd true (.nd (Nat.beq n 0) _ _) _) _).val = _
  simp only [Br.val, cond_true, h1, cond_false, h2, h3, Bool.and_self]

/-- The memory behind what has grown out of a block. -/
def left (sp : Option Nat) (b : Nat) (M : Mem) : Mem := match sp with | none => M | some _ => M.kill b
theorem left_len (sp : Option Nat) (b : Nat) (M : Mem) : (left sp b M).length = M.length := by
  cases sp
  · rfl
  · simp [left, Mem.kill]
theorem left_get {sp : Option Nat} {b : Nat} {M : Mem} {j : Nat} (h : j ≠ b) : (left sp b M)[j]? = M[j]? := by
  cases sp
  · rfl
  · simp only [left, Mem.kill]
    rw [List.getElem?_set_ne (fun x => h x.symm)]

theorem growN_sl {M : Mem} {wall e sz byt n L b : Nat} {sp : Option Nat} {cells news : List Value} (hblk : M.blk b = ⟨cells, e, true⟩) (hc : cells.length = L * sz) (hsp : sp = none ∨ sp = some sz) (hw : wall ≤ b) (hn : 0 < n)
    (hb : (L + n) * byt ≤ 140737488355328) (hb2 : L + n ≤ 4611686018427387904) :
    (growN M wall e sz byt (Value.slice (some ⟨b, 0, sp⟩) L L) n news).val = some (Value.slice (some ⟨M.length, 0, some sz⟩) (L + n) (L + n), left sp b M ++ [⟨cells ++ news, e, true⟩]) := by
  have h1 : Nat.ble (L + n) L = false := by
    cases h : Nat.ble (L + n) L
    · rfl
    · have := Nat.le_of_ble_eq_true h; omega
  have h2 : Nat.ble ((L + n) * byt) 140737488355328 = true := Nat.ble_eq_true_of_le hb
  have h3 : Nat.ble (L + n) 4611686018427387904 = true := Nat.ble_eq_true_of_le hb2
  have h4 : rowG M b 0 (L * sz) = true := by
    simp only [rowG, hblk, Bool.true_and]
    exact Nat.ble_eq_true_of_le (by omega)
  have h5 : rowC M b 0 (L * sz) = cells := by
    simp only [rowC, hblk]
    simp [← hc]
  have h6 : Nat.ble wall b = true := Nat.ble_eq_true_of_le hw
  show (Br.nd false _ (.nd true (.nd (Nat.ble (L + n) L) _ (.nd (Nat.ble ((L + n) * byt) 140737488355328 && Nat.ble (L + n) 4611686018427387904 && rowG M b 0 (L * sz)) (match sp with
            | none => .lf true (Value.slice (some ⟨M.length, 0, some sz⟩) (L + n) (L + n), M ++ [⟨rowC M b 0 (L * sz) ++ news, e, true⟩])
            | some z => .lf (Nat.beq z sz && Nat.ble wall b && Nat.beq (M.blk b).elem e)
                (Value.slice (some ⟨M.length, 0, some sz⟩) (L + n) (L + n), M.kill b ++ [⟨rowC M b 0 (L * sz) ++ news, e, true⟩])) _)) _)).val = _
  simp only [Br.val, cond_true, cond_false, h1, h2, h3, h4, Bool.and_self]
  rcases hsp with rfl | rfl
  · simp only [Br.val, cond_true, h5, left]
  · simp only [Br.val, h5, h6, hblk, Nat.beq_refl, Bool.and_self, cond_true, left]
theorem growN_zero {M : Mem} {wall e sz byt L b : Nat} {sp : Option Nat} {cells : List Value} (hblk : M.blk b = ⟨cells, e, true⟩) :
    (growN M wall e sz byt (Value.slice (some ⟨b, 0, sp⟩) L L) 0 []).val = some (Value.slice (some ⟨b, 0, sp⟩) L L, M) := by
  have h1 : Nat.ble (L + 0) L = true := Nat.ble_eq_true_of_le (by omega)
  have h2 : setBlk M b (putC M b (0 + L * sz) []) = M := by
    have : putC M b (0 + L * sz) [] = (M.blk b).cells := by simp [putC]
    rw [this]
    exact setBlk_same (by rw [hblk])
  show (Br.nd false _ (.nd true (.nd (Nat.ble (L + 0) L) (.nd (putG M wall b (0 + L * sz) 0) (.lf true (Value.slice (some ⟨b, 0, sp⟩) (L + 0) L, setBlk M b (putC M b (0 + L * sz) []))) (.lf (Nat.beq 0 0) (Value.slice (some ⟨b, 0, sp⟩) L L, M))) _) _)).val = _
  simp only [Br.val, cond_true, cond_false, h1, h2]
  cases putG M wall b (0 + L * sz) 0
  · rfl
  · rfl

/-- The source of an append: a slice, of elements of so many cells. -/
def srcN (M : Mem) (sz : Nat) (x : Value) : Br (Nat × List Value) :=
  .nd (isNilS x) (.lf (Nat.beq (lenOf x) 0) (0, [])) (.lf (isSl x && rowG M (addrOf x).block (addrOf x).off (lenOf x * sz)) (lenOf x, rowC M (addrOf x).block (addrOf x).off (lenOf x * sz)))
def appN (M : Mem) (wall e sz byt : Nat) (s : Value) (src : Br (Nat × List Value)) : Br (Value × Mem) :=
  .nd true (src.bind (fun p => .nd (p.2.all Value.oneCell' && (!(Nat.beq p.1 0) || p.2.isEmpty)) (growN M wall e sz byt s p.1 p.2) (.lf false (undef, M))) (undef, M)) (.lf false (undef, M))
theorem bind_to {α β : Type} {f : α → Br β} {d : β} {x : α} {y : β} : ∀ {t : Br α}, t.val = some x → (f x).val = some y → (t.bind f d).val = some y := by
  intro t
  induction t with
  | lf g z =>
    intro h1 h2
    obtain ⟨rfl, rfl⟩ := lf_val h1
    show (Br.nd true (f z) (.lf false d)).val = some y
    simpa only [Br.val, cond_true] using h2
  | nd c a b iha ihb =>
    intro h1 h2
    cases c
    · exact ihb h1 h2
    · exact iha h1 h2
theorem appN_val {M : Mem} {wall e sz byt n : Nat} {s : Value} {src : Br (Nat × List Value)} {news : List Value} {R : Value × Mem} (h1 : src.val = some (n, news)) (h2 : news.all Value.oneCell' = true) (h3 : n = 0 → news = []) (h4 : (growN M wall e sz byt s n news).val = some R) :
    (appN M wall e sz byt s src).val = some R := by
  refine bind_to h1 ?_
  have : (!(Nat.beq n 0) || news.isEmpty) = true := by
    cases h : Nat.beq n 0
    · rfl
    · rw [h3 (Nat.eq_of_beq_eq_true h)]; rfl
  show (Br.nd _ _ _).val = _
  simp only [h2, this, Br.val, cond_true, Bool.and_self]
  exact h4

/-! ### bytes -/
theorem app35 (M : Mem) (wall : Nat) (s x : Value) : appendB Try.prog M wall [35, 35] s x = appN M wall 5 1 1 s (srcN M 1 x) := by kernel_rfl
theorem src_row {M : Mem} {x : Value} (h : bOk M x = true) : (srcN M 1 x).val = some ((bRow M x).length, bRow M x) := by
  have hl := bOk_len h
  obtain ⟨a, n, c, k, rfl, h1, h2, h3, h4, h5, h6, h7, h8⟩ := bOk_inv h
  have e : bRow M (Value.slice (some a) n c) = rowC M a.block a.off n := rfl
  have g : rowG M a.block a.off (n * 1) = true := by
    simp only [bOk, Bool.and_eq_true] at h
    rw [Nat.mul_one]
    exact h.2.1
  have hl' : n = (bRow M (Value.slice (some a) n c)).length := hl
  show (Br.nd false _ (.lf (true && rowG M a.block a.off (n * 1)) (n, rowC M a.block a.off (n * 1)))).val = _
  rw [g, Nat.mul_one, ← e, ← hl']
  rfl

/-- Bytes that were laid one behind the other: a slice without room. -/
def Grn (M : Mem) (wall : Nat) (s : Value) (l : List Value) : Prop := ∃ b sp, s = sl b 0 sp l.length l.length ∧ M.blk b = ⟨l, 5, true⟩ ∧ wall ≤ b ∧ (sp = none ∨ sp = some 1)
theorem blk_last (M : Mem) (k : Blk) : (M ++ [k]).blk M.length = k := by simp [Mem.blk]
theorem Grn.app {M : Mem} {wall : Nat} {s x : Value} {l : List Value} (h : Grn M wall s l) (hw : wall ≤ M.length) (hx : bOk M x = true) (hb : l.length + (bRow M x).length ≤ 1000) :
    ∃ s' M', (appendB Try.prog M wall [35, 35] s x).val = some (s', M') ∧ Grn M' wall s' (l ++ bRow M x) ∧ (∀ j, j < wall → M'[j]? = M[j]?) ∧ wall ≤ M'.length ∧ (bRow M x ≠ [] → ∃ b, s' = sl b 0 (some 1) (l ++ bRow M x).length (l ++ bRow M x).length) := by
  obtain ⟨b, sp, rfl, hblk, hwb, hsp⟩ := h
  rw [app35]
  have hu := u8s_one (bOk_u8 hx)
  by_cases hz : bRow M x = []
  · refine ⟨_, _, appN_val (src_row hx) hu (fun _ => hz) (by rw [hz]; exact growN_zero hblk), ?_, fun _ _ => rfl, hw, fun h => absurd hz h⟩
    rw [hz, List.append_nil]
    exact ⟨b, sp, rfl, hblk, hwb, hsp⟩
  · have hn : 0 < (bRow M x).length := List.length_pos_iff.2 hz
    have hl : (l ++ bRow M x).length = l.length + (bRow M x).length := List.length_append
    refine ⟨_, _, appN_val (src_row hx) hu (fun e => by omega) (growN_sl hblk (by omega) hsp hwb hn (by omega) (by omega)), ?_, ?_, ?_, fun _ => ⟨M.length, by rw [hl]⟩⟩
    · refine ⟨M.length, some 1, by rw [hl], ?_, hw, .inr rfl⟩
      rw [← left_len sp b M]
      exact blk_last _ _
    · intro j hj
      rw [List.getElem?_append_left (by rw [left_len]; omega), left_get (by omega)]
    · rw [List.length_append, left_len]; omega
end Go.Proofs.Yteeclgeoconekaa


/-
  The document's Seal (ref2.Seal), run over any row; told in any memory.
-/
namespace Go.Proofs.Yteeclgeoconekaa
open Go.Ev

def srcI (n : Int) : Br (Nat × List Value) := .lf (decide (0 ≤ n) && (decide (n * ((1 : Nat) : Int) ≤ 281474976710656) && (decide (n ≤ 9223372036854775807) && true))) (n.toNat, zeros [Z8] n.toNat)
theorem app35i (M : Mem) (wall : Nat) (s : Value) (n : Int) : appendB Try.prog M wall [35, 3] s (I n) = appN M wall 5 1 1 s (srcI n) := by kernel_rfl

noncomputable abbrev apB (M : Mem) (w : Nat) (s x : Value) (κ : Value × Mem → Ret) : Ret := apK (appendB Try.prog M w [35, 35] s x) κ
noncomputable abbrev apI (M : Mem) (w : Nat) (s : Value) (n : Int) (κ : Value × Mem → Ret) : Ret := apK (appendB Try.prog M w [35, 3] s (I n)) κ
abbrev kM1 (k : Int) (cs : List Value) : Mem := [⟨cs, 5, true⟩, ⟨[U8 k], 5, true⟩]
theorem r63 (κ : Value × Mem → Ret) (k : Int) (sp : Option Nat) (n c : Nat) (cs : List Value) : bn C12 noB 63 [U8 k, sl 0 0 sp n c] [⟨cs, 5, true⟩] 1 κ =
    cond (k == 0) (κ (.tuple #[nilS, I 2], [⟨cs, 5, true⟩])) (cond (decide (123 < (n : Int))) (κ (.tuple #[nilS, I 2], [⟨cs, 5, true⟩]))
      (apB (kM1 k cs) 1 (sl 1 0 none 1 1) (sl 0 0 sp n c) fun p => apI p.2 1 p.1 (wr (123 - (n : Int))) fun p2 =>
        cond (bOk p2.2 p2.1) (apB (p2.2 ++ [⟨sumB4 (sumF (bRow p2.2 p2.1)), 5, true⟩]) 1 p2.1 (sl p2.2.length 0 none 4 4) fun p3 => κ (.tuple #[p3.1, I 0], p3.2)) none)) := by kernel_rfl

/-! ### plain -/
theorem Grn.blk {M : Mem} {wall : Nat} {s : Value} {l : List Value} (h : Grn M wall s l) (k : Blk) : Grn (M ++ [k]) wall s l := by
  obtain ⟨b, sp, rfl, hblk, hwb, hsp⟩ := h
  refine ⟨b, sp, rfl, ?_, hwb, hsp⟩
  have := blk_live (M := M) (b := b) (by rw [hblk])
  unfold Mem.blk
  rw [List.getElem?_append_left (lt_of_getElem? this), this, hblk]
  rfl
theorem Grn.ok {M : Mem} {wall : Nat} {s : Value} {l : List Value} (h : Grn M wall s l) (hu : u8s l = true) (hr : u8r l = true) (hb : l.length ≤ 1000) : bOk M s = true ∧ bRow M s = l := by
  obtain ⟨b, sp, rfl, hblk, hwb, hsp⟩ := h
  obtain ⟨s1, s2⟩ := bOk_mk (M := M) (b := b) (o := 0) (n := l.length) (c := l.length) (sp := sp) hblk (by omega) hu hr (by omega)
  exact ⟨s1, by rw [s2]; simp⟩
theorem Grn.appI {M : Mem} {wall : Nat} {s : Value} {l : List Value} (h : Grn M wall s l) (hw : wall ≤ M.length) (n : Nat) (hb : l.length + n ≤ 1000) :
    ∃ s' M', (appendB Try.prog M wall [35, 3] s (I n)).val = some (s', M') ∧ Grn M' wall s' (l ++ List.replicate n Z8) ∧ (∀ j, j < wall → M'[j]? = M[j]?) ∧ wall ≤ M'.length := by
  obtain ⟨b, sp, rfl, hblk, hwb, hsp⟩ := h
  rw [app35i]
  have hsrc : (srcI n).val = some (n, List.replicate n Z8) := by
    have d1 : decide ((0 : Int) ≤ (n : Int)) = true := decide_eq_true (by omega)
    have d2 : decide ((n : Int) * ((1 : Nat) : Int) ≤ 281474976710656) = true := decide_eq_true (by omega)
    have d3 : decide ((n : Int) ≤ 9223372036854775807) = true := decide_eq_true (by omega)
    simp only [srcI, d1, d2, d3, Br.val, Bool.and_self, cond_true, Int.toNat_natCast, zeros]
  have hu : (List.replicate n Z8).all Value.oneCell' = true := u8s_one u8s_rep
  by_cases hz : n = 0
  · subst hz
    refine ⟨_, _, appN_val hsrc hu (fun _ => rfl) (growN_zero hblk), ?_, fun _ _ => rfl, hw⟩
    rw [List.replicate_zero, List.append_nil]
    exact ⟨b, sp, rfl, hblk, hwb, hsp⟩
  · have hl : (l ++ List.replicate n Z8).length = l.length + n := by simp
    refine ⟨_, _, appN_val hsrc hu (fun e => by omega) (growN_sl hblk (by omega) hsp hwb (by omega) (by omega) (by omega)), ?_, ?_, ?_⟩
    · refine ⟨M.length, some 1, by rw [hl], ?_, hw, .inr rfl⟩
      rw [← left_len sp b M]
      exact blk_last _ _
    · intro j hj
      rw [List.getElem?_append_left (by rw [left_len]; omega), left_get (by omega)]
    · rw [List.length_append, left_len]; omega

theorem ref_seal (k : Int) (sp : Option Nat) (c : Nat) (cs : List Value) (hk0 : (k == 0) = false) (hk : 0 ≤ k ∧ k < 256) (hn : cs.length ≤ 123) (hu : u8s cs = true) (hr : u8r cs = true) :
    ∃ b M', bn C12 noB 63 [U8 k, sl 0 0 sp cs.length c] [⟨cs, 5, true⟩] 1 some = some (.tuple #[sl b 0 (some 1) 128 128, I 0], M') ∧ M'[b]? = some ⟨sealRow k cs, 5, true⟩ ∧ 1 ≤ b := by
  rw [r63, hk0]
  have h1 : decide (123 < (cs.length : Int)) = false := decide_eq_false (by omega)
  rw [h1]
  simp only [cond_false]
  have g0 : Grn (kM1 k cs) 1 (sl 1 0 none 1 1) [U8 k] := ⟨1, none, rfl, rfl, Nat.le_refl _, .inl rfl⟩
  obtain ⟨x1, x2⟩ := bOk_mk (M := kM1 k cs) (b := 0) (o := 0) (n := cs.length) (c := c) (sp := sp) rfl (by omega) hu hr (by omega)
  have x3 : bRow (kM1 k cs) (sl 0 0 sp cs.length c) = cs := by rw [x2]; simp
  obtain ⟨s1, M1, e1, g1, f1, w1, _⟩ := g0.app (by simp) x1 (by rw [x3]; simp; omega)
  rw [x3] at g1
  have hw : wr (123 - (cs.length : Int)) = ((123 - cs.length : Nat) : Int) := by rw [wr_id (by omega) (by omega)]; omega
  obtain ⟨s2, M2, e2, g2, f2, w2⟩ := g1.appI w1 (123 - cs.length) (by simp; omega)
  have l2 : [U8 k] ++ cs ++ List.replicate (123 - cs.length) Z8 = U8 k :: (cs ++ List.replicate (123 - cs.length) Z8) := by simp
  rw [l2] at g2
  have u2 : u8s (U8 k :: (cs ++ List.replicate (123 - cs.length) Z8)) = true := by simp [u8s_cons, u8s_append, u8s_rep, hu, isInt]
  have q2 : u8r (U8 k :: (cs ++ List.replicate (123 - cs.length) Z8)) = true := by simp [u8r_cons, u8r_append, u8r_rep, hr, intOf, hk]
  have n2 : (U8 k :: (cs ++ List.replicate (123 - cs.length) Z8)).length = 124 := by simp; omega
  obtain ⟨o2, b2⟩ := g2.ok u2 q2 (by omega)
  have g3 := g2.blk ⟨sumB4 (sumF (U8 k :: (cs ++ List.replicate (123 - cs.length) Z8))), 5, true⟩
  obtain ⟨y1, y2⟩ := bOk_mk (M := M2 ++ [⟨sumB4 (sumF (U8 k :: (cs ++ List.replicate (123 - cs.length) Z8))), 5, true⟩]) (b := M2.length) (o := 0) (n := 4) (c := 4) (sp := none) (blk_last _ _) (by simp [sumB4]) (u8s_sum _) (u8r_sum _) (by omega)
  have y3 : bRow (M2 ++ [⟨sumB4 (sumF (U8 k :: (cs ++ List.replicate (123 - cs.length) Z8))), 5, true⟩]) (sl M2.length 0 none 4 4) = sumB4 (sumF (U8 k :: (cs ++ List.replicate (123 - cs.length) Z8))) := by rw [y2]; rfl
  obtain ⟨s3, M3, e3, g4, f3, w3, p3⟩ := g3.app (by rw [List.length_append]; omega) y1 (by rw [y3, n2]; simp [sumB4])
  rw [y3] at g4 p3
  have hs : (U8 k :: (cs ++ List.replicate (123 - cs.length) Z8)) ++ sumB4 (sumF (U8 k :: (cs ++ List.replicate (123 - cs.length) Z8))) = sealRow k cs := rfl
  rw [hs] at g4 p3
  obtain ⟨b, hb⟩ := p3 (by simp [sumB4])
  subst hb
  rw [sealRow_len hn] at g4 e3
  obtain ⟨b', sp', h5, h6, h7, _⟩ := g4
  simp only [Value.slice.injEq, Option.some.injEq, Addr.mk.injEq] at h5
  obtain ⟨⟨rfl, _, _⟩, _, _⟩ := h5
  refine ⟨b, M3, ?_, ?_, h7⟩
  · simp only [apB, apI, hw, apK_val e1, apK_val e2, o2, b2, cond_true, apK_val e3]
  · have := blk_live (M := M3) (b := b) (by rw [h6])
    rw [this, h6]

/-! ### told -/
def rsealTree : Tree := fun args M _ => match args with
  | [.int .u8 k, x] => .lf (bOk M x && (!(k == 0) && (decide (lenOf x ≤ 123) && (decide (0 ≤ k) && decide (k < 256))))) (.tuple #[.slice (some ⟨M.length, 0, some 1⟩) 128 128, I 0], M ++ [⟨sealRow k (bRow M x), 5, true⟩])
  | _ => .lf false (undef, M)
theorem rsealTree_inv {args : List Value} {M : Mem} {wall : Nat} {R : Value × Mem} (h : (rsealTree args M wall).val = some R) : ∃ k x, args = [U8 k, x] ∧ bOk M x = true ∧ (k == 0) = false ∧ lenOf x ≤ 123 ∧ (0 ≤ k ∧ k < 256) ∧
    R = (.tuple #[.slice (some ⟨M.length, 0, some 1⟩) 128 128, I 0], M ++ [⟨sealRow k (bRow M x), 5, true⟩]) := by
  unfold rsealTree at h
  split at h
  · rename_i k x
    obtain ⟨h1, rfl⟩ := lf_val h
    simp only [Bool.and_eq_true, decide_eq_true_eq, Bool.not_eq_true'] at h1
    exact ⟨k, x, rfl, h1.1, h1.2.1, h1.2.2.1, h1.2.2.2, rfl⟩
  · cases h
theorem tell63 : TellOk Try.prog EvN.q 63 (bodyT rsealTree) := by
  refine tellT (fun _ args M v M' h => ?_) (fun args M wall R h => ?_)
  · obtain ⟨k, x, rfl, hx, hk, hl, hk8, e⟩ := rsealTree_inv h
    cases e
    have := bOk_len hx
    exact trim_rowg2 (sealRow_len (by omega)) (u8s_flat (sealRow_u8 (bOk_u8 hx)))
  · obtain ⟨k, x, rfl, hx, hk, hl, hk8, rfl⟩ := rsealTree_inv h
    obtain ⟨a, n, c, hxe, hn, hv⟩ := view_row hx 0
    have hlen := bOk_len hx
    have hu := bOk_u8 hx
    have hr8 := bOk_r hx
    have hview : view Try.prog M [U8 k, x] 0 = some ([U8 k, .slice (some ⟨0, 0, a.spot⟩) n c], [⟨bRow M x, 5, true⟩]) := by
      have h0 : view1 Try.prog M 0 (U8 k) = some (U8 k, []) := rfl
      simp only [view, h0, Option.bind_some, List.length_nil, Nat.add_zero, hv, List.nil_append, List.append_nil]
    generalize bRow M x = cs at *
    have hn2 : cs.length ≤ 123 := by omega
    obtain ⟨b, M1, run, hb, hb1⟩ := ref_seal k a.spot c cs hk hk8 hn2 hu hr8
    subst hn
    exact loc_told hview (run_told evFitsN (A := EvN) okC12 (no_loops (by kernel_rfl)) (wall := 1) run) (hand_rowg2 (by exact hb1) hb (sealRow_len hn2) (u8s_flat (sealRow_u8 hu))) wall
noncomputable abbrev D1 : CallC := moreC 63 (bodyT rsealTree) C12
theorem okD1 : OkC Try.prog EvN.q D1 := ok_moreC okC12 tell63
end Go.Proofs.Yteeclgeoconekaa
