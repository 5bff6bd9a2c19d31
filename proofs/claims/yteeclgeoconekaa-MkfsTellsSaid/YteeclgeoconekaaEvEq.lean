/-
  Structs and arrays of integers, bools and strings are compared cell by cell.
-/
import Derived.Test.YteeclgeoconekaaEvPure
import Derived.ChangeKeysEq
namespace Go.Ev
variable {P : Program}

def kindsOf (K : TypeId → Option (List CK)) (P : Program) : List Field → Nat → Option (List CK)
  | [], _ => some []
  | f :: fs, off => cond (f.name != "_" && Nat.beq f.offset off) ((K f.type).bind fun ks => cond (Nat.beq (P.cellsOf f.type) ks.length) ((kindsOf K P fs (off + ks.length)).bind fun rest => some (ks ++ rest)) none) none

/-- The kinds of a type's cells, in order. -/
def eqKinds (P : Program) : Nat → TypeId → Option (List CK)
  | 0, _ => none
  | d + 1, t =>
    match P.underlying t with
    | some .bool => some [.bool]
    | some (.int k) => some [.int k]
    | some .string => some [.str]
    | some (.struct fs) => cond (P.stoodInHeld t) none (kindsOf (eqKinds P d) P fs.toList 0)
    | some (.array n e) => (eqKinds P d e).bind fun ks => cond (Nat.beq (P.cellsOf e) ks.length && (P.info? e).isSome) (some (List.replicate n ks).flatten) none
    | _ => none

/-- A value of a type, out of its cells. -/
def valOf (P : Program) (t : TypeId) (xs : List Value) : Value := match tyAgg P t with | some true => .agg xs.toArray | _ => xs.getD 0 undef

theorem fits_length : ∀ {ks : List CK} {xs : List Value}, fitsAll ks xs = true → xs.length = ks.length := by
  intro ks
  induction ks with
  | nil => intro xs h; cases xs <;> simp [fitsAll] at h ⊢
  | cons k ks ih => intro xs h; cases xs with
    | nil => simp [fitsAll] at h
    | cons x xs => simp only [fitsAll, Bool.and_eq_true] at h; simp [ih h.2]

theorem fits_append : ∀ {ks ls : List CK} {xs : List Value}, fitsAll (ks ++ ls) xs = true → fitsAll ks (xs.take ks.length) = true ∧ fitsAll ls (xs.drop ks.length) = true := by
  intro ks
  induction ks with
  | nil => intro ls xs h; exact ⟨rfl, h⟩
  | cons k ks ih => intro ls xs h; cases xs with
    | nil => simp [fitsAll] at h
    | cons x xs =>
      simp only [List.cons_append, fitsAll, Bool.and_eq_true] at h
      obtain ⟨h1, h2⟩ := ih h.2
      simp [fitsAll, h.1, h1, h2]

theorem eqCells_append : ∀ {a a' b b' : List Value} {x y : Bool}, a.length = a'.length → eqCells a a' = some x → eqCells b b' = some y → eqCells (a ++ b) (a' ++ b') = some (x && y) := by
  intro a
  induction a with
  | nil => intro a' b b' x y hl h h'; cases a' with
    | nil => simp [eqCells] at h; subst h; simpa using h'
    | cons => simp at hl
  | cons u a ih => intro a' b b' x y hl h h'; cases a' with
    | nil => simp at hl
    | cons v a' =>
      simp only [eqCells, Option.bind_eq_some_iff, Option.some.injEq] at h
      obtain ⟨e, h1, es, h2, rfl⟩ := h
      have := ih (by simpa using hl) h2 h'
      simp [eqCells, h1, this, Bool.and_assoc]

theorem eqCells_fits : ∀ {ks : List CK} {xs ys : List Value}, fitsAll ks xs = true → fitsAll ks ys = true → ∃ b, eqCells xs ys = some b := by
  intro ks
  induction ks with
  | nil => intro xs ys h h'; cases xs with
    | cons => simp [fitsAll] at h
    | nil => cases ys with
      | cons => simp [fitsAll] at h'
      | nil => exact ⟨true, rfl⟩
  | cons k ks ih => intro xs ys h h'; cases xs with
    | nil => simp [fitsAll] at h
    | cons x xs => cases ys with
      | nil => simp [fitsAll] at h'
      | cons y ys =>
        simp only [fitsAll, Bool.and_eq_true] at h h'
        obtain ⟨b, hb⟩ := ih h.2 h'.2
        have : ∃ e, eqCell x y = some e := by
          cases k <;> cases x <;> simp [CK.fits] at h <;> cases y <;> simp [CK.fits] at h' <;> simp [eqCell, *]
          rw [← h.1, ← h'.1]
        obtain ⟨e, he⟩ := this
        exact ⟨e && b, by simp [eqCells, he, hb]⟩

/-- Comparison at a type whose cells have these kinds. -/
def EqAtK (P : Program) (d : Nat) (t : TypeId) (ks : List CK) : Prop := ∀ (xs ys : List Value) (b : Bool) (w : World), fitsAll ks xs = true → fitsAll ks ys = true → eqCells xs ys = some b →
  (Op.equalIn d t (valOf P t xs) (valOf P t ys)).run P w = .ok b w

theorem run_part_valOf {t : TypeId} {xs : List Value} {off n : Nat} (hn : P.cellsOf t = n) (hs : (tyAgg P t).isSome = true) (hfit : off + n ≤ xs.length) (h1 : tyAgg P t = some false → n = 1) (w : World) (hi : (P.info? t).isSome = true) :
    (part t xs.toArray off).run P w = .ok (valOf P t ((xs.drop off).take n)) w := by
  cases ht : tyAgg P t with
  | none => rw [ht] at hs; cases hs
  | some b =>
    cases hinf : P.info? t with
    | none => rw [hinf] at hi; cases hi
    | some i =>
      have hsz : i.size = n := by rw [← hn]; simp [Program.cellsOf, hinf]
      cases b
      · have := h1 ht
        subst this
        have hlt : off < xs.length := by omega
        have : ((xs.drop off).take 1).getD 0 undef = xs[off] := by
          simp [List.getD_eq_getElem?_getD, List.getElem?_take, List.getElem?_drop, hlt]
        simp [part, tyAgg_run ht, valOf, ht, this, hlt]
      · simp [part, tyAgg_run ht, valOf, ht, run_sizeOf' hinf, hsz, List.extract_eq_take_drop]

theorem eqKinds_some {d : Nat} {t : TypeId} {ks : List CK} (h : eqKinds P d t = some ks) : (tyAgg P t).isSome = true ∧ (P.info? t).isSome = true ∧ (tyAgg P t = some false → ks.length = 1) := by
  cases d with
  | zero => simp [eqKinds] at h
  | succ d =>
    have hinf : ∀ dd, P.underlying t = some dd → (P.info? t).isSome = true := by
      intro dd hu
      unfold Program.underlying at hu
      cases hi : P.info? t with
      | none => rw [hi] at hu; cases hu
      | some i => rfl
    simp only [eqKinds] at h
    split at h
    · rename_i hu; cases h; exact ⟨by simp [tyAgg, hu], hinf _ hu, fun _ => rfl⟩
    · rename_i hu; cases h; exact ⟨by simp [tyAgg, hu], hinf _ hu, fun _ => rfl⟩
    · rename_i hu; cases h; exact ⟨by simp [tyAgg, hu], hinf _ hu, fun _ => rfl⟩
    · rename_i hu; exact ⟨by simp [tyAgg, hu], hinf _ hu, fun e => by simp [tyAgg, hu] at e⟩
    · rename_i hu; exact ⟨by simp [tyAgg, hu], hinf _ hu, fun e => by simp [tyAgg, hu] at e⟩
    · cases h

theorem eqFields_run {d D : Nat} (ih : ∀ t ks, eqKinds P d t = some ks → EqAtK P (D + d) t ks) (xs ys : List Value) : ∀ (fs : List Field) (off : Nat) (ks : List CK) (b : Bool) (w : World), kindsOf (eqKinds P d) P fs off = some ks →
    off ≤ xs.length → off ≤ ys.length → fitsAll ks (xs.drop off) = true → fitsAll ks (ys.drop off) = true → eqCells (xs.drop off) (ys.drop off) = some b → (Op.eqFields (D + d) xs.toArray ys.toArray fs).run P w = .ok b w := by
  intro fs
  induction fs with
  | nil =>
    intro off ks b w h h0 h0' hx hy he
    simp only [kindsOf, Option.some.injEq] at h
    subst h
    have e1 : xs.drop off = [] := List.eq_nil_of_length_eq_zero (by have := fits_length hx; simpa only [List.length_nil] using this)
    have e2 : ys.drop off = [] := List.eq_nil_of_length_eq_zero (by have := fits_length hy; simpa only [List.length_nil] using this)
    rw [e1, e2] at he
    simp only [eqCells, Option.some.injEq] at he
    subst he
    simp [Op.eqFields]
  | cons f fs ihf =>
    intro off ks b w h h0 h0' hx hy he
    simp only [kindsOf] at h
    cases hb : (f.name != "_" && Nat.beq f.offset off)
    · rw [hb] at h; cases h
    · rw [hb] at h
      simp only [cond_true, Option.bind_eq_some_iff] at h
      obtain ⟨k1, hk1, h⟩ := h
      cases hb2 : Nat.beq (P.cellsOf f.type) k1.length
      · rw [hb2] at h; cases h
      · rw [hb2] at h
        simp only [cond_true, Option.bind_eq_some_iff, Option.some.injEq] at h
        obtain ⟨k2, hk2, rfl⟩ := h
        simp only [Bool.and_eq_true, bne_iff_ne, ne_eq, Nat.beq_eq] at hb hb2
        obtain ⟨hx1, hx2⟩ := fits_append hx
        obtain ⟨hy1, hy2⟩ := fits_append hy
        rw [List.drop_drop] at hx2 hy2
        have lx := fits_length hx
        have ly := fits_length hy
        simp only [List.length_drop, List.length_append] at lx ly
        obtain ⟨b1, hb1⟩ := eqCells_fits hx1 hy1
        obtain ⟨b2, hb2'⟩ := eqCells_fits hx2 hy2
        have hcat : eqCells (xs.drop off) (ys.drop off) = some (b1 && b2) := by
          have e1 : xs.drop off = (xs.drop off).take k1.length ++ xs.drop (off + k1.length) := by rw [← List.drop_drop, List.take_append_drop]
          have e2 : ys.drop off = (ys.drop off).take k1.length ++ ys.drop (off + k1.length) := by rw [← List.drop_drop, List.take_append_drop]
          rw [e1, e2]
          exact eqCells_append (by simp; omega) hb1 hb2'
        rw [he] at hcat
        cases hcat
        obtain ⟨s1, s2, s3⟩ := eqKinds_some hk1
        have p1 := run_part_valOf (P := P) (t := f.type) (xs := xs) (off := off) hb2 s1 (by omega) s3 w s2
        have p2 := run_part_valOf (P := P) (t := f.type) (xs := ys) (off := off) hb2 s1 (by omega) s3 w s2
        have q1 := ih f.type k1 hk1 _ _ b1 w hx1 hy1 hb1
        have q2 := ihf (off + k1.length) k2 b2 w hk2 (by omega) (by omega) hx2 hy2 hb2'
        simp only [Op.eqFields, hb.1, ne_eq, not_false_eq_true, if_true, hb.2, Sem.run_bind, p1, p2, q1, Result.andThen_ok]
        cases b1
        · simp
        · simpa using q2

theorem eqItems_run {d D : Nat} {e : TypeId} {ks : List CK} (ih : EqAtK P (D + d) e ks) (hk : eqKinds P d e = some ks) (hc : P.cellsOf e = ks.length) (xs ys : List Value) : ∀ (m i : Nat) (b : Bool) (w : World), 
    i * ks.length ≤ xs.length → i * ks.length ≤ ys.length → fitsAll (List.replicate m ks).flatten (xs.drop (i * ks.length)) = true → fitsAll (List.replicate m ks).flatten (ys.drop (i * ks.length)) = true →
    eqCells (xs.drop (i * ks.length)) (ys.drop (i * ks.length)) = some b → (Op.eqItems (D + d) e (P.cellsOf e) xs.toArray ys.toArray (List.range' i m)).run P w = .ok b w := by
  intro m
  induction m with
  | zero =>
    intro i b w h0 h0' hx hy he
    simp only [List.replicate_zero, List.flatten_nil] at hx hy
    have e1 : xs.drop (i * ks.length) = [] := List.eq_nil_of_length_eq_zero (by have := fits_length hx; simpa only [List.length_nil] using this)
    have e2 : ys.drop (i * ks.length) = [] := List.eq_nil_of_length_eq_zero (by have := fits_length hy; simpa only [List.length_nil] using this)
    rw [e1, e2] at he
    simp only [eqCells, Option.some.injEq] at he
    subst he
    simp [Op.eqItems]
  | succ m ihm =>
    intro i b w h0 h0' hx hy he
    rw [List.replicate_succ, List.flatten_cons] at hx hy
    obtain ⟨hx1, hx2⟩ := fits_append hx
    obtain ⟨hy1, hy2⟩ := fits_append hy
    rw [List.drop_drop] at hx2 hy2
    have hi1 : i * ks.length + ks.length = (i + 1) * ks.length := by rw [Nat.add_mul, Nat.one_mul]
    rw [hi1] at hx2 hy2
    have lx := fits_length hx1
    have ly := fits_length hy1
    simp only [List.length_take, List.length_drop] at lx ly
    obtain ⟨b1, hb1⟩ := eqCells_fits hx1 hy1
    obtain ⟨b2, hb2'⟩ := eqCells_fits hx2 hy2
    have hcat : eqCells (xs.drop (i * ks.length)) (ys.drop (i * ks.length)) = some (b1 && b2) := by
      have e1 : xs.drop (i * ks.length) = (xs.drop (i * ks.length)).take ks.length ++ xs.drop ((i + 1) * ks.length) := by rw [← hi1, ← List.drop_drop, List.take_append_drop]
      have e2 : ys.drop (i * ks.length) = (ys.drop (i * ks.length)).take ks.length ++ ys.drop ((i + 1) * ks.length) := by rw [← hi1, ← List.drop_drop, List.take_append_drop]
      rw [e1, e2]
      exact eqCells_append (by simp; omega) hb1 hb2'
    rw [he] at hcat
    cases hcat
    obtain ⟨s1, s2, s3⟩ := eqKinds_some hk
    have p1 := run_part_valOf (P := P) (t := e) (xs := xs) (off := i * ks.length) hc s1 (by omega) s3 w s2
    have p2 := run_part_valOf (P := P) (t := e) (xs := ys) (off := i * ks.length) hc s1 (by omega) s3 w s2
    have q1 := ih _ _ b1 w hx1 hy1 hb1
    have q2 := ihm (i + 1) b2 w (by omega) (by omega) hx2 hy2 hb2'
    rw [hc] at q2 ⊢
    simp only [List.range'_succ, Op.eqItems, Sem.run_bind, p1, p2, q1, Result.andThen_ok]
    cases b1
    · simp
    · simpa using q2

theorem eqKinds_sound (D : Nat) : ∀ (d : Nat) (t : TypeId) (ks : List CK), eqKinds P d t = some ks → EqAtK P (D + d) t ks := by
  intro d
  induction d with
  | zero => intro t ks h; simp [eqKinds] at h
  | succ d ih =>
    intro t ks h xs ys b w hx hy he
    have scal : ∀ k, ks = [k] → ∃ x y, xs = [x] ∧ ys = [y] ∧ k.fits x = true ∧ k.fits y = true ∧ eqCell x y = some b := by
      rintro k rfl
      match xs, ys, hx, hy, he with
      | [], _, hx, _, _ => simp [fitsAll] at hx
      | _, [], _, hy, _ => simp [fitsAll] at hy
      | _ :: _ :: _, _, hx, _, _ => simp [fitsAll] at hx
      | _, _ :: _ :: _, _, hy, _ => simp [fitsAll] at hy
      | [x], [y], hx, hy, he =>
        simp only [fitsAll, Bool.and_true] at hx hy
        simp only [eqCells, Option.bind_eq_some_iff, Option.some.injEq] at he
        obtain ⟨e, h1, es, h2, rfl⟩ := he
        subst h2
        exact ⟨x, y, rfl, rfl, hx, hy, by simpa using h1⟩
    simp only [eqKinds] at h
    show (Op.equalIn (D + d + 1) t (valOf P t xs) (valOf P t ys)).run P w = .ok b w
    split at h
    · rename_i hu
      cases h
      obtain ⟨x, y, rfl, rfl, fx, fy, hxy⟩ := scal _ rfl
      have hv : ∀ v, valOf P t [v] = v := fun v => by simp [valOf, tyAgg, hu]
      rw [hv, hv]
      cases x <;> simp [CK.fits] at fx
      cases y <;> simp [CK.fits] at fy
      simp only [eqCell, Option.some.injEq] at hxy
      rw [← hxy]
      exact eqIn_bool _ _ _ hu w
    · rename_i k hu
      cases h
      obtain ⟨x, y, rfl, rfl, fx, fy, hxy⟩ := scal _ rfl
      have hv : ∀ v, valOf P t [v] = v := fun v => by simp [valOf, tyAgg, hu]
      rw [hv, hv]
      cases x <;> simp [CK.fits] at fx
      cases y <;> simp [CK.fits] at fy
      subst fx
      subst fy
      simp only [eqCell, if_true, Option.some.injEq] at hxy
      rw [← hxy]
      exact run_equalIn_int w _ t _ _ _ _ hu
    · rename_i hu
      cases h
      obtain ⟨x, y, rfl, rfl, fx, fy, hxy⟩ := scal _ rfl
      have hv : ∀ v, valOf P t [v] = v := fun v => by simp [valOf, tyAgg, hu]
      rw [hv, hv]
      cases x <;> simp [CK.fits] at fx
      cases y <;> simp [CK.fits] at fy
      simp only [eqCell, Option.some.injEq] at hxy
      rw [← hxy]
      exact run_equalIn_string w _ t _ _ hu
    · rename_i fs hu
      cases hst : P.stoodInHeld t
      · rw [hst] at h
        simp only [cond_false] at h
        have hv : ∀ l, valOf P t l = .agg l.toArray := fun l => by simp [valOf, tyAgg, hu]
        rw [hv, hv]
        have hfs : P.underlying t = some (.struct (P.fieldsOf t)) := by simp [Program.fieldsOf, hu]
        rw [run_equalIn_struct w _ t _ _ hfs hst]
        have hfo : P.fieldsOf t = fs := by simp [Program.fieldsOf, hu]
        rw [hfo]
        exact eqFields_run ih xs ys fs.toList 0 ks b w h (Nat.zero_le _) (Nat.zero_le _) (by simpa using hx) (by simpa using hy) (by simpa using he)
      · rw [hst] at h; cases h
    · rename_i n e hu
      simp only [Option.bind_eq_some_iff] at h
      obtain ⟨k1, hk1, h⟩ := h
      cases hb : (Nat.beq (P.cellsOf e) k1.length && (P.info? e).isSome)
      · rw [hb] at h; cases h
      · rw [hb] at h
        cases h
        simp only [Bool.and_eq_true, Nat.beq_eq] at hb
        have hv : ∀ l, valOf P t l = .agg l.toArray := fun l => by simp [valOf, tyAgg, hu]
        rw [hv, hv]
        obtain ⟨i, hi⟩ := Option.isSome_iff_exists.1 hb.2
        rw [run_equalIn_array w _ _ _ hu hi, List.range_eq_range']
        exact eqItems_run (ih e k1 hk1) hk1 hb.1 xs ys n 0 b w (by simp) (by simp) (by simpa using hx) (by simpa using hy) (by simpa using he)
    · cases h

/-- The table of compared types, for a program. -/
theorem eqOk_of {E : TypeId → Option (List CK)} (h : ∀ t ks, E t = some ks → eqKinds P 20 t = some ks ∧ tyAgg P t = some true ∧ P.eqGuardType P.depth t = false) : EqOk P E := by
  intro t ks ht
  obtain ⟨h1, h2, h3⟩ := h t ks ht
  refine ⟨h3, fun xs ys b hx hy he w => ?_⟩
  have := eqKinds_sound (P := P) 9980 20 t ks h1 xs.toList ys.toList b w hx hy he
  have hv : ∀ l : Array Value, valOf P t l.toList = .agg l := fun l => by simp [valOf, h2]
  rw [hv, hv] at this
  exact this

end Go.Ev
