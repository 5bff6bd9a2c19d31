/-
  The evaluator's operations on values, held against the model's.
-/
import Derived.Test.YteeclgeoconekaaEvRel
import Derived.Laws.StructEq
namespace Go.Ev

/-- The struct and array types in E are compared cell by cell. -/
def EqOk (P : Program) (E : TypeId → Option (List CK)) : Prop := ∀ t ks, E t = some ks → P.eqGuardType P.depth t = false ∧
  ∀ xs ys b, fitsAll ks xs.toList = true → fitsAll ks ys.toList = true → eqCells xs.toList ys.toList = some b → ∀ w, (Op.equal t (.agg xs) (.agg ys)).run P w = .ok b w

variable {P : Program} {E : TypeId → Option (List CK)} {φ : Fi}

theorem VR.pnil_inv {v : Value} (h : VR φ (.pointer none) v) : v = .pointer none := h.of_flat1 rfl
theorem VR.ptr_inv {a : Addr} {v : Value} (h : VR φ (.pointer (some a)) v) : ∃ l, a.spot = none ∧ φ a.block = some l ∧ v = .pointer (some ⟨l.blk, l.off + a.off, none⟩) := by
  cases h with
  | scal _ h => cases h
  | ptr b o l h => exact ⟨l, rfl, h, rfl⟩
theorem VR.snil_inv {n c : Nat} {v : Value} (h : VR φ (.slice none n c) v) : v = .slice none n c := h.of_flat1 rfl
theorem VR.slice_inv {a : Addr} {n c : Nat} {v : Value} (h : VR φ (.slice (some a) n c) v) : ∃ l c', φ a.block = some l ∧ v = .slice (some ⟨l.blk, l.off + a.off, none⟩) n c' ∧
    (a.spot = none → c' = c) ∧ (∀ z, a.spot = some z → c ≤ c' ∧ n ≤ c ∧ l.off + a.off + c' * z ≤ l.room) := by
  cases h with
  | scal _ h => cases h
  | sl b o _ _ l h => exact ⟨l, c, h, rfl, (fun _ => rfl), (fun z hz => by cases hz)⟩
  | slg b o z _ _ k' l h hk hn hr => exact ⟨l, k', h, rfl, (fun hz => by cases hz), (fun z' hz => by cases hz; exact ⟨hk, hn, hr⟩)⟩

theorem eqGuard_other (op : BinOp) (h1 : op ≠ .eql) (h2 : op ≠ .neq) (t : TypeId) (x y : Operand) (a b : Value) (w : World) : (eqGuard op t x y a b).run P w = .ok () w := by
  cases op <;> first | exact absurd rfl h1 | exact absurd rfl h2 | simp [eqGuard]

theorem eqGuard_plain (op : BinOp) (t : TypeId) (x y : Operand) (a b : Value) (w : World) (h1 : ¬(a = .nilIface ∧ b = .nilIface)) (h2 : ∀ cs ds, ¬(a = .agg cs ∧ b = .agg ds)) :
    (eqGuard op t x y a b).run P w = .ok () w := by
  by_cases he : op = .eql ∨ op = .neq
  · rcases he with rfl | rfl <;> cases a <;> cases b <;> first | rfl | exact absurd ⟨rfl, rfl⟩ h1 | exact absurd ⟨rfl, rfl⟩ (h2 _ _)
  · exact eqGuard_other op (fun e => he (.inl e)) (fun e => he (.inr e)) t x y a b w

theorem arith_sound {op : BinOp} {k : IntKind} {a b : Int} {v : Value} (t : TypeId) (h : arith op k a b = some v) (w : World) : (binOp op t (.int k a) (.int k b)).run P w = .ok v w ∧ flat1 v = true := by
  cases op <;> simp only [arith] at h <;> first
    | (simp only [Option.some.injEq] at h; subst h; simp [binOp, Op.intArith, Op.intBits, Op.intCmp, flat1]; done)
    | (split at h
       · cases h
       · simp only [Option.some.injEq] at h; subst h; simp [binOp, Op.intDiv, flat1, *])
    | cases h

theorem strAdd_sound {a b : ByteArray} (t : TypeId) (hs : (a.size : Int) + b.size ≤ 9223372036854775807) (w : World) : (binOp .add t (.string a) (.string b)).run P w = .ok (.string (a ++ b)) w := by
  have e : IntKind.i64.max = 9223372036854775807 := by decide
  have : ¬(((a.size + b.size : Nat) : Int) > IntKind.i64.max) := by rw [e]; omega
  simp only [binOp, Op.stringOp, this, if_false]
  rfl

theorem strOp_sound {op : BinOp} {a b : ByteArray} {v : Value} (t : TypeId) (h : strOp op a b = some v) (w : World) : (binOp op t (.string a) (.string b)).run P w = .ok v w ∧ flat1 v = true := by
  cases op <;> simp only [strOp] at h <;> first
    | (simp only [Option.some.injEq] at h; subst h; simp [binOp, Op.stringOp, flat1]; done)
    | cases h
    | (split at h
       · rename_i hs
         obtain rfl := Option.some.inj h
         exact ⟨strAdd_sound t hs w, rfl⟩
       · cases h)

theorem eqIn_bool (d : Nat) {t : TypeId} (a b : Bool) (h : P.underlying t = some .bool) (w : World) : (Op.equalIn (d + 1) t (.bool a) (.bool b)).run P w = .ok (a == b) w := by
  simp [Op.equalIn, run_underlying h]
theorem eqIn_pn (d : Nat) {t e : TypeId} (b : Option Addr) (h : P.underlying t = some (.pointer e)) (w : World) : (Op.equalIn (d + 1) t (.pointer none) (.pointer b)).run P w = .ok b.isNone w := by
  simp [Op.equalIn, run_underlying h]
theorem eqIn_np (d : Nat) {t e : TypeId} (a : Addr) (h : P.underlying t = some (.pointer e)) (w : World) : (Op.equalIn (d + 1) t (.pointer (some a)) (.pointer none)).run P w = .ok false w := by
  simp [Op.equalIn, run_underlying h]
theorem eqIn_sn (d : Nat) {t e : TypeId} (b : Option Addr) (n c n' c' : Nat) (h : P.underlying t = some (.slice e)) (w : World) : (Op.equalIn (d + 1) t (.slice none n c) (.slice b n' c')).run P w = .ok b.isNone w := by
  simp [Op.equalIn, run_underlying h]
theorem eqIn_ns (d : Nat) {t e : TypeId} (a : Addr) (n c n' c' : Nat) (h : P.underlying t = some (.slice e)) (w : World) : (Op.equalIn (d + 1) t (.slice (some a) n c) (.slice none n' c')).run P w = .ok false w := by
  simp [Op.equalIn, run_underlying h]
theorem eqIn_mn (d : Nat) {t k e : TypeId} (b : Option Nat) (h : P.underlying t = some (.map k e)) (w : World) : (Op.equalIn (d + 1) t (.map none) (.map b)).run P w = .ok b.isNone w := by
  simp [Op.equalIn, run_underlying h]

theorem evEq_sound (hE : EqOk P E) {t : TypeId} {x y x' y' : Value} {b : Bool} (h : evEq P E t x y = some b) (hx : VR φ x x') (hy : VR φ y y') (w : World) :
    (Op.equal t x' y').run P w = .ok b w ∧ (∀ op xo yo, (eqGuard op t xo yo x' y').run P w = .ok () w) ∧
    ((∃ a, x' = .bool a) ∨ (∃ a, x' = .pointer a) ∨ (∃ a n c, x' = .slice a n c) ∨ (∃ a, x' = .map a) ∨ (∃ a, x' = .agg a)) := by
  unfold evEq at h
  split at h
  · split at h
    · rename_i a c ht
      obtain rfl := hx.bool_inv
      obtain rfl := hy.bool_inv
      cases h
      exact ⟨eqIn_bool 9999 _ _ ht w, fun op xo yo => eqGuard_plain op t xo yo _ _ w (by simp) (by simp), .inl ⟨_, rfl⟩⟩
    · cases h
  · split at h
    · rename_i e ht
      obtain rfl := hx.pnil_inv
      obtain rfl := hy.pnil_inv
      cases h
      exact ⟨eqIn_pn 9999 _ ht w, fun op xo yo => eqGuard_plain op t xo yo _ _ w (by simp) (by simp), .inr (.inl ⟨_, rfl⟩)⟩
    · cases h
  · split at h
    · rename_i e ht
      obtain rfl := hx.pnil_inv
      obtain ⟨l, _, _, rfl⟩ := hy.ptr_inv
      cases h
      exact ⟨eqIn_pn 9999 _ ht w, fun op xo yo => eqGuard_plain op t xo yo _ _ w (by simp) (by simp), .inr (.inl ⟨_, rfl⟩)⟩
    · cases h
  · split at h
    · rename_i e ht
      obtain ⟨l, _, _, rfl⟩ := hx.ptr_inv
      obtain rfl := hy.pnil_inv
      cases h
      exact ⟨eqIn_np 9999 _ ht w, fun op xo yo => eqGuard_plain op t xo yo _ _ w (by simp) (by simp), .inr (.inl ⟨_, rfl⟩)⟩
    · cases h
  · split at h
    · rename_i e ht
      obtain rfl := hx.snil_inv
      obtain rfl := hy.snil_inv
      cases h
      exact ⟨eqIn_sn 9999 _ _ _ _ _ ht w, fun op xo yo => eqGuard_plain op t xo yo _ _ w (by simp) (by simp), .inr (.inr (.inl ⟨_, _, _, rfl⟩))⟩
    · cases h
  · split at h
    · rename_i e ht
      obtain rfl := hx.snil_inv
      obtain ⟨l, c', _, rfl, _⟩ := hy.slice_inv
      cases h
      exact ⟨eqIn_sn 9999 _ _ _ _ _ ht w, fun op xo yo => eqGuard_plain op t xo yo _ _ w (by simp) (by simp), .inr (.inr (.inl ⟨_, _, _, rfl⟩))⟩
    · cases h
  · split at h
    · rename_i e ht
      obtain ⟨l, c', _, rfl, _⟩ := hx.slice_inv
      obtain rfl := hy.snil_inv
      cases h
      exact ⟨eqIn_ns 9999 _ _ _ _ _ ht w, fun op xo yo => eqGuard_plain op t xo yo _ _ w (by simp) (by simp), .inr (.inr (.inl ⟨_, _, _, rfl⟩))⟩
    · cases h
  · split at h
    · rename_i k e ht
      have hx' := hx.of_flat1 rfl
      have hy' := hy.of_flat1 rfl
      subst hx'
      subst hy'
      cases h
      exact ⟨eqIn_mn 9999 _ ht w, fun op xo yo => eqGuard_plain op t xo yo _ _ w (by simp) (by simp), .inr (.inr (.inr (.inl ⟨_, rfl⟩)))⟩
    · cases h
  · split at h
    · cases hx with | scal _ h => cases h
    · cases h
  · rename_i xs ys
    split at h
    · rename_i ks hEt
      cases hfit : (fitsAll ks xs.toList && fitsAll ks ys.toList)
      · rw [hfit] at h; cases h
      rw [hfit] at h
      simp only [cond_true] at h
      simp only [Bool.and_eq_true] at hfit
      -- what compares cell by cell is flat
      have flatOf : ∀ (l m : List Value) (b : Bool), eqCells l m = some b → l.all flat1 = true ∧ m.all flat1 = true := by
        intro l
        induction l with
        | nil => intro m b hm; cases m with
          | nil => exact ⟨rfl, rfl⟩
          | cons => simp [eqCells] at hm
        | cons x l ih => intro m b hm; cases m with
          | nil => simp [eqCells] at hm
          | cons y m =>
            simp only [eqCells, Option.bind_eq_some_iff] at hm
            obtain ⟨e, h1, es, h2, _⟩ := hm
            obtain ⟨i1, i2⟩ := ih m es h2
            have : flat1 x = true ∧ flat1 y = true := by
              unfold eqCell at h1
              split at h1 <;> first | exact ⟨rfl, rfl⟩ | cases h1
            simp [this.1, this.2, i1, i2]
      obtain ⟨f1, f2⟩ := flatOf _ _ _ h
      have hx' := hx.of_flat (show flat (.agg xs) = true from f1)
      have hy' := hy.of_flat (show flat (.agg ys) = true from f2)
      subst hx'
      subst hy'
      refine ⟨(hE t ks hEt).2 xs ys b hfit.1 hfit.2 h w, fun op xo yo => ?_, .inr (.inr (.inr (.inr ⟨_, rfl⟩)))⟩
      exact run_eqGuard_agg w op t xo yo xs ys (hE t ks hEt).1
    · cases h
  · cases h

theorem binOp_eql_run (t : TypeId) (x y : Value) (w : World) (b : Bool) (h : (Op.equal t x y).run P w = .ok b w)
    (hs : (∃ a, x = .bool a) ∨ (∃ a, x = .pointer a) ∨ (∃ a n c, x = .slice a n c) ∨ (∃ a, x = .map a) ∨ (∃ a, x = .agg a)) :
    (binOp .eql t x y).run P w = .ok (.bool b) w ∧ (binOp .neq t x y).run P w = .ok (.bool (!b)) w := by
  rcases hs with ⟨a, rfl⟩ | ⟨a, rfl⟩ | ⟨a, n, c, rfl⟩ | ⟨a, rfl⟩ | ⟨a, rfl⟩ <;> exact ⟨by simp [binOp, h], by simp [binOp, h]⟩

theorem evBin_sound (hE : EqOk P E) {op : BinOp} {t : TypeId} {x y x' y' v : Value} (h : evBin P E op t x y = some v) (hx : VR φ x x') (hy : VR φ y y') (xo yo : Operand) (w : World) :
    ((do eqGuard op t xo yo x' y'; binOp op t x' y') : Sem Value).run P w = .ok v w ∧ flat1 v = true := by
  unfold evBin at h
  split at h
  · split at h
    · cases h
    · rename_i k a k' b hb
      cases h
      obtain rfl := hx.int_inv
      obtain rfl := hy.int_inv
      simp [eqGuard_other (P := P) .shl (by simp) (by simp), binOp, Op.shift, hb, flat1]
  · split at h
    · cases h
    · rename_i k a k' b hb
      cases h
      obtain rfl := hx.int_inv
      obtain rfl := hy.int_inv
      simp [eqGuard_other (P := P) .shr (by simp) (by simp), binOp, Op.shift, hb, flat1]
  · split at h
    · rename_i hk
      subst hk
      obtain rfl := hx.int_inv
      obtain rfl := hy.int_inv
      obtain ⟨h1, h2⟩ := arith_sound (P := P) t h w
      refine ⟨?_, h2⟩
      rw [Sem.run_bind, eqGuard_plain op t xo yo _ _ w (by simp) (by simp)]
      exact h1
    · cases h
  · obtain rfl := hx.string_inv
    obtain rfl := hy.string_inv
    obtain ⟨h1, h2⟩ := strOp_sound (P := P) t h w
    refine ⟨?_, h2⟩
    rw [Sem.run_bind, eqGuard_plain op t xo yo _ _ w (by simp) (by simp)]
    exact h1
  · simp only [Option.bind_eq_some_iff, Option.some.injEq] at h
    obtain ⟨b, hb, rfl⟩ := h
    obtain ⟨h1, h2, h3⟩ := evEq_sound hE hb hx hy w
    refine ⟨?_, rfl⟩
    rw [Sem.run_bind, h2]
    exact (binOp_eql_run t x' y' w b h1 h3).1
  · simp only [Option.bind_eq_some_iff, Option.some.injEq] at h
    obtain ⟨b, hb, rfl⟩ := h
    obtain ⟨h1, h2, h3⟩ := evEq_sound hE hb hx hy w
    refine ⟨?_, rfl⟩
    rw [Sem.run_bind, h2]
    exact (binOp_eql_run t x' y' w b h1 h3).2
  · cases h

theorem evUn_sound {op : UnOp} {x x' v : Value} (h : evUn op x = some v) (hx : VR φ x x') (w : World) : (Op.unary op x').run P w = .ok v w ∧ flat1 v = true := by
  unfold evUn at h
  split at h
  · obtain rfl := hx.int_inv
    obtain rfl := Option.some.inj h
    simp [Op.unary, Op.intArith, flat1]
  · obtain rfl := hx.int_inv
    obtain rfl := Option.some.inj h
    simp [Op.unary, Op.intBits, flat1]
  · obtain rfl := hx.bool_inv
    obtain rfl := Option.some.inj h
    simp [Op.unary, flat1]
  · cases h

theorem tyAgg_run {t : TypeId} {b : Bool} (h : tyAgg P t = some b) (w : World) : (isAgg t).run P w = .ok b w := by
  unfold tyAgg at h
  split at h
  · rename_i ht; cases h; simp [isAgg, run_underlying ht]
  · rename_i ht; cases h; simp [isAgg, run_underlying ht]
  · rename_i d h1 h2 ht
    cases h
    unfold isAgg
    rw [Sem.run_bind, run_underlying ht]
    cases d <;> first | rfl | (exact absurd rfl (h1 _)) | (exact absurd rfl (h2 _ _))
  · cases h

theorem run_sizeOf' {t : TypeId} {i : TypeInfo} (h : P.info? t = some i) (w : World) : (sizeOf t).run P w = .ok i.size w := by simp [sizeOf, typeInfo, h]
theorem run_zeroValue' {t : TypeId} {i : TypeInfo} {z : Value} (h : P.info? t = some i) (hz : i.zero = some z) (w : World) : (zeroValue t).run P w = .ok z w := by simp [zeroValue, typeInfo, h, hz]

theorem evPart_sound {t : TypeId} {cs cs' : Array Value} {off : Nat} {v : Value} (h : evPart P t cs off = some v) (hc : VRs φ cs.toList cs'.toList) (w : World) :
    ∃ v', (part t cs' off).run P w = .ok v' w ∧ VR φ v v' := by
  unfold evPart at h
  split at h
  · rename_i i ht hi
    cases hb : Nat.ble (off + i.size) cs.size
    · simp [hb] at h
    · simp only [hb, cond_true, Option.some.injEq] at h
      subst h
      refine ⟨.agg (cs'.extract off (off + i.size)), by simp [part, tyAgg_run ht, run_sizeOf' hi], ?_⟩
      have e : cs'.extract off (off + i.size) = ((cs'.toList.drop off).take i.size).toArray := by
        apply Array.ext'
        simp [Array.toList_extract, List.extract_eq_take_drop]
      rw [e]
      exact VR.agg_of ((hc.drop off).take i.size)
  · rename_i ht
    obtain ⟨v', h1, h2⟩ := hc.get (show cs.toList[off]? = some v by simpa using h)
    have h1' : cs'[off]? = some v' := by simpa using h1
    exact ⟨v', by simp [part, tyAgg_run ht, h1'], h2⟩
  · cases h

theorem evField_sound {s : TypeId} {x x' v : Value} {f : Nat} (h : evField P s x f = some v) (hx : VR φ x x') (w : World) : ∃ v', (Instr.field s x' f).run P w = .ok v' w ∧ VR φ v v' := by
  unfold evField at h
  split at h
  · rename_i fs cs hs
    split at h
    · rename_i fd hf
      obtain ⟨cs', rfl, hc⟩ := hx.agg_inv
      obtain ⟨v', h1, h2⟩ := evPart_sound h hc w
      exact ⟨v', by simp [Instr.field, run_underlying hs, hf, asAgg, h1], h2⟩
    · cases h
  · cases h

theorem addr_add (b o n : Nat) : (⟨b, o, none⟩ : Addr).add n = ⟨b, o + n, none⟩ := by unfold Addr.add; split <;> simp_all

theorem evFieldAddr_sound {s : TypeId} {x x' v : Value} {f : Nat} (h : evFieldAddr P s x f = some v) (hx : VR φ x x') (w : World) : ∃ v', (Instr.fieldAt s x' f).run P w = .ok v' w ∧ VR φ v v' := by
  unfold evFieldAddr at h
  split at h
  · rename_i fs a hs
    split at h
    · rename_i fd hf
      split at h
      · rename_i i hi
        cases hb : (Nat.beq i.size 0 || a.spot.isSome)
        · simp only [hb, cond_false, Option.some.injEq] at h
          subst h
          obtain ⟨l, hsp, hl, rfl⟩ := hx.ptr_inv
          have hn : i.size ≠ 0 := by
            intro e
            simp [e] at hb
          refine ⟨.pointer (some ⟨l.blk, l.off + (a.off + fd.offset), none⟩), ?_, .ptr _ _ l hl⟩
          simp [Instr.fieldAt, run_underlying hs, hf, Instr.sureAddr, fieldPlace, run_sizeOf' hi, hn, addr_add, Nat.add_assoc]
        · simp [hb] at h
      · cases h
    · cases h
  · cases h

theorem evIndexAddr_sound {t : TypeId} {x ix x' ix' v : Value} (h : evIndexAddr P t x ix = some v) (hx : VR φ x x') (hi : VR φ ix ix') (w : World) :
    ∃ v', (Instr.indexAt t x' ix').run P w = .ok v' w ∧ VR φ v v' := by
  unfold evIndexAddr at h
  split at h
  · rename_i e a len cap k i ht
    split at h
    · rename_i inf he
      split at h
      · rename_i hb
        cases h
        obtain rfl := hi.int_inv
        obtain ⟨l, c', hl, rfl, _⟩ := hx.slice_inv
        refine ⟨.pointer (some ⟨l.blk, l.off + (a.off + i.toNat * inf.size), none⟩), ?_, .ptr _ _ l hl⟩
        simp [Instr.indexAt, asIntOf, run_underlying ht, run_sizeOf' he, hb, addr_add, Nat.add_assoc]
      · cases h
    · cases h
  · rename_i len e a k i ht
    split at h
    · rename_i inf he
      split at h
      · rename_i hb
        obtain ⟨hsp, hb⟩ := hb
        cases h
        obtain rfl := hi.int_inv
        obtain ⟨l, _, hl, rfl⟩ := hx.ptr_inv
        refine ⟨.pointer (some ⟨l.blk, l.off + (a.off + i.toNat * inf.size), none⟩), ?_, .ptr _ _ l hl⟩
        simp [Instr.indexAt, asIntOf, run_underlying ht, run_sizeOf' he, hb, addr_add, Instr.sureAddr, Nat.add_assoc]
      · cases h
    · cases h
  · cases h

theorem evIndex_sound {t : TypeId} {x ix x' ix' v : Value} (h : evIndex P t x ix = some v) (hx : VR φ x x') (hi : VR φ ix ix') (w : World) :
    ∃ v', (Instr.index t x' ix').run P w = .ok v' w ∧ VR φ v v' := by
  unfold evIndex at h
  split at h
  · rename_i len e cs k i ht
    split at h
    · rename_i inf he
      split at h
      · rename_i hb
        obtain rfl := hi.int_inv
        obtain ⟨cs', rfl, hc⟩ := hx.agg_inv
        obtain ⟨v', h1, h2⟩ := evPart_sound h hc w
        exact ⟨v', by simp [Instr.index, asIntOf, run_underlying ht, run_sizeOf' he, hb, h1], h2⟩
      · cases h
    · cases h
  · rename_i s k i ht
    split at h
    · rename_i hb
      simp only [Option.bind_eq_some_iff, Option.some.injEq] at h
      obtain ⟨c, hc, rfl⟩ := h
      obtain rfl := hi.int_inv
      obtain rfl := hx.string_inv
      exact ⟨_, by simp [Instr.index, asIntOf, run_underlying ht, hb, hc], .scal _ rfl⟩
    · cases h
  · cases h


end Go.Ev
