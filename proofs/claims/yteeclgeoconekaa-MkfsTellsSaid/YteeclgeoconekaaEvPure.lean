/-
  The evaluator's operations on values, held against the model's.
-/
import Derived.Test.YteeclgeoconekaaEvRel
import Derived.Laws.StructEq
namespace Go.Ev

/-- The struct and array types in E are compared cell by cell. -/
def EqOk (P : Program) (E : TypeId → Option (List CK)) : Prop := ∀ t ks, E t = some ks → P.eqGuardType P.depth t = false ∧
  ∀ xs ys b, fitsAll ks xs.toList = true → fitsAll ks ys.toList = true → eqCells xs.toList ys.toList = some b → ∀ w, (Op.equal t (.agg xs) (.agg ys)).run P w = .ok b w

variable {P : Program} {E : TypeId → Option (List CK)} {φ : Fi}

theorem VR.pnil_inv {v : Value} (h : VR φ (.pointer none) v) : v = .pointer none := h.of_flat1 rfl
theorem VR.ptr_inv {a : Addr} {v : Value} (h : VR φ (.pointer (some a)) v) : ∃ l, a.spot = none ∧ φ a.block = some l ∧ v = .pointer (some ⟨l.blk, l.off + a.off, none⟩) := by
  cases h with
  | scal _ h => cases h
  | ptr b o l h => exact ⟨l, rfl, h, rfl⟩
theorem VR.snil_inv {n c : Nat} {v : Value} (h : VR φ (.slice none n c) v) : v = .slice none n c := h.of_flat1 rfl
theorem VR.slice_inv {a : Addr} {n c : Nat} {v : Value} (h : VR φ (.slice (some a) n c) v) : ∃ l c', φ a.block = some l ∧ v = .slice (some ⟨l.blk, l.off + a.off, none⟩) n c' ∧
    (a.spot = none → c' = c) ∧ (∀ z, a.spot = some z → c ≤ c' ∧ n ≤ c ∧ l.off + a.off + c' * z ≤ l.room) := by
  cases h with
  | scal _ h => cases h
  | sl b o _ _ l h => exact ⟨l, c, h, rfl, (fun _ => rfl), (fun z hz => by cases hz)⟩
  | slg b o z _ _ k' l h hk hn hr => exact ⟨l, k', h, rfl, (fun hz => by cases hz), (fun z' hz => by cases hz; exact ⟨hk, hn, hr⟩)⟩

theorem eqGuard_other (op : BinOp) (h1 : op ≠ .eql) (h2 : op ≠ .neq) (t : TypeId) (x y : Operand) (a b : Value) (w : World) : (eqGuard op t x y a b).run P w = .ok () w := by
  cases op <;> first | exact absurd rfl h1 | exact absurd rfl h2 | simp [eqGuard]

theorem eqGuard_plain (op : BinOp) (t : TypeId) (x y : Operand) (a b : Value) (w : World) (h1 : ¬(a = .nilIface ∧ b = .nilIface)) (h2 : ∀ cs ds, ¬(a = .agg cs ∧ b = .agg ds)) :
    (eqGuard op t x y a b).run P w = .ok () w := by
  by_cases he : op = .eql ∨ op = .neq
  · rcases he with rfl | rfl <;> cases a <;> cases b <;> first | rfl | exact absurd ⟨rfl, rfl⟩ h1 | exact absurd ⟨rfl, rfl⟩ (h2 _ _)
  · exact eqGuard_other op (fun e => he (.inl e)) (fun e => he (.inr e)) t x y a b w

theorem arith_sound {op : BinOp} {k : IntKind} {a b : Int} {v : Value} (t : TypeId) (h : arith op k a b = some v) (w : World) : (binOp op t (.int k a) (.int k b)).run P w = .ok v w ∧ flat1 v = true := by
  cases op <;> simp only [arith] at h <;> first
    | (simp only [Option.some.injEq] at h; subst h; simp [binOp, Op.intArith, Op.intBits, Op.intCmp, flat1]; done)
    | (split at h
       · cases h
       · simp only [Option.some.injEq] at h; subst h; simp [binOp, Op.intDiv, flat1, *])
    | cases h

theorem strAdd_sound {a b : ByteArray} (t : TypeId) (hs : (a.size : Int) + b.size ≤ 9223372036854775807) (w : World) : (binOp .add t (.string a) (.string b)).run P w = .ok (.string (a ++ b)) w := by
  have e : IntKind.i64.max = 9223372036854775807 := by decide
  have : ¬(((a.size + b.size : Nat) : Int) > IntKind.i64.max) := by rw [e]; omega
  simp only [binOp, Op.stringOp, this, if_false]
  rfl

theorem strOp_sound {op : BinOp} {a b : ByteArray} {v : Value} (t : TypeId) (h : strOp op a b = some v) (w : World) : (binOp op t (.string a) (.string b)).run P w = .ok v w ∧ flat1 v = true := by
  cases op <;> simp only [strOp] at h <;> first
    | (simp only [Option.some.injEq] at h; subst h; simp [binOp, Op.stringOp, flat1]; done)
    | cases h
    | (split at h
       · rename_i hs
         obtain rfl := Option.some.inj h
         exact ⟨strAdd_sound t hs w, rfl⟩
       · cases h)

theorem eqIn_bool (d : Nat) {t : TypeId} (a b : Bool) (h : P.underlying t = some .bool) (w : World) : (Op.equalIn (d + 1) t (.bool a) (.bool b)).run P w = .ok (a == b) w := by
  simp [Op.equalIn, run_underlying h]
theorem eqIn_pn (d : Nat) {t e : TypeId} (b : Option Addr) (h : P.underlying t = some (.pointer e)) (w : World) : (Op.equalIn (d + 1) t (.pointer none) (.pointer b)).run P w = .ok b.isNone w := by
  simp [Op.equalIn, run_underlying h]
theorem eqIn_np (d : Nat) {t e : TypeId} (a : Addr) (h : P.underlying t = some (.pointer e)) (w : World) : (Op.equalIn (d + 1) t (.pointer (some a)) (.pointer none)).run P w = .ok false w := by
  simp [Op.equalIn, run_underlying h]
theorem eqIn_sn (d : Nat) {t e : TypeId} (b : Option Addr) (n c n' c' : Nat) (h : P.underlying t = some (.slice e)) (w : World) : (Op.equalIn (d + 1) t (.slice none n c) (.slice b n' c')).run P w = .ok b.isNone w := by
  simp [Op.equalIn, run_underlying h]
theorem eqIn_ns (d : Nat) {t e : TypeId} (a : Addr) (n c n' c' : Nat) (h : P.underlying t = some (.slice e)) (w : World) : (Op.equalIn (d + 1) t (.slice (some a) n c) (.slice none n' c')).run P w = .ok false w := by
  simp [Op.equalIn, run_underlying h]
theorem eqIn_mn (d : Nat) {t k e : TypeId} (b : Option Nat) (h : P.underlying t = some (.map k e)) (w : World) : (Op.equalIn (d + 1) t (.map none) (.map b)).run P w = .ok b.isNone w := by
  simp [Op.equalIn, run_underlying h]

theorem evEq_sound (hE : EqOk P E) {t : TypeId} {x y x' y' : Value} {b : Bool} (h : evEq P E t x y = some b) (hx : VR φ x x') (hy : VR φ y y') (w : World) :
    (Op.equal t x' y').run P w = .ok b w ∧ (∀ op xo yo, (eqGuard op t xo yo x' y').run P w = .ok () w) ∧
    ((∃ a, x' = .bool a) ∨ (∃ a, x' = .pointer a) ∨ (∃ a n c, x' = .slice a n c) ∨ (∃ a, x' = .map a) ∨ (∃ a, x' = .agg a)) := by
  unfold evEq at h
  split at h
  · split at h
    · rename_i a c ht
      obtain rfl := hx.bool_inv
      obtain rfl := hy.bool_inv
      cases h
      exact ⟨eqIn_bool 9999 _ _ ht w, fun op xo yo => eqGuard_plain op t xo yo _ _ w (by simp) (by simp), .inl ⟨_, rfl⟩⟩
    · cases h
  · split at h
    · rename_i e ht
      obtain rfl := hx.pnil_inv
      obtain rfl := hy.pnil_inv
      cases h
      exact ⟨eqIn_pn 9999 _ ht w, fun op xo yo => eqGuard_plain op t xo yo _ _ w (by simp) (by simp), .inr (.inl ⟨_, rfl⟩)⟩
    · cases h
  · split at h
    · rename_i e ht
      obtain rfl := hx.pnil_inv
      obtain ⟨l, _, _, rfl⟩ := hy.ptr_inv
      cases h
      exact ⟨eqIn_pn 9999 _ ht w, fun op xo yo => eqGuard_plain op t xo yo _ _ w (by simp) (by simp), .inr (.inl ⟨_, rfl⟩)⟩
    · cases h
  · split at h
    · rename_i e ht
      obtain ⟨l, _, _, rfl⟩ := hx.ptr_inv
      obtain rfl := hy.pnil_inv
      cases h
      exact ⟨eqIn_np 9999 _ ht w, fun op xo yo => eqGuard_plain op t xo yo _ _ w (by simp) (by simp), .inr (.inl ⟨_, rfl⟩)⟩
    · cases h
  · split at h
    · rename_i e ht
      obtain rfl := hx.snil_inv
      obtain rfl := hy.snil_inv
      cases h
      exact ⟨eqIn_sn 9999 _ _ _ _ _ ht w, fun op xo yo => eqGuard_plain op t xo yo _ _ w (by simp) (by simp), .inr (.inr (.inl ⟨_, _, _, rfl⟩))⟩
    · cases h
  · split at h
    · rename_i e ht
      obtain rfl := hx.snil_inv
      obtain ⟨l, c', _, rfl, _⟩ := hy.slice_inv
      cases h
      exact ⟨eqIn_sn 9999 _ _ _ _ _ ht w, fun op xo yo => eqGuard_plain op t xo yo _ _ w (by simp) (by simp), .inr (.inr (.inl ⟨_, _, _, rfl⟩))⟩
    · cases h
  · split at h
    · rename_i e ht
      obtain ⟨l, c', _, rfl, _⟩ := hx.slice_inv
      obtain rfl := hy.snil_inv
      cases h
      exact ⟨eqIn_ns 9999 _ _ _ _ _ ht w, fun op xo yo => eqGuard_plain op t xo yo _ _ w (by simp) (by simp), .inr (.inr (.inl ⟨_, _, _, rfl⟩))⟩
    · cases h
  · split at h
    · rename_i k e ht
      have hx' := hx.of_flat1 rfl
      have hy' := hy.of_flat1 rfl
      subst hx'
      subst hy'
      cases h
      exact ⟨eqIn_mn 9999 _ ht w, fun op xo yo => eqGuard_plain op t xo yo _ _ w (by simp) (by simp), .inr (.inr (.inr (.inl ⟨_, rfl⟩)))⟩
    · cases h
  · split at h
    · cases hx with | scal _ h => cases h
    · cases h
  · rename_i xs ys
    split at h
    · rename_i ks hEt
      cases hfit : (fitsAll ks xs.toList && fitsAll ks ys.toList)
      · rw [hfit] at h; cases h
      rw [hfit] at h
      simp only [cond_true] at h
      simp only [Bool.and_eq_true] at hfit
      -- what compares cell by cell is flat
      have flatOf : ∀ (l m : List Value) (b : Bool), eqCells l m = some b → l.all flat1 = true ∧ m.all flat1 = true := by
        intro l
        induction l with
        | nil => intro m b hm; cases m with
          | nil => exact ⟨rfl, rfl⟩
          | cons => simp [eqCells] at hm
        | cons x l ih => intro m b hm; cases m with
          | nil => simp [eqCells] at hm
          | cons y m =>
            simp only [eqCells, Option.bind_eq_some_iff] at hm
            obtain ⟨e, h1, es, h2, _⟩ := hm
            obtain ⟨i1, i2⟩ := ih m es h2
            have : flat1 x = true ∧ flat1 y = true := by
              unfold eqCell at h1
              split at h1 <;> first | exact ⟨rfl, rfl⟩ | cases h1
            simp [this.1, this.2, i1, i2]
      obtain ⟨f1, f2⟩ := flatOf _ _ _ h
      have hx' := hx.of_flat (show flat (.agg xs) = true from f1)
      have hy' := hy.of_flat (show flat (.agg ys) = true from f2)
      subst hx'
      subst hy'
      refine ⟨(hE t ks hEt).2 xs ys b hfit.1 hfit.2 h w, fun op xo yo => ?_, .inr (.inr (.inr (.inr ⟨_, rfl⟩)))⟩
      exact run_eqGuard_agg w op t xo yo xs ys (hE t ks hEt).1
    · cases h
  · cases h

theorem binOp_eql_run (t : TypeId) (x y : Value) (w : World) (b : Bool) (h : (Op.equal t x y).run P w = .ok b w)
    (hs : (∃ a, x = .bool a) ∨ (∃ a, x = .pointer a) ∨ (∃ a n c, x = .slice a n c) ∨ (∃ a, x = .map a) ∨ (∃ a, x = .agg a)) :
    (binOp .eql t x y).run P w = .ok (.bool b) w ∧ (binOp .neq t x y).run P w = .ok (.bool (!b)) w := by
  rcases hs with ⟨a, rfl⟩ | ⟨a, rfl⟩ | ⟨a, n, c, rfl⟩ | ⟨a, rfl⟩ | ⟨a, rfl⟩ <;> exact ⟨by simp [binOp, h], by simp [binOp, h]⟩

theorem evBin_sound (hE : EqOk P E) {op : BinOp} {t : TypeId} {x y x' y' v : Value} (h : evBin P E op t x y = some v) (hx : VR φ x x') (hy : VR φ y y') (xo yo : Operand) (w : World) :
    ((do eqGuard op t xo yo x' y'; binOp op t x' y') : Sem Value).run P w = .ok v w ∧ flat1 v = true := by
  unfold evBin at h
  split at h
  · split at h
    · cases h
    · rename_i k a k' b hb
      cases h
      obtain rfl := hx.int_inv
      obtain rfl := hy.int_inv
      simp [eqGuard_other (P := P) .shl (by simp) (by simp), binOp, Op.shift, hb, flat1]
  · split at h
    · cases h
    · rename_i k a k' b hb
      cases h
      obtain rfl := hx.int_inv
      obtain rfl := hy.int_inv
      simp [eqGuard_other (P := P) .shr (by simp) (by simp), binOp, Op.shift, hb, flat1]
  · split at h
    · rename_i hk
      subst hk
      obtain rfl := hx.int_inv
      obtain rfl := hy.int_inv
      obtain ⟨h1, h2⟩ := arith_sound (P := P) t h w
      refine ⟨?_, h2⟩
      rw [Sem.run_bind, eqGuard_plain op t xo yo _ _ w (by simp) (by simp)]
      exact h1
    · cases h
  · obtain rfl := hx.string_inv
    obtain rfl := hy.string_inv
    obtain ⟨h1, h2⟩ := strOp_sound (P := P) t h w
    refine ⟨?_, h2⟩
    rw [Sem.run_bind, eqGuard_plain op t xo yo _ _ w (by simp) (by simp)]
    exact h1
  · simp only [Option.bind_eq_some_iff, Option.some.injEq] at h
    obtain ⟨b, hb, rfl⟩ := h
    obtain ⟨h1, h2, h3⟩ := evEq_sound hE hb hx hy w
    refine ⟨?_, rfl⟩
    rw [Sem.run_bind, h2]
    exact (binOp_eql_run t x' y' w b h1 h3).1
  · simp only [Option.bind_eq_some_iff, Option.some.injEq] at h
    obtain ⟨b, hb, rfl⟩ := h
    obtain ⟨h1, h2, h3⟩ := evEq_sound hE hb hx hy w
    refine ⟨?_, rfl⟩
    rw [Sem.run_bind, h2]
    exact (binOp_eql_run t x' y' w b h1 h3).2
  · cases h

theorem evUn_sound {op : UnOp} {x x' v : Value} (h : evUn op x = some v) (hx : VR φ x x') (w : World) : (Op.unary op x').run P w = .ok v w ∧ flat1 v = true := by
  unfold evUn at h
  split at h
  · obtain rfl := hx.int_inv
    obtain rfl := Option.some.inj h
    simp [Op.unary, Op.intArith, flat1]
  · obtain rfl := hx.int_inv
    obtain rfl := Option.some.inj h
    simp [Op.unary, Op.intBits, flat1]
  · obtain rfl := hx.bool_inv
    obtain rfl := Option.some.inj h
    simp [Op.unary, flat1]
  · cases h

theorem tyAgg_run {t : TypeId} {b : Bool} (h : tyAgg P t = some b) (w : World) : (isAgg t).run P w = .ok b w := by
  unfold tyAgg at h
  split at h
  · rename_i ht; cases h; simp [isAgg, run_underlying ht]
  · rename_i ht; cases h; simp [isAgg, run_underlying ht]
  · rename_i d h1 h2 ht
    cases h
    unfold isAgg
    rw [Sem.run_bind, run_underlying ht]
    cases d <;> first | rfl | (exact absurd rfl (h1 _)) | (exact absurd rfl (h2 _ _))
  · cases h

theorem run_sizeOf' {t : TypeId} {i : TypeInfo} (h : P.info? t = some i) (w : World) : (sizeOf t).run P w = .ok i.size w := by simp [sizeOf, typeInfo, h]
theorem run_zeroValue' {t : TypeId} {i : TypeInfo} {z : Value} (h : P.info? t = some i) (hz : i.zero = some z) (w : World) : (zeroValue t).run P w = .ok z w := by simp [zeroValue, typeInfo, h, hz]

theorem evPart_sound {t : TypeId} {cs cs' : Array Value} {off : Nat} {v : Value} (h : evPart P t cs off = some v) (hc : VRs φ cs.toList cs'.toList) (w : World) :
    ∃ v', (part t cs' off).run P w = .ok v' w ∧ VR φ v v' := by
  unfold evPart at h
  split at h
  · rename_i i ht hi
    cases hb : Nat.ble (off + i.size) cs.size
    · simp [hb] at h
    · simp only [hb, cond_true, Option.some.injEq] at h
      subst h
      refine ⟨.agg (cs'.extract off (off + i.size)), by simp [part, tyAgg_run ht, run_sizeOf' hi], ?_⟩
      have e : cs'.extract off (off + i.size) = ((cs'.toList.drop off).take i.size).toArray := by
        apply Array.ext'
        simp [Array.toList_extract, List.extract_eq_take_drop]
      rw [e]
      exact VR.agg_of ((hc.drop off).take i.size)
  · rename_i ht
    obtain ⟨v', h1, h2⟩ := hc.get (show cs.toList[off]? = some v by simpa using h)
    have h1' : cs'[off]? = some v' := by simpa using h1
    exact ⟨v', by simp [part, tyAgg_run ht, h1'], h2⟩
  · cases h

theorem evField_sound {s : TypeId} {x x' v : Value} {f : Nat} (h : evField P s x f = some v) (hx : VR φ x x') (w : World) : ∃ v', (Instr.field s x' f).run P w = .ok v' w ∧ VR φ v v' := by
  unfold evField at h
  split at h
  · rename_i fs cs hs
    split at h
    · rename_i fd hf
      obtain ⟨cs', rfl, hc⟩ := hx.agg_inv
      obtain ⟨v', h1, h2⟩ := evPart_sound h hc w
      exact ⟨v', by simp [Instr.field, run_underlying hs, hf, asAgg, h1], h2⟩
    · cases h
  · cases h

theorem addr_add (b o n : Nat) : (⟨b, o, none⟩ : Addr).add n = ⟨b, o + n, none⟩ := by unfold Addr.add; split <;> simp_all

theorem evFieldAddr_sound {s : TypeId} {x x' v : Value} {f : Nat} (h : evFieldAddr P s x f = some v) (hx : VR φ x x') (w : World) : ∃ v', (Instr.fieldAt s x' f).run P w = .ok v' w ∧ VR φ v v' := by
  unfold evFieldAddr at h
  split at h
  · rename_i fs a hs
    split at h
    · rename_i fd hf
      split at h
      · rename_i i hi
        cases hb : (Nat.beq i.size 0 || a.spot.isSome)
        · simp only [hb, cond_false, Option.some.injEq] at h
          subst h
          obtain ⟨l, hsp, hl, rfl⟩ := hx.ptr_inv
          have hn : i.size ≠ 0 := by
            intro e
            simp [e] at hb
          refine ⟨.pointer (some ⟨l.blk, l.off + (a.off + fd.offset), none⟩), ?_, .ptr _ _ l hl⟩
          simp [Instr.fieldAt, run_underlying hs, hf, Instr.sureAddr, fieldPlace, run_sizeOf' hi, hn, addr_add, Nat.add_assoc]
        · simp [hb] at h
      · cases h
    · cases h
  · cases h

theorem evIndexAddr_sound {t : TypeId} {x ix x' ix' v : Value} (h : evIndexAddr P t x ix = some v) (hx : VR φ x x') (hi : VR φ ix ix') (w : World) :
    ∃ v', (Instr.indexAt t x' ix').run P w = .ok v' w ∧ VR φ v v' := by
  unfold evIndexAddr at h
  split at h
  · rename_i e a len cap k i ht
    split at h
    · rename_i inf he
      split at h
      · rename_i hb
        cases h
        obtain rfl := hi.int_inv
        obtain ⟨l, c', hl, rfl, _⟩ := hx.slice_inv
        refine ⟨.pointer (some ⟨l.blk, l.off + (a.off + i.toNat * inf.size), none⟩), ?_, .ptr _ _ l hl⟩
        simp [Instr.indexAt, asIntOf, run_underlying ht, run_sizeOf' he, hb, addr_add, Nat.add_assoc]
      · cases h
    · cases h
  · rename_i len e a k i ht
    split at h
    · rename_i inf he
      split at h
      · rename_i hb
        obtain ⟨hsp, hb⟩ := hb
        cases h
        obtain rfl := hi.int_inv
        obtain ⟨l, _, hl, rfl⟩ := hx.ptr_inv
        refine ⟨.pointer (some ⟨l.blk, l.off + (a.off + i.toNat * inf.size), none⟩), ?_, .ptr _ _ l hl⟩
        simp [Instr.indexAt, asIntOf, run_underlying ht, run_sizeOf' he, hb, addr_add, Instr.sureAddr, Nat.add_assoc]
      · cases h
    · cases h
  · cases h

theorem evIndex_sound {t : TypeId} {x ix x' ix' v : Value} (h : evIndex P t x ix = some v) (hx : VR φ x x') (hi : VR φ ix ix') (w : World) :
    ∃ v', (Instr.index t x' ix').run P w = .ok v' w ∧ VR φ v v' := by
  unfold evIndex at h
  split at h
  · rename_i len e cs k i ht
    split at h
    · rename_i inf he
      split at h
      · rename_i hb
        obtain rfl := hi.int_inv
        obtain ⟨cs', rfl, hc⟩ := hx.agg_inv
        obtain ⟨v', h1, h2⟩ := evPart_sound h hc w
        exact ⟨v', by simp [Instr.index, asIntOf, run_underlying ht, run_sizeOf' he, hb, h1], h2⟩
      · cases h
    · cases h
  · rename_i s k i ht
    split at h
    · rename_i hb
      simp only [Option.bind_eq_some_iff, Option.some.injEq] at h
      obtain ⟨c, hc, rfl⟩ := h
      obtain rfl := hi.int_inv
      obtain rfl := hx.string_inv
      exact ⟨_, by simp [Instr.index, asIntOf, run_underlying ht, hb, hc], .scal _ rfl⟩
    · cases h
  · cases h


end Go.Ev


/-
  The evaluator's operations on values, the rest: slices, lengths, composites.
-/
namespace Go.Ev
variable {P : Program} {E : TypeId → Option (List CK)} {φ : Fi}

/-- Two values that may be absent. -/
def OV (φ : Fi) (v v' : Option Value) : Prop := (v = none ∧ v' = none) ∨ ∃ u u', v = some u ∧ v' = some u' ∧ VR φ u u'

theorem OV.map {r : List Value} {a : Act} (h : RR φ r a.tmps) (x : Option Operand) : OV φ (x.map (ev r)) (x.map a.eval) := by
  cases x with
  | none => exact .inl ⟨rfl, rfl⟩
  | some x => exact .inr ⟨_, _, rfl, rfl, h.ev x⟩

theorem bound_run {u u' : Value} {hi Y r : Nat} (h : bnd (some u) hi 0 = some r) (hu : VR φ u u') (hY : hi ≤ Y) (code : BoundsCode) (w : World) :
    (Instr.sliceBound u' Y code).run P w = .ok r w ∧ r ≤ hi := by
  unfold bnd at h
  split at h
  · rename_i e; cases e
  · rename_i k i e
    cases e
    split at h
    · rename_i hb
      cases h
      obtain rfl := hu.int_inv
      have : 0 ≤ i ∧ i ≤ (Y : Int) := ⟨hb.1, by omega⟩
      exact ⟨by simp [Instr.sliceBound, asIntOf, this], by omega⟩
    · cases h
  · cases h

theorem bnd_dflt {u : Value} {hi d : Nat} : bnd (some u) hi d = bnd (some u) hi 0 := by
  unfold bnd; split <;> first | rfl | cases ‹_›

theorem bnds_run {len cap cap' l h m : Nat} {lo hi mx lo' hi' mx' : Option Value} (hb : bnds len cap lo hi mx = some (l, h, m)) (hlo : OV φ lo lo') (hhi : OV φ hi hi') (hmx : OV φ mx mx')
    (hc : cap ≤ cap') (isSlice : Bool) (w : World) : ∃ m', (Instr.sliceBounds isSlice len cap' lo' hi' mx').run P w = .ok (l, h, m') w ∧
      (mx = none → m' = cap' ∧ m = cap) ∧ (mx ≠ none → m' = m ∧ m ≤ cap) ∧ l ≤ h ∧ (h ≤ m ∨ (hi = none ∧ h = len)) := by
  unfold bnds at hb
  split at hb
  · cases hb
  · rename_i hne
    simp only [Option.bind_eq_some_iff, Option.some.injEq, Prod.mk.injEq] at hb
    obtain ⟨m0, hm, h0, hh, l0, hl, rfl, rfl, rfl⟩ := hb
    rcases hmx with ⟨rfl, rfl⟩ | ⟨um, um', rfl, rfl, hum⟩
    · simp only [bnd, Option.some.injEq] at hm
      subst hm
      rcases hhi with ⟨rfl, rfl⟩ | ⟨uh, uh', rfl, rfl, huh⟩
      · simp only [bnd, Option.some.injEq] at hh
        subst hh
        rcases hlo with ⟨rfl, rfl⟩ | ⟨ul, ul', rfl, rfl, hul⟩
        · simp only [bnd, Option.some.injEq] at hl
          subst hl
          exact ⟨cap', by simp [Instr.sliceBounds], fun _ => ⟨rfl, rfl⟩, fun e => absurd rfl e, Nat.zero_le _, .inr ⟨rfl, rfl⟩⟩
        · obtain ⟨e, hle⟩ := bound_run (P := P) hl hul (Nat.le_refl _) .sliceB w
          exact ⟨cap', by simp [Instr.sliceBounds, e], fun _ => ⟨rfl, rfl⟩, fun e => absurd rfl e, hle, .inr ⟨rfl, rfl⟩⟩
      · rw [bnd_dflt] at hh
        obtain ⟨e, hle⟩ := bound_run (P := P) hh huh hc (if isSlice then .sliceAcap else .sliceAlen) w
        rcases hlo with ⟨rfl, rfl⟩ | ⟨ul, ul', rfl, rfl, hul⟩
        · simp only [bnd, Option.some.injEq] at hl
          subst hl
          exact ⟨cap', by simp [Instr.sliceBounds, e], fun _ => ⟨rfl, rfl⟩, fun e => absurd rfl e, Nat.zero_le _, .inl hle⟩
        · obtain ⟨e2, hle2⟩ := bound_run (P := P) hl hul (Nat.le_refl _) .sliceB w
          exact ⟨cap', by simp [Instr.sliceBounds, e, e2], fun _ => ⟨rfl, rfl⟩, fun e => absurd rfl e, hle2, .inl hle⟩
    · rcases hhi with ⟨rfl, rfl⟩ | ⟨uh, uh', rfl, rfl, huh⟩
      · exact absurd rfl (hne _ rfl)
      · rw [bnd_dflt] at hm hh
        obtain ⟨e0, hle0⟩ := bound_run (P := P) hm hum hc (if isSlice then .slice3Acap else .slice3Alen) w
        obtain ⟨e, hle⟩ := bound_run (P := P) hh huh (Nat.le_refl _) .slice3B w
        rcases hlo with ⟨rfl, rfl⟩ | ⟨ul, ul', rfl, rfl, hul⟩
        · simp only [bnd, Option.some.injEq] at hl
          subst hl
          exact ⟨m0, by simp [Instr.sliceBounds, e0, e], (fun e => by cases e), fun _ => ⟨rfl, hle0⟩, Nat.zero_le _, .inl hle⟩
        · obtain ⟨e2, hle2⟩ := bound_run (P := P) hl hul (Nat.le_refl _) .slice3C w
          exact ⟨m0, by simp [Instr.sliceBounds, e0, e, e2], (fun e => by cases e), fun _ => ⟨rfl, hle0⟩, hle2, .inl hle⟩

theorem evSlice_sound {t : TypeId} {x x' v : Value} {lo hi mx lo' hi' mx' : Option Value} (h : evSlice P t x lo hi mx = some v) (hx : VR φ x x') (hlo : OV φ lo lo') (hhi : OV φ hi hi') (hmx : OV φ mx mx')
    (w : World) : ∃ v', (Instr.sliceAt t x' lo' hi' mx').run P w = .ok v' w ∧ VR φ v v' := by
  unfold evSlice at h
  split at h
  · rename_i s ht
    split at h
    · simp only [Option.bind_eq_some_iff] at h
      obtain ⟨⟨l, hh, m⟩, hb, hv⟩ := h
      cases hv
      obtain rfl := hx.string_inv
      rcases hmx with ⟨_, rfl⟩ | ⟨_, _, e, _⟩
      · obtain ⟨m', e, _⟩ := bnds_run (P := P) hb hlo hhi (.inl ⟨rfl, rfl⟩) (Nat.le_refl _) false w
        exact ⟨_, by simp [Instr.sliceAt, Instr.slice, run_underlying ht, e], .scal _ rfl⟩
      · cases e
    · cases h
  · rename_i e len cap ht
    split at h
    · rename_i inf hi2
      simp only [Option.bind_eq_some_iff] at h
      obtain ⟨⟨l, hh, m⟩, hb, hv⟩ := h
      cases hv
      obtain rfl := hx.snil_inv
      obtain ⟨m', e1, h1, h2, _⟩ := bnds_run (P := P) hb hlo hhi hmx (Nat.le_refl _) true w
      have hm : m' = m := by
        by_cases hn : mx = none
        · rw [(h1 hn).1, (h1 hn).2]
        · exact (h2 hn).1
      subst hm
      exact ⟨_, by simp [Instr.sliceAt, Instr.slice, run_underlying ht, e1, run_sizeOf' hi2], .scal _ rfl⟩
    · cases h
  · rename_i e a len cap ht
    split at h
    · rename_i inf hi2
      simp only [Option.bind_eq_some_iff] at h
      obtain ⟨⟨l, hh, m⟩, hb, hv⟩ := h
      obtain ⟨lc, c', hl, rfl, hex, hgr⟩ := hx.slice_inv
      have hcc : cap ≤ c' := by
        cases hs : a.spot with
        | none => rw [hex hs]; exact Nat.le_refl _
        | some z => exact (hgr z hs).1
      obtain ⟨m', e1, h1, h2, hlh, hhm⟩ := bnds_run (P := P) hb hlo hhi hmx hcc true w
      refine ⟨.slice (some (if m' = l then ⟨lc.blk, lc.off + a.off, none⟩ else (⟨lc.blk, lc.off + a.off, none⟩ : Addr).add (l * inf.size))) (hh - l) (m' - l), ?_, ?_⟩
      · simp only [Instr.sliceAt, Instr.slice, run_underlying ht, e1, run_sizeOf' hi2, Sem.run_bind, Result.andThen_ok]
        split <;> simp [Sem.run_pure]
      · dsimp only at hv
        have exact_ : a.spot = none ∨ mx ≠ none → some (Value.slice (some ⟨a.block, if m = l then a.off else a.off + l * inf.size, none⟩) (hh - l) (m - l)) = some v →
            VR φ v (.slice (some (if m' = l then ⟨lc.blk, lc.off + a.off, none⟩ else (⟨lc.blk, lc.off + a.off, none⟩ : Addr).add (l * inf.size))) (hh - l) (m' - l)) := by
          intro hor hv
          cases hv
          have hm : m' = m := by
            by_cases hn : mx = none
            · rcases hor with hs | hs
              · rw [(h1 hn).1, (h1 hn).2, hex hs]
              · exact absurd hn hs
            · exact (h2 hn).1
          subst hm
          have ea : (if m' = l then (⟨lc.blk, lc.off + a.off, none⟩ : Addr) else (⟨lc.blk, lc.off + a.off, none⟩ : Addr).add (l * inf.size)) =
              ⟨lc.blk, lc.off + (if m' = l then a.off else a.off + l * inf.size), none⟩ := by
            split
            · rfl
            · rw [addr_add, Nat.add_assoc]
          rw [ea]
          exact .sl _ _ _ _ lc hl
        cases hs : a.spot with
        | none =>
          rw [hs] at hv
          exact exact_ (.inl hs) hv
        | some z =>
          cases hmx0 : mx with
          | some q =>
            rw [hs, hmx0] at hv
            exact exact_ (.inr (by rw [hmx0]; simp)) hv
          | none =>
            rw [hs, hmx0] at hv
            dsimp only at hv
            split at hv
            · rename_i hz
              obtain ⟨hz1, hz2⟩ := hz
              cases hv
              obtain ⟨g1, g2, g3⟩ := hgr z hs
              obtain ⟨rfl, rfl⟩ := h1 hmx0
              have ea : (if m' = l then (⟨lc.blk, lc.off + a.off, none⟩ : Addr) else (⟨lc.blk, lc.off + a.off, none⟩ : Addr).add (l * inf.size)) = ⟨lc.blk, lc.off + (a.off + l * inf.size), none⟩ := by
                split
                · rename_i hml
                  have : l = 0 := by omega
                  simp [this]
                · rw [addr_add, Nat.add_assoc]
              rw [ea]
              refine .slg _ _ z _ _ _ lc hl (by omega) (by rcases hhm with hhm | ⟨_, hhm⟩ <;> omega) ?_
              have hlm : l ≤ m' := by rcases hhm with hhm | ⟨_, hhm⟩ <;> omega
              have e2 : (m' - l) * z + l * inf.size = m' * z := by
                rw [← hz1, ← Nat.add_mul, Nat.sub_add_cancel hlm]
              omega
            · cases hv
    · cases h
  · rename_i n e a ht
    split at h
    · rename_i inf hi2
      simp only [Option.bind_eq_some_iff] at h
      obtain ⟨⟨l, hh, m⟩, hb, hv⟩ := h
      split at hv
      · cases hv
        obtain ⟨lc, _, hl, rfl⟩ := hx.ptr_inv
        obtain ⟨m', e1, h1, h2, hlh, hhm⟩ := bnds_run (P := P) hb hlo hhi hmx (Nat.le_refl _) false w
        have hm : m' = m := by
          by_cases hn : mx = none
          · rw [(h1 hn).1, (h1 hn).2]
          · exact (h2 hn).1
        subst hm
        refine ⟨.slice (some (if m' = l then ⟨lc.blk, lc.off + a.off, none⟩ else (⟨lc.blk, lc.off + a.off, none⟩ : Addr).add (l * inf.size))) (hh - l) (m' - l), ?_, ?_⟩
        · simp only [Instr.sliceAt, Instr.sureAddr, run_underlying ht, e1, run_sizeOf' hi2, Sem.run_bind, Result.andThen_ok, Sem.run_pure]
        · have ea : (if m' = l then (⟨lc.blk, lc.off + a.off, none⟩ : Addr) else (⟨lc.blk, lc.off + a.off, none⟩ : Addr).add (l * inf.size)) =
              ⟨lc.blk, lc.off + (if m' = l then a.off else a.off + l * inf.size), none⟩ := by
            split
            · rfl
            · rw [addr_add, Nat.add_assoc]
          rw [ea]
          exact .sl _ _ _ _ lc hl
      · cases hv
    · cases h
  · cases h

theorem evLen_sound {t ty : TypeId} {x x' v : Value} {ts : Array TypeId} (h : evLen P t x = some v) (hx : VR φ x x') (ht : ts[0]? = some t) (w : World) :
    (Builtin.len_ ts ty #[x']).run P w = .ok v w ∧ flat1 v = true := by
  unfold evLen at h
  split at h
  · rename_i s hu
    cases h
    obtain rfl := hx.string_inv
    exact ⟨by simp [Builtin.len_, ht, run_underlying hu, goInt], rfl⟩
  · rename_i e a n c hu
    cases h
    have : ∃ a' c', x' = .slice a' n c' := by
      cases a with
      | none => exact ⟨none, c, hx.snil_inv⟩
      | some a => obtain ⟨l, c', _, rfl, _⟩ := hx.slice_inv; exact ⟨_, _, rfl⟩
    obtain ⟨a', c', rfl⟩ := this
    exact ⟨by simp [Builtin.len_, ht, run_underlying hu, goInt], rfl⟩
  · rename_i n e hu
    cases h
    exact ⟨by simp [Builtin.len_, ht, run_underlying hu, goInt], rfl⟩
  · cases h

theorem evCap_sound {t ty : TypeId} {x x' v : Value} {ts : Array TypeId} (h : evCap P t x = some v) (hx : VR φ x x') (ht : ts[0]? = some t) (w : World) :
    (Builtin.cap_ ts ty #[x']).run P w = .ok v w ∧ flat1 v = true := by
  unfold evCap at h
  split at h
  · rename_i e a n c hu
    cases hs : a.spot with
    | none =>
      simp only [hs, Option.isSome_none, cond_false, Option.some.injEq] at h
      subst h
      obtain ⟨l, c', _, rfl, hex, _⟩ := hx.slice_inv
      rw [hex hs]
      exact ⟨by simp [Builtin.cap_, ht, run_underlying hu, goInt], rfl⟩
    | some z => simp [hs] at h
  · rename_i e n c hu
    cases h
    obtain rfl := hx.snil_inv
    exact ⟨by simp [Builtin.cap_, ht, run_underlying hu, goInt], rfl⟩
  · rename_i n e hu
    cases h
    exact ⟨by simp [Builtin.cap_, ht, run_underlying hu, goInt], rfl⟩
  · cases h

theorem evMin_sound : ∀ {l l' : List Value} {x x' v : Value}, evMin x l = some v → VRs φ l l' → VR φ x x' → ∀ w, ∃ v', (l'.foldlM Builtin.min2 x').run P w = .ok v' w ∧ VR φ v v' := by
  intro l
  induction l with
  | nil =>
    intro l' x x' v h hl hx w
    obtain rfl := hl.inv_nil
    simp only [evMin, Option.some.injEq] at h
    subst h
    exact ⟨x', by simp, hx⟩
  | cons y l ih =>
    intro l' x x' v h hl hx w
    obtain ⟨y', l2, rfl, hy, hl2⟩ := hl.inv_cons
    unfold evMin at h
    split at h
    · cases ‹_ = []›
    · rename_i k a q b rest e
      cases e
      obtain rfl := hx.int_inv
      obtain rfl := hy.int_inv
      obtain ⟨v', e, hv⟩ := ih h hl2 (.scal _ rfl) w
      exact ⟨v', by simp only [List.foldlM_cons, Builtin.min2, Sem.run_bind, Sem.run_pure, Result.andThen_ok]; exact e, hv⟩
    · cases h

theorem evMax_sound : ∀ {l l' : List Value} {x x' v : Value}, evMax x l = some v → VRs φ l l' → VR φ x x' → ∀ w, ∃ v', (l'.foldlM Builtin.max2 x').run P w = .ok v' w ∧ VR φ v v' := by
  intro l
  induction l with
  | nil =>
    intro l' x x' v h hl hx w
    obtain rfl := hl.inv_nil
    simp only [evMax, Option.some.injEq] at h
    subst h
    exact ⟨x', by simp, hx⟩
  | cons y l ih =>
    intro l' x x' v h hl hx w
    obtain ⟨y', l2, rfl, hy, hl2⟩ := hl.inv_cons
    unfold evMax at h
    split at h
    · cases ‹_ = []›
    · rename_i k a q b rest e
      cases e
      obtain rfl := hx.int_inv
      obtain rfl := hy.int_inv
      obtain ⟨v', e, hv⟩ := ih h hl2 (.scal _ rfl) w
      exact ⟨v', by simp only [List.foldlM_cons, Builtin.max2, Sem.run_bind, Sem.run_pure, Result.andThen_ok]; exact e, hv⟩
    · cases h

/-- The parts of a composite, by place. -/
def PR (φ : Fi) (ps ps' : List (Nat × Value)) : Prop := ps.map (·.1) = ps'.map (·.1) ∧ VRs φ (ps.map (·.2)) (ps'.map (·.2))

theorem PR.of {α : Type} (l : List (Nat × α)) {f g : α → Value} (h : ∀ x, VR φ (f x) (g x)) : PR φ (l.map fun p => (p.1, f p.2)) (l.map fun p => (p.1, g p.2)) := by
  refine ⟨by simp [Function.comp_def], ?_⟩
  have e1 : (l.map fun p => (p.1, f p.2)).map (·.2) = l.map fun p => f p.2 := by simp [Function.comp_def]
  have e2 : (l.map fun p => (p.1, g p.2)).map (·.2) = l.map fun p => g p.2 := by simp [Function.comp_def]
  rw [e1, e2]
  exact VRs.map_ev l fun x _ => h x.2

theorem foldl_set_list (news : List Value) : ∀ (off k : Nat) (cs : Array Value), off + k + news.length ≤ cs.size →
    ((news.zipIdx k).foldl (fun cs (p : Value × Nat) => cs.setIfInBounds (off + p.2) p.1) cs).toList = cs.toList.take (off + k) ++ (news ++ cs.toList.drop (off + k + news.length)) := by
  induction news with
  | nil => intro off k cs h; simp
  | cons v news ih =>
    intro off k cs h
    simp only [List.zipIdx_cons, List.foldl_cons]
    rw [ih off (k + 1) (cs.setIfInBounds (off + k) v) (by simp at h ⊢; omega)]
    rw [Array.toList_setIfInBounds]
    have hk : off + k < cs.toList.length := by simp at h ⊢; omega
    have e1 : (cs.toList.set (off + k) v).take (off + (k + 1)) = cs.toList.take (off + k) ++ [v] := by
      have : off + (k + 1) = off + k + 1 := by omega
      rw [this, List.take_succ_eq_append_getElem (by simpa using hk), List.take_set_of_le (Nat.le_refl _)]
      simp
    have e2 : (cs.toList.set (off + k) v).drop (off + (k + 1) + news.length) = cs.toList.drop (off + k + (v :: news).length) := by
      rw [List.drop_set_of_lt (by omega)]
      congr 1
      simp
      omega
    rw [e1, e2]
    simp

theorem evFill_sound {place : Nat → Option (Nat × Nat)} : ∀ {ps ps' : List (Nat × Value)} {cs : List Value} {cs' : Array Value} {r : List Value}, evFill place cs ps = some r → PR φ ps ps' → VRs φ cs cs'.toList →
    ∃ r', Instr.fill place cs' ps' = some r' ∧ VRs φ r r'.toList := by
  intro ps
  induction ps with
  | nil =>
    intro ps' cs cs' r h hp hc
    simp only [evFill, Option.some.injEq] at h
    subst h
    obtain rfl : ps' = [] := by
      have := hp.1
      simp at this
      exact this
    exact ⟨cs', rfl, hc⟩
  | cons p ps ih =>
    intro ps' cs cs' r h hp hc
    obtain ⟨i, v⟩ := p
    cases ps' with
    | nil => simp [PR] at hp
    | cons p' ps' =>
      obtain ⟨i', v'⟩ := p'
      obtain ⟨h1, h2⟩ := hp
      simp only [List.map_cons, List.cons.injEq] at h1
      obtain ⟨rfl, h1⟩ := h1
      obtain ⟨u', us, e, hv, hrest⟩ := VRs.inv_cons h2
      simp only [List.map_cons, List.cons.injEq] at e
      obtain ⟨rfl, rfl⟩ := e
      simp only [evFill] at h
      cases hpl : place i with
      | none => simp [hpl] at h
      | some os =>
        obtain ⟨off, size⟩ := os
        simp only [hpl] at h
        cases hb : (v.cells.toList.all Value.oneCell' && Nat.beq v.cells.size size && Nat.ble (off + v.cells.size) cs.length)
        · rw [hb] at h; cases h
        · rw [hb] at h
          simp only [cond_true] at h
          simp only [Bool.and_eq_true, Nat.beq_eq, Nat.ble_eq] at hb
          obtain ⟨⟨hone, hsz⟩, hfit⟩ := hb
          obtain ⟨hcs, _⟩ := hv.cells hone
          have hcl := hv.cellsL hone
          have hlen : cs.length = cs'.size := by simpa using hc.1
          have hfit' : off + 0 + v'.cells.toList.length ≤ cs'.size := by
            have : v'.cells.toList.length = v.cells.size := by simp [hcs]
            omega
          have hfold := foldl_set_list v'.cells.toList off 0 cs' hfit'
          simp only [Nat.add_zero] at hfold
          obtain ⟨r', e1, e2⟩ := ih (ps' := ps') (cs' := v'.cells.zipIdx.foldl (fun cs (p : Value × Nat) => cs.setIfInBounds (off + p.2) p.1) cs') h ⟨h1, hrest⟩ (by
            have e : (v'.cells.zipIdx.foldl (fun cs (p : Value × Nat) => cs.setIfInBounds (off + p.2) p.1) cs').toList = cs'.toList.take off ++ (v'.cells.toList ++ cs'.toList.drop (off + v'.cells.toList.length)) := by
              rw [← hfold, ← Array.foldl_toList, Array.toList_zipIdx]
            rw [e]
            have hl2 : v'.cells.toList.length = v.cells.size := by simp [hcs]
            rw [hl2]
            exact (hc.take off).append (hcl.append (hc.drop _)))
          refine ⟨r', ?_, e2⟩
          simp only [Instr.fill, hpl]
          have : ¬(v'.cells.size ≠ size ∨ off + v'.cells.size > cs'.size) := by
            rw [← hcs, hsz, ← hlen]
            omega
          simp only [bne_iff_ne, ne_eq, Bool.or_eq_true, decide_eq_true_eq, gt_iff_lt] at this ⊢
          rw [if_neg this]
          exact e1

end Go.Ev


/-
  Every operation on values, held against the model's.
-/
namespace Go.Ev
variable {P : Program} {E : TypeId → Option (List CK)} {φ : Fi}

theorem mapM_sizes (fs : List Field) (w : World) (f : Field → Nat × Nat) (h : ∀ x ∈ fs, (sizeOf x.type).run P w = .ok (f x).2 w ∧ x.offset = (f x).1) :
    (fs.mapM fun x => (do pure (x.offset, ← sizeOf x.type) : Sem (Nat × Nat))).run P w = .ok (fs.map f) w := by
  induction fs with
  | nil => simp
  | cons x fs ih =>
    obtain ⟨h1, h2⟩ := h x (by simp)
    have := ih fun y hy => h y (by simp [hy])
    simp only [List.mapM_cons, Sem.run_bind, h1, Result.andThen_ok, Sem.run_pure, this, List.map_cons, h2]

theorem evFill_places {place place' : Nat → Option (Nat × Nat)} : ∀ (ps : List (Nat × Value)) (cs r : List Value), evFill place cs ps = some r → (∀ i x, place i = some x → place' i = some x) → evFill place' cs ps = some r := by
  intro ps
  induction ps with
  | nil => intro cs r h _; exact h
  | cons p ps ih =>
    intro cs r h hp
    obtain ⟨i, v⟩ := p
    simp only [evFill] at h ⊢
    cases hpl : place i with
    | none => simp [hpl] at h
    | some x =>
      obtain ⟨off, size⟩ := x
      rw [hpl] at h
      rw [hp i _ hpl]
      dsimp only at h ⊢
      cases hb : (v.cells.toList.all Value.oneCell' && Nat.beq v.cells.size size && Nat.ble (off + v.cells.size) cs.length)
      · rw [hb] at h; cases h
      · rw [hb] at h
        simp only [cond_true] at h ⊢
        exact ih _ _ h hp

theorem run_build_struct {t : TypeId} {fs : Array Field} {i : TypeInfo} {z : Value} (hi : P.info? t = some i) (hu : P.underlying t = some (.struct fs)) (hz : i.zero = some z)
    (hall : ∀ f ∈ fs.toList, (P.info? f.type).isSome = true) (ps : Array (Nat × Value)) (r : Array Value) (w : World)
    (hf : Instr.fill (fun j => (fs[j]?).bind fun f => (P.info? f.type).bind fun fi => some (f.offset, fi.size)) z.cells ps.toList = some r) :
    (Instr.build t ps).run P w = .ok (.agg r) w := by
  have hm := mapM_sizes (P := P) fs.toList w (fun f => (f.offset, P.cellsOf f.type)) (fun x hx => by
    have := hall x hx
    cases hx2 : P.info? x.type with
    | none => simp [hx2] at this
    | some fi => exact ⟨by simp [sizeOf, typeInfo, hx2, Program.cellsOf], rfl⟩)
  have hm' : (fs.mapM fun x => (do pure (x.offset, ← sizeOf x.type) : Sem (Nat × Nat))).run P w = .ok (fs.map fun f => (f.offset, P.cellsOf f.type)) w := by
    rw [Array.mapM_eq_mapM_toList, Sem.run_map, hm]
    simp only [Result.andThen_ok, Result.ok.injEq, and_true]
    apply Array.ext'
    simp
  have hpl : (fun (j : Nat) => (fs.map fun (f : Field) => (f.offset, P.cellsOf f.type))[j]?) = (fun (j : Nat) => (fs[j]?).bind fun f => (P.info? f.type).bind fun fi => some (f.offset, fi.size)) := by
    funext j
    cases hj : fs[j]? with
    | none => simp [hj]
    | some f =>
      have hmem : f ∈ fs.toList := by
        rw [← Array.getElem?_toList] at hj
        exact List.mem_of_getElem? hj
      have := hall f hmem
      cases hx2 : P.info? f.type with
      | none => simp [hx2] at this
      | some fi => simp [hj, Program.cellsOf, hx2]
  simp only [Instr.build, Sem.run_bind, run_zeroValue' hi hz, Result.andThen_ok, run_underlying hu, hm', hpl, hf, Sem.run_pure]

theorem evBuild_sound {t : TypeId} {ps ps' : List (Nat × Value)} {v : Value} (h : evBuild P t ps = some v) (hp : PR φ ps ps') (w : World) :
    ∃ v', (Instr.build t ps'.toArray).run P w = .ok v' w ∧ VR φ v v' := by
  unfold evBuild at h
  split at h
  · rename_i i fs hi hu
    split at h
    · rename_i z hz
      cases hall : (fs.toList.all fun f => (P.info? f.type).isSome) && z.cells.toList.all flat1
      · rw [hall] at h; cases h
      · rw [hall] at h
        simp only [cond_true, Option.bind_eq_some_iff, Option.some.injEq] at h
        obtain ⟨cs, hf, rfl⟩ := h
        simp only [Bool.and_eq_true, List.all_eq_true] at hall
        obtain ⟨r', e1, e2⟩ := evFill_sound (φ := φ) hf hp (VRs.flat_self (List.all_eq_true.2 hall.2))
        exact ⟨.agg r', run_build_struct hi hu hz hall.1 _ r' w e1, by have := VR.agg_of e2; simpa using this⟩
    · cases h
  · rename_i i n e hi hu
    split at h
    · rename_i z ei hz he
      cases hall : z.cells.toList.all flat1
      · rw [hall] at h; cases h
      · rw [hall] at h
        simp only [cond_true, Option.bind_eq_some_iff, Option.some.injEq] at h
        obtain ⟨cs, hf, rfl⟩ := h
        obtain ⟨r', e1, e2⟩ := evFill_sound (φ := φ) hf hp (VRs.flat_self hall)
        exact ⟨.agg r', by simp [Instr.build, run_zeroValue' hi hz, run_underlying hu, run_sizeOf' he, e1], by have := VR.agg_of e2; simpa using this⟩
    · cases h
  · cases h

theorem VR.tuple_get {cs : Array Value} {v u : Value} {i : Nat} (h : VR φ (.tuple cs) v) (hs : Nat.beq cs.size 1 = false) (hu : cs[i]? = some u) : ∃ cs' u', v = .tuple cs' ∧ cs'[i]? = some u' ∧ VR φ u u' := by
  cases h with
  | undef => simp at hu
  | sk => cases hs
  | scal _ h => cases h
  | tuple _ cs' h0 hs' hc =>
    have h1 : i < cs.size := (Array.getElem?_eq_some_iff.1 hu).1
    have h2 : i < cs'.size := hs' ▸ h1
    have e : cs[i] = u := (Array.getElem?_eq_some_iff.1 hu).2
    exact ⟨cs', cs'[i], rfl, by simp [h2], e ▸ hc i h1 h2⟩

theorem pure_sound (hE : EqOk P E) {r : List Value} {a : Act} {o : Oper} {v : Value} (h : evPure P E r o.op = some v) (hr : RR φ r a.tmps) (w : World) :
    ∃ v', (execOp a.eval o).run P w = .ok (.value v') w ∧ VR φ v v' := by
  obtain ⟨dst, op, type, pos, after, guard⟩ := o
  dsimp only at h
  unfold evPure at h
  split at h
  · cases h; exact ⟨_, by simp [execOp], hr.ev _⟩
  · cases h; exact ⟨_, by simp [execOp], hr.ev _⟩
  · rename_i c x y
    split at h
    · rename_i t hc
      cases h
      have hc' := hr.ev c
      rw [hc] at hc'
      have e := hc'.bool_inv
      cases t
      · exact ⟨a.eval y, by simp [execOp, e, asBool], hr.ev y⟩
      · exact ⟨a.eval x, by simp [execOp, e, asBool], hr.ev x⟩
    · cases h
  · rename_i op t x y yt
    obtain ⟨e, hf⟩ := evBin_sound hE h (hr.ev x) (hr.ev y) x y w
    exact ⟨v, by simp only [execOp, Sem.run_bind] at e ⊢; rw [e]; rfl, .scal _ hf⟩
  · rename_i op t x
    obtain ⟨e, hf⟩ := evUn_sound (P := P) h (hr.ev x) w
    exact ⟨v, by simp [execOp, e], .scal _ hf⟩
  · rename_i src dst' x
    have hx := hr.ev x
    split at h
    · rename_i ds k q n hs hd he
      cases h
      rw [he] at hx
      have e := hx.int_inv
      refine ⟨_, ?_, .scal _ rfl⟩
      simp only [execOp, e, convert, Sem.run_bind, run_underlying hs, run_underlying hd, Result.andThen_ok, Conv.intToInt, Sem.run_pure]
    · rename_i ds s hs hd he
      cases h
      rw [he] at hx
      have e := hx.string_inv
      refine ⟨_, ?_, .scal _ rfl⟩
      simp [execOp, e, convert, run_underlying hs, run_underlying hd]
    · cases h
  · rename_i x
    have hx := hr.ev x
    split at h
    · rename_i ad he
      cases h
      rw [he] at hx
      obtain ⟨l, _, hl, e⟩ := hx.ptr_inv
      refine ⟨_, ?_, he ▸ hr.ev x⟩
      simp [execOp, e]
    · cases h
  · rename_i x i
    have hx := hr.ev x
    split at h
    · rename_i vs he
      rw [he] at hx
      cases hs : Nat.beq vs.size 1
      · rw [hs] at h
        obtain ⟨cs', u', e1, e2, e3⟩ := hx.tuple_get hs h
        exact ⟨u', by simp [execOp, e1, Instr.extract, e2], e3⟩
      · rw [hs] at h; cases h
    · cases h
  · rename_i t x f
    obtain ⟨v', e, hv⟩ := evField_sound h (hr.ev x) w
    exact ⟨v', by simp [execOp, e], hv⟩
  · rename_i t x ix
    obtain ⟨v', e, hv⟩ := evIndex_sound h (hr.ev x) (hr.ev ix) w
    exact ⟨v', by simp [execOp, e], hv⟩
  · rename_i s x f
    obtain ⟨v', e, hv⟩ := evFieldAddr_sound h (hr.ev x) w
    exact ⟨v', by simp [execOp, e], hv⟩
  · rename_i t x ix
    obtain ⟨v', e, hv⟩ := evIndexAddr_sound h (hr.ev x) (hr.ev ix) w
    exact ⟨v', by simp [execOp, e], hv⟩
  · rename_i t x lo hi mx
    obtain ⟨v', e, hv⟩ := evSlice_sound h (hr.ev x) (.map hr lo) (.map hr hi) (.map hr mx) w
    exact ⟨v', by simp [execOp, e], hv⟩
  · rename_i t parts
    obtain ⟨v', e, hv⟩ := evBuild_sound (ps' := parts.toList.map fun p => (p.1, a.eval p.2)) h (PR.of parts.toList fun x => hr.ev x) w
    refine ⟨v', ?_, hv⟩
    have ep : (parts.map fun (i, x) => (i, a.eval x)) = (parts.toList.map fun p => (p.1, a.eval p.2)).toArray := by
      apply Array.ext'
      simp
    simp only [execOp, Sem.run_bind, ep, e, Result.andThen_ok, Sem.run_pure]
  · rename_i fn first captured
    cases h
    refine ⟨.func fn (first.map a.eval) (captured.map a.eval), by simp [execOp, Instr.makeFunc], ?_⟩
    exact .func fn _ _ _ _ (by simp) (by simp) (fun i h1 h2 => by simpa using hr.ev _) (fun i h1 h2 => by simpa using hr.ev _)
  · rename_i args ts
    split at h
    · rename_i t ts' x ht hx
      have ea : args = #[x] := by apply Array.ext'; simpa using hx
      have et : ts[0]? = some t := by rw [← Array.getElem?_toList, ht]; rfl
      obtain ⟨e, hf⟩ := evLen_sound (P := P) (ty := type) h (hr.ev x) et w
      exact ⟨v, by simp [execOp, resolve, invoke, builtin, ea, e], .scal _ hf⟩
    · cases h
  · rename_i args ts
    split at h
    · rename_i t ts' x ht hx
      have ea : args = #[x] := by apply Array.ext'; simpa using hx
      have et : ts[0]? = some t := by rw [← Array.getElem?_toList, ht]; rfl
      obtain ⟨e, hf⟩ := evCap_sound (P := P) (ty := type) h (hr.ev x) et w
      exact ⟨v, by simp [execOp, resolve, invoke, builtin, ea, e], .scal _ hf⟩
    · cases h
  · rename_i args ts
    split at h
    · rename_i x xs hxs
      have hv : VRs φ (args.toList.map (ev r)) (args.toList.map a.eval) := VRs.map_ev _ fun y _ => hr.ev y
      rw [hxs] at hv
      obtain ⟨x', xs', e1, hx, hxs'⟩ := hv.inv_cons
      obtain ⟨v', e, hv'⟩ := evMin_sound (P := P) h hxs' hx w
      refine ⟨v', ?_, hv'⟩
      simp [execOp, resolve, invoke, builtin, Builtin.min_, e1, e]
    · cases h
  · rename_i args ts
    split at h
    · rename_i x xs hxs
      have hv : VRs φ (args.toList.map (ev r)) (args.toList.map a.eval) := VRs.map_ev _ fun y _ => hr.ev y
      rw [hxs] at hv
      obtain ⟨x', xs', e1, hx, hxs'⟩ := hv.inv_cons
      obtain ⟨v', e, hv'⟩ := evMax_sound (P := P) h hxs' hx w
      refine ⟨v', ?_, hv'⟩
      simp [execOp, resolve, invoke, builtin, Builtin.max_, e1, e]
    · cases h
  · cases h

end Go.Ev
