/-
  append, copy, bytes and strings: held against the model's.
-/
import Derived.Test.YteeclgeoconekaaEvMem2
namespace Go.Ev
variable {P : Program} {E : TypeId → Option (List CK)} {φ : Fi}

/-- What append does with a source of n elements, 'news'. -/
structure Src (P : Program) (ts : Array TypeId) (e : TypeId) (i : TypeInfo) (z : Value) (x' : Value) (n : Nat) (news : Array Value) (w : World) : Prop where
  place : ∀ (ty : TypeId) (base : Option Addr) (sLen sCap : Nat), sLen + n ≤ sCap →
    (Builtin.append_ ts ty #[.slice base sLen sCap, x']).run P w = ((match base with | some a => storeCells (a.add (sLen * i.size)) news.toList | none => pure () : Sem Unit).run P w).andThen fun _ w2 => .ok (.slice base (sLen + n) sCap) w2
  grow : ∀ (ty : TypeId) (base : Option Addr) (sLen sCap : Nat), ¬ sLen + n ≤ sCap → (sLen + n) * i.bytes ≤ 140737488355328 → sLen + n ≤ 4611686018427387904 → ∀ old,
    (Builtin.firstCells i.size sLen (.slice base sLen sCap)).run P w.drew = .ok old w.drew →
    (Builtin.append_ ts ty #[.slice base sLen sCap, x']).run P w = .ok (.slice (some ⟨w.heap.size, 0, none⟩) (sLen + n) (grownCap w (sLen + n) sCap e))
      (w.drew.alloc (.cells (old ++ news ++ Builtin.zeroCells z.cells (grownCap w (sLen + n) sCap e - (sLen + n))) e))

theorem imax : IntKind.i64.max = 9223372036854775807 := by decide

theorem drew_eq (w : World) : ({ w with drawn := w.drawn + 1 } : World) = w.drew := rfl

/-- A source that is a slice or a string. -/
theorem src_of {ts : Array TypeId} {sT xT e : TypeId} {d : TypeDesc} {i : TypeInfo} {z : Value} (h0 : ts[0]? = some sT) (h1 : ts[1]? = some xT) (hs : P.underlying sT = some (.slice e)) (hd : P.underlying xT = some d)
    (hnd : ∀ k, d ≠ .int k) (hi : P.info? e = some i) (hz : i.zero = some z) {x' : Value} {n : Nat} {news : Array Value} {w : World} (hn : (Builtin.lenOf x').run P w = .ok n w)
    (ha : (Builtin.firstCells i.size n x').run P w = .ok news w) (ha' : (Builtin.firstCells i.size n x').run P w.drew = .ok news w.drew) : Src P ts e i z x' n news w := by
  constructor
  · intro ty base sLen sCap hroom
    cases d <;> first | exact absurd rfl (hnd _) | (
      simp only [Builtin.append_, h0, h1, List.getElem?_toArray, List.getElem?_cons_zero, List.getElem?_cons_succ, Sem.run_bind, run_underlying hs, Result.andThen_ok, run_sizeOf' hi, run_underlying hd, Sem.run_pure,
        Bool.false_eq_true, if_false, hn, hroom, if_true, Bool.not_false, ha]
      cases base <;> simp)
  · intro ty base sLen sCap hroom hb h62 old hold
    have hcap := growslice_fits (Nat.not_le.1 hroom) hb
    have nb : ¬(((sLen + n : Nat) : Int) > IntKind.i64.max ∧ i.bytes = 0) := by rw [imax]; omega
    have nc : ¬(Builtin.nextslicecap (sLen + n) sCap * i.bytes > 2 ^ 48) := by omega
    have ti : ∀ w0 : World, (typeInfo e).run P w0 = .ok i w0 := fun w0 => by simp [typeInfo, hi]
    have hch : (choose (.appendCap (sLen + n) sCap e)).run P w = .ok (grownCap w (sLen + n) sCap e) w.drew := rfl
    cases d <;> first | exact absurd rfl (hnd _) | (
      simp only [Builtin.append_, h0, h1, List.getElem?_toArray, List.getElem?_cons_zero, List.getElem?_cons_succ, Sem.run_bind, run_underlying hs, Result.andThen_ok, run_sizeOf' hi, run_underlying hd, Sem.run_pure,
        Bool.false_eq_true, if_false, hn, hroom, Bool.not_false, if_true, ti, nc, nb, false_or, hch, run_askRoom, hold, ha', run_zeroValue' hi hz, run_newRow]
      rfl)

/-- A source that is a number of zeros. -/
theorem src_zeros {ts : Array TypeId} {sT xT e : TypeId} {k q : IntKind} {i : TypeInfo} {z : Value} (h0 : ts[0]? = some sT) (h1 : ts[1]? = some xT) (hs : P.underlying sT = some (.slice e)) (hd : P.underlying xT = some (.int k))
    (hi : P.info? e = some i) (hz : i.zero = some z) (hzs : z.cells.size = i.size) (hpos : 0 < i.size) {m : Int} (m0 : 0 ≤ m) (m1 : m * (i.bytes : Int) ≤ 281474976710656) (m2 : m ≤ 9223372036854775807) (w : World) :
    Src P ts e i z (.int q m) m.toNat (zeros z.cells.toList m.toNat).toArray w := by
  have hw := wrap_in m0 m2
  have n1 : ¬(m < 0) := by omega
  have n2 : ¬(m * (i.bytes : Int) > 2 ^ 48) := by omega
  have ti : ∀ w0 : World, (typeInfo e).run P w0 = .ok i w0 := fun w0 => by simp [typeInfo, hi]
  have happ : ∀ w0 : World, ((if m.toNat * i.size = 0 then pure #[] else do pure (Builtin.zeroCells (← zeroValue e).cells m.toNat)) : Sem (Array Value)).run P w0 = .ok (zeros z.cells.toList m.toNat).toArray w0 := by
    intro w0
    split
    · rename_i h
      have : (zeros z.cells.toList m.toNat).length = 0 := by rw [zeros_length]; simp [hzs, h]
      rw [List.length_eq_zero_iff.1 this]
      rfl
    · rw [Sem.run_bind, run_zeroValue' hi hz]
      simp only [Result.andThen_ok, Sem.run_pure, Result.ok.injEq, and_true]
      apply Array.ext'
      rw [← range_zero z.cells (by omega) (m.toNat * z.cells.size) m.toNat rfl]
      rfl
  constructor
  · intro ty base sLen sCap hroom
    simp only [Builtin.append_, h0, h1, List.getElem?_toArray, List.getElem?_cons_zero, List.getElem?_cons_succ, Sem.run_bind, run_underlying hs, Result.andThen_ok, run_sizeOf' hi, run_underlying hd, Sem.run_pure, if_true, asInt, asIntOf,
      n1, n2, if_false, ti, Bool.not_true, Bool.false_eq_true, hw, hroom]
    rw [happ w]
    cases base <;> simp
  · intro ty base sLen sCap hroom hb h62 old hold
    have hcap := growslice_fits (Nat.not_le.1 hroom) hb
    have nb : ¬(((sLen + m.toNat : Nat) : Int) > IntKind.i64.max) := by rw [imax]; omega
    have nc : ¬(Builtin.nextslicecap (sLen + m.toNat) sCap * i.bytes > 2 ^ 48) := by omega
    have hch : (choose (.appendCap (sLen + m.toNat) sCap e)).run P w = .ok (grownCap w (sLen + m.toNat) sCap e) w.drew := rfl
    simp only [Builtin.append_, h0, h1, List.getElem?_toArray, List.getElem?_cons_zero, List.getElem?_cons_succ, Sem.run_bind, run_underlying hs, Result.andThen_ok, run_sizeOf' hi, run_underlying hd, Sem.run_pure, if_true, asInt, asIntOf,
      n1, n2, if_false, ti, Bool.not_true, Bool.false_eq_true, hw, hroom, nb, nc, false_and, hch, run_askRoom, hold]
    rw [happ w.drew]
    simp only [Result.andThen_ok, run_zeroValue' hi hz, run_newRow]
    rfl

end Go.Ev
