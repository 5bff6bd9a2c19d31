/-
  One operation, held against the model's; what it keeps.
-/
import Derived.Test.YteeclgeoconekaaEvCall
namespace Go.Ev
variable {P : Program} {E : TypeId → Option (List CK)} {φ : Fi} {q : FuncId → Bool} {call : CallFn}

/-- Who is called has a body. -/
def CallDef (P : Program) (call : CallFn) : Prop := ∀ f args M wall r, call f args M wall = some r → ∃ fn, P.funcs[f]? = some fn ∧ fn.body.isSome = true ∧ (fn.name == "runtime.NumGoroutine") = false

theorem evCallee_def (hd : CallDef P call) {M : Mem} {wall : Nat} {f : FuncId} {args : List Value} {r : Value × Mem} (h : evCallee q P call M wall f args = some r) :
    ∃ fn, P.funcs[f]? = some fn ∧ fn.body.isSome = true ∧ (fn.name == "runtime.NumGoroutine") = false := by
  unfold evCallee at h
  cases hq : q f
  · rw [hq] at h; exact hd _ _ _ _ _ h
  · rw [hq] at h
    simp only [cond_true, Option.bind_eq_some_iff] at h
    obtain ⟨x, hx, _⟩ := h
    exact hd _ _ _ _ _ hx

theorem upon_value {o : Oper} {a : Act} {w w' : World} {v' : Value} {next : Act → World → Prop} {Q : Exit → Act → World → Prop} (h : (execOp a.eval o).run P w = .ok (.value v') w') (hn : next (a.put o.dst v') w') :
    o.wp P a w next Q := by
  unfold Oper.wp
  rw [h]
  exact hn

theorem upon_skip {o : Oper} {a : Act} {w w' : World} {next : Act → World → Prop} {Q : Exit → Act → World → Prop} (h : (execOp a.eval o).run P w = .ok .skip w') (hn : next (a.put o.dst undef) w') :
    o.wp P a w next Q := by
  unfold Oper.wp
  rw [h]
  exact hn

/-- A call of a function that has a body. -/
theorem upon_call {o : Oper} {a : Act} {w : World} {next : Act → World → Prop} {Q : Exit → Act → World → Prop} {f : Operand} {args : Array Operand} {ts : Array TypeId} {g : FuncId} {first captured : Array Value} {fn : Func}
    (ho : o.op = .call ⟨.value f, args, ts⟩) (hf : a.eval f = .func (.func g) first captured) (h1 : P.funcs[g]? = some fn) (h2 : fn.body.isSome = true) (h3 : (fn.name == "runtime.NumGoroutine") = false)
    (hc : Calls P g (first ++ args.map a.eval ++ captured) w fun e w' => match e with | .returned v => next (a.put o.dst v) w' | .panicked chain => Q (.panic chain) a w' | .outgrown => LetsOut Q) : o.wp P a w next Q := by
  unfold Oper.wp
  have hb : fn.body.isNone = false := by cases hb : fn.body <;> simp_all
  have : (execOp a.eval o).run P w = .ok (.enter g (first ++ args.map a.eval ++ captured)) w := by
    simp only [execOp, ho, resolve, hf, Deferred.ofValue, Sem.run_bind, Sem.run_pure, Result.andThen_ok, invoke, callFunc, Sem.run, program, h1, h3, hb, Bool.false_eq_true, if_false]
  rw [this]
  simp only [Oper.upon]
  exact hc.mono fun e w' he => by cases e <;> exact he

theorem step_wp (hE : EqOk P E) (hc : CallOk P call) (hk : CallKeeps call) (hd : CallDef P call) {o : Oper} {a : Act} {w : World} {wall : Nat} {r : List Value} {M M' : Mem} {v : Value}
    (h : evStep P E q call wall r M o.op = some (v, M')) (hr : Rel φ M wall w) (hw : wall ≤ M.length) (hrr : RR φ r a.tmps) {next : Act → World → Prop} {Q : Exit → Act → World → Prop}
    (hn : ∀ φ' v' w', VR φ' v v' → Post φ φ' M M' wall w w' → next (a.put o.dst v') w') : o.wp P a w next Q := by
  have pure : ∀ v0 M0, ((evPure P E r o.op).bind fun v => some (v, M)) = some (v0, M0) → (v0, M0) = (v, M') → o.wp P a w next Q := by
    intro v0 M0 h0 he
    cases he
    simp only [Option.bind_eq_some_iff, Option.some.injEq, Prod.mk.injEq] at h0
    obtain ⟨v1, hp, rfl, rfl⟩ := h0
    obtain ⟨v', e1, e2⟩ := pure_sound hE hp hrr w
    exact upon_value e1 (hn φ v' w e2 (Post.refl hr))
  obtain ⟨dst, op, type, pos, after, guard⟩ := o
  dsimp only at h pure hn
  unfold evStep at h
  split at h
  · rename_i t x
    simp only [Option.bind_eq_some_iff, Option.some.injEq, Prod.mk.injEq] at h
    obtain ⟨v1, hl, rfl, rfl⟩ := h
    obtain ⟨v', e1, e2⟩ := evLoad_sound (P := P) hr (evLoadT_some hl) (hrr.ev x)
    exact upon_value (v' := v') (by simp [execOp, e1]) (hn φ v' w e2 (Post.refl hr))
  · rename_i t x y
    simp only [Option.bind_eq_some_iff, Option.some.injEq, Prod.mk.injEq] at h
    obtain ⟨M1, hl, rfl, rfl⟩ := h
    obtain ⟨w', e1, e2⟩ := evStore_sound (P := P) hr hl (hrr.ev x) (hrr.ev y)
    exact upon_skip (w' := w') (by simp [execOp, e1]) (hn φ undef w' (.undef _) e2)
  · rename_i t
    split at h
    · rename_i i hi
      split at h
      · rename_i z hz
        cases hf : flat z
        · rw [hf] at h; cases h
        · rw [hf] at h
          simp only [cond_true] at h
          obtain ⟨φ', r', w', e1, e2, e3⟩ := evBox_sound (P := P) hr h (VR.flat_self (φ := φ) hf)
          exact upon_value (v' := .pointer (some r')) (w' := w') (by simp [execOp, Instr.alloc, run_zeroValue' hi hz, e1]) (hn φ' _ w' e2 e3)
      · cases h
    · cases h
  · rename_i t x
    obtain ⟨φ', r', w', e1, e2, e3⟩ := evBox_sound (P := P) hr h (hrr.ev x)
    exact upon_value (v' := .pointer (some r')) (w' := w') (by simp [execOp, Instr.box, e1]) (hn φ' _ w' e2 e3)
  · rename_i t l c
    obtain ⟨φ', r', w', e1, e2, e3⟩ := evMakeSlice_sound (P := P) hr h (hrr.ev l) (hrr.ev c)
    exact upon_value (v' := r') (w' := w') (by simp [execOp, e1]) (hn φ' _ w' e2 e3)
  · rename_i t n parts
    obtain ⟨φ', r', w', e1, e2, e3⟩ := evBuildSlice_sound (P := P) (ps' := parts.toList.map fun p => (p.1, a.eval p.2)) hr h (PR.of parts.toList fun x => hrr.ev x)
    have ep : (parts.map fun (i, x) => (i, a.eval x)) = (parts.toList.map fun p => (p.1, a.eval p.2)).toArray := by
      apply Array.ext'
      simp
    refine upon_value (v' := r') (w' := w') ?_ (hn φ' _ w' e2 e3)
    simp only [execOp, Sem.run_bind, ep, e1, Result.andThen_ok, Sem.run_pure]
  · rename_i args ts
    split at h
    · rename_i s x hs
      have ea : args = #[s, x] := by apply Array.ext'; simpa using hs
      obtain ⟨φ', r', w', e1, e2, e3⟩ := evAppend_sound (P := P) (ty := type) hr h (hrr.ev s) (hrr.ev x)
      exact upon_value (v' := r') (w' := w') (by simp [execOp, resolve, invoke, builtin, ea, e1]) (hn φ' _ w' e2 e3)
    · cases h
  · rename_i args ts
    split at h
    · rename_i s x hs
      have ea : args = #[s, x] := by apply Array.ext'; simpa using hs
      obtain ⟨r', w', e1, e2, e3⟩ := evCopy_sound (P := P) (ty := type) hr h (hrr.ev s) (hrr.ev x)
      exact upon_value (v' := r') (w' := w') (by simp [execOp, resolve, invoke, builtin, ea, e1]) (hn φ _ w' e2 e3)
    · cases h
  · rename_i f args ts
    have hf := hrr.ev f
    split at h
    · rename_i g first captured he
      rw [he] at hf
      obtain ⟨fn, h1, h2, h3⟩ := evCallee_def (P := P) hd h
      cases hfe : a.eval f with
      | func fn' first' captured' =>
        rw [hfe] at hf
        cases hf with
        | scal _ h => cases h
        | func _ _ _ _ _ hs ht hcs hds =>
          have harr : ∀ (xs ys : Array Value), xs.size = ys.size → (∀ i (h1 : i < xs.size) (h2 : i < ys.size), VR φ xs[i] ys[i]) → VRs φ xs.toList ys.toList := by
            intro xs ys hs hc
            refine ⟨by simpa using hs, fun i u u' h1 h2 => ?_⟩
            have i1 : i < xs.size := by simpa using lt_of_getElem? h1
            have i2 : i < ys.size := by simpa using lt_of_getElem? h2
            have e1 : xs[i] = u := by simpa [i1] using h1
            have e2 : ys[i] = u' := by simpa [i2] using h2
            exact e1 ▸ e2 ▸ hc i i1 i2
          have hargs : VRs φ (first.toList ++ (args.toList.map (ev r) ++ captured.toList)) (first' ++ args.map a.eval ++ captured').toList := by
            have e : (first' ++ args.map a.eval ++ captured').toList = first'.toList ++ (args.toList.map a.eval ++ captured'.toList) := by simp
            rw [e]
            exact (harr _ _ hs hcs).append ((VRs.map_ev _ fun y _ => hrr.ev y).append (harr _ _ ht hds))
          refine upon_call rfl hfe h1 h2 h3 ((evCallee_sound (P := P) hc hk h hr hw hargs).mono ?_)
          rintro e w' ⟨φ', v', rfl, e2, e3⟩
          exact hn φ' v' w' e2 e3
      | _ => rw [hfe] at hf; cases hf
    · cases h
  · rename_i src dst' x
    have hx := hrr.ev x
    split at h
    · rename_i hs hdd
      obtain ⟨φ', r', w', e1, e2, e3⟩ := evConv_sound (P := P) hr h hx
      exact upon_value (v' := r') (w' := w') (by simp [execOp, e1]) (hn φ' _ w' e2 e3)
    · rename_i hs
      obtain ⟨φ', r', w', e1, e2, e3⟩ := evConv_sound (P := P) hr h hx
      exact upon_value (v' := r') (w' := w') (by simp [execOp, e1]) (hn φ' _ w' e2 e3)
    · exact pure _ _ h rfl
  · exact pure _ _ h rfl

theorem Keeps.refl (M : Mem) (wall : Nat) : Keeps M M wall := ⟨Nat.le_refl _, fun _ _ _ => rfl⟩
theorem Keeps.trans {M M1 M2 : Mem} {wall : Nat} (h : Keeps M M1 wall) (h' : Keeps M1 M2 wall) : Keeps M M2 wall :=
  ⟨Nat.le_trans h.1 h'.1, fun b hb hl => (h'.2 b hb (Nat.lt_of_lt_of_le hl h.1)).trans (h.2 b hb hl)⟩
theorem Keeps.push (M : Mem) (wall : Nat) (k : Blk) : Keeps M (M ++ [k]) wall := ⟨by simp, fun b _ hl => List.getElem?_append_left hl⟩
theorem Keeps.set {M : Mem} {wall b : Nat} (h : wall ≤ b) (k : Blk) : Keeps M (M.set b k) wall :=
  ⟨by simp, fun c hc _ => by rw [List.getElem?_set, if_neg (by omega)]⟩
theorem Keeps.put {M M' : Mem} {wall b o : Nat} {vs : List Value} (hw : wall ≤ b) (h : M.put b o vs = some M') : Keeps M M' wall := by
  obtain ⟨k, _, _, _, _, rfl⟩ := Mem.put_some h
  exact .set hw _
theorem Keeps.put1 {M M' : Mem} {wall b o : Nat} {v : Value} (hw : wall ≤ b) (h : M.put1 b o v = some M') : Keeps M M' wall := by
  obtain ⟨k, _, _, _, _, rfl⟩ := Mem.put1_some h
  exact .set hw _

theorem evStore_keeps {M M' : Mem} {wall : Nat} {t : TypeId} {x v : Value} (h : evStore P M wall t x v = some M') : Keeps M M' wall := by
  unfold evStore at h
  split at h
  · rename_i a i hi
    cases hb : (Nat.ble wall a.block && Nat.beq v.cells.size i.size)
    · rw [hb] at h; cases h
    · rw [hb] at h
      simp only [Bool.and_eq_true, Nat.ble_eq] at hb
      simp only [cond_true] at h
      split at h
      · exact .put hb.1 h
      · exact .put1 hb.1 h
  · cases h

theorem evBox_keeps {M M' : Mem} {wall : Nat} {t : TypeId} {v r : Value} (h : evBox M t v = some (r, M')) : Keeps M M' wall := by
  unfold evBox at h
  cases hb : v.cells.toList.all Value.oneCell'
  · rw [hb] at h; cases h
  · rw [hb] at h; cases h; exact .push _ _ _

theorem evMakeSlice_keeps {M M' : Mem} {wall : Nat} {t : TypeId} {l c r : Value} (h : evMakeSlice P M t l c = some (r, M')) : Keeps M M' wall := by
  unfold evMakeSlice at h
  split at h
  · split at h
    · split at h
      · split at h
        · cases h; exact .push _ _ _
        · cases h
      · cases h
    · cases h
  · cases h

theorem evBuildSlice_keeps {M M' : Mem} {wall : Nat} {t : TypeId} {n : Nat} {ps : List (Nat × Value)} {r : Value} (h : evBuildSlice P M t n ps = some (r, M')) : Keeps M M' wall := by
  unfold evBuildSlice at h
  split at h
  · split at h
    · rename_i i _
      split at h
      · rename_i z _
        cases hb : (Nat.ble (n * i.size) 16777216 && Nat.blt 0 i.size && Nat.beq z.cells.size i.size && z.cells.toList.all flat1)
        · rw [hb] at h; cases h
        · rw [hb] at h
          simp only [cond_true, Option.bind_eq_some_iff, Option.some.injEq, Prod.mk.injEq] at h
          obtain ⟨cs, _, _, rfl⟩ := h
          exact .push _ _ _
      · cases h
    · cases h
  · cases h

theorem evGrow_keeps {M M' : Mem} {wall : Nat} {e : TypeId} {i : TypeInfo} {s r : Value} {n : Nat} {news : List Value} (h : evGrow M wall e i s n news = some (r, M')) : Keeps M M' wall := by
  unfold evGrow at h
  split at h
  · cases hb : Nat.beq n 0
    · rw [hb] at h
      simp only [cond_false] at h
      cases hb2 : (Nat.ble (n * i.bytes) 140737488355328 && Nat.ble n 4611686018427387904)
      · rw [hb2] at h; cases h
      · rw [hb2] at h; cases h; exact .push _ _ _
    · rw [hb] at h; cases h; exact .refl _ _
  · rename_i a len cap
    cases hb : Nat.ble (len + n) cap
    · rw [hb] at h
      simp only [cond_false] at h
      cases hb2 : (Nat.ble ((len + n) * i.bytes) 140737488355328 && Nat.ble (len + n) 4611686018427387904)
      · rw [hb2] at h; cases h
      · rw [hb2] at h
        simp only [cond_true, Option.bind_eq_some_iff] at h
        obtain ⟨old, _, h⟩ := h
        split at h
        · cases h; exact .push _ _ _
        · rename_i z _
          cases hb3 : (Nat.beq z i.size && Nat.ble wall a.block && M.elemIs a.block e)
          · rw [hb3] at h; cases h
          · rw [hb3] at h
            simp only [Bool.and_eq_true, Nat.ble_eq] at hb3
            cases h
            exact (Keeps.set hb3.1.2 _).trans (.push _ _ _)
    · rw [hb] at h
      simp only [cond_true] at h
      cases hb2 : Nat.beq n 0
      · rw [hb2] at h
        simp only [cond_false] at h
        cases hb3 : Nat.ble wall a.block
        · rw [hb3] at h; cases h
        · rw [hb3] at h
          simp only [cond_true, Option.bind_eq_some_iff, Option.some.injEq, Prod.mk.injEq] at h
          obtain ⟨M2, hp, _, rfl⟩ := h
          exact .put (Nat.le_of_ble_eq_true hb3) hp
      · rw [hb2] at h; cases h; exact .refl _ _
  · cases h

/-- What is grown turns its own block alone. -/
theorem evGrow_aside {M M' : Mem} {wall : Nat} {e : TypeId} {i : TypeInfo} {a : Addr} {l c : Nat} {r : Value} {n : Nat} {news : List Value} (h : evGrow M wall e i (.slice (some a) l c) n news = some (r, M')) {b : Nat} (hne : a.block ≠ b) (hlt : b < M.length) : M'[b]? = M[b]? := by
  unfold evGrow at h
  dsimp only at h
  cases hb : Nat.ble (l + n) c
  · rw [hb] at h
    simp only [cond_false] at h
    cases hb2 : (Nat.ble ((l + n) * i.bytes) 140737488355328 && Nat.ble (l + n) 4611686018427387904)
    · rw [hb2] at h; cases h
    · rw [hb2] at h
      simp only [cond_true, Option.bind_eq_some_iff] at h
      obtain ⟨old, _, h⟩ := h
      split at h
      · cases h
        rw [List.getElem?_append_left hlt]
      · rename_i z _
        cases hb3 : (Nat.beq z i.size && Nat.ble wall a.block && M.elemIs a.block e)
        · rw [hb3] at h; cases h
        · rw [hb3] at h
          cases h
          rw [List.getElem?_append_left (by simpa [Mem.kill] using hlt)]
          simp only [Mem.kill]
          rw [List.getElem?_set_ne hne]
  · rw [hb] at h
    simp only [cond_true] at h
    cases hb2 : Nat.beq n 0
    · rw [hb2] at h
      simp only [cond_false] at h
      cases hb3 : Nat.ble wall a.block
      · rw [hb3] at h; cases h
      · rw [hb3] at h
        simp only [cond_true, Option.bind_eq_some_iff, Option.some.injEq, Prod.mk.injEq] at h
        obtain ⟨M2, hp, _, rfl⟩ := h
        obtain ⟨k, _, _, _, _, rfl⟩ := Mem.put_some hp
        rw [List.getElem?_set_ne hne]
    · rw [hb2] at h; cases h; rfl
theorem evAppend_aside {M M' : Mem} {wall : Nat} {ts : List TypeId} {a : Addr} {l c : Nat} {x r : Value} (h : evAppend P M wall ts (.slice (some a) l c) x = some (r, M')) {b : Nat} (hne : a.block ≠ b) (hlt : b < M.length) : M'[b]? = M[b]? := by
  unfold evAppend at h
  split at h
  · split at h
    · split at h
      · rename_i i _
        split at h
        · rename_i z _
          cases hb : (Nat.blt 0 i.size && Nat.beq z.cells.size i.size)
          · rw [hb] at h; cases h
          · rw [hb] at h
            simp only [cond_true, Option.bind_eq_some_iff] at h
            obtain ⟨⟨n, news⟩, _, h⟩ := h
            dsimp only at h
            cases hone : news.all Value.oneCell'
            · rw [hone] at h; cases h
            · rw [hone] at h
              exact evGrow_aside h hne hlt
        · cases h
      · cases h
    · cases h
  · cases h

theorem evAppend_keeps {M M' : Mem} {wall : Nat} {ts : List TypeId} {s x r : Value} (h : evAppend P M wall ts s x = some (r, M')) : Keeps M M' wall := by
  unfold evAppend at h
  split at h
  · split at h
    · split at h
      · rename_i i _
        split at h
        · rename_i z _
          cases hb : (Nat.blt 0 i.size && Nat.beq z.cells.size i.size)
          · rw [hb] at h; cases h
          · rw [hb] at h
            simp only [cond_true, Option.bind_eq_some_iff] at h
            obtain ⟨⟨n, news⟩, _, h⟩ := h
            dsimp only at h
            cases hone : news.all Value.oneCell'
            · rw [hone] at h; cases h
            · rw [hone] at h
              exact evGrow_keeps h
        · cases h
      · cases h
    · cases h
  · cases h

theorem evCopy_keeps {M M' : Mem} {wall : Nat} {ts : List TypeId} {d x r : Value} (h : evCopy P M wall ts d x = some (r, M')) : Keeps M M' wall := by
  unfold evCopy at h
  split at h
  · split at h
    · split at h
      · simp only [Option.bind_eq_some_iff] at h
        obtain ⟨⟨n, cs⟩, _, h⟩ := h
        dsimp only at h
        split at h
        · cases hb : Nat.beq n 0
          · rw [hb] at h; cases h
          · rw [hb] at h; cases h; exact .refl _ _
        · rename_i a
          cases hb : Nat.beq n 0
          · rw [hb] at h
            simp only [cond_false] at h
            cases hb3 : Nat.ble wall a.block
            · rw [hb3] at h; cases h
            · rw [hb3] at h
              simp only [cond_true, Option.bind_eq_some_iff, Option.some.injEq, Prod.mk.injEq] at h
              obtain ⟨M2, hp, _, rfl⟩ := h
              exact .put (Nat.le_of_ble_eq_true hb3) hp
          · rw [hb] at h; cases h; exact .refl _ _
      · cases h
    · cases h
  · cases h

theorem evConv_keeps {M M' : Mem} {wall : Nat} {src dst : TypeId} {x r : Value} (h : evConv P M wall src dst x = some (r, M')) : Keeps M M' wall := by
  unfold evConv at h
  split at h
  · split at h
    · cases h; exact .push _ _ _
    · cases h
  · split at h
    · rename_i n _ _ _ _ _
      split at h
      · cases hb : Nat.beq n 0
        · rw [hb] at h; cases h
        · rw [hb] at h; cases h; exact .refl _ _
      · simp only [Option.bind_eq_some_iff, Option.some.injEq, Prod.mk.injEq] at h
        obtain ⟨_, _, _, _, _, rfl⟩ := h
        exact .refl _ _
    · cases h
  · rename_i a _ _ _ _
    split at h
    · cases hb : (Nat.beq src dst && Nat.ble wall a.block && M.liveAt a.block)
      · rw [hb] at h; cases h
      · rw [hb] at h; cases h; exact .refl _ _
    · cases h
  · cases h

/-- What an operation keeps. -/
theorem step_keeps (hk : CallKeeps call) {wall : Nat} {r : List Value} {M M' : Mem} {op : Op} {v : Value} (h : evStep P E q call wall r M op = some (v, M')) : Keeps M M' wall := by
  have pure : ∀ {op0 : Op}, ((evPure P E r op0).bind fun v => some (v, M)) = some (v, M') → Keeps M M' wall := by
    intro op0 h0
    simp only [Option.bind_eq_some_iff, Option.some.injEq, Prod.mk.injEq] at h0
    obtain ⟨_, _, _, rfl⟩ := h0
    exact .refl _ _
  unfold evStep at h
  split at h
  · simp only [Option.bind_eq_some_iff, Option.some.injEq, Prod.mk.injEq] at h
    obtain ⟨_, _, _, rfl⟩ := h
    exact .refl _ _
  · simp only [Option.bind_eq_some_iff, Option.some.injEq, Prod.mk.injEq] at h
    obtain ⟨M1, hs, _, rfl⟩ := h
    exact evStore_keeps hs
  · split at h
    · split at h
      · rename_i z _
        cases hf : flat z
        · rw [hf] at h; cases h
        · rw [hf] at h; exact evBox_keeps h
      · cases h
    · cases h
  · exact evBox_keeps h
  · exact evMakeSlice_keeps h
  · exact evBuildSlice_keeps h
  · split at h
    · exact evAppend_keeps h
    · cases h
  · split at h
    · exact evCopy_keeps h
    · cases h
  · split at h
    · exact (evCallee_keeps hk h).1
    · cases h
  · split at h
    · exact evConv_keeps h
    · exact evConv_keeps h
    · exact pure h
  · exact pure h

end Go.Ev
