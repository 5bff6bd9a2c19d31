/-
  The evaluator's operations on values, the rest: slices, lengths, composites.
-/
import Derived.Test.YteeclgeoconekaaEvPure
namespace Go.Ev
variable {P : Program} {E : TypeId → Option (List CK)} {φ : Fi}

/-- Two values that may be absent. -/
def OV (φ : Fi) (v v' : Option Value) : Prop := (v = none ∧ v' = none) ∨ ∃ u u', v = some u ∧ v' = some u' ∧ VR φ u u'

theorem OV.map {r : List Value} {a : Act} (h : RR φ r a.tmps) (x : Option Operand) : OV φ (x.map (ev r)) (x.map a.eval) := by
  cases x with
  | none => exact .inl ⟨rfl, rfl⟩
  | some x => exact .inr ⟨_, _, rfl, rfl, h.ev x⟩

theorem bound_run {u u' : Value} {hi Y r : Nat} (h : bnd (some u) hi 0 = some r) (hu : VR φ u u') (hY : hi ≤ Y) (code : BoundsCode) (w : World) :
    (Instr.sliceBound u' Y code).run P w = .ok r w ∧ r ≤ hi := by
  unfold bnd at h
  split at h
  · rename_i e; cases e
  · rename_i k i e
    cases e
    split at h
    · rename_i hb
      cases h
      obtain rfl := hu.int_inv
      have : 0 ≤ i ∧ i ≤ (Y : Int) := ⟨hb.1, by omega⟩
      exact ⟨by simp [Instr.sliceBound, asIntOf, this], by omega⟩
    · cases h
  · cases h

theorem bnd_dflt {u : Value} {hi d : Nat} : bnd (some u) hi d = bnd (some u) hi 0 := by
  unfold bnd; split <;> first | rfl | cases ‹_›

theorem bnds_run {len cap cap' l h m : Nat} {lo hi mx lo' hi' mx' : Option Value} (hb : bnds len cap lo hi mx = some (l, h, m)) (hlo : OV φ lo lo') (hhi : OV φ hi hi') (hmx : OV φ mx mx')
    (hc : cap ≤ cap') (isSlice : Bool) (w : World) : ∃ m', (Instr.sliceBounds isSlice len cap' lo' hi' mx').run P w = .ok (l, h, m') w ∧
      (mx = none → m' = cap' ∧ m = cap) ∧ (mx ≠ none → m' = m ∧ m ≤ cap) ∧ l ≤ h ∧ (h ≤ m ∨ (hi = none ∧ h = len)) := by
  unfold bnds at hb
  split at hb
  · cases hb
  · rename_i hne
    simp only [Option.bind_eq_some_iff, Option.some.injEq, Prod.mk.injEq] at hb
    obtain ⟨m0, hm, h0, hh, l0, hl, rfl, rfl, rfl⟩ := hb
    rcases hmx with ⟨rfl, rfl⟩ | ⟨um, um', rfl, rfl, hum⟩
    · simp only [bnd, Option.some.injEq] at hm
      subst hm
      rcases hhi with ⟨rfl, rfl⟩ | ⟨uh, uh', rfl, rfl, huh⟩
      · simp only [bnd, Option.some.injEq] at hh
        subst hh
        rcases hlo with ⟨rfl, rfl⟩ | ⟨ul, ul', rfl, rfl, hul⟩
        · simp only [bnd, Option.some.injEq] at hl
          subst hl
          exact ⟨cap', by simp [Instr.sliceBounds], fun _ => ⟨rfl, rfl⟩, fun e => absurd rfl e, Nat.zero_le _, .inr ⟨rfl, rfl⟩⟩
        · obtain ⟨e, hle⟩ := bound_run (P := P) hl hul (Nat.le_refl _) .sliceB w
          exact ⟨cap', by simp [Instr.sliceBounds, e], fun _ => ⟨rfl, rfl⟩, fun e => absurd rfl e, hle, .inr ⟨rfl, rfl⟩⟩
      · rw [bnd_dflt] at hh
        obtain ⟨e, hle⟩ := bound_run (P := P) hh huh hc (if isSlice then .sliceAcap else .sliceAlen) w
        rcases hlo with ⟨rfl, rfl⟩ | ⟨ul, ul', rfl, rfl, hul⟩
        · simp only [bnd, Option.some.injEq] at hl
          subst hl
          exact ⟨cap', by simp [Instr.sliceBounds, e], fun _ => ⟨rfl, rfl⟩, fun e => absurd rfl e, Nat.zero_le _, .inl hle⟩
        · obtain ⟨e2, hle2⟩ := bound_run (P := P) hl hul (Nat.le_refl _) .sliceB w
          exact ⟨cap', by simp [Instr.sliceBounds, e, e2], fun _ => ⟨rfl, rfl⟩, fun e => absurd rfl e, hle2, .inl hle⟩
    · rcases hhi with ⟨rfl, rfl⟩ | ⟨uh, uh', rfl, rfl, huh⟩
      · exact absurd rfl (hne _ rfl)
      · rw [bnd_dflt] at hm hh
        obtain ⟨e0, hle0⟩ := bound_run (P := P) hm hum hc (if isSlice then .slice3Acap else .slice3Alen) w
        obtain ⟨e, hle⟩ := bound_run (P := P) hh huh (Nat.le_refl _) .slice3B w
        rcases hlo with ⟨rfl, rfl⟩ | ⟨ul, ul', rfl, rfl, hul⟩
        · simp only [bnd, Option.some.injEq] at hl
          subst hl
          exact ⟨m0, by simp [Instr.sliceBounds, e0, e], (fun e => by cases e), fun _ => ⟨rfl, hle0⟩, Nat.zero_le _, .inl hle⟩
        · obtain ⟨e2, hle2⟩ := bound_run (P := P) hl hul (Nat.le_refl _) .slice3C w
          exact ⟨m0, by simp [Instr.sliceBounds, e0, e, e2], (fun e => by cases e), fun _ => ⟨rfl, hle0⟩, hle2, .inl hle⟩

theorem evSlice_sound {t : TypeId} {x x' v : Value} {lo hi mx lo' hi' mx' : Option Value} (h : evSlice P t x lo hi mx = some v) (hx : VR φ x x') (hlo : OV φ lo lo') (hhi : OV φ hi hi') (hmx : OV φ mx mx')
    (w : World) : ∃ v', (Instr.sliceAt t x' lo' hi' mx').run P w = .ok v' w ∧ VR φ v v' := by
  unfold evSlice at h
  split at h
  · rename_i s ht
    split at h
    · simp only [Option.bind_eq_some_iff] at h
      obtain ⟨⟨l, hh, m⟩, hb, hv⟩ := h
      cases hv
      obtain rfl := hx.string_inv
      rcases hmx with ⟨_, rfl⟩ | ⟨_, _, e, _⟩
      · obtain ⟨m', e, _⟩ := bnds_run (P := P) hb hlo hhi (.inl ⟨rfl, rfl⟩) (Nat.le_refl _) false w
        exact ⟨_, by simp [Instr.sliceAt, Instr.slice, run_underlying ht, e], .scal _ rfl⟩
      · cases e
    · cases h
  · rename_i e len cap ht
    split at h
    · rename_i inf hi2
      simp only [Option.bind_eq_some_iff] at h
      obtain ⟨⟨l, hh, m⟩, hb, hv⟩ := h
      cases hv
      obtain rfl := hx.snil_inv
      obtain ⟨m', e1, h1, h2, _⟩ := bnds_run (P := P) hb hlo hhi hmx (Nat.le_refl _) true w
      have hm : m' = m := by
        by_cases hn : mx = none
        · rw [(h1 hn).1, (h1 hn).2]
        · exact (h2 hn).1
      subst hm
      exact ⟨_, by simp [Instr.sliceAt, Instr.slice, run_underlying ht, e1, run_sizeOf' hi2], .scal _ rfl⟩
    · cases h
  · rename_i e a len cap ht
    split at h
    · rename_i inf hi2
      simp only [Option.bind_eq_some_iff] at h
      obtain ⟨⟨l, hh, m⟩, hb, hv⟩ := h
      obtain ⟨lc, c', hl, rfl, hex, hgr⟩ := hx.slice_inv
      have hcc : cap ≤ c' := by
        cases hs : a.spot with
        | none => rw [hex hs]; exact Nat.le_refl _
        | some z => exact (hgr z hs).1
      obtain ⟨m', e1, h1, h2, hlh, hhm⟩ := bnds_run (P := P) hb hlo hhi hmx hcc true w
      refine ⟨.slice (some (if m' = l then ⟨lc.blk, lc.off + a.off, none⟩ else (⟨lc.blk, lc.off + a.off, none⟩ : Addr).add (l * inf.size))) (hh - l) (m' - l), ?_, ?_⟩
      · simp only [Instr.sliceAt, Instr.slice, run_underlying ht, e1, run_sizeOf' hi2, Sem.run_bind, Result.andThen_ok]
        split <;> simp [Sem.run_pure]
      · dsimp only at hv
        have exact_ : a.spot = none ∨ mx ≠ none → some (Value.slice (some ⟨a.block, if m = l then a.off else a.off + l * inf.size, none⟩) (hh - l) (m - l)) = some v →
            VR φ v (.slice (some (if m' = l then ⟨lc.blk, lc.off + a.off, none⟩ else (⟨lc.blk, lc.off + a.off, none⟩ : Addr).add (l * inf.size))) (hh - l) (m' - l)) := by
          intro hor hv
          cases hv
          have hm : m' = m := by
            by_cases hn : mx = none
            · rcases hor with hs | hs
              · rw [(h1 hn).1, (h1 hn).2, hex hs]
              · exact absurd hn hs
            · exact (h2 hn).1
          subst hm
          have ea : (if m' = l then (⟨lc.blk, lc.off + a.off, none⟩ : Addr) else (⟨lc.blk, lc.off + a.off, none⟩ : Addr).add (l * inf.size)) =
              ⟨lc.blk, lc.off + (if m' = l then a.off else a.off + l * inf.size), none⟩ := by
            split
            · rfl
            · rw [addr_add, Nat.add_assoc]
          rw [ea]
          exact .sl _ _ _ _ lc hl
        cases hs : a.spot with
        | none =>
          rw [hs] at hv
          exact exact_ (.inl hs) hv
        | some z =>
          cases hmx0 : mx with
          | some q =>
            rw [hs, hmx0] at hv
            exact exact_ (.inr (by rw [hmx0]; simp)) hv
          | none =>
            rw [hs, hmx0] at hv
            dsimp only at hv
            split at hv
            · rename_i hz
              obtain ⟨hz1, hz2⟩ := hz
              cases hv
              obtain ⟨g1, g2, g3⟩ := hgr z hs
              obtain ⟨rfl, rfl⟩ := h1 hmx0
              have ea : (if m' = l then (⟨lc.blk, lc.off + a.off, none⟩ : Addr) else (⟨lc.blk, lc.off + a.off, none⟩ : Addr).add (l * inf.size)) = ⟨lc.blk, lc.off + (a.off + l * inf.size), none⟩ := by
                split
                · rename_i hml
                  have : l = 0 := by omega
                  simp [this]
                · rw [addr_add, Nat.add_assoc]
              rw [ea]
              refine .slg _ _ z _ _ _ lc hl (by omega) (by rcases hhm with hhm | ⟨_, hhm⟩ <;> omega) ?_
              have hlm : l ≤ m' := by rcases hhm with hhm | ⟨_, hhm⟩ <;> omega
              have e2 : (m' - l) * z + l * inf.size = m' * z := by
                rw [← hz1, ← Nat.add_mul, Nat.sub_add_cancel hlm]
              omega
            · cases hv
    · cases h
  · rename_i n e a ht
    split at h
    · rename_i inf hi2
      simp only [Option.bind_eq_some_iff] at h
      obtain ⟨⟨l, hh, m⟩, hb, hv⟩ := h
      split at hv
      · cases hv
        obtain ⟨lc, _, hl, rfl⟩ := hx.ptr_inv
        obtain ⟨m', e1, h1, h2, hlh, hhm⟩ := bnds_run (P := P) hb hlo hhi hmx (Nat.le_refl _) false w
        have hm : m' = m := by
          by_cases hn : mx = none
          · rw [(h1 hn).1, (h1 hn).2]
          · exact (h2 hn).1
        subst hm
        refine ⟨.slice (some (if m' = l then ⟨lc.blk, lc.off + a.off, none⟩ else (⟨lc.blk, lc.off + a.off, none⟩ : Addr).add (l * inf.size))) (hh - l) (m' - l), ?_, ?_⟩
        · simp only [Instr.sliceAt, Instr.sureAddr, run_underlying ht, e1, run_sizeOf' hi2, Sem.run_bind, Result.andThen_ok, Sem.run_pure]
        · have ea : (if m' = l then (⟨lc.blk, lc.off + a.off, none⟩ : Addr) else (⟨lc.blk, lc.off + a.off, none⟩ : Addr).add (l * inf.size)) =
              ⟨lc.blk, lc.off + (if m' = l then a.off else a.off + l * inf.size), none⟩ := by
            split
            · rfl
            · rw [addr_add, Nat.add_assoc]
          rw [ea]
          exact .sl _ _ _ _ lc hl
      · cases hv
    · cases h
  · cases h

theorem evLen_sound {t ty : TypeId} {x x' v : Value} {ts : Array TypeId} (h : evLen P t x = some v) (hx : VR φ x x') (ht : ts[0]? = some t) (w : World) :
    (Builtin.len_ ts ty #[x']).run P w = .ok v w ∧ flat1 v = true := by
  unfold evLen at h
  split at h
  · rename_i s hu
    cases h
    obtain rfl := hx.string_inv
    exact ⟨by simp [Builtin.len_, ht, run_underlying hu, goInt], rfl⟩
  · rename_i e a n c hu
    cases h
    have : ∃ a' c', x' = .slice a' n c' := by
      cases a with
      | none => exact ⟨none, c, hx.snil_inv⟩
      | some a => obtain ⟨l, c', _, rfl, _⟩ := hx.slice_inv; exact ⟨_, _, rfl⟩
    obtain ⟨a', c', rfl⟩ := this
    exact ⟨by simp [Builtin.len_, ht, run_underlying hu, goInt], rfl⟩
  · rename_i n e hu
    cases h
    exact ⟨by simp [Builtin.len_, ht, run_underlying hu, goInt], rfl⟩
  · cases h

theorem evCap_sound {t ty : TypeId} {x x' v : Value} {ts : Array TypeId} (h : evCap P t x = some v) (hx : VR φ x x') (ht : ts[0]? = some t) (w : World) :
    (Builtin.cap_ ts ty #[x']).run P w = .ok v w ∧ flat1 v = true := by
  unfold evCap at h
  split at h
  · rename_i e a n c hu
    cases hs : a.spot with
    | none =>
      simp only [hs, Option.isSome_none, cond_false, Option.some.injEq] at h
      subst h
      obtain ⟨l, c', _, rfl, hex, _⟩ := hx.slice_inv
      rw [hex hs]
      exact ⟨by simp [Builtin.cap_, ht, run_underlying hu, goInt], rfl⟩
    | some z => simp [hs] at h
  · rename_i e n c hu
    cases h
    obtain rfl := hx.snil_inv
    exact ⟨by simp [Builtin.cap_, ht, run_underlying hu, goInt], rfl⟩
  · rename_i n e hu
    cases h
    exact ⟨by simp [Builtin.cap_, ht, run_underlying hu, goInt], rfl⟩
  · cases h

theorem evMin_sound : ∀ {l l' : List Value} {x x' v : Value}, evMin x l = some v → VRs φ l l' → VR φ x x' → ∀ w, ∃ v', (l'.foldlM Builtin.min2 x').run P w = .ok v' w ∧ VR φ v v' := by
  intro l
  induction l with
  | nil =>
    intro l' x x' v h hl hx w
    obtain rfl := hl.inv_nil
    simp only [evMin, Option.some.injEq] at h
    subst h
    exact ⟨x', by simp, hx⟩
  | cons y l ih =>
    intro l' x x' v h hl hx w
    obtain ⟨y', l2, rfl, hy, hl2⟩ := hl.inv_cons
    unfold evMin at h
    split at h
    · cases ‹_ = []›
    · rename_i k a q b rest e
      cases e
      obtain rfl := hx.int_inv
      obtain rfl := hy.int_inv
      obtain ⟨v', e, hv⟩ := ih h hl2 (.scal _ rfl) w
      exact ⟨v', by simp only [List.foldlM_cons, Builtin.min2, Sem.run_bind, Sem.run_pure, Result.andThen_ok]; exact e, hv⟩
    · cases h

theorem evMax_sound : ∀ {l l' : List Value} {x x' v : Value}, evMax x l = some v → VRs φ l l' → VR φ x x' → ∀ w, ∃ v', (l'.foldlM Builtin.max2 x').run P w = .ok v' w ∧ VR φ v v' := by
  intro l
  induction l with
  | nil =>
    intro l' x x' v h hl hx w
    obtain rfl := hl.inv_nil
    simp only [evMax, Option.some.injEq] at h
    subst h
    exact ⟨x', by simp, hx⟩
  | cons y l ih =>
    intro l' x x' v h hl hx w
    obtain ⟨y', l2, rfl, hy, hl2⟩ := hl.inv_cons
    unfold evMax at h
    split at h
    · cases ‹_ = []›
    · rename_i k a q b rest e
      cases e
      obtain rfl := hx.int_inv
      obtain rfl := hy.int_inv
      obtain ⟨v', e, hv⟩ := ih h hl2 (.scal _ rfl) w
      exact ⟨v', by simp only [List.foldlM_cons, Builtin.max2, Sem.run_bind, Sem.run_pure, Result.andThen_ok]; exact e, hv⟩
    · cases h

/-- The parts of a composite, by place. -/
def PR (φ : Fi) (ps ps' : List (Nat × Value)) : Prop := ps.map (·.1) = ps'.map (·.1) ∧ VRs φ (ps.map (·.2)) (ps'.map (·.2))

theorem PR.of {α : Type} (l : List (Nat × α)) {f g : α → Value} (h : ∀ x, VR φ (f x) (g x)) : PR φ (l.map fun p => (p.1, f p.2)) (l.map fun p => (p.1, g p.2)) := by
  refine ⟨by simp [Function.comp_def], ?_⟩
  have e1 : (l.map fun p => (p.1, f p.2)).map (·.2) = l.map fun p => f p.2 := by simp [Function.comp_def]
  have e2 : (l.map fun p => (p.1, g p.2)).map (·.2) = l.map fun p => g p.2 := by simp [Function.comp_def]
  rw [e1, e2]
  exact VRs.map_ev l fun x _ => h x.2

theorem foldl_set_list (news : List Value) : ∀ (off k : Nat) (cs : Array Value), off + k + news.length ≤ cs.size →
    ((news.zipIdx k).foldl (fun cs (p : Value × Nat) => cs.setIfInBounds (off + p.2) p.1) cs).toList = cs.toList.take (off + k) ++ (news ++ cs.toList.drop (off + k + news.length)) := by
  induction news with
  | nil => intro off k cs h; simp
  | cons v news ih =>
    intro off k cs h
    simp only [List.zipIdx_cons, List.foldl_cons]
    rw [ih off (k + 1) (cs.setIfInBounds (off + k) v) (by simp at h ⊢; omega)]
    rw [Array.toList_setIfInBounds]
    have hk : off + k < cs.toList.length := by simp at h ⊢; omega
    have e1 : (cs.toList.set (off + k) v).take (off + (k + 1)) = cs.toList.take (off + k) ++ [v] := by
      have : off + (k + 1) = off + k + 1 := by omega
      rw [this, List.take_succ_eq_append_getElem (by simpa using hk), List.take_set_of_le (Nat.le_refl _)]
      simp
    have e2 : (cs.toList.set (off + k) v).drop (off + (k + 1) + news.length) = cs.toList.drop (off + k + (v :: news).length) := by
      rw [List.drop_set_of_lt (by omega)]
      congr 1
      simp
      omega
    rw [e1, e2]
    simp

theorem evFill_sound {place : Nat → Option (Nat × Nat)} : ∀ {ps ps' : List (Nat × Value)} {cs : List Value} {cs' : Array Value} {r : List Value}, evFill place cs ps = some r → PR φ ps ps' → VRs φ cs cs'.toList →
    ∃ r', Instr.fill place cs' ps' = some r' ∧ VRs φ r r'.toList := by
  intro ps
  induction ps with
  | nil =>
    intro ps' cs cs' r h hp hc
    simp only [evFill, Option.some.injEq] at h
    subst h
    obtain rfl : ps' = [] := by
      have := hp.1
      simp at this
      exact this
    exact ⟨cs', rfl, hc⟩
  | cons p ps ih =>
    intro ps' cs cs' r h hp hc
    obtain ⟨i, v⟩ := p
    cases ps' with
    | nil => simp [PR] at hp
    | cons p' ps' =>
      obtain ⟨i', v'⟩ := p'
      obtain ⟨h1, h2⟩ := hp
      simp only [List.map_cons, List.cons.injEq] at h1
      obtain ⟨rfl, h1⟩ := h1
      obtain ⟨u', us, e, hv, hrest⟩ := VRs.inv_cons h2
      simp only [List.map_cons, List.cons.injEq] at e
      obtain ⟨rfl, rfl⟩ := e
      simp only [evFill] at h
      cases hpl : place i with
      | none => simp [hpl] at h
      | some os =>
        obtain ⟨off, size⟩ := os
        simp only [hpl] at h
        cases hb : (v.cells.toList.all Value.oneCell' && Nat.beq v.cells.size size && Nat.ble (off + v.cells.size) cs.length)
        · rw [hb] at h; cases h
        · rw [hb] at h
          simp only [cond_true] at h
          simp only [Bool.and_eq_true, Nat.beq_eq, Nat.ble_eq] at hb
          obtain ⟨⟨hone, hsz⟩, hfit⟩ := hb
          obtain ⟨hcs, _⟩ := hv.cells hone
          have hcl := hv.cellsL hone
          have hlen : cs.length = cs'.size := by simpa using hc.1
          have hfit' : off + 0 + v'.cells.toList.length ≤ cs'.size := by
            have : v'.cells.toList.length = v.cells.size := by simp [hcs]
            omega
          have hfold := foldl_set_list v'.cells.toList off 0 cs' hfit'
          simp only [Nat.add_zero] at hfold
          obtain ⟨r', e1, e2⟩ := ih (ps' := ps') (cs' := v'.cells.zipIdx.foldl (fun cs (p : Value × Nat) => cs.setIfInBounds (off + p.2) p.1) cs') h ⟨h1, hrest⟩ (by
            have e : (v'.cells.zipIdx.foldl (fun cs (p : Value × Nat) => cs.setIfInBounds (off + p.2) p.1) cs').toList = cs'.toList.take off ++ (v'.cells.toList ++ cs'.toList.drop (off + v'.cells.toList.length)) := by
              rw [← hfold, ← Array.foldl_toList, Array.toList_zipIdx]
            rw [e]
            have hl2 : v'.cells.toList.length = v.cells.size := by simp [hcs]
            rw [hl2]
            exact (hc.take off).append (hcl.append (hc.drop _)))
          refine ⟨r', ?_, e2⟩
          simp only [Instr.fill, hpl]
          have : ¬(v'.cells.size ≠ size ∨ off + v'.cells.size > cs'.size) := by
            rw [← hcs, hsz, ← hlen]
            omega
          simp only [bne_iff_ne, ne_eq, Bool.or_eq_true, decide_eq_true_eq, gt_iff_lt] at this ⊢
          rw [if_neg this]
          exact e1

end Go.Ev
