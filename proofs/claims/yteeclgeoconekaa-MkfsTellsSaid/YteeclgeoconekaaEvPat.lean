/-
  States by pattern: what a loop's summary looks at.
-/
import Derived.Test.YteeclgeoconekaaEvLoop
namespace Go.Ev

/-- A place of a state: a hole; a pointer to a block's start; nothing. -/
inductive Pt where
  | hole
  | ptr (b : Nat)
  | un

def fit1 : Pt → Value → Option (List Value)
  | .hole, v => some [v]
  | .ptr b, .pointer (some ⟨b', o, none⟩) => cond (Nat.beq b' b && Nat.beq o 0) (some []) none
  | .un, .tuple vs => match vs.toList with | [] => some [] | _ => none
  | _, _ => none

def fitL : List Pt → List Value → Option (List Value)
  | [], [] => some []
  | p :: ps, v :: vs => match fit1 p v with
    | some a => match fitL ps vs with | some b => some (a ++ b) | none => none
    | none => none
  | _, _ => none

/-- Holes filled. -/
def plug : List Pt → List Value → List Value
  | [], _ => []
  | .hole :: ps, h :: hs => h :: plug ps hs
  | .hole :: ps, [] => undef :: plug ps []
  | .ptr b :: ps, hs => .pointer (some ⟨b, 0, none⟩) :: plug ps hs
  | .un :: ps, hs => undef :: plug ps hs

def nholes : List Pt → Nat
  | [] => 0
  | .hole :: ps => nholes ps + 1
  | _ :: ps => nholes ps

theorem fitL_plug : ∀ {ps : List Pt} {vs hs : List Value}, fitL ps vs = some hs → vs = plug ps hs ∧ hs.length = nholes ps := by
  intro ps
  induction ps with
  | nil => intro vs hs h; cases vs with
    | nil => simp [fitL] at h; subst h; exact ⟨rfl, rfl⟩
    | cons => simp [fitL] at h
  | cons p ps ih => intro vs hs h; cases vs with
    | nil => simp [fitL] at h
    | cons v vs =>
      simp only [fitL] at h
      split at h
      · rename_i a ha
        split at h
        · rename_i b hb
          cases h
          obtain ⟨rfl, h2⟩ := ih hb
          cases p with
          | hole => simp only [fit1, Option.some.injEq] at ha; subst ha; exact ⟨rfl, by simp [nholes, h2]⟩
          | ptr n =>
            unfold fit1 at ha
            split at ha
            · cases ‹Pt.ptr n = Pt.hole›
            · rename_i b' o e1
              cases e1
              cases hc : (Nat.beq b' n && Nat.beq o 0)
              · rw [hc] at ha; cases ha
              · rw [hc] at ha
                cases ha
                simp only [Bool.and_eq_true, Nat.beq_eq] at hc
                obtain ⟨rfl, rfl⟩ := hc
                exact ⟨rfl, by simp [nholes, h2]⟩
            · cases ‹Pt.ptr n = Pt.un›
            · cases ha
          | un =>
            unfold fit1 at ha
            split at ha
            · cases ‹Pt.un = Pt.hole›
            · cases ‹Pt.un = Pt.ptr _›
            · split at ha
              · rename_i us _ _ e
                cases ha
                obtain rfl : us = #[] := Array.ext' e
                exact ⟨rfl, by simp [nholes, h2]⟩
              · cases ha
            · cases ha
        · cases h
      · cases h

/-- A block, by pattern: its cells and kind; or any block that lives, whole. -/
inductive MPt where
  | cells (ps : List Pt) (e : Nat)
  | row
  | rowE (e : Nat)

/-- A memory, by pattern. -/
def fitM : List MPt → Mem → Option (List Value)
  | [], [] => some []
  | .cells ps e :: qs, k :: ks => cond (k.live && Nat.beq k.elem e) (match fitL ps k.cells with
    | some a => match fitM qs ks with | some b => some (a ++ b) | none => none
    | none => none) none
  | .row :: qs, k :: ks => cond k.live (match fitM qs ks with | some b => some (.agg k.cells.toArray :: .int .i64 k.elem :: b) | none => none) none
  | .rowE e :: qs, k :: ks => cond (k.live && Nat.beq k.elem e) (match fitM qs ks with | some b => some (.agg k.cells.toArray :: b) | none => none) none
  | _, _ => none

def cellsOf : Value → List Value
  | .agg a => a.toList
  | _ => []
def rowOf : Value → Value → Blk
  | .agg a, .int _ e => ⟨a.toList, e.toNat, true⟩
  | _, _ => ⟨[], 0, true⟩

def plugM : List MPt → List Value → Mem
  | [], _ => []
  | .cells ps e :: qs, hs => ⟨plug ps hs, e, true⟩ :: plugM qs (hs.drop (nholes ps))
  | .row :: qs, a :: e :: hs => rowOf a e :: plugM qs hs
  | .row :: qs, hs => plugM qs hs
  | .rowE e :: qs, a :: hs => ⟨cellsOf a, e, true⟩ :: plugM qs hs
  | .rowE e :: qs, [] => plugM qs []

theorem plug_append {ps : List Pt} : ∀ {a : List Value} (b : List Value), a.length = nholes ps → plug ps (a ++ b) = plug ps a := by
  induction ps with
  | nil => intro a b h; rfl
  | cons p ps ih =>
    intro a b h
    cases p with
    | hole => cases a with
      | nil => simp [nholes] at h
      | cons x a => simp only [List.cons_append, plug]; rw [ih b (by simpa [nholes] using h)]
    | ptr n => simp only [plug]; rw [ih b (by simpa [nholes] using h)]
    | un => simp only [plug]; rw [ih b (by simpa [nholes] using h)]

theorem fitM_plug : ∀ {qs : List MPt} {M : Mem} {hs : List Value}, fitM qs M = some hs → M = plugM qs hs := by
  intro qs
  induction qs with
  | nil => intro M hs h; cases M with
    | nil => rfl
    | cons => simp [fitM] at h
  | cons q qs ih => intro M hs h; cases M with
    | nil => cases q <;> simp [fitM] at h
    | cons k ks =>
      obtain ⟨cells, elem, live⟩ := k
      cases q with
      | cells ps e =>
        simp only [fitM] at h
        cases hc : (live && Nat.beq elem e)
        · rw [hc] at h; cases h
        · rw [hc] at h
          simp only [cond_true] at h
          simp only [Bool.and_eq_true, Nat.beq_eq] at hc
          obtain ⟨rfl, rfl⟩ := hc
          split at h
          · rename_i a ha
            split at h
            · rename_i b hb
              cases h
              obtain ⟨h1, h2⟩ := fitL_plug ha
              have h3 := ih hb
              simp only [plugM]
              rw [plug_append b h2, ← h1, ← h2, List.drop_left, ← h3]
            · cases h
          · cases h
      | row =>
        simp only [fitM] at h
        cases hc : live
        · rw [hc] at h; cases h
        · rw [hc] at h
          simp only [cond_true] at h
          split at h
          · rename_i b hb
            cases h
            simp [plugM, rowOf, ih hb]
          · cases h
      | rowE e =>
        simp only [fitM] at h
        cases hc : (live && Nat.beq elem e)
        · rw [hc] at h; cases h
        · rw [hc] at h
          simp only [cond_true] at h
          simp only [Bool.and_eq_true, Nat.beq_eq] at hc
          obtain ⟨rfl, rfl⟩ := hc
          split at h
          · rename_i b hb
            cases h
            simp [plugM, cellsOf, ih hb]
          · cases h

/-- A state, by pattern. -/
def fitS (rp : List Pt) (mp : List MPt) (r : List Value) (M : Mem) : Option (List Value × List Value) :=
  match fitL rp r with
  | some a => match fitM mp M with | some b => some (a, b) | none => none
  | none => none

theorem fitS_plug {rp : List Pt} {mp : List MPt} {r : List Value} {M : Mem} {a b : List Value} (h : fitS rp mp r M = some (a, b)) : r = plug rp a ∧ M = plugM mp b := by
  unfold fitS at h
  split at h
  · rename_i x hx
    split at h
    · rename_i y hy
      cases h
      exact ⟨(fitL_plug hx).1, fitM_plug hy⟩
    · cases h
  · cases h

/-- A summary of one loop: at its head's number, at a state of this pattern, what the holes tell. -/
def sumAt (id : Nat) (rp : List Pt) (mp : List MPt) (g : List Value → List Value → Option (Kont → Ret)) (L : LoopFn) : LoopFn := fun id' r M =>
  cond (Nat.beq id' id) (match fitS rp mp r M with | some p => g p.1 p.2 | none => none) (L id' r M)
def noSum : LoopFn := fun _ _ _ => none

/-- Places, laid out. -/
def mkP (n : Nat) (l : List (Nat × Pt)) : List Pt := (List.range n).map fun i => match l.lookup i with | some v => v | none => .un

end Go.Ev
