/-
  A deterministic evaluator of the model's code over an abstract memory (a list of blocks): no tape, no order, no capacity.
  Program-independent. What it tells of a call holds of the model's call under every tape (EvSound).
-/
import Derived.WalkKit
namespace Go.Ev

/-- A block of abstract memory. -/
structure Blk where
  cells : List Value
  elem : TypeId
  live : Bool

abbrev Mem := List Blk

/-- What an operation that was not wanted leaves. -/
def sk : Value := .tuple #[.tuple #[]]

def flat1 : Value → Bool
  | .bool _ | .int _ _ | .string _ | .pointer none | .slice none _ _ | .map none | .nilIface | .nilFunc => true
  | _ => false
def flat : Value → Bool
  | .agg cs => cs.toList.all flat1
  | v => flat1 v
def flatR : Value → Bool
  | .tuple vs => vs.toList.all flat && vs.size != 1
  | v => flat v

def Mem.cell (M : Mem) (b o : Nat) : Option Value :=
  match M[b]? with
  | some k => cond k.live k.cells[o]? none
  | none => none

def Mem.row (M : Mem) (b o n : Nat) : Option (List Value) :=
  match M[b]? with
  | some k => cond (k.live && Nat.ble (o + n) k.cells.length) (some ((k.cells.drop o).take n)) none
  | none => none

def Mem.put1 (M : Mem) (b o : Nat) (v : Value) : Option Mem :=
  match M[b]? with
  | some k => cond (k.live && Nat.ble (o + 1) k.cells.length && v.oneCell') (some (M.set b { k with cells := k.cells.set o v })) none
  | none => none

def Mem.put (M : Mem) (b o : Nat) (vs : List Value) : Option Mem :=
  match M[b]? with
  | some k => cond (k.live && Nat.ble (o + vs.length) k.cells.length && vs.all Value.oneCell')
      (some (M.set b { k with cells := k.cells.take o ++ (vs ++ k.cells.drop (o + vs.length)) })) none
  | none => none

def Mem.kill (M : Mem) (b : Nat) : Mem := M.set b { cells := [], elem := 0, live := false }

/-- Is a block one of such elements? -/
def Mem.elemIs (M : Mem) (b e : Nat) : Bool := match M[b]? with | some k => Nat.beq k.elem e | none => false
def Mem.liveAt (M : Mem) (b : Nat) : Bool := match M[b]? with | some k => k.live | none => false

/-- An operand's value. -/
def ev (r : List Value) : Operand → Value
  | .tmp t => r.getD t undef
  | .const v => cond (flat v) v undef
  | .global _ => undef
  | .func f => .func (.func f) #[] #[]

def arith (op : BinOp) (k : IntKind) (a b : Int) : Option Value :=
  match op with
  | .add => some (.int k (k.wrap (a + b)))
  | .sub => some (.int k (k.wrap (a - b)))
  | .mul => some (.int k (k.wrap (a * b)))
  | .quo => if b = 0 then none else some (.int k (k.wrap (a.tdiv b)))
  | .rem => if b = 0 then none else some (.int k (a.tmod b))
  | .and => some (.int k (k.wrap (BitVec.ofInt k.bits a &&& BitVec.ofInt k.bits b).toNat))
  | .or => some (.int k (k.wrap (BitVec.ofInt k.bits a ||| BitVec.ofInt k.bits b).toNat))
  | .xor => some (.int k (k.wrap (BitVec.ofInt k.bits a ^^^ BitVec.ofInt k.bits b).toNat))
  | .andNot => some (.int k (k.wrap (BitVec.ofInt k.bits a &&& ~~~BitVec.ofInt k.bits b).toNat))
  | .eql => some (.bool (a == b))
  | .neq => some (.bool (a != b))
  | .lss => some (.bool (decide (a < b)))
  | .leq => some (.bool (decide (a ≤ b)))
  | .gtr => some (.bool (decide (b < a)))
  | .geq => some (.bool (decide (b ≤ a)))
  | _ => none

def strOp (op : BinOp) (a b : ByteArray) : Option Value :=
  match op with
  | .add => if (a.size : Int) + b.size ≤ 9223372036854775807 then some (.string (a ++ b)) else none
  | .eql => some (.bool (a.toList == b.toList))
  | .neq => some (.bool (!(a.toList == b.toList)))
  | .lss => some (.bool (Op.bytesLess a.toList b.toList))
  | .leq => some (.bool (Op.bytesLess a.toList b.toList || a.toList == b.toList))
  | .gtr => some (.bool (!(Op.bytesLess a.toList b.toList || a.toList == b.toList)))
  | .geq => some (.bool (!(Op.bytesLess a.toList b.toList)))
  | _ => none

/-- Equality of two flat cells of one kind. -/
def eqCell : Value → Value → Option Bool
  | .int k a, .int k' b => if k = k' then some (a == b) else none
  | .bool a, .bool b => some (a == b)
  | .string a, .string b => some (a.toList == b.toList)
  | _, _ => none

def eqCells : List Value → List Value → Option Bool
  | [], [] => some true
  | x :: xs, y :: ys => (eqCell x y).bind fun e => (eqCells xs ys).bind fun es => some (e && es)
  | _, _ => none

/-- The kinds of cells that are compared. -/
inductive CK where
  | int (k : IntKind)
  | bool
  | str

def CK.fits : CK → Value → Bool
  | .int k, .int k' _ => decide (k = k')
  | .bool, .bool _ => true
  | .str, .string _ => true
  | _, _ => false

def fitsAll : List CK → List Value → Bool
  | [], [] => true
  | k :: ks, v :: vs => k.fits v && fitsAll ks vs
  | _, _ => false

/-- Equality, of what is no integer and no string. 'E': the struct and array types whose comparison is one of their cells. -/
def evEq (P : Program) (E : TypeId → Option (List CK)) (t : TypeId) (x y : Value) : Option Bool :=
  match x, y with
  | .bool a, .bool b => match P.underlying t with | some .bool => some (a == b) | _ => none
  | .pointer none, .pointer none => match P.underlying t with | some (.pointer _) => some true | _ => none
  | .pointer none, .pointer (some _) => match P.underlying t with | some (.pointer _) => some false | _ => none
  | .pointer (some _), .pointer none => match P.underlying t with | some (.pointer _) => some false | _ => none
  | .slice none _ _, .slice none _ _ => match P.underlying t with | some (.slice _) => some true | _ => none
  | .slice none _ _, .slice (some _) _ _ => match P.underlying t with | some (.slice _) => some false | _ => none
  | .slice (some _) _ _, .slice none _ _ => match P.underlying t with | some (.slice _) => some false | _ => none
  | .map none, .map none => match P.underlying t with | some (.map _ _) => some true | _ => none
  | .map (some _), .map none => match P.underlying t with | some (.map _ _) => some false | _ => none
  | .agg xs, .agg ys => match E t with | some ks => cond (fitsAll ks xs.toList && fitsAll ks ys.toList) (eqCells xs.toList ys.toList) none | none => none
  | _, _ => none

def evBin (P : Program) (E : TypeId → Option (List CK)) (op : BinOp) (t : TypeId) (x y : Value) : Option Value :=
  match op, x, y with
  | .shl, .int k a, .int _ b => if b < 0 then none else some (.int k (k.wrap (a * 2 ^ (min b.toNat k.bits))))
  | .shr, .int k a, .int _ b => if b < 0 then none else some (.int k (a.fdiv (2 ^ (min b.toNat k.bits))))
  | op, .int k a, .int k' b => if k = k' then arith op k a b else none
  | op, .string a, .string b => strOp op a b
  | .eql, x, y => (evEq P E t x y).bind fun b => some (.bool b)
  | .neq, x, y => (evEq P E t x y).bind fun b => some (.bool (!b))
  | _, _, _ => none

def evUn (op : UnOp) (x : Value) : Option Value :=
  match op, x with
  | .neg, .int k n => arith .sub k 0 n
  | .xor, .int k n => arith .xor k (if k.signed then -1 else k.max) n
  | .not, .bool b => some (.bool (!b))
  | _, _ => none

/-- Is a type a struct or an array? -/
def tyAgg (P : Program) (t : TypeId) : Option Bool :=
  match P.underlying t with
  | some (.struct _) => some true
  | some (.array _ _) => some true
  | some _ => some false
  | none => none

/-- A part of an aggregate. -/
def evPart (P : Program) (t : TypeId) (cs : Array Value) (off : Nat) : Option Value :=
  match tyAgg P t, P.info? t with
  | some true, some i => cond (Nat.ble (off + i.size) cs.size) (some (.agg ((cs.toList.drop off).take i.size).toArray)) none
  | some false, _ => cs[off]?
  | _, _ => none

def evFieldAddr (P : Program) (s : TypeId) (x : Value) (f : Nat) : Option Value :=
  match P.underlying s, x with
  | some (.struct fs), .pointer (some a) =>
    match fs[f]? with
    | some fd => match P.info? fd.type with
      | some i => cond (Nat.beq i.size 0 || a.spot.isSome) none (some (.pointer (some ⟨a.block, a.off + fd.offset, none⟩)))
      | none => none
    | none => none
  | _, _ => none

def evField (P : Program) (s : TypeId) (x : Value) (f : Nat) : Option Value :=
  match P.underlying s, x with
  | some (.struct fs), .agg cs =>
    match fs[f]? with
    | some fd => evPart P fd.type cs fd.offset
    | none => none
  | _, _ => none

def evIndexAddr (P : Program) (t : TypeId) (x ix : Value) : Option Value :=
  match P.underlying t, x, ix with
  | some (.slice e), .slice (some a) len _, .int _ i =>
    match P.info? e with
    | some inf => if 0 ≤ i ∧ i < (len : Int) then some (.pointer (some ⟨a.block, a.off + i.toNat * inf.size, none⟩)) else none
    | none => none
  | some (.array len e), .pointer (some a), .int _ i =>
    match P.info? e with
    | some inf => if a.spot = none ∧ 0 ≤ i ∧ i < (len : Int) then some (.pointer (some ⟨a.block, a.off + i.toNat * inf.size, none⟩)) else none
    | none => none
  | _, _, _ => none

def evIndex (P : Program) (t : TypeId) (x ix : Value) : Option Value :=
  match P.underlying t, x, ix with
  | some (.array len e), .agg cs, .int _ i =>
    match P.info? e with
    | some inf => if 0 ≤ i ∧ i < (len : Int) then evPart P e cs (i.toNat * inf.size) else none
    | none => none
  | some .string, .string s, .int _ i =>
    if 0 ≤ i then (s[i.toNat]?).bind fun b => some (.int .u8 b.toNat) else none
  | _, _, _ => none

/-- A bound of a slice expression. -/
def bnd (v : Option Value) (hi dflt : Nat) : Option Nat :=
  match v with
  | none => some dflt
  | some (.int _ i) => if 0 ≤ i ∧ i ≤ (hi : Int) then some i.toNat else none
  | some _ => none

/-- The bounds: low, high, max. -/
def bnds (len cap : Nat) (lo hi mx : Option Value) : Option (Nat × Nat × Nat) :=
  match hi, mx with
  | none, some _ => none
  | _, _ => (bnd mx cap cap).bind fun m => (bnd hi m len).bind fun h => (bnd lo h 0).bind fun l => some (l, h, m)

def evSlice (P : Program) (t : TypeId) (x : Value) (lo hi mx : Option Value) : Option Value :=
  match P.underlying t, x with
  | some .string, .string s =>
    match mx with
    | none => (bnds s.size s.size lo hi none).bind fun (l, h, _) => some (.string (s.extract l h))
    | some _ => none
  | some (.slice e), .slice none len cap => match P.info? e with
    | some _ => (bnds len cap lo hi mx).bind fun (l, h, m) => some (.slice none (h - l) (m - l))
    | none => none
  | some (.slice e), .slice (some a) len cap =>
    match P.info? e with
    | some inf => (bnds len cap lo hi mx).bind fun (l, h, m) =>
      match a.spot, mx with
      | some z, none => if z = inf.size ∧ (l = 0 ∨ l < cap) then some (.slice (some ⟨a.block, a.off + l * inf.size, some z⟩) (h - l) (cap - l)) else none
      | _, _ => some (.slice (some ⟨a.block, if m = l then a.off else a.off + l * inf.size, none⟩) (h - l) (m - l))
    | none => none
  | some (.array n e), .pointer (some a) =>
    match P.info? e with
    | some inf => (bnds n n lo hi mx).bind fun (l, h, m) =>
      if a.spot = none then some (.slice (some ⟨a.block, if m = l then a.off else a.off + l * inf.size, none⟩) (h - l) (m - l)) else none
    | none => none
  | _, _ => none

def evLen (P : Program) (t : TypeId) (x : Value) : Option Value :=
  match P.underlying t, x with
  | some .string, .string s => some (.int .i64 s.size)
  | some (.slice _), .slice _ n _ => some (.int .i64 n)
  | some (.array n _), _ => some (.int .i64 n)
  | _, _ => none

def evCap (P : Program) (t : TypeId) (x : Value) : Option Value :=
  match P.underlying t, x with
  | some (.slice _), .slice (some a) _ c => cond a.spot.isSome none (some (.int .i64 c))
  | some (.slice _), .slice none _ c => some (.int .i64 c)
  | some (.array n _), _ => some (.int .i64 n)
  | _, _ => none

def evMin : Value → List Value → Option Value
  | v, [] => some v
  | .int k x, .int _ y :: rest => evMin (.int k (if y < x then y else x)) rest
  | _, _ => none
def evMax : Value → List Value → Option Value
  | v, [] => some v
  | .int k x, .int _ y :: rest => evMax (.int k (if x < y then y else x)) rest
  | _, _ => none

/-- The parts of a composite laid into its cells. -/
def evFill (place : Nat → Option (Nat × Nat)) (cells : List Value) : List (Nat × Value) → Option (List Value)
  | [] => some cells
  | (i, v) :: rest =>
    match place i with
    | none => none
    | some (off, size) =>
      cond (v.cells.toList.all Value.oneCell' && Nat.beq v.cells.size size && Nat.ble (off + v.cells.size) cells.length)
        (evFill place (cells.take off ++ (v.cells.toList ++ cells.drop (off + v.cells.size))) rest) none

def evBuild (P : Program) (t : TypeId) (parts : List (Nat × Value)) : Option Value :=
  match P.info? t, P.underlying t with
  | some i, some (.struct fs) =>
    match i.zero with
    | some z => cond ((fs.toList.all fun f => (P.info? f.type).isSome) && z.cells.toList.all flat1)
        ((evFill (fun j => (fs[j]?).bind fun f => (P.info? f.type).bind fun fi => some (f.offset, fi.size)) z.cells.toList parts).bind fun cs => some (.agg cs.toArray)) none
    | none => none
  | some i, some (.array _ e) =>
    match i.zero, P.info? e with
    | some z, some ei => cond (z.cells.toList.all flat1) ((evFill (fun j => some (j * ei.size, ei.size)) z.cells.toList parts).bind fun cs => some (.agg cs.toArray)) none
    | _, _ => none
  | _, _ => none

/-- So many zero elements. -/
def zeros (z : List Value) (n : Nat) : List Value :=
  match z with
  | [v] => List.replicate n v
  | _ => (List.replicate n z).flatten

/-- Operations that neither look at memory nor turn it. -/
def evPure (P : Program) (E : TypeId → Option (List CK)) (r : List Value) (op : Op) : Option Value :=
  match op with
  | .move x => some (ev r x)
  | .assign x => some (ev r x)
  | .pick c a b => match ev r c with | .bool t => some (cond t (ev r a) (ev r b)) | _ => none
  | .binOp op t x y _ => evBin P E op t (ev r x) (ev r y)
  | .unOp op _ x => evUn op (ev r x)
  | .convert src dst x =>
    match P.underlying src, P.underlying dst, ev r x with
    | some _, some (.int k), .int _ n => some (.int k (k.wrap n))
    | some _, some .string, .string s => some (.string s)
    | _, _, _ => none
  | .nilCheck x => match ev r x with | .pointer (some a) => some (.pointer (some a)) | _ => none
  | .extract x i => match ev r x with | .tuple vs => cond (Nat.beq vs.size 1) none vs[i]? | _ => none
  | .field t x f => evField P t (ev r x) f
  | .index t x ix => evIndex P t (ev r x) (ev r ix)
  | .fieldAddr s x f => evFieldAddr P s (ev r x) f
  | .indexAddr t x ix => evIndexAddr P t (ev r x) (ev r ix)
  | .slice t x lo hi mx => evSlice P t (ev r x) (lo.map (ev r)) (hi.map (ev r)) (mx.map (ev r))
  | .build t parts => evBuild P t (parts.toList.map fun p => (p.1, ev r p.2))
  | .makeFunc fn first captured => some (.func fn (first.toList.map (ev r)).toArray (captured.toList.map (ev r)).toArray)
  | .call ⟨.builtin .len, args, ts⟩ => match ts.toList, args.toList with | t :: _, [x] => evLen P t (ev r x) | _, _ => none
  | .call ⟨.builtin .cap, args, ts⟩ => match ts.toList, args.toList with | t :: _, [x] => evCap P t (ev r x) | _, _ => none
  | .call ⟨.builtin .min, args, _⟩ => match args.toList.map (ev r) with | x :: xs => evMin x xs | _ => none
  | .call ⟨.builtin .max, args, _⟩ => match args.toList.map (ev r) with | x :: xs => evMax x xs | _ => none
  | _ => none

def evLoad (P : Program) (M : Mem) (t : TypeId) (x : Value) : Option Value :=
  match x with
  | .pointer (some a) =>
    match tyAgg P t, P.info? t with
    | some true, some i => (M.row a.block a.off i.size).bind fun cs => some (.agg cs.toArray)
    | some false, _ => M.cell a.block a.off
    | _, _ => none
  | _ => none

def intOf : Value → Int
  | .int _ n => n
  | _ => 0
def isInt (k : IntKind) : Value → Bool
  | .int k' _ => match k, k' with
    | .i8, .i8 | .i16, .i16 | .i32, .i32 | .i64, .i64 | .u8, .u8 | .u16, .u16 | .u32, .u32 | .u64, .u64 => true
    | _, _ => false
  | _ => false
def okInt (k : IntKind) : Option Value → Bool | some v => isInt k v | none => false
def intIn : Option Value → Int | some v => intOf v | none => 0

/-- What is loaded; where the type is an integer's, its kind stands out. -/
def evLoadT (P : Program) (M : Mem) (t : TypeId) (x : Value) : Option Value :=
  match P.underlying t with
  | some (.int k) => cond (okInt k (evLoad P M t x)) (some (.int k (intIn (evLoad P M t x)))) none
  | _ => evLoad P M t x

def evStore (P : Program) (M : Mem) (wall : Nat) (t : TypeId) (x v : Value) : Option Mem :=
  match x, P.info? t with
  | .pointer (some a), some i =>
    cond (Nat.ble wall a.block && Nat.beq v.cells.size i.size)
      (match v with
       | .agg cs => M.put a.block a.off cs.toList
       | v => M.put1 a.block a.off v) none
  | _, _ => none

def evBox (M : Mem) (t : TypeId) (v : Value) : Option (Value × Mem) :=
  cond (v.cells.toList.all Value.oneCell') (some (.pointer (some ⟨M.length, 0, none⟩), M ++ [⟨v.cells.toList, t, true⟩])) none

def evMakeSlice (P : Program) (M : Mem) (t : TypeId) (len cap : Value) : Option (Value × Mem) :=
  match P.underlying t, len, cap with
  | some (.slice e), .int _ l, .int _ c =>
    match P.info? e with
    | some i => match i.zero with
      | some z =>
        if 0 ≤ l ∧ l ≤ c ∧ (i.bytes : Int) * c ≤ 281474976710656 ∧ c ≤ 9223372036854775807 ∧ 0 < i.size ∧ z.cells.size = i.size ∧ z.cells.toList.all flat1 = true then
          some (.slice (some ⟨M.length, 0, none⟩) l.toNat c.toNat, M ++ [⟨zeros z.cells.toList c.toNat, e, true⟩])
        else none
      | none => none
    | none => none
  | _, _, _ => none

def evBuildSlice (P : Program) (M : Mem) (t : TypeId) (len : Nat) (parts : List (Nat × Value)) : Option (Value × Mem) :=
  match P.underlying t with
  | some (.slice e) =>
    match P.info? e with
    | some i => match i.zero with
      | some z => cond (Nat.ble (len * i.size) 16777216 && Nat.blt 0 i.size && Nat.beq z.cells.size i.size && z.cells.toList.all flat1)
          ((evFill (fun j => some (j * i.size, i.size)) (zeros z.cells.toList len) parts).bind fun cs =>
            some (.slice (some ⟨M.length, 0, none⟩) len len, M ++ [⟨cs, e, true⟩])) none
      | none => none
    | none => none
  | _ => none

def strCells (s : ByteArray) : List Value := s.data.toList.map fun b => .int .u8 b.toNat

/-- What is appended: how many elements, and their cells. -/
def evSrc (P : Program) (M : Mem) (i : TypeInfo) (ts : List TypeId) (x : Value) : Option (Nat × List Value) :=
  match ts with
  | [_, xT] =>
    match P.underlying xT with
    | some (.int _) =>
      match x, i.zero with
      | .int _ n, some z => if 0 ≤ n ∧ n * (i.bytes : Int) ≤ 281474976710656 ∧ n ≤ 9223372036854775807 ∧ z.cells.size = i.size ∧ z.cells.toList.all flat1 = true then some (n.toNat, zeros z.cells.toList n.toNat) else none
      | _, _ => none
    | some _ =>
      match x with
      | .slice none 0 _ => some (0, [])
      | .slice (some a) n _ => (M.row a.block a.off (n * i.size)).bind fun cs => some (n, cs)
      | .string s => cond (Nat.beq i.size 1) (some (s.size, strCells s)) none
      | _ => none
    | none => none
  | _ => none

def evGrow (M : Mem) (wall : Nat) (e : TypeId) (i : TypeInfo) (s : Value) (n : Nat) (news : List Value) : Option (Value × Mem) :=
  match s with
  | .slice none 0 0 =>
    cond (Nat.beq n 0) (some (.slice none 0 0, M))
      (cond (Nat.ble (n * i.bytes) 140737488355328 && Nat.ble n 4611686018427387904) (some (.slice (some ⟨M.length, 0, some i.size⟩) n n, M ++ [⟨news, e, true⟩])) none)
  | .slice (some a) len cap =>
    cond (Nat.ble (len + n) cap)
      (cond (Nat.beq n 0) (some (.slice (some a) len cap, M))
        (cond (Nat.ble wall a.block) ((M.put a.block (a.off + len * i.size) news).bind fun M => some (.slice (some a) (len + n) cap, M)) none))
      (cond (Nat.ble ((len + n) * i.bytes) 140737488355328 && Nat.ble (len + n) 4611686018427387904)
        ((M.row a.block a.off (len * i.size)).bind fun old =>
          match a.spot with
          | none => some (.slice (some ⟨M.length, 0, some i.size⟩) (len + n) (len + n), M ++ [⟨old ++ news, e, true⟩])
          | some z => cond (Nat.beq z i.size && Nat.ble wall a.block && M.elemIs a.block e)
              (some (.slice (some ⟨M.length, 0, some i.size⟩) (len + n) (len + n), M.kill a.block ++ [⟨old ++ news, e, true⟩])) none)
        none)
  | _ => none

def evAppend (P : Program) (M : Mem) (wall : Nat) (ts : List TypeId) (s x : Value) : Option (Value × Mem) :=
  match ts with
  | sT :: _ =>
    match P.underlying sT with
    | some (.slice e) =>
      match P.info? e with
      | some i => match i.zero with
        | some z => cond (Nat.blt 0 i.size && Nat.beq z.cells.size i.size) ((evSrc P M i ts x).bind fun (n, news) => cond (news.all Value.oneCell') (evGrow M wall e i s n news) none) none
        | none => none
      | none => none
    | _ => none
  | _ => none

def evCopy (P : Program) (M : Mem) (wall : Nat) (ts : List TypeId) (d x : Value) : Option (Value × Mem) :=
  match ts, d with
  | sT :: _, .slice da dLen _ =>
    match P.underlying sT with
    | some (.slice e) =>
      match P.info? e with
      | some i =>
        (match x with
          | .slice none 0 _ => some (0, [])
          | .slice (some a) n _ => (M.row a.block a.off (min n dLen * i.size)).bind fun cs => some (min n dLen, cs)
          | .string s => cond (Nat.beq i.size 1) (some (min s.size dLen, (strCells s).take (min s.size dLen))) none
          | _ => none : Option (Nat × List Value)).bind fun (n, cs) =>
        match da with
        | none => cond (Nat.beq n 0) (some (.int .i64 0, M)) none
        | some a => cond (Nat.beq n 0) (some (.int .i64 0, M))
            (cond (Nat.ble wall a.block) ((M.put a.block a.off cs).bind fun M => some (.int .i64 n, M)) none)
      | none => none
    | _ => none
  | _, _ => none

def byteOf? : Value → Option UInt8
  | .int .u8 n => some (UInt8.ofNat n.toNat)
  | _ => none

def evConv (P : Program) (M : Mem) (wall : Nat) (src dst : TypeId) (x : Value) : Option (Value × Mem) :=
  match P.underlying src, P.underlying dst, x with
  | some .string, some (.slice e), .string s =>
    match P.underlying e with
    | some (.int .u8) => some (.slice (some ⟨M.length, 0, some 1⟩) s.size s.size, M ++ [⟨strCells s, e, true⟩])
    | _ => none
  | some (.slice e), some .string, .slice a n _ =>
    match P.underlying e with
    | some (.int .u8) =>
      match a with
      | none => cond (Nat.beq n 0) (some (.string .empty, M)) none
      | some a => (M.row a.block a.off n).bind fun cs => (cs.mapM byteOf?).bind fun bs => some (.string ⟨bs.toArray⟩, M)
    | _ => none
  | some (.slice _), some (.slice e), .slice (some a) n c =>
    match P.underlying e with
    | some (.int .u8) => cond (Nat.beq src dst && Nat.ble wall a.block && M.liveAt a.block) (some (.slice (some a) n c, M)) none
    | _ => none
  | _, _, _ => none

def trimLen (a : Addr) (n c : Nat) : Nat := match a.spot with | none => c | some _ => n
def trimOk (a : Addr) : Bool := match a.spot with | none => true | some z => Nat.beq z 1

/-- A slice of flat cells alone is kept of what a call made. -/
def trim1 (P : Program) (M M' : Mem) (v : Value) : Option (Value × Blk) :=
  match v with
  | .slice (some a) n c =>
    match M'[a.block]? with
    | some k =>
      cond (Nat.ble M.length a.block && k.live && Nat.beq (P.cellsOf k.elem) 1 && trimOk a && Nat.ble (a.off + trimLen a n c) k.cells.length && ((k.cells.drop a.off).take (trimLen a n c)).all flat1)
        (some (.slice (some ⟨M.length, 0, a.spot⟩) n (trimLen a n c), ⟨(k.cells.drop a.off).take (trimLen a n c), k.elem, true⟩)) none
    | none => none
  | _ => none

/-- What stays of the memory that a call that turns nothing made. -/
def trim (P : Program) (M M' : Mem) (v : Value) : Value × Mem :=
  cond (flatR v) (v, M)
    (match v with
     | .tuple vs =>
       match vs.toList with
       | [a, b] => cond (flat b) (match trim1 P M M' a with | some (a', k) => (.tuple #[a', b], M ++ [k]) | none => (v, M')) (v, M')
       | _ => (v, M')
     | v => match trim1 P M M' v with | some (v', k) => (v', M ++ [k]) | none => (v, M'))

abbrev CallFn := FuncId → List Value → Mem → Nat → Option (Value × Mem)

def evCallee (q : FuncId → Bool) (P : Program) (call : CallFn) (M : Mem) (wall : Nat) (f : FuncId) (args : List Value) : Option (Value × Mem) :=
  cond (q f) ((call f args M M.length).bind fun p => some (trim P M p.2 p.1)) (call f args M wall)

/-- One operation. -/
def evStep (P : Program) (E : TypeId → Option (List CK)) (q : FuncId → Bool) (call : CallFn) (wall : Nat) (r : List Value) (M : Mem) (op : Op) : Option (Value × Mem) :=
  match op with
  | .load t x => (evLoadT P M t (ev r x)).bind fun v => some (v, M)
  | .store t x v => (evStore P M wall t (ev r x) (ev r v)).bind fun M => some (undef, M)
  | .alloc t => match P.info? t with | some i => (match i.zero with | some z => cond (flat z) (evBox M t z) none | none => none) | none => none
  | .box t x => evBox M t (ev r x)
  | .makeSlice t l c => evMakeSlice P M t (ev r l) (ev r c)
  | .buildSlice t n parts => evBuildSlice P M t n (parts.toList.map fun p => (p.1, ev r p.2))
  | .call ⟨.builtin .append, args, ts⟩ => match args.toList with | [s, x] => evAppend P M wall ts.toList (ev r s) (ev r x) | _ => none
  | .call ⟨.builtin .copy, args, ts⟩ => match args.toList with | [d, x] => evCopy P M wall ts.toList (ev r d) (ev r x) | _ => none
  | .call ⟨.value f, args, _⟩ =>
    match ev r f with
    | .func (.func g) first captured => evCallee q P call M wall g (first.toList ++ (args.toList.map (ev r) ++ captured.toList))
    | _ => none
  | .convert src dst x =>
    match ev r x, P.underlying dst with
    | .string _, some (.slice _) => evConv P M wall src dst (ev r x)
    | .slice _ _ _, _ => evConv P M wall src dst (ev r x)
    | _, _ => (evPure P E r op).bind fun v => some (v, M)
  | op => (evPure P E r op).bind fun v => some (v, M)

def put (r : List Value) (dst : Option Tmp) (v : Value) : List Value :=
  match dst with
  | some d => r.set d v
  | none => r

/-- What stands in the slot of the operation that guards. -/
def guardVal (ops : Array Oper) (r : List Value) (j : Nat) : Value :=
  match (ops[j]?).bind (·.dst) with
  | some d => r.getD d undef
  | none => undef

def isSk : Value → Bool
  | .tuple vs => match vs.toList with | [.tuple us] => us.isEmpty | _ => false
  | _ => false

/-- A guard that has been asked, what it wants, what it told. -/
abbrev Guarded := Option (Nat × Bool × Bool)

def decided (cg : Guarded) (j : Nat) (want : Bool) : Option Bool :=
  match cg with
  | some (j', want', d) => cond (Nat.beq j' j && (want' == want)) (some d) none
  | none => none

def keepsGuard (ops : Array Oper) (cg : Guarded) (dst : Option Tmp) : Guarded :=
  match cg, dst with
  | some (j, w, d), some t => match (ops[j]?).bind (·.dst) with
    | some u => cond (Nat.beq u t) none (some (j, w, d))
    | none => some (j, w, d)
  | cg, _ => cg

abbrev Ret := Option (Value × Mem)

def okBool : Option Value → Bool | some (.bool _) => true | _ => false
def boolIn : Option Value → Bool | some (.bool b) => b | _ => false
def bndG (v : Option Value) (hi : Nat) : Bool := match v with | none => true | some (.int _ i) => decide (0 ≤ i) && decide (i ≤ (hi : Int)) | some _ => false
def bndV (v : Option Value) (dflt : Nat) : Nat := match v with | some (.int _ i) => i.toNat | _ => dflt

/-- Operations whose value stands out and that may fail at a check alone: the check and the value. -/
def chk (P : Program) (r : List Value) (M : Mem) (op : Op) : Option (Bool × Value) :=
  match op with
  | .load t x => match P.underlying t with
    | some (.int k) => some (okInt k (evLoad P M t (ev r x)), .int k (intIn (evLoad P M t (ev r x))))
    | some .bool => some (okBool (evLoad P M t (ev r x)), .bool (boolIn (evLoad P M t (ev r x))))
    | _ => none
  | .indexAddr t x ix => match P.underlying t, ev r x, ev r ix with
    | some (.slice e), .slice (some a) len _, .int _ i => match P.info? e with
      | some inf => some (decide (0 ≤ i) && decide (i < (len : Int)), .pointer (some ⟨a.block, a.off + i.toNat * inf.size, none⟩))
      | none => none
    | some (.array len e), .pointer (some a), .int _ i => match P.info? e with
      | some inf => some (a.spot.isNone && (decide (0 ≤ i) && decide (i < (len : Int))), .pointer (some ⟨a.block, a.off + i.toNat * inf.size, none⟩))
      | none => none
    | _, _, _ => none
  | .binOp .quo _ x y _ => match ev r x, ev r y with
    | .int k a, .int k' b => some (decide (k = k') && !(b == 0), .int k (k.wrap (a.tdiv b)))
    | _, _ => none
  | .binOp .rem _ x y _ => match ev r x, ev r y with
    | .int k a, .int k' b => some (decide (k = k') && !(b == 0), .int k (a.tmod b))
    | _, _ => none
  | .slice t x lo hi none => match P.underlying t, ev r x with
    | some (.slice e), .slice (some a) len cap => match P.info? e with
      | some inf => match a.spot with
        | none => some (bndG (hi.map (ev r)) cap && bndG (lo.map (ev r)) (bndV (hi.map (ev r)) len),
            .slice (some ⟨a.block, if cap = bndV (lo.map (ev r)) 0 then a.off else a.off + bndV (lo.map (ev r)) 0 * inf.size, none⟩) (bndV (hi.map (ev r)) len - bndV (lo.map (ev r)) 0) (cap - bndV (lo.map (ev r)) 0))
        | some z => some (bndG (hi.map (ev r)) cap && bndG (lo.map (ev r)) (bndV (hi.map (ev r)) len) && (Nat.beq z inf.size && (Nat.beq (bndV (lo.map (ev r)) 0) 0 || Nat.blt (bndV (lo.map (ev r)) 0) cap)),
            .slice (some ⟨a.block, a.off + bndV (lo.map (ev r)) 0 * inf.size, some z⟩) (bndV (hi.map (ev r)) len - bndV (lo.map (ev r)) 0) (cap - bndV (lo.map (ev r)) 0))
      | none => none
    | some (.array n e), .pointer (some a) => match P.info? e with
      | some inf => some (a.spot.isNone && (bndG (hi.map (ev r)) n && bndG (lo.map (ev r)) (bndV (hi.map (ev r)) n)),
          .slice (some ⟨a.block, if n = bndV (lo.map (ev r)) 0 then a.off else a.off + bndV (lo.map (ev r)) 0 * inf.size, none⟩) (bndV (hi.map (ev r)) n - bndV (lo.map (ev r)) 0) (n - bndV (lo.map (ev r)) 0))
      | none => none
    | _, _ => none
  | _ => none

/-- A truth that has been asked for is laid into its slot bare (the same value). -/
def bare (r : List Value) (d : Option Tmp) (b : Bool) : List Value := match d with | some d => r.set d (.bool b) | none => r
def bareOp (r : List Value) (c : Operand) (b : Bool) : List Value := match c with | .tmp d => r.set d (.bool b) | _ => r

/-- Operations in an order. -/
def evOps (P : Program) (E : TypeId → Option (List CK)) (q : FuncId → Bool) (call : CallFn) (ops : Array Oper) (wallOf : Nat → List Value → Nat) :
    List Nat → Guarded → List Value → Mem → (List Value → Mem → Ret) → Ret
  | [], _, r, M, κ => κ r M
  | i :: rest, cg, r, M, κ =>
    match ops[i]? with
    | none => none
    | some o =>
      let exec : Guarded → List Value → Ret := fun cg r => match chk P r M o.op with
        | some gv => cond gv.1 (evOps P E q call ops wallOf rest (keepsGuard ops cg o.dst) (put r o.dst gv.2) M κ) none
        | none => (evStep P E q call (wallOf i r) r M o.op).bind fun p => evOps P E q call ops wallOf rest (keepsGuard ops cg o.dst) (put r o.dst p.1) p.2 κ
      let skip : Guarded → List Value → Ret := fun cg r => evOps P E q call ops wallOf rest (keepsGuard ops cg o.dst) (put r o.dst sk) M κ
      match o.guard with
      | none => exec cg r
      | some (j, want) =>
        match decided cg j want with
        | some true => exec cg r
        | some false => skip cg r
        | none =>
          match guardVal ops r j with
          | .bool b => cond want
              (cond b (exec (some (j, want, true)) (bare r ((ops[j]?).bind (·.dst)) true)) (skip (some (j, want, false)) (bare r ((ops[j]?).bind (·.dst)) false)))
              (cond b (skip (some (j, want, false)) (bare r ((ops[j]?).bind (·.dst)) true)) (exec (some (j, want, true)) (bare r ((ops[j]?).bind (·.dst)) false)))
          | v => cond (isSk v) (skip cg r) none

/-- What is known of a region ahead: which slots live; the order in which a region that draws is gone through; which loads stand beside which loud operation. -/
structure RAnn where
  live : Option (List Nat) := none
  ord : List Nat := []
  conf : List (Nat × List Nat) := []

/-- Slots that live stay. -/
def keep (L : List Nat) (r : List Value) : List Value := L.foldl (fun acc t => acc.set t (r.getD t undef)) (List.replicate r.length undef)

def keepO (o : Option (List Nat)) (r : List Value) : List Value := match o with | some L => keep L r | none => r

/-- A list laid out, place by place. -/
def forceL {α : Type} : List α → (List α → Ret) → Ret
  | [], k => k []
  | x :: xs, k => forceL xs fun xs => k (x :: xs)

/-- Does a value name blocks below a bound alone? -/
def low1 (n : Nat) : Value → Bool
  | .pointer (some a) => Nat.blt a.block n
  | .slice (some a) _ _ => Nat.blt a.block n
  | .tuple vs => vs.isEmpty
  | v => flat1 v
def low (n : Nat) : Value → Bool
  | .agg cs => cs.toList.all (low1 n)
  | v => low1 n v || isSk v

/-- At a block's end: slots that live stay; what was made since its start and is named no more goes. -/
def tidy (L : Option (List Nat)) (n : Nat) (r : List Value) (M : Mem) (κ : List Value → Mem → Ret) : Ret :=
  match L with
  | none => κ r M
  | some L => forceL (keep L r) fun r => cond (Nat.blt n M.length)
      (forceL (M.take n) fun M1 => cond (r.all (low n) && M1.all fun k => k.cells.all (low1 n)) (κ r M1) (κ r M)) (κ r M)

/-- A block's annotation stands behind the regions'. -/
def blkAt (id : Nat) : Nat := id + 65536

def blockOf : Value → Nat
  | .pointer (some a) => a.block + 1
  | _ => 0

def loadAddr (ops : Array Oper) (r : List Value) (j : Nat) : Value :=
  match ops[j]? with
  | some o => match o.op with | .load _ x => ev r x | _ => undef
  | none => undef

/-- An append that is laid aside of a block. -/
def asideB (ops : Array Oper) (r : List Value) (i b1 : Nat) : Bool :=
  match ops[i]? with
  | some o => match o.op with
    | .call ⟨.builtin .append, args, _⟩ => match args.toList with
      | [s, _] => match ev r s with
        | .slice (some a) _ _ => !(Nat.beq (a.block + 1) b1)
        | _ => false
      | _ => false
    | _ => false
  | none => false
def needB (ops : Array Oper) (r : List Value) (i j : Nat) : Nat := cond (asideB ops r i (blockOf (loadAddr ops r j))) 0 (blockOf (loadAddr ops r j))

def wallFor (ops : Array Oper) (conf : List (Nat × List Nat)) (wall : Nat) (i : Nat) (r : List Value) : Nat :=
  match conf with
  | [] => wall
  | _ => match conf.lookup i with
    | some js => js.foldl (fun w j => max w (needB ops r i j)) wall
    | none => wall

inductive Ex where
  | norm
  | exit (id : Nat)
  | ret

abbrev Kont := Ex → List Value → Mem → Ret

def loopN (step : List Value → Mem → Kont → Ret) : Nat → List Value → Mem → Kont → Ret
  | 0, _, _, _ => none
  | n + 1, r, M, κ => step r M fun e r M => match e with
    | .norm => loopN step n r M κ
    | e => κ e r M

/-- The region at which code begins. -/
def firstReg : Code → Option Nat
  | .region id _ _ => some id
  | .seq (.label _) b => firstReg b
  | .seq .skip b => firstReg b
  | .seq a _ => firstReg a
  | .block _ c => firstReg c
  | .loop c => firstReg c
  | .scope c => firstReg c
  | _ => none
def headLive (ann : Nat → RAnn) (c : Code) : Option (List Nat) := match firstReg c with | some id => (ann id).live | none => none

/-- At a loop's head, slots that live stay. -/
def backK (L : Option (List Nat)) (κ : Kont) : Kont := fun e r M => match e with
  | .norm => forceL (keepO L r) fun r => κ .norm r M
  | e => κ e r M

/-- A function's code. 'k': how often a loop goes round at most. -/
def evC (P : Program) (E : TypeId → Option (List CK)) (q : FuncId → Bool) (ann : Nat → RAnn) (call : CallFn) (wall : Nat) (k : Nat) : Code → List Value → Mem → Kont → Ret
  | .skip, r, M, κ => κ .norm r M
  | .label _, r, M, κ => κ .norm r M
  | .seq a b, r, M, κ => evC P E q ann call wall k a r M fun e r M => match e with
    | .norm => evC P E q ann call wall k b r M κ
    | e => κ e r M
  | .cond c a b, r, M, κ => match ev r c with
    | .bool t => cond t (evC P E q ann call wall k a (bareOp r c true) M κ) (evC P E q ann call wall k b (bareOp r c false) M κ)
    | _ => none
  | .block id c, r, M, κ => evC P E q ann call wall k c r M fun e r' M' => match e with
    | .norm => tidy (ann (blkAt id)).live M.length r' M' fun r M => κ .norm r M
    | .exit j => cond (Nat.beq j id) (tidy (ann (blkAt id)).live M.length r' M' fun r M => κ .norm r M) (κ (.exit j) r' M')
    | .ret => κ .ret r' M'
  | .scope c, r, M, κ => evC P E q ann call wall k c r M κ
  | .loop c, r, M, κ => forceL (keepO (headLive ann c) r) fun r => loopN (fun r M κ => evC P E q ann call wall k c r M (backK (headLive ann c) κ)) k r M κ
  | .exit id, r, M, κ => κ (.exit id) r M
  | .ret, r, M, κ => κ .ret r M
  | .region id ops draw, r, M, κ =>
    forceL (keepO (ann id).live r) fun r =>
      cond draw (evOps P E q call ops (wallFor ops (ann id).conf wall) (ann id).ord none r M fun r M => κ .norm r M)
        (evOps P E q call ops (fun _ _ => wall) (List.range ops.size) none r M fun r M => κ .norm r M)
  | _, _, _, _ => none

/-- The results of a function. -/
def evRes1 (P : Program) (r : List Value) (M : Mem) : ResultVar → Option Value
  | .tmp t => some (r.getD t undef)
  | .cell a t => evLoad P M t (r.getD a undef)

def evRes (P : Program) (fn : Func) (r : List Value) (M : Mem) : Option Value :=
  match fn.results.toList with
  | [x] => evRes1 P r M x
  | xs => (xs.mapM (evRes1 P r M)).bind fun vs => some (.tuple vs.toArray)

/-- What is known of a program ahead. -/
structure Ann where
  E : TypeId → Option (List CK)
  q : FuncId → Bool
  reg : FuncId → Nat → RAnn

def retK (P : Program) (fn : Func) : Kont := fun e r M => match e with
  | .exit _ => none
  | _ => (evRes P fn r M).bind fun v => some (v, M)

def start (fn : Func) (args : List Value) : List Value := args ++ List.replicate (fn.ntmps - args.length) undef

def evCall (P : Program) (A : Ann) : Nat → CallFn
  | 0, _, _, _, _ => none
  | k + 1, f, args, M, wall =>
    match P.funcs[f]? with
    | none => none
    | some fn => match fn.body with
      | none => none
      | some c => evC P A.E A.q (A.reg f) (evCall P A k) wall k c (start fn args) M (retK P fn)

end Go.Ev
