/- The evaluator's operations. -/
import Derived.Test.YtcdcllmmkimbfaaGreatDoorEv2
namespace Go.Ev

def nth {α : Type} : List α → Nat → Option α
  | [], _ => none
  | a :: _, 0 => some a
  | _ :: l, n + 1 => nth l n

theorem nth_eq {α : Type} : ∀ (l : List α) (n : Nat), nth l n = l[n]?
  | [], n => by simp [nth]
  | a :: _, 0 => by simp [nth]
  | _ :: l, n + 1 => by simp [nth, nth_eq l n]

/-- what an operation comes to -/
inductive OR where
  | val (v : AV)
  /-- a new block; the value is a pointer to it, or a slice of so many elements, with room for so many -/
  | new (B : Blk) (s : Option (Nat × Nat))
  | eff (v : AV) (h : Heap)
  | call (f : FuncId) (args : List AV)
  | dfr (f : FuncId) (args : List AV)
  | pan (v : AV)

def getT (t : PT AV) (i : Nat) : AV := match t.get i with
  | some v => v
  | none => undefA

/-- G: so many global variables are blocks of the abstract heap, under their own numbers -/
def opd (G : Nat) (t : PT AV) : Operand → Option AV
  | .tmp i => some (getT t i)
  | .const v => ofVal v
  | .global g => if Nat.blt g G then some (.ptr g 0) else none
  | .func f => some (.fn f [] [])

def opds (G : Nat) (t : PT AV) : List Operand → Option (List AV)
  | [] => some []
  | x :: l => match opd G t x with
    | some v => match opds G t l with
      | some vs => some (v :: vs)
      | none => none
    | none => none

def isAggD : TypeDesc → Bool
  | .struct _ | .array _ _ => true
  | _ => false

def zeroA (P : Program) (t : TypeId) : Option AV := match P.info? t with
  | some i => match i.zero with
    | some z => ofVal z
    | none => none
  | none => none

def szA (P : Program) (t : TypeId) : Option Nat := match P.info? t with
  | some i => some i.size
  | none => none

/-- the part of cells at a place, of a type -/
def partA (P : Program) (t : TypeId) (cs : List AV) (off : Nat) : Option AV := match P.underlying t with
  | some d => if isAggD d then (match szA P t with
      | some n => if Nat.ble (off + n) cs.length then some (.agg ((cs.drop off).take n)) else none
      | none => none)
    else nth cs off
  | none => none

def evAlloc (P : Program) (t : TypeId) : Option OR := match zeroA P t with
  | some z => some (.new ⟨t, true, 0, z.cells⟩ none)
  | none => none

def evBox (t : TypeId) (v : AV) : Option OR := if v.honest then some (.new ⟨t, true, 0, v.cells⟩ none) else none

/-- places: of each part where it begins and how many cells it has -/
def fillA (place : Nat → Option (Nat × Nat)) (cells : List AV) : List (Nat × AV) → Option (List AV)
  | [] => some cells
  | (i, v) :: rest => match place i with
    | none => none
    | some (off, size) => if v.honest && (Nat.beq v.cells.length size && Nat.ble (off + size) cells.length) then fillA place (splice cells off v.cells) rest else none

def partsA (G : Nat) (t : PT AV) : List (Nat × Operand) → Option (List (Nat × AV))
  | [] => some []
  | (i, x) :: l => match opd G t x with
    | some v => match partsA G t l with
      | some vs => some ((i, v) :: vs)
      | none => none
    | none => none

def placesA (P : Program) : List Field → Option (List (Nat × Nat))
  | [] => some []
  | f :: l => match szA P f.type with
    | some n => match placesA P l with
      | some r => some ((f.offset, n) :: r)
      | none => none
    | none => none

def evBuild (P : Program) (t : TypeId) (parts : List (Nat × AV)) : Option AV := match zeroA P t with
  | some z => match P.underlying t with
    | some (.struct fs) => match placesA P fs.toList with
      | some pl => match fillA (nth pl) z.cells parts with
        | some cs => some (.agg cs)
        | none => none
      | none => none
    | some (.array _ e) => match szA P e with
      | some n => match fillA (fun i => some (i * n, n)) z.cells parts with
        | some cs => some (.agg cs)
        | none => none
      | none => none
    | _ => none
  | none => none

def times {α : Type} (l : List α) : Nat → List α
  | 0 => []
  | n + 1 => l ++ times l n

def evBuildSlice (P : Program) (t : TypeId) (len : Nat) (parts : List (Nat × AV)) : Option OR := match P.underlying t with
  | some (.slice e) => match szA P e with
    | some n => match zeroA P e with
      | some z => if Nat.beq z.cells.length n && (Nat.ble (len * n) 16777216 && Nat.blt 0 n) then
          match fillA (fun i => some (i * n, n)) (times z.cells len) parts with
          | some cs => some (.new ⟨e, true, 0, cs⟩ (some (len, len)))
          | none => none
        else none
      | none => none
    | none => none
  | _ => none

def evLoad (P : Program) (h : Heap) (t : TypeId) (a : AV) : Option AV := match a with
  | .ptr k off => match h.get k with
    | some B => partA P t B.cells off
    | none => none
  | _ => none

def evStore (P : Program) (h : Heap) (t : TypeId) (a v : AV) : Option Heap := match a with
  | .ptr k off => match h.get k with
    | some B => match szA P t with
      | some n => if v.honest && (Nat.beq v.cells.length n && (v.cells.all AV.oneCell && (Nat.blt B.fz 2 && Nat.ble (off + n) B.cells.length))) then
          some (h.put k (some { B with cells := splice B.cells off v.cells }))
        else none
      | none => none
    | none => none
  | _ => none

def evNil (v : AV) : Option AV := match v with
  | .nilptr | .niliface | .nilfn | .lit _ | .any => none
  | v => some v

def evFieldAddr (P : Program) (s : TypeId) (a : AV) (f : Nat) : Option AV := match P.underlying s with
  | some (.struct fs) => match fs[f]? with
    | some fd => match szA P fd.type with
      | some n => if Nat.beq n 0 then none else match a with
        | .ptr k off => some (.ptr k (off + fd.offset))
        | _ => none
      | none => none
    | none => none
  | _ => none

def evField (P : Program) (t : TypeId) (x : AV) (f : Nat) : Option AV := match P.underlying t with
  | some (.struct fs) => match fs[f]? with
    | some fd => match x with
      | .agg cs => partA P fd.type cs fd.offset
      | _ => none
    | none => none
  | _ => none

/-- a number that indexes -/
def idx (v : AV) (n : Nat) : Option Nat := match v with
  | .int _ (.ofNat i) => if Nat.blt i n then some i else none
  | _ => none

def evIndexAddr (P : Program) (t : TypeId) (x i : AV) : Option AV := match P.underlying t with
  | some (.array len e) => match szA P e, x, idx i len with
    | some n, .ptr k off, some j => some (.ptr k (off + j * n))
    | _, _, _ => none
  | some (.slice e) => match szA P e, x with
    | some n, .sl k off len _ => match idx i len with
      | some j => some (.ptr k (off + j * n))
      | none => none
    | some n, .slo k off len _ => match idx i len with
      | some j => some (.ptr k (off + j * n))
      | none => none
    | _, _ => none
  | _ => none

def evIndex (P : Program) (t : TypeId) (x i : AV) : Option AV := match P.underlying t with
  | some .string => match x, i with
    | .str s, .int _ (.ofNat j) => match nth s j with
      | some b => some (.int .u8 (.ofNat b))
      | none => none
    | _, _ => none
  | some (.array len e) => match x, idx i len, szA P e with
    | .agg cs, some j, some n => partA P e cs (j * n)
    | _, _, _ => none
  | _ => none

def evExtract (x : AV) (i : Nat) : Option AV := match x with
  | .tup l => nth l i
  | _ => none

def bound (v : Option AV) (dflt y : Nat) : Option Nat := match v with
  | none => some dflt
  | some (.int _ (.ofNat i)) => if Nat.ble i y then some i else none
  | _ => none

def evSlice (P : Program) (t : TypeId) (x : AV) (lo hi mx : Option AV) : Option AV := match P.underlying t, x, mx with
  | some .string, .str s, none => match bound hi s.length s.length with
    | some b => match bound lo 0 b with
      | some a => some (.str ((s.drop a).take (b - a)))
      | none => none
    | none => none
  | some (.slice e), .nilsl, none => match bound hi 0 0 with
    | some b => match bound lo 0 b with
      | some _ => (match szA P e with
        | some _ => some .nilsl
        | none => none)
      | none => none
    | none => none
  | some (.slice e), .sl k off len cap, none => match bound hi len cap with
    | some b => match bound lo 0 b with
      | some a => (match szA P e with
        | some n => if Nat.beq a cap then some (.sl k off (b - a) (cap - a)) else some (.sl k (off + a * n) (b - a) (cap - a))
        | none => none)
      | none => none
    | none => none
  | some (.slice e), .slo k off len es, none => match bound hi len len with
    | some b => match bound lo 0 b with
      | some a => (match szA P e with
        | some n => if Nat.beq n es then (if Nat.blt a len || Nat.beq a 0 then some (.slo k (off + a * n) (b - a) es) else some .sl0) else none
        | none => none)
      | none => none
    | none => none
  | some (.array len e), .ptr k off, none => match bound hi len len with
    | some b => match bound lo 0 b with
      | some a => (match szA P e with
        | some n => if Nat.beq a len then some (.sl k off (b - a) (len - a)) else some (.sl k (off + a * n) (b - a) (len - a))
        | none => none)
      | none => none
    | none => none
  | _, _, _ => none

def evMakeSlice (P : Program) (t : TypeId) (l c : AV) : Option OR := match P.underlying t with
  | some (.slice e) => match P.info? e, zeroA P e with
    | some i, some z => match l, c with
      | .int _ (.ofNat a), .int _ (.ofNat b) =>
        if Nat.ble a b && (Nat.ble b 1073741824 && (Nat.ble i.bytes 4096 && (Nat.beq z.cells.length i.size && Nat.blt 0 i.size))) then
          some (.new ⟨e, true, 0, times z.cells b⟩ (some (a, b)))
        else none
      | _, _ => none
    | _, _ => none
  | _ => none

def loB : IntKind → Int
  | .i8 => -128 | .i16 => -32768 | .i32 => -2147483648 | .i64 => -9223372036854775808
  | _ => 0
def hiB : IntKind → Int
  | .i8 => 127 | .i16 => 32767 | .i32 => 2147483647 | .i64 => 9223372036854775807
  | .u8 => 255 | .u16 => 65535 | .u32 => 4294967295 | .u64 => 18446744073709551615

def wrapF (k : IntKind) (n : Int) : Int := if loB k ≤ n ∧ n ≤ hiB k then n else k.wrap n

def sameK : IntKind → IntKind → Bool
  | .i8, .i8 | .i16, .i16 | .i32, .i32 | .i64, .i64 | .u8, .u8 | .u16, .u16 | .u32, .u32 | .u64, .u64 => true
  | _, _ => false

def eqL : List Nat → List Nat → Bool
  | [], [] => true
  | a :: l, b :: m => Nat.beq a b && eqL l m
  | _, _ => false

def ltL : List Nat → List Nat → Bool
  | _, [] => false
  | [], _ :: _ => true
  | a :: x, b :: y => Nat.blt a b || (Nat.beq a b && ltL x y)

def evInt (op : BinOp) (k : IntKind) (a b : Int) : Option AV := match op with
  | .add => some (.int k (wrapF k (a + b)))
  | .sub => some (.int k (wrapF k (a - b)))
  | .mul => some (.int k (wrapF k (a * b)))
  | .quo => if b = 0 then none else some (.int k (wrapF k (a.tdiv b)))
  | .rem => if b = 0 then none else some (.int k (a.tmod b))
  | .and => some (.int k (k.wrap ((BitVec.ofInt k.bits a) &&& (BitVec.ofInt k.bits b)).toNat))
  | .or => some (.int k (k.wrap ((BitVec.ofInt k.bits a) ||| (BitVec.ofInt k.bits b)).toNat))
  | .xor => some (.int k (k.wrap ((BitVec.ofInt k.bits a) ^^^ (BitVec.ofInt k.bits b)).toNat))
  | .andNot => some (.int k (k.wrap ((BitVec.ofInt k.bits a) &&& ~~~(BitVec.ofInt k.bits b)).toNat))
  | .eql => some (.bool (decide (a = b)))
  | .neq => some (.bool (!decide (a = b)))
  | .lss => some (.bool (decide (a < b)))
  | .leq => some (.bool (decide (a ≤ b)))
  | .gtr => some (.bool (decide (b < a)))
  | .geq => some (.bool (decide (b ≤ a)))
  | _ => none

def evStr (op : BinOp) (a b : List Nat) : Option AV := match op with
  | .add => if Nat.ble (a.length + b.length) 1073741824 then some (.str (a ++ b)) else none
  | .eql => some (.bool (eqL a b))
  | .neq => some (.bool (!eqL a b))
  | .lss => some (.bool (ltL a b))
  | .leq => some (.bool (ltL a b || eqL a b))
  | .gtr => some (.bool (!(ltL a b || eqL a b)))
  | .geq => some (.bool (!ltL a b))
  | _ => none

def evShift (op : BinOp) (k : IntKind) (a b : Int) : Option AV := match b with
  | .ofNat m => match op with
    | .shl => some (.int k (k.wrap (a * 2 ^ (min m k.bits))))
    | .shr => some (.int k (a.fdiv (2 ^ (min m k.bits))))
    | _ => none
  | _ => none

/-- are two values the same? -/
def eqA (P : Program) (h : Heap) (t : TypeId) (x y : AV) : Option Bool := match P.underlying t, x, y with
  | some .bool, .bool a, .bool b => some (a == b)
  | some (.pointer _), .nilptr, .nilptr => some true
  | some (.pointer _), .nilptr, .ptr _ _ => some false
  | some (.pointer _), .ptr _ _, .nilptr => some false
  | some (.pointer e), .ptr k o, .ptr k' o' => match szA P e, h.get k, h.get k' with
    | some n, some B, some B' => if Nat.beq n 0 then none else if Nat.beq k k' then some (Nat.beq o o') else if Nat.beq B.fz 0 && Nat.beq B'.fz 0 then some false else none
    | _, _, _ => none
  | some (.interface _), .niliface, .iface _ _ => some false
  | some (.interface _), .iface _ _, .niliface => some false
  | some (.slice _), .nilsl, .nilsl => some true
  | some (.slice _), .nilsl, .sl _ _ _ _ => some false
  | some (.slice _), .nilsl, .slo _ _ _ _ => some false
  | some (.slice _), .nilsl, .sl0 => some false
  | some (.slice _), .sl0, .nilsl => some false
  | some (.slice _), .sl _ _ _ _, .nilsl => some false
  | some (.slice _), .slo _ _ _ _, .nilsl => some false
  | some (.func _ _ _), .nilfn, .nilfn => some true
  | some (.func _ _ _), .nilfn, .fn _ _ _ => some false
  | some (.func _ _ _), .fn _ _ _, .nilfn => some false
  | _, _, _ => none

/-- are two structs of plain fields the same? -/
def eqF (P : Program) : Nat → List AV → List AV → List Field → Option Bool
  | 0, _, _, _ => none
  | d + 1, xs, ys, fs => match fs with
    | [] => some true
    | f :: fs => if decide (f.name = "_") then none else match partA P f.type xs f.offset, partA P f.type ys f.offset with
      | some a, some b =>
        let r : Option Bool := match P.underlying f.type, a, b with
          | some .bool, .bool p, .bool q => some (p == q)
          | some (.int _), .int k p, .int k' q => if sameK k k' then some (decide (p = q)) else none
          | some .string, .str p, .str q => some (eqL p q)
          | some (.struct gs), .agg p, .agg q => if P.stoodInHeld f.type then none else eqF P d p q gs.toList
          | _, _, _ => none
        match r with
        | some true => eqF P d xs ys fs
        | some false => some false
        | none => none
      | _, _ => none

def evBin (P : Program) (h : Heap) (op : BinOp) (t : TypeId) (xo yo : Operand) (x y : AV) : Option AV := match op, x, y with
  | .shl, .int k a, .int _ b => evShift .shl k a b
  | .shr, .int k a, .int _ b => evShift .shr k a b
  | op, .int k a, .int k' b => if sameK k k' then evInt op k a b else none
  | op, .str a, .str b => evStr op a b
  | .eql, .agg a, .agg b => match P.underlying t with
    | some (.struct fs) => if P.eqGuardType P.depth t || P.stoodInHeld t then none else match eqF P 1000 a b fs.toList with
      | some r => some (.bool r)
      | none => none
    | _ => none
  | .neq, .agg a, .agg b => match P.underlying t with
    | some (.struct fs) => if P.eqGuardType P.depth t || P.stoodInHeld t then none else match eqF P 1000 a b fs.toList with
      | some r => some (.bool (!r))
      | none => none
    | _ => none
  | .eql, .niliface, .niliface => match P.underlying t, xo, yo with
    | some (.interface _), _, .const _ => some (.bool true)
    | _, _, _ => none
  | .neq, .niliface, .niliface => match P.underlying t, xo, yo with
    | some (.interface _), _, .const _ => some (.bool false)
    | _, _, _ => none
  | .eql, x, y => match eqA P h t x y with
    | some r => some (.bool r)
    | none => none
  | .neq, x, y => match eqA P h t x y with
    | some r => some (.bool (!r))
    | none => none
  | _, _, _ => none

def evUn (op : UnOp) (x : AV) : Option AV := match op, x with
  | .not, .bool b => some (.bool (!b))
  | .neg, .int k n => some (.int k (wrapF k (0 - n)))
  | _, _ => none

/-- the bytes of cells -/
def bytesA : List AV → Option (List Nat)
  | [] => some []
  | .int .u8 (.ofNat n) :: l => if Nat.blt n 256 then (match bytesA l with
      | some r => some (n :: r)
      | none => none)
    else none
  | _ => none

def cellsOfBytes (s : List Nat) : List AV := s.map fun n => .int .u8 (.ofNat n)

def evConvert (P : Program) (h : Heap) (src dst : TypeId) (x : AV) : Option OR := match P.underlying src, P.underlying dst, x with
  | some (.int _), some (.int k), .int _ n => some (.val (.int k (wrapF k n)))
  | some .string, some .string, .str s => some (.val (.str s))
  | some (.pointer t), some .unsafePointer, .ptr k off => match szA P t, h.get k with
    | some n, some B => if Nat.blt 0 n && Nat.blt off B.cells.length then some (.val (.ptr k off)) else none
    | _, _ => none
  | some .unsafePointer, some (.pointer u), .ptr k off => match szA P u, h.get k with
    | some n, some B => if Nat.blt 0 n && (B.exact && (Nat.beq B.elem u && (Nat.beq (off % n) 0 && Nat.ble (off + n) B.cells.length))) then some (.val (.ptr k off)) else none
    | _, _ => none
  | some .string, some (.slice e), .str s => match P.underlying e with
    | some (.int .u8) => some (.eff (.slo h.next 0 s.length 1) { h.put h.next (some ⟨e, false, 1, cellsOfBytes s⟩) with next := h.next + 1 })
    | _ => none
  | some (.slice _), some (.slice e), .sl k off len cap => match P.underlying e, h.get k with
    | some (.int .u8), some B => if Nat.beq src dst && Nat.blt B.fz 2 then some (.eff (.sl k off len cap) (h.put k (some { B with fz := 1 }))) else none
    | _, _ => none
  | some (.slice _), some (.slice e), .slo k off len es => match P.underlying e, h.get k with
    | some (.int .u8), some B => if Nat.beq src dst && Nat.blt B.fz 2 then some (.eff (.slo k off len es) (h.put k (some { B with fz := 1 }))) else none
    | _, _ => none
  | some (.slice e), some .string, .nilsl => match P.underlying e with
    | some (.int .u8) => some (.val (.str []))
    | _ => none
  | some (.slice e), some .string, .sl k off len _ => match P.underlying e, h.get k with
    | some (.int .u8), some B => if Nat.ble (off + len) B.cells.length then (match bytesA ((B.cells.drop off).take len) with
        | some s => some (.val (.str s))
        | none => none) else none
    | _, _ => none
  | some (.slice e), some .string, .slo k off len _ => match P.underlying e, h.get k with
    | some (.int .u8), some B => if Nat.ble (off + len) B.cells.length then (match bytesA ((B.cells.drop off).take len) with
        | some s => some (.val (.str s))
        | none => none) else none
    | _, _ => none
  | _, _, _ => none

def evMakeIface (P : Program) (t : TypeId) (x : AV) : Option AV := match P.underlying t with
  | some (.interface _) => none
  | some _ => some (.iface t x)
  | none => none

def evAssert (P : Program) (x : AV) (asserted : TypeId) (ok : Bool) : Option AV := match P.underlying asserted, x with
  | some (.interface _), _ => none
  | some _, .iface t v => if Nat.beq t asserted then some (if ok then .tup [v, .bool true] else v) else none
  | _, _ => none

/-! ### the built-in functions -/
def lenA (P : Program) (t : TypeId) (x : AV) : Option AV := match P.underlying t, x with
  | some .string, .str s => some (.int .i64 (.ofNat s.length))
  | some (.array n _), _ => some (.int .i64 (.ofNat n))
  | some (.slice _), .nilsl => some (.int .i64 0)
  | some (.slice _), .sl _ _ n _ => some (.int .i64 (.ofNat n))
  | some (.slice _), .slo _ _ n _ => some (.int .i64 (.ofNat n))
  | some (.slice _), .sl0 => some (.int .i64 0)
  | _, _ => none

def capA (P : Program) (t : TypeId) (x : AV) : Option AV := match P.underlying t, x with
  | some (.slice _), .nilsl => some (.int .i64 0)
  | some (.slice _), .sl _ _ _ n => some (.int .i64 (.ofNat n))
  | _, _ => none

def minA (x y : AV) : Option AV := match x, y with
  | .int k a, .int _ b => some (.int k (if b < a then b else a))
  | _, _ => none
def maxA (x y : AV) : Option AV := match x, y with
  | .int k a, .int _ b => some (.int k (if a < b then b else a))
  | _, _ => none
def foldA (f : AV → AV → Option AV) : AV → List AV → Option AV
  | x, [] => some x
  | x, y :: l => match f x y with
    | some z => foldA f z l
    | none => none

/-- n elements of n cells each, read: the cells -/
def readA (h : Heap) (n cells : Nat) (x : AV) : Option (List AV) := match x with
  | .nilsl => some []
  | .sl0 => if Nat.beq n 0 then some [] else none
  | .str s => some (cellsOfBytes (s.take n))
  | .sl k off _ _ => match h.get k with
    | some B => if Nat.ble (off + n * cells) B.cells.length then some ((B.cells.drop off).take (n * cells)) else none
    | none => none
  | .slo k off _ _ => match h.get k with
    | some B => if Nat.ble (off + n * cells) B.cells.length then some ((B.cells.drop off).take (n * cells)) else none
    | none => none
  | _ => none

def lenOfA : AV → Option Nat
  | .nilsl => some 0
  | .sl0 => some 0
  | .str s => some s.length
  | .sl _ _ n _ => some n
  | .slo _ _ n _ => some n
  | _ => none

/-- a new block behind an append that must grow -/
def growA (h : Heap) (e : TypeId) (size need : Nat) (cells : List AV) : AV × Heap :=
  (.slo h.next 0 need size, { h.put h.next (some ⟨e, false, 0, cells⟩) with next := h.next + 1 })

def plainT (P : Program) (u : TypeId) : Bool := match P.underlying u with
  | some (.slice _) => true
  | some .string => true
  | _ => false

def evAppend (P : Program) (h : Heap) (t u : TypeId) (s x : AV) : Option (AV × Heap) := match P.underlying t with
  | some (.slice e) => match P.info? e, zeroA P e with
    | some i, some z =>
      match lenOfA x with
      | some n => match readA h n i.size x with
        | some new =>
          if plainT P u && (new.all AV.oneCell && (Nat.beq new.length (n * i.size) && (Nat.beq z.cells.length i.size && (Nat.ble i.bytes 4096 && Nat.blt 0 i.size)))) then
            match s with
            | .nilsl => if Nat.ble n 1073741824 then (if Nat.beq n 0 then some (.nilsl, h) else some (growA h e i.size n new)) else none
            | .sl k off len cap => match h.get k with
              | some B =>
                if Nat.ble (len + n) cap then
                  (if Nat.blt B.fz 2 && Nat.ble (off + (len + n) * i.size) B.cells.length then
                    some (.sl k off (len + n) cap, h.put k (some { B with cells := splice B.cells (off + len * i.size) new })) else none)
                else if Nat.ble (len + n) 1073741824 && Nat.ble (off + len * i.size) B.cells.length then
                  some (growA h e i.size (len + n) ((B.cells.drop off).take (len * i.size) ++ new))
                else none
              | none => none
            | .slo k off len es => match h.get k with
              | some B =>
                if Nat.beq es i.size && (Nat.blt B.fz 2 && (Nat.ble (len + n) 1073741824 && (Nat.ble (off + len * i.size) B.cells.length && Nat.beq B.elem e))) then
                  (if Nat.ble (off + (len + n) * i.size) B.cells.length then
                    some (.slo k off (len + n) es, h.put k (some { B with cells := splice B.cells (off + len * i.size) new }))
                  else some (.slo h.next 0 (len + n) es,
                    { (h.put k none).put h.next (some ⟨e, false, B.fz, (B.cells.drop off).take (len * i.size) ++ new⟩) with next := h.next + 1 }))
                else none
              | none => none
            | _ => none
          else none
        | none => none
      | none => none
    | _, _ => none
  | _ => none

def evCopy (P : Program) (h : Heap) (t : TypeId) (d x : AV) : Option (AV × Heap) := match P.underlying t with
  | some (.slice e) => match szA P e, lenOfA d, lenOfA x with
    | some size, some dl, some xl => match readA h (Nat.min xl dl) size x with
      | some cs => if cs.all AV.oneCell then (match d with
          | .nilsl => some (.int .i64 0, h)
          | .sl0 => if Nat.beq cs.length 0 then some (.int .i64 0, h) else none
          | .sl k off _ _ => (match h.get k with
            | some B => if Nat.blt B.fz 2 && Nat.ble (off + cs.length) B.cells.length then
                some (.int .i64 (.ofNat (Nat.min xl dl)), h.put k (some { B with cells := splice B.cells off cs })) else none
            | none => none)
          | .slo k off _ _ => (match h.get k with
            | some B => if Nat.blt B.fz 2 && Nat.ble (off + cs.length) B.cells.length then
                some (.int .i64 (.ofNat (Nat.min xl dl)), h.put k (some { B with cells := splice B.cells off cs })) else none
            | none => none)
          | _ => none) else none
      | none => none
    | _, _, _ => none
  | _ => none

def clearAt (P : Program) (h : Heap) (e : TypeId) (k off len : Nat) : Option Heap := match zeroA P e, h.get k with
  | some z, some B =>
    if Nat.beq len 0 then some h
    else if z.honest && (Nat.blt 0 z.cells.length && (z.cells.all AV.oneCell && (Nat.blt B.fz 2 && Nat.ble (off + len * z.cells.length) B.cells.length))) then
      some (h.put k (some { B with cells := splice B.cells off (times z.cells len) })) else none
  | _, _ => none

def evClear (P : Program) (h : Heap) (t : TypeId) (x : AV) : Option Heap := match P.underlying t, x with
  | some (.slice _), .nilsl => some h
  | some (.slice _), .sl0 => some h
  | some (.slice e), .sl k off len _ => clearAt P h e k off len
  | some (.slice e), .slo k off len _ => clearAt P h e k off len
  | _, _ => none

def isOne : Option Nat → Bool
  | some 1 => true
  | _ => false

/-- the bytes behind a pointer as a string; they are frozen -/
def evUString (P : Program) (h : Heap) (pt : TypeId) (p n : AV) : Option (AV × Heap) := match p, n with
  | .nilptr, .int _ (.ofNat 0) => some (.str [], h)
  | .ptr k off, .int _ (.ofNat m) => match P.underlying pt with
    | some (.pointer e) => match P.underlying e, h.get k with
      | some (.int .u8), some B =>
        if Nat.beq m 0 then some (.str [], h)
        else if Nat.beq B.elem e && (Nat.ble (off + m) B.cells.length && (Nat.blt m 1073741824 && (Nat.blt B.fz 2 && isOne (szA P e)))) then (match bytesA ((B.cells.drop off).take m) with
          | some s => some (.str s, h.put k (some { B with fz := 2 }))
          | none => none)
        else none
      | _, _ => none
    | _ => none
  | _, _ => none

def evSliceData (x : AV) : Option AV := match x with
  | .nilsl => some .nilptr
  | .sl k off _ cap => if Nat.beq cap 0 then none else some (.ptr k off)
  | .slo k off len _ => if Nat.beq len 0 then none else some (.ptr k off)
  | _ => none

def idxByte (c : Nat) : List Nat → Nat → Option Nat
  | [], _ => none
  | b :: l, i => if Nat.beq b c then some i else idxByte c l (i + 1)

def cntByte (c : Nat) : List Nat → Nat
  | [] => 0
  | b :: l => if Nat.beq b c then cntByte c l + 1 else cntByte c l

/-- a function of the library without a body, by its number in 'ext' -/
def evExt (P : Program) (h : Heap) (fn : Func) (n : Nat) (args : List AV) : Option OR := match n, args with
  | 1, [.str s, .int .u8 (.ofNat c)] => if Nat.blt c 256 then some (.val (.int .i64 (match idxByte c s 0 with
    | some i => (i : Int)
    | none => -1))) else none
  | 2, [x] => some (.val x)
  | 3, [.int .i64 (.ofNat n)] => match fn.resultTypes[0]? with
    | some t => match P.underlying t with
      | some (.slice e) => if Nat.ble n 1073741824 then some (.eff (.slo h.next 0 n 1) { h.put h.next (some ⟨e, false, 0, List.replicate n .any⟩) with next := h.next + 1 }) else none
      | _ => none
    | none => none
  | 4, [.str s, .int .u8 (.ofNat c)] => if Nat.blt c 256 then some (.val (.int .i64 (.ofNat (cntByte c s)))) else none
  | _, _ => none

/-- what a call is known to come to: its value (0 stands for the new block in it, if there is one) -/
structure Sum where
  f : FuncId
  args : List AV
  ret : AV
  blk : Option Blk

structure Env where
  P : Program
  G : Nat
  ext : FuncId → Nat
  sums : List Sum

def evBuiltin (E : Env) (h : Heap) (b : Builtin) (ts : List TypeId) (args : List AV) : Option OR := match b, ts, args with
  | .len, t :: _, x :: _ => match lenA E.P t x with
    | some v => some (.val v)
    | none => none
  | .cap, t :: _, x :: _ => match capA E.P t x with
    | some v => some (.val v)
    | none => none
  | .min, _, x :: l => match foldA minA x l with
    | some v => some (.val v)
    | none => none
  | .max, _, x :: l => match foldA maxA x l with
    | some v => some (.val v)
    | none => none
  | .append, t :: u :: _, s :: x :: _ => match evAppend E.P h t u s x with
    | some (v, h') => some (.eff v h')
    | none => none
  | .copy, t :: _, d :: x :: _ => match evCopy E.P h t d x with
    | some (v, h') => some (.eff v h')
    | none => none
  | .clear, t :: _, x :: _ => match evClear E.P h t x with
    | some h' => some (.eff undefA h')
    | none => none
  | .unsafeString, pt :: _, [p, n] => match evUString E.P h pt p n with
    | some (v, h') => some (.eff v h')
    | none => none
  | .unsafeSliceData, _, [x] => match evSliceData x with
    | some v => some (.val v)
    | none => none
  | _, _, _ => none

def numGo : String := "runtime.NumGoroutine"

def evCallee (E : Env) (h : Heap) (f : FuncId) (args : List AV) : Option OR := match E.P.funcs[f]? with
  | some fn => if decide (fn.name = numGo) then none else match fn.body with
    | some _ => some (.call f args)
    | none => evExt E.P h fn (E.ext f) args
  | none => none

def evCall (E : Env) (h : Heap) (t : PT AV) (c : Call) : Option OR := match opds E.G t c.args.toList with
  | some args => match c.callee with
    | .builtin b => evBuiltin E h b c.argTypes.toList args
    | .value f => match opd E.G t f with
      | some (.fn f first captured) => evCallee E h f (first ++ (args ++ captured))
      | _ => none
    | .invoke _ _ => none
  | none => none

def evDefer (E : Env) (t : PT AV) (c : Call) : Option OR := match opds E.G t c.args.toList with
  | some args => match c.callee with
    | .value f => match opd E.G t f with
      | some (.fn f first captured) => some (.dfr f (first ++ (args ++ captured)))
      | _ => none
    | _ => none
  | none => none

def ovO {α : Type} (x : Option α) (f : α → Option OR) : Option OR := match x with
  | some a => f a
  | none => none

def ov (x : Option AV) : Option OR := match x with
  | some v => some (.val v)
  | none => none

/-- an operand that may be missing: 'some none' where it is -/
def oopd (G : Nat) (t : PT AV) : Option Operand → Option (Option AV)
  | none => some none
  | some x => match opd G t x with
    | some v => some (some v)
    | none => none

def evOp (E : Env) (h : Heap) (t : PT AV) (o : Op) : Option OR := match o with
  | .move x => ov (opd E.G t x)
  | .assign x => ov (opd E.G t x)
  | .pick c a b => match opd E.G t c with
    | some (.bool true) => ov (opd E.G t a)
    | some (.bool false) => ov (opd E.G t b)
    | _ => none
  | .alloc e => evAlloc E.P e
  | .box e x => match opd E.G t x with
    | some v => evBox e v
    | none => none
  | .build ty ps => match partsA E.G t ps.toList with
    | some l => ov (evBuild E.P ty l)
    | none => none
  | .buildSlice ty len ps => match partsA E.G t ps.toList with
    | some l => evBuildSlice E.P ty len l
    | none => none
  | .load ty a => match opd E.G t a with
    | some a => ov (evLoad E.P h ty a)
    | none => none
  | .store ty a x => match opd E.G t a, opd E.G t x with
    | some a, some v => (match evStore E.P h ty a v with
      | some h' => some (.eff undefA h')
      | none => none)
    | _, _ => none
  | .nilCheck x => match opd E.G t x with
    | some v => ov (evNil v)
    | none => none
  | .binOp op ty x y _ => match opd E.G t x, opd E.G t y with
    | some a, some b => ov (evBin E.P h op ty x y a b)
    | _, _ => none
  | .unOp op _ x => match opd E.G t x with
    | some v => ov (evUn op v)
    | none => none
  | .convert src dst x => match opd E.G t x with
    | some v => evConvert E.P h src dst v
    | none => none
  | .makeInterface ty x => match opd E.G t x with
    | some v => ov (evMakeIface E.P ty v)
    | none => none
  | .makeFunc (.func f) first captured => match opds E.G t first.toList, opds E.G t captured.toList with
    | some a, some b => some (.val (.fn f a b))
    | _, _ => none
  | .makeSlice ty l c => match opd E.G t l, opd E.G t c with
    | some a, some b => evMakeSlice E.P ty a b
    | _, _ => none
  | .slice ty x lo hi mx => match opd E.G t x, oopd E.G t lo, oopd E.G t hi, oopd E.G t mx with
    | some v, some a, some b, some c => ov (evSlice E.P ty v a b c)
    | _, _, _, _ => none
  | .fieldAddr s x f => match opd E.G t x with
    | some v => ov (evFieldAddr E.P s v f)
    | none => none
  | .field ty x f => match opd E.G t x with
    | some v => ov (evField E.P ty v f)
    | none => none
  | .indexAddr ty x i => match opd E.G t x, opd E.G t i with
    | some v, some j => ov (evIndexAddr E.P ty v j)
    | _, _ => none
  | .index ty x i => match opd E.G t x, opd E.G t i with
    | some v, some j => ov (evIndex E.P ty v j)
    | _, _ => none
  | .extract x i => match opd E.G t x with
    | some v => ov (evExtract v i)
    | none => none
  | .typeAssert x _ ty ok => match opd E.G t x with
    | some v => ov (evAssert E.P v ty ok)
    | none => none
  | .call c => evCall E h t c
  | .defer c => evDefer E t c
  | .panic x => match opd E.G t x with
    | some (.iface ty v) => some (.pan (.iface ty v))
    | _ => none
  | _ => none

end Go.Ev
