/- The evaluator: regions, code, calls. -/
import Derived.Test.YtcdcllmmkimbfaaGreatDoorEv3
namespace Go.Ev

inductive Ret where
  | ret (v : AV)
  | pan (v : AV)

abbrev CallF := FuncId → List AV → Heap → Option (Ret × Heap)

structure St where
  tmps : PT AV
  n : Nat
  h : Heap
  defs : List (FuncId × List AV)

def setT (t : PT AV) (n : Nat) (d : Option Nat) (v : AV) : Option (PT AV) := match d with
  | none => some t
  | some d => if Nat.blt d n then some (t.set dep d (some v)) else none

def newA (id : Nat) : Option (Nat × Nat) → AV
  | none => .ptr id 0
  | some (len, cap) => .sl id 0 len cap

/-- is the operation's guard met? -/
def guardA (all : List Oper) (t : PT AV) (o : Oper) : Option Bool := match o.guard with
  | none => some true
  | some (j, want) => match nth all j with
    | some oj => match oj.dst with
      | some d => match getT t d with
        | .bool b => some (b == want)
        | .tup _ => some false
        | _ => none
      | none => none
    | none => none

def putSt (s : St) (d : Option Nat) (v : AV) : Option (Option AV × St) := match setT s.tmps s.n d v with
  | some t => some (none, { s with tmps := t })
  | none => none

def stepOp (E : Env) (call : CallF) (s : St) (o : Oper) : Option (Option AV × St) :=
  if Nat.blt s.h.next maxId then match evOp E s.h s.tmps o.op with
    | some (.val v) => putSt s o.dst v
    | some (.new B sh) => putSt { s with h := { s.h.put s.h.next (some B) with next := s.h.next + 1 } } o.dst (newA s.h.next sh)
    | some (.eff v h') => putSt { s with h := h' } o.dst v
    | some (.call f args) => match call f args s.h with
      | some (.ret v, h') => putSt { s with h := h' } o.dst v
      | some (.pan v, h') => some (some v, { s with h := h' })
      | none => none
    | some (.dfr f args) => putSt { s with defs := (f, args) :: s.defs } o.dst undefA
    | some (.pan v) => some (some v, s)
    | none => none
  else none

/-- operations in their order -/
def runSeq (E : Env) (call : CallF) (all : List Oper) : List Oper → St → Option (Option AV × St)
  | [], s => some (none, s)
  | o :: l, s => match guardA all s.tmps o with
    | some true => match stepOp E call s o with
      | some (none, s') => runSeq E call all l s'
      | r => r
    | some false => match setT s.tmps s.n o.dst undefA with
      | some t => runSeq E call all l { s with tmps := t }
      | none => none
    | none => none

/-! ### operations in an order that is left open -/
def bindA (e : Edge) : Bool := match e.ground with
  | .textOnly _ => false
  | .gcOnly _ => false
  | _ => true

/-- what stands ahead of an operation -/
def maskOf (acc : List Nat) : List Edge → Nat
  | [] => 0
  | e :: l => if bindA e then (2 ^ e.on) ||| ((nth acc e.on).getD 0 ||| maskOf acc l) else maskOf acc l

def edgesOk (i : Nat) : List Edge → Bool
  | [] => true
  | e :: l => (!bindA e || Nat.blt e.on i) && edgesOk i l

def masks : List Oper → List Nat → Option (List Nat)
  | [], acc => some acc
  | o :: l, acc => if edgesOk acc.length o.after.toList then masks l (acc ++ [maskOf acc o.after.toList]) else none

def kindOf (P : Program) (o : Op) : Nat := match o with
  | .alloc _ | .box _ _ | .buildSlice _ _ _ | .makeSlice _ _ _ => 1
  | .store _ _ _ => 2
  | .call c => match c.callee with
    | .builtin .len | .builtin .cap | .builtin .min | .builtin .max | .builtin .unsafeSliceData => 0
    | .builtin .append | .builtin .copy | .builtin .clear | .builtin .unsafeString => 2
    | .value _ => 2
    | _ => 3
  | .convert _ dst _ => match P.underlying dst with
    | some (.slice _) => 2
    | _ => 0
  | .move _ | .assign _ | .pick _ _ _ | .build _ _ | .load _ _ | .nilCheck _ | .binOp _ _ _ _ _ | .unOp _ _ _ | .makeInterface _ _ | .makeFunc _ _ _ | .slice _ _ _ _ _
  | .fieldAddr _ _ _ | .field _ _ _ | .indexAddr _ _ _ | .index _ _ _ | .extract _ _ | .typeAssert _ _ _ _ => 0
  | _ => 3

def kindsOf (P : Program) (l : List Oper) : List Nat := l.map fun o => kindOf P o.op

def tmpsOf : List Operand → List Nat
  | [] => []
  | .tmp t :: l => t :: tmpsOf l
  | _ :: l => tmpsOf l

/-- the slots that an operation looks at -/
def looks (all : List Oper) (o : Oper) : List Nat := tmpsOf o.op.operands.toList ++ match o.guard with
  | none => []
  | some (j, _) => match nth all j with
    | some oj => oj.dst.toList
    | none => []

def memN (x : Nat) : List Nat → Bool
  | [] => false
  | a :: l => Nat.beq a x || memN x l

/-- places of a list whose number is k -/
def placesOf (k : Nat) : List Nat → Nat → List Nat
  | [], _ => []
  | a :: l, i => if Nat.beq a k then i :: placesOf k l (i + 1) else placesOf k l (i + 1)

def bit (m i : Nat) : Bool := Nat.testBit m i

/-- of two operations that meet at a slot one stands ahead of the other; no slot is written twice -/
def tmpsOk (all : List Oper) (ms : List Nat) : Bool :=
  go all 0
where
  go : List Oper → Nat → Bool
    | [], _ => true
    | o :: l, j => (match o.dst with
        | none => true
        | some d => one d j all 0) && go l (j + 1)
  one (d j : Nat) : List Oper → Nat → Bool
    | [], _ => true
    | p :: l, i => (Nat.beq i j || ((match p.dst with
          | some d' => !Nat.beq d d'
          | none => true) &&
        (!memN d (looks all p) || (bit ((nth ms i).getD 0) j || bit ((nth ms j).getD 0) i)))) && one d j l (i + 1)

/-- the numbers below n of a mask that another one lacks -/
def newBits (m dn : Nat) : Nat → Nat → List Nat
  | 0, _ => []
  | n + 1, i => if bit m i && !bit dn i then i :: newBits m dn n (i + 1) else newBits m dn n (i + 1)

def maskOfL : List Nat → Nat
  | [] => 0
  | i :: l => 2 ^ i ||| maskOfL l

/-- each operation of kind 2 with what must stand ahead of it; then the rest -/
def orderOf (n : Nat) (ms : List Nat) : List Nat → Nat → List Nat
  | [], dn => newBits (2 ^ n - 1) dn n 0
  | c :: l, dn => let pre := newBits ((nth ms c).getD 0) dn n 0
    pre ++ (c :: orderOf n ms l (dn ||| (2 ^ c ||| maskOfL pre)))

/-- what became of one operation: its place; its kind; whether its guard was not met; the slots ahead of it; its value; the heap ahead of it and behind it; its new block; 0: a value, 1: a new block, 2: a heap, 3: a call; whether it panics -/
structure Rec where
  i : Nat
  o : Oper
  k : Nat
  skip : Bool
  t : PT AV
  v : AV
  pre : Heap
  post : Heap
  nb : Option (Blk × Option (Nat × Nat))
  tag : Nat
  pan : Bool

/-- what one operation of an open order comes to -/
inductive SD where
  | ok (r : Rec) (t : PT AV) (h : Heap)
  | pan (r : Rec)
  | fail

def okSD (r : Rec) (n : Nat) : SD := match setT r.t n r.o.dst r.v with
  | some t' => .ok r t' r.post
  | none => .fail

def stepD (E : Env) (call : CallF) (all : List Oper) (ks : List Nat) (base n : Nat) (t : PT AV) (h : Heap) (i : Nat) : SD := match nth all i with
  | none => .fail
  | some o => match guardA all t o with
    | some true => if Nat.blt h.next maxId then (match evOp E h t o.op with
        | some (.val v) => okSD ⟨i, o, (nth ks i).getD 3, false, t, v, h, h, none, 0, false⟩ n
        | some (.new B sh) => okSD ⟨i, o, (nth ks i).getD 3, false, t, newA (base + i) sh, h, h.put (base + i) (some B), some (B, sh), 1, false⟩ n
        | some (.eff v h') => okSD ⟨i, o, (nth ks i).getD 3, false, t, v, h, h', none, 2, false⟩ n
        | some (.call f args) => match call f args h with
          | some (.ret v, h') => okSD ⟨i, o, (nth ks i).getD 3, false, t, v, h, h', none, 3, false⟩ n
          | some (.pan v, h') => .pan ⟨i, o, (nth ks i).getD 3, false, t, v, h, h', none, 3, true⟩
          | none => .fail
        | _ => .fail) else .fail
    | some false => okSD ⟨i, o, (nth ks i).getD 3, true, t, undefA, h, h, none, 0, false⟩ n
    | none => .fail

/-- the operations of a list, one behind the other; where one panics, those are run that need not stand behind it -/
def runL (E : Env) (call : CallF) (all : List Oper) (ms ks : List Nat) (base n : Nat) : Nat → List Nat → PT AV → Heap → Option (List Rec × PT AV × Heap)
  | 0, _, _, _ => none
  | _ + 1, [], t, h => some ([], t, h)
  | m + 1, i :: l, t, h => match stepD E call all ks base n t h i with
    | .ok r t' h' => match runL E call all ms ks base n m l t' h' with
      | some (rs, t'', h'') => some (r :: rs, t'', h'')
      | none => none
    | .pan r => match runL E call all ms ks base n m (l.filter fun j => !bit ((nth ms j).getD 0) i) t h with
      | some (rs, t'', h'') => some (r :: rs, t'', h'')
      | none => none
    | .fail => none

/-- the new blocks of records, laid into a heap -/
def lay (base : Nat) : List Rec → Heap → Heap
  | [], h => h
  | r :: l, h => match r.nb with
    | some (B, _) => lay base l (h.put (base + r.i) (some B))
    | none => lay base l h

def chainOf : List Rec → List Nat
  | [] => []
  | r :: l => if Nat.beq r.k 2 then r.i :: chainOf l else chainOf l

structure Stage where
  bef : List Nat
  aft : List Nat
  h : Heap

/-- behind each operation of kind 2: the heap, all other new blocks laid -/
def stages (base : Nat) : List Nat → List Rec → List Stage
  | _, [] => []
  | bef, r :: l => if Nat.beq r.k 2 then (if r.pan then [] else ⟨r.i :: bef, chainOf l, lay base l r.post⟩ :: stages base (r.i :: bef) l) else stages base bef l

def beqA : Nat → AV → AV → Bool
  | 0, _, _ => false
  | n + 1, x, y => match x, y with
    | .bool a, .bool b => a == b
    | .int k a, .int k' b => sameK k k' && decide (a = b)
    | .str a, .str b => eqL a b
    | .ptr k o, .ptr k' o' => Nat.beq k k' && Nat.beq o o'
    | .nilptr, .nilptr => true
    | .sl k o l c, .sl k' o' l' c' => Nat.beq k k' && (Nat.beq o o' && (Nat.beq l l' && Nat.beq c c'))
    | .slo k o l c, .slo k' o' l' c' => Nat.beq k k' && (Nat.beq o o' && (Nat.beq l l' && Nat.beq c c'))
    | .nilsl, .nilsl => true
    | .sl0, .sl0 => true
    | .fn f a b, .fn f' a' b' => Nat.beq f f' && (beqs n a a' && beqs n b b')
    | .nilfn, .nilfn => true
    | .iface t v, .iface t' v' => Nat.beq t t' && beqA n v v'
    | .niliface, .niliface => true
    | .agg a, .agg b => beqs n a b
    | .tup a, .tup b => beqs n a b
    | .lit (.float .f64 a), .lit (.float .f64 b) => Nat.beq a b
    | .any, .any => true
    | _, _ => false
where
  beqs (n : Nat) : List AV → List AV → Bool
    | [], [] => true
    | a :: l, b :: m => beqA n a b && beqs n l m
    | _, _ => false

/-- may the operation stand there, and does it come to the same there? -/
def readAt (E : Env) (ms : List Nat) (r : Rec) (g : Stage) : Bool :=
  !(g.bef.all (fun c => !bit ((nth ms c).getD 0) r.i) && g.aft.all (fun c => !bit ((nth ms r.i).getD 0) c)) ||
    (match evOp E g.h r.t r.o.op with
    | some (.val v') => beqA 20 r.v v'
    | _ => false)

def readsOk (E : Env) (ms : List Nat) (ss : List Stage) : List Rec → Bool
  | [] => true
  | r :: l => (!Nat.beq r.k 0 || (r.skip || ss.all (readAt E ms r))) && readsOk E ms ss l

def noneAt (h : Heap) (base : Nat) : List Rec → Bool
  | [] => true
  | r :: l => (match r.nb with
    | some _ => (h.get (base + r.i)).isNone
    | none => true) && noneAt h base l

def cleanOk (base : Nat) : List Rec → Bool
  | [] => true
  | r :: l => (!Nat.beq r.k 2 || noneAt r.pre base l) && cleanOk base l

/-- what must stand ahead of an operation stands ahead of it in the row; ahead of one of kind 2 nothing else does; pn: one that panics stands ahead -/
def topoOk (ms : List Nat) : List Rec → Nat → Bool → Bool
  | [], _, _ => true
  | r :: l, dn, pn =>
    !bit dn r.i && ((if Nat.beq r.k 2 then Nat.beq ((nth ms r.i).getD 0) dn && !pn else Nat.beq (Nat.land ((nth ms r.i).getD 0) dn) ((nth ms r.i).getD 0)) &&
      ((!r.pan || !memN r.i (l.map Rec.i)) && topoOk ms l (if r.pan then dn else dn ||| 2 ^ r.i) (pn || r.pan)))

def kindFit (r : Rec) : Bool := (r.skip || (match r.k, r.tag with
    | 0, 0 => true
    | 1, 1 => true
    | 2, 0 => true
    | 2, 2 => true
    | 2, 3 => true
    | _, _ => false)) && (Nat.blt r.k 3 && (Nat.blt r.post.next maxId && (match r.nb with
    | some (B, _) => Nat.beq B.fz 0
    | none => true)))

def kindsFit : List Rec → Bool
  | [] => true
  | r :: l => kindFit r && kindsFit l

/-- the record that panics -/
def panOf : List Rec → Option Rec
  | [] => none
  | r :: l => if r.pan then some r else panOf l

/-- each operation has a record, or stands behind the one that panics -/
def covers (rs : List Rec) (ms : List Nat) (p : Option Rec) : Nat → Bool
  | 0 => true
  | n + 1 => (memN n (rs.map Rec.i) || (match p with
    | some q => bit ((nth ms n).getD 0) q.i
    | none => false)) && covers rs ms p n

inductive DR where
  | norm (s : St)
  | pan (v : AV) (s : St)

def runDraw (E : Env) (call : CallF) (all : List Oper) (s : St) : Option DR := match masks all [] with
  | none => none
  | some ms =>
    if tmpsOk all ms && Nat.blt (s.h.next + all.length) maxId then
      match runL E call all ms (kindsOf E.P all) s.h.next s.n (all.length + 1) (orderOf all.length ms (placesOf 2 (kindsOf E.P all) 0) 0) s.tmps { s.h with next := s.h.next + all.length } with
      | some (rs, t, h) =>
        if kindsFit rs && (topoOk ms rs 0 false && (covers rs ms (panOf rs) all.length && (cleanOk s.h.next rs &&
            readsOk E ms (⟨[], chainOf rs, lay s.h.next rs { s.h with next := s.h.next + all.length }⟩ :: stages s.h.next [] rs) rs))) then
          (match panOf rs with
          | none => some (.norm { s with tmps := t, h := h })
          | some p => some (.pan p.v { s with h := p.post }))
        else none
      | none => none
    else none

/-! ### code -/
inductive AX where
  | norm
  | exit (id : Nat)
  | ret
  | pan (v : AV)
  /-- a panic behind which nothing is known of the slots -/
  | panD (v : AV)

def ofSeq : Option (Option AV × St) → Option (AX × St)
  | some (none, s) => some (.norm, s)
  | some (some v, s) => some (.pan v, s)
  | none => none

def initT : List AV → Nat → PT AV → PT AV
  | [], _, t => t
  | v :: l, i, t => initT l (i + 1) (t.set dep i (some v))

def resOne (P : Program) (h : Heap) (t : PT AV) : ResultVar → Option AV
  | .tmp i => some (getT t i)
  | .cell i ty => evLoad P h ty (getT t i)

def resAll (P : Program) (h : Heap) (t : PT AV) : List ResultVar → Option (List AV)
  | [] => some []
  | r :: l => match resOne P h t r with
    | some v => match resAll P h t l with
      | some vs => some (v :: vs)
      | none => none
    | none => none

def resA (P : Program) (h : Heap) (t : PT AV) (fn : Func) : Option AV := match resAll P h t fn.results.toList with
  | some [v] => some v
  | some vs => some (.tup vs)
  | none => none

/-- a deferred function that recovers: its first region is 'recover()' kept in a slot -/
def recA (E : Env) (runf : Code → St → Option (AX × St)) (f : FuncId) (args : List AV) (h : Heap) (m : Option AV) : Option Heap := match E.P.funcs[f]? with
  | some fn => match fn.body with
    | some (.seq (.region _ ops false) rest) => match ops.toList with
      | [o1, o2] => match o1.op, o1.guard, o1.dst, o2.op, o2.guard, o2.dst with
        | .call { callee := .builtin .recover, args := ⟨[]⟩, argTypes := _ }, none, some d1, .assign (.tmp d1'), none, some d2 =>
          if Nat.beq d1 d1' && (Nat.blt d1 fn.ntmps && (Nat.blt d2 fn.ntmps && (Nat.blt fn.ntmps maxId && (Nat.ble args.length fn.ntmps && (Nat.beq fn.results.size 0 && !decide (fn.name = numGo)))))) then
            let rv := match m with
              | some v => v
              | none => .niliface
            let t := ((initT args 0 .e).set dep d1 (some rv)).set dep d2 (some rv)
            match runf rest ⟨t, fn.ntmps, h, []⟩ with
            | some (.norm, s) => (match s.defs with
              | [] => some s.h
              | _ => none)
            | some (.ret, s) => (match s.defs with
              | [] => some s.h
              | _ => none)
            | _ => none
          else none
        | _, _, _, _, _, _ => none
      | _ => none
    | _ => none
  | none => none

def finish (E : Env) (runf : Code → St → Option (AX × St)) (fn : Func) (m : Option AV) (s : St) : Option (Ret × Heap) := match s.defs with
  | [] => match m with
    | none => (match resA E.P s.h s.tmps fn with
      | some v => some (.ret v, s.h)
      | none => none)
    | some v => some (.pan v, s.h)
  | [(f, args)] => match recA E runf f args s.h m with
    | some h => (match resA E.P h s.tmps fn with
      | some v => some (.ret v, h)
      | none => none)
    | none => none
  | _ => none

def callBody (E : Env) (runf : Code → St → Option (AX × St)) (f : FuncId) (args : List AV) (h : Heap) : Option (Ret × Heap) := match E.P.funcs[f]? with
  | some fn => match fn.body with
    | some c => if Nat.ble args.length fn.ntmps && Nat.blt fn.ntmps maxId then (match runf c ⟨initT args 0 .e, fn.ntmps, h, []⟩ with
        | some (.norm, s) => finish E runf fn none s
        | some (.ret, s) => finish E runf fn none s
        | some (.pan v, s) => finish E runf fn (some v) s
        | some (.panD v, s) => (match s.defs with
          | [] => some (.pan v, s.h)
          | _ => none)
        | _ => none) else none
    | none => none
  | none => none

/-- no block of the heap is named in it -/
def pureA : Nat → AV → Bool
  | 0, _ => false
  | n + 1, v => match v with
    | .ptr _ _ | .sl _ _ _ _ | .slo _ _ _ _ | .any | .sl0 => false
    | .fn _ a b => pures n a && pures n b
    | .iface _ v => pureA n v
    | .agg l => pures n l
    | .tup l => pures n l
    | _ => true
where
  pures (n : Nat) : List AV → Bool
    | [] => true
    | a :: l => pureA n a && pures n l

def findSum (f : FuncId) (args : List AV) : List Sum → Option Sum
  | [] => none
  | s :: l => if Nat.beq s.f f && beqA.beqs 20 s.args args then some s else findSum f args l

def applySum (s : Sum) (h : Heap) : Option (Ret × Heap) := match s.blk with
  | none => if pureA 20 s.ret then some (.ret s.ret, h) else none
  | some B => if Nat.blt h.next maxId && pureA.pures 20 B.cells then (match s.ret with
    | .ptr k off => if Nat.beq k 0 then some (.ret (.ptr h.next off), { h.put h.next (some B) with next := h.next + 1 }) else none
    | .sl k off len cap => if Nat.beq k 0 then some (.ret (.sl h.next off len cap), { h.put h.next (some B) with next := h.next + 1 }) else none
    | .slo k off len es => if Nat.beq k 0 then some (.ret (.slo h.next off len es), { h.put h.next (some B) with next := h.next + 1 }) else none
    | _ => none) else none

def callWith (E : Env) (runf : Code → St → Option (AX × St)) (f : FuncId) (args : List AV) (h : Heap) : Option (Ret × Heap) := match findSum f args E.sums with
  | some s => applySum s h
  | none => callBody E runf f args h

def run (E : Env) : Nat → Code → St → Option (AX × St)
  | 0, _, _ => none
  | n + 1, c, s => match c with
    | .skip => some (.norm, s)
    | .seq a b => match run E n a s with
      | some (.norm, s') => run E n b s'
      | r => r
    | .cond c x y => match opd E.G s.tmps c with
      | some (.bool true) => run E n x s
      | some (.bool false) => run E n y s
      | _ => none
    | .block id b => match run E n b s with
      | some (.exit j, s') => if Nat.beq j id then some (.norm, s') else some (.exit j, s')
      | r => r
    | .loop b => match run E n b s with
      | some (.norm, s') => run E n (.loop b) s'
      | r => r
    | .exit id => some (.exit id, s)
    | .ret => some (.ret, s)
    | .region _ ops false => ofSeq (runSeq E (callWith E (run E n)) ops.toList ops.toList s)
    | .region _ ops true => match runDraw E (callWith E (run E n)) ops.toList s with
      | some (.norm s') => some (.norm, s')
      | some (.pan v s') => some (.panD v, s')
      | none => none
    | _ => none

def callA (E : Env) (n : Nat) : CallF := callWith E (run E n)

end Go.Ev
