/- The abstract machine: values, heap, the relation between an abstract heap and a world of the model; lemmas on them. -/
import Derived.Orders
import Derived.Defers
import Derived.Below
import Derived.KernelRfl
import Derived.Laws.Strings
import Derived.Laws.Strings2
import Derived.Laws.CopyRow
import Derived.Laws.Cells
namespace Go.Ev

/-! ## a map from numbers -/
inductive PT (α : Type) where
  | e : PT α
  | n (l : PT α) (v : Option α) (r : PT α) : PT α

namespace PT
variable {α : Type}

theorem nbeq {a b : Nat} (h : a ≠ b) : Nat.beq a b = false := by
  cases hb : Nat.beq a b with
  | false => rfl
  | true => exact absurd (Nat.eq_of_beq_eq_true hb) h

def get : PT α → Nat → Option α
  | .e, _ => none
  | .n l v r, k => bif Nat.beq k 0 then v else bif Nat.beq (k % 2) 1 then get l (k / 2) else get r (k / 2 - 1)

def set : Nat → PT α → Nat → Option α → PT α
  | 0, t, _, _ => t
  | d + 1, .e, k, x => bif Nat.beq k 0 then .n .e x .e else bif Nat.beq (k % 2) 1 then .n (set d .e (k / 2) x) none .e else .n .e none (set d .e (k / 2 - 1) x)
  | d + 1, .n l v r, k, x => bif Nat.beq k 0 then .n l x r else bif Nat.beq (k % 2) 1 then .n (set d l (k / 2) x) v r else .n l v (set d r (k / 2 - 1) x)

theorem get_e (k : Nat) : (PT.e : PT α).get k = none := by simp [get]

theorem get_n (l : PT α) (v : Option α) (r : PT α) (k : Nat) : (PT.n l v r).get k = if k = 0 then v else if k % 2 = 1 then l.get (k / 2) else r.get (k / 2 - 1) := by
  simp only [get]
  by_cases h : k = 0
  · simp [h]
  · have : Nat.beq k 0 = false := nbeq h
    simp only [this, cond_false, h, if_false]
    by_cases h2 : k % 2 = 1
    · simp [h2]
    · have : Nat.beq (k % 2) 1 = false := nbeq h2
      simp [this, h2]

theorem set_succ (d : Nat) (l : PT α) (v : Option α) (r : PT α) (k : Nat) (x : Option α) :
    set (d + 1) (.n l v r) k x = if k = 0 then .n l x r else if k % 2 = 1 then .n (set d l (k / 2) x) v r else .n l v (set d r (k / 2 - 1) x) := by
  simp only [set]
  by_cases h : k = 0
  · simp [h]
  · have : Nat.beq k 0 = false := nbeq h
    simp only [this, cond_false, h, if_false]
    by_cases h2 : k % 2 = 1
    · simp [h2]
    · have : Nat.beq (k % 2) 1 = false := nbeq h2
      simp [this, h2]

theorem set_succ_e (d : Nat) (k : Nat) (x : Option α) : set (d + 1) (.e : PT α) k x = set (d + 1) (.n .e none .e) k x := by
  simp [set]

theorem get_ee (k : Nat) : (PT.n .e none .e : PT α).get k = none := by
  rw [get_n]; split
  · rfl
  · split <;> exact get_e _

theorem get_set (d : Nat) : ∀ (t : PT α) (k : Nat) (x : Option α) (j : Nat), k + 1 < 2 ^ d → (set d t k x).get j = if j = k then x else t.get j := by
  induction d with
  | zero => intro t k x j h; simp at h
  | succ d ih =>
    have key : ∀ (l : PT α) (v : Option α) (r : PT α) (k : Nat) (x : Option α) (j : Nat), k + 1 < 2 ^ (d + 1) →
        (set (d + 1) (.n l v r) k x).get j = if j = k then x else (PT.n l v r).get j := by
      intro l v r k x j h
      rw [Nat.pow_succ] at h
      rw [set_succ]
      by_cases hk : k = 0
      · subst hk
        simp only [if_true, get_n]
        by_cases hj : j = 0
        · simp [hj]
        · simp [hj]
      · simp only [hk, if_false]
        by_cases hk2 : k % 2 = 1
        · simp only [hk2, if_true, get_n]
          by_cases hj : j = 0
          · simp [hj, Ne.symm hk]
          · simp only [hj, if_false]
            by_cases hj2 : j % 2 = 1
            · simp only [hj2, if_true]
              rw [ih _ _ _ _ (by omega)]
              by_cases hjk : j = k
              · simp [hjk]
              · rw [if_neg (by omega), if_neg hjk]
            · simp only [hj2, if_false]
              rw [if_neg (by omega)]
        · simp only [hk2, if_false, get_n]
          by_cases hj : j = 0
          · simp [hj, Ne.symm hk]
          · simp only [hj, if_false]
            by_cases hj2 : j % 2 = 1
            · simp only [hj2, if_true]
              rw [if_neg (by omega)]
            · simp only [hj2, if_false]
              rw [ih _ _ _ _ (by omega)]
              by_cases hjk : j = k
              · simp [hjk]
              · rw [if_neg (by omega), if_neg hjk]
    intro t k x j h
    cases t with
    | e => rw [set_succ_e, key _ _ _ _ _ _ h, get_ee, get_e]
    | n l v r => exact key l v r k x j h

end PT

/-- how deep the maps go: numbers below maxId. -/
def dep : Nat := 20
def maxId : Nat := 1000000

theorem maxId_lt {k : Nat} (h : k < maxId) : k + 1 < 2 ^ dep := by
  unfold maxId at h; unfold dep; omega

/-! ## values -/
inductive AV where
  | bool (b : Bool)
  | int (k : IntKind) (n : Int)
  | str (s : List Nat)
  | ptr (k off : Nat)
  | nilptr
  /-- a slice whose capacity is known -/
  | sl (k off len cap : Nat)
  /-- a slice whose capacity is open: it ends with the block's cells, es cells an element -/
  | slo (k off len es : Nat)
  | nilsl
  | fn (f : FuncId) (first captured : List AV)
  | nilfn
  | iface (t : TypeId) (v : AV)
  | niliface
  | agg (l : List AV)
  | tup (l : List AV)
  | lit (v : Value)
  /-- a cell of which nothing is known -/
  | any
  /-- a slice of no element that is not nil, wherever it lies -/
  | sl0

instance : Inhabited AV := ⟨.nilptr⟩

def undefA : AV := .tup []

/-- a string's bytes as numbers -/
def bytesOf (s : ByteArray) : List Nat := s.data.toList.map UInt8.toNat

structure Loc where
  b : Nat
  base : Nat
  size : Nat

abbrev Ren := Nat → Option Loc

mutual
inductive VRel (ρ : Ren) : AV → Value → Prop where
  | bool (b : Bool) : VRel ρ (.bool b) (.bool b)
  | int (k : IntKind) (n : Int) : VRel ρ (.int k n) (.int k n)
  | str (s : ByteArray) : VRel ρ (.str (bytesOf s)) (.string s)
  | ptr {k off : Nat} {l : Loc} (h : ρ k = some l) : VRel ρ (.ptr k off) (.pointer (some ⟨l.b, l.base + off, none⟩))
  | nilptr : VRel ρ .nilptr (.pointer none)
  | sl {k off len cap : Nat} {l : Loc} (h : ρ k = some l) : VRel ρ (.sl k off len cap) (.slice (some ⟨l.b, l.base + off, none⟩) len cap)
  | slo {k off len es cap : Nat} {l : Loc} (h : ρ k = some l) (h1 : len ≤ cap) (h2 : l.base + off + cap * es = l.size) :
      VRel ρ (.slo k off len es) (.slice (some ⟨l.b, l.base + off, none⟩) len cap)
  | nilsl : VRel ρ .nilsl (.slice none 0 0)
  | fn {f : FuncId} {fs cs : List AV} {first captured : Array Value} (h1 : VsRel ρ fs first.toList) (h2 : VsRel ρ cs captured.toList) :
      VRel ρ (.fn f fs cs) (.func (.func f) first captured)
  | nilfn : VRel ρ .nilfn .nilFunc
  | iface {t : TypeId} {v : AV} {v' : Value} (h : VRel ρ v v') : VRel ρ (.iface t v) (.iface t v')
  | niliface : VRel ρ .niliface .nilIface
  | agg {l : List AV} {cs : Array Value} (h : VsRel ρ l cs.toList) : VRel ρ (.agg l) (.agg cs)
  | tup {l : List AV} {cs : Array Value} (h : VsRel ρ l cs.toList) : VRel ρ (.tup l) (.tuple cs)
  | lit (v : Value) : VRel ρ (.lit v) v
  | any {v : Value} (h : v.oneCell' = true) : VRel ρ .any v
  | sl0 (a : Addr) (cap : Nat) : VRel ρ .sl0 (.slice (some a) 0 cap)
inductive VsRel (ρ : Ren) : List AV → List Value → Prop where
  | nil : VsRel ρ [] []
  | cons {v : AV} {v' : Value} {l : List AV} {l' : List Value} (h : VRel ρ v v') (t : VsRel ρ l l') : VsRel ρ (v :: l) (v' :: l')
end

/-- what ρ names, ρ' names likewise -/
def Sub (ρ ρ' : Ren) : Prop := ∀ k l, ρ k = some l → ρ' k = some l

theorem Sub.refl (ρ : Ren) : Sub ρ ρ := fun _ _ h => h
theorem Sub.trans {a b c : Ren} (h : Sub a b) (h' : Sub b c) : Sub a c := fun k l hk => h' k l (h k l hk)

theorem VRel.mono {ρ ρ' : Ren} (hs : Sub ρ ρ') {v : AV} {v' : Value} (h : VRel ρ v v') : VRel ρ' v v' :=
  VRel.rec (ρ := ρ) (motive_1 := fun v v' _ => VRel ρ' v v') (motive_2 := fun l l' _ => VsRel ρ' l l')
    (fun b => .bool b) (fun k n => .int k n) (fun s => .str s) (fun h => .ptr (hs _ _ h)) .nilptr (fun h => .sl (hs _ _ h))
    (fun h h1 h2 => .slo (hs _ _ h) h1 h2) .nilsl (fun _ _ h1 h2 => .fn h1 h2) .nilfn (fun _ h => .iface h) .niliface (fun _ h => .agg h) (fun _ h => .tup h)
    (fun v => .lit v) (fun h => .any h) (fun a c => .sl0 a c) .nil (fun _ _ h t => .cons h t) h

theorem VsRel.mono {ρ ρ' : Ren} (hs : Sub ρ ρ') : ∀ {l : List AV} {l' : List Value}, VsRel ρ l l' → VsRel ρ' l l'
  | _, _, .nil => .nil
  | _, _, .cons h t => .cons (h.mono hs) (VsRel.mono hs t)

theorem VsRel.length {ρ : Ren} : ∀ {l : List AV} {l' : List Value}, VsRel ρ l l' → l.length = l'.length
  | _, _, .nil => rfl
  | _, _, .cons _ t => by simp [t.length]

theorem VsRel.get {ρ : Ren} : ∀ {l : List AV} {l' : List Value}, VsRel ρ l l' → ∀ {i : Nat} {v : AV}, l[i]? = some v → ∃ v', l'[i]? = some v' ∧ VRel ρ v v'
  | _, _, .nil, i, v, h => by simp at h
  | _, _, .cons h t, 0, v, hv => by simp at hv; subst hv; exact ⟨_, by simp, h⟩
  | _, _, .cons h t, i + 1, v, hv => by simp at hv; obtain ⟨v', h1, h2⟩ := t.get hv; exact ⟨v', by simpa using h1, h2⟩

theorem VsRel.append {ρ : Ren} : ∀ {a b : List AV} {a' b' : List Value}, VsRel ρ a a' → VsRel ρ b b' → VsRel ρ (a ++ b) (a' ++ b')
  | _, _, _, _, .nil, h => h
  | _, _, _, _, .cons h t, h' => .cons h (t.append h')

theorem VsRel.take {ρ : Ren} : ∀ {l : List AV} {l' : List Value}, VsRel ρ l l' → ∀ n, VsRel ρ (l.take n) (l'.take n)
  | _, _, _, 0 => by simp; exact .nil
  | _, _, .nil, n + 1 => by simp; exact .nil
  | _, _, .cons h t, n + 1 => by simp; exact .cons h (t.take n)

theorem VsRel.drop {ρ : Ren} : ∀ {l : List AV} {l' : List Value}, VsRel ρ l l' → ∀ n, VsRel ρ (l.drop n) (l'.drop n)
  | _, _, h, 0 => by simpa using h
  | _, _, .nil, n + 1 => by simp; exact .nil
  | _, _, .cons _ t, n + 1 => by simp; exact t.drop n

theorem VsRel.set {ρ : Ren} : ∀ {l : List AV} {l' : List Value}, VsRel ρ l l' → ∀ (i : Nat) {v : AV} {v' : Value}, VRel ρ v v' → VsRel ρ (l.set i v) (l'.set i v')
  | _, _, .nil, _, _, _, _ => by simp; exact .nil
  | _, _, .cons _ t, 0, _, _, hv => by simp; exact .cons hv t
  | _, _, .cons h t, i + 1, _, _, hv => by simp; exact .cons h (t.set i hv)

theorem VsRel.replicate {ρ : Ren} {v : AV} {v' : Value} (h : VRel ρ v v') : ∀ n, VsRel ρ (List.replicate n v) (List.replicate n v')
  | 0 => .nil
  | n + 1 => by simp only [List.replicate_succ]; exact .cons h (VsRel.replicate h n)

/-- the cells of a value -/
def AV.cells : AV → List AV
  | .agg l => l
  | v => [v]

def AV.oneCell : AV → Bool
  | .agg _ | .tup _ => false
  | .lit v => v.oneCell'
  | _ => true

theorem VRel.oneCell {ρ : Ren} {v : AV} {v' : Value} (h : VRel ρ v v') (hv : v.oneCell = true) : v'.oneCell' = true := by
  cases h <;> simp_all [AV.oneCell, Value.oneCell']

/-- no aggregate hides behind 'lit' -/
def AV.honest : AV → Bool
  | .lit v => v.oneCell'
  | _ => true

theorem VRel.cells {ρ : Ren} {v : AV} {v' : Value} (h : VRel ρ v v') (hv : v.honest = true) : VsRel ρ v.cells v'.cells.toList := by
  cases h with
  | agg h => simpa [AV.cells, Value.cells] using h
  | lit =>
    simp only [AV.cells]
    have : v'.cells = #[v'] := by cases v' <;> simp_all [AV.honest, Value.oneCell', Value.cells]
    rw [this]; exact .cons (.lit v') .nil
  | bool b => exact .cons (.bool b) .nil
  | int k n => exact .cons (.int k n) .nil
  | str s => exact .cons (.str s) .nil
  | ptr h => exact .cons (.ptr h) .nil
  | nilptr => exact .cons .nilptr .nil
  | sl h => exact .cons (.sl h) .nil
  | slo h h1 h2 => exact .cons (.slo h h1 h2) .nil
  | nilsl => exact .cons .nilsl .nil
  | fn h1 h2 => exact .cons (.fn h1 h2) .nil
  | nilfn => exact .cons .nilfn .nil
  | iface h => exact .cons (.iface h) .nil
  | niliface => exact .cons .niliface .nil
  | tup h => exact .cons (.tup h) .nil
  | any h =>
    simp only [AV.cells]
    have : v'.cells = #[v'] := by cases v' <;> simp_all [Value.oneCell', Value.cells]
    rw [this]; exact .cons (.any h) .nil
  | sl0 a c => exact .cons (.sl0 a c) .nil

/-! ## constants -/
def ofLeaf : Value → Option AV
  | .bool b => some (.bool b)
  | .int k n => some (.int k n)
  | .float k b => some (.lit (.float k b))
  | .string s => some (.str (bytesOf s))
  | .pointer none => some .nilptr
  | .slice none 0 0 => some .nilsl
  | .map none => some (.lit (.map none))
  | .nilFunc => some .nilfn
  | .nilIface => some .niliface
  | .func (.func f) ⟨[]⟩ ⟨[]⟩ => some (.fn f [] [])
  | _ => none

def ofLeaves : List Value → Option (List AV)
  | [] => some []
  | v :: l => match ofLeaf v with
    | some a => match ofLeaves l with
      | some as => some (a :: as)
      | none => none
    | none => none

def ofVal : Value → Option AV
  | .agg ⟨cs⟩ => match ofLeaves cs with
    | some l => some (.agg l)
    | none => none
  | .tuple ⟨[]⟩ => some (.tup [])
  | v => ofLeaf v

theorem ofLeaf_rel (ρ : Ren) {v : Value} {a : AV} (h : ofLeaf v = some a) : VRel ρ a v := by
  unfold ofLeaf at h
  split at h <;> first
    | (cases h; first | exact .bool _ | exact .int _ _ | exact .str _ | exact .nilptr | exact .nilsl | exact .nilfn | exact .niliface | exact .lit _ | exact .fn .nil .nil)
    | cases h

theorem ofLeaves_rel (ρ : Ren) : ∀ {l : List Value} {a : List AV}, ofLeaves l = some a → VsRel ρ a l
  | [], a, h => by simp [ofLeaves] at h; subst h; exact .nil
  | v :: l, a, h => by
    simp only [ofLeaves] at h
    split at h
    · rename_i b hb
      split at h
      · rename_i bs hbs
        cases h; exact .cons (ofLeaf_rel ρ hb) (ofLeaves_rel ρ hbs)
      · cases h
    · cases h

theorem ofVal_rel (ρ : Ren) {v : Value} {a : AV} (h : ofVal v = some a) : VRel ρ a v := by
  unfold ofVal at h
  split at h
  · split at h
    · rename_i l hl; cases h; exact .agg (ofLeaves_rel ρ hl)
    · cases h
  · cases h; exact .tup .nil
  · exact ofLeaf_rel ρ h

theorem ofLeaf_one {v : Value} {a : AV} (h : ofLeaf v = some a) : a.oneCell = true ∧ a.honest = true := by
  unfold ofLeaf at h
  split at h <;> first
    | (cases h; simp [AV.oneCell, AV.honest, Value.oneCell'])
    | cases h

theorem ofVal_honest {v : Value} {a : AV} (h : ofVal v = some a) : a.honest = true := by
  unfold ofVal at h
  split at h
  · split at h
    · cases h; rfl
    · cases h
  · cases h; rfl
  · exact (ofLeaf_one h).2

/-! ## the heap -/
structure Blk where
  elem : TypeId
  /-- the block ends with the cells that are known -/
  exact : Bool
  /-- 0: the block is never frozen; 1: no cell of it is; 2: it is only read -/
  fz : Nat
  cells : List AV

structure Heap where
  next : Nat
  m : PT Blk

def Heap.get (h : Heap) (k : Nat) : Option Blk := h.m.get k
def Heap.put (h : Heap) (k : Nat) (B : Option Blk) : Heap := { h with m := h.m.set dep k B }

theorem Heap.get_put {h : Heap} {k : Nat} {B : Option Blk} (hk : k < maxId) (j : Nat) : (h.put k B).get j = if j = k then B else h.get j :=
  PT.get_set dep h.m k B j (maxId_lt hk)

def FzOk (fz : Nat) (size : Nat) (r : Nat × Nat) : Prop :=
  match fz with
  | 0 => r = (0, 0)
  | 1 => r = (0, 0) ∨ r = (size, size + 1)
  | _ => True

/-- a block of the abstract heap and a block of the world -/
structure BRel (ρ : Ren) (w : World) (B : Blk) (l : Loc) : Prop where
  cells : ∃ cs fz, w.heap[l.b]? = some (.cells cs B.elem fz) ∧ cs.size = l.size ∧ FzOk B.fz l.size fz ∧ VsRel ρ B.cells ((cs.toList.drop l.base).take B.cells.length)
  fits : l.base + B.cells.length ≤ l.size
  exact : B.exact = true → l.base = 0 ∧ l.size = B.cells.length

/-- blocks that no step may touch: f: those that were there before; x: those to which, beside, no block of the abstract heap leads -/
structure Frm where
  f : Nat → Prop
  x : Nat → Prop

def Frm.any (F : Frm) (b : Nat) : Prop := F.f b ∨ F.x b

/-- the abstract heap h stands for the world w; the blocks of F are as they are in w0. A block with fz from 3 on may be one of F.f. -/
structure WRel (F : Frm) (w0 w : World) (ρ : Ren) (h : Heap) : Prop where
  os : w.os = w0.os
  tape : w.tape = w0.tape
  output : w.output = w0.output
  size : w0.heap.size ≤ w.heap.size
  old : ∀ b, F.any b → w.heap[b]? = w0.heap[b]?
  inold : ∀ b, F.any b → b < w0.heap.size
  bound : h.next ≤ maxId
  fresh : ∀ k, h.next ≤ k → ρ k = none
  dom : ∀ k l, ρ k = some l → l.b < w.heap.size
  blk : ∀ k B l, h.get k = some B → ρ k = some l → BRel ρ w B l
  own : ∀ k B l, h.get k = some B → ρ k = some l → (B.fz < 3 → ¬ F.f l.b) ∧ ¬ F.x l.b
  inj : ∀ k B l k' B' l', h.get k = some B → ρ k = some l → h.get k' = some B' → ρ k' = some l' → (B.fz < 3 ∨ B'.fz < 3) → l.b = l'.b → k = k'

theorem WRel.notin {F : Frm} {w0 w : World} {ρ : Ren} {h : Heap} (hw : WRel F w0 w ρ h) {k : Nat} {B : Blk} {l : Loc} (hk : h.get k = some B) (hl : ρ k = some l) (hf : B.fz < 3) : ¬ F.any l.b := by
  obtain ⟨h1, h2⟩ := hw.own k B l hk hl
  exact fun e => e.elim (h1 hf) h2

/-- ρ' is ρ below n -/
def Agree (n : Nat) (ρ ρ' : Ren) : Prop := ∀ k, k < n → ρ' k = ρ k

theorem Agree.refl (n : Nat) (ρ : Ren) : Agree n ρ ρ := fun _ _ => rfl
theorem Agree.trans {n m : Nat} {a b c : Ren} (h : Agree n a b) (h' : Agree m b c) (hm : n ≤ m) : Agree n a c :=
  fun k hk => (h' k (by omega)).trans (h k hk)

theorem WRel.sub {F : Frm} {w0 w : World} {ρ ρ' : Ren} {h : Heap} (hw : WRel F w0 w ρ h) (ha : Agree h.next ρ ρ') : Sub ρ ρ' := by
  intro k l hk
  by_cases hn : k < h.next
  · rw [ha k hn]; exact hk
  · rw [hw.fresh k (by omega)] at hk; cases hk

end Go.Ev
