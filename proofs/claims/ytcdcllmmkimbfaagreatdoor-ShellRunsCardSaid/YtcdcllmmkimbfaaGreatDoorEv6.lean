/- Numbers, comparisons, conversions, assertions. -/
import Derived.Test.YtcdcllmmkimbfaaGreatDoorEv5
import Derived.Laws.BytesString
set_option linter.unusedSimpArgs false
set_option linter.unusedVariables false
namespace Go.Ev

theorem wrapF_eq (k : IntKind) (n : Int) : wrapF k n = k.wrap n := by
  unfold wrapF
  split
  · rename_i hb
    cases k <;> simp only [loB, hiB] at hb <;> simp only [IntKind.wrap, IntKind.bits, IntKind.signed] <;> simp <;> omega
  · rfl

theorem sameK_eq {a b : IntKind} (h : sameK a b = true) : a = b := by
  cases a <;> cases b <;> simp_all [sameK]

theorem eqL_eq : ∀ (l m : List Nat), eqL l m = decide (l = m)
  | [], [] => rfl
  | [], b :: m => by simp [eqL]
  | a :: l, [] => by simp [eqL]
  | a :: l, b :: m => by
    simp only [eqL, eqL_eq l m]
    by_cases h : a = b
    · subst h; simp
    · rw [PT.nbeq h]; simp [h]

theorem map_toNat_inj : ∀ {l m : List UInt8}, l.map UInt8.toNat = m.map UInt8.toNat → l = m
  | [], [], _ => rfl
  | [], _ :: _, h => by simp at h
  | _ :: _, [], h => by simp at h
  | a :: l, b :: m, h => by
    simp only [List.map_cons, List.cons.injEq] at h
    rw [UInt8.toNat_inj.1 h.1, map_toNat_inj h.2]

theorem str_eq (a b : ByteArray) : (a.toList == b.toList) = eqL (bytesOf a) (bytesOf b) := by
  rw [eqL_eq, ByteArray.toList_eq, ByteArray.toList_eq]
  by_cases h : a.data.toList = b.data.toList
  · simp [h, bytesOf]
  · have h2 : ¬ bytesOf a = bytesOf b := fun e => h (map_toNat_inj e)
    rw [decide_eq_false h2]
    exact beq_eq_false_iff_ne.2 h

theorem bytes_inj {a b : ByteArray} (h : bytesOf a = bytesOf b) : a = b := by
  obtain ⟨⟨x⟩⟩ := a
  obtain ⟨⟨y⟩⟩ := b
  have : x = y := map_toNat_inj h
  rw [this]

theorem ltL_eq : ∀ (x y : List UInt8), Op.bytesLess x y = ltL (x.map UInt8.toNat) (y.map UInt8.toNat)
  | [], [] => rfl
  | [], _ :: _ => rfl
  | _ :: _, [] => rfl
  | a :: x, b :: y => by
    simp only [Op.bytesLess, List.map_cons, ltL, ltL_eq x y]
    have h1 : decide (a < b) = Nat.blt a.toNat b.toNat := by
      rw [Bool.eq_iff_iff]; simp [UInt8.lt_iff_toNat_lt]
    have h2 : (a == b) = Nat.beq a.toNat b.toNat := by
      rw [Bool.eq_iff_iff]; simp [Nat.beq_eq, UInt8.toNat_inj]
    rw [h1, h2]

theorem str_lt (a b : ByteArray) : Op.bytesLess a.toList b.toList = ltL (bytesOf a) (bytesOf b) := by
  rw [ByteArray.toList_eq, ByteArray.toList_eq, ltL_eq]; rfl

theorem bytes_append (a b : ByteArray) : bytesOf (a ++ b) = bytesOf a ++ bytesOf b := by
  simp [bytesOf, ByteArray.data_append]

section
variable {P : Program} {F : Frm} {w0 w : World} {ρ : Ren} {h : Heap}

theorem evInt_ok {op : BinOp} {k : IntKind} {a b : Int} {v : AV} {t : TypeId} (h1 : op ≠ .shl) (h2 : op ≠ .shr) (hr : evInt op k a b = some v) :
    ∃ v', (binOp op t (.int k a) (.int k b)).run P w = .ok v' w ∧ VRel ρ v v' := by
  cases op
  case shl => exact absurd rfl h1
  case shr => exact absurd rfl h2
  case add => simp only [evInt, wrapF_eq] at hr; cases hr; refine ⟨_, ?_, .int _ _⟩; simp [binOp, Op.intArith]
  case sub => simp only [evInt, wrapF_eq] at hr; cases hr; refine ⟨_, ?_, .int _ _⟩; simp [binOp, Op.intArith]
  case mul => simp only [evInt, wrapF_eq] at hr; cases hr; refine ⟨_, ?_, .int _ _⟩; simp [binOp, Op.intArith]
  case quo =>
    simp only [evInt, wrapF_eq] at hr
    split at hr
    · cases hr
    · rename_i hb; cases hr; refine ⟨_, ?_, .int _ _⟩; simp [binOp, Op.intDiv, hb]
  case rem =>
    simp only [evInt, wrapF_eq] at hr
    split at hr
    · cases hr
    · rename_i hb; cases hr; refine ⟨_, ?_, .int _ _⟩; simp [binOp, Op.intDiv, hb]
  case and => simp only [evInt] at hr; cases hr; refine ⟨_, ?_, .int _ _⟩; simp only [binOp, ne_eq, not_true, if_false, Op.intBits]; rfl
  case or => simp only [evInt] at hr; cases hr; refine ⟨_, ?_, .int _ _⟩; simp only [binOp, ne_eq, not_true, if_false, Op.intBits]; rfl
  case xor => simp only [evInt] at hr; cases hr; refine ⟨_, ?_, .int _ _⟩; simp only [binOp, ne_eq, not_true, if_false, Op.intBits]; rfl
  case andNot => simp only [evInt] at hr; cases hr; refine ⟨_, ?_, .int _ _⟩; simp only [binOp, ne_eq, not_true, if_false, Op.intBits]; rfl
  case eql => simp only [evInt] at hr; cases hr; refine ⟨_, ?_, .bool _⟩; simp [binOp, Op.intCmp]; rw [Bool.eq_iff_iff]; simp
  case neq => simp only [evInt] at hr; cases hr; refine ⟨_, ?_, .bool _⟩; simp [binOp, Op.intCmp]; rw [Bool.eq_iff_iff]; simp
  case lss => simp only [evInt] at hr; cases hr; refine ⟨_, ?_, .bool _⟩; simp [binOp, Op.intCmp]
  case leq => simp only [evInt] at hr; cases hr; refine ⟨_, ?_, .bool _⟩; simp [binOp, Op.intCmp]
  case gtr => simp only [evInt] at hr; cases hr; refine ⟨_, ?_, .bool _⟩; simp [binOp, Op.intCmp]
  case geq => simp only [evInt] at hr; cases hr; refine ⟨_, ?_, .bool _⟩; simp [binOp, Op.intCmp]

theorem evStr_ok {op : BinOp} {a b : ByteArray} {v : AV} {t : TypeId} (hr : evStr op (bytesOf a) (bytesOf b) = some v) :
    ∃ v', (binOp op t (.string a) (.string b)).run P w = .ok v' w ∧ VRel ρ v v' := by
  have hb : ∀ op, op ≠ .shl → op ≠ .shr → binOp op t (.string a) (.string b) = Op.stringOp op a b := by
    intro op h1 h2; cases op <;> first | contradiction | rfl
  cases op <;> simp only [evStr] at hr
  case add =>
    split at hr
    · rename_i hle
      cases hr
      simp only [Nat.ble_eq, bytes_length] at hle
      refine ⟨.string (a ++ b), ?_, by rw [← bytes_append]; exact .str _⟩
      rw [hb _ (by simp) (by simp)]
      have hmax : IntKind.i64.max = 9223372036854775807 := rfl
      simp only [Op.stringOp, hmax]
      rw [if_neg (by omega)]
      simp
    · cases hr
  all_goals first
    | contradiction
    | (cases hr; rw [hb _ (by simp) (by simp)]; refine ⟨_, ?_, .bool _⟩; simp [Op.stringOp, str_eq, str_lt]; done)

theorem evShift_ok {op : BinOp} {k k' : IntKind} {a b : Int} {v : AV} {t : TypeId} (ho : op = .shl ∨ op = .shr) (hr : evShift op k a b = some v) :
    ∃ v', (binOp op t (.int k a) (.int k' b)).run P w = .ok v' w ∧ VRel ρ v v' := by
  unfold evShift at hr
  split at hr
  · rename_i m
    rcases ho with rfl | rfl <;> simp only at hr <;> cases hr <;> refine ⟨_, ?_, .int _ _⟩ <;> simp only [binOp, Op.shift] <;> rw [if_neg (by simp)] <;> simp
  · cases hr

theorem shape_blk {k : Nat} {B : Blk} {l : Loc} (hb : BRel ρ w B l) (hz : B.fz = 0) : ∃ n, w.shape? l.b = some (B.elem, n) ∧ ∀ o, w.frozen? ⟨l.b, o, none⟩ = false := by
  obtain ⟨⟨cs, fz, hc, hs, hf, _⟩, _, _⟩ := hb
  rw [hz] at hf
  simp only [FzOk] at hf
  subst hf
  exact ⟨cs.size, by simp [World.shape?, hc], fun o => by simp [World.frozen?, hc]⟩

theorem sameAddr_other {a b : Addr} {ea eb : TypeId} {na nb : Nat} (hne : a.block ≠ b.block) (ha : w.shape? a.block = some (ea, na)) (hb : w.shape? b.block = some (eb, nb))
    (fa : ∀ o, w.frozen? ⟨a.block, o, none⟩ = false) (fb : ∀ o, w.frozen? ⟨b.block, o, none⟩ = false) (fa' : w.frozen? a = false) (fb' : w.frozen? b = false) : (sameAddr a b).run P w = .ok false w := by
  have h1 : (a.block == b.block) = false := by simpa using hne
  have va : (noView a).run P w = .ok () w := by simp [noView, viewAt, ha]
  have vb : (noView b).run P w = .ok () w := by simp [noView, viewAt, hb]
  have sa : (stringish a).run P w = .ok false w := by simp [stringish, fa', ha, fa]
  have sb : (stringish b).run P w = .ok false w := by simp [stringish, fb', hb, fb]
  have mb : (mayBeOne a b).run P w = .ok false w := by simp [mayBeOne, sa, sb, ha, hb]
  simp [sameAddr, h1, fa', va, vb, mb]

theorem eqA_ok (hw : WRel F w0 w ρ h) {t : TypeId} {x y : AV} {x' y' : Value} {r : Bool} (hx : VRel ρ x x') (hy : VRel ρ y y') (hr : eqA P h t x y = some r) (d : Nat) :
    (Op.equalIn (d + 1) t x' y').run P w = .ok r w := by
  unfold eqA at hr
  split at hr
  · rename_i hd; cases hr; cases hx; cases hy; simp [Op.equalIn, run_underlying hd]
  · rename_i hd; cases hr; cases hx; cases hy; simp [Op.equalIn, run_underlying hd]
  · rename_i hd; cases hr; cases hx; cases hy; simp [Op.equalIn, run_underlying hd]
  · rename_i hd; cases hr; cases hx; cases hy; simp [Op.equalIn, run_underlying hd]
  · rename_i e k o k' o' hd
    split at hr
    · rename_i n B B' hn hB hB'
      split at hr
      · cases hr
      · rename_i hz
        have hz' : n ≠ 0 := by simpa [Nat.beq_eq] using hz
        cases hx with
        | ptr hl =>
          rename_i l
          cases hy with
          | ptr hl' =>
            rename_i l'
            split at hr
            · rename_i hkk
              have hkk' : k = k' := by simpa [Nat.beq_eq] using hkk
              subst hkk'
              rw [hl] at hl'; cases hl'
              cases hr
              simp only [Op.equalIn, Sem.run_bind, run_underlying hd, Result.andThen_ok, sizeOf_run hn]
              have hbb : ∀ (x y : Addr), (x.block == y.block) = true → (sameAddr x y).run P w = .ok (x == y) w := by
                intro x y hxy; simp [sameAddr, hxy]
              simp only [hz', ne_eq, not_false_eq_true, if_true]
              rw [hbb _ _ (by simp)]
              congr 1
              rw [Bool.eq_iff_iff]
              simp [Nat.beq_eq]
            · rename_i hkk
              have hkk' : k ≠ k' := fun e => hkk (by simp [e])
              split at hr
              · rename_i hfz
                simp only [Bool.and_eq_true, Nat.beq_eq] at hfz
                cases hr
                have hne : l.b ≠ l'.b := fun e => hkk' (hw.inj k B l k' B' l' hB hl hB' hl' (.inl (by omega)) e)
                obtain ⟨n1, s1, f1⟩ := shape_blk (k := k) (hw.blk k B l hB hl) hfz.1
                obtain ⟨n2, s2, f2⟩ := shape_blk (k := k') (hw.blk k' B' l' hB' hl') hfz.2
                have := sameAddr_other (P := P) (a := ⟨l.b, l.base + o, none⟩) (b := ⟨l'.b, l'.base + o', none⟩) hne s1 s2 f1 f2 (f1 _) (f2 _)
                simp only [Op.equalIn, Sem.run_bind, run_underlying hd, Result.andThen_ok, sizeOf_run hn]
                simp only [hz', ne_eq, not_false_eq_true, if_true, this]
              · cases hr
    · cases hr
  all_goals first
    | (cases hr; done)
    | (rename_i hd; cases hr; cases hx; cases hy; simp [Op.equalIn, run_underlying hd]; done)

theorem eqF_ok : ∀ (n : Nat) (d : Nat), n ≤ d → ∀ (xs ys : List AV) (xs' ys' : Array Value) (fs : List Field) (r : Bool), VsRel ρ xs xs'.toList → VsRel ρ ys ys'.toList →
    eqF P n xs ys fs = some r → (Op.eqFields d xs' ys' fs).run P w = .ok r w
  | 0, d, hd, xs, ys, xs', ys', fs, r, hx, hy, hr => by simp [eqF] at hr
  | n + 1, d, hnd, xs, ys, xs', ys', fs, r, hx, hy, hr => by
    obtain ⟨d, rfl⟩ : ∃ m, d = m + 1 := ⟨d - 1, by omega⟩
    cases fs with
    | nil => simp only [eqF] at hr; cases hr; simp [Op.eqFields]
    | cons f fs =>
      simp only [eqF] at hr
      split at hr
      · cases hr
      · rename_i hname
        have hname' : f.name ≠ "_" := by simpa using hname
        split at hr
        · rename_i a b ha hb
          obtain ⟨a', a1, a2⟩ := partA_run (P := P) (w := w) hx ha
          obtain ⟨b', b1, b2⟩ := partA_run (P := P) (w := w) hy hb
          have key : ∀ q, (match P.underlying f.type, a, b with
              | some .bool, .bool p, .bool q => some (p == q)
              | some (.int _), .int k p, .int k' q => if sameK k k' then some (decide (p = q)) else none
              | some .string, .str p, .str q => some (eqL p q)
              | some (.struct gs), .agg p, .agg q => if P.stoodInHeld f.type then none else eqF P n p q gs.toList
              | _, _, _ => none) = some q → (Op.equalIn (d + 1) f.type a' b').run P w = .ok q w := by
            intro q hq
            split at hq
            · rename_i hd; cases hq; cases a2; cases b2; simp [Op.equalIn, run_underlying hd]
            · rename_i hd
              split at hq
              · rename_i hk
                have := sameK_eq hk
                subst this
                cases hq; cases a2; cases b2; simp [Op.equalIn, run_underlying hd]
                rw [Bool.eq_iff_iff]; simp
              · cases hq
            · rename_i hd; cases hq; cases a2; cases b2
              rw [run_equalIn_string w d f.type _ _ hd, str_eq]
            · rename_i gs p q' hd
              split at hq
              · cases hq
              · rename_i hst
                cases a2 with
                | agg ha2 =>
                  cases b2 with
                  | agg hb2 =>
                    have hfo : P.fieldsOf f.type = gs := by simp [Program.fieldsOf, hd]
                    have ih := eqF_ok n d (by omega) _ _ _ _ _ q ha2 hb2 hq
                    rw [run_equalIn_struct w d f.type _ _ (by rw [hfo]; exact hd) (by simpa using hst), hfo]
                    exact ih
            · cases hq
          simp only [Op.eqFields]
          rw [if_pos hname']
          simp only [Sem.run_bind, a1, b1, Result.andThen_ok]
          split at hr
          · rename_i hq
            rw [key true hq]
            simp only [Result.andThen_ok, Bool.not_true, Bool.false_eq_true, if_false]
            exact eqF_ok n (d + 1) (by omega) xs ys xs' ys' fs r hx hy hr
          · rename_i hq
            cases hr
            rw [key false hq]
            simp
          · cases hr
        · cases hr

theorem eqGuard_ok {op : BinOp} {t : TypeId} {x y : Operand} {a b : Value} (h1 : a ≠ .nilIface ∨ b ≠ .nilIface) (h2 : (∀ c, a ≠ .agg c) ∨ (∀ c, b ≠ .agg c)) :
    (eqGuard op t x y a b).run P w = .ok () w := by
  have key : (match a, b with
    | .nilIface, .nilIface => (do
      if (x matches .const _) || (y matches .const _) then return
      if ← Op.eqGuardIn Op.maxDepth t a b then unsupported (.noEntry "binop/eql: two nil values of an interface type with methods, neither of them the literal nil") : Sem Unit)
    | .agg _, .agg _ => do
      if !(← program).eqGuardType (← program).depth t then return
      if ← Op.eqGuardIn Op.maxDepth t a b then unsupported (.noEntry "binop/eql: two nil values of an interface type with methods, in a part of a struct or an array")
    | _, _ => pure ()).run P w = .ok () w := by
    split
    · exact absurd rfl (h1.elim (fun h => absurd rfl h) id)
    · rcases h2 with h | h <;> exact absurd rfl (h _)
    · rfl
  cases op <;> first
    | exact key
    | rfl

theorem binOp_eql {t : TypeId} {a b : Value} (hi : ∀ k n k' n', a = .int k n → b = .int k' n' → False) (hf : ∀ k n k' n', a = .float k n → b = .float k' n' → False)
    (hc : ∀ k n m k' n' m', a = .complex k n m → b = .complex k' n' m' → False) (hs : ∀ s s', a = .string s → b = .string s' → False) :
    binOp .eql t a b = (do pure (.bool (← Op.equal t a b))) ∧ binOp .neq t a b = (do pure (.bool (!(← Op.equal t a b)))) := by
  constructor
  · unfold binOp
    split <;> first
      | exact (hi _ _ _ _ rfl rfl).elim
      | exact (hf _ _ _ _ rfl rfl).elim
      | exact (hc _ _ _ _ _ _ rfl rfl).elim
      | exact (hs _ _ rfl rfl).elim
      | rfl
      | simp_all
  · unfold binOp
    split <;> first
      | exact (hi _ _ _ _ rfl rfl).elim
      | exact (hf _ _ _ _ rfl rfl).elim
      | exact (hc _ _ _ _ _ _ rfl rfl).elim
      | exact (hs _ _ rfl rfl).elim
      | rfl
      | simp_all

theorem nil_eq (d : Nat) {t : TypeId} {ms : Array (String × TypeId)} (hd : P.underlying t = some (.interface ms)) : (Op.equalIn (d + 1) t .nilIface .nilIface).run P w = .ok true w := by
  simp [Op.equalIn, run_underlying hd]

theorem nil_guard (op : BinOp) (t : TypeId) (x : Operand) (c : Value) : (eqGuard op t x (.const c) .nilIface .nilIface).run P w = .ok () w := by
  cases op <;> simp [eqGuard]

def _root_.Go.Ev.AV.cmp : AV → Bool
  | .bool _ | .ptr _ _ | .nilptr | .iface _ _ | .niliface | .sl _ _ _ _ | .slo _ _ _ _ | .nilsl | .sl0 | .fn _ _ _ | .nilfn => true
  | _ => false

theorem eqA_cmp {t : TypeId} {x y : AV} {r : Bool} (hr : eqA P h t x y = some r) : x.cmp = true ∧ y.cmp = true ∧ (x ≠ .niliface ∨ y ≠ .niliface) := by
  unfold eqA at hr
  split at hr <;> first
    | (cases hr; done)
    | simp [AV.cmp]

theorem cmp_not {x : AV} {x' : Value} (hx : VRel ρ x x') (hc : x.cmp = true) : (∀ k n, x' ≠ .int k n) ∧ (∀ k n, x' ≠ .float k n) ∧ (∀ k n m, x' ≠ .complex k n m) ∧ (∀ s, x' ≠ .string s) ∧ (∀ c, x' ≠ .agg c) := by
  cases hx <;> first
    | (simp [AV.cmp] at hc; done)
    | simp

theorem cmp_nil {x : AV} {x' : Value} (hx : VRel ρ x x') (hc : x.cmp = true) (hn : x ≠ .niliface) : x' ≠ .nilIface := by
  cases hx <;> first
    | (simp [AV.cmp] at hc; done)
    | exact absurd rfl hn
    | simp

theorem op_equal (t : TypeId) (x y : Value) : Op.equal t x y = Op.equalIn (9999 + 1) t x y := rfl

theorem evBin_ok (hw : WRel F w0 w ρ h) {op : BinOp} {t : TypeId} {xo yo : Operand} {a : Act} {x y v : AV} (hxo : ∀ c, xo = .const c → True) {x' y' : Value}
    (hx : VRel ρ x x') (hy : VRel ρ y y') (hr : evBin P h op t xo yo x y = some v) :
    ∃ v', (do eqGuard op t xo yo x' y'; binOp op t x' y' : Sem Value).run P w = .ok v' w ∧ VRel ρ v v' := by
  unfold evBin at hr
  split at hr
  · rename_i k p k' q
    cases hx; cases hy
    obtain ⟨v', h1, h2⟩ := evShift_ok (P := P) (w := w) (ρ := ρ) (k' := k') (t := t) (.inl rfl) hr
    refine ⟨v', ?_, h2⟩
    simp only [Sem.run_bind, eqGuard_ok (P := P) (w := w) (op := .shl) (t := t) (x := xo) (y := yo) (a := .int k p) (b := .int k' q) (by simp) (by simp), Result.andThen_ok, h1]
  · rename_i k p k' q
    cases hx; cases hy
    obtain ⟨v', h1, h2⟩ := evShift_ok (P := P) (w := w) (ρ := ρ) (k' := k') (t := t) (.inr rfl) hr
    refine ⟨v', ?_, h2⟩
    simp only [Sem.run_bind, eqGuard_ok (P := P) (w := w) (op := .shr) (t := t) (x := xo) (y := yo) (a := .int k p) (b := .int k' q) (by simp) (by simp), Result.andThen_ok, h1]
  · rename_i k p k' q n1 n2
    split at hr
    · rename_i hk
      have := sameK_eq hk
      subst this
      cases hx; cases hy
      obtain ⟨v', h1, h2⟩ := evInt_ok (P := P) (w := w) (ρ := ρ) (t := t) n1 n2 hr
      refine ⟨v', ?_, h2⟩
      simp only [Sem.run_bind, eqGuard_ok (P := P) (w := w) (op := op) (t := t) (x := xo) (y := yo) (a := .int k p) (b := .int k q) (by simp) (by simp), Result.andThen_ok, h1]
    · cases hr
  · cases hx with
    | str a =>
      cases hy with
      | str b =>
        obtain ⟨v', h1, h2⟩ := evStr_ok (P := P) (w := w) (ρ := ρ) (t := t) hr
        refine ⟨v', ?_, h2⟩
        simp only [Sem.run_bind, eqGuard_ok (P := P) (w := w) (op := op) (t := t) (x := xo) (y := yo) (a := .string a) (b := .string b) (by simp) (by simp), Result.andThen_ok, h1]
  · split at hr
    · rename_i fs hfs
      split at hr
      · cases hr
      · rename_i hg
        simp only [Bool.or_eq_true, not_or, Bool.not_eq_true] at hg
        split at hr
        · rename_i r hq
          cases hr
          cases hx with
          | agg hx =>
            cases hy with
            | agg hy =>
              have he := eqF_ok (P := P) (w := w) 1000 9999 (by omega) _ _ _ _ _ r hx hy hq
              have hfo : P.fieldsOf t = fs := by simp [Program.fieldsOf, hfs]
              refine ⟨.bool r, ?_, .bool r⟩
              simp only [Sem.run_bind, run_eqGuard_agg w .eql t xo yo _ _ hg.1, Result.andThen_ok, run_eql_struct]
              rw [show (10000 : Nat) = 9999 + 1 from rfl, run_equalIn_struct w 9999 t _ _ (by rw [hfo]; exact hfs) hg.2, hfo, he]
              rfl
        · cases hr
    · cases hr
  · split at hr
    · rename_i fs hfs
      split at hr
      · cases hr
      · rename_i hg
        simp only [Bool.or_eq_true, not_or, Bool.not_eq_true] at hg
        split at hr
        · rename_i r hq
          cases hr
          cases hx with
          | agg hx =>
            cases hy with
            | agg hy =>
              have he := eqF_ok (P := P) (w := w) 1000 9999 (by omega) _ _ _ _ _ r hx hy hq
              have hfo : P.fieldsOf t = fs := by simp [Program.fieldsOf, hfs]
              refine ⟨.bool (!r), ?_, .bool _⟩
              simp only [Sem.run_bind, run_eqGuard_agg w .neq t xo yo _ _ hg.1, Result.andThen_ok, run_neq_struct]
              rw [show (10000 : Nat) = 9999 + 1 from rfl, run_equalIn_struct w 9999 t _ _ (by rw [hfo]; exact hfs) hg.2, hfo, he]
              rfl
        · cases hr
    · cases hr
  · split at hr
    · rename_i ms c hd
      cases hr; cases hx; cases hy
      refine ⟨.bool true, ?_, .bool _⟩
      rw [(binOp_eql (t := t) (a := .nilIface) (b := .nilIface) (by simp) (by simp) (by simp) (by simp)).1]
      simp only [Sem.run_bind, nil_guard, Result.andThen_ok, op_equal, nil_eq 9999 hd]
      rfl
    · cases hr
  · split at hr
    · rename_i ms c hd
      cases hr; cases hx; cases hy
      refine ⟨.bool false, ?_, .bool _⟩
      rw [(binOp_eql (t := t) (a := .nilIface) (b := .nilIface) (by simp) (by simp) (by simp) (by simp)).2]
      simp only [Sem.run_bind, nil_guard, Result.andThen_ok, op_equal, nil_eq 9999 hd]
      rfl
    · cases hr
  · rename_i n1 n2 n3 n4
    split at hr
    · rename_i r hq
      cases hr
      have he := eqA_ok (P := P) hw hx hy hq 9999
      obtain ⟨q1, q2, q3⟩ := eqA_cmp hq
      obtain ⟨c1, c2, c3, c4, c5⟩ := cmp_not hx q1
      have hb := binOp_eql (t := t) (a := x') (b := y') (fun k n _ _ e _ => c1 k n e) (fun k n _ _ e _ => c2 k n e) (fun k n m _ _ _ e _ => c3 k n m e) (fun s _ e _ => c4 s e)
      refine ⟨.bool r, ?_, .bool _⟩
      rw [hb.1]
      have hgd := eqGuard_ok (P := P) (w := w) (op := .eql) (t := t) (x := xo) (y := yo) (a := x') (b := y') (q3.imp (cmp_nil hx q1) (cmp_nil hy q2)) (.inl c5)
      simp only [Sem.run_bind, hgd, Result.andThen_ok, op_equal, he]
      rfl
    · cases hr
  · rename_i n1 n2 n3 n4
    split at hr
    · rename_i r hq
      cases hr
      have he := eqA_ok (P := P) hw hx hy hq 9999
      obtain ⟨q1, q2, q3⟩ := eqA_cmp hq
      obtain ⟨c1, c2, c3, c4, c5⟩ := cmp_not hx q1
      have hb := binOp_eql (t := t) (a := x') (b := y') (fun k n _ _ e _ => c1 k n e) (fun k n _ _ e _ => c2 k n e) (fun k n m _ _ _ e _ => c3 k n m e) (fun s _ e _ => c4 s e)
      refine ⟨.bool (!r), ?_, .bool _⟩
      rw [hb.2]
      have hgd := eqGuard_ok (P := P) (w := w) (op := .neq) (t := t) (x := xo) (y := yo) (a := x') (b := y') (q3.imp (cmp_nil hx q1) (cmp_nil hy q2)) (.inl c5)
      simp only [Sem.run_bind, hgd, Result.andThen_ok, op_equal, he]
      rfl
    · cases hr
  · cases hr

theorem evUn_ok {op : UnOp} {x v : AV} {x' : Value} (hx : VRel ρ x x') (hr : evUn op x = some v) : ∃ v', (Op.unary op x').run P w = .ok v' w ∧ VRel ρ v v' := by
  unfold evUn at hr
  split at hr
  · cases hr; cases hx; refine ⟨_, ?_, .bool _⟩; simp [Op.unary]
  · cases hr; cases hx; refine ⟨_, ?_, .int _ _⟩; simp [Op.unary, Op.intArith, wrapF_eq]
  · cases hr
end
end Go.Ev
