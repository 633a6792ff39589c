/- copy, clear, unsafe.String, functions without a body; every operation together. -/
import Derived.Test.YtcdcllmmkimbfaaGreatDoorEv8
import Derived.Lib.Bytealg
set_option linter.unusedSimpArgs false
set_option linter.unusedVariables false
namespace Go.Ev

section
variable {P : Program} {F : Frm} {w0 w : World} {ρ : Ren} {h : Heap}

theorem arr_len {α : Type} {a : Array α} {l : List α} (h : a.toList = l) : a = l.toArray := by rw [← h]

theorem copy_ok (hw : WRel F w0 w ρ h) {ts : Array TypeId} {ty t : TypeId} {args' : Array Value} {lt : List TypeId} {la : List Value} {d x v : AV} {d' x' : Value} {h' : Heap}
    (h1 : ts.toList = t :: lt) (h2 : args'.toList = d' :: x' :: la) (hd : VRel ρ d d') (hx : VRel ρ x x') (hr : evCopy P h t d x = some (v, h')) :
    ROk P F w0 w ρ h (.eff v h') ((do pure (Next.value (← Builtin.copy_ ts ty args')) : Sem Next).run P w) := by
  unfold evCopy at hr
  split at hr
  · rename_i e he
    split at hr
    · rename_i size dl xl hsz hdl hxl
      split at hr
      · rename_i cs hcs
        split at hr
        · rename_i hone
          have hl2 := lenOf_ok (P := P) (w := w) hx hxl
          obtain ⟨cs', c1, c2⟩ := read_ok (P := P) hw hx hcs
          have key : ∀ (base : Option Addr) (cap : Nat) (w' : World), d' = .slice base dl cap → (match base with | some a => storeCells a cs'.toList | none => pure () : Sem Unit).run P w = .ok () w' →
              (Builtin.copy_ ts ty args').run P w = .ok (goInt (Nat.min xl dl)) w' := by
            intro base cap w' hdd hst
            subst hdd
            simp only [Builtin.copy_, arr0 h1, arr0 h2, arr1 h2, Sem.run_bind, run_underlying he, Result.andThen_ok, hl2, sizeOf_run hsz, c1]
            cases base with
            | none => simp only [Sem.run_pure] at hst; cases hst; simp
            | some a => simp only at hst; simp [hst]
          split at hr
          · cases hr
            cases hd
            simp only [lenOfA] at hdl; cases hdl
            have := key none 0 w rfl rfl
            refine ⟨ρ, _, w, _, run_v this, .inl rfl, ?_, hw, Agree.refl _ _, Nat.le_refl _, Nat.le_refl _⟩
            have e0 : Nat.min xl 0 = 0 := Nat.min_zero xl
            rw [e0]; exact .int _ _
          · split at hr
            · rename_i hz
              cases hr
              cases hd with
              | sl0 a cap =>
                simp only [lenOfA] at hdl; cases hdl
                have hcl : cs' = #[] := by
                  have h3 : cs.length = 0 := by simpa [Nat.beq_eq] using hz
                  have h4 := c2.length
                  rw [h3] at h4
                  exact Array.eq_empty_of_size_eq_zero (by simpa using h4.symm)
                have := key (some a) cap w rfl (by rw [hcl]; rfl)
                refine ⟨ρ, _, w, _, run_v this, .inl rfl, ?_, hw, Agree.refl _ _, Nat.le_refl _, Nat.le_refl _⟩
                have e0 : Nat.min xl 0 = 0 := Nat.min_zero xl
                rw [e0]; exact .int _ _
            · cases hr
          · rename_i k off len cap
            split at hr
            · rename_i B hB
              split at hr
              · rename_i hcc
                simp only [Bool.and_eq_true, Nat.blt_eq, Nat.ble_eq] at hcc
                cases hr
                cases hd with
                | sl hl =>
                  simp only [lenOfA] at hdl; cases hdl
                  obtain ⟨w', s1, s2, s3⟩ := hw.store P hB hl hcc.1 (off := off) c2 hone hcc.2
                  have := key _ cap w' rfl s1
                  exact ⟨ρ, _, w', _, run_v this, .inl rfl, .int _ _, s3, Agree.refl _ _, Nat.le_refl _, by omega⟩
              · cases hr
            · cases hr
          · rename_i k off len es
            split at hr
            · rename_i B hB
              split at hr
              · rename_i hcc
                simp only [Bool.and_eq_true, Nat.blt_eq, Nat.ble_eq] at hcc
                cases hr
                cases hd with
                | slo hl g1 g2 =>
                  simp only [lenOfA] at hdl; cases hdl
                  obtain ⟨w', s1, s2, s3⟩ := hw.store P hB hl hcc.1 (off := off) c2 hone hcc.2
                  have := key _ _ w' rfl s1
                  exact ⟨ρ, _, w', _, run_v this, .inl rfl, .int _ _, s3, Agree.refl _ _, Nat.le_refl _, by omega⟩
              · cases hr
            · cases hr
          · cases hr
        · cases hr
      · cases hr
    · cases hr
  · cases hr

theorem times_one {l : List AV} (h : l.all AV.oneCell = true) : ∀ n, (times l n).all AV.oneCell = true
  | 0 => rfl
  | n + 1 => by simp only [times, List.all_append, h, times_one h n, Bool.and_self]

theorem clearAt_ok (hw : WRel F w0 w ρ h) {ts : Array TypeId} {ty t e : TypeId} {args' : Array Value} {lt : List TypeId} {la : List Value} {k off len cap : Nat} {l : Loc} {h' : Heap}
    (h1 : ts.toList = t :: lt) (h2 : args'.toList = .slice (some ⟨l.b, l.base + off, none⟩) len cap :: la) (he : P.underlying t = some (.slice e)) (hl : ρ k = some l) (hr : clearAt P h e k off len = some h') :
    ROk P F w0 w ρ h (.eff undefA h') ((do pure (Next.value (← Builtin.clear_ ts ty args')) : Sem Next).run P w) := by
  unfold clearAt at hr
  split at hr
  · rename_i z B hz hB
    obtain ⟨z', z1, z2, z3⟩ := zero_all ρ hz
    split at hr
    · rename_i hlen
      have hlen' : len = 0 := by simpa [Nat.beq_eq] using hlen
      subst hlen'
      cases hr
      refine ⟨ρ, _, w, _, run_v (v := .tuple #[]) ?_, .inl rfl, .tup .nil, hw, Agree.refl _ _, Nat.le_refl _, Nat.le_refl _⟩
      simp [Builtin.clear_, arr0 h1, arr0 h2, run_underlying he]
    · rename_i hlen
      have hlen' : len ≠ 0 := fun e => hlen (by simp [e])
      split at hr
      · rename_i hcc
        simp only [Bool.and_eq_true, Nat.blt_eq, Nat.ble_eq] at hcc
        obtain ⟨c1, c2, c3, c4, c5⟩ := hcc
        cases hr
        have hzc := z2.cells z3
        have hzs : z'.cells.size = z.cells.length := by rw [hzc.length]; simp
        have hcy := cycle_eq z'.cells (by omega) len (len * z'.cells.size) rfl
        have hrel : VsRel ρ (times z.cells len) (Builtin.zeroCells z'.cells len).toList := by
          unfold Builtin.zeroCells; rw [hcy]; exact times_rel hzc len
        obtain ⟨w', s1, s2, s3⟩ := hw.store P hB hl c4 (off := off) hrel (times_one c3 len) (by rw [times_length]; exact c5)
        refine ⟨ρ, _, w', _, run_v (v := .tuple #[]) ?_, .inl rfl, .tup .nil, s3, Agree.refl _ _, Nat.le_refl _, by omega⟩
        obtain ⟨m, rfl⟩ : ∃ m, len = m + 1 := ⟨len - 1, by omega⟩
        simp [Builtin.clear_, arr0 h1, arr0 h2, run_underlying he, z1, s1]
      · cases hr
  · cases hr

theorem clear_ok (hw : WRel F w0 w ρ h) {ts : Array TypeId} {ty t : TypeId} {args' : Array Value} {lt : List TypeId} {la : List Value} {x : AV} {x' : Value} {h' : Heap}
    (h1 : ts.toList = t :: lt) (h2 : args'.toList = x' :: la) (hx : VRel ρ x x') (hr : evClear P h t x = some h') :
    ROk P F w0 w ρ h (.eff undefA h') ((do pure (Next.value (← Builtin.clear_ ts ty args')) : Sem Next).run P w) := by
  unfold evClear at hr
  split at hr
  · rename_i e he
    cases hr; cases hx
    refine ⟨ρ, _, w, _, run_v (v := .tuple #[]) ?_, .inl rfl, .tup .nil, hw, Agree.refl _ _, Nat.le_refl _, Nat.le_refl _⟩
    simp [Builtin.clear_, arr0 h1, arr0 h2, run_underlying he]
  · rename_i e he
    cases hr; cases hx
    refine ⟨ρ, _, w, _, run_v (v := .tuple #[]) ?_, .inl rfl, .tup .nil, hw, Agree.refl _ _, Nat.le_refl _, Nat.le_refl _⟩
    simp [Builtin.clear_, arr0 h1, arr0 h2, run_underlying he]
  · rename_i e k off len cap he
    cases hx with
    | sl hl => exact clearAt_ok hw h1 h2 he hl hr
  · rename_i e k off len es he
    cases hx with
    | slo hl g1 g2 => exact clearAt_ok hw h1 h2 he hl hr
  · cases hr

/-! ## unsafe.String -/
theorem freeze_rel (hw : WRel F w0 w ρ h) {k : Nat} {B : Blk} {l : Loc} (hB : h.get k = some B) (hl : ρ k = some l) (hf : B.fz < 2) (a : Addr) (ha : a.block = l.b) (n : Nat) :
    WRel F w0 (w.freeze a n) ρ (h.put k (some { B with fz := 2 })) := by
  have hkm : k < maxId := Nat.lt_of_lt_of_le (hw.lt hl) hw.bound
  have hF := hw.notin hB hl (by omega)
  have hsz : (w.freeze a n).heap.size = w.heap.size := by unfold World.freeze; split <;> simp
  have hother : ∀ b, b ≠ l.b → (w.freeze a n).heap[b]? = w.heap[b]? := by
    intro b hb
    unfold World.freeze
    split
    · rfl
    · simp only [Array.getElem?_modify]
      rw [if_neg (by rw [ha]; exact fun e => hb e.symm)]
  have hsame : ∀ cs e fz, w.heap[l.b]? = some (.cells cs e fz) → ∃ fz', (w.freeze a n).heap[l.b]? = some (.cells cs e fz') := by
    intro cs e fz hc
    unfold World.freeze
    split
    · exact ⟨fz, hc⟩
    · simp only [Array.getElem?_modify, ha, if_true, hc]
      exact ⟨_, rfl⟩
  have hos : (w.freeze a n).os = w.os ∧ (w.freeze a n).tape = w.tape ∧ (w.freeze a n).output = w.output := by
    unfold World.freeze; split <;> exact ⟨rfl, rfl, rfl⟩
  refine ⟨hos.1.trans hw.os, hos.2.1.trans hw.tape, hos.2.2.trans hw.output, by rw [hsz]; exact hw.size, ?_, hw.inold, hw.bound, hw.fresh, ?_, ?_, ?_, ?_⟩
  · intro b hb; rw [hother b (fun e => hF (e ▸ hb))]; exact hw.old b hb
  · intro j m hj; rw [hsz]; exact hw.dom j m hj
  · intro j B' m hj hm
    rw [Heap.get_put hkm] at hj
    split at hj
    · rename_i e; subst e; cases hj
      rw [hl] at hm; cases hm
      obtain ⟨⟨cs, fz, hc, h2, h3, h4⟩, h5, h6⟩ := hw.blk j B l hB hl
      obtain ⟨fz', hc'⟩ := hsame _ _ _ hc
      exact ⟨⟨cs, fz', hc', h2, trivial, h4⟩, h5, h6⟩
    · rename_i e
      obtain ⟨⟨cs, fz, hc, h2, h3, h4⟩, h5, h6⟩ := hw.blk j B' m hj hm
      by_cases hb : m.b = l.b
      · have hnf : ¬ B'.fz < 2 := fun hlt => e (hw.inj j B' m k B l hj hm hB hl (.inl (by omega)) hb)
        rw [hb] at hc
        obtain ⟨fz', hc'⟩ := hsame _ _ _ hc
        refine ⟨⟨cs, fz', by rw [hb]; exact hc', h2, ?_, h4⟩, h5, h6⟩
        match hq : B'.fz, hnf with
        | 0, h => exact absurd (by omega) h
        | 1, h => exact absurd (by omega) h
        | n + 2, _ => trivial
      · exact ⟨⟨cs, fz, by rw [hother m.b hb]; exact hc, h2, h3, h4⟩, h5, h6⟩
  · intro j B' m hj hm
    rw [Heap.get_put hkm] at hj
    split at hj
    · rename_i e; subst e; cases hj; rw [hl] at hm; cases hm; exact ⟨fun _ e => hF (.inl e), fun e => hF (.inr e)⟩
    · exact hw.own j B' m hj hm
  · intro k1 B1 l1 k2 B2 l2 q1 q2 q3 q4 hz hbb
    rw [Heap.get_put hkm] at q1 q3
    split at q1 <;> split at q3
    · rename_i a1 a2; rw [a1, a2]
    · rename_i a1 a2; subst a1; exact hw.inj k1 B l1 k2 B2 l2 hB q2 q3 q4 (.inl (by omega)) hbb
    · rename_i a1 a2; subst a2; exact hw.inj k1 B1 l1 k2 B l2 q1 q2 hB q4 (.inr (by omega)) hbb
    · exact hw.inj k1 B1 l1 k2 B2 l2 q1 q2 q3 q4 hz hbb

theorem loadBytes_run : ∀ (ns : List Int) (a : Addr) (acc : ByteArray), a.spot = none → (∀ j v, (ns.map (Value.int .u8))[j]? = some v → w.cell? (a.add j) = some v) →
    (Go.loadBytes a acc ns.length).run P w = .ok (ns.foldl (fun r n => r.push (UInt8.ofNat n.toNat)) acc) w
  | [], a, acc, _, _ => rfl
  | n :: ns, a, acc, hs, hc => by
    have h0 := hc 0 (.int .u8 n) rfl
    obtain ⟨b, o, sp⟩ := a
    simp only at hs; subst hs
    have ha0 : (⟨b, o, none⟩ : Addr).add 0 = ⟨b, o, none⟩ := by simp [Addr.add]
    rw [ha0] at h0
    have ih := loadBytes_run ns ((⟨b, o, none⟩ : Addr).add 1) (acc.push (UInt8.ofNat n.toNat)) (by simp [Addr.add]) (fun j v hj => by
      have := hc (j + 1) v (by simpa using hj)
      rw [add_at] at this ⊢
      rw [add_at]
      rw [show o + (j + 1) = o + 1 + j from by omega] at this
      exact this)
    simp only [List.length_cons, Go.loadBytes, Sem.run_bind, run_load, h0, Result.andThen_ok, List.foldl_cons]
    exact ih

theorem ustr_def (ts : Array TypeId) (ty : TypeId) (p : Option Addr) (l : Value) : Builtin.unsafeString_ ts ty #[.pointer p, l] = (do
    let n ← asInt l
    let some pt := ts[0]? | stuck "unsafe.String: no argument types"
    if n < 0 then runtimePanic (.error "unsafe.String: len out of range")
    if n > IntKind.i64.max then unsupported (.unsafePointer "String: a length above the largest int")
    match p with
    | none => if n = 0 then pure (.string .empty) else runtimePanic (.error "unsafe.String: ptr is nil and len is not zero")
    | some a =>
      if n = 0 then pure (.string .empty)
      else if ← variablesAt a (← elemOf pt) n.toNat then do
        let s ← Go.loadBytes a .empty n.toNat
        freeze a n.toNat
        pure (.string s)
      else unsupported (.unsafePointer "String: not so many bytes at ptr") : Sem Value) := rfl

theorem ustring_ok (hw : WRel F w0 w ρ h) {ts : Array TypeId} {ty pt : TypeId} {lt : List TypeId} {p n v : AV} {p' n' : Value} {h' : Heap}
    (h1 : ts.toList = pt :: lt) (hp : VRel ρ p p') (hn : VRel ρ n n') (hr : evUString P h pt p n = some (v, h')) :
    ROk P F w0 w ρ h (.eff v h') ((do pure (Next.value (← Builtin.unsafeString_ ts ty #[p', n'])) : Sem Next).run P w) := by
  have hmax : IntKind.i64.max = 9223372036854775807 := rfl
  unfold evUString at hr
  split at hr
  · cases hr
    cases hp; cases hn
    refine ⟨ρ, _, w, _, run_v (v := .string .empty) ?_, .inl rfl, VRel.str (ρ := ρ) ByteArray.empty, hw, Agree.refl _ _, Nat.le_refl _, Nat.le_refl _⟩
    simp [ustr_def, asInt, asIntOf, arr0 h1, hmax]
  · rename_i k off kk m
    split at hr
    · rename_i e he
      split at hr
      · rename_i B hu hB
        cases hp with
        | ptr hl =>
          rename_i l
          cases hn
          split at hr
          · rename_i hm
            have hm' : m = 0 := by simpa [Nat.beq_eq] using hm
            subst hm'
            cases hr
            refine ⟨ρ, _, w, _, run_v (v := .string .empty) ?_, .inl rfl, VRel.str (ρ := ρ) ByteArray.empty, hw, Agree.refl _ _, Nat.le_refl _, Nat.le_refl _⟩
            simp [ustr_def, asInt, asIntOf, arr0 h1, hmax]
          · rename_i hm
            have hm' : m ≠ 0 := fun e => hm (by simp [e])
            split at hr
            · rename_i hcc
              simp only [Bool.and_eq_true, Nat.beq_eq, Nat.ble_eq, Nat.blt_eq] at hcc
              obtain ⟨c1, c2, c3, c4, c5⟩ := hcc
              split at hr
              · rename_i s hs
                cases hr
                have hb := hw.blk k B l hB hl
                obtain ⟨cs, r1, r2, r3⟩ := hb.range c2
                obtain ⟨ns, n1, n2, n3⟩ := bytesA_rel r2 hs
                have hnl : ns.length = m := by rw [← r1, n1]; simp
                rw [n1] at r3
                have hlb := loadBytes_run (P := P) (w := w) ns ⟨l.b, l.base + off, none⟩ .empty rfl r3
                rw [hnl] at hlb
                have hsz : P.cellsOf e = 1 := by
                  unfold isOne at c5
                  split at c5
                  · rename_i hq
                    obtain ⟨i, hi, hi1⟩ := szA_info hq
                    simp [Program.cellsOf, hi, hi1]
                  · cases c5
                have hsh : ∃ sz, w.shape? l.b = some (e, sz) ∧ l.base + off + m ≤ sz := by
                  obtain ⟨⟨cs2, fz, hc, hs2, _, _⟩, hfit, _⟩ := hb
                  exact ⟨cs2.size, by simp [World.shape?, hc, c1], by omega⟩
                obtain ⟨sz, hsh1, hsh2⟩ := hsh
                have hva : (variablesAt ⟨l.b, l.base + off, none⟩ e m).run P w = .ok true w := by
                  have hrow : rowAt P (sameLayout P P.depth · e) P.depth e (sz / P.cellsOf e) (l.base + off) m = true := by
                    rw [show P.depth = (2 * (P.types.size + Made.depth) + 1) + 1 from rfl]
                    simp only [rowAt, hsz, Nat.div_one, Nat.mod_one]
                    simp [sameLayout, hsh2]
                  have hli : ∀ d, liesAt P (d + 1) e (sz / P.cellsOf e) (l.base + off) e m = true := by
                    intro d
                    simp only [liesAt, hrow, Bool.true_or]
                  have hli := hli (2 * (P.types.size + Made.depth) + 1)
                  rw [show (2 * (P.types.size + Made.depth) + 1) + 1 = P.depth from rfl] at hli
                  simp [variablesAt, hsh1, hli]
                refine ⟨ρ, _, w.freeze ⟨l.b, l.base + off, none⟩ m, _, run_v (v := .string (ns.foldl (fun r n => r.push (UInt8.ofNat n.toNat)) .empty)) ?_, .inl rfl, ?_, freeze_rel hw hB hl c4 ⟨l.b, l.base + off, none⟩ rfl m, Agree.refl _ _, Nat.le_refl _, ?_⟩
                · have e1 : ¬ ((m : Int) < 0) := by omega
                  have e2 : ¬ ((m : Int) > 9223372036854775807) := by omega
                  have e3 : ¬ ((m : Int) = 0) := by omega
                  simp only [ustr_def, asInt, asIntOf, arr0 h1, hmax, Sem.run_bind, Sem.run_pure, Result.andThen_ok, Int.ofNat_eq_natCast, e1, e2, e3, if_false, elemOf, run_underlying he, Int.toNat_natCast, hva, if_true, hlb, run_freeze]
                · rw [n3]
                  have := foldl_push ns ByteArray.empty n2
                  rw [bytesOf_empty, List.nil_append] at this
                  rw [← this]; exact .str _
                · unfold World.freeze; split <;> simp
              · cases hr
            · cases hr
      · cases hr
    · cases hr
  · cases hr

theorem sdata_def (ts : Array TypeId) (ty : TypeId) (a : Addr) (n c : Nat) (hc : c ≠ 0) : Builtin.unsafeSliceData_ ts ty #[.slice (some a) n c] = pure (.pointer (some a)) := by
  have : Builtin.unsafeSliceData_ ts ty #[.slice (some a) n c] = (do
    if c ≠ 0 then pure (.pointer (some a))
    else if (← viewAt a.block).isSome then pure (.pointer (some a))
    else pure (.pointer (some ⟨← newObj (.view a (← elemOf ty)), 0, none⟩)) : Sem Value) := rfl
  rw [this, if_pos hc]

theorem sliceData_ok {ts : Array TypeId} {ty : TypeId} {x v : AV} {x' : Value} (hx : VRel ρ x x') (hr : evSliceData x = some v) :
    ∃ v', (Builtin.unsafeSliceData_ ts ty #[x']).run P w = .ok v' w ∧ VRel ρ v v' := by
  unfold evSliceData at hr
  split at hr
  · cases hr; cases hx; exact ⟨.pointer none, rfl, .nilptr⟩
  · rename_i k off len cap
    split at hr
    · cases hr
    · rename_i hc
      have hc' : cap ≠ 0 := fun e => hc (by rw [e]; rfl)
      cases hr
      cases hx with
      | sl hl => exact ⟨_, by rw [sdata_def _ _ _ _ _ hc']; rfl, .ptr hl⟩
  · rename_i k off len es
    split at hr
    · cases hr
    · rename_i hc
      cases hr
      cases hx with
      | slo hl g1 g2 =>
        rename_i cap l
        have hlen : len ≠ 0 := fun e => hc (by rw [e]; rfl)
        have hc' : cap ≠ 0 := by omega
        exact ⟨_, by rw [sdata_def _ _ _ _ _ hc']; rfl, .ptr hl⟩
  · cases hr

/-! ## functions without a body -/
def extFn (n : Nat) (fn : Func) : Array Value → Sem Value := match n with
  | 1 => Extern.BytealgIndexByte.indexByte
  | 2 => Extern.AbiNoEscape.same
  | 3 => Extern.BytealgMakeNoZero.makeNoZero fn.params fn.resultTypes
  | 4 => Extern.BytealgCount.count
  | _ => fun _ => stuck ""

theorem idxByte_eq (c : UInt8) : ∀ (l : List UInt8) (k : Nat), (match idxByte c.toNat (l.map UInt8.toNat) k with | some i => (i : Int) | none => -1) =
    if Lib.indexByte l c = -1 then -1 else Lib.indexByte l c + k
  | [], k => by simp [idxByte, Lib.indexByte]
  | b :: l, k => by
    simp only [List.map_cons, idxByte, Lib.indexByte]
    by_cases hb : b = c
    · subst hb; simp
    · have h1 : Nat.beq b.toNat c.toNat = false := PT.nbeq (fun e => hb (UInt8.toNat_inj.1 e))
      have h2 : (b == c) = false := by simpa using hb
      simp only [h1, h2, Bool.false_eq_true, if_false, idxByte_eq c l (k + 1)]
      have := Lib.indexByte_ge l c
      by_cases h3 : Lib.indexByte l c = -1
      · simp [h3]
      · have h4 : (Lib.indexByte l c == -1) = false := by simpa using h3
        simp only [h3, h4, if_false, Bool.false_eq_true]
        have h5 : Lib.indexByte l c + 1 ≠ -1 := by omega
        simp only [h5, if_false]
        have h6 : ((k + 1 : Nat) : Int) = (k : Int) + 1 := rfl
        rw [h6, Int.add_assoc, Int.add_comm 1 (k : Int)]

theorem cntByte_eq (c : UInt8) : ∀ (l : List UInt8), cntByte c.toNat (l.map UInt8.toNat) = Lib.countByte l c
  | [] => rfl
  | b :: l => by
    have ih := cntByte_eq c l
    unfold Lib.countByte at ih ⊢
    simp only [List.map_cons, cntByte, List.count_cons, ih]
    by_cases hb : b = c
    · subst hb; simp
    · have h1 : Nat.beq b.toNat c.toNat = false := PT.nbeq (fun e => hb (UInt8.toNat_inj.1 e))
      have h2 : (b == c) = false := by simpa using hb
      simp [h1, h2]

theorem digits_size : ∀ (n t : Nat) (acc : Array Value), (Extern.BytealgMakeNoZero.digits n t acc).size = acc.size + n
  | 0, t, acc => rfl
  | n + 1, t, acc => by simp only [Extern.BytealgMakeNoZero.digits, digits_size n]; simp; omega

theorem digits_one : ∀ (n t : Nat) (acc : Array Value), (∀ v ∈ acc.toList, v.oneCell' = true) → ∀ v ∈ (Extern.BytealgMakeNoZero.digits n t acc).toList, v.oneCell' = true
  | 0, t, acc, h => h
  | n + 1, t, acc, h => by
    simp only [Extern.BytealgMakeNoZero.digits]
    apply digits_one n
    intro v hv
    simp only [Array.toList_push, List.mem_append, List.mem_singleton] at hv
    rcases hv with hv | rfl
    · exact h v hv
    · rfl

theorem any_rel : ∀ (l : List Value), (∀ v ∈ l, v.oneCell' = true) → VsRel ρ (List.replicate l.length .any) l
  | [], _ => .nil
  | v :: l, h => by
    simp only [List.length_cons, List.replicate_succ]
    exact .cons (.any (h v List.mem_cons_self)) (any_rel l (fun u hu => h u (List.mem_cons_of_mem _ hu)))

theorem makeNoZero_ok (hw : WRel F w0 w ρ h) (hnx : h.next < maxId) {fn : Func} {t e : TypeId} {n : Nat} (ht : fn.resultTypes[0]? = some t) (he : P.underlying t = some (.slice e)) (hn : n ≤ 1073741824) :
    ROk P F w0 w ρ h (.eff (.slo h.next 0 n 1) { h.put h.next (some ⟨e, false, 0, List.replicate n .any⟩) with next := h.next + 1 })
      ((Extern.BytealgMakeNoZero.makeNoZero fn.params fn.resultTypes #[.int .i64 (n : Int)]).run P w |>.andThen fun v w' => .ok (.value v) w') := by
  generalize hc : (Question.appendCap n 0 e).cut (w.tape w.drawn (.appendCap n 0 e)) = cap
  have hcap : n ≤ cap := by rw [← hc]; exact cut_cap n 0 e _
  generalize hby : (Question.extern "internal/bytealg.MakeNoZero.bytes" 0).cut (w.tape (w.drawn + 1) (.extern "internal/bytealg.MakeNoZero.bytes" 0)) = by_
  let cs := Extern.BytealgMakeNoZero.digits cap by_ #[]
  have hcs : cs.size = cap := by simp [cs, digits_size]
  have hone : ∀ v ∈ cs.toList, v.oneCell' = true := digits_one cap by_ #[] (by simp)
  have hd := hw.drew (w.drawn + 1 + 1)
  have hnew := hd.new (k := h.next) (n := h.next + 1) (B := ⟨e, false, 0, List.replicate n .any⟩) (cs := cs) (fz := (0, 0))
    (hw.fresh _ (Nat.le_refl _)) (by omega) (by omega) (by omega)
    (by
      simp only [List.length_replicate]
      have := any_rel (ρ := ρ) (cs.toList.take n) (fun v hv => hone v (List.mem_of_mem_take hv))
      rwa [List.length_take, Array.length_toList, hcs, Nat.min_eq_left hcap] at this)
    (by simp only [List.length_replicate, hcs]; exact hcap) (by simp) rfl
  refine ⟨_, _, _, .slice (some ⟨w.heap.size, 0, none⟩) n cap, ?_, .inl rfl, ?_, hnew, Ren.upd_agree (Nat.le_refl _), by simp, by simp⟩
  · have hdef : Extern.BytealgMakeNoZero.makeNoZero fn.params fn.resultTypes #[.int .i64 (n : Int)] = (do
        let some t := fn.resultTypes[0]? | stuck "bytealg.MakeNoZero: no result type"
        let .slice elem ← underlying t | stuck "bytealg.MakeNoZero: slice type expected"
        if (n : Int) < 0 || (n : Int) > 2 ^ 48 then runtimePanic (.error "makeslice: len out of range")
        let cap ← choose (.appendCap (n : Int).toNat 0 elem)
        askRoom cap
        let bytes ← choose (.extern "internal/bytealg.MakeNoZero.bytes" 0)
        let a ← newRow elem (Extern.BytealgMakeNoZero.digits cap bytes #[])
        pure (.slice (some a) (n : Int).toNat cap) : Sem Value) := rfl
    have hf : (Question.appendCap n 0 e).forced = false := rfl
    have hf2 : (Question.extern "internal/bytealg.MakeNoZero.bytes" 0).forced = false := rfl
    have e1 : ¬ ((n : Int) < 0) := by omega
    have e2 : ¬ ((n : Int) > 2 ^ 48) := by omega
    rw [hdef]
    simp only [ht, Sem.run_bind, run_underlying he, Result.andThen_ok, e1, e2, decide_false, Bool.or_self, Bool.false_eq_true, if_false, run_choose, hf, Int.toNat_natCast, hc, run_askRoom, hf2, hby, newRow, run_newObj, Sem.run_pure]
    rfl
  · have := VRel.slo (ρ := ρ.upd h.next ⟨w.heap.size, 0, cs.size⟩) (off := 0) (len := n) (es := 1) (cap := cap) (Ren.upd_self _ _ _) hcap (by simp [hcs])
    simpa using this

/-- what a summary says of the model -/
def SumOk (P : Program) (s : Sum) : Prop := ∀ (w : World) (ρ : Ren) (args' : Array Value), VsRel ρ s.args args'.toList →
  Calls P s.f args' w fun e w' => ∃ v', e = .returned v' ∧ w'.os = w.os ∧ w'.tape = w.tape ∧ w'.output = w.output ∧ w.heap.size ≤ w'.heap.size ∧ (∀ b, b < w.heap.size → w'.heap[b]? = w.heap[b]?) ∧
    match s.blk with
    | none => ∃ ρ', VRel ρ' s.ret v'
    | some B => ∃ ρ1 ρ' l, ρ' 0 = some l ∧ w.heap.size ≤ l.b ∧ l.b < w'.heap.size ∧ BRel ρ1 w' B l ∧ VRel ρ' s.ret v'

structure EnvOk (E : Env) : Prop where
  mixed : E.P.follows .mixedOrders = true
  ext : ∀ f fn, E.P.funcs[f]? = some fn → fn.body = none → E.ext f ≠ 0 → ∀ args w, (callFunc f args).run E.P w = ((extFn (E.ext f) fn args).run E.P w).andThen fun v w' => .ok (.value v) w'
  sums : ∀ s ∈ E.sums, SumOk E.P s

theorem ext_ok (hw : WRel F w0 w ρ h) (hnx : h.next < maxId) {fn : Func} {n : Nat} {args : List AV} {args' : Array Value} {r : OR} (ha : VsRel ρ args args'.toList) (hr : evExt P h fn n args = some r) :
    n ≠ 0 ∧ ROk P F w0 w ρ h r (((extFn n fn args').run P w).andThen fun v w' => .ok (.value v) w') := by
  obtain ⟨l'⟩ := args'
  simp only at ha
  unfold evExt at hr
  split at hr
  · rename_i s c
    split at hr
    case isFalse => cases hr
    rename_i hc
    have hc' : c < 256 := by simpa using hc
    have hu : ((c : Int).toNat.toUInt8).toNat = c := by simp [Nat.toUInt8, UInt8.toNat_ofNat', Nat.mod_eq_of_lt hc']
    cases hr
    refine ⟨by simp, ?_⟩
    cases ha with
    | cons h1 t1 =>
      cases t1 with
      | cons h2 t2 =>
        cases t2
        cases h1 with
        | str s =>
          cases h2
          refine ⟨.int .i64 (Lib.indexByte s.data.toList (c : Int).toNat.toUInt8), ?_, ?_⟩
          · show (((Extern.BytealgIndexByte.indexByte #[.string s, .int .u8 (c : Int)]).run P w).andThen _) = _
            rw [Lib.run_indexByteString]; rfl
          · have he := idxByte_eq (c : Int).toNat.toUInt8 s.data.toList 0
            rw [hu] at he
            have : (match idxByte c (bytesOf s) 0 with | some i => (i : Int) | none => -1) = Lib.indexByte s.data.toList (c : Int).toNat.toUInt8 := by
              show (match idxByte c (s.data.toList.map UInt8.toNat) 0 with | some i => (i : Int) | none => -1) = _
              rw [he]; split
              · rename_i h; exact h.symm
              · simp
            exact Eq.mpr (congrArg (fun z => VRel ρ (AV.int .i64 z) (Value.int .i64 (Lib.indexByte s.data.toList (c : Int).toNat.toUInt8))) this) (.int _ _)
  · rename_i x
    cases hr
    refine ⟨by simp, ?_⟩
    cases ha with
    | cons h1 t1 =>
      cases t1
      exact ⟨_, rfl, h1⟩
  · rename_i m
    split at hr
    · rename_i t ht
      split at hr
      · rename_i e he
        split at hr
        · rename_i hm
          cases hr
          refine ⟨by simp, ?_⟩
          cases ha with
          | cons h1 t1 =>
            cases t1
            cases h1
            exact makeNoZero_ok hw hnx ht he (by simpa using hm)
        · cases hr
      · cases hr
    · cases hr
  · rename_i s c
    split at hr
    case isFalse => cases hr
    rename_i hc
    have hc' : c < 256 := by simpa using hc
    have hu : ((c : Int).toNat.toUInt8).toNat = c := by simp [Nat.toUInt8, UInt8.toNat_ofNat', Nat.mod_eq_of_lt hc']
    cases hr
    refine ⟨by simp, ?_⟩
    cases ha with
    | cons h1 t1 =>
      cases t1 with
      | cons h2 t2 =>
        cases t2
        cases h1 with
        | str s =>
          cases h2
          refine ⟨.int .i64 (Lib.countByte s.data.toList (c : Int).toNat.toUInt8), ?_, ?_⟩
          · show (((Extern.BytealgCount.count #[.string s, .int .u8 (c : Int)]).run P w).andThen _) = _
            rw [Lib.run_countString]; rfl
          · have he := cntByte_eq (c : Int).toNat.toUInt8 s.data.toList
            rw [hu] at he
            have : cntByte c (bytesOf s) = Lib.countByte s.data.toList (c : Int).toNat.toUInt8 := he
            rw [this]; exact .int _ _
  · cases hr

end

/-! ## every operation -/
theorem callee_ok {E : Env} (hE : EnvOk E) {F : Frm} {w0 w : World} {ρ : Ren} {h : Heap} (hw : WRel F w0 w ρ h) (hnx : h.next < maxId) {f : FuncId} {args : List AV} {args' : Array Value} {r : OR}
    (ha : VsRel ρ args args'.toList) (hr : evCallee E h f args = some r) : ROk E.P F w0 w ρ h r ((callFunc f args').run E.P w) := by
  unfold evCallee at hr
  split at hr
  · rename_i fn hfn
    split at hr
    · cases hr
    · rename_i hname
      have hname' : fn.name ≠ "runtime.NumGoroutine" := fun e => hname (decide_eq_true (p := fn.name = numGo) e)
      split at hr
      · rename_i c hb
        cases hr
        refine ⟨args', ?_, ha⟩
        simp [callFunc, hfn, hname', hb]
      · rename_i hb
        obtain ⟨h1, h2⟩ := ext_ok hw hnx ha hr
        rw [hE.ext f fn hfn hb h1]
        exact h2
  · cases hr

theorem toList_map {a : Array Operand} (f : Operand → Value) : (a.map f).toList = a.toList.map f := by simp

theorem VsRel.app {ρ : Ren} {a b c : List AV} {a' b' c' : Array Value} (h1 : VsRel ρ a a'.toList) (h2 : VsRel ρ b b'.toList) (h3 : VsRel ρ c c'.toList) : VsRel ρ (a ++ (b ++ c)) (a' ++ b' ++ c').toList := by
  simp only [Array.toList_append, List.append_assoc]
  exact h1.append (h2.append h3)

theorem builtin_ok {E : Env} {F : Frm} {w0 w : World} {ρ : Ren} {h : Heap} (hw : WRel F w0 w ρ h) (hnx : h.next < maxId) {b : Builtin} {ts : Array TypeId} {ty : TypeId} {cs : Array Bool} {args : List AV} {args' : Array Value} {r : OR}
    (ha : VsRel ρ args args'.toList) (hr : evBuiltin E h b ts.toList args = some r) : ROk E.P F w0 w ρ h r ((builtin b ts ty cs args').run E.P w) := by
  unfold evBuiltin at hr
  split at hr
  · rename_i t l x l2 hts
    split at hr
    · rename_i v hv
      cases hr
      generalize hq : args'.toList = q at ha
      cases ha with
      | cons h1 t1 => exact val_ok (len_ok hts hq h1 hv)
    · cases hr
  · rename_i t l x l2 hts
    split at hr
    · rename_i v hv
      cases hr
      generalize hq : args'.toList = q at ha
      cases ha with
      | cons h1 t1 => exact val_ok (cap_ok hts hq h1 hv)
    · cases hr
  · rename_i l x l2 
    split at hr
    · rename_i v hv
      cases hr
      generalize hq : args'.toList = q at ha
      cases ha with
      | cons h1 t1 =>
        obtain ⟨v', g1, g2⟩ := fold_ok (P := E.P) (w := w) minA Builtin.min2 (fun a b c => min2_ok a b c) h1 t1 hv
        exact val_ok ⟨v', by simp only [Builtin.min_, hq, g1], g2⟩
    · cases hr
  · rename_i l x l2
    split at hr
    · rename_i v hv
      cases hr
      generalize hq : args'.toList = q at ha
      cases ha with
      | cons h1 t1 =>
        obtain ⟨v', g1, g2⟩ := fold_ok (P := E.P) (w := w) maxA Builtin.max2 (fun a b c => max2_ok a b c) h1 t1 hv
        exact val_ok ⟨v', by simp only [Builtin.max_, hq, g1], g2⟩
    · cases hr
  · rename_i t u l s x l2 hts
    split at hr
    · rename_i v h' hv
      cases hr
      generalize hq : args'.toList = q at ha
      cases ha with
      | cons h1 t1 =>
        cases t1 with
        | cons h2 t2 => exact append_ok hw hnx hts hq h1 h2 hv
    · cases hr
  · rename_i t l d x l2 hts
    split at hr
    · rename_i v h' hv
      cases hr
      generalize hq : args'.toList = q at ha
      cases ha with
      | cons h1 t1 =>
        cases t1 with
        | cons h2 t2 => exact copy_ok hw hts hq h1 h2 hv
    · cases hr
  · rename_i t l x l2 hts
    split at hr
    · rename_i h' hv
      cases hr
      generalize hq : args'.toList = q at ha
      cases ha with
      | cons h1 t1 => exact clear_ok hw hts hq h1 hv
    · cases hr
  · rename_i pt l p n hts
    split at hr
    · rename_i v h' hv
      cases hr
      obtain ⟨q⟩ := args'
      simp only at ha
      cases ha with
      | cons h1 t1 =>
        cases t1 with
        | cons h2 t2 =>
          cases t2
          exact ustring_ok hw hts h1 h2 hv
    · cases hr
  · rename_i l x
    split at hr
    · rename_i v hv
      cases hr
      obtain ⟨q⟩ := args'
      simp only at ha
      cases ha with
      | cons h1 t1 =>
        cases t1
        exact val_ok (sliceData_ok h1 hv)
    · cases hr
  · cases hr

theorem evOp_ok {E : Env} (hE : EnvOk E) {F : Frm} {w0 w : World} {ρ : Ren} {h : Heap} {t : PT AV} {a : Act} (hw : WRel F w0 w ρ h) (hnx : h.next < maxId) (ht : TRel E.G ρ t a.tmps) {o : Oper} {r : OR}
    (hr : evOp E h t o.op = some r) : ROk E.P F w0 w ρ h r ((execOp a.eval o).run E.P w) := by
  unfold evOp at hr
  unfold execOp
  split at hr
  · rename_i x heq
    obtain ⟨v, h1, rfl⟩ := ov_ok hr
    simp only [heq]
    exact ⟨_, rfl, opd_rel ht h1⟩
  · rename_i x heq
    obtain ⟨v, h1, rfl⟩ := ov_ok hr
    simp only [heq]
    exact ⟨_, rfl, opd_rel ht h1⟩
  · rename_i c x y heq
    simp only [heq]
    split at hr
    · rename_i hc
      have hc' := opd_rel ht hc
      obtain ⟨v, h1, rfl⟩ := ov_ok hr
      generalize a.eval c = cv at hc'
      cases hc'
      exact ⟨_, by simp [asBool], opd_rel ht h1⟩
    · rename_i hc
      have hc' := opd_rel ht hc
      obtain ⟨v, h1, rfl⟩ := ov_ok hr
      generalize a.eval c = cv at hc'
      cases hc'
      exact ⟨_, by simp [asBool], opd_rel ht h1⟩
    · cases hr
  · rename_i e heq
    simp only [heq]
    exact alloc_ok hr
  · rename_i e x heq
    simp only [heq]
    split at hr
    · rename_i v hv
      exact box_ok (opd_rel ht hv) hr
    · cases hr
  · rename_i ty ps heq
    simp only [heq]
    split at hr
    · rename_i l hl
      obtain ⟨v, h1, rfl⟩ := ov_ok hr
      obtain ⟨p1, p2⟩ := partsA_rel ht hl
      have e1 : (ps.map fun x => (x.1, a.eval x.2)).toList = ps.toList.map fun x => (x.1, a.eval x.2) := by simp
      exact val_ok (build_ok (by rw [e1]; exact p1) (by rw [e1]; exact p2) h1)
    · cases hr
  · rename_i ty len ps heq
    simp only [heq]
    split at hr
    · rename_i l hl
      obtain ⟨p1, p2⟩ := partsA_rel ht hl
      have e1 : (ps.map fun x => (x.1, a.eval x.2)).toList = ps.toList.map fun x => (x.1, a.eval x.2) := by simp
      exact buildSlice_ok (by rw [e1]; exact p1) (by rw [e1]; exact p2) hr
    · cases hr
  · rename_i ty x heq
    simp only [heq]
    split at hr
    · rename_i v hv
      obtain ⟨u, h1, rfl⟩ := ov_ok hr
      exact val_ok (load_ok hw (opd_rel ht hv) h1)
    · cases hr
  · rename_i ty x y heq
    simp only [heq]
    split at hr
    · rename_i v u hv hu
      split at hr
      · rename_i h' hs
        cases hr
        obtain ⟨w', s1, s2, s3, s4⟩ := store_ok (P := E.P) hw (opd_rel ht hv) (opd_rel ht hu) hs
        refine ⟨ρ, .skip, w', undef, ?_, .inr ⟨rfl, rfl⟩, VRel.undef ρ, s2, Agree.refl _ _, by omega, by omega⟩
        simp [s1]
      · cases hr
    · cases hr
  · rename_i x heq
    simp only [heq]
    split at hr
    · rename_i v hv
      obtain ⟨u, h1, rfl⟩ := ov_ok hr
      have hv' := opd_rel ht hv
      unfold evNil at h1
      split at h1
      · cases h1
      · cases h1
      · cases h1
      · cases h1
      · cases h1
      · rename_i g1 g2 g3 g4 g5
        cases h1
        generalize a.eval x = xv at hv'
        have key : ∀ y : Value, (∀ z, VRel ρ z y → z = v → True) → True := fun _ _ => trivial
        refine ⟨xv, ?_, hv'⟩
        cases hv' <;> first
          | rfl
          | exact absurd rfl (g1)
          | exact absurd rfl (g2)
          | exact absurd rfl (g3)
          | exact absurd rfl (g4 _)
          | exact absurd rfl (g5)
    · cases hr
  · rename_i op ty x y yt heq
    simp only [heq]
    split at hr
    · rename_i v u hv hu
      obtain ⟨q, h1, rfl⟩ := ov_ok hr
      exact val_ok (evBin_ok (a := a) hw (fun _ _ => trivial) (opd_rel ht hv) (opd_rel ht hu) h1)
    · cases hr
  · rename_i op ty x heq
    simp only [heq]
    split at hr
    · rename_i v hv
      obtain ⟨q, h1, rfl⟩ := ov_ok hr
      exact val_ok (evUn_ok (opd_rel ht hv) h1)
    · cases hr
  · rename_i src dst x heq
    simp only [heq]
    split at hr
    · rename_i v hv
      exact convert_ok hw hnx (opd_rel ht hv) hr
    · cases hr
  · rename_i ty x heq
    simp only [heq]
    split at hr
    · rename_i v hv
      obtain ⟨q, h1, rfl⟩ := ov_ok hr
      exact val_ok (makeIface_ok (opd_rel ht hv) h1)
    · cases hr
  · rename_i f first captured heq
    simp only [heq]
    split at hr
    · rename_i x y hx hy
      cases hr
      exact val_ok ⟨_, rfl, .fn (by rw [toList_map]; exact opds_rel ht hx) (by rw [toList_map]; exact opds_rel ht hy)⟩
    · cases hr
  · rename_i ty l c heq
    simp only [heq]
    split at hr
    · rename_i v u hv hu
      exact makeSlice_ok (opd_rel ht hv) (opd_rel ht hu) hr
    · cases hr
  · rename_i ty x lo hi mx heq
    simp only [heq]
    have ho : ∀ {y : Option Operand} {v : Option AV}, oopd E.G t y = some v → ORel ρ v (y.map a.eval) := by
      intro y v hy
      unfold oopd at hy
      split at hy
      · cases hy; trivial
      · split at hy
        · rename_i u hu; cases hy; exact opd_rel ht hu
        · cases hy
    split at hr
    · rename_i v b c d hv hb hc hd
      obtain ⟨q, h1, rfl⟩ := ov_ok hr
      exact val_ok (slice_ok (opd_rel ht hv) (ho hb) (ho hc) (ho hd) h1)
    · cases hr
  · rename_i s x f heq
    simp only [heq]
    split at hr
    · rename_i v hv
      obtain ⟨q, h1, rfl⟩ := ov_ok hr
      exact val_ok (field_addr_ok (opd_rel ht hv) h1)
    · cases hr
  · rename_i ty x f heq
    simp only [heq]
    split at hr
    · rename_i v hv
      obtain ⟨q, h1, rfl⟩ := ov_ok hr
      exact val_ok (field_ok (opd_rel ht hv) h1)
    · cases hr
  · rename_i ty x i heq
    simp only [heq]
    split at hr
    · rename_i v u hv hu
      obtain ⟨q, h1, rfl⟩ := ov_ok hr
      exact val_ok (index_addr_ok (opd_rel ht hv) (opd_rel ht hu) h1)
    · cases hr
  · rename_i ty x i heq
    simp only [heq]
    split at hr
    · rename_i v u hv hu
      obtain ⟨q, h1, rfl⟩ := ov_ok hr
      exact val_ok (index_ok (opd_rel ht hv) (opd_rel ht hu) h1)
    · cases hr
  · rename_i x i heq
    simp only [heq]
    split at hr
    · rename_i v hv
      obtain ⟨q, h1, rfl⟩ := ov_ok hr
      exact val_ok (extract_ok (opd_rel ht hv) h1)
    · cases hr
  · rename_i x xt ty ok heq
    simp only [heq]
    split at hr
    · rename_i v hv
      obtain ⟨q, h1, rfl⟩ := ov_ok hr
      exact val_ok (assert_ok (opd_rel ht hv) h1)
    · cases hr
  · rename_i c heq
    simp only [heq]
    unfold evCall at hr
    split at hr
    · rename_i args hargs
      have ha : VsRel ρ args (c.args.map a.eval).toList := by rw [toList_map]; exact opds_rel ht hargs
      split at hr
      · rename_i b hb
        simp only [resolve, hb, Sem.run_bind, Sem.run_pure, Result.andThen_ok, invoke]
        exact builtin_ok hw hnx ha hr
      · rename_i f hf
        split at hr
        · rename_i g first captured hg
          have hg' := opd_rel ht hg
          simp only [resolve, hf]
          generalize a.eval f = fv at hg'
          cases hg' with
          | fn k1 k2 =>
            rename_i first' captured'
            simp only [Deferred.ofValue, Sem.run_bind, Sem.run_pure, Result.andThen_ok, invoke]
            exact callee_ok hE hw hnx (k1.app ha k2) hr
        · cases hr
      · cases hr
    · cases hr
  · rename_i c heq
    simp only [heq]
    unfold evDefer at hr
    split at hr
    · rename_i args hargs
      have ha : VsRel ρ args (c.args.map a.eval).toList := by rw [toList_map]; exact opds_rel ht hargs
      split at hr
      · rename_i f hf
        split at hr
        · rename_i g first captured hg
          have hg' := opd_rel ht hg
          simp only [resolve, hf]
          generalize a.eval f = fv at hg'
          cases hr
          cases hg' with
          | fn k1 k2 =>
            rename_i first' captured'
            exact ⟨captured', first' ++ c.args.map a.eval, by simp [Deferred.ofValue], k1.app ha k2⟩
        · cases hr
      · cases hr
    · cases hr
  · rename_i x heq
    simp only [heq]
    split at hr
    · rename_i ty v hv
      cases hr
      have hv' := opd_rel ht hv
      generalize a.eval x = xv at hv'
      cases hv' with
      | iface k => exact ⟨_, by simp [Instr.panic], .iface k⟩
    · cases hr
  · cases hr
end Go.Ev
