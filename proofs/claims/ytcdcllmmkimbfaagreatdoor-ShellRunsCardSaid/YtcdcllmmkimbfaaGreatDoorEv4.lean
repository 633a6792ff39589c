/- The operations that compute, load and store: what the model does there is what the evaluator says. -/
import Derived.Test.YtcdcllmmkimbfaaGreatDoorEv3
import Derived.Laws.StructEq
import Derived.ChangeKeysEq
set_option linter.unusedSimpArgs false
set_option linter.unusedVariables false
namespace Go.Ev

structure TRel (G : Nat) (ρ : Ren) (t : PT AV) (tm : Array Value) : Prop where
  rel : ∀ i, VRel ρ (getT t i) (tm.getD i undef)
  glob : ∀ g, g < G → ∃ s, ρ g = some ⟨g, 0, s⟩

theorem TRel.mono {G : Nat} {ρ ρ' : Ren} {t : PT AV} {tm : Array Value} (h : TRel G ρ t tm) (hs : Sub ρ ρ') : TRel G ρ' t tm :=
  ⟨fun i => (h.rel i).mono hs, fun g hg => let ⟨s, e⟩ := h.glob g hg; ⟨s, hs _ _ e⟩⟩

theorem VRel.undef (ρ : Ren) : VRel ρ undefA undef := .tup .nil

theorem opd_rel {G : Nat} {ρ : Ren} {t : PT AV} {a : Act} (h : TRel G ρ t a.tmps) {x : Operand} {v : AV} (hv : opd G t x = some v) : VRel ρ v (a.eval x) := by
  cases x with
  | tmp i => simp only [opd] at hv; cases hv; exact h.rel i
  | const c => exact ofVal_rel ρ hv
  | global g =>
    simp only [opd] at hv
    split at hv
    · rename_i hg
      cases hv
      obtain ⟨s, hs⟩ := h.glob g (by simpa using hg)
      have := VRel.ptr (ρ := ρ) (off := 0) hs
      simpa [Act.eval] using this
    · cases hv
  | func f => simp only [opd] at hv; cases hv; exact .fn .nil .nil

theorem opds_rel {G : Nat} {ρ : Ren} {t : PT AV} {a : Act} (h : TRel G ρ t a.tmps) : ∀ {l : List Operand} {vs : List AV}, opds G t l = some vs → VsRel ρ vs (l.map a.eval)
  | [], vs, hv => by simp only [opds] at hv; cases hv; exact .nil
  | x :: l, vs, hv => by
    simp only [opds] at hv
    split at hv
    · rename_i v h1
      split at hv
      · rename_i r h2; cases hv; exact .cons (opd_rel h h1) (opds_rel h h2)
      · cases hv
    · cases hv

/-! ## what is asked of types -/
section types
variable {P : Program} {w : World}

theorem under_run {t : TypeId} {d : TypeDesc} (h : P.underlying t = some d) : (underlying t).run P w = .ok d w := run_underlying h w

theorem szA_info {t : TypeId} {n : Nat} (h : szA P t = some n) : ∃ i, P.info? t = some i ∧ i.size = n := by
  unfold szA at h
  split at h
  · rename_i i hi; cases h; exact ⟨i, hi, rfl⟩
  · cases h

theorem typeInfo_run {t : TypeId} {i : TypeInfo} (h : P.info? t = some i) : (typeInfo t).run P w = .ok i w := by simp [typeInfo, h]

theorem sizeOf_run {t : TypeId} {n : Nat} (h : szA P t = some n) : (sizeOf t).run P w = .ok n w := by
  obtain ⟨i, hi, hn⟩ := szA_info h
  simp [sizeOf, typeInfo, hi, hn]

theorem isAgg_run {t : TypeId} {d : TypeDesc} (h : P.underlying t = some d) : (isAgg t).run P w = .ok (isAggD d) w := by
  simp only [isAgg, Sem.run_bind, under_run h, Result.andThen_ok]
  cases d <;> simp [isAggD]

theorem zero_run (ρ : Ren) {t : TypeId} {z : AV} (h : zeroA P t = some z) : ∃ z', (zeroValue t).run P w = .ok z' w ∧ VRel ρ z z' ∧ z.honest = true := by
  unfold zeroA at h
  split at h
  · rename_i i hi
    split at h
    · rename_i z0 hz
      exact ⟨z0, by simp [zeroValue, typeInfo, hi, hz], ofVal_rel ρ h, ofVal_honest h⟩
    · cases h
  · cases h

theorem partA_run {ρ : Ren} {t : TypeId} {cs : List AV} {cs' : Array Value} {off : Nat} {v : AV} (hr : VsRel ρ cs cs'.toList) (h : partA P t cs off = some v) :
    ∃ v', (part t cs' off).run P w = .ok v' w ∧ VRel ρ v v' := by
  unfold partA at h
  split at h
  · rename_i d hd
    split at h
    · rename_i ha
      split at h
      · rename_i n hn
        split at h
        · rename_i hle
          cases h
          refine ⟨.agg (cs'.extract off (off + n)), ?_, .agg ?_⟩
          · simp only [part, Sem.run_bind, isAgg_run hd, ha, Result.andThen_ok, if_true, sizeOf_run hn, Sem.run_pure]
          · have := (hr.drop off).take n
            simpa [Array.toList_extract, List.extract_eq_take_drop] using this
        · cases h
      · cases h
    · rename_i ha
      rw [nth_eq] at h
      obtain ⟨v', h1, h2⟩ := hr.get h
      refine ⟨v', ?_, h2⟩
      have h1' : cs'[off]? = some v' := by simpa using h1
      simp [part, isAgg_run hd, Bool.not_eq_true _ ▸ ha, h1']
  · cases h
end types

/-! ## the operations -/
def newV (w : World) : Option (Nat × Nat) → Value
  | none => .pointer (some ⟨w.heap.size, 0, none⟩)
  | some (len, cap) => .slice (some ⟨w.heap.size, 0, none⟩) len cap

def ROk (P : Program) (F : Frm) (w0 w : World) (ρ : Ren) (h : Heap) (r : OR) (res : Result Next) : Prop := match r with
  | .val v => ∃ v', res = .ok (.value v') w ∧ VRel ρ v v'
  | .new B s => ∃ cs, res = .ok (.value (newV w s)) { w with heap := w.heap.push (.cells cs B.elem) } ∧ VsRel ρ B.cells cs.toList ∧ B.exact = true ∧ B.fz = 0
  | .eff v h' => ∃ ρ' nx w' v', res = .ok nx w' ∧ (nx = .value v' ∨ (nx = .skip ∧ v' = undef)) ∧ VRel ρ' v v' ∧ WRel F w0 w' ρ' h' ∧ Agree h.next ρ ρ' ∧ h.next ≤ h'.next ∧ w.heap.size ≤ w'.heap.size
  | .call f args => ∃ args', res = .ok (.enter f args') w ∧ VsRel ρ args args'.toList
  | .dfr f args => ∃ cap da, res = .ok (.defer { target := .fn (.func f) cap, args := da }) w ∧ VsRel ρ args (da ++ cap).toList
  | .pan v => ∃ v', res = .halt (.panic v') w ∧ VRel ρ v v'

section ops
variable {P : Program} {F : Frm} {w0 w : World} {ρ : Ren} {h : Heap}

theorem run_v {s : Sem Value} {v : Value} {w' : World} (hs : s.run P w = .ok v w') :
    (do pure (Next.value (← s)) : Sem Next).run P w = .ok (.value v) w' := by
  simp [hs]

theorem ov_ok {x : Option AV} {r : OR} (hx : ov x = some r) : ∃ v, x = some v ∧ r = .val v := by
  unfold ov at hx; split at hx
  · cases hx; exact ⟨_, rfl, rfl⟩
  · cases hx

theorem val_ok {s : Sem Value} {v : AV} (hs : ∃ v', s.run P w = .ok v' w ∧ VRel ρ v v') :
    ROk P F w0 w ρ h (.val v) ((do pure (Next.value (← s)) : Sem Next).run P w) := by
  obtain ⟨v', h1, h2⟩ := hs
  exact ⟨v', run_v h1, h2⟩

theorem cells_run {ρ : Ren} {v : AV} {v' : Value} (hv : VRel ρ v v') (hh : v.honest = true) : VsRel ρ v.cells v'.cells.toList := hv.cells hh

theorem new_ok {s : Sem Value} {B : Blk} {sh : Option (Nat × Nat)} (hs : ∃ cs, s.run P w = .ok (newV w sh) { w with heap := w.heap.push (.cells cs B.elem) } ∧ VsRel ρ B.cells cs.toList) (he : B.exact = true) (hz : B.fz = 0) :
    ROk P F w0 w ρ h (.new B sh) ((do pure (Next.value (← s)) : Sem Next).run P w) := by
  obtain ⟨cs, h1, h2⟩ := hs
  exact ⟨cs, run_v h1, h2, he, hz⟩

theorem alloc_ok {e : TypeId} {r : OR} (hr : evAlloc P e = some r) : ROk P F w0 w ρ h r ((do pure (Next.value (← Instr.alloc e true (.tuple #[]))) : Sem Next).run P w) := by
  unfold evAlloc at hr
  split at hr
  · rename_i z hz
    cases hr
    obtain ⟨z', h1, h2, h3⟩ := zero_run (w := w) ρ hz
    refine new_ok ⟨z'.cells, ?_, h2.cells h3⟩ rfl rfl
    simp [Instr.alloc, h1, newVar, newRow, newV]
  · cases hr

theorem box_ok {e : TypeId} {v : AV} {v' : Value} {r : OR} (hv : VRel ρ v v') (hr : evBox e v = some r) : ROk P F w0 w ρ h r ((do pure (Next.value (← Instr.box e v')) : Sem Next).run P w) := by
  unfold evBox at hr
  split at hr
  · rename_i hh
    cases hr
    refine new_ok ⟨v'.cells, ?_, hv.cells hh⟩ rfl rfl
    simp [Instr.box, newVar, newRow, newV]
  · cases hr

theorem load_ok (hw : WRel F w0 w ρ h) {t : TypeId} {a v : AV} {a' : Value} (ha : VRel ρ a a') (hr : evLoad P h t a = some v) :
    ∃ v', (Instr.loadAt t a').run P w = .ok v' w ∧ VRel ρ v v' := by
  unfold evLoad at hr
  split at hr
  · rename_i k off
    split at hr
    · rename_i B hB
      cases ha with
      | ptr hl =>
        rename_i l
        have hb := hw.blk k B l hB hl
        unfold partA at hr
        split at hr
        · rename_i d hd
          split at hr
          · rename_i hag
            split at hr
            · rename_i n hn
              split at hr
              · rename_i hle
                cases hr
                obtain ⟨cs, h1, h2, h3⟩ := hb.loadCells P (off := off) (n := n) (by simpa using hle)
                refine ⟨.agg cs.toArray, ?_, .agg (by simpa using h2)⟩
                simp [Instr.loadAt, Instr.sureAddr, loadVar, isAgg_run hd, hag, sizeOf_run hn, h3]
              · cases hr
            · cases hr
          · rename_i hag
            rw [nth_eq] at hr
            obtain ⟨v', h1, h2⟩ := hb.cell hr
            refine ⟨v', ?_, h2⟩
            simp [Instr.loadAt, Instr.sureAddr, loadVar, isAgg_run hd, Bool.not_eq_true _ ▸ hag, h1]
        · cases hr
    · cases hr
  · cases hr

theorem store_ok (hw : WRel F w0 w ρ h) {t : TypeId} {a v : AV} {a' v' : Value} (ha : VRel ρ a a') (hv : VRel ρ v v') {h' : Heap} (hr : evStore P h t a v = some h') :
    ∃ w', (Instr.storeAt t a' v').run P w = .ok () w' ∧ WRel F w0 w' ρ h' ∧ h'.next = h.next ∧ w'.heap.size = w.heap.size := by
  unfold evStore at hr
  split at hr
  · rename_i k off
    split at hr
    · rename_i B hB
      split at hr
      · rename_i n hn
        split at hr
        · rename_i hc
          cases hr
          simp only [Bool.and_eq_true, Nat.beq_eq, Nat.blt_eq, Nat.ble_eq] at hc
          obtain ⟨c1, c2, c3, c4, c5⟩ := hc
          cases ha with
          | ptr hl =>
            rename_i l
            have hcs := hv.cells c1
            have hlen := hcs.length
            obtain ⟨w', h1, h2, h3⟩ := hw.store P hB hl c4 (off := off) hcs c3 (by omega)
            refine ⟨w', ?_, h3, rfl, h2⟩
            have hsz : v'.cells.size = n := by rw [← c2, hlen]; simp
            simp [Instr.storeAt, Instr.sureAddr, storeVar, sizeOf_run hn, hsz, h1]
        · cases hr
      · cases hr
    · cases hr
  · cases hr

theorem field_addr_ok {s : TypeId} {a v : AV} {a' : Value} {f : Nat} (ha : VRel ρ a a') (hr : evFieldAddr P s a f = some v) :
    ∃ v', (Instr.fieldAt s a' f).run P w = .ok v' w ∧ VRel ρ v v' := by
  unfold evFieldAddr at hr
  split at hr
  · rename_i fs hfs
    split at hr
    · rename_i fd hfd
      split at hr
      · rename_i n hn
        split at hr
        · cases hr
        · rename_i hz
          split at hr
          · rename_i k off
            cases hr
            cases ha with
            | ptr hl =>
              rename_i l
              have hz' : n ≠ 0 := by simpa [Nat.beq_eq] using hz
              refine ⟨.pointer (some ⟨l.b, l.base + (off + fd.offset), none⟩), ?_, .ptr hl⟩
              simp [Instr.fieldAt, under_run hfs, hfd, Instr.sureAddr, fieldPlace, sizeOf_run hn, hz', add_at, Nat.add_assoc]
          · cases hr
      · cases hr
    · cases hr
  · cases hr

theorem field_ok {t : TypeId} {x v : AV} {x' : Value} {f : Nat} (hx : VRel ρ x x') (hr : evField P t x f = some v) :
    ∃ v', (Instr.field t x' f).run P w = .ok v' w ∧ VRel ρ v v' := by
  unfold evField at hr
  split at hr
  · rename_i fs hfs
    split at hr
    · rename_i fd hfd
      split at hr
      · rename_i cs
        cases hx with
        | agg hcs =>
          obtain ⟨v', h1, h2⟩ := partA_run (P := P) (w := w) hcs hr
          refine ⟨v', ?_, h2⟩
          simp [Instr.field, under_run hfs, hfd, asAgg, h1]
      · cases hr
    · cases hr
  · cases hr

theorem idx_rel {v : AV} {v' : Value} {n j : Nat} (hv : VRel ρ v v') (hi : idx v n = some j) : ∃ k, v' = .int k (j : Int) ∧ j < n := by
  unfold idx at hi
  split at hi
  · rename_i k i
    split at hi
    · rename_i hlt
      cases hi
      cases hv
      exact ⟨k, rfl, by simpa using hlt⟩
    · cases hi
  · cases hi

theorem index_addr_ok {t : TypeId} {x i v : AV} {x' i' : Value} (hx : VRel ρ x x') (hi : VRel ρ i i') (hr : evIndexAddr P t x i = some v) :
    ∃ v', (Instr.indexAt t x' i').run P w = .ok v' w ∧ VRel ρ v v' := by
  unfold evIndexAddr at hr
  split at hr
  · rename_i len e hd
    split at hr
    · rename_i n k off j hn hj
      cases hr
      obtain ⟨ki, rfl, hlt⟩ := idx_rel hi hj
      cases hx with
      | ptr hl =>
        rename_i l
        refine ⟨.pointer (some ⟨l.b, l.base + (off + j * n), none⟩), ?_, .ptr hl⟩
        simp [Instr.indexAt, asIntOf, under_run hd, Instr.sureAddr, sizeOf_run hn, hlt, add_at, Nat.add_assoc]
    · cases hr
  · rename_i e hd
    split at hr
    · rename_i n k off len cap hn
      split at hr
      · rename_i j hj
        cases hr
        obtain ⟨ki, rfl, hlt⟩ := idx_rel hi hj
        cases hx with
        | sl hl =>
          rename_i l
          refine ⟨.pointer (some ⟨l.b, l.base + (off + j * n), none⟩), ?_, .ptr hl⟩
          simp [Instr.indexAt, asIntOf, under_run hd, sizeOf_run hn, hlt, add_at, Nat.add_assoc]
      · cases hr
    · rename_i n k off len es hn
      split at hr
      · rename_i j hj
        cases hr
        obtain ⟨ki, rfl, hlt⟩ := idx_rel hi hj
        cases hx with
        | slo hl h1 h2 =>
          rename_i l
          refine ⟨.pointer (some ⟨_, _ + (off + j * n), none⟩), ?_, .ptr hl⟩
          simp [Instr.indexAt, asIntOf, under_run hd, sizeOf_run hn, hlt, add_at, Nat.add_assoc]
      · cases hr
    · cases hr
  · cases hr

theorem bytes_length (s : ByteArray) : (bytesOf s).length = s.size := by
  show (s.data.toList.map UInt8.toNat).length = s.data.size
  rw [List.length_map, Array.length_toList]

theorem bytes_get {s : ByteArray} {j b : Nat} (h : (bytesOf s)[j]? = some b) : ∃ u, s[j]? = some u ∧ u.toNat = b := by
  have hlt : j < s.size := by
    rcases Nat.lt_or_ge j s.size with h' | h'
    · exact h'
    · rw [List.getElem?_eq_none (by rw [bytes_length]; exact h')] at h; cases h
  unfold bytesOf at h
  rw [List.getElem?_map] at h
  obtain ⟨u, hu, rfl⟩ := Option.map_eq_some_iff.1 h
  refine ⟨u, ?_, rfl⟩
  rw [ByteArray.getElem?_lt' s j hlt]
  rw [Array.getElem?_toList, Array.getElem?_eq_getElem (by exact hlt)] at hu
  cases hu
  rfl

theorem index_ok {t : TypeId} {x i v : AV} {x' i' : Value} (hx : VRel ρ x x') (hi : VRel ρ i i') (hr : evIndex P t x i = some v) :
    ∃ v', (Instr.index t x' i').run P w = .ok v' w ∧ VRel ρ v v' := by
  unfold evIndex at hr
  split at hr
  · rename_i hd
    split at hr
    · rename_i s k j
      split at hr
      · rename_i b hb
        cases hr
        rw [nth_eq] at hb
        cases hx with
        | str s =>
          cases hi
          obtain ⟨u, h1, h2⟩ := bytes_get hb
          refine ⟨.int .u8 (b : Int), ?_, .int _ _⟩
          simp [Instr.index, asIntOf, under_run hd, h1, h2]
      · cases hr
    · cases hr
  · rename_i len e hd
    split at hr
    · rename_i cs j n hj hn
      obtain ⟨ki, rfl, hlt⟩ := idx_rel hi hj
      cases hx with
      | agg hcs =>
        obtain ⟨v', h1, h2⟩ := partA_run (P := P) (w := w) hcs hr
        refine ⟨v', ?_, h2⟩
        simp [Instr.index, asIntOf, under_run hd, hlt, sizeOf_run hn, h1]
    · cases hr
  · cases hr

theorem extract_ok {x v : AV} {x' : Value} {i : Nat} (hx : VRel ρ x x') (hr : evExtract x i = some v) :
    ∃ v', (Instr.extract x' i).run P w = .ok v' w ∧ VRel ρ v v' := by
  unfold evExtract at hr
  split at hr
  · cases hx with
    | tup hl =>
      rw [nth_eq] at hr
      obtain ⟨v', h1, h2⟩ := hl.get hr
      have h1' : ∀ cs : Array Value, cs.toList[i]? = some v' → cs[i]? = some v' := fun cs h => by simpa using h
      refine ⟨v', ?_, h2⟩
      simp [Instr.extract, h1' _ h1]
  · cases hr

theorem makeIface_ok {t : TypeId} {x v : AV} {x' : Value} (hx : VRel ρ x x') (hr : evMakeIface P t x = some v) :
    ∃ v', (Instr.makeInterface t x').run P w = .ok v' w ∧ VRel ρ v v' := by
  unfold evMakeIface at hr
  split at hr
  · cases hr
  · rename_i d hne hd
    cases hr
    refine ⟨.iface t x', ?_, .iface hx⟩
    simp only [Instr.makeInterface, Sem.run_bind, under_run hd, Result.andThen_ok, Sem.run_pure]
  · cases hr

end ops
end Go.Ev
