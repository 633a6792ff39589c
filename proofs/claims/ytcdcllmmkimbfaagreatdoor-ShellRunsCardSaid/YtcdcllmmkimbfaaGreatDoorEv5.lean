/- The operations that build values, slice, compare and convert. -/
import Derived.Test.YtcdcllmmkimbfaaGreatDoorEv4
set_option linter.unusedSimpArgs false
set_option linter.unusedVariables false
namespace Go.Ev

/-! ## building -/
theorem fold_set (off : Nat) : ∀ (vs : List Value) (k : Nat) (cells : Array Value), off + k + vs.length ≤ cells.size →
    ((vs.zipIdx k).foldl (fun cs (p : Value × Nat) => cs.setIfInBounds (off + p.2) p.1) cells).toList = cells.toList.take (off + k) ++ vs ++ cells.toList.drop (off + k + vs.length)
  | [], k, cells, h => by simp
  | v :: rest, k, cells, h => by
    simp only [List.zipIdx_cons, List.foldl_cons]
    rw [fold_set off rest (k + 1) (cells.setIfInBounds (off + k) v) (by simp at h ⊢; omega)]
    have e := list_seg_step cells.toList (off + k) v rest (by simp at h ⊢; omega)
    simpa [Array.toList_setIfInBounds, Nat.add_assoc] using e

theorem fill_splice (off : Nat) (vs cells : Array Value) (h : off + vs.size ≤ cells.size) :
    (vs.zipIdx.foldl (fun cs (p : Value × Nat) => cs.setIfInBounds (off + p.2) p.1) cells).toList = splice cells.toList off vs.toList := by
  have e := fold_set off vs.toList 0 cells (by simpa using h)
  rw [← Array.foldl_toList, Array.toList_zipIdx, e]
  simp [splice]

theorem fillA_rel {ρ : Ren} (place place' : Nat → Option (Nat × Nat)) (hp : ∀ i x, place i = some x → place' i = some x) : ∀ (ps : List (Nat × AV)) (ps' : List (Nat × Value)) (cells : List AV) (cells' : Array Value) (r : List AV),
    VsRel ρ cells cells'.toList → ps.map (·.1) = ps'.map (·.1) → VsRel ρ (ps.map (·.2)) (ps'.map (·.2)) → fillA place cells ps = some r →
    ∃ r', Instr.fill place' cells' ps' = some r' ∧ VsRel ρ r r'.toList
  | [], ps', cells, cells', r, hc, h1, h2, hf => by
    simp only [fillA] at hf; cases hf
    cases ps' with
    | nil => exact ⟨cells', by simp [Instr.fill], hc⟩
    | cons _ _ => simp at h1
  | (i, v) :: ps, ps', cells, cells', r, hc, h1, h2, hf => by
    cases ps' with
    | nil => simp at h1
    | cons p ps' =>
      obtain ⟨i', v'⟩ := p
      simp only [List.map_cons, List.cons.injEq] at h1
      obtain ⟨e, h1⟩ := h1
      have e' : i = i' := e
      subst e'
      simp only [List.map_cons] at h2
      cases h2 with
      | cons hv h2 =>
        simp only [fillA] at hf
        split at hf
        · cases hf
        · rename_i off size hpl
          split at hf
          · rename_i hcond
            simp only [Bool.and_eq_true, Nat.beq_eq, Nat.ble_eq] at hcond
            obtain ⟨c1, c2, c3⟩ := hcond
            have hcs := hv.cells c1
            have hlen := hcs.length
            have hclen := hc.length
            have hsz : v'.cells.size = size := by rw [← c2, hlen]; simp
            have hle : off + v'.cells.size ≤ cells'.size := by rw [hsz]; simpa [hclen] using c3
            have hsp := fill_splice off v'.cells cells' hle
            have hrel : VsRel ρ (splice cells off v.cells) ((v'.cells.zipIdx.foldl (fun cs (p : Value × Nat) => cs.setIfInBounds (off + p.2) p.1) cells').toList) := by
              rw [hsp]; unfold splice; rw [hlen]
              exact (hc.take off).append (hcs.append (hc.drop _))
            obtain ⟨r', g1, g2⟩ := fillA_rel place place' hp ps ps' _ _ r hrel h1 h2 hf
            refine ⟨r', ?_, g2⟩
            simp only [Instr.fill, hp i _ hpl]
            rw [if_neg (by simp only [hsz, ne_eq, not_true, false_or, decide_false, Bool.false_or, Bool.or_false, decide_eq_true_eq, gt_iff_lt, Nat.not_lt]; rw [hsz] at hle; omega)]
            exact g1
          · cases hf

theorem partsA_rel {G : Nat} {ρ : Ren} {t : PT AV} {a : Act} (h : TRel G ρ t a.tmps) : ∀ {l : List (Nat × Operand)} {ps : List (Nat × AV)}, partsA G t l = some ps →
    ps.map (·.1) = (l.map fun x => (x.1, a.eval x.2)).map (·.1) ∧ VsRel ρ (ps.map (·.2)) ((l.map fun x => (x.1, a.eval x.2)).map (·.2))
  | [], ps, hp => by simp only [partsA] at hp; cases hp; exact ⟨rfl, .nil⟩
  | (i, x) :: l, ps, hp => by
    simp only [partsA] at hp
    split at hp
    · rename_i v hv
      split at hp
      · rename_i r hr
        cases hp
        obtain ⟨h1, h2⟩ := partsA_rel h hr
        exact ⟨by simpa using h1, by simpa using VsRel.cons (opd_rel h hv) h2⟩
      · cases hp
    · cases hp

section
variable {P : Program} {F : Frm} {w0 w : World} {ρ : Ren} {h : Heap}

theorem places_run : ∀ {fs : List Field} {pl : List (Nat × Nat)}, placesA P fs = some pl →
    (fs.mapM (fun f => do pure (f.offset, ← sizeOf f.type)) : Sem (List (Nat × Nat))).run P w = .ok pl w
  | [], pl, hp => by simp only [placesA] at hp; cases hp; rfl
  | f :: fs, pl, hp => by
    simp only [placesA] at hp
    split at hp
    · rename_i n hn
      split at hp
      · rename_i r hr
        cases hp
        rw [List.mapM_cons]
        simp only [Sem.run_bind, sizeOf_run hn, Result.andThen_ok, Sem.run_pure, places_run hr]
      · cases hp
    · cases hp

theorem build_ok {t : TypeId} {ps : List (Nat × AV)} {ps' : Array (Nat × Value)} {v : AV} (h1 : ps.map (·.1) = ps'.toList.map (·.1)) (h2 : VsRel ρ (ps.map (·.2)) (ps'.toList.map (·.2)))
    (hr : evBuild P t ps = some v) : ∃ v', (Instr.build t ps').run P w = .ok v' w ∧ VRel ρ v v' := by
  unfold evBuild at hr
  split at hr
  · rename_i z hz
    obtain ⟨z', g1, g2, g3⟩ := zero_run (w := w) ρ hz
    split at hr
    · rename_i fs hfs
      split at hr
      · rename_i pl hpl
        split at hr
        · rename_i cs hcs
          cases hr
          obtain ⟨r', r1, r2⟩ := fillA_rel (nth pl) (fun i => pl.toArray[i]?) (fun i x hx => by simpa [nth_eq] using hx) ps ps'.toList z.cells z'.cells cs (g2.cells g3) h1 h2 hcs
          refine ⟨.agg r', ?_, .agg r2⟩
          have hm := places_run (w := w) hpl
          simp only [Instr.build, Sem.run_bind, g1, Result.andThen_ok, under_run hfs]
          rw [Array.mapM_eq_mapM_toList, Sem.run_map, hm]
          simp only [Result.andThen_ok, r1, Sem.run_pure]
        · cases hr
      · cases hr
    · rename_i n e hd
      split at hr
      · rename_i n' hn
        split at hr
        · rename_i cs hcs
          cases hr
          obtain ⟨r', r1, r2⟩ := fillA_rel (fun i => some (i * n', n')) (fun i => some (i * n', n')) (fun i x hx => hx) ps ps'.toList z.cells z'.cells cs (g2.cells g3) h1 h2 hcs
          refine ⟨.agg r', ?_, .agg r2⟩
          simp only [Instr.build, Sem.run_bind, g1, Result.andThen_ok, under_run hd, sizeOf_run hn, r1, Sem.run_pure]
        · cases hr
      · cases hr
    · cases hr
  · cases hr

theorem times_length {α : Type} (l : List α) : ∀ n, (times l n).length = n * l.length
  | 0 => by simp [times]
  | n + 1 => by simp [times, times_length l n, Nat.add_mul, Nat.add_comm]

theorem times_rel {ρ : Ren} {l : List AV} {l' : List Value} (hl : VsRel ρ l l') : ∀ n, VsRel ρ (times l n) (times l' n)
  | 0 => .nil
  | n + 1 => hl.append (times_rel hl n)

theorem times_get {α : Type} (l : List α) (hl : 0 < l.length) : ∀ (n i : Nat), i < n * l.length → (times l n)[i]? = l[i % l.length]?
  | 0, i, h => by simp at h
  | n + 1, i, h => by
    rw [times, List.getElem?_append]
    split
    · rename_i hi; rw [Nat.mod_eq_of_lt hi]
    · rename_i hi
      rw [times_get l hl n (i - l.length) (by rw [Nat.add_mul] at h; omega)]
      rw [Nat.mod_eq_sub_mod (by omega : l.length ≤ i)]

theorem cycle_eq (z : Array Value) (hz : 0 < z.size) (n m : Nat) (hm : m = n * z.size) : ((Array.range m).map (fun i => z[i % z.size]!)).toList = times z.toList n := by
  apply List.ext_getElem?
  intro i
  by_cases hi : i < m
  · rw [times_get z.toList (by simpa using hz) n i (by subst hm; simpa using hi)]
    have : i % z.size < z.size := Nat.mod_lt _ hz
    simp [hi, this]
  · rw [List.getElem?_eq_none (by simp; omega), List.getElem?_eq_none (by rw [times_length]; subst hm; simpa using hi)]

theorem buildSlice_ok {t : TypeId} {len : Nat} {ps : List (Nat × AV)} {ps' : Array (Nat × Value)} {r : OR} (h1 : ps.map (·.1) = ps'.toList.map (·.1)) (h2 : VsRel ρ (ps.map (·.2)) (ps'.toList.map (·.2)))
    (hr : evBuildSlice P t len ps = some r) : ROk P F w0 w ρ h r ((do pure (Next.value (← Instr.buildSlice t len ps')) : Sem Next).run P w) := by
  unfold evBuildSlice at hr
  split at hr
  · rename_i e he
    split at hr
    · rename_i n hn
      split at hr
      · rename_i z hz
        obtain ⟨z', g1, g2, g3⟩ := zero_run (w := w) ρ hz
        split at hr
        · rename_i hc
          simp only [Bool.and_eq_true, Nat.beq_eq, Nat.ble_eq, Nat.blt_eq] at hc
          obtain ⟨c1, c2, c3⟩ := hc
          split at hr
          · rename_i cs hcs
            cases hr
            have hzc := g2.cells g3
            have hzs : z'.cells.size = n := by rw [← c1, hzc.length]; simp
            have hcy := cycle_eq z'.cells (by omega) len (len * n) (by rw [hzs])
            obtain ⟨r', r1, r2⟩ := fillA_rel (fun i => some (i * n, n)) (fun i => some (i * n, n)) (fun i x hx => hx) ps ps'.toList (times z.cells len)
              ((Array.range (len * n)).map (fun i => z'.cells[i % z'.cells.size]!)) cs (by rw [hcy]; exact times_rel hzc len) h1 h2 hcs
            refine new_ok ⟨r', ?_, r2⟩ rfl rfl
            simp only [Instr.buildSlice, Sem.run_bind, under_run he, sizeOf_run hn, Result.andThen_ok]
            rw [if_neg (by omega)]
            by_cases hl : len * n = 0
            · have hlen0 : len = 0 := by
                rcases Nat.mul_eq_zero.1 hl with h' | h'
                · exact h'
                · omega
              subst hlen0
              have er : Array.range 0 = #[] := rfl
              simp only [Nat.zero_mul, er, Array.map_empty] at r1 ⊢
              simp [r1, newRow, newV, er]
            · simp only [hl, if_false, Sem.run_bind, g1, Result.andThen_ok, Sem.run_pure, r1]
              simp [newRow, newV]
          · cases hr
        · cases hr
      · cases hr
    · cases hr
  · cases hr

/-! ## slicing -/
/-- an operand that may be missing -/
def ORel (ρ : Ren) : Option AV → Option Value → Prop
  | none, none => True
  | some v, some v' => VRel ρ v v'
  | _, _ => False

theorem sliceBounds_ok {isS : Bool} {len cap y0 : Nat} {lo hi : Option AV} {lo' hi' : Option Value} (hl : ORel ρ lo lo') (hh : ORel ρ hi hi') {a b : Nat} (hy : y0 ≤ cap)
    (hb : Go.Ev.bound hi len y0 = some b) (ha : Go.Ev.bound lo 0 b = some a) : (Instr.sliceBounds isS len cap lo' hi' none).run P w = .ok (a, b, cap) w := by
  have hsb : ∀ (k : IntKind) (n y : Nat) (c : BoundsCode), n ≤ y → (Instr.sliceBound (.int k (n : Int)) y c).run P w = .ok n w := by
    intro k n y c hn
    simp [Instr.sliceBound, asIntOf, hn]
  unfold Go.Ev.bound at hb ha
  cases hi with
  | none =>
    cases hi' with
    | some _ => exact hh.elim
    | none =>
      simp only at hb; cases hb
      cases lo with
      | none =>
        cases lo' with
        | some _ => exact hl.elim
        | none => simp only at ha; cases ha; simp [Instr.sliceBounds]
      | some v =>
        cases lo' with
        | none => exact hl.elim
        | some v' =>
          split at ha
          · rename_i heq; cases heq
          · rename_i k i heq
            cases heq
            split at ha
            · rename_i hle
              injection ha with ha; subst ha
              cases hl
              have := hsb k i _ .sliceB (Nat.le_of_ble_eq_true hle)
              simp [Instr.sliceBounds, this]
            · cases ha
          · cases ha
  | some u =>
    cases hi' with
    | none => exact hh.elim
    | some u' =>
      split at hb
      · rename_i heq; cases heq
      · rename_i k i heq
        cases heq
        split at hb
        · rename_i hle
          injection hb with hb; subst hb
          cases hh
          have h1 := hsb k i cap (if isS then .sliceAcap else .sliceAlen) (Nat.le_trans (Nat.le_of_ble_eq_true hle) hy)
          cases lo with
          | none =>
            cases lo' with
            | some _ => exact hl.elim
            | none => simp only at ha; cases ha; simp [Instr.sliceBounds, h1]
          | some v =>
            cases lo' with
            | none => exact hl.elim
            | some v' =>
              split at ha
              · rename_i heq; cases heq
              · rename_i k2 i2 heq
                cases heq
                split at ha
                · rename_i hle2
                  injection ha with ha; subst ha
                  cases hl
                  have h2 := hsb k2 i2 i .sliceB (Nat.le_of_ble_eq_true hle2)
                  simp [Instr.sliceBounds, h1, h2]
                · cases ha
              · cases ha
        · cases hb
      · cases hb

theorem bound_le {v : Option AV} {d y b : Nat} (hd : d ≤ y) (h : Go.Ev.bound v d y = some b) : b ≤ y := by
  unfold Go.Ev.bound at h
  split at h
  · cases h; exact hd
  · split at h
    · rename_i hle; cases h; simpa using hle
    · cases h
  · cases h

theorem bytes_extract (s : ByteArray) (a b : Nat) : bytesOf (s.extract a b) = ((bytesOf s).drop a).take (b - a) := by
  obtain ⟨⟨l⟩⟩ := s
  rw [show (ByteArray.mk ⟨l⟩) = ByteArray.mk l.toArray from rfl, ByteArray.extract_mk]
  simp [bytesOf, List.map_take, List.map_drop]

theorem slice_ok {t : TypeId} {x v : AV} {x' : Value} {lo hi mx : Option AV} {lo' hi' mx' : Option Value} (hx : VRel ρ x x') (hl : ORel ρ lo lo') (hh : ORel ρ hi hi') (hm : ORel ρ mx mx')
    (hr : evSlice P t x lo hi mx = some v) : ∃ v', (Instr.sliceAt t x' lo' hi' mx').run P w = .ok v' w ∧ VRel ρ v v' := by
  unfold evSlice at hr
  split at hr
  · rename_i s hd
    cases mx' with
    | some _ => exact hm.elim
    | none =>
      split at hr
      · rename_i b hb
        split at hr
        · rename_i a ha
          cases hr
          cases hx with
          | str s =>
            rw [bytes_length] at hb
            have hs := sliceBounds_ok (P := P) (w := w) (isS := false) hl hh (Nat.le_refl _) hb ha
            refine ⟨.string (s.extract a b), ?_, by rw [← bytes_extract]; exact .str _⟩
            simp [Instr.sliceAt, Instr.slice, under_run hd, hs]
        · cases hr
      · cases hr
  · rename_i e hd
    cases mx' with
    | some _ => exact hm.elim
    | none =>
      split at hr
      · rename_i b hb
        split at hr
        · rename_i a ha
          split at hr
          · rename_i n hn
            cases hr
            cases hx with
            | nilsl =>
              have hs := sliceBounds_ok (P := P) (w := w) (isS := true) hl hh (Nat.le_refl _) hb ha
              have hb0 := bound_le (Nat.le_refl 0) hb
              have ha0 := bound_le (Nat.zero_le b) ha
              obtain rfl : b = 0 := by omega
              obtain rfl : a = 0 := by omega
              refine ⟨.slice none 0 0, ?_, .nilsl⟩
              simp [Instr.sliceAt, Instr.slice, under_run hd, hs, sizeOf_run hn]
          · cases hr
        · cases hr
      · cases hr
  · rename_i e k off len cap hd
    cases mx' with
    | some _ => exact hm.elim
    | none =>
      split at hr
      · rename_i b hb
        split at hr
        · rename_i a ha
          split at hr
          · rename_i n hn
            cases hx with
            | sl hk =>
              rename_i l
              have hs := sliceBounds_ok (P := P) (w := w) (isS := true) hl hh (Nat.le_refl _) hb ha
              split at hr
              · rename_i hac
                have hac' : a = cap := by simpa [Nat.beq_eq] using hac
                cases hr
                refine ⟨_, ?_, .sl (k := k) (off := off) (len := b - a) (cap := cap - a) hk⟩
                simp [Instr.sliceAt, Instr.slice, under_run hd, hs, sizeOf_run hn, hac']
              · rename_i hac
                have hac' : ¬ cap = a := fun e => hac (by simp [e])
                cases hr
                refine ⟨.slice (some ⟨l.b, l.base + (off + a * n), none⟩) (b - a) (cap - a), ?_, .sl hk⟩
                simp [Instr.sliceAt, Instr.slice, under_run hd, hs, sizeOf_run hn, hac', add_at, Nat.add_assoc]
          · cases hr
        · cases hr
      · cases hr
  · rename_i e k off len es hd
    cases mx' with
    | some _ => exact hm.elim
    | none =>
      split at hr
      · rename_i b hb
        split at hr
        · rename_i a ha
          split at hr
          · rename_i n hn
            cases hx with
            | slo hk h1 h2 =>
              rename_i cap l
              split at hr
              · rename_i hne
                have hne' : n = es := by simpa [Nat.beq_eq] using hne
                subst hne'
                have hs := sliceBounds_ok (P := P) (w := w) (isS := true) (cap := cap) hl hh h1 hb ha
                have hbl := bound_le (Nat.le_refl len) hb
                have hal := bound_le (Nat.zero_le b) ha
                split at hr
                · rename_i hac
                  simp only [Bool.or_eq_true, Nat.blt_eq, Nat.beq_eq] at hac
                  cases hr
                  refine ⟨.slice (some ⟨l.b, l.base + (off + a * n), none⟩) (b - a) (cap - a), ?_, .slo hk (by omega) ?_⟩
                  · by_cases hca : cap = a
                    · have ha0 : a = 0 := by omega
                      subst ha0; subst hca
                      simp [Instr.sliceAt, Instr.slice, under_run hd, hs, sizeOf_run hn]
                    · simp [Instr.sliceAt, Instr.slice, under_run hd, hs, sizeOf_run hn, hca, add_at, Nat.add_assoc]
                  · have e1 : (cap - a) * n + a * n = cap * n := by rw [← Nat.add_mul]; congr 1; omega
                    omega
                · rename_i hac
                  simp only [Bool.or_eq_true, Nat.blt_eq, Nat.beq_eq, not_or] at hac
                  cases hr
                  have hba : b - a = 0 := by omega
                  by_cases hca : cap = a
                  · refine ⟨_, ?_, .sl0 ⟨l.b, l.base + off, none⟩ (cap - a)⟩
                    subst hca
                    simp [Instr.sliceAt, Instr.slice, under_run hd, hs, sizeOf_run hn, hba]
                  · refine ⟨_, ?_, .sl0 ⟨l.b, l.base + (off + a * n), none⟩ (cap - a)⟩
                    simp [Instr.sliceAt, Instr.slice, under_run hd, hs, sizeOf_run hn, hca, hba, add_at, Nat.add_assoc]
              · cases hr
          · cases hr
        · cases hr
      · cases hr
  · rename_i len e k off hd
    cases mx' with
    | some _ => exact hm.elim
    | none =>
      split at hr
      · rename_i b hb
        split at hr
        · rename_i a ha
          split at hr
          · rename_i n hn
            cases hx with
            | ptr hk =>
              rename_i l
              have hs := sliceBounds_ok (P := P) (w := w) (isS := false) hl hh (Nat.le_refl _) hb ha
              split at hr
              · rename_i hac
                have hac' : a = len := by simpa [Nat.beq_eq] using hac
                cases hr
                refine ⟨_, ?_, .sl (k := k) (off := off) (len := b - a) (cap := len - a) hk⟩
                simp [Instr.sliceAt, Instr.sureAddr, under_run hd, hs, sizeOf_run hn, hac']
              · rename_i hac
                have hac' : ¬ len = a := fun e => hac (by simp [e])
                cases hr
                refine ⟨.slice (some ⟨l.b, l.base + (off + a * n), none⟩) (b - a) (len - a), ?_, .sl hk⟩
                simp [Instr.sliceAt, Instr.sureAddr, under_run hd, hs, sizeOf_run hn, hac', add_at, Nat.add_assoc]
          · cases hr
        · cases hr
      · cases hr
  · cases hr

/-! ## make -/
theorem makeSlice_ok {t : TypeId} {l c : AV} {l' c' : Value} {r : OR} (hl : VRel ρ l l') (hc : VRel ρ c c') (hr : evMakeSlice P t l c = some r) :
    ROk P F w0 w ρ h r ((do pure (Next.value (← Instr.makeSlice t l' c')) : Sem Next).run P w) := by
  unfold evMakeSlice at hr
  split at hr
  · rename_i e he
    split at hr
    · rename_i i z hi hz
      obtain ⟨z', g1, g2, g3⟩ := zero_run (w := w) ρ hz
      split at hr
      · rename_i k a k2 b
        split at hr
        · rename_i hcond
          simp only [Bool.and_eq_true, Nat.ble_eq, Nat.beq_eq, Nat.blt_eq] at hcond
          obtain ⟨c1, c2, c3, c4, c5⟩ := hcond
          cases hr
          cases hl; cases hc
          have hzc := g2.cells g3
          have hzs : z'.cells.size = i.size := by rw [← c4, hzc.length]; simp
          have hcy := cycle_eq z'.cells (by omega) b (b * i.size) (by rw [hzs])
          refine new_ok ⟨(Array.range (b * i.size)).map (fun j => z'.cells[j % z'.cells.size]!), ?_, by rw [hcy]; exact times_rel hzc b⟩ rfl rfl
          have wa : IntKind.i64.wrap (a : Int) = (a : Int) := by simp only [IntKind.wrap, IntKind.bits, IntKind.signed]; simp; omega
          have wb : IntKind.i64.wrap (b : Int) = (b : Int) := by simp only [IntKind.wrap, IntKind.bits, IntKind.signed]; simp; omega
          have hbytes : (i.bytes : Int) * (b : Int) ≤ 2 ^ 48 := by
            have h1 : i.bytes * b ≤ 4096 * 1073741824 := Nat.mul_le_mul c3 c2
            have h2 := Int.ofNat_le.2 h1
            rw [Int.natCast_mul] at h2
            exact Int.le_trans h2 (by decide)
          have t1 : ¬ ((b : Int) < 0) := by omega
          have t2 : ¬ ((i.bytes : Int) * (b : Int) > 2 ^ 48) := by omega
          have t3 : ¬ ((a : Int) < 0) := by omega
          have t4 : ¬ ((a : Int) > (b : Int)) := by omega
          simp only [Instr.makeSlice, Sem.run_bind, under_run he, Result.andThen_ok, asInt, asIntOf, Sem.run_pure, typeInfo_run hi, Int.ofNat_eq_natCast, wa, wb]
          rw [if_neg (by simp only [Bool.or_eq_true, decide_eq_true_eq, not_or]; exact ⟨⟨⟨t1, t2⟩, t3⟩, t4⟩)]
          simp only [Sem.run_bind, run_askRoom, Result.andThen_ok, Int.toNat_natCast, sizeOf, typeInfo_run hi, Sem.run_pure]
          by_cases hb0 : b * i.size = 0
          · have : b = 0 := by
              rcases Nat.mul_eq_zero.1 hb0 with h' | h'
              · exact h'
              · omega
            subst this
            have er : Array.range 0 = #[] := rfl
            simp [newRow, newV, er]
          · simp only [hb0, if_false, Sem.run_bind, g1, Result.andThen_ok, Sem.run_pure]
            simp [newRow, newV]
        · cases hr
      · cases hr
    · cases hr
  · cases hr
end
end Go.Ev
