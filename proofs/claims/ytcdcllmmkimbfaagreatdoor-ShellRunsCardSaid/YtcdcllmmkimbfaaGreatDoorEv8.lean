/- append, copy, clear, unsafe.String; every operation together. -/
import Derived.Test.YtcdcllmmkimbfaaGreatDoorEv7
set_option linter.unusedSimpArgs false
set_option linter.unusedVariables false
namespace Go.Ev

section
variable {P : Program} {F : Frm} {w0 w : World} {ρ : Ren} {h : Heap}

theorem zero_all (ρ : Ren) {t : TypeId} {z : AV} (h : zeroA P t = some z) : ∃ z', (∀ w, (zeroValue t).run P w = .ok z' w) ∧ VRel ρ z z' ∧ z.honest = true := by
  unfold zeroA at h
  split at h
  · rename_i i hi
    split at h
    · rename_i z0 hz
      exact ⟨z0, fun w => by simp [zeroValue, typeInfo, hi, hz], ofVal_rel ρ h, ofVal_honest h⟩
    · cases h
  · cases h

/-- append, when there is room -/
theorem append_room {ts : Array TypeId} {ty t u e : TypeId} {args' : Array Value} {lt : List TypeId} {la : List Value} {du : TypeDesc} {i : TypeInfo} {base : Option Addr} {sLen sCap n : Nat} {x' : Value} {new : Array Value} {w' : World}
    (h1 : ts.toList = t :: u :: lt) (h2 : args'.toList = .slice base sLen sCap :: x' :: la) (hd : P.underlying t = some (.slice e)) (hu : P.underlying u = some du) (hdu : ∀ k, du ≠ .int k) (hi : P.info? e = some i)
    (hn : (Builtin.lenOf x').run P w = .ok n w) (hnew : (Builtin.firstCells i.size n x').run P w = .ok new w) (hroom : sLen + n ≤ sCap)
    (hst : (match base with | some a => storeCells (a.add (sLen * i.size)) new.toList | none => pure () : Sem Unit).run P w = .ok () w') :
    (Builtin.append_ ts ty args').run P w = .ok (.slice base (sLen + n) sCap) w' := by
  have hz : (match du with | .int _ => true | _ => false) = false := by cases du <;> first | rfl | exact absurd rfl (hdu _)
  simp only [Builtin.append_, arr0 h1, arr1 h1, arr0 h2, arr1 h2, Sem.run_bind, run_underlying hd, Result.andThen_ok, sizeOf, typeInfo_run hi, Sem.run_pure, run_underlying hu, hz, Bool.false_eq_true, if_false, hn, Bool.not_false, if_true, hroom, hnew]
  cases base with
  | none => simp only [Sem.run_pure] at hst; cases hst; simp
  | some a => simp only at hst; simp [hst]

/-- append, when it must grow -/
theorem append_grow {ts : Array TypeId} {ty t u e : TypeId} {args' : Array Value} {lt : List TypeId} {la : List Value} {du : TypeDesc} {i : TypeInfo} {base : Option Addr} {sLen sCap n : Nat} {x' z' : Value} {old new : Array Value}
    (h1 : ts.toList = t :: u :: lt) (h2 : args'.toList = .slice base sLen sCap :: x' :: la) (hd : P.underlying t = some (.slice e)) (hu : P.underlying u = some du) (hdu : ∀ k, du ≠ .int k) (hi : P.info? e = some i)
    (hn : (Builtin.lenOf x').run P w = .ok n w) (hnew : (Builtin.firstCells i.size n x').run P { w with drawn := w.drawn + 1 } = .ok new { w with drawn := w.drawn + 1 })
    (hold : (Builtin.firstCells i.size sLen (.slice base sLen sCap)).run P { w with drawn := w.drawn + 1 } = .ok old { w with drawn := w.drawn + 1 })
    (hz : ∀ w, (zeroValue e).run P w = .ok z' w) (hroom : ¬ sLen + n ≤ sCap) (hle : sLen + n ≤ 1073741824) (hb : i.bytes ≤ 4096) (hb0 : 0 < i.bytes ∨ True) :
    (Builtin.append_ ts ty args').run P w = .ok (.slice (some ⟨w.heap.size, 0, none⟩) (sLen + n) ((Question.appendCap (sLen + n) sCap e).cut (w.tape w.drawn (.appendCap (sLen + n) sCap e))))
      { { w with drawn := w.drawn + 1 } with heap := w.heap.push (.cells (old ++ new ++ Builtin.zeroCells z'.cells ((Question.appendCap (sLen + n) sCap e).cut (w.tape w.drawn (.appendCap (sLen + n) sCap e)) - (sLen + n))) e) } := by
  have hzz : (match du with | .int _ => true | _ => false) = false := by cases du <;> first | rfl | exact absurd rfl (hdu _)
  have hf : (Question.appendCap (sLen + n) sCap e).forced = false := rfl
  have hmax : IntKind.i64.max = 9223372036854775807 := rfl
  have c1 : ¬ (((sLen + n : Nat) : Int) > IntKind.i64.max ∧ (False ∨ i.bytes = 0)) := by rw [hmax]; intro hc; omega
  have c2 := nextcap_le (need := sLen + n) (cap := sCap) (bytes := i.bytes) (by omega) hle hb
  simp only [Builtin.append_, arr0 h1, arr1 h1, arr0 h2, arr1 h2, Sem.run_bind, run_underlying hd, Result.andThen_ok, sizeOf, typeInfo_run hi, Sem.run_pure, run_underlying hu, hzz, Bool.false_eq_true, if_false, hn, Bool.not_false, if_true, hroom, c1, c2,
    run_choose, hf, run_askRoom, hold, hnew, hz, newRow, run_newObj]

theorem plain_not_int {u : TypeId} (hp : plainT P u = true) :
    ∃ du, P.underlying u = some du ∧ ∀ k, du ≠ .int k := by
  unfold plainT at hp
  split at hp
  · rename_i e h; exact ⟨_, h, by simp⟩
  · rename_i h; exact ⟨_, h, by simp⟩
  · cases hp

theorem append_ok (hw : WRel F w0 w ρ h) (hnx : h.next < maxId) {ts : Array TypeId} {ty t u : TypeId} {args' : Array Value} {lt : List TypeId} {la : List Value} {s x v : AV} {s' x' : Value} {h' : Heap}
    (h1 : ts.toList = t :: u :: lt) (h2 : args'.toList = s' :: x' :: la) (hs : VRel ρ s s') (hx : VRel ρ x x') (hr : evAppend P h t u s x = some (v, h')) :
    ROk P F w0 w ρ h (.eff v h') ((do pure (Next.value (← Builtin.append_ ts ty args')) : Sem Next).run P w) := by
  unfold evAppend at hr
  split at hr
  · rename_i e hd
    split at hr
    · rename_i i z hi hz
      obtain ⟨z', z1, z2, z3⟩ := zero_all ρ hz
      split at hr
      · rename_i n hn
        split at hr
        · rename_i new hnew
          split at hr
          · rename_i hc
            simp only [Bool.and_eq_true, Nat.beq_eq, Nat.ble_eq, Nat.blt_eq] at hc
            obtain ⟨c1, c2, c3, c4, c5, c6⟩ := hc
            obtain ⟨du, hu, hdu⟩ := plain_not_int c1
            have hln := lenOf_ok (P := P) (w := w) hx hn
            obtain ⟨new', n1, n2⟩ := read_ok (P := P) hw hx hnew
            obtain ⟨newd, d1, d2⟩ := read_ok (P := P) (hw.drew (w.drawn + 1)) hx hnew
            have hzs : z'.cells.size = i.size := by rw [← c4, (z2.cells z3).length]; simp
            split at hr
            · -- nil
              cases hs
              split at hr
              · rename_i hle
                simp only [Nat.ble_eq] at hle
                split at hr
                · rename_i hn0
                  have hn0' : n = 0 := by simpa [Nat.beq_eq] using hn0
                  cases hr
                  have := append_room (ty := ty) h1 h2 hd hu hdu hi hln n1 (by omega) (w' := w) rfl
                  subst hn0'
                  exact ⟨ρ, _, w, _, run_v this, .inl rfl, .nilsl, hw, Agree.refl _ _, Nat.le_refl _, Nat.le_refl _⟩
                · rename_i hn0
                  have hn0' : n ≠ 0 := fun e => hn0 (by simp [e])
                  cases hr
                  have hgr := append_grow (ty := ty) (old := #[]) h1 h2 hd hu hdu hi hln d1 rfl z1 (by omega) (by omega) c5 (.inr trivial)
                  simp only [Nat.zero_add] at hgr
                  obtain ⟨r1, r2⟩ := grow_rel hw hnx rfl (e := e) (cells := new) (cs := #[] ++ newd) (need := n) (size := i.size) (by simpa using d2) c3 (cut_cap n 0 e _) (zeroCells_size z'.cells _ |>.trans (by rw [hzs]))
                  exact ⟨_, _, _, _, run_v hgr, .inl rfl, r2, r1, Ren.upd_agree (Nat.le_refl _), by simp [growA], by simp⟩
              · cases hr
            · -- known capacity
              rename_i k off len cap
              split at hr
              · rename_i B hB
                cases hs with
                | sl hl =>
                  rename_i l
                  split at hr
                  · rename_i hroom
                    simp only [Nat.ble_eq] at hroom
                    split at hr
                    · rename_i hcc
                      simp only [Bool.and_eq_true, Nat.blt_eq, Nat.ble_eq] at hcc
                      cases hr
                      obtain ⟨w', s1, s2, s3⟩ := hw.store P hB hl hcc.1 (off := off + len * i.size) n2 c2 (by rw [c3, Nat.add_assoc, ← Nat.add_mul]; exact hcc.2)
                      have := append_room (ty := ty) h1 h2 hd hu hdu hi hln n1 hroom (w' := w') (by simp only [add_at]; rw [Nat.add_assoc]; exact s1)
                      exact ⟨ρ, _, w', _, run_v this, .inl rfl, .sl hl, s3, Agree.refl _ _, Nat.le_refl _, by omega⟩
                    · cases hr
                  · rename_i hroom
                    have hroom' : ¬ len + n ≤ cap := by simpa [Nat.ble_eq] using hroom
                    split at hr
                    · rename_i hcc
                      simp only [Bool.and_eq_true, Nat.ble_eq] at hcc
                      cases hr
                      obtain ⟨cs, o1, o2, o3⟩ := ((hw.drew (w.drawn + 1)).blk k B l hB hl).loadCells P (off := off) (n := len * i.size) hcc.2
                      have hgr := append_grow (ty := ty) (old := cs.toArray) h1 h2 hd hu hdu hi hln d1 (by simpa [Builtin.firstCells] using o3) z1 hroom' hcc.1 c5 (.inr trivial)
                      obtain ⟨r1, r2⟩ := grow_rel hw hnx rfl (e := e) (cells := (B.cells.drop off).take (len * i.size) ++ new) (cs := cs.toArray ++ newd) (need := len + n) (size := i.size) (by rw [Array.toList_append]; exact o2.append d2)
                        (by rw [List.length_append, c3, o2.length, o1, ← Nat.add_mul]) (cut_cap (len + n) cap e _) (zeroCells_size z'.cells _ |>.trans (by rw [hzs]))
                      exact ⟨_, _, _, _, run_v hgr, .inl rfl, r2, r1, Ren.upd_agree (Nat.le_refl _), by simp [growA], by simp⟩
                    · cases hr
              · cases hr
            · -- open capacity
              rename_i k off len es
              split at hr
              · rename_i B hB
                split at hr
                · rename_i hcc
                  simp only [Bool.and_eq_true, Nat.beq_eq, Nat.blt_eq, Nat.ble_eq] at hcc
                  obtain ⟨e1, e2, e3, e4, e5⟩ := hcc
                  subst e1
                  cases hs with
                  | slo hl g1 g2 =>
                    rename_i cap l
                    have hb := hw.blk k B l hB hl
                    split at hr
                    · rename_i hroom
                      simp only [Nat.ble_eq] at hroom
                      cases hr
                      have hcap : len + n ≤ cap := by
                        have h3 := hb.fits
                        have h4 : (len + n) * i.size ≤ cap * i.size := by omega
                        exact Nat.le_of_mul_le_mul_right h4 c6
                      obtain ⟨w', s1, s2, s3⟩ := hw.store P hB hl e2 (off := off + len * i.size) n2 c2 (by rw [c3, Nat.add_assoc, ← Nat.add_mul]; exact hroom)
                      have := append_room (ty := ty) h1 h2 hd hu hdu hi hln n1 hcap (w' := w') (by simp only [add_at]; rw [Nat.add_assoc]; exact s1)
                      exact ⟨ρ, _, w', _, run_v this, .inl rfl, .slo hl hcap g2, s3, Agree.refl _ _, Nat.le_refl _, by omega⟩
                    · rename_i hroom
                      cases hr
                      by_cases hcap : len + n ≤ cap
                      · -- in place
                        obtain ⟨⟨cs, fz, hcs, hsz, hfz, hrel⟩, hfit, hex⟩ := hb
                        have hnl := n2.length
                        have hfits : l.base + off + (len + n) * i.size ≤ l.size := by
                          have := Nat.mul_le_mul_right i.size hcap
                          omega
                        have hst := run_storeCells_free P l.b (l.base + off + len * i.size) B.elem fz new'.toList 0 cs w hcs (by rw [hsz]; exact fzFree hfz e2)
                          (by rw [← hnl, c3, hsz]; rw [Nat.add_mul] at hfits; omega) (n2.one c2)
                        have hrun := append_room (ty := ty) h1 h2 hd hu hdu hi hln n1 hcap (w' := _) (by simp only [add_at]; exact hst)
                        have hkk : k < h.next := hw.lt hl
                        have hkm : k < maxId := by omega
                        have hget : ∀ j, ({ (h.put k none).put h.next (some ⟨e, false, B.fz, (B.cells.drop off).take (len * i.size) ++ new⟩) with next := h.next + 1 } : Heap).get j =
                            if j = h.next then some ⟨e, false, B.fz, (B.cells.drop off).take (len * i.size) ++ new⟩ else if j = k then none else h.get j := by
                          intro j
                          show ((h.put k none).put h.next _).get j = _
                          rw [Heap.get_put hnx, Heap.get_put hkm]
                        refine ⟨ρ.upd h.next ⟨l.b, l.base + off, l.size⟩, _, _, _, run_v hrun, .inl rfl, ?_, ?_, Ren.upd_agree (Nat.le_refl _), by simp, by rw [setRow_size]; exact Nat.le_refl _⟩
                        · have := VRel.slo (ρ := ρ.upd h.next ⟨l.b, l.base + off, l.size⟩) (off := 0) (len := len + n) (es := i.size) (cap := cap) (Ren.upd_self _ _ _) hcap (by simpa using g2)
                          simpa using this
                        · have hsub := Ren.upd_sub (l := ⟨l.b, l.base + off, l.size⟩) (hw.fresh h.next (Nat.le_refl _))
                          have hF := hw.notin hB hl (by omega)
                          refine ⟨hw.os, hw.tape, hw.output, by rw [setRow_size]; exact hw.size, ?_, hw.inold, by simp only; omega, ?_, ?_, ?_, ?_, ?_⟩
                          · intro b hbF
                            rw [heap_setRow w l.b b _ (fun e => hF (e ▸ hbF))]
                            exact hw.old b hbF
                          · intro j hj
                            simp only at hj
                            unfold Ren.upd; rw [if_neg (by omega)]; exact hw.fresh j (by omega)
                          · intro j m hj
                            rw [setRow_size]
                            unfold Ren.upd at hj
                            split at hj
                            · cases hj; exact hw.dom k l hl
                            · exact hw.dom j m hj
                          · intro j B' m hj hm
                            rw [hget] at hj
                            unfold Ren.upd at hm
                            split at hj
                            · rename_i ej
                              subst ej
                              cases hj
                              rw [if_pos rfl] at hm; cases hm
                              refine ⟨⟨_, fz, by (have q := setRow_heap w l.b cs (cs.toList.take (l.base + off + len * i.size + 0) ++ new'.toList ++ cs.toList.drop (l.base + off + len * i.size + 0 + new'.toList.length)).toArray B.elem fz hcs); rw [e5] at q; exact q, ?_, hfz, ?_⟩, ?_, by simp⟩
                              · have hnl' : new'.size = n * i.size := by rw [← c3, hnl]; simp
                                simp only [List.size_toArray, List.length_append, List.length_take, List.length_drop, Array.length_toList]
                                rw [hnl', hsz]
                                rw [Nat.add_mul] at hfits; omega
                              · simp only [Nat.add_zero]
                                have e6 : ((B.cells.drop off).take (len * i.size) ++ new).length = len * i.size + n * i.size := by
                                  rw [List.length_append, c3, List.length_take, List.length_drop]; omega
                                rw [e6]
                                have e7 : ((cs.toList.take (l.base + off + len * i.size) ++ new'.toList ++ cs.toList.drop (l.base + off + len * i.size + new'.toList.length)).drop (l.base + off)).take (len * i.size + n * i.size) =
                                    ((cs.toList.drop (l.base + off)).take (len * i.size)) ++ new'.toList := by
                                  rw [drop_splice cs.toList new'.toList (l.base + off) (len * i.size) (len * i.size + n * i.size) (by rw [Array.length_toList, hsz]; rw [Nat.add_mul] at hfits; omega) (by rw [← hnl, c3]; exact Nat.le_refl _)]
                                  unfold splice
                                  rw [← hnl, c3, List.take_take]
                                  rw [List.drop_of_length_le (List.length_take_le _ _)]
                                  simp
                                rw [e7]
                                refine VsRel.append ?_ (n2.mono hsub)
                                have h8 := ((hrel.drop off).take (len * i.size)).mono hsub
                                have e9 : (((cs.toList.drop l.base).take B.cells.length).drop off).take (len * i.size) = (cs.toList.drop (l.base + off)).take (len * i.size) := by
                                  rw [List.drop_take, List.drop_drop, List.take_take]
                                  congr 1; omega
                                rwa [e9] at h8
                              · simp only [List.length_append, c3, List.length_take, List.length_drop]
                                rw [Nat.add_mul] at hfits; omega
                            · rename_i ej
                              rw [if_neg ej] at hm
                              split at hj
                              · cases hj
                              · rename_i ek
                                have hb' : m.b ≠ l.b := fun e => ek (hw.inj j B' m k B l hj hm hB hl (.inr (by omega)) e)
                                exact (hw.blk j B' m hj hm).mono hsub (heap_setRow w l.b m.b _ hb')
                          · intro j B' m hj hm
                            rw [hget] at hj
                            unfold Ren.upd at hm
                            split at hj
                            · rename_i ej
                              rw [if_pos ej] at hm; cases hm
                              exact ⟨fun _ e => hF (.inl e), fun e => hF (.inr e)⟩
                            · rename_i ej
                              rw [if_neg ej] at hm
                              split at hj
                              · cases hj
                              · exact hw.own j B' m hj hm
                          · intro k1 B1 l1 k2 B2 l2 q1 q2 q3 q4 hz hbb
                            rw [hget] at q1 q3
                            unfold Ren.upd at q2 q4
                            split at q1 <;> split at q3
                            · rename_i a1 a2; rw [a1, a2]
                            · rename_i a1 a2
                              rw [if_pos a1] at q2; cases q2
                              rw [if_neg a2] at q4
                              split at q3
                              · cases q3
                              · rename_i a3
                                exact absurd (hw.inj k2 B2 l2 k B l q3 q4 hB hl (.inr (by omega)) hbb.symm) a3
                            · rename_i a1 a2
                              rw [if_pos a2] at q4; cases q4
                              rw [if_neg a1] at q2
                              split at q1
                              · cases q1
                              · rename_i a3
                                exact absurd (hw.inj k1 B1 l1 k B l q1 q2 hB hl (.inr (by omega)) hbb) a3
                            · rename_i a1 a2
                              rw [if_neg a1] at q2
                              rw [if_neg a2] at q4
                              split at q1
                              · cases q1
                              · split at q3
                                · cases q3
                                · exact hw.inj k1 B1 l1 k2 B2 l2 q1 q2 q3 q4 hz hbb
                      · -- it grows
                        obtain ⟨cs, o1, o2, o3⟩ := ((hw.drew (w.drawn + 1)).blk k B l hB hl).loadCells P (off := off) (n := len * i.size) e4
                        have hgr := append_grow (ty := ty) (old := cs.toArray) h1 h2 hd hu hdu hi hln d1 (by simpa [Builtin.firstCells] using o3) z1 hcap e3 c5 (.inr trivial)
                        have hdrop : WRel F w0 w ρ (h.put k none) := by
                          have hkm : k < maxId := by have := hw.lt hl; have := hw.bound; omega
                          refine ⟨hw.os, hw.tape, hw.output, hw.size, hw.old, hw.inold, hw.bound, hw.fresh, hw.dom, ?_, ?_, ?_⟩
                          · intro j B' m hj hm
                            rw [Heap.get_put hkm] at hj; split at hj
                            · cases hj
                            · exact hw.blk j B' m hj hm
                          · intro j B' m hj hm
                            rw [Heap.get_put hkm] at hj; split at hj
                            · cases hj
                            · exact hw.own j B' m hj hm
                          · intro k1 B1 l1 k2 B2 l2 q1 q2 q3 q4
                            rw [Heap.get_put hkm] at q1 q3
                            split at q1
                            · cases q1
                            · split at q3
                              · cases q3
                              · exact hw.inj k1 B1 l1 k2 B2 l2 q1 q2 q3 q4
                        have hd' := hdrop.drew (w.drawn + 1)
                        generalize hnc : (Question.appendCap (len + n) cap e).cut (w.tape w.drawn (.appendCap (len + n) cap e)) = nc at hgr
                        have hcn : len + n ≤ nc := by rw [← hnc]; exact cut_cap _ _ _ _
                        have hcells : ((B.cells.drop off).take (len * i.size) ++ new).length = (len + n) * i.size := by rw [List.length_append, c3, o2.length, o1, ← Nat.add_mul]
                        have hrr : VsRel ρ ((B.cells.drop off).take (len * i.size) ++ new) (cs.toArray ++ newd).toList := by rw [Array.toList_append]; exact o2.append d2
                        have hsz2 : (cs.toArray ++ newd ++ Builtin.zeroCells z'.cells (nc - (len + n))).size = nc * i.size := by
                          have h1 : (cs.toArray ++ newd).size = (len + n) * i.size := by rw [← hcells, hrr.length]; simp
                          rw [Array.size_append, h1, zeroCells_size, hzs, ← Nat.add_mul]; congr 1; omega
                        have hnew := hd'.new (k := h.next) (n := h.next + 1) (B := ⟨e, false, B.fz, (B.cells.drop off).take (len * i.size) ++ new⟩) (cs := cs.toArray ++ newd ++ Builtin.zeroCells z'.cells (nc - (len + n))) (fz := (0, 0))
                          (hw.fresh _ (Nat.le_refl _)) (by omega) (by show h.next ≤ h.next + 1; omega) (by omega)
                          (by
                            have : (cs.toArray ++ newd ++ Builtin.zeroCells z'.cells (nc - (len + n))).toList.take ((B.cells.drop off).take (len * i.size) ++ new).length = (cs.toArray ++ newd).toList := by
                              rw [Array.toList_append, List.take_left' (by rw [hrr.length])]
                            simp only [this]; exact hrr)
                          (by simp only [hsz2, hcells]; exact Nat.mul_le_mul_right _ hcn) (by simp)
                          (by
                            show FzOk B.fz _ (0, 0)
                            match B.fz, e2 with
                            | 0, _ => rfl
                            | 1, _ => exact .inl rfl)
                        rw [hsz2] at hnew
                        refine ⟨_, _, _, _, run_v hgr, .inl rfl, ?_, hnew, Ren.upd_agree (Nat.le_refl _), by simp, by simp⟩
                        have := VRel.slo (ρ := ρ.upd h.next ⟨w.heap.size, 0, nc * i.size⟩) (off := 0) (len := len + n) (es := i.size) (cap := nc) (Ren.upd_self _ _ _) hcn (by simp)
                        simpa using this
                · cases hr
              · cases hr
            · cases hr
          · cases hr
        · cases hr
      · cases hr
    · cases hr
  · cases hr
end
end Go.Ev
