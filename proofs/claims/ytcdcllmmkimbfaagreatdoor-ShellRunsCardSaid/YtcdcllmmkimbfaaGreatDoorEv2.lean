/- What loads, stores and new blocks do to the relation between an abstract heap and a world. -/
import Derived.Test.YtcdcllmmkimbfaaGreatDoorEv1
namespace Go.Ev

theorem add_at (b o i : Nat) : (⟨b, o, none⟩ : Addr).add i = ⟨b, o + i, none⟩ := by unfold Addr.add; split <;> simp_all

theorem WRel.drew {F : Frm} {w0 w : World} {ρ : Ren} {h : Heap} (hw : WRel F w0 w ρ h) (n : Nat) : WRel F w0 { w with drawn := n } ρ h :=
  ⟨hw.os, hw.tape, hw.output, hw.size, hw.old, hw.inold, hw.bound, hw.fresh, hw.dom, fun k B l hk hl => let ⟨a, b, c⟩ := hw.blk k B l hk hl; ⟨a, b, c⟩, hw.own, hw.inj⟩

theorem WRel.lt {F : Frm} {w0 w : World} {ρ : Ren} {h : Heap} (hw : WRel F w0 w ρ h) {k : Nat} {l : Loc} (hl : ρ k = some l) : k < h.next := by
  rcases Nat.lt_or_ge k h.next with h' | h'
  · exact h'
  · rw [hw.fresh k h'] at hl; cases hl

section load
variable {F : Frm} {w0 w : World} {ρ : Ren} {h : Heap} {k : Nat} {B : Blk} {l : Loc}

theorem BRel.cell (hb : BRel ρ w B l) {off : Nat} {v : AV} (hv : B.cells[off]? = some v) : ∃ v', w.cell? ⟨l.b, l.base + off, none⟩ = some v' ∧ VRel ρ v v' := by
  obtain ⟨⟨cs, fz, hc, hs, _, hr⟩, _, _⟩ := hb
  obtain ⟨v', h1, h2⟩ := hr.get hv
  refine ⟨v', ?_, h2⟩
  rw [List.getElem?_take] at h1
  split at h1
  · rw [List.getElem?_drop] at h1
    simpa [World.cell?, hc] using h1
  · cases h1

theorem BRel.range (hb : BRel ρ w B l) {off n : Nat} (hn : off + n ≤ B.cells.length) :
    ∃ cs : List Value, cs.length = n ∧ VsRel ρ ((B.cells.drop off).take n) cs ∧ ∀ j v, cs[j]? = some v → w.cell? ((⟨l.b, l.base + off, none⟩ : Addr).add j) = some v := by
  obtain ⟨⟨cs, fz, hc, hs, _, hr⟩, hf, _⟩ := hb
  refine ⟨(((cs.toList.drop l.base).take B.cells.length).drop off).take n, ?_, (hr.drop off).take n, ?_⟩
  · have hl := hr.length
    simp only [List.length_take, List.length_drop, Array.length_toList] at hl ⊢
    omega
  · intro j v hj
    rw [add_at]
    rw [List.getElem?_take] at hj
    split at hj
    · rw [List.getElem?_drop, List.getElem?_take] at hj
      split at hj
      · rw [List.getElem?_drop] at hj
        simpa [World.cell?, hc, Nat.add_assoc] using hj
      · cases hj
    · cases hj

theorem BRel.loadCells (P : Program) (hb : BRel ρ w B l) {off n : Nat} (hn : off + n ≤ B.cells.length) :
    ∃ cs : List Value, cs.length = n ∧ VsRel ρ ((B.cells.drop off).take n) cs ∧ (Go.loadCells ⟨l.b, l.base + off, none⟩ n).run P w = .ok cs.toArray w := by
  obtain ⟨cs, h1, h2, h3⟩ := hb.range hn
  refine ⟨cs, h1, h2, ?_⟩
  have := run_loadCells_list (P := P) w ⟨l.b, l.base + off, none⟩ cs h3
  rwa [h1] at this
end load

/-- cells are stored where none is frozen -/
theorem run_storeCells_free (P : Program) (g o : Nat) (t : TypeId) (fz : Nat × Nat) : ∀ (vs : List Value) (i : Nat) (cur : Array Value) (w : World),
    w.heap[g]? = some (.cells cur t fz) → (∀ j, j < cur.size → ¬ (fz.1 ≤ j ∧ j < fz.2)) → o + i + vs.length ≤ cur.size → (∀ v ∈ vs, v.oneCell' = true) →
    (storeCells ⟨g, o, none⟩ vs i).run P w = .ok () (w.setRow g (cur.toList.take (o + i) ++ vs ++ cur.toList.drop (o + i + vs.length)).toArray)
  | [], i, cur, w, hg, _, _, _ => by
    simp only [storeCells, List.append_nil, List.length_nil, Nat.add_zero, List.take_append_drop, Array.toArray_toList]
    rw [setRow_self w g cur t fz hg]
    rfl
  | v :: rest, i, cur, w, hg, hfz, hl, h1 => by
    have hi : o + i < cur.size := by simp at hl; omega
    have hcell : w.cell? ⟨g, o + i, none⟩ = some cur[o + i] := by simp [World.cell?, hg, hi]
    have hfro : w.frozen? ⟨g, o + i, none⟩ = false := by
      obtain ⟨lo, hi'⟩ := fz
      have := hfz (o + i) hi
      simp only [World.frozen?, hg, Bool.and_eq_false_iff, decide_eq_false_iff_not]
      simp only at this
      omega
    have hst : (store ((⟨g, o, none⟩ : Addr).add i) v).run P w = .ok () (w.setRow g (cur.setIfInBounds (o + i) v)) := by
      rw [add_at, run_store P w _ v _ (h1 v (by simp)), hcell]
      simp [hfro, setCell_eq_setRow w g (o + i) cur t fz v hg]
    have ih := run_storeCells_free P g o t fz rest (i + 1) (cur.setIfInBounds (o + i) v) (w.setRow g (cur.setIfInBounds (o + i) v)) (setRow_heap w g cur _ t _ hg) (by simpa using hfz) (by simp at hl ⊢; omega) (fun x hx => h1 x (by simp [hx]))
    simp only [storeCells, Sem.run_bind, hst, Result.andThen_ok, ih, setRow_setRow]
    congr 3
    have e := list_seg_step cur.toList (o + i) v rest (by simp at hl ⊢; omega)
    simpa [Array.toList_setIfInBounds, Nat.add_assoc] using e

theorem VsRel.one {ρ : Ren} : ∀ {l : List AV} {l' : List Value}, VsRel ρ l l' → l.all AV.oneCell = true → ∀ v ∈ l', v.oneCell' = true
  | _, _, .nil, _, v, hv => by simp at hv
  | _, _, .cons h t, ha, v, hv => by
    simp only [List.all_cons, Bool.and_eq_true] at ha
    rcases List.mem_cons.1 hv with rfl | hv
    · exact h.oneCell ha.1
    · exact t.one ha.2 v hv

def splice {α : Type} (l : List α) (off : Nat) (vs : List α) : List α := l.take off ++ (vs ++ l.drop (off + vs.length))

theorem splice_length {α : Type} {l : List α} {off : Nat} {vs : List α} (h : off + vs.length ≤ l.length) : (splice l off vs).length = l.length := by
  simp [splice]; omega

theorem fzFree {fz size : Nat} {r : Nat × Nat} (h : FzOk fz size r) (hf : fz < 2) : ∀ j, j < size → ¬ (r.1 ≤ j ∧ j < r.2) := by
  intro j hj
  match fz, h with
  | 0, h => simp only [FzOk] at h; subst h; simp
  | 1, h => simp only [FzOk] at h; rcases h with h | h <;> subst h <;> simp; omega
  | n + 2, _ => omega

theorem heap_setRow (w : World) (g k : Nat) (cs : Array Value) (h : k ≠ g) : (w.setRow g cs).heap[k]? = w.heap[k]? := setRow_other w g k cs h

section store
variable {F : Frm} {w0 w : World} {ρ : Ren} {h : Heap} {k : Nat} {B : Blk} {l : Loc}

/-- the cells of a block that is ours are set -/
theorem WRel.setRow (hw : WRel F w0 w ρ h) (hk : h.get k = some B) (hl : ρ k = some l) (hf : B.fz < 2) {cs : Array Value} {fz : Nat × Nat}
    (hc : w.heap[l.b]? = some (.cells cs B.elem fz)) {cs' : Array Value} {ncells : List AV}
    (hs : cs'.size = cs.size) (hlen : ncells.length = B.cells.length) (hr : VsRel ρ ncells ((cs'.toList.drop l.base).take ncells.length)) :
    WRel F w0 (w.setRow l.b cs') ρ (h.put k (some { B with cells := ncells })) := by
  have hkm : k < maxId := Nat.lt_of_lt_of_le (hw.lt hl) hw.bound
  have hF := hw.notin hk hl (by omega)
  refine ⟨hw.os, hw.tape, hw.output, by rw [setRow_size]; exact hw.size, ?_, hw.inold, hw.bound, hw.fresh, ?_, ?_, ?_, ?_⟩
  · intro b hb
    rw [heap_setRow w l.b b cs' (fun e => hF (e ▸ hb))]
    exact hw.old b hb
  · intro k' l' h'; rw [setRow_size]; exact hw.dom k' l' h'
  · intro k' B' l' h1 h2
    rw [Heap.get_put hkm] at h1
    split at h1
    · rename_i e
      subst e
      cases h1
      rw [hl] at h2; cases h2
      obtain ⟨⟨cs0, fz0, hc0, hs0, hz, _⟩, h3, h4⟩ := hw.blk k' B l hk hl
      rw [hc] at hc0; cases hc0
      refine ⟨⟨cs', fz, setRow_heap w l.b cs cs' B.elem fz hc, by rw [hs, hs0], hz, hr⟩, ?_, ?_⟩
      · simp only [hlen]; exact h3
      · simp only [hlen]; exact h4
    · rename_i hne
      have hb : l'.b ≠ l.b := fun e => hne (hw.inj k' B' l' k B l h1 h2 hk hl (.inr (by omega)) e)
      obtain ⟨⟨cs0, fz0, hc0, r⟩, h3, h4⟩ := hw.blk k' B' l' h1 h2
      exact ⟨⟨cs0, fz0, by rw [heap_setRow w l.b l'.b cs' hb]; exact hc0, r⟩, h3, h4⟩
  · intro k' B' l' h1 h2
    rw [Heap.get_put hkm] at h1
    split at h1
    · rename_i e; subst e; cases h1; rw [hl] at h2; cases h2; exact ⟨fun _ e => hF (.inl e), fun e => hF (.inr e)⟩
    · exact hw.own k' B' l' h1 h2
  · intro k1 B1 l1 k2 B2 l2 g1 r1 g2 r2 hz hbb
    rw [Heap.get_put hkm] at g1 g2
    split at g1 <;> split at g2
    · rename_i e1 e2; rw [e1, e2]
    · rename_i e1 e2; subst e1; cases g1; exact hw.inj k1 B l1 k2 B2 l2 hk r1 g2 r2 (.inl (by omega)) hbb
    · rename_i e1 e2; subst e2; cases g2; exact hw.inj k1 B1 l1 k2 B l2 g1 r1 hk r2 (.inr (by omega)) hbb
    · exact hw.inj k1 B1 l1 k2 B2 l2 g1 r1 g2 r2 hz hbb

theorem drop_splice (cs vs : List Value) (base off n : Nat) (h : base + n ≤ cs.length) (hv : off + vs.length ≤ n) :
    ((cs.take (base + off) ++ vs ++ cs.drop (base + off + vs.length)).drop base).take n = splice ((cs.drop base).take n) off vs := by
  apply List.ext_getElem?
  intro i
  simp only [splice, List.getElem?_take, List.getElem?_drop, List.getElem?_append, List.length_append, List.length_take, List.length_drop]
  by_cases h1 : i < n
  · simp only [h1, if_true]
    by_cases h2 : i < off
    · have e1 : base + i < min (base + off) cs.length + vs.length := by omega
      have e2 : base + i < min (base + off) cs.length := by omega
      have e3 : i < min off (min n (cs.length - base)) := by omega
      have e4 : base + i < base + off := by omega
      simp [e1, e2, e3, e4, h2]
    · by_cases h3 : i < off + vs.length
      · have e1 : base + i < min (base + off) cs.length + vs.length := by omega
        have e2 : ¬ base + i < min (base + off) cs.length := by omega
        have e3 : ¬ i < min off (min n (cs.length - base)) := by omega
        have e4 : i - min off (min n (cs.length - base)) < vs.length := by omega
        simp only [e1, e2, e3, e4, if_true, if_false]
        congr 1; omega
      · have e1 : ¬ base + i < min (base + off) cs.length + vs.length := by omega
        have e3 : ¬ i < min off (min n (cs.length - base)) := by omega
        have e4 : ¬ i - min off (min n (cs.length - base)) < vs.length := by omega
        have e5 : off + vs.length + (i - min off (min n (cs.length - base)) - vs.length) = i := by omega
        have e6 : base + off + vs.length + (base + i - (min (base + off) cs.length + vs.length)) = base + i := by omega
        simp only [e1, e3, e4, e5, e6, if_false, h1, if_true]
  · have e3 : min off (min n (cs.length - base)) = off := by omega
    have a1 : ¬ i < off := by omega
    have a2 : ¬ i - off < vs.length := by omega
    have a3 : ¬ off + vs.length + (i - off - vs.length) < n := by omega
    simp only [h1, e3, a1, a2, a3, if_false]

/-- values are stored in a block that is ours -/
theorem WRel.store (P : Program) (hw : WRel F w0 w ρ h) (hk : h.get k = some B) (hl : ρ k = some l) (hf : B.fz < 2) {off : Nat} {vs : List AV} {vs' : List Value}
    (hv : VsRel ρ vs vs') (h1 : vs.all AV.oneCell = true) (hn : off + vs.length ≤ B.cells.length) :
    ∃ w', (storeCells ⟨l.b, l.base + off, none⟩ vs').run P w = .ok () w' ∧ w'.heap.size = w.heap.size ∧
      WRel F w0 w' ρ (h.put k (some { B with cells := splice B.cells off vs })) := by
  have hb := hw.blk k B l hk hl
  obtain ⟨⟨cs, fz, hc, hs, hz, hr⟩, hfit, hex⟩ := hb
  have hlen := hv.length
  have hst := run_storeCells_free P l.b (l.base + off) B.elem fz vs' 0 cs w hc (by rw [hs]; exact fzFree hz hf) (by rw [← hlen, hs]; omega) (hv.one h1)
  refine ⟨_, hst, setRow_size _ _ _, ?_⟩
  refine hw.setRow hk hl hf hc ?_ (splice_length hn) ?_
  · simp only [List.size_toArray, List.length_append, List.length_take, List.length_drop, Array.length_toList]; rw [← hlen]; omega
  · rw [splice_length hn]
    simp only [Nat.add_zero]
    rw [drop_splice cs.toList vs' l.base off B.cells.length (by simp; omega) (by omega)]
    unfold splice
    rw [hlen]
    exact (hr.take off).append (hv.append (hr.drop _))
end store

/-! ## new blocks -/
def Ren.upd (ρ : Ren) (k : Nat) (l : Loc) : Ren := fun j => if j = k then some l else ρ j

theorem Ren.upd_sub {ρ : Ren} {k : Nat} {l : Loc} (h : ρ k = none) : Sub ρ (ρ.upd k l) := by
  intro j m hj
  unfold Ren.upd
  split
  · rename_i e; subst e; rw [h] at hj; cases hj
  · exact hj

theorem Ren.upd_self (ρ : Ren) (k : Nat) (l : Loc) : ρ.upd k l k = some l := by simp [Ren.upd]
theorem Ren.upd_agree {ρ : Ren} {k n : Nat} {l : Loc} (h : n ≤ k) : Agree n ρ (ρ.upd k l) := by
  intro j hj; unfold Ren.upd; rw [if_neg (by omega)]

theorem BRel.mono {ρ ρ' : Ren} {w w' : World} {B : Blk} {l : Loc} (hb : BRel ρ w B l) (hs : Sub ρ ρ') (hh : w'.heap[l.b]? = w.heap[l.b]?) : BRel ρ' w' B l := by
  obtain ⟨⟨cs, fz, hc, h1, h2, h3⟩, h4, h5⟩ := hb
  exact ⟨⟨cs, fz, hh.trans hc, h1, h2, h3.mono hs⟩, h4, h5⟩

theorem WRel.new {F : Frm} {w0 w : World} {ρ : Ren} {h : Heap} (hw : WRel F w0 w ρ h) {k n : Nat} (hk : ρ k = none) (hkn : k < n) (hn : h.next ≤ n) (hm : n ≤ maxId)
    {B : Blk} {cs : Array Value} {fz : Nat × Nat} (hr : VsRel ρ B.cells (cs.toList.take B.cells.length)) (hl : B.cells.length ≤ cs.size)
    (he : B.exact = true → cs.size = B.cells.length) (hz : FzOk B.fz cs.size fz) :
    WRel F w0 { w with heap := w.heap.push (.cells cs B.elem fz) } (ρ.upd k ⟨w.heap.size, 0, cs.size⟩) { h.put k (some B) with next := n } := by
  have hsub := Ren.upd_sub (l := ⟨w.heap.size, 0, cs.size⟩) hk
  have hkm : k < maxId := by omega
  have hold : ∀ b, b < w.heap.size → (w.heap.push (.cells cs B.elem fz))[b]? = w.heap[b]? := fun b hb => by
    rw [Array.getElem?_push, if_neg (by omega)]
  have hget : ∀ j, ({ h.put k (some B) with next := n } : Heap).get j = if j = k then some B else h.get j := fun j => Heap.get_put hkm j
  refine ⟨hw.os, hw.tape, hw.output, by simp; have := hw.size; omega, ?_, hw.inold, hm, ?_, ?_, ?_, ?_, ?_⟩
  · intro b hb
    rw [hold b (Nat.lt_of_lt_of_le (hw.inold b hb) hw.size)]; exact hw.old b hb
  · intro j hj
    simp only at hj
    unfold Ren.upd; rw [if_neg (by omega)]; exact hw.fresh j (by omega)
  · intro j l hj
    simp only [Array.size_push]
    unfold Ren.upd at hj
    split at hj
    · cases hj; simp
    · have := hw.dom j l hj; omega
  · intro j B' l hj hl'
    rw [hget] at hj
    unfold Ren.upd at hl'
    split at hj
    · rename_i e; subst e; cases hj
      rw [if_pos rfl] at hl'; cases hl'
      refine ⟨⟨cs, fz, by simp, rfl, hz, ?_⟩, by simpa using hl, ?_⟩
      · simpa using hr.mono hsub
      · intro h; simpa using he h
    · rename_i e
      rw [if_neg e] at hl'
      exact (hw.blk j B' l hj hl').mono hsub (hold _ (hw.dom j l hl'))
  · intro j B' l hj hl'
    rw [hget] at hj
    unfold Ren.upd at hl'
    split at hj
    · rename_i e; subst e
      rw [if_pos rfl] at hl'; cases hl'
      have h1 : ∀ b, F.any b → b < w.heap.size := fun b hb => Nat.lt_of_lt_of_le (hw.inold _ hb) hw.size
      exact ⟨fun _ e => Nat.lt_irrefl _ (h1 _ (.inl e)), fun e => Nat.lt_irrefl _ (h1 _ (.inr e))⟩
    · rename_i e
      rw [if_neg e] at hl'
      exact hw.own j B' l hj hl'
  · intro k1 B1 l1 k2 B2 l2 g1 r1 g2 r2 hz hbb
    rw [hget] at g1 g2
    unfold Ren.upd at r1 r2
    split at g1 <;> split at g2
    · rename_i e1 e2; rw [e1, e2]
    · rename_i e1 e2
      subst e1
      rw [if_pos rfl] at r1; rw [if_neg e2] at r2; cases r1
      have := hw.dom k2 l2 r2
      simp only at hbb; omega
    · rename_i e1 e2
      subst e2
      rw [if_pos rfl] at r2; rw [if_neg e1] at r1; cases r2
      have := hw.dom k1 l1 r1
      simp only at hbb; omega
    · rename_i e1 e2
      rw [if_neg e1] at r1; rw [if_neg e2] at r2
      exact hw.inj k1 B1 l1 k2 B2 l2 g1 r1 g2 r2 hz hbb

end Go.Ev
