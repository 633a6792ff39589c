/- Conversions, assertions, and the built-in functions. -/
import Derived.Test.YtcdcllmmkimbfaaGreatDoorEv6
import Derived.Laws.Externs
set_option linter.unusedSimpArgs false
set_option linter.unusedVariables false
namespace Go.Ev

section
variable {P : Program} {F : Frm} {w0 w : World} {ρ : Ren} {h : Heap}

/-! ## bytes and strings -/
theorem bytesA_rel : ∀ {cs : List AV} {cs' : List Value} {s : List Nat}, VsRel ρ cs cs' → bytesA cs = some s →
    ∃ ns : List Int, cs' = ns.map (Value.int .u8) ∧ (∀ n ∈ ns, 0 ≤ n ∧ n < 256) ∧ s = ns.map Int.toNat
  | [], cs', s, hr, hb => by
    simp only [bytesA] at hb; cases hb; cases hr
    exact ⟨[], rfl, by simp, rfl⟩
  | c :: cs, cs', s, hr, hb => by
    unfold bytesA at hb
    split at hb
    · rename_i heq; cases heq
    · rename_i n l heq
      cases heq
      split at hb
      · rename_i hn
        split at hb
        · rename_i r hr2
          cases hb
          cases hr with
          | cons h t =>
            cases h
            obtain ⟨ns, h1, h2, h3⟩ := bytesA_rel t hr2
            refine ⟨(n : Int) :: ns, by simp [h1], ?_, by simp [h3]⟩
            intro m hm
            rcases List.mem_cons.1 hm with rfl | hm
            · simp at hn; omega
            · exact h2 m hm
        · cases hb
      · cases hb
    · cases hb

theorem foldl_push (ns : List Int) : ∀ (s : ByteArray), (∀ n ∈ ns, 0 ≤ n ∧ n < 256) →
    bytesOf (ns.foldl (fun r n => r.push (UInt8.ofNat n.toNat)) s) = bytesOf s ++ ns.map Int.toNat := by
  induction ns with
  | nil => intro s _; simp
  | cons n ns ih =>
    intro s hn
    simp only [List.foldl_cons]
    rw [ih _ (fun m hm => hn m (List.mem_cons_of_mem _ hm))]
    have h1 := hn n (List.mem_cons_self)
    have h2 : bytesOf (s.push (UInt8.ofNat n.toNat)) = bytesOf s ++ [n.toNat] := by
      obtain ⟨⟨l⟩⟩ := s
      have : (n.toNat) % 256 = n.toNat := Nat.mod_eq_of_lt (by omega)
      simp [bytesOf, ByteArray.push, UInt8.toNat_ofNat', this]
    rw [h2]; simp

theorem bytesOf_empty : bytesOf ByteArray.empty = [] := rfl

theorem bytesOf_mk (l : List UInt8) : bytesOf ⟨l.toArray⟩ = l.map UInt8.toNat := by simp [bytesOf]

theorem cellsOfBytes_rel (s : ByteArray) : VsRel ρ (cellsOfBytes (bytesOf s)) (s.data.map fun b => Value.int .u8 b.toNat).toList := by
  obtain ⟨⟨l⟩⟩ := s
  simp only [bytesOf, cellsOfBytes, List.map_map, Array.toList_map]
  induction l with
  | nil => exact .nil
  | cons a l ih => exact .cons (.int _ _) ih

theorem cellsOfBytes_one (s : List Nat) : (cellsOfBytes s).all AV.oneCell = true := by
  simp [cellsOfBytes, AV.oneCell]

theorem cellsOfBytes_length (s : List Nat) : (cellsOfBytes s).length = s.length := by simp [cellsOfBytes]

theorem cut_cap (need old : Nat) (e : TypeId) (t : Nat) : need ≤ (Question.appendCap need old e).cut t := by
  simp [Question.cut]

theorem bytesToString_ok (hw : WRel F w0 w ρ h) {k off len : Nat} {B : Blk} {l : Loc} {cap : Nat} (hB : h.get k = some B) (hl : ρ k = some l) (hle : off + len ≤ B.cells.length) {s : List Nat}
    (hs : bytesA ((B.cells.drop off).take len) = some s) :
    ∃ s', (Conv.bytesToString (.slice (some ⟨l.b, l.base + off, none⟩) len cap)).run P w = .ok (.string s') w ∧ bytesOf s' = s := by
  obtain ⟨cs, h1, h2, h3⟩ := (hw.blk k B l hB hl).loadCells P (off := off) (n := len) hle
  obtain ⟨ns, n1, n2, n3⟩ := bytesA_rel h2 hs
  rw [n1] at h3
  refine ⟨_, run_bytesToString w _ len cap ns h3, ?_⟩
  rw [foldl_push ns _ n2, n3]; rfl

theorem heap_put_next (h : Heap) (k : Nat) (B : Option Blk) (n : Nat) : ({ h.put k B with next := n } : Heap).next = n := rfl

theorem modify_push (a : Array Obj) (o : Obj) (f : Obj → Obj) : (a.push o).modify a.size f = a.push (f o) := by
  apply Array.ext_getElem?
  intro i
  simp only [Array.getElem?_modify, Array.getElem?_push]
  by_cases hi : i = a.size
  · subst hi; simp
  · have hne : ¬ a.size = i := fun e => hi e.symm
    simp [hi, hne]

theorem stringToBytes_ok (hw : WRel F w0 w ρ h) (hn : h.next < maxId) (e : TypeId) (s : ByteArray) :
    ROk P F w0 w ρ h (.eff (.slo h.next 0 (bytesOf s).length 1) { h.put h.next (some ⟨e, false, 1, cellsOfBytes (bytesOf s)⟩) with next := h.next + 1 })
      ((do pure (Next.value (← Conv.stringToBytes e s)) : Sem Next).run P w) := by
  have hcap := cut_cap s.size 0 e (w.tape w.drawn (.appendCap s.size 0 e))
  generalize hc : (Question.appendCap s.size 0 e).cut (w.tape w.drawn (.appendCap s.size 0 e)) = cap at hcap
  let cs : Array Value := (s.data.map fun b => Value.int .u8 b.toNat) ++ Array.replicate (cap - s.size) (.int .u8 0)
  have hcs : cs.size = cap := by
    simp only [cs, Array.size_append, Array.size_map, Array.size_replicate]
    have : s.data.size = s.size := rfl
    omega
  have hd := hw.drew (w.drawn + 1)
  have hlen : (cellsOfBytes (bytesOf s)).length = s.size := by rw [cellsOfBytes_length, bytes_length]
  have hnew := hd.new (k := h.next) (n := h.next + 1) (B := ⟨e, false, 1, cellsOfBytes (bytesOf s)⟩) (cs := cs) (fz := (cap, cap + 1))
    (hw.fresh _ (Nat.le_refl _)) (by omega) (by omega) (by omega)
    (by
      have := cellsOfBytes_rel (ρ := ρ) s
      have e2 : cs.toList.take (cellsOfBytes (bytesOf s)).length = (s.data.map fun b => Value.int .u8 b.toNat).toList := by
        rw [hlen]
        simp only [cs, Array.toList_append]
        rw [List.take_left' (by simp)]
      simp only [e2]; exact this)
    (by simp only [hlen, hcs]; exact hcap) (by simp) (.inr (by rw [hcs]))
  refine ⟨_, _, _, _, run_v (w' := { { w with drawn := w.drawn + 1 } with heap := w.heap.push (.cells cs e (cap, cap + 1)) }) (v := .slice (some ⟨w.heap.size, 0, none⟩) s.size cap) ?_, .inl rfl, ?_, hnew, Ren.upd_agree (Nat.le_refl _), by simp [heap_put_next], by simp⟩
  · have hf : (Question.appendCap s.size 0 e).forced = false := rfl
    have hms : (markStringish ⟨w.heap.size, 0, none⟩).run P { { w with drawn := w.drawn + 1 } with heap := w.heap.push (.cells cs e (0, 0)) } =
        .ok () { { w with drawn := w.drawn + 1 } with heap := w.heap.push (.cells cs e (cap, cap + 1)) } := by
      simp only [markStringish, Sem.run_bind, run_shape, World.shape?, Array.getElem?_push_size, Result.andThen_ok, hcs, run_freeze, World.freeze]
      simp [modify_push]
    simp only [Conv.stringToBytes, Sem.run_bind, run_choose, hf, Bool.false_eq_true, if_false, hc, Result.andThen_ok, newRow, run_newObj, Sem.run_pure]
    have hms' := hms
    simp only [cs] at hms'
    simp only [hms', Result.andThen_ok, Sem.run_pure]
    rfl
  · have := VRel.slo (ρ := ρ.upd h.next ⟨w.heap.size, 0, cs.size⟩) (off := 0) (len := s.size) (es := 1) (cap := cap) (Ren.upd_self _ _ _) hcap (by simp [hcs])
    rw [bytes_length]; simpa using this

theorem shape_of (hw : WRel F w0 w ρ h) {k : Nat} {B : Blk} {l : Loc} (hB : h.get k = some B) (hl : ρ k = some l) : w.shape? l.b = some (B.elem, l.size) := by
  obtain ⟨⟨cs, fz, hc, hs, _, _⟩, _, _⟩ := hw.blk k B l hB hl
  simp [World.shape?, hc, hs]

theorem toUnsafe_ok (hw : WRel F w0 w ρ h) {src dst t : TypeId} {k off n : Nat} {B : Blk} {l : Loc} (h1 : P.underlying src = some (.pointer t)) (h2 : P.underlying dst = some .unsafePointer)
    (hn : szA P t = some n) (hB : h.get k = some B) (hl : ρ k = some l) (h3 : 0 < n) (h4 : off < B.cells.length) :
    (convert src dst (.pointer (some ⟨l.b, l.base + off, none⟩))).run P w = .ok (.pointer (some ⟨l.b, l.base + off, none⟩)) w := by
  have hsh := shape_of hw hB hl
  have hfit := (hw.blk k B l hB hl).fits
  have e1 : ¬ l.base + off ≥ l.size := by omega
  have e2 : ¬ n = 0 := by omega
  have hv : (viewAt l.b).run P w = .ok none w := by simp [viewAt, hsh]
  have hse : (Conv.seenAt ⟨l.b, l.base + off, none⟩).run P w = .ok ⟨l.b, l.base + off, none⟩ w := by simp [Conv.seenAt, hv]
  have hci : (cellsIn l.b).run P w = .ok (some l.size) w := by simp [cellsIn, hsh]
  simp only [convert, Sem.run_bind, run_underlying h1, run_underlying h2, Result.andThen_ok, Conv.unsafePointer, hse, hci, sizeOf_run hn]
  simp [e1, e2]

theorem vars_one {e : TypeId} {n off sz : Nat} {a : Addr} (hn : P.cellsOf e = n) (h0 : 0 < n) (ho : off % n = 0) (hle : off + n ≤ sz) (ha : a.off = off) (hsh : w.shape? a.block = some (e, sz)) :
    (variablesAt a e 1).run P w = .ok true w := by
  have hdiv : off / n + 1 ≤ sz / n := by
    have h1 : (off + n) / n ≤ sz / n := Nat.div_le_div_right hle
    rw [Nat.add_div_right _ h0] at h1
    exact h1
  have hrow : rowAt P (sameLayout P P.depth · e) P.depth e (sz / P.cellsOf e) off 1 = true := by
    rw [show P.depth = (2 * (P.types.size + Made.depth) + 1) + 1 from rfl]
    have h0' : ¬ n = 0 := by omega
    simp only [rowAt, hn, h0', if_false, ho]
    simp [sameLayout, hdiv]
  have hli : ∀ d, liesAt P (d + 1) e (sz / P.cellsOf e) off e 1 = true := by
    intro d
    simp only [liesAt, hrow, Bool.true_or]
  have hli := hli (2 * (P.types.size + Made.depth) + 1)
  rw [show (2 * (P.types.size + Made.depth) + 1) + 1 = P.depth from rfl] at hli
  simp [variablesAt, hsh, ha, hli]

theorem ofUnsafe_ok (hw : WRel F w0 w ρ h) {src dst u : TypeId} {k off n : Nat} {B : Blk} {l : Loc} (h1 : P.underlying src = some .unsafePointer) (h2 : P.underlying dst = some (.pointer u))
    (hn : szA P u = some n) (hB : h.get k = some B) (hl : ρ k = some l) (h3 : 0 < n) (h4 : B.exact = true) (h5 : B.elem = u) (h6 : off % n = 0) (h7 : off + n ≤ B.cells.length) :
    (convert src dst (.pointer (some ⟨l.b, l.base + off, none⟩))).run P w = .ok (.pointer (some ⟨l.b, l.base + off, none⟩)) w := by
  have hsh := shape_of hw hB hl
  rw [h5] at hsh
  obtain ⟨hb, hs⟩ := (hw.blk k B l hB hl).exact h4
  have hv : (viewAt l.b).run P w = .ok none w := by simp [viewAt, hsh]
  have hse : (Conv.seenAt ⟨l.b, l.base + off, none⟩).run P w = .ok ⟨l.b, l.base + off, none⟩ w := by simp [Conv.seenAt, hv]
  have hcn : P.cellsOf u = n := by
    obtain ⟨i, hi, hi1⟩ := szA_info hn
    simp [Program.cellsOf, hi, hi1]
  have hva := vars_one (P := P) (w := w) (a := ⟨l.b, l.base + off, none⟩) hcn h3 h6 (by rw [hs]; exact h7) (by simp [hb]) hsh
  have e2 : ¬ n = 0 := by omega
  simp only [convert, Sem.run_bind, run_underlying h1, run_underlying h2, Result.andThen_ok, Conv.unsafePointer, hse, sizeOf_run hn, hva]
  simp [e2]

theorem mark_rel (hw : WRel F w0 w ρ h) {k : Nat} {B : Blk} {l : Loc} (hB : h.get k = some B) (hl : ρ k = some l) (hf : B.fz < 2) (off : Nat) :
    ∃ w', (markStringish ⟨l.b, off, none⟩).run P w = .ok () w' ∧ w'.heap.size = w.heap.size ∧ WRel F w0 w' ρ (h.put k (some { B with fz := 1 })) := by
  have hkm : k < maxId := Nat.lt_of_lt_of_le (hw.lt hl) hw.bound
  have hF := hw.notin hB hl (by omega)
  have hsh := shape_of hw hB hl
  let w' := w.freeze ⟨l.b, l.size, none⟩ 1
  have hfz : w' = { w with heap := w.heap.modify l.b fun
      | .cells c elem (lo, hi) => .cells c elem (if lo == hi then (l.size, l.size + 1) else (min lo l.size, max hi (l.size + 1)))
      | o => o } := rfl
  have hsz : w'.heap.size = w.heap.size := by rw [hfz]; simp
  have hother : ∀ b, b ≠ l.b → w'.heap[b]? = w.heap[b]? := by
    intro b hb
    rw [hfz]
    simp only [Array.getElem?_modify]
    rw [if_neg (fun e => hb e.symm)]
  obtain ⟨⟨cs, fz, hc, h2, h3, h4⟩, h5, h6⟩ := hw.blk k B l hB hl
  have hnew : w'.heap[l.b]? = some (.cells cs B.elem (l.size, l.size + 1)) := by
    rw [hfz]
    simp only [Array.getElem?_modify, if_true, hc, Option.map_some]
    have : fz = (0, 0) ∨ fz = (l.size, l.size + 1) := by
      match hq : B.fz, h3 with
      | 0, h3 => exact .inl h3
      | 1, h3 => exact h3
      | n + 2, _ => omega
    rcases this with rfl | rfl
    · simp
    · simp
  refine ⟨w', by simp [markStringish, hsh]; rfl, hsz, hw.os, hw.tape, hw.output, by rw [hsz]; exact hw.size, ?_, hw.inold, hw.bound, hw.fresh, ?_, ?_, ?_, ?_⟩
  · intro b hb; rw [hother b (fun e => hF (e ▸ hb))]; exact hw.old b hb
  · intro j m hj; rw [hsz]; exact hw.dom j m hj
  · intro j B' m hj hm
    rw [Heap.get_put hkm] at hj
    split at hj
    · rename_i e; subst e; cases hj
      rw [hl] at hm; cases hm
      exact ⟨⟨cs, _, hnew, h2, .inr rfl, h4⟩, h5, h6⟩
    · rename_i e
      obtain ⟨⟨cs2, fz2, hc2, k2, k3, k4⟩, k5, k6⟩ := hw.blk j B' m hj hm
      have hb : m.b ≠ l.b := fun hb => e (hw.inj j B' m k B l hj hm hB hl (.inr (by omega)) hb)
      exact ⟨⟨cs2, fz2, by rw [hother m.b hb]; exact hc2, k2, k3, k4⟩, k5, k6⟩
  · intro j B' m hj hm
    rw [Heap.get_put hkm] at hj
    split at hj
    · rename_i e; subst e; cases hj; rw [hl] at hm; cases hm; exact ⟨fun _ e => hF (.inl e), fun e => hF (.inr e)⟩
    · exact hw.own j B' m hj hm
  · intro k1 B1 l1 k2 B2 l2 q1 q2 q3 q4 hz hbb
    rw [Heap.get_put hkm] at q1 q3
    split at q1 <;> split at q3
    · rename_i a1 a2; rw [a1, a2]
    · rename_i a1 a2; subst a1; exact hw.inj k1 B l1 k2 B2 l2 hB q2 q3 q4 (.inl (by omega)) hbb
    · rename_i a1 a2; subst a2; exact hw.inj k1 B1 l1 k2 B l2 q1 q2 hB q4 (.inr (by omega)) hbb
    · exact hw.inj k1 B1 l1 k2 B2 l2 q1 q2 q3 q4 hz hbb

theorem convert_ok (hw : WRel F w0 w ρ h) (hn : h.next < maxId) {src dst : TypeId} {x : AV} {x' : Value} {r : OR} (hx : VRel ρ x x') (hr : evConvert P h src dst x = some r) :
    ROk P F w0 w ρ h r ((do pure (Next.value (← convert src dst x')) : Sem Next).run P w) := by
  unfold evConvert at hr
  split at hr
  · rename_i k1 k2 k3 n h1 h2
    cases hr; cases hx
    exact val_ok ⟨_, by simp [convert, run_underlying h1, run_underlying h2, Conv.intToInt, wrapF_eq]; rfl, by rw [wrapF_eq]; exact .int _ _⟩
  · rename_i s h1 h2
    cases hr
    exact val_ok ⟨x', by cases hx; simp [convert, run_underlying h1, run_underlying h2], hx⟩
  · rename_i t k off h1 h2
    split at hr
    · rename_i n B hn hB
      split at hr
      · rename_i hc
        simp only [Bool.and_eq_true, Nat.blt_eq] at hc
        cases hr
        cases hx with
        | ptr hl => exact val_ok ⟨_, toUnsafe_ok hw h1 h2 hn hB hl hc.1 hc.2, .ptr hl⟩
      · cases hr
    · cases hr
  · rename_i u k off h1 h2
    split at hr
    · rename_i n B hn hB
      split at hr
      · rename_i hc
        simp only [Bool.and_eq_true, Nat.blt_eq, Nat.beq_eq, Nat.ble_eq] at hc
        obtain ⟨c1, c2, c3, c4, c5⟩ := hc
        cases hr
        cases hx with
        | ptr hl => exact val_ok ⟨_, ofUnsafe_ok hw h1 h2 hn hB hl c1 c2 c3 c4 c5, .ptr hl⟩
      · cases hr
    · cases hr
  · rename_i e s h1 h2
    split at hr
    · rename_i h3
      cases hr
      cases hx with
      | str s' =>
        have := stringToBytes_ok (P := P) hw hn e s'
        have hc : (convert src dst (.string s')).run P w = (Conv.stringToBytes e s').run P w := by simp [convert, run_underlying h1, run_underlying h2, run_underlying h3]
        simp only [Sem.run_bind, hc] at this ⊢
        exact this
    · cases hr
  · rename_i e0 e k off len cap h1 h2
    split at hr
    · rename_i B h3 hB
      split at hr
      · rename_i hc
        simp only [Bool.and_eq_true, Nat.blt_eq, Nat.beq_eq] at hc
        cases hr
        cases hx with
        | sl hl =>
          rename_i l
          obtain ⟨w', m1, m2, m3⟩ := mark_rel (P := P) hw hB hl hc.2 (l.base + off)
          refine ⟨ρ, _, w', _, run_v (v := .slice (some ⟨l.b, l.base + off, none⟩) len cap) ?_, .inl rfl, .sl hl, m3, Agree.refl _ _, Nat.le_refl _, by omega⟩
          have hsd : (src == dst) = true := by simpa using hc.1
          simp [convert, run_underlying h1, run_underlying h2, run_underlying h3, hsd, m1]
      · cases hr
    · cases hr
  · rename_i e0 e k off len es h1 h2
    split at hr
    · rename_i B h3 hB
      split at hr
      · rename_i hc
        simp only [Bool.and_eq_true, Nat.blt_eq, Nat.beq_eq] at hc
        cases hr
        cases hx with
        | slo hl g1 g2 =>
          rename_i cap l
          obtain ⟨w', m1, m2, m3⟩ := mark_rel (P := P) hw hB hl hc.2 (l.base + off)
          refine ⟨ρ, _, w', _, run_v (v := .slice (some ⟨l.b, l.base + off, none⟩) len cap) ?_, .inl rfl, .slo hl g1 g2, m3, Agree.refl _ _, Nat.le_refl _, by omega⟩
          have hsd : (src == dst) = true := by simpa using hc.1
          simp [convert, run_underlying h1, run_underlying h2, run_underlying h3, hsd, m1]
      · cases hr
    · cases hr
  · rename_i e h1 h2
    split at hr
    · rename_i h3
      cases hr; cases hx
      refine val_ok ⟨.string .empty, ?_, VRel.str (ρ := ρ) ByteArray.empty⟩
      rw [run_convert_bytes_string w src dst e none 0 0 h1 h3 h2]
      simp [Conv.bytesToString]
    · cases hr
  · rename_i e k off len cap h1 h2
    split at hr
    · rename_i B h3 hB
      split at hr
      · rename_i hle
        split at hr
        · rename_i s hs
          cases hr
          cases hx with
          | sl hl =>
            obtain ⟨s', g1, g2⟩ := bytesToString_ok (P := P) (cap := cap) hw hB hl (by simpa using hle) hs
            refine val_ok ⟨.string s', ?_, by rw [← g2]; exact .str _⟩
            rw [run_convert_bytes_string w src dst e _ _ _ h1 h3 h2]; exact g1
        · cases hr
      · cases hr
    · cases hr
  · rename_i e k off len es h1 h2
    split at hr
    · rename_i B h3 hB
      split at hr
      · rename_i hle
        split at hr
        · rename_i s hs
          cases hr
          cases hx with
          | slo hl g h4 =>
            rename_i cap l
            obtain ⟨s', g1, g2⟩ := bytesToString_ok (P := P) (cap := cap) hw hB hl (by simpa using hle) hs
            refine val_ok ⟨.string s', ?_, by rw [← g2]; exact .str _⟩
            rw [run_convert_bytes_string w src dst e _ _ _ h1 h3 h2]; exact g1
        · cases hr
      · cases hr
    · cases hr
  · cases hr

theorem assert_ok {x v : AV} {x' : Value} {xt ty : TypeId} {ok : Bool} (hx : VRel ρ x x') (hr : evAssert P x ty ok = some v) :
    ∃ v', (Instr.typeAssert x' xt ty ok).run P w = .ok v' w ∧ VRel ρ v v' := by
  unfold evAssert at hr
  split at hr
  · cases hr
  · rename_i d t u hne hd
    split at hr
    · rename_i ht
      have ht' : t = ty := by simpa [Nat.beq_eq] using ht
      subst ht'
      cases hr
      cases hx with
      | iface hv =>
        rename_i v'
        have hna : ∀ ms, d ≠ .interface ms := fun ms e => by subst e; exact hne _ rfl
        refine ⟨if ok then .tuple #[v', .bool true] else v', ?_, ?_⟩
        · simp only [Instr.typeAssert, Sem.run_bind, run_underlying hd, Result.andThen_ok]
          cases d <;> first
            | (exact absurd rfl (hna _))
            | (simp; split <;> rfl)
            | simp
        · split
          · exact .tup (.cons hv (.cons (.bool true) .nil))
          · exact hv
    · cases hr
  · cases hr

/-! ## len, cap, min, max -/
theorem arr0 {α : Type} {a : Array α} {x : α} {l : List α} (h : a.toList = x :: l) : a[0]? = some x := by
  rw [← Array.getElem?_toList, h]; rfl
theorem arr1 {α : Type} {a : Array α} {x y : α} {l : List α} (h : a.toList = x :: y :: l) : a[1]? = some y := by
  rw [← Array.getElem?_toList, h]; rfl

theorem len_ok {t ty : TypeId} {ts : Array TypeId} {args' : Array Value} {x v : AV} {x' : Value} {l : List TypeId} {l' : List Value} (ht : ts.toList = t :: l) (ha : args'.toList = x' :: l')
    (hx : VRel ρ x x') (hr : lenA P t x = some v) : ∃ v', (Builtin.len_ ts ty args').run P w = .ok v' w ∧ VRel ρ v v' := by
  have h1 := arr0 ht; have h2 := arr0 ha
  unfold lenA at hr
  split at hr
  · rename_i s hd
    cases hr
    cases hx with
    | str s => exact ⟨_, by simp [Builtin.len_, h1, h2, run_underlying hd]; rfl, by rw [bytes_length]; exact .int _ _⟩
  · rename_i n e hd
    cases hr
    exact ⟨goInt n, by simp [Builtin.len_, h1, h2, run_underlying hd], .int _ _⟩
  · rename_i hd; cases hr; cases hx; exact ⟨_, by simp [Builtin.len_, h1, h2, run_underlying hd]; rfl, .int _ _⟩
  · rename_i hd; cases hr; cases hx; exact ⟨_, by simp [Builtin.len_, h1, h2, run_underlying hd]; rfl, .int _ _⟩
  · rename_i hd; cases hr; cases hx; exact ⟨_, by simp [Builtin.len_, h1, h2, run_underlying hd]; rfl, .int _ _⟩
  · rename_i hd; cases hr; cases hx; exact ⟨_, by simp [Builtin.len_, h1, h2, run_underlying hd]; rfl, .int _ _⟩
  · cases hr

theorem cap_ok {t ty : TypeId} {ts : Array TypeId} {args' : Array Value} {x v : AV} {x' : Value} {l : List TypeId} {l' : List Value} (ht : ts.toList = t :: l) (ha : args'.toList = x' :: l')
    (hx : VRel ρ x x') (hr : capA P t x = some v) : ∃ v', (Builtin.cap_ ts ty args').run P w = .ok v' w ∧ VRel ρ v v' := by
  have h1 := arr0 ht; have h2 := arr0 ha
  unfold capA at hr
  split at hr
  · rename_i hd; cases hr; cases hx; exact ⟨_, by simp [Builtin.cap_, h1, h2, run_underlying hd]; rfl, .int _ _⟩
  · rename_i hd; cases hr; cases hx; exact ⟨_, by simp [Builtin.cap_, h1, h2, run_underlying hd]; rfl, .int _ _⟩
  · cases hr

theorem min2_ok {x y v : AV} {x' y' : Value} (hx : VRel ρ x x') (hy : VRel ρ y y') (hr : minA x y = some v) : ∃ v', (Builtin.min2 x' y').run P w = .ok v' w ∧ VRel ρ v v' := by
  unfold minA at hr
  split at hr
  · cases hr; cases hx; cases hy; refine ⟨_, ?_, .int _ _⟩; simp [Builtin.min2]
  · cases hr

theorem max2_ok {x y v : AV} {x' y' : Value} (hx : VRel ρ x x') (hy : VRel ρ y y') (hr : maxA x y = some v) : ∃ v', (Builtin.max2 x' y').run P w = .ok v' w ∧ VRel ρ v v' := by
  unfold maxA at hr
  split at hr
  · cases hr; cases hx; cases hy; refine ⟨_, ?_, .int _ _⟩; simp [Builtin.max2]
  · cases hr

theorem fold_ok (f : AV → AV → Option AV) (g : Value → Value → Sem Value)
    (hf : ∀ {x y v : AV} {x' y' : Value}, VRel ρ x x' → VRel ρ y y' → f x y = some v → ∃ v', (g x' y').run P w = .ok v' w ∧ VRel ρ v v') :
    ∀ {l : List AV} {l' : List Value} {x v : AV} {x' : Value}, VRel ρ x x' → VsRel ρ l l' → foldA f x l = some v → ∃ v', (l'.foldlM g x').run P w = .ok v' w ∧ VRel ρ v v'
  | _, _, x, v, x', hx, .nil, hr => by simp only [foldA] at hr; cases hr; exact ⟨x', rfl, hx⟩
  | _, _, x, v, x', hx, .cons h t, hr => by
    simp only [foldA] at hr
    split at hr
    · rename_i z hz
      obtain ⟨z', z1, z2⟩ := hf hx h hz
      obtain ⟨v', v1, v2⟩ := fold_ok f g hf z2 t hr
      exact ⟨v', by simp only [List.foldlM_cons, Sem.run_bind, z1, Result.andThen_ok, v1], v2⟩
    · cases hr

/-! ## append and copy -/
theorem lenOf_ok {x : AV} {x' : Value} {n : Nat} (hx : VRel ρ x x') (hr : lenOfA x = some n) : (Builtin.lenOf x').run P w = .ok n w := by
  unfold lenOfA at hr
  split at hr
  · cases hr; cases hx; rfl
  · cases hr; cases hx; rfl
  · cases hr
    cases hx with
    | str s => rw [bytes_length]; rfl
  · cases hr; cases hx; rfl
  · cases hr; cases hx; rfl
  · cases hr

theorem read_ok (hw : WRel F w0 w ρ h) {x : AV} {x' : Value} {n c : Nat} {cs : List AV} (hx : VRel ρ x x') (hr : readA h n c x = some cs) :
    ∃ cs', (Builtin.firstCells c n x').run P w = .ok cs' w ∧ VsRel ρ cs cs'.toList := by
  unfold readA at hr
  split at hr
  · cases hr; cases hx; exact ⟨#[], rfl, .nil⟩
  · split at hr
    · rename_i hn
      have hn' : n = 0 := by simpa [Nat.beq_eq] using hn
      subst hn'
      cases hr; cases hx
      exact ⟨#[], by simp [Builtin.firstCells, loadCells, loadCellsFrom], .nil⟩
    · cases hr
  · cases hr
    cases hx with
    | str s =>
      refine ⟨_, rfl, ?_⟩
      have : (bytesOf s).take n = bytesOf (s.extract 0 n) := by rw [bytes_extract]; simp
      rw [this]; exact cellsOfBytes_rel _
  · rename_i k off len cap
    split at hr
    · rename_i B hB
      split at hr
      · rename_i hle
        cases hr
        cases hx with
        | sl hl =>
          obtain ⟨cs, h1, h2, h3⟩ := (hw.blk k B _ hB hl).loadCells P (off := off) (n := n * c) (by simpa using hle)
          exact ⟨cs.toArray, by simp [Builtin.firstCells, h3], by simpa using h2⟩
      · cases hr
    · cases hr
  · rename_i k off len es
    split at hr
    · rename_i B hB
      split at hr
      · rename_i hle
        cases hr
        cases hx with
        | slo hl h4 h5 =>
          obtain ⟨cs, h1, h2, h3⟩ := (hw.blk k B _ hB hl).loadCells P (off := off) (n := n * c) (by simpa using hle)
          exact ⟨cs.toArray, by simp [Builtin.firstCells, h3], by simpa using h2⟩
      · cases hr
    · cases hr
  · cases hr

theorem growBy_le (n : Nat) : ∀ (r c : Nat), Builtin.growBy n r c ≤ max c (n + (n + 768) / 4)
  | 0, c => by simp only [Builtin.growBy]; omega
  | r + 1, c => by
    simp only [Builtin.growBy]
    split
    · omega
    · have := growBy_le n r (c + (c + 768) / 4)
      omega

theorem nextcap_le {need cap bytes : Nat} (hc : cap ≤ need) (hn : need ≤ 1073741824) (hb : bytes ≤ 4096) : ¬ Builtin.nextslicecap need cap * bytes > 2 ^ 48 := by
  have h1 : Builtin.nextslicecap need cap ≤ 4 * 1073741824 := by
    unfold Builtin.nextslicecap
    split
    · omega
    · split
      · omega
      · have := growBy_le need 4 cap
        omega
  have h2 := Nat.mul_le_mul h1 hb
  omega

theorem zeroCells_size (z : Array Value) (n : Nat) : (Builtin.zeroCells z n).size = n * z.size := by simp [Builtin.zeroCells]

/-- the part of append that needs room -/
theorem grow_run {e : TypeId} {i : TypeInfo} {z' : Value} {s : Value} {sLen sCap n : Nat} {old new : Array Value} (hi : P.info? e = some i) (hz : (zeroValue e).run P w = .ok z' w)
    (hz' : ∀ d, (zeroValue e).run P { w with drawn := d } = .ok z' { w with drawn := d })
    (hold : ∀ d, (Builtin.firstCells i.size sLen s).run P { w with drawn := d } = .ok old { w with drawn := d }) (cap : Nat)
    (hcap : (Question.appendCap (sLen + n) sCap e).cut (w.tape w.drawn (.appendCap (sLen + n) sCap e)) = cap) :
    (do
      let newCap ← choose (.appendCap (sLen + n) sCap e)
      askRoom (newCap * (← typeInfo e).bytes)
      let old ← Builtin.firstCells i.size sLen s
      let new ← (pure new : Sem (Array Value))
      let rest := Builtin.zeroCells (← zeroValue e).cells (newCap - (sLen + n))
      pure (Value.slice (some (← newRow e (old ++ new ++ rest))) (sLen + n) newCap) : Sem Value).run P w =
      .ok (.slice (some ⟨w.heap.size, 0, none⟩) (sLen + n) cap) { { w with drawn := w.drawn + 1 } with heap := w.heap.push (.cells (old ++ new ++ Builtin.zeroCells z'.cells (cap - (sLen + n))) e) } := by
  have hf : (Question.appendCap (sLen + n) sCap e).forced = false := rfl
  simp only [Sem.run_bind, run_choose, hf, Bool.false_eq_true, if_false, hcap, Result.andThen_ok, typeInfo_run hi, run_askRoom, hold, Sem.run_pure, hz', newRow, run_newObj]

theorem grow_rel (hw : WRel F w0 w ρ h) (hn : h.next < maxId) {k : Nat} (hk : k = h.next) {e : TypeId} {cells : List AV} {cs rest : Array Value} {need cap size : Nat} (hr : VsRel ρ cells cs.toList) (hc : cells.length = need * size)
    (hcap : need ≤ cap) (hrest : rest.size = (cap - need) * size) :
    WRel F w0 { { w with drawn := w.drawn + 1 } with heap := w.heap.push (.cells (cs ++ rest) e) } (ρ.upd h.next ⟨w.heap.size, 0, cap * size⟩) (growA h e size need cells).2 ∧
    VRel (ρ.upd h.next ⟨w.heap.size, 0, cap * size⟩) (growA h e size need cells).1 (.slice (some ⟨w.heap.size, 0, none⟩) need cap) := by
  have hcs : (cs ++ rest).size = cap * size := by
    have h1 : cs.size = need * size := by rw [← hc, hr.length]; simp
    simp only [Array.size_append, h1, hrest]
    rw [← Nat.add_mul]; congr 1; omega
  have hd := hw.drew (w.drawn + 1)
  have hnew := hd.new (k := h.next) (n := h.next + 1) (B := ⟨e, false, 0, cells⟩) (cs := cs ++ rest) (fz := (0, 0))
    (hw.fresh _ (Nat.le_refl _)) (by omega) (by omega) (by omega)
    (by
      have : (cs ++ rest).toList.take cells.length = cs.toList := by
        rw [Array.toList_append, List.take_left' (by rw [hr.length])]
      simp only [this]; exact hr)
    (by simp only [hcs, hc]; exact Nat.mul_le_mul_right _ hcap) (by simp) rfl
  rw [hcs] at hnew
  refine ⟨hnew, ?_⟩
  have := VRel.slo (ρ := ρ.upd h.next ⟨w.heap.size, 0, cap * size⟩) (off := 0) (len := need) (es := size) (cap := cap) (Ren.upd_self _ _ _) hcap (by simp)
  simpa [growA] using this
end
end Go.Ev
