/- Summaries of calls, from runs in an empty heap; closed runs. -/
import Derived.Test.YtcdcllmmkimbfaaGreatDoorEv16
set_option linter.unusedSimpArgs false
set_option linter.unusedVariables false
namespace Go.Ev

def empty : Heap := ⟨0, .e⟩

def beqB (x y : Blk) : Bool := Nat.beq x.elem y.elem && (x.exact == y.exact && (Nat.beq x.fz y.fz && beqA.beqs 20 x.cells y.cells))

/-- does the run in an empty heap come to what the summary says? -/
def sumFits (r : Option (Ret × Heap)) (s : Sum) : Bool := match r with
  | some (.ret v, h) => match s.blk with
    | none => beqA 20 v s.ret
    | some B => match v, s.ret with
      | .ptr k off, .ptr 0 off' => Nat.beq off off' && (match h.get k with
        | some B' => Nat.blt B'.fz 3 && beqB B' B
        | none => false)
      | .sl k off l c, .sl 0 off' l' c' => Nat.beq off off' && (Nat.beq l l' && (Nat.beq c c' && (match h.get k with
        | some B' => Nat.blt B'.fz 3 && beqB B' B
        | none => false)))
      | .slo k off l c, .slo 0 off' l' c' => Nat.beq off off' && (Nat.beq l l' && (Nat.beq c c' && (match h.get k with
        | some B' => Nat.blt B'.fz 3 && beqB B' B
        | none => false)))
      | _, _ => false
  | _ => false

theorem beqB_eq {x y : Blk} (h : beqB x y = true) : x = y := by
  unfold beqB at h
  simp only [Bool.and_eq_true, beq_iff_eq] at h
  obtain ⟨h1, h2, h3, h4⟩ := h
  cases x; cases y
  simp only at h1 h2 h3 h4
  rw [Nat.eq_of_beq_eq_true h1, h2, Nat.eq_of_beq_eq_true h3, beqs_eq (fun x y => beqA_eq 20 x y) h4]

def allOld (w : World) : Frm := ⟨fun b => b < w.heap.size, fun _ => False⟩

theorem empty_rel (w : World) : WRel (allOld w) w w (fun _ => none) empty :=
  ⟨rfl, rfl, rfl, Nat.le_refl _, fun _ _ => rfl, fun b hb => hb.elim id False.elim, by simp [empty], fun _ _ => rfl, fun _ _ h => (by cases h),
   fun _ _ _ _ h => (by cases h), fun _ _ _ _ h => (by cases h), fun _ _ _ _ _ _ _ h => (by cases h)⟩

theorem sum_ok {E : Env} (hE : EnvOk E) (hG : E.G = 0) {n : Nat} {s : Sum} (hp : pureA.pures 20 s.args = true) (h : sumFits (callA E n s.f s.args empty) s = true) : SumOk E.P s := by
  intro w ρ args' ha
  cases hr : callA E n s.f s.args empty with
  | none => rw [hr] at h; cases h
  | some p =>
    obtain ⟨r, h'⟩ := p
    rw [hr] at h
    have hc := callA_ok hE (draw_sound hE) n s.f s.args empty r h' hr (allOld w) w w (fun _ => none) args' (pures_rel (fun v v' => pureA_rel 20 v v') hp ha) (empty_rel w)
      (fun g hg => by rw [hG] at hg; omega)
    refine hc.mono ?_
    rintro e w' ⟨ρ', q1, q2, q3, q4⟩
    cases r with
    | pan v => unfold sumFits at h; cases h
    | ret v =>
      cases e with
      | panicked ch => exact q4.elim
      | outgrown => exact q4.elim
      | returned v' =>
        refine ⟨v', rfl, q3.os, q3.tape, q3.output, q3.size, fun b hb => q3.old b (.inl hb), ?_⟩
        unfold sumFits at h
        simp only at h
        have up : ∀ k l B', h'.get k = some B' → ρ' k = some l → B'.fz < 3 → w.heap.size ≤ l.b := fun k l B' g1 g2 g3 => by
          rcases Nat.lt_or_ge l.b w.heap.size with hlt | hge
          · exact absurd hlt ((q3.own k B' l g1 g2).1 g3)
          · exact hge
        cases hb : s.blk with
        | none =>
          rw [hb] at h
          simp only at h ⊢
          rw [← beqA_eq 20 _ _ h]
          exact ⟨ρ', q4⟩
        | some B =>
          rw [hb] at h
          simp only at h ⊢
          split at h
          · rename_i k off off' hs
            simp only [Bool.and_eq_true] at h
            obtain ⟨h1, h2⟩ := h
            split at h2
            · rename_i B' hB
              simp only [Bool.and_eq_true, Nat.blt_eq] at h2
              have := beqB_eq h2.2
              subst this
              cases q4 with
              | ptr hl =>
                rename_i l
                refine ⟨ρ', fun _ => some l, l, rfl, up k l _ hB hl h2.1, q3.dom k l hl, q3.blk k _ l hB hl, ?_⟩
                rw [hs, ← Nat.eq_of_beq_eq_true h1]
                exact .ptr rfl
            · cases h2
          · rename_i k off ln cp off' ln' cp' hs
            simp only [Bool.and_eq_true] at h
            obtain ⟨h1, h1', h1'', h2⟩ := h
            split at h2
            · rename_i B' hB
              simp only [Bool.and_eq_true, Nat.blt_eq] at h2
              have := beqB_eq h2.2
              subst this
              cases q4 with
              | sl hl =>
                rename_i l
                refine ⟨ρ', fun _ => some l, l, rfl, up k l _ hB hl h2.1, q3.dom k l hl, q3.blk k _ l hB hl, ?_⟩
                rw [hs, ← Nat.eq_of_beq_eq_true h1, ← Nat.eq_of_beq_eq_true h1', ← Nat.eq_of_beq_eq_true h1'']
                exact .sl rfl
            · cases h2
          · rename_i k off ln cp off' ln' cp' hs
            simp only [Bool.and_eq_true] at h
            obtain ⟨h1, h1', h1'', h2⟩ := h
            split at h2
            · rename_i B' hB
              simp only [Bool.and_eq_true, Nat.blt_eq] at h2
              have := beqB_eq h2.2
              subst this
              cases q4 with
              | slo hl m1 m2 =>
                rename_i l
                refine ⟨ρ', fun _ => some l, l, rfl, up k l _ hB hl h2.1, q3.dom k l hl, q3.blk k _ l hB hl, ?_⟩
                rw [hs, ← Nat.eq_of_beq_eq_true h1, ← Nat.eq_of_beq_eq_true h1', ← Nat.eq_of_beq_eq_true h1'']
                exact .slo rfl m1 m2
            · cases h2
          · cases h

/-! ## closed runs -/
def isTrue : Option (Ret × Heap) → Bool
  | some (.ret (.bool b), _) => b
  | _ => false

/-- a closed run that says true: it does so in whatever world, and no block that was there is touched -/
theorem run_true {E : Env} (hE : EnvOk E) (hG : E.G = 0) {n : Nat} {f : FuncId} (h : isTrue (callA E n f [] empty) = true) (w : World) :
    Calls E.P f #[] w fun e w' => e = .returned (.bool true) ∧ w'.os = w.os ∧ w'.tape = w.tape ∧ w'.output = w.output ∧ w.heap.size ≤ w'.heap.size ∧ ∀ b, b < w.heap.size → w'.heap[b]? = w.heap[b]? := by
  cases hr : callA E n f [] empty with
  | none => rw [hr] at h; cases h
  | some p =>
    obtain ⟨r, h'⟩ := p
    rw [hr] at h
    refine (callA_ok hE (draw_sound hE) n f [] empty r h' hr (allOld w) w w (fun _ => none) #[] .nil (empty_rel w) (fun g hg => by rw [hG] at hg; omega)).mono ?_
    rintro e w' ⟨ρ', q1, q2, q3, q4⟩
    unfold isTrue at h
    split at h
    · rename_i b h1 heq
      cases heq
      cases e with
      | panicked ch => exact q4.elim
      | outgrown => exact q4.elim
      | returned v' =>
        cases q4
        exact ⟨by rw [h], q3.os, q3.tape, q3.output, q3.size, fun b hb => q3.old b (.inl hb)⟩
    · cases h

end Go.Ev
