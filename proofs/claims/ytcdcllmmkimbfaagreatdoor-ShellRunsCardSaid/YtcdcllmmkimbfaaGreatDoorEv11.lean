/- Regions in their order: what the evaluator says holds of the model. -/
import Derived.Test.YtcdcllmmkimbfaaGreatDoorEv9
import Derived.Test.YtcdcllmmkimbfaaGreatDoorEv10
import Derived.Tactics
import Derived.LoopN
set_option linter.unusedSimpArgs false
set_option linter.unusedVariables false
namespace Go.Ev

inductive DRel (ρ : Ren) : List (FuncId × List AV) → List Deferred → Prop where
  | nil : DRel ρ [] []
  | cons {f : FuncId} {args : List AV} {cap da : Array Value} {l : List (FuncId × List AV)} {l' : List Deferred} (h : VsRel ρ args (da ++ cap).toList) (t : DRel ρ l l') :
      DRel ρ ((f, args) :: l) ({ target := .fn (.func f) cap, args := da } :: l')

theorem DRel.mono {ρ ρ' : Ren} (hs : Sub ρ ρ') : ∀ {l : List (FuncId × List AV)} {l' : List Deferred}, DRel ρ l l' → DRel ρ' l l'
  | _, _, .nil => .nil
  | _, _, .cons h t => .cons (h.mono hs) (t.mono hs)

structure SRel (G : Nat) (F : Frm) (w0 w : World) (ρ : Ren) (s : St) (a : Act) : Prop where
  wr : WRel F w0 w ρ s.h
  tr : TRel G ρ s.tmps a.tmps
  sz : a.tmps.size = s.n
  nm : s.n ≤ maxId
  dr : DRel ρ s.defs a.defers

theorem getT_set {t : PT AV} {d : Nat} {v : AV} (hd : d < maxId) (i : Nat) : getT (t.set dep d (some v)) i = if i = d then v else getT t i := by
  unfold getT
  rw [PT.get_set dep t d (some v) i (maxId_lt hd)]
  by_cases h : i = d <;> simp [h]

theorem TRel.set {G : Nat} {ρ : Ren} {t : PT AV} {tm : Array Value} (h : TRel G ρ t tm) {d : Nat} (hd : d < tm.size) (hm : d < maxId) {v : AV} {v' : Value} (hv : VRel ρ v v') :
    TRel G ρ (t.set dep d (some v)) (tm.setIfInBounds d v') := by
  refine ⟨fun i => ?_, h.glob⟩
  rw [getT_set hm]
  split
  · rename_i e; subst e
    simp [hd]; exact hv
  · rename_i e
    have : (tm.setIfInBounds d v').getD i undef = tm.getD i undef := by
      simp [Array.getElem?_setIfInBounds_ne (fun e' => e e'.symm)]
    rw [this]; exact h.rel i

theorem setT_ok {G : Nat} {ρ : Ren} {t t' : PT AV} {a : Act} {n : Nat} {d : Option Nat} {v : AV} {v' : Value} (ht : TRel G ρ t a.tmps) (hn : a.tmps.size = n) (hm : n ≤ maxId) (hv : VRel ρ v v')
    (h : setT t n d v = some t') : TRel G ρ t' (a.put d v').tmps ∧ (a.put d v').tmps.size = n ∧ (a.put d v').defers = a.defers := by
  unfold setT at h
  split at h
  · cases h; exact ⟨ht, hn, rfl⟩
  · rename_i d
    split at h
    · rename_i hlt
      simp only [Nat.blt_eq] at hlt
      cases h
      exact ⟨ht.set (by omega) (by omega) hv, by simp [Act.put, hn], rfl⟩
    · cases h

theorem guard_ok {G : Nat} {ρ : Ren} {t : PT AV} {tm : Array Value} (ht : TRel G ρ t tm) {ops : Array Oper} {o : Oper} {b : Bool} (h : guardA ops.toList t o = some b) :
    Region.wanted o (yielded ops tm) = b := by
  unfold guardA at h
  unfold Region.wanted
  split at h
  · rename_i hg; cases h; simp [hg]
  · rename_i j want hg
    rw [nth_eq, Array.getElem?_toList] at h
    split at h
    · rename_i oj hoj
      split at h
      · rename_i d hd
        have hr := ht.rel d
        have hy : yielded ops tm j = match tm[d]? with | some (.bool b) => some b | _ => none := by
          simp only [yielded, hoj, Option.bind_some, hd]
          rfl
        simp only [hg, hy]
        split at h
        · rename_i c hc
          cases h
          rw [hc] at hr
          have hv : tm[d]? = some (.bool c) := by
            cases hq : tm[d]? with
            | none => simp only [Array.getD_eq_getD_getElem?, hq, Option.getD_none] at hr; cases hr
            | some u => simp only [Array.getD_eq_getD_getElem?, hq, Option.getD_some] at hr; cases hr; rfl
          rw [hv]
          simp only [Option.some_beq_some]
        · rename_i l hc
          cases h
          rw [hc] at hr
          cases hq : tm[d]? with
          | none => rfl
          | some u =>
            simp only [Array.getD_eq_getD_getElem?, hq, Option.getD_some] at hr
            cases hr; rfl
        · cases h
      · cases h
    · cases h

/-- what a call comes to -/
def RPost (F : Frm) (w0 : World) (ρ : Ren) (n : Nat) (r : Ret) (h : Heap) (e : Ending) (w : World) : Prop :=
  ∃ ρ', Agree n ρ ρ' ∧ n ≤ h.next ∧ WRel F w0 w ρ' h ∧ match r, e with
    | .ret v, .returned v' => VRel ρ' v v'
    | .pan v, .panicked ch => ∃ v', ch = [{ v := v', recovered := false }] ∧ VRel ρ' v v'
    | _, _ => False

def CallSound (E : Env) (call : CallF) : Prop := ∀ f args h r h', call f args h = some (r, h') → ∀ (F : Frm) (w0 w : World) (ρ : Ren) (args' : Array Value),
  VsRel ρ args args'.toList → WRel F w0 w ρ h → (∀ g, g < E.G → ∃ s, ρ g = some ⟨g, 0, s⟩) → Calls E.P f args' w (RPost F w0 ρ h.next r h')

def XPost (G : Nat) (F : Frm) (w0 : World) (ρ : Ren) (n : Nat) (x : AX) (s : St) (e : Exit) (a : Act) (w : World) : Prop :=
  ∃ ρ', Agree n ρ ρ' ∧ n ≤ s.h.next ∧ match x, e with
    | .norm, .normal => SRel G F w0 w ρ' s a
    | .exit i, .exit j => i = j ∧ SRel G F w0 w ρ' s a
    | .ret, .ret => SRel G F w0 w ρ' s a
    | .pan v, .panic ch => (∃ v', ch = [{ v := v', recovered := false }] ∧ VRel ρ' v v') ∧ SRel G F w0 w ρ' s a
    | .panD v, .panic ch => (∃ v', ch = [{ v := v', recovered := false }] ∧ VRel ρ' v v') ∧ WRel F w0 w ρ' s.h ∧ DRel ρ' s.defs a.defers
    | _, _ => False

theorem XPost.weaken {G : Nat} {F : Frm} {w0 w : World} {ρ ρ1 : Ren} {n n1 : Nat} {x : AX} {s : St} {e : Exit} {a : Act} (hn : n ≤ n1) (h : Agree n ρ ρ1) (hx : XPost G F w0 ρ1 n1 x s e a w) :
    XPost G F w0 ρ n x s e a w := by
  obtain ⟨ρ', h1, h2, h3⟩ := hx
  exact ⟨ρ', h.trans h1 hn, by omega, h3⟩

theorem SRel.next {G : Nat} {F : Frm} {w0 w w' : World} {ρ ρ' : Ren} {s : St} {h' : Heap} {a : Act} (hs : SRel G F w0 w ρ s a) (hw : WRel F w0 w' ρ' h') (ha : Agree s.h.next ρ ρ') :
    SRel G F w0 w' ρ' { s with h := h' } a :=
  ⟨hw, hs.tr.mono (hs.wr.sub ha), hs.sz, hs.nm, hs.dr.mono (hs.wr.sub ha)⟩

theorem SRel.put {G : Nat} {F : Frm} {w0 w : World} {ρ : Ren} {s : St} {a : Act} (hs : SRel G F w0 w ρ s a) {d : Option Nat} {v : AV} {v' : Value} {r : Option AV × St} (hv : VRel ρ v v') (h : putSt s d v = some r) :
    ∃ s', r = (none, s') ∧ s'.h = s.h ∧ SRel G F w0 w ρ s' (a.put d v') := by
  unfold putSt at h
  split at h
  · rename_i t ht
    cases h
    obtain ⟨h1, h2, h3⟩ := setT_ok hs.tr hs.sz hs.nm hv ht
    exact ⟨_, rfl, rfl, ⟨hs.wr, h1, h2, hs.nm, by rw [h3]; exact hs.dr⟩⟩
  · cases h

section seq
variable {E : Env} {call : CallF} {F : Frm} {w0 : World}

theorem newV_rel {w : World} {ρ : Ren} {id : Nat} {B : Blk} {cs : Array Value} (sh : Option (Nat × Nat)) : VRel (ρ.upd id ⟨w.heap.size, 0, cs.size⟩) (newA id sh) (newV w sh) := by
  cases sh with
  | none =>
    show VRel _ (.ptr id 0) (.pointer (some ⟨w.heap.size, 0, none⟩))
    simpa using VRel.ptr (ρ := ρ.upd id ⟨w.heap.size, 0, cs.size⟩) (off := 0) (Ren.upd_self _ _ _)
  | some p =>
    show VRel _ (.sl id 0 p.1 p.2) (.slice (some ⟨w.heap.size, 0, none⟩) p.1 p.2)
    simpa using VRel.sl (ρ := ρ.upd id ⟨w.heap.size, 0, cs.size⟩) (off := 0) (len := p.1) (cap := p.2) (Ren.upd_self _ _ _)

def axOf : Option AV → AX
  | none => .norm
  | some v => .pan v

theorem stepOp_ok (hE : EnvOk E) (hc : CallSound E call) {w : World} {ρ : Ren} {s s' : St} {a : Act} {o : Oper} {r : Option AV} (hs : SRel E.G F w0 w ρ s a) (h : stepOp E call s o = some (r, s'))
    {next : Act → World → Prop} {Q : Exit → Act → World → Prop}
    (hnext : ∀ ρ' a' w', r = none → Agree s.h.next ρ ρ' → s.h.next ≤ s'.h.next → SRel E.G F w0 w' ρ' s' a' → next a' w')
    (hpan : ∀ ρ' v v' w', r = some v → Agree s.h.next ρ ρ' → s.h.next ≤ s'.h.next → VRel ρ' v v' → SRel E.G F w0 w' ρ' s' a → Q (.panic [{ v := v', recovered := false }]) a w') :
    o.wp E.P a w next Q := by
  unfold stepOp at h
  split at h
  case isFalse => cases h
  rename_i hlt
  have hlt' : s.h.next < maxId := by simpa using hlt
  split at h
  · rename_i v hev
    obtain ⟨v', h1, h2⟩ := evOp_ok hE hs.wr hlt' hs.tr hev
    obtain ⟨s1, e1, e2, e3⟩ := hs.put (v' := v') h2 h
    cases e1
    rw [Oper.wp, h1, Oper.upon_value]
    exact hnext ρ _ _ rfl (Agree.refl _ _) (by rw [e2]; exact Nat.le_refl _) e3
  · rename_i B sh hev
    obtain ⟨cs, h1, h2, h3, h4⟩ := evOp_ok hE hs.wr hlt' hs.tr hev
    have hlen := h2.length
    have hnew := hs.wr.new (k := s.h.next) (n := s.h.next + 1) (B := B) (cs := cs) (fz := (0, 0)) (hs.wr.fresh _ (Nat.le_refl _)) (by omega) (by omega) (by omega)
      (by rw [List.take_of_length_le (by omega)]; exact h2) (by rw [hlen]; simp) (fun _ => by rw [hlen]; simp) (by rw [h4]; rfl)
    have hs1 : SRel E.G F w0 _ _ { s with h := { s.h.put s.h.next (some B) with next := s.h.next + 1 } } a := hs.next hnew (Ren.upd_agree (Nat.le_refl _))
    obtain ⟨s1, e1, e2, e3⟩ := hs1.put (v' := newV w sh) (newV_rel (B := B) sh) h
    cases e1
    rw [Oper.wp, h1, Oper.upon_value]
    exact hnext _ _ _ rfl (Ren.upd_agree (Nat.le_refl _)) (by rw [e2]; simp) e3
  · rename_i v h' hev
    obtain ⟨ρ', nx, w', v', h1, h2, h3, h4, h5, h6, h7⟩ := evOp_ok hE hs.wr hlt' hs.tr hev
    have hs1 := hs.next h4 h5
    obtain ⟨s1, e1, e2, e3⟩ := hs1.put (v' := v') h3 h
    cases e1
    rw [Oper.wp, h1]
    rcases h2 with rfl | ⟨rfl, rfl⟩
    · rw [Oper.upon_value]
      exact hnext ρ' _ _ rfl h5 (by rw [e2]; exact h6) e3
    · rw [Oper.upon_skip]
      exact hnext ρ' _ _ rfl h5 (by rw [e2]; exact h6) e3
  · rename_i f args hev
    obtain ⟨args', h1, h2⟩ := evOp_ok hE hs.wr hlt' hs.tr hev
    rw [Oper.wp, h1, Oper.upon_enter]
    split at h
    · rename_i v h' hcall
      refine (hc f args s.h _ _ hcall F w0 w ρ args' h2 hs.wr hs.tr.glob).mono ?_
      rintro e w' ⟨ρ', q1, q2, q3, q4⟩
      cases e with
      | returned v' =>
        have hs1 := hs.next q3 q1
        obtain ⟨s1, e1, e2, e3⟩ := hs1.put (v' := v') q4 h
        cases e1
        exact hnext ρ' _ _ rfl q1 (by rw [e2]; exact q2) e3
      | panicked ch => exact q4.elim
      | outgrown => exact q4.elim
    · rename_i v h' hcall
      cases h
      refine (hc f args s.h _ _ hcall F w0 w ρ args' h2 hs.wr hs.tr.glob).mono ?_
      rintro e w' ⟨ρ', q1, q2, q3, q4⟩
      cases e with
      | returned v' => exact q4.elim
      | panicked ch =>
        obtain ⟨v', rfl, q5⟩ := q4
        exact hpan ρ' v v' w' rfl q1 q2 q5 (hs.next q3 q1)
      | outgrown => exact q4.elim
    · cases h
  · rename_i f args hev
    obtain ⟨cap, da, h1, h2⟩ := evOp_ok hE hs.wr hlt' hs.tr hev
    rw [Oper.wp, h1, Oper.upon_defer]
    have hs1 : SRel E.G F w0 w ρ { s with defs := (f, args) :: s.defs } { a with defers := { target := .fn (.func f) cap, args := da } :: a.defers } := ⟨hs.wr, hs.tr, hs.sz, hs.nm, .cons h2 hs.dr⟩
    obtain ⟨s1, e1, e2, e3⟩ := hs1.put (v' := undef) (VRel.undef ρ) h
    cases e1
    exact hnext ρ _ _ rfl (Agree.refl _ _) (by rw [e2]; exact Nat.le_refl _) e3
  · rename_i v hev
    obtain ⟨v', h1, h2⟩ := evOp_ok hE hs.wr hlt' hs.tr hev
    cases h
    rw [Oper.wp, h1, Oper.upon_panic]
    exact hpan ρ v v' w rfl (Agree.refl _ _) (Nat.le_refl _) h2 hs
  · cases h

theorem runSeq_ok (hE : EnvOk E) (hc : CallSound E call) {ops : Array Oper} : ∀ (l : List Oper) (s s' : St) (r : Option AV) (w : World) (ρ : Ren) (a : Act),
    SRel E.G F w0 w ρ s a → runSeq E call ops.toList l s = some (r, s') →
    wpList E.P ops (XPost E.G F w0 ρ s.h.next (axOf r) s') l a w
  | [], s, s', r, w, ρ, a, hs, h => by
    simp only [runSeq] at h; cases h
    exact ⟨ρ, Agree.refl _ _, Nat.le_refl _, hs⟩
  | o :: l, s, s', r, w, ρ, a, hs, h => by
    simp only [runSeq] at h
    simp only [wpList]
    split at h
    · rename_i hg
      rw [guard_ok hs.tr hg, if_pos rfl]
      left
      split at h
      · rename_i s1 hst
        refine stepOp_ok hE hc hs hst ?_ ?_
        · intro ρ' a' w' _ h1 h2 h3
          have ih := runSeq_ok hE hc l s1 s' r w' ρ' a' h3 h
          have mono : ∀ (l : List Oper) a w, wpList E.P ops (XPost E.G F w0 ρ' s1.h.next (axOf r) s') l a w →
              wpList E.P ops (XPost E.G F w0 ρ s.h.next (axOf r) s') l a w := by
            intro l a w hh
            exact wpList_weak (fun e a w q => XPost.weaken h2 h1 q) l a w hh
          exact mono l a' w' ih
        · intro ρ' v v' w' hr; cases hr
      · rename_i hne
        rw [h] at hne
        cases r with
        | none => exact absurd rfl (hne s')
        | some v =>
          refine stepOp_ok hE hc hs h ?_ ?_
          · intro ρ' a' w' hr; cases hr
          · intro ρ' u v' w' hr h1 h2 h3 h4
            cases hr
            exact ⟨ρ', h1, h2, ⟨v', rfl, h3⟩, h4⟩
    · rename_i hg
      rw [guard_ok hs.tr hg, if_neg (by simp)]
      split at h
      · rename_i t ht
        obtain ⟨h1, h2, h3⟩ := setT_ok hs.tr hs.sz hs.nm (VRel.undef ρ) ht
        exact runSeq_ok hE hc l { s with tmps := t } s' r w ρ _ ⟨hs.wr, h1, h2, hs.nm, by rw [h3]; exact hs.dr⟩ h
      · cases h
    · cases h
where
  wpList_weak {ops : Array Oper} {Q Q' : Exit → Act → World → Prop} (hq : ∀ e a w, Q e a w → Q' e a w) : ∀ (l : List Oper) (a : Act) (w : World), wpList E.P ops Q l a w → wpList E.P ops Q' l a w
    | [], a, w, h => hq _ _ _ h
    | o :: l, a, w, h => by
      simp only [wpList] at h ⊢
      split
      · rename_i hw
        rw [if_pos hw] at h
        rcases h with h | ⟨h1, h2⟩
        · left; exact wp_weak hq (fun a w => wpList_weak hq l a w) h
        · right; exact ⟨h1, let ⟨a, w, q⟩ := h2; ⟨a, w, hq _ _ _ q⟩⟩
      · rename_i hw
        rw [if_neg hw] at h
        exact wpList_weak hq l _ _ h
  wp_weak {Q Q' : Exit → Act → World → Prop} {K K' : Act → World → Prop} {o : Oper} {a : Act} {w : World} (hq : ∀ e a w, Q e a w → Q' e a w) (hk : ∀ a w, K a w → K' a w) (h : o.wp E.P a w K Q) : o.wp E.P a w K' Q' := by
    unfold Oper.wp at *
    generalize (execOp a.eval o).run E.P w = r at *
    cases r with
    | ok n w' =>
      cases n <;> simp only [Oper.upon] at h ⊢ <;> first
        | exact hk _ _ h
        | exact Calls.mono h (fun e w'' he => by cases e <;> first | exact hk _ _ he | exact hq _ _ _ he | exact (let ⟨a, w, q⟩ := he; ⟨a, w, hq _ _ _ q⟩))
        | exact Rows.mono h (fun _ _ he => hk _ _ he)
        | exact h
    | halt x w' => cases x <;> simp only [Oper.upon] at h ⊢ <;> first | exact hq _ _ _ h | exact h
end seq
end Go.Ev
