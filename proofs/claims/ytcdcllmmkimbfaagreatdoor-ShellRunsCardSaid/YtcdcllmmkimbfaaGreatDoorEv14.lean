/- Operations in an open order: rows of records; heaps with blocks laid in. -/
import Derived.Test.YtcdcllmmkimbfaaGreatDoorEv13
set_option linter.unusedSimpArgs false
set_option linter.unusedVariables false
namespace Go.Ev

section runs
variable (E : Env) (call : CallF) (all : List Oper) (base n : Nat)

def What (r : Rec) (t : PT AV) (h h' : Heap) : Prop := match r.tag with
  | 0 => evOp E h t r.o.op = some (.val r.v) ∧ h' = h ∧ r.nb = none
  | 1 => ∃ B sh, evOp E h t r.o.op = some (.new B sh) ∧ r.v = newA (base + r.i) sh ∧ h' = h.put (base + r.i) (some B) ∧ r.nb = some (B, sh)
  | 2 => evOp E h t r.o.op = some (.eff r.v h') ∧ r.nb = none
  | _ => ∃ f args, evOp E h t r.o.op = some (.call f args) ∧ call f args h = some (.ret r.v, h') ∧ r.nb = none

structure StepOk (r : Rec) (t : PT AV) (h : Heap) (t' : PT AV) (h' : Heap) : Prop where
  at_ : all[r.i]? = some r.o
  kk : r.k = kindOf E.P r.o.op
  rt : r.t = t
  pre : r.pre = h
  post : r.post = h'
  set : setT t n r.o.dst r.v = some t'
  pan : r.pan = false
  what : (r.skip = true ∧ guardA all t r.o = some false ∧ r.v = undefA ∧ h' = h ∧ r.nb = none) ∨ (r.skip = false ∧ guardA all t r.o = some true ∧ What E call base r t h h')

structure PanOk (r : Rec) (t : PT AV) (h : Heap) : Prop where
  at_ : all[r.i]? = some r.o
  kk : r.k = kindOf E.P r.o.op
  rt : r.t = t
  pre : r.pre = h
  pan : r.pan = true
  skip : r.skip = false
  tag : r.tag = 3
  guard : guardA all t r.o = some true
  nb : r.nb = none
  what : ∃ f args, evOp E h t r.o.op = some (.call f args) ∧ call f args h = some (.pan r.v, r.post)

inductive Runs : PT AV → Heap → List Rec → PT AV → Heap → Prop where
  | nil {t : PT AV} {h : Heap} : Runs t h [] t h
  | ok {t t1 t' : PT AV} {h h1 h' : Heap} {r : Rec} {l : List Rec} (s : StepOk E call all base n r t h t1 h1) (d : Runs t1 h1 l t' h') : Runs t h (r :: l) t' h'
  | pan {t t' : PT AV} {h h' : Heap} {r : Rec} {l : List Rec} (s : PanOk E call all r t h) (d : Runs t h l t' h') : Runs t h (r :: l) t' h'
end runs

section runs
variable {E : Env} {call : CallF} {all : List Oper} {base n : Nat}

theorem kinds_at {i : Nat} {o : Oper} (h : nth all i = some o) : (nth (kindsOf E.P all) i).getD 3 = kindOf E.P o.op := by
  rw [nth_eq] at h ⊢
  simp [kindsOf, h]

theorem okSD_ok {r r' : Rec} {t' : PT AV} {h' : Heap} (h : okSD r n = .ok r' t' h') : r' = r ∧ setT r.t n r.o.dst r.v = some t' ∧ h' = r.post := by
  unfold okSD at h
  split at h
  · rename_i t hs
    cases h
    exact ⟨rfl, hs, rfl⟩
  · cases h

theorem stepD_ok {t t' : PT AV} {h h' : Heap} {i : Nat} {r : Rec} (hs : stepD E call all (kindsOf E.P all) base n t h i = .ok r t' h') : StepOk E call all base n r t h t' h' := by
  unfold stepD at hs
  split at hs
  · cases hs
  · rename_i o ho
    have ho' := ho
    rw [nth_eq] at ho'
    have hk := kinds_at (E := E) ho
    split at hs
    · rename_i hg
      split at hs
      · split at hs
        · rename_i v hev
          obtain ⟨rfl, h1, rfl⟩ := okSD_ok hs
          exact ⟨ho', hk, rfl, rfl, rfl, h1, rfl, .inr ⟨rfl, hg, hev, rfl, rfl⟩⟩
        · rename_i B sh hev
          obtain ⟨rfl, h1, rfl⟩ := okSD_ok hs
          exact ⟨ho', hk, rfl, rfl, rfl, h1, rfl, .inr ⟨rfl, hg, B, sh, hev, rfl, rfl, rfl⟩⟩
        · rename_i v h1 hev
          obtain ⟨rfl, h1, rfl⟩ := okSD_ok hs
          exact ⟨ho', hk, rfl, rfl, rfl, h1, rfl, .inr ⟨rfl, hg, hev, rfl⟩⟩
        · rename_i f args hev
          split at hs
          · rename_i v h1 hc
            obtain ⟨rfl, h1, rfl⟩ := okSD_ok hs
            exact ⟨ho', hk, rfl, rfl, rfl, h1, rfl, .inr ⟨rfl, hg, f, args, hev, hc, rfl⟩⟩
          · cases hs
          · cases hs
        · cases hs
      · cases hs
    · rename_i hg
      obtain ⟨rfl, h1, rfl⟩ := okSD_ok hs
      exact ⟨ho', hk, rfl, rfl, rfl, h1, rfl, .inl ⟨rfl, hg, rfl, rfl, rfl⟩⟩
    · cases hs

theorem stepD_pan {t : PT AV} {h : Heap} {i : Nat} {r : Rec} (hs : stepD E call all (kindsOf E.P all) base n t h i = .pan r) : PanOk E call all r t h := by
  have no : ∀ r', okSD r' n ≠ .pan r := by
    intro r' e
    unfold okSD at e
    split at e <;> cases e
  unfold stepD at hs
  split at hs
  · cases hs
  · rename_i o ho
    have ho' := ho
    rw [nth_eq] at ho'
    have hk := kinds_at (E := E) ho
    split at hs
    · rename_i hg
      split at hs
      · split at hs
        · exact absurd hs (no _)
        · exact absurd hs (no _)
        · exact absurd hs (no _)
        · rename_i f args hev
          split at hs
          · exact absurd hs (no _)
          · rename_i v h1 hc
            cases hs
            exact ⟨ho', hk, rfl, rfl, rfl, rfl, rfl, hg, rfl, f, args, hev, hc⟩
          · cases hs
        · cases hs
      · cases hs
    · exact absurd hs (no _)
    · cases hs

theorem runL_ok {ms : List Nat} : ∀ (m : Nat) (l : List Nat) (t : PT AV) (h : Heap) {rs : List Rec} {t' : PT AV} {h' : Heap}, runL E call all ms (kindsOf E.P all) base n m l t h = some (rs, t', h') → Runs E call all base n t h rs t' h'
  | 0, _, _, _, _, _, _, hr => by simp [runL] at hr
  | m + 1, [], t, h, _, _, _, hr => by
    simp only [runL] at hr; cases hr; exact .nil
  | m + 1, i :: l, t, h, _, _, _, hr => by
    simp only [runL] at hr
    split at hr
    · rename_i r t1 h1 hs
      split at hr
      · rename_i rs t2 h2 hq
        cases hr
        exact .ok (stepD_ok hs) (runL_ok m l t1 h1 hq)
      · cases hr
    · rename_i r hs
      split at hr
      · rename_i rs t2 h2 hq
        cases hr
        exact .pan (stepD_pan hs) (runL_ok m _ t h hq)
      · cases hr
    · cases hr

theorem Runs.split : ∀ {a b : List Rec} {t t' : PT AV} {h h' : Heap}, Runs E call all base n t h (a ++ b) t' h' → ∃ tm hm, Runs E call all base n t h a tm hm ∧ Runs E call all base n tm hm b t' h'
  | [], b, t, t', h, h', hr => ⟨t, h, .nil, hr⟩
  | r :: a, b, t, t', h, h', hr => by
    cases hr with
    | ok s d =>
      obtain ⟨tm, hm, h1, h2⟩ := d.split
      exact ⟨tm, hm, .ok s h1, h2⟩
    | pan s d =>
      obtain ⟨tm, hm, h1, h2⟩ := d.split
      exact ⟨tm, hm, .pan s h1, h2⟩

theorem Runs.append : ∀ {a b : List Rec} {t tm t' : PT AV} {h hm h' : Heap}, Runs E call all base n t h a tm hm → Runs E call all base n tm hm b t' h' → Runs E call all base n t h (a ++ b) t' h'
  | _, _, _, _, _, _, _, _, .nil, d => d
  | _, _, _, _, _, _, _, _, .ok s d, d' => .ok s (d.append d')
  | _, _, _, _, _, _, _, _, .pan s d, d' => .pan s (d.append d')

theorem Runs.at_ : ∀ {l : List Rec} {t t' : PT AV} {h h' : Heap}, Runs E call all base n t h l t' h' → ∀ r ∈ l, all[r.i]? = some r.o ∧ r.k = kindOf E.P r.o.op
  | _, _, _, _, _, .nil, r, hr => by cases hr
  | _, _, _, _, _, .ok s d, r, hr => by
    cases hr with
    | head => exact ⟨s.at_, s.kk⟩
    | tail _ hr => exact d.at_ r hr
  | _, _, _, _, _, .pan s d, r, hr => by
    cases hr with
    | head => exact ⟨s.at_, s.kk⟩
    | tail _ hr => exact d.at_ r hr

theorem getT_setT {t t' : PT AV} {v : AV} {d : Option Nat} (hn : n ≤ maxId) (h : setT t n d v = some t') (e : Nat) : getT t' e = if d = some e then v else getT t e := by
  unfold setT at h
  split at h
  · cases h; simp
  · rename_i d
    split at h
    · rename_i hlt
      cases h
      simp only [Nat.blt_eq] at hlt
      rw [getT_set (by omega)]
      by_cases hde : e = d
      · simp [hde]
      · rw [if_neg hde, if_neg (fun x => hde (Option.some.inj x).symm)]
    · cases h

theorem Runs.writes (hn : n ≤ maxId) : ∀ {l : List Rec} {t t' : PT AV} {h h' : Heap}, Runs E call all base n t h l t' h' → ∀ d,
    (∃ r ∈ l, r.pan = false ∧ r.o.dst = some d ∧ getT t' d = r.v) ∨ ((∀ r ∈ l, r.pan = false → r.o.dst ≠ some d) ∧ getT t' d = getT t d)
  | _, _, _, _, _, .nil, d => .inr ⟨fun r hr => (by cases hr), rfl⟩
  | r :: l, _, _, _, _, .ok s q, d => by
    rcases q.writes hn d with ⟨r', h1, h2, h3, h4⟩ | ⟨h1, h2⟩
    · exact .inl ⟨r', by simp [h1], h2, h3, h4⟩
    · have := getT_setT hn s.set d
      by_cases hd : r.o.dst = some d
      · rw [if_pos hd] at this
        exact .inl ⟨r, by simp, s.pan, hd, h2.trans this⟩
      · rw [if_neg hd] at this
        refine .inr ⟨fun x hx hp => ?_, h2.trans this⟩
        cases hx with
        | head => exact hd
        | tail _ hx => exact h1 x hx hp
  | r :: l, _, _, _, _, .pan s q, d => by
    rcases q.writes hn d with ⟨r', h1, h2, h3, h4⟩ | ⟨h1, h2⟩
    · exact .inl ⟨r', by simp [h1], h2, h3, h4⟩
    · refine .inr ⟨fun x hx hp => ?_, h2⟩
      cases hx with
      | head => rw [s.pan] at hp; cases hp
      | tail _ hx => exact h1 x hx hp

/-! ## blocks laid in -/
theorem lay_next : ∀ (l : List Rec) (h : Heap), (lay base l h).next = h.next
  | [], h => rfl
  | r :: l, h => by
    simp only [lay]
    split
    · rw [lay_next l]; rfl
    · exact lay_next l h

theorem lay_append : ∀ (a b : List Rec) (h : Heap), lay base (a ++ b) h = lay base b (lay base a h)
  | [], b, h => rfl
  | r :: a, b, h => by
    simp only [List.cons_append, lay]
    split
    · exact lay_append a b _
    · exact lay_append a b _

theorem lay_cases (k : Nat) : ∀ (l : List Rec), (∀ r ∈ l, base + r.i < maxId) →
    ((∀ r ∈ l, r.nb ≠ none → base + r.i ≠ k) ∧ ∀ h, (lay base l h).get k = h.get k) ∨ (∃ r ∈ l, ∃ B sh, r.nb = some (B, sh) ∧ k = base + r.i ∧ ∀ h, (lay base l h).get k = some B)
  | [], _ => .inl ⟨fun r hr => (by cases hr), fun h => rfl⟩
  | r :: l, hm => by
    rcases lay_cases k l (fun x hx => hm x (by simp [hx])) with ⟨h1, h2⟩ | ⟨r', h1, B, sh, h3, h4, h5⟩
    · cases hb : r.nb with
      | none =>
        refine .inl ⟨fun x hx hne => ?_, fun h => by simp only [lay, hb]; exact h2 h⟩
        cases hx with
        | head => exact absurd hb hne
        | tail _ hx => exact h1 x hx hne
      | some p =>
        obtain ⟨B, sh⟩ := p
        by_cases hk : k = base + r.i
        · refine .inr ⟨r, by simp, B, sh, hb, hk, fun h => ?_⟩
          simp only [lay, hb]
          rw [h2, hk, Heap.get_put (hm r (by simp))]; simp
        · refine .inl ⟨fun x hx hne => ?_, fun h => ?_⟩
          · cases hx with
            | head => exact fun e => hk e.symm
            | tail _ hx => exact h1 x hx hne
          · simp only [lay, hb]
            rw [h2, Heap.get_put (hm r (by simp)), if_neg hk]
    · refine .inr ⟨r', by simp [h1], B, sh, h3, h4, fun h => ?_⟩
      simp only [lay]
      split
      · exact h5 _
      · exact h5 _

theorem noneAt_spec {h : Heap} : ∀ {l : List Rec}, noneAt h base l = true → ∀ r ∈ l, r.nb ≠ none → h.get (base + r.i) = none
  | [], _, r, hr, _ => by cases hr
  | x :: l, hq, r, hr, hne => by
    simp only [noneAt, Bool.and_eq_true] at hq
    cases hr with
    | head =>
      have := hq.1
      cases hb : x.nb with
      | none => exact absurd hb hne
      | some p =>
        rw [hb] at this
        simpa using this
    | tail _ hr => exact noneAt_spec hq.2 r hr hne

theorem cleanOk_spec : ∀ {pre : List Rec} {r : Rec} {suf : List Rec}, cleanOk base (pre ++ r :: suf) = true → r.k = 2 → noneAt r.pre base suf = true
  | [], r, suf, h, hk => by
    simp only [List.nil_append, cleanOk, Bool.and_eq_true, hk] at h
    simpa using h.1
  | x :: pre, r, suf, h, hk => by
    simp only [List.cons_append, cleanOk, Bool.and_eq_true] at h
    exact cleanOk_spec h.2 hk

theorem kindsFit_spec : ∀ {l : List Rec}, kindsFit l = true → ∀ r ∈ l, kindFit r = true
  | [], _, r, hr => by cases hr
  | x :: l, h, r, hr => by
    simp only [kindsFit, Bool.and_eq_true] at h
    cases hr with
    | head => exact h.1
    | tail _ hr => exact kindsFit_spec h.2 r hr

theorem kindFit_tag {r : Rec} (h : kindFit r = true) (hs : r.skip = false) : (r.k = 0 ∧ r.tag = 0) ∨ (r.k = 1 ∧ r.tag = 1) ∨ (r.k = 2 ∧ (r.tag = 0 ∨ r.tag = 2 ∨ r.tag = 3)) := by
  unfold kindFit at h
  rw [hs, Bool.false_or, Bool.and_eq_true] at h
  have := h.1
  split at this <;> simp_all

theorem kindFit_lt {r : Rec} (h : kindFit r = true) : r.k < 3 ∧ r.post.next < maxId := by
  unfold kindFit at h
  simp only [Bool.and_eq_true, Nat.blt_eq] at h
  exact ⟨h.2.1, h.2.2.1⟩

theorem kindFit_nb {r : Rec} (h : kindFit r = true) {B : Blk} {sh : Option (Nat × Nat)} (hb : r.nb = some (B, sh)) : B.fz = 0 := by
  unfold kindFit at h
  simp only [Bool.and_eq_true] at h
  have := h.2.2.2
  rw [hb] at this
  exact Nat.eq_of_beq_eq_true this

/-- where nothing of kind 2 stands, the heap is what is laid in -/
theorem Runs.calm : ∀ {l : List Rec} {t t' : PT AV} {h h' : Heap}, Runs E call all base n t h l t' h' → kindsFit l = true → (∀ r ∈ l, r.k ≠ 2) → h' = lay base l h ∧ ∀ r ∈ l, r.pan = false
  | _, _, _, _, _, .nil, _, _ => ⟨rfl, fun r hr => (by cases hr)⟩
  | r :: l, _, _, _, _, .ok s d, hk, h2 => by
    have hkr := kindsFit_spec hk r (by simp)
    simp only [kindsFit, Bool.and_eq_true] at hk
    obtain ⟨i1, i2⟩ := d.calm hk.2 (fun x hx => h2 x (by simp [hx]))
    refine ⟨?_, fun x hx => ?_⟩
    · rw [i1]
      simp only [lay]
      rcases s.what with ⟨_, _, _, e, hb⟩ | ⟨hs, _, hw⟩
      · rw [hb, e]
      · rcases kindFit_tag hkr hs with ⟨_, q⟩ | ⟨_, q⟩ | ⟨q, _⟩
        · unfold What at hw; rw [q] at hw
          obtain ⟨_, e, hb⟩ := hw
          rw [hb, e]
        · unfold What at hw; rw [q] at hw
          obtain ⟨B, sh, _, _, e, hb⟩ := hw
          rw [hb, e]
        · exact absurd q (h2 r (by simp))
    · cases hx with
      | head => exact s.pan
      | tail _ hx => exact i2 x hx
  | r :: l, _, _, _, _, .pan s d, hk, h2 => by
    have hkr := kindsFit_spec hk r (by simp)
    rcases kindFit_tag hkr s.skip with ⟨_, q⟩ | ⟨_, q⟩ | ⟨q, _⟩
    · rw [s.tag] at q; cases q
    · rw [s.tag] at q; cases q
    · exact absurd q (h2 r (by simp))

/-- what is of kind 2 lays nothing in -/
theorem StepOk.nb2 {r : Rec} {t t' : PT AV} {h h' : Heap} (s : StepOk E call all base n r t h t' h') (hk : kindFit r = true) (h2 : r.k ≠ 1) : r.nb = none := by
  rcases s.what with ⟨_, _, _, _, hb⟩ | ⟨hs, _, hw⟩
  · exact hb
  · rcases kindFit_tag hk hs with ⟨_, q⟩ | ⟨q, _⟩ | ⟨_, q⟩
    · unfold What at hw; rw [q] at hw; exact hw.2.2
    · exact absurd q h2
    · rcases q with q | q | q
      · unfold What at hw; rw [q] at hw; exact hw.2.2
      · unfold What at hw; rw [q] at hw; exact hw.2
      · unfold What at hw; rw [q] at hw
        obtain ⟨_, _, _, _, hb⟩ := hw; exact hb

/-! ## worlds -/
section worlds
variable {F : Frm} {w0 w w' : World} {ρ ρ' : Ren}

theorem WRel.congr {h h' : Heap} (hw : WRel F w0 w ρ h) (hg : ∀ k l, ρ k = some l → h'.get k = h.get k) (hn : h'.next = h.next) : WRel F w0 w ρ h' :=
  ⟨hw.os, hw.tape, hw.output, hw.size, hw.old, hw.inold, by rw [hn]; exact hw.bound, by rw [hn]; exact hw.fresh, hw.dom,
   fun k B l hk hl => hw.blk k B l (by rw [← hg k l hl]; exact hk) hl,
   fun k B l hk hl => hw.own k B l (by rw [← hg k l hl]; exact hk) hl,
   fun k B l k' B' l' hk hl hk' hl' => hw.inj k B l k' B' l' (by rw [← hg k l hl]; exact hk) hl (by rw [← hg k' l' hl']; exact hk') hl'⟩

/-- the frame for a step beside which blocks are laid in -/
def beside (F : Frm) (base : Nat) (ρ : Ren) (suf : List Rec) : Frm :=
  ⟨F.f, fun b => F.x b ∨ ∃ r ∈ suf, r.nb ≠ none ∧ ∃ l, ρ (base + r.i) = some l ∧ l.b = b⟩

theorem WRel.down {suf : List Rec} {h : Heap} (hw : WRel F w0 w ρ (lay base suf h)) (hm : ∀ r ∈ suf, base + r.i < maxId) (hnone : noneAt h base suf = true) (hk : kindsFit suf = true) :
    WRel (beside F base ρ suf) w w ρ h := by
  have hsub : ∀ k B, h.get k = some B → (lay base suf h).get k = some B := by
    intro k B hkB
    rcases lay_cases (base := base) k suf hm with ⟨_, h2⟩ | ⟨r, h1, B', sh, h3, h4, h5⟩
    · rw [h2]; exact hkB
    · have := noneAt_spec hnone r h1 (by rw [h3]; simp)
      rw [← h4, hkB] at this; cases this
  refine ⟨rfl, rfl, rfl, Nat.le_refl _, fun _ _ => rfl, ?_, by have := hw.bound; rwa [lay_next] at this, by have := hw.fresh; rwa [lay_next] at this, hw.dom, fun k B l q1 q2 => hw.blk k B l (hsub k B q1) q2, ?_, ?_⟩
  · rintro b (hb | hb | ⟨r, h1, h2, l, h3, h4⟩)
    · exact Nat.lt_of_lt_of_le (hw.inold b (.inl hb)) hw.size
    · exact Nat.lt_of_lt_of_le (hw.inold b (.inr hb)) hw.size
    · rw [← h4]; exact hw.dom _ _ h3
  · intro k B l q1 q2
    obtain ⟨o1, o2⟩ := hw.own k B l (hsub k B q1) q2
    refine ⟨o1, ?_⟩
    rintro (hb | ⟨r, h1, h2, l', h3, h4⟩)
    · exact o2 hb
    · rcases lay_cases (base := base) (base + r.i) suf hm with ⟨g1, _⟩ | ⟨r', g1, B', sh, g3, g4, g5⟩
      · exact g1 r h1 h2 rfl
      · have hz : B'.fz = 0 := kindFit_nb (kindsFit_spec hk r' g1) g3
        have := hw.inj k B l (base + r.i) B' l' (hsub k B q1) q2 (g5 h) h3 (.inr (by omega)) h4.symm
        have hn := noneAt_spec hnone r h1 h2
        rw [← this, q1] at hn; cases hn
  · intro k B l k' B' l' q1 q2 q3 q4 q5 q6
    exact hw.inj k B l k' B' l' (hsub k B q1) q2 (hsub k' B' q3) q4 q5 q6

theorem WRel.up {suf : List Rec} {h h' : Heap} (hw : WRel F w0 w ρ (lay base suf h)) (hm : ∀ r ∈ suf, base + r.i < maxId) (hn : ∀ r ∈ suf, base + r.i < h.next)
    (hw' : WRel (beside F base ρ suf) w w' ρ' h') (ha : Agree h.next ρ ρ') : WRel F w0 w' ρ' (lay base suf h') := by
  have hbs : ∀ b, F.any b → (beside F base ρ suf).any b := fun b hb => hb.elim .inl (fun x => .inr (.inl x))
  have hs : Sub ρ ρ' := hw.sub (by rw [lay_next]; exact ha)
  refine ⟨hw'.os.trans hw.os, hw'.tape.trans hw.tape, hw'.output.trans hw.output, Nat.le_trans hw.size hw'.size, fun b hb => (hw'.old b (hbs b hb)).trans (hw.old b hb), hw.inold,
    by rw [lay_next]; exact hw'.bound, by rw [lay_next]; exact hw'.fresh, hw'.dom, ?_, ?_, ?_⟩
  · intro k B l q1 q2
    rcases lay_cases (base := base) k suf hm with ⟨_, h2⟩ | ⟨r, h1, B', sh, h3, h4, h5⟩
    · rw [h2] at q1
      exact hw'.blk k B l q1 q2
    · rw [h5] at q1; cases q1
      rw [h4, ha _ (hn r h1), ← h4] at q2
      refine (hw.blk k B l (h5 h) q2).mono hs (hw'.old l.b (.inr (.inr ⟨r, h1, by rw [h3]; simp, l, by rw [← h4]; exact q2, rfl⟩)))
  · intro k B l q1 q2
    rcases lay_cases (base := base) k suf hm with ⟨_, h2⟩ | ⟨r, h1, B', sh, h3, h4, h5⟩
    · rw [h2] at q1
      obtain ⟨o1, o2⟩ := hw'.own k B l q1 q2
      exact ⟨o1, fun x => o2 (.inl x)⟩
    · rw [h5] at q1; cases q1
      rw [h4, ha _ (hn r h1), ← h4] at q2
      exact hw.own k B l (h5 h) q2
  · intro k B l k' B' l' q1 q2 q3 q4 q5 q6
    rcases lay_cases (base := base) k suf hm with ⟨_, h2⟩ | ⟨r, h1, B1, sh, h3, h4, h5⟩ <;>
      rcases lay_cases (base := base) k' suf hm with ⟨_, g2⟩ | ⟨r', g1, B1', sh', g3, g4, g5⟩
    · rw [h2] at q1; rw [g2] at q3
      exact hw'.inj k B l k' B' l' q1 q2 q3 q4 q5 q6
    · rw [h2] at q1
      rw [g4, ha _ (hn r' g1), ← g4] at q4
      exact absurd (.inr ⟨r', g1, by rw [g3]; simp, l', by rw [← g4]; exact q4, q6.symm⟩) (hw'.own k B l q1 q2).2
    · rw [g2] at q3
      rw [h4, ha _ (hn r h1), ← h4] at q2
      exact absurd (.inr ⟨r, h1, by rw [h3]; simp, l, by rw [← h4]; exact q2, q6⟩) (hw'.own k' B' l' q3 q4).2
    · rw [h5] at q1; rw [g5] at q3
      rw [h4, ha _ (hn r h1), ← h4] at q2
      rw [g4, ha _ (hn r' g1), ← g4] at q4
      exact hw.inj k B l k' B' l' (by rw [h5]; exact q1) q2 (by rw [g5]; exact q3) q4 q5 q6

/-- what was beside is let go -/
theorem WRel.off {suf : List Rec} {h h' : Heap} (hw : WRel F w0 w ρ (lay base suf h)) (hw' : WRel (beside F base ρ suf) w w' ρ' h') : WRel F w0 w' ρ' h' := by
  have hbs : ∀ b, F.any b → (beside F base ρ suf).any b := fun b hb => hb.elim .inl (fun x => .inr (.inl x))
  exact ⟨hw'.os.trans hw.os, hw'.tape.trans hw.tape, hw'.output.trans hw.output, Nat.le_trans hw.size hw'.size, fun b hb => (hw'.old b (hbs b hb)).trans (hw.old b hb), hw.inold,
    hw'.bound, hw'.fresh, hw'.dom, hw'.blk, fun k B l q1 q2 => ⟨(hw'.own k B l q1 q2).1, fun x => (hw'.own k B l q1 q2).2 (.inl x)⟩, hw'.inj⟩
end worlds
end runs

/-! ## stages -/
theorem stage_at {base : Nat} : ∀ {pre : List Rec} {c : Rec} {suf : List Rec} {bef : List Nat}, (∀ r ∈ pre, r.pan = false) → c.pan = false → c.k = 2 →
    ∃ g ∈ stages base bef (pre ++ c :: suf), g.aft = chainOf suf ∧ g.h = lay base suf c.post ∧ ∀ x ∈ g.bef, x ∈ bef ∨ ∃ r ∈ pre ++ [c], x = r.i
  | [], c, suf, bef, _, hc, hk => by
    refine ⟨⟨c.i :: bef, chainOf suf, lay base suf c.post⟩, ?_, rfl, rfl, ?_⟩
    · simp only [List.nil_append, stages, hk, hc]
      simp
    · intro x hx
      cases hx with
      | head => exact .inr ⟨c, by simp, rfl⟩
      | tail _ hx => exact .inl hx
  | r :: pre, c, suf, bef, hp, hc, hk => by
    have hpr := hp r (by simp)
    simp only [List.cons_append, stages, hpr]
    split
    · obtain ⟨g, h1, h2, h3, h4⟩ := stage_at (base := base) (pre := pre) (c := c) (suf := suf) (bef := r.i :: bef) (fun x hx => hp x (by simp [hx])) hc hk
      refine ⟨g, by simp [h1], h2, h3, fun x hx => ?_⟩
      rcases h4 x hx with h | ⟨r', h, e⟩
      · cases h with
        | head => exact .inr ⟨r, by simp, rfl⟩
        | tail _ h => exact .inl h
      · exact .inr ⟨r', by simp at h ⊢; exact .inr h, e⟩
    · obtain ⟨g, h1, h2, h3, h4⟩ := stage_at (base := base) (pre := pre) (c := c) (suf := suf) (bef := bef) (fun x hx => hp x (by simp [hx])) hc hk
      refine ⟨g, h1, h2, h3, fun x hx => ?_⟩
      rcases h4 x hx with h | ⟨r', h, e⟩
      · exact .inl h
      · exact .inr ⟨r', by simp at h ⊢; exact .inr h, e⟩

theorem chainOf_mem : ∀ {l : List Rec} {x : Nat}, x ∈ chainOf l → ∃ r ∈ l, r.k = 2 ∧ r.i = x
  | [], x, h => by simp [chainOf] at h
  | r :: l, x, h => by
    simp only [chainOf] at h
    split at h
    · rename_i hk
      cases h with
      | head => exact ⟨r, by simp, Nat.eq_of_beq_eq_true hk, rfl⟩
      | tail _ h =>
        obtain ⟨r', h1, h2⟩ := chainOf_mem h
        exact ⟨r', by simp [h1], h2⟩
    · obtain ⟨r', h1, h2⟩ := chainOf_mem h
      exact ⟨r', by simp [h1], h2⟩

theorem readsOk_spec {E : Env} {ms : List Nat} {ss : List Stage} : ∀ {l : List Rec}, readsOk E ms ss l = true → ∀ r ∈ l, r.k = 0 → r.skip = false → ∀ g ∈ ss,
    (∀ c ∈ g.bef, bit (mkA ms c) r.i = false) → (∀ c ∈ g.aft, bit (mkA ms r.i) c = false) → evOp E g.h r.t r.o.op = some (.val r.v)
  | [], _, r, hr => by cases hr
  | x :: l, h, r, hr => by
    simp only [readsOk, Bool.and_eq_true] at h
    cases hr with
    | tail _ hr => exact readsOk_spec h.2 r hr
    | head =>
      intro hk hs g hg h1 h2
      have h3 := h.1
      rw [hk, hs] at h3
      rw [show Nat.beq 0 0 = true from rfl] at h3
      simp only [Bool.not_true, Bool.false_or, List.all_eq_true] at h3
      have h4 := h3 g hg
      unfold readAt at h4
      simp only [Bool.or_eq_true, Bool.not_eq_true', Bool.and_eq_false_iff] at h4
      rcases h4 with (h4 | h4) | h4
      · have : g.bef.all (fun c => !bit ((nth ms c).getD 0) x.i) = true := List.all_eq_true.2 fun c hc => by
          have := h1 c hc; unfold mkA at this; rw [this]; rfl
        rw [this] at h4; cases h4
      · have : g.aft.all (fun c => !bit ((nth ms x.i).getD 0) c) = true := List.all_eq_true.2 fun c hc => by
          have := h2 c hc; unfold mkA at this; rw [this]; rfl
        rw [this] at h4; cases h4
      · split at h4
        · rename_i v hv
          rw [hv, beqA_eq 20 _ _ h4]
        · cases h4

end Go.Ev
