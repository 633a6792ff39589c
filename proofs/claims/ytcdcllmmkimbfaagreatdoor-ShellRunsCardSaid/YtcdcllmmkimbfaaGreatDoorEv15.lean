/- Operations in an open order: whatever the order, they come to the same. -/
import Derived.Test.YtcdcllmmkimbfaaGreatDoorEv14
set_option linter.unusedSimpArgs false
set_option linter.unusedVariables false
namespace Go.Ev

structure Fixed (E : Env) (call : CallF) (ops : Array Oper) (ms : List Nat) (base n : Nat) (t0 : PT AV) (h0 : Heap) (rs : List Rec) (tN : PT AV) (hN : Heap) : Prop where
  masks : masks ops.toList [] = some ms
  tmps : tmpsOk ops.toList ms = true
  runs : Runs E call ops.toList base n t0 h0 rs tN hN
  fit : kindsFit rs = true
  topo : topoOk ms rs 0 false = true
  clean : cleanOk base rs = true
  reads : readsOk E ms (⟨[], chainOf rs, lay base rs h0⟩ :: stages base [] rs) rs = true
  covers : covers rs ms (panOf rs) ops.toList.length = true
  next : h0.next = base + ops.toList.length
  low : base + ops.toList.length < maxId
  small : n ≤ maxId

section
variable {E : Env} {call : CallF} {ops : Array Oper} {ms : List Nat} {base n : Nat} {t0 tN : PT AV} {h0 hN : Heap} {rs : List Rec}

theorem lt_of_at {l : List Oper} {i : Nat} {o : Oper} (h : l[i]? = some o) : i < l.length := by
  rcases Nat.lt_or_ge i l.length with h' | h'
  · exact h'
  · rw [List.getElem?_eq_none h'] at h; cases h

/-- where a record stands -/
theorem Fixed.here (X : Fixed E call ops ms base n t0 h0 rs tN hN) {r : Rec} (hr : r ∈ rs) : ∃ pre suf tm hm, rs = pre ++ r :: suf ∧ Runs E call ops.toList base n t0 h0 pre tm hm ∧
    Runs E call ops.toList base n tm hm (r :: suf) tN hN := by
  obtain ⟨pre, suf, e⟩ := List.append_of_mem hr
  have := X.runs
  rw [e] at this
  obtain ⟨tm, hm, h1, h2⟩ := this.split
  exact ⟨pre, suf, tm, hm, e, h1, h2⟩

theorem Fixed.topoAt (X : Fixed E call ops ms base n t0 h0 rs tN hN) {pre suf : List Rec} {r : Rec} (e : rs = pre ++ r :: suf) :
    (∀ x ∈ pre, x.pan = false → x.i ≠ r.i) ∧ (r.k = 2 → (∀ j, (∃ x ∈ pre, x.pan = false ∧ x.i = j) → bit (mkA ms r.i) j = true) ∧ ∀ x ∈ pre, x.pan = false) ∧
    (∀ j, bit (mkA ms r.i) j = true → ∃ x ∈ pre, x.pan = false ∧ x.i = j) ∧ (r.pan = true → ∀ x ∈ suf, x.i ≠ r.i) := by
  have ht := X.topo
  rw [e] at ht
  obtain ⟨h1, h2, h3, h4⟩ := topo_at ht
  refine ⟨fun x hx hp he => ?_, fun hk => ?_, fun j hj => ?_, h4⟩
  · have : bit (accDn pre 0) r.i = true := accDn_bit.2 (.inr ⟨x, hx, hp, he⟩)
    rw [h1] at this; cases this
  · obtain ⟨a1, _, a3⟩ := h2 hk
    exact ⟨fun j hj => by rw [a1]; exact accDn_bit.2 (.inr hj), a3⟩
  · rcases accDn_bit.1 (h3 j hj) with h | h
    · rw [bit_zero] at h; cases h
    · exact h

theorem Fixed.uniq (X : Fixed E call ops ms base n t0 h0 rs tN hN) {a b : Rec} (ha : a ∈ rs) (hb : b ∈ rs) (pa : a.pan = false) (pb : b.pan = false) (e : a.i = b.i) : a = b := by
  obtain ⟨pre, suf, e1⟩ := List.append_of_mem ha
  have hb' := hb
  rw [e1, List.mem_append, List.mem_cons] at hb'
  rcases hb' with h | h | h
  · exact absurd e.symm ((X.topoAt e1).1 b h pb)
  · exact h.symm
  · obtain ⟨s1, s2, e2⟩ := List.append_of_mem h
    have e3 : rs = (pre ++ a :: s1) ++ b :: s2 := by rw [e1, e2]; simp
    exact absurd e ((X.topoAt e3).1 a (by simp) pa)

theorem Fixed.panNe (X : Fixed E call ops ms base n t0 h0 rs tN hN) {p b : Rec} (hp : p ∈ rs) (hb : b ∈ rs) (pp : p.pan = true) (pb : b.pan = false) : b.i ≠ p.i := by
  obtain ⟨pre, suf, e1⟩ := List.append_of_mem hp
  have hb' := hb
  rw [e1, List.mem_append, List.mem_cons] at hb'
  rcases hb' with h | h | h
  · exact (X.topoAt e1).1 b h pb
  · rw [h, pp] at pb; cases pb
  · exact (X.topoAt e1).2.2.2 pp b h

theorem Fixed.at_ (X : Fixed E call ops ms base n t0 h0 rs tN hN) {r : Rec} (hr : r ∈ rs) : ops.toList[r.i]? = some r.o ∧ r.k = kindOf E.P r.o.op := X.runs.at_ r hr

theorem Fixed.id (X : Fixed E call ops ms base n t0 h0 rs tN hN) {r : Rec} (hr : r ∈ rs) : base + r.i < base + ops.toList.length := by
  have := lt_of_at (X.at_ hr).1
  omega

/-! ## the slots -/
def Written (rs : List Rec) (L : Nat → Bool) (t0 tD : PT AV) (d : Nat) : Prop :=
  (∃ r ∈ rs, r.pan = false ∧ L r.i = true ∧ r.o.dst = some d ∧ getT tD d = r.v) ∨ ((∀ r ∈ rs, r.pan = false → L r.i = true → r.o.dst ≠ some d) ∧ getT tD d = getT t0 d)

structure Slots (E : Env) (n : Nat) (rs : List Rec) (t0 : PT AV) (L : Nat → Bool) (ρ : Ren) (df : List Deferred) (a : Act) : Prop where
  ex : ∃ tD, TRel E.G ρ tD a.tmps ∧ ∀ d, Written rs L t0 tD d
  sz : a.tmps.size = n
  df : a.defers = df

def Lo (L : Nat → Bool) (i : Nat) : Nat → Bool := fun j => L j || Nat.beq j i

theorem Lo_iff {L : Nat → Bool} {i j : Nat} : Lo L i j = true ↔ L j = true ∨ j = i := by
  simp only [Lo, Bool.or_eq_true]
  exact or_congr Iff.rfl ⟨Nat.eq_of_beq_eq_true, fun e => by simp [e]⟩

theorem Fixed.dsts (X : Fixed E call ops ms base n t0 h0 rs tN hN) {a b : Rec} {d : Nat} (ha : a ∈ rs) (hb : b ∈ rs) (da : a.o.dst = some d) (db : b.o.dst = some d) : a.i = b.i := by
  by_cases e : b.i = a.i
  · exact e.symm
  · exact absurd db (tmpsOk_spec X.tmps (X.at_ ha).1 (X.at_ hb).1 e da).1

theorem Fixed.look (X : Fixed E call ops ms base n t0 h0 rs tN hN) {pre suf : List Rec} {r : Rec} {tm : PT AV} {hm : Heap} (e : rs = pre ++ r :: suf) (hpre : Runs E call ops.toList base n t0 h0 pre tm hm)
    {L : Nat → Bool} (down : ∀ i, L i = true → ∀ j, bit (mkA ms i) j = true → L j = true) (hr : L r.i = false) (hmask : ∀ j, bit (mkA ms r.i) j = true → L j = true) {tD : PT AV}
    (hD : ∀ d, Written rs L t0 tD d) : ∀ d ∈ looks ops.toList r.o, getT tD d = getT tm d := by
  have hrm : r ∈ rs := by rw [e]; simp
  have hsub : ∀ x ∈ pre, x ∈ rs := fun x hx => by rw [e]; simp [hx]
  obtain ⟨g1, g2, g3, g4⟩ := X.topoAt e
  intro d hd
  rcases hD d with ⟨a, a1, a2, a3, a4, a5⟩ | ⟨b1, b2⟩
  · have hne : r.i ≠ a.i := fun x => by rw [x, a3] at hr; cases hr
    rcases (tmpsOk_spec X.tmps (X.at_ a1).1 (X.at_ hrm).1 hne a4).2 hd with q | q
    · obtain ⟨x, x1, x2, x3⟩ := g3 _ q
      have : x = a := X.uniq (hsub x x1) a1 x2 a2 x3
      rcases hpre.writes X.small d with ⟨y, y1, y2, y3, y4⟩ | ⟨y1, y2⟩
      · have : y = a := X.uniq (hsub y y1) a1 y2 a2 (X.dsts (hsub y y1) a1 y3 a4)
        rw [a5, y4, this]
      · exact absurd a4 (this ▸ y1 x x1 x2)
    · have := down _ a3 _ q
      rw [hr] at this; cases this
  · rcases hpre.writes X.small d with ⟨y, y1, y2, y3, y4⟩ | ⟨y1, y2⟩
    · exfalso
      have hne : r.i ≠ y.i := fun x => g1 y y1 y2 x.symm
      rcases (tmpsOk_spec X.tmps (X.at_ (hsub y y1)).1 (X.at_ hrm).1 hne y3).2 hd with q | q
      · exact b1 y (hsub y y1) y2 (hmask _ q) y3
      · obtain ⟨p1, p2, e2⟩ := List.append_of_mem y1
        have e3 : rs = p1 ++ y :: (p2 ++ r :: suf) := by rw [e, e2]; simp
        obtain ⟨z, z1, z2, z3⟩ := (X.topoAt e3).2.2.1 _ q
        exact g1 z (by rw [e2]; simp [z1]) z2 z3
    · rw [b2, y2]

theorem Slots.put (X : Fixed E call ops ms base n t0 h0 rs tN hN) {L : Nat → Bool} {ρ ρ' : Ren} {df : List Deferred} {a : Act} (hs : Slots E n rs t0 L ρ df a) {r : Rec} (hr : r ∈ rs) (hp : r.pan = false)
    {t t' : PT AV} (hset : setT t n r.o.dst r.v = some t') (hsub : Sub ρ ρ') {v' : Value} (hv : VRel ρ' r.v v') : Slots E n rs t0 (Lo L r.i) ρ' df (a.put r.o.dst v') := by
  obtain ⟨tD, h1, h2⟩ := hs.ex
  have h1' := h1.mono hsub
  have key : ∃ tD', setT tD n r.o.dst r.v = some tD' := by
    unfold setT at hset ⊢
    split at hset
    · exact ⟨tD, by simp⟩
    · rename_i d heq
      split at hset
      · rename_i hlt
        simp only [hlt, if_true]
        exact ⟨_, rfl⟩
      · cases hset
  obtain ⟨tD', hD'⟩ := key
  obtain ⟨k1, k2, k3⟩ := setT_ok h1' hs.sz X.small hv hD'
  refine ⟨⟨tD', k1, fun d => ?_⟩, k2, k3.trans hs.df⟩
  have hg := getT_setT X.small hD' d
  by_cases hd : r.o.dst = some d
  · rw [if_pos hd] at hg
    exact .inl ⟨r, hr, hp, Lo_iff.2 (.inr rfl), hd, hg⟩
  · rw [if_neg hd] at hg
    rcases h2 d with ⟨x, x1, x2, x3, x4, x5⟩ | ⟨b1, b2⟩
    · exact .inl ⟨x, x1, x2, Lo_iff.2 (.inl x3), x4, hg.trans x5⟩
    · refine .inr ⟨fun x hx hpx hL => ?_, hg.trans b2⟩
      rcases Lo_iff.1 hL with h | h
      · exact b1 x hx hpx h
      · rw [X.uniq hx hr hpx hp h]; exact hd

/-! ## the heap -/
variable {F : Frm} {w0 : World}

structure Hp (E : Env) (call : CallF) (ops : Array Oper) (base n : Nat) (t0 : PT AV) (h0 : Heap) (rs : List Rec) (tN : PT AV) (hN : Heap) (F : Frm) (w0 : World) (L : Nat → Bool) (ρ : Ren) (w : World) : Prop where
  ex : ∃ pre suf tm H, rs = pre ++ suf ∧ Runs E call ops.toList base n t0 h0 pre tm H ∧ Runs E call ops.toList base n tm H suf tN hN ∧ (pre = [] ∨ ∃ pre0 c, pre = pre0 ++ [c] ∧ c.k = 2) ∧
    (∀ r ∈ pre, r.pan = false ∧ L r.i = true) ∧ (∀ r ∈ suf, r.k = 2 → r.pan = false → L r.i = false) ∧ base + ops.toList.length ≤ H.next ∧ WRel F w0 w ρ (lay base suf H)
  blank : ∀ r ∈ rs, r.pan = false → L r.i = false → ρ (base + r.i) = none

theorem Runs.nilInv {t t' : PT AV} {h h' : Heap} {all : List Oper} (q : Runs E call all base n t h [] t' h') : t = t' ∧ h = h' := by
  cases q; exact ⟨rfl, rfl⟩

theorem Runs.lastPost {all : List Oper} {pre : List Rec} {c : Rec} {t t' : PT AV} {h h' : Heap} (q : Runs E call all base n t h (pre ++ [c]) t' h') (hp : c.pan = false) : h' = c.post := by
  obtain ⟨tm, hm, _, q2⟩ := q.split
  cases q2 with
  | ok s d =>
    cases d
    exact s.post.symm
  | pan s d => rw [s.pan] at hp; cases hp

theorem Fixed.nextLt (X : Fixed E call ops ms base n t0 h0 rs tN hN) {pre suf : List Rec} {tm : PT AV} {H : Heap} (e : rs = pre ++ suf) (hq : Runs E call ops.toList base n t0 h0 pre tm H)
    (hc : pre = [] ∨ ∃ pre0 c, pre = pre0 ++ [c] ∧ c.k = 2) (hp : ∀ r ∈ pre, r.pan = false) : H.next < maxId := by
  rcases hc with rfl | ⟨pre0, c, rfl, hk⟩
  · rw [← hq.nilInv.2, X.next]; exact X.low
  · rw [hq.lastPost (hp c (by simp))]
    exact (kindFit_lt (kindsFit_spec X.fit c (by rw [e]; simp))).2

theorem Hp.grow (X : Fixed E call ops ms base n t0 h0 rs tN hN) {L : Nat → Bool} {ρ : Ren} {w : World} (hh : Hp E call ops base n t0 h0 rs tN hN F w0 L ρ w) {r : Rec} (hr : r ∈ rs) (hp : r.pan = false) (hk : r.k ≠ 2) :
    Hp E call ops base n t0 h0 rs tN hN F w0 (Lo L r.i) ρ w := by
  obtain ⟨pre, suf, tm, H, e, q1, q2, q3, q4, q5, q6, q7⟩ := hh.ex
  refine ⟨⟨pre, suf, tm, H, e, q1, q2, q3, fun x hx => ⟨(q4 x hx).1, Lo_iff.2 (.inl (q4 x hx).2)⟩, fun x hx h2 hpx => ?_, q6, q7⟩, fun x hx hpx hL => hh.blank x hx hpx ?_⟩
  · cases hq : Lo L r.i x.i with
    | false => rfl
    | true =>
      rcases Lo_iff.1 hq with h | h
      · rw [q5 x hx h2 hpx] at h; cases h
      · have := X.uniq (by rw [e]; simp [hx]) hr hpx hp h
        exact absurd (this ▸ h2) hk
  · cases hq : L x.i with
    | false => rfl
    | true => rw [Lo_iff.2 (.inl hq)] at hL; cases hL

/-- one of kind 2 comes up: all that stands ahead of it in the row has come up -/
theorem Hp.turn (X : Fixed E call ops ms base n t0 h0 rs tN hN) {L : Nat → Bool} {ρ : Ren} {w : World} (hh : Hp E call ops base n t0 h0 rs tN hN F w0 L ρ w) {r : Rec} (hr : r ∈ rs) (hk : r.k = 2)
    (hL : L r.i = false) (hmask : ∀ j, bit (mkA ms r.i) j = true → L j = true) :
    ∃ pre suf tm hm, rs = pre ++ r :: suf ∧ Runs E call ops.toList base n t0 h0 pre tm hm ∧ Runs E call ops.toList base n tm hm (r :: suf) tN hN ∧ (∀ x ∈ pre, x.pan = false ∧ L x.i = true) ∧
      (∀ x ∈ suf, x.k = 2 → x.pan = false → L x.i = false) ∧ base + ops.toList.length ≤ hm.next ∧ WRel F w0 w ρ (lay base (r :: suf) hm) := by
  obtain ⟨pre, suf, tm, H, e, q1, q2, q3, q4, q5, q6, q7⟩ := hh.ex
  have hrs : r ∈ suf := by
    have := hr
    rw [e, List.mem_append] at this
    rcases this with h | h
    · rw [(q4 r h).2] at hL; cases hL
    · exact h
  obtain ⟨mid, suf', e2⟩ := List.append_of_mem hrs
  have e3 : rs = (pre ++ mid) ++ r :: suf' := by rw [e, e2]; simp
  obtain ⟨g1, g2, g3, g4⟩ := X.topoAt e3
  obtain ⟨g5, g6⟩ := g2 hk
  have hall : ∀ x ∈ pre ++ mid, x.pan = false ∧ L x.i = true := fun x hx => ⟨g6 x hx, hmask _ (g5 _ ⟨x, hx, g6 x hx, rfl⟩)⟩
  rw [e2] at q2
  obtain ⟨tm', hm, d1, d2⟩ := q2.split
  have hmid2 : ∀ x ∈ mid, x.k ≠ 2 := fun x hx h2 => by
    have h1 := hall x (by simp [hx])
    have := q5 x (by rw [e2]; simp [hx]) h2 h1.1
    rw [h1.2] at this; cases this
  have hfit : kindsFit mid = true := by
    have := X.fit
    rw [e3] at this
    exact kindsFit_mid this
  obtain ⟨c1, c2⟩ := d1.calm hfit hmid2
  refine ⟨pre ++ mid, suf', tm', hm, e3, q1.append d1, d2, hall, fun x hx h2 hp => q5 x (by rw [e2]; simp [hx]) h2 hp, ?_, ?_⟩
  · rw [c1, lay_next]; exact q6
  · rw [e2, lay_append, ← c1] at q7; exact q7
where
  kindsFit_mid {a b c : List Rec} (h : kindsFit ((a ++ b) ++ c) = true) : kindsFit b = true := by
    have : ∀ (x y : List Rec), kindsFit (x ++ y) = (kindsFit x && kindsFit y) := by
      intro x y
      induction x with
      | nil => simp [kindsFit]
      | cons r x ih => simp only [List.cons_append, kindsFit, ih, Bool.and_assoc]
    rw [this, this] at h
    simp only [Bool.and_eq_true] at h
    exact h.1.2

theorem kindsFit_suf {a b : List Rec} (h : kindsFit (a ++ b) = true) : kindsFit b = true := by
  induction a with
  | nil => exact h
  | cons r x ih =>
    simp only [List.cons_append, kindsFit, Bool.and_eq_true] at h
    exact ih h.2

theorem Hp.turned (X : Fixed E call ops ms base n t0 h0 rs tN hN) {L : Nat → Bool} {ρ ρ' : Ren} {w w' : World} (hh : Hp E call ops base n t0 h0 rs tN hN F w0 L ρ w) {pre suf : List Rec} {r : Rec} {tm t1 : PT AV} {hm h1 : Heap}
    (e : rs = pre ++ r :: suf) (q1 : Runs E call ops.toList base n t0 h0 pre tm hm) (s : StepOk E call ops.toList base n r tm hm t1 h1) (q2 : Runs E call ops.toList base n t1 h1 suf tN hN) (hk : r.k = 2)
    (q4 : ∀ x ∈ pre, x.pan = false ∧ L x.i = true) (q5 : ∀ x ∈ suf, x.k = 2 → x.pan = false → L x.i = false) (q6 : base + ops.toList.length ≤ hm.next) (hn : hm.next ≤ h1.next)
    (ha : Agree hm.next ρ ρ') (hw : WRel F w0 w' ρ' (lay base suf h1)) : Hp E call ops base n t0 h0 rs tN hN F w0 (Lo L r.i) ρ' w' := by
  have hr : r ∈ rs := by rw [e]; simp
  refine ⟨⟨pre ++ [r], suf, t1, h1, by rw [e]; simp, q1.append (.ok s .nil), q2, .inr ⟨pre, r, rfl, hk⟩, fun x hx => ?_, fun x hx h2 hp => ?_, by omega, hw⟩, fun x hx hp hL => ?_⟩
  · rcases List.mem_append.1 hx with h | h
    · exact ⟨(q4 x h).1, Lo_iff.2 (.inl (q4 x h).2)⟩
    · simp only [List.mem_singleton] at h
      subst h
      exact ⟨s.pan, Lo_iff.2 (.inr rfl)⟩
  · cases hq : Lo L r.i x.i with
    | false => rfl
    | true =>
      rcases Lo_iff.1 hq with h | h
      · rw [q5 x hx h2 hp] at h; cases h
      · obtain ⟨s1, s2, e2⟩ := List.append_of_mem hx
        have e3 : rs = (pre ++ r :: s1) ++ x :: s2 := by rw [e, e2]; simp
        exact absurd h.symm ((X.topoAt e3).1 r (by simp) s.pan)
  · rw [ha _ (Nat.lt_of_lt_of_le (X.id hx) q6)]
    refine hh.blank x hx hp ?_
    cases hq : L x.i with
    | false => rfl
    | true => rw [Lo_iff.2 (.inl hq)] at hL; cases hL

/-- a new block comes up -/
theorem Hp.fill (X : Fixed E call ops ms base n t0 h0 rs tN hN) {L : Nat → Bool} {ρ : Ren} {w : World} (hh : Hp E call ops base n t0 h0 rs tN hN F w0 L ρ w) {r : Rec} (hr : r ∈ rs) (hp : r.pan = false) (hk : r.k = 1)
    (hL : L r.i = false) {B : Blk} {sh : Option (Nat × Nat)} (hb : r.nb = some (B, sh)) {cs : Array Value} (hv : VsRel ρ B.cells cs.toList) :
    Hp E call ops base n t0 h0 rs tN hN F w0 (Lo L r.i) (ρ.upd (base + r.i) ⟨w.heap.size, 0, cs.size⟩) { w with heap := w.heap.push (.cells cs B.elem) } ∧ Sub ρ (ρ.upd (base + r.i) ⟨w.heap.size, 0, cs.size⟩) := by
  have hnone := hh.blank r hr hp hL
  have hsub := Ren.upd_sub (l := ⟨w.heap.size, 0, cs.size⟩) hnone
  obtain ⟨pre, suf, tm, H, e, q1, q2, q3, q4, q5, q6, q7⟩ := hh.ex
  have hz : B.fz = 0 := kindFit_nb (kindsFit_spec X.fit r hr) hb
  have hlt := X.id hr
  have hlen := hv.length
  have hrs : r ∈ suf := by
    have := hr
    rw [e, List.mem_append] at this
    rcases this with h | h
    · rw [(q4 r h).2] at hL; cases hL
    · exact h
  have hnew := q7.new (k := base + r.i) (n := H.next) (B := B) (cs := cs) (fz := (0, 0)) hnone (by omega) (by rw [lay_next]; exact Nat.le_refl _) (by have := q7.bound; rwa [lay_next] at this)
    (by rw [List.take_of_length_le (by omega)]; exact hv) (by rw [hlen]; simp) (fun _ => by rw [hlen]; simp) (by rw [hz]; rfl)
  refine ⟨⟨⟨pre, suf, tm, H, e, q1, q2, q3, fun x hx => ⟨(q4 x hx).1, Lo_iff.2 (.inl (q4 x hx).2)⟩, fun x hx h2 hpx => ?_, q6, ?_⟩, fun x hx hpx hLx => ?_⟩, hsub⟩
  · cases hq : Lo L r.i x.i with
    | false => rfl
    | true =>
      rcases Lo_iff.1 hq with h | h
      · rw [q5 x hx h2 hpx] at h; cases h
      · have := X.uniq (by rw [e]; simp [hx]) hr hpx hp h
        rw [this, hk] at h2; cases h2
  · refine hnew.congr (fun k l hkl => ?_) (by rw [lay_next])
    have hg : ∀ j, ({ (lay base suf H).put (base + r.i) (some B) with next := H.next } : Heap).get j = if j = base + r.i then some B else (lay base suf H).get j := fun j => Heap.get_put (by have := X.low; omega) j
    rw [hg]
    split
    · rename_i ek
      subst ek
      rcases lay_cases (base := base) (base + r.i) suf (fun x hx => by have := X.id (r := x) (by rw [e]; simp [hx]); have := X.low; omega) with ⟨g1, _⟩ | ⟨x, g1, B', sh', g3, g4, g5⟩
      · exact absurd rfl (g1 r hrs (by rw [hb]; simp))
      · have hx : x ∈ rs := by rw [e]; simp [g1]
        have hxi : r.i = x.i := by omega
        have hpx : x.pan = false := by
          cases hpp : x.pan with
          | false => rfl
          | true => exact absurd hxi (X.panNe hx hr hpp hp)
        have := X.uniq hx hr hpx hp hxi.symm
        subst this
        rw [hb] at g3
        cases g3
        exact g5 _
    · rfl
  · have hne : base + x.i ≠ base + r.i := fun ee => by
      have : x.i = r.i := by omega
      rw [Lo_iff.2 (.inr this)] at hLx; cases hLx
    unfold Ren.upd
    rw [if_neg hne]
    refine hh.blank x hx hpx ?_
    cases hq : L x.i with
    | false => rfl
    | true => rw [Lo_iff.2 (.inl hq)] at hLx; cases hLx

end
end Go.Ev
