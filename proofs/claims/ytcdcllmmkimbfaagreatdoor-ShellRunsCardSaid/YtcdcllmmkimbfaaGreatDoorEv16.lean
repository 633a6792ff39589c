/- Operations in an open order: the walk through whatever order; draws are sound. -/
import Derived.Test.YtcdcllmmkimbfaaGreatDoorEv15
set_option linter.unusedSimpArgs false
set_option linter.unusedVariables false
namespace Go.Ev

section
variable {E : Env} {call : CallF} {ops : Array Oper} {ms : List Nat} {base n : Nat} {t0 tN : PT AV} {h0 hN : Heap} {rs : List Rec} {F : Frm} {w0 : World}

/-- what a record says of the operation, whatever has come up beside -/
theorem Hp.stage (X : Fixed E call ops ms base n t0 h0 rs tN hN) {L : Nat → Bool} {ρ : Ren} {w : World} (hh : Hp E call ops base n t0 h0 rs tN hN F w0 L ρ w) {r : Rec} (hr : r ∈ rs)
    (down : ∀ i, L i = true → ∀ j, bit (mkA ms i) j = true → L j = true) (hpan : ∀ x ∈ rs, x.pan = true → L x.i = false) (hL : L r.i = false) (hmask : ∀ j, bit (mkA ms r.i) j = true → L j = true) (hk : r.k = 0) (hs : r.skip = false) :
    ∃ H : Heap, evOp E H r.t r.o.op = some (.val r.v) ∧ H.next < maxId ∧ WRel F w0 w ρ H := by
  obtain ⟨pre, suf, tm, H, e, q1, q2, q3, q4, q5, q6, q7⟩ := hh.ex
  have hnx := X.nextLt e q1 q3 (fun x hx => (q4 x hx).1)
  refine ⟨lay base suf H, ?_, by rw [lay_next]; exact hnx, q7⟩
  have haft : ∀ c ∈ chainOf suf, bit (mkA ms r.i) c = false := by
    intro c hc
    obtain ⟨x, x1, x2, x3⟩ := chainOf_mem hc
    cases hq : bit (mkA ms r.i) c with
    | false => rfl
    | true =>
      have h1 := hmask _ hq
      have hx : x ∈ rs := by rw [e]; simp [x1]
      cases hp : x.pan with
      | true => rw [← x3, hpan x hx hp] at h1; cases h1
      | false => rw [← x3, q5 x x1 x2 hp] at h1; cases h1
  rcases q3 with rfl | ⟨pre0, c, rfl, hc2⟩
  · have hH := q1.nilInv.2
    rw [List.nil_append] at e
    have := readsOk_spec X.reads r hr hk hs ⟨[], chainOf rs, lay base rs h0⟩ (by simp) (fun c hc => by cases hc) (by rw [e]; exact haft)
    rw [← hH, ← e]; exact this
  · have hcp := q4 c (by simp)
    have hH := q1.lastPost hcp.1
    have e2 : rs = pre0 ++ c :: suf := by rw [e]; simp
    obtain ⟨g, g1, g2, g3, g4⟩ := stage_at (base := base) (pre := pre0) (c := c) (suf := suf) (bef := []) (fun x hx => (q4 x (by simp [hx])).1) hcp.1 hc2
    rw [← e2] at g1
    have := readsOk_spec X.reads r hr hk hs g (by simp [g1]) (fun x hx => ?_) (by rw [g2]; exact haft)
    · rw [hH, ← g3]; exact this
    · rcases g4 x hx with h | ⟨y, h, ey⟩
      · cases h
      · cases hq : bit (mkA ms x) r.i with
        | false => rfl
        | true =>
          have := down x (by rw [ey]; exact (q4 y h).2) _ hq
          rw [hL] at this; cases this

structure Inv (E : Env) (call : CallF) (ops : Array Oper) (ms : List Nat) (base n : Nat) (t0 : PT AV) (h0 : Heap) (rs : List Rec) (tN : PT AV) (hN : Heap) (F : Frm) (w0 : World) (ρ0 : Ren) (df : List Deferred) (L : Nat → Bool) (a : Act) (w : World) : Prop where
  down : ∀ i, L i = true → ∀ j, bit (mkA ms i) j = true → L j = true
  npan : ∀ x ∈ rs, x.pan = true → L x.i = false
  ex : ∃ ρ, Slots E n rs t0 L ρ df a ∧ Hp E call ops base n t0 h0 rs tN hN F w0 L ρ w ∧ Agree base ρ0 ρ

theorem Inv.step (hE : EnvOk E) (hcall : CallSound E call) (X : Fixed E call ops ms base n t0 h0 rs tN hN) {ρ0 : Ren} {df : List Deferred} {L : Nat → Bool} {a : Act} {w : World}
    (hI : Inv E call ops ms base n t0 h0 rs tN hN F w0 ρ0 df L a w) {i : Nat} {o : Oper} (hi : ops[i]? = some o) (hL : L i = false)
    (hready : ∀ e ∈ o.after.toList, bindA e = true → L e.on = true) {K : Act → World → Prop} {Q : Exit → Act → World → Prop}
    (hK : ∀ a' w', Inv E call ops ms base n t0 h0 rs tN hN F w0 ρ0 df (Lo L i) a' w' → K a' w')
    (hQ : ∀ p ∈ rs, p.pan = true → ∀ ρ' v' w', Agree base ρ0 ρ' → base ≤ p.post.next → VRel ρ' p.v v' → WRel F w0 w' ρ' p.post → Q (.panic [{ v := v', recovered := false }]) a w') :
    wpOp E.P ops Q i K a w := by
  have hi' : ops.toList[i]? = some o := by rw [Array.getElem?_toList]; exact hi
  have hmask : ∀ j, bit (mkA ms i) j = true → L j = true := by
    intro j hj
    obtain ⟨e, e1, e2, e3⟩ := (mask_edges X.masks hi').2 j hj
    rcases e3 with rfl | e3
    · exact hready e e1 e2
    · exact hI.down _ (hready e e1 e2) j e3
  have hcov : ∃ r ∈ rs, r.i = i := by
    have hc := X.covers
    have key : ∀ m, covers rs ms (panOf rs) m = true → ∀ j, j < m → j ∈ rs.map Rec.i ∨ ∃ p ∈ rs, p.pan = true ∧ bit (mkA ms j) p.i = true := by
      intro m
      induction m with
      | zero => intro _ j hj; omega
      | succ m ih =>
        intro h j hj
        simp only [covers, Bool.and_eq_true, Bool.or_eq_true] at h
        by_cases hjm : j = m
        · subst hjm
          rcases h.1 with h1 | h1
          · exact .inl (memN_iff.1 h1)
          · split at h1
            · rename_i q hq
              have hpq := panOf_spec hq
              exact .inr ⟨q, hpq.1, hpq.2, h1⟩
            · cases h1
        · exact ih h.2 j (by omega)
    rcases key _ hc i (lt_of_at hi') with h | ⟨p, p1, p2, p3⟩
    · obtain ⟨r, r1, r2⟩ := List.mem_map.1 h
      exact ⟨r, r1, r2⟩
    · have := hmask _ p3
      rw [hI.npan p p1 p2] at this; cases this
  obtain ⟨r, hr, hri⟩ := hcov
  subst hri
  have hro : o = r.o := by
    have := (X.at_ hr).1
    rw [hi'] at this; exact Option.some.inj this
  subst hro
  obtain ⟨ρ, hS, hH, hA⟩ := hI.ex
  obtain ⟨tD, ht, hD⟩ := hS.ex
  obtain ⟨pre, suf, tm, hm, e, q1, q2⟩ := X.here hr
  have hlook := X.look e q1 hI.down hL hmask hD
  have hg := guard_congr hlook
  have hev : ∀ H, evOp E H tD r.o.op = evOp E H tm r.o.op := fun H => evOp_congr fun d hd => hlook d (look_op hd)
  have hfit := kindsFit_spec X.fit r hr
  have invNext : ∀ {ρ' : Ren} {v' : Value} {w' : World} {t' t1 : PT AV}, r.pan = false → setT t1 n r.o.dst r.v = some t' → Sub ρ ρ' → VRel ρ' r.v v' → Agree base ρ ρ' →
      Hp E call ops base n t0 h0 rs tN hN F w0 (Lo L r.i) ρ' w' → K (a.put r.o.dst v') w' := by
    intro ρ' v' w' t' t1 hp hset hsub hv hag hh
    refine hK _ _ ⟨fun x hx j hj => ?_, fun x hx hpx => ?_, ρ', hS.put X hr hp hset hsub hv, hh, hA.trans hag (Nat.le_refl _)⟩
    · rcases Lo_iff.1 hx with h | h
      · exact Lo_iff.2 (.inl (hI.down x h j hj))
      · rw [h] at hj; exact Lo_iff.2 (.inl (hmask j hj))
    · cases hq : Lo L r.i x.i with
      | false => rfl
      | true =>
        rcases Lo_iff.1 hq with h | h
        · rw [hI.npan x hx hpx] at h; cases h
        · exact absurd h.symm (X.panNe hx hr hpx hp)
  unfold wpOp
  rw [hi]
  simp only
  cases q2 with
  | ok s d =>
    rename_i t1 h1
    rcases s.what with ⟨w1, w2, w3, w4, w5⟩ | ⟨w1, w2, w3⟩
    · -- the guard is not met
      rw [← hg] at w2
      rw [guard_ok ht w2, if_neg (by simp)]
      refine invNext (v' := undef) (w' := w) s.pan s.set (fun _ _ h => h) (by rw [w3]; exact VRel.undef ρ) (Agree.refl _ _) ?_
      by_cases hk : r.k = 2
      · obtain ⟨pre', suf', tm', hm', e', p1, p2, p3, p4, p5, p6⟩ := hH.turn X hr hk hL hmask
        cases p2 with
        | pan s' d' =>
          have := s'.pan
          rw [s.pan] at this; cases this
        | ok s' d' =>
          rename_i t1' h1'
          have hh1 : h1' = hm' := by
            rcases s'.what with ⟨_, _, _, x, _⟩ | ⟨x, _, _⟩
            · exact x
            · rw [w1] at x; cases x
          subst hh1
          simp only [lay, w5] at p6
          exact hH.turned X e' p1 s' d' hk p3 p4 p5 (Nat.le_refl _) (Agree.refl _ _) p6
      · exact hH.grow X hr s.pan hk
    · rw [← hg] at w2
      rw [guard_ok ht w2, if_pos rfl]
      left
      rcases kindFit_tag hfit w1 with ⟨hk, htag⟩ | ⟨hk, htag⟩ | ⟨hk, htag⟩
      · -- only reads
        obtain ⟨H, j1, j2, j3⟩ := hH.stage X hr hI.down hI.npan hL hmask hk w1
        rw [s.rt, ← hev] at j1
        obtain ⟨v', k1, k2⟩ := evOp_ok hE j3 j2 ht j1
        rw [Oper.wp, k1, Oper.upon_value]
        exact invNext s.pan s.set (fun _ _ h => h) k2 (Agree.refl _ _) (hH.grow X hr s.pan (by rw [hk]; decide))
      · -- a new block
        unfold What at w3
        rw [htag] at w3
        obtain ⟨B, sh, x1, x2, x3, x4⟩ := w3
        obtain ⟨pre', suf', tm', H, e', y1, y2, y3, y4, y5, y6, y7⟩ := hH.ex
        have hnx := X.nextLt e' y1 y3 (fun x hx => (y4 x hx).1)
        have hkk := s.kk
        rw [hk] at hkk
        rw [← hev, evOp_heap (h' := lay base suf' H) hkk.symm] at x1
        obtain ⟨cs, k1, k2, k3, k4⟩ := evOp_ok hE y7 (by rw [lay_next]; exact hnx) ht x1
        obtain ⟨z1, z2⟩ := hH.fill X hr s.pan hk hL x4 k2
        rw [Oper.wp, k1, Oper.upon_value]
        refine invNext s.pan s.set z2 ?_ (Ren.upd_agree (by omega)) z1
        rw [x2]; exact newV_rel (B := B) sh
      · -- one that may write
        obtain ⟨pre', suf', tm', hm', e', p1, p2, p3, p4, p5, p6⟩ := hH.turn X hr hk hL hmask
        have hnb := s.nb2 hfit (by rw [hk]; decide)
        have hpan' := s.pan
        cases p2 with
        | pan s' d' => rw [s'.pan] at hpan'; cases hpan'
        | ok s' d' =>
          rename_i t1' h1'
          have etm : tm = tm' := s.rt.symm.trans s'.rt
          subst etm
          simp only [lay, hnb] at p6
          have hids : ∀ x ∈ suf', base + x.i < base + ops.toList.length := fun x hx => X.id (by rw [e']; simp [hx])
          have hids' : ∀ x ∈ suf', base + x.i < maxId := fun x hx => by have := hids x hx; have := X.low; omega
          have hclean := X.clean
          rw [e'] at hclean
          have hnone := cleanOk_spec hclean hk
          rw [s'.pre] at hnone
          have hfs : kindsFit suf' = true := by
            have := X.fit
            rw [e'] at this
            have := kindsFit_suf this
            simp only [kindsFit, Bool.and_eq_true] at this
            exact this.2
          have hdown := p6.down hids' hnone hfs
          have hnx : hm'.next < maxId := by
            rcases List.eq_nil_or_concat pre' with h | ⟨l', x, h⟩
            · subst h
              rw [← p1.nilInv.2, X.next]; exact X.low
            · rw [List.concat_eq_append] at h
              subst h
              rw [p1.lastPost (p3 x (by simp)).1]
              exact (kindFit_lt (kindsFit_spec X.fit x (by rw [e']; simp))).2
          have fin : ∀ {ρ' : Ren} {v' : Value} {w' : World}, VRel ρ' r.v v' → Agree hm'.next ρ ρ' → hm'.next ≤ h1'.next → WRel (beside F base ρ suf') w w' ρ' h1' → K (a.put r.o.dst v') w' := by
            intro ρ' v' w' hv hag hle hw
            have hup := p6.up hids' (fun x hx => by have := hids x hx; omega) hw hag
            exact invNext s.pan s.set (p6.sub (by rw [lay_next]; exact hag)) hv (fun k hk' => hag k (by omega)) (hH.turned X e' p1 s' d' hk p3 p4 p5 hle hag hup)
          rcases s'.what with ⟨x, _⟩ | ⟨_, _, w3'⟩
          · rw [w1] at x; cases x
          · unfold What at w3'
            rcases htag with htag | htag | htag
            · rw [htag] at w3'
              obtain ⟨x1, x2, _⟩ := w3'
              subst x2
              rw [← hev] at x1
              obtain ⟨v', k1, k2⟩ := evOp_ok hE hdown hnx ht x1
              rw [Oper.wp, k1, Oper.upon_value]
              exact fin k2 (Agree.refl _ _) (Nat.le_refl _) hdown
            · rw [htag] at w3'
              obtain ⟨x1, _⟩ := w3'
              rw [← hev] at x1
              obtain ⟨ρ', nx, w', v', k1, k2, k3, k4, k5, k6, k7⟩ := evOp_ok hE hdown hnx ht x1
              rw [Oper.wp, k1]
              rcases k2 with rfl | ⟨rfl, rfl⟩
              · rw [Oper.upon_value]; exact fin k3 k5 k6 k4
              · rw [Oper.upon_skip]; exact fin k3 k5 k6 k4
            · rw [htag] at w3'
              obtain ⟨f, args, x1, x2, _⟩ := w3'
              rw [← hev] at x1
              obtain ⟨args', k1, k2⟩ := evOp_ok hE hdown hnx ht x1
              rw [Oper.wp, k1, Oper.upon_enter]
              refine (hcall f args hm' _ _ x2 _ _ w ρ args' k2 hdown ht.glob).mono ?_
              rintro e w' ⟨ρ', z1, z2, z3, z4⟩
              cases e with
              | returned v' => exact fin z4 z1 z2 z3
              | panicked ch => exact z4.elim
              | outgrown => exact z4.elim
  | pan s d =>
    have w2 := s.guard
    rw [← hg] at w2
    rw [guard_ok ht w2, if_pos rfl]
    left
    have hk : r.k = 2 := by
      rcases kindFit_tag hfit s.skip with ⟨_, q⟩ | ⟨_, q⟩ | ⟨q, _⟩
      · rw [s.tag] at q; cases q
      · rw [s.tag] at q; cases q
      · exact q
    obtain ⟨pre', suf', tm', hm', e', p1, p2, p3, p4, p5, p6⟩ := hH.turn X hr hk hL hmask
    have hpan' := s.pan
    cases p2 with
    | ok s' d' => rw [s'.pan] at hpan'; cases hpan'
    | pan s' d' =>
      have etm : tm = tm' := s.rt.symm.trans s'.rt
      subst etm
      simp only [lay, s.nb] at p6
      have hids' : ∀ x ∈ suf', base + x.i < maxId := fun x hx => by have := X.id (r := x) (by rw [e']; simp [hx]); have := X.low; omega
      have hclean := X.clean
      rw [e'] at hclean
      have hnone := cleanOk_spec hclean hk
      rw [s'.pre] at hnone
      have hfs : kindsFit suf' = true := by
        have := X.fit
        rw [e'] at this
        have := kindsFit_suf this
        simp only [kindsFit, Bool.and_eq_true] at this
        exact this.2
      have hdown := p6.down hids' hnone hfs
      have hnx : hm'.next < maxId := by
        rcases List.eq_nil_or_concat pre' with h | ⟨l', x, h⟩
        · subst h
          rw [← p1.nilInv.2, X.next]; exact X.low
        · rw [List.concat_eq_append] at h
          subst h
          rw [p1.lastPost (p3 x (by simp)).1]
          exact (kindFit_lt (kindsFit_spec X.fit x (by rw [e']; simp))).2
      obtain ⟨f, args, x1, x2⟩ := s'.what
      rw [← hev] at x1
      obtain ⟨args', k1, k2⟩ := evOp_ok hE hdown hnx ht x1
      rw [Oper.wp, k1, Oper.upon_enter]
      refine (hcall f args hm' _ _ x2 _ _ w ρ args' k2 hdown ht.glob).mono ?_
      rintro e w' ⟨ρ', z1, z2, z3, z4⟩
      cases e with
      | returned v' => exact z4.elim
      | panicked ch =>
        obtain ⟨v', rfl, z5⟩ := z4
        exact hQ r hr s.pan ρ' v' w' (hA.trans (fun k hk' => z1 k (by omega)) (Nat.le_refl _)) (by omega) z5 (p6.off z3)
      | outgrown => exact z4.elim
where
  panOf_spec {q : Rec} : ∀ {l : List Rec}, panOf l = some q → q ∈ l ∧ q.pan = true
    | [], h => by simp [panOf] at h
    | x :: l, h => by
      simp only [panOf] at h
      split at h
      · rename_i hp
        cases h
        exact ⟨by simp, hp⟩
      · obtain ⟨h1, h2⟩ := panOf_spec h
        exact ⟨by simp [h1], h2⟩

/-! ## the end -/
theorem Inv.done (X : Fixed E call ops ms base n t0 h0 rs tN hN) {ρ0 : Ren} {df : List Deferred} {L : Nat → Bool} {a : Act} {w : World}
    (hI : Inv E call ops ms base n t0 h0 rs tN hN F w0 ρ0 df L a w) (hall : ∀ i, i < ops.size → L i = true) :
    (∀ x ∈ rs, x.pan = false) ∧ ∃ ρ, TRel E.G ρ tN a.tmps ∧ a.tmps.size = n ∧ a.defers = df ∧ WRel F w0 w ρ hN ∧ Agree base ρ0 ρ ∧ base ≤ hN.next := by
  have hLr : ∀ x ∈ rs, L x.i = true := fun x hx => hall _ (by have := lt_of_at (X.at_ hx).1; simpa using this)
  have hp : ∀ x ∈ rs, x.pan = false := fun x hx => by
    cases hq : x.pan with
    | false => rfl
    | true =>
      have := hI.npan x hx hq
      rw [hLr x hx] at this; cases this
  obtain ⟨ρ, hS, hH, hA⟩ := hI.ex
  obtain ⟨tD, ht, hD⟩ := hS.ex
  obtain ⟨pre, suf, tm, H, e, q1, q2, q3, q4, q5, q6, q7⟩ := hH.ex
  have hs2 : ∀ x ∈ suf, x.k ≠ 2 := fun x hx h2 => by
    have hx' : x ∈ rs := by rw [e]; simp [hx]
    have := q5 x hx h2 (hp x hx')
    rw [hLr x hx'] at this; cases this
  have hfs : kindsFit suf = true := by
    have := X.fit
    rw [e] at this
    exact kindsFit_suf this
  obtain ⟨c1, _⟩ := q2.calm hfs hs2
  refine ⟨hp, ρ, ⟨fun d => ?_, ht.glob⟩, hS.sz, hS.df, by rw [c1]; exact q7, hA, by rw [c1, lay_next]; omega⟩
  have : getT tN d = getT tD d := by
    rcases X.runs.writes X.small d with ⟨y, y1, y2, y3, y4⟩ | ⟨y1, y2⟩
    · rcases hD d with ⟨b, b1, b2, b3, b4, b5⟩ | ⟨b1, b2⟩
      · rw [y4, b5, X.uniq y1 b1 y2 b2 (X.dsts y1 b1 y3 b4)]
      · exact absurd y3 (b1 y y1 y2 (hLr y y1))
    · rcases hD d with ⟨b, b1, b2, b3, b4, b5⟩ | ⟨b1, b2⟩
      · exact absurd b4 (y1 b b1 b2)
      · rw [y2, b2]
  rw [this]; exact ht.rel d

def unl (L : Nat → Bool) : Nat → Nat
  | 0 => 0
  | m + 1 => unl L m + (if L m then 0 else 1)

theorem unl_zero {L : Nat → Bool} : ∀ {m : Nat}, unl L m = 0 → ∀ i, i < m → L i = true
  | 0, _, i, hi => by omega
  | m + 1, h, i, hi => by
    simp only [unl] at h
    by_cases him : i = m
    · subst him
      cases hq : L i with
      | true => rfl
      | false => rw [hq] at h; simp at h
    · exact unl_zero (m := m) (by omega) i (by omega)

theorem unl_le {L : Nat → Bool} {i : Nat} : ∀ m, unl (Lo L i) m ≤ unl L m
  | 0 => Nat.le_refl _
  | m + 1 => by
    simp only [unl]
    have := unl_le (L := L) (i := i) m
    cases hq : L m with
    | true => rw [if_pos (Lo_iff.2 (.inl hq))]; simp; omega
    | false =>
      simp only [Bool.false_eq_true, if_false]
      split <;> omega

theorem unl_lt {L : Nat → Bool} {i : Nat} (hL : L i = false) : ∀ m, i < m → unl (Lo L i) m + 1 ≤ unl L m
  | 0, h => by omega
  | m + 1, h => by
    simp only [unl]
    by_cases him : i = m
    · subst him
      rw [if_pos (Lo_iff.2 (.inr rfl)), hL]
      have := unl_le (L := L) (i := i) i
      simp; omega
    · have := unl_lt hL m (by omega)
      cases hq : L m with
      | true => rw [if_pos (Lo_iff.2 (.inl hq))]; simp; omega
      | false =>
        simp only [Bool.false_eq_true, if_false]
        split <;> omega

theorem getD_list {l : Array Bool} {i : Nat} (h : i < l.size) (d : Bool) : l.getD i d = l.getD i false := by
  simp [h]

theorem walk (hE : EnvOk E) (hcall : CallSound E call) (X : Fixed E call ops ms base n t0 h0 rs tN hN) {ρ0 : Ren} {df : List Deferred} {Q : Exit → Act → World → Prop}
    (hN' : (∀ x ∈ rs, x.pan = false) → ∀ ρ a w, TRel E.G ρ tN a.tmps → a.tmps.size = n → a.defers = df → WRel F w0 w ρ hN → Agree base ρ0 ρ → base ≤ hN.next → Q .normal a w)
    (hQ : ∀ p ∈ rs, p.pan = true → ∀ a ρ' v' w', a.defers = df → Agree base ρ0 ρ' → base ≤ p.post.next → VRel ρ' p.v v' → WRel F w0 w' ρ' p.post → Q (.panic [{ v := v', recovered := false }]) a w') :
    ∀ (fuel : Nat) (listed : Array Bool) (a : Act) (w : World), listed.size = ops.size → unl (fun i => listed.getD i false) ops.size ≤ fuel →
      Inv E call ops ms base n t0 h0 rs tN hN F w0 ρ0 df (fun i => listed.getD i false) a w → wpAny E.P .any ops Q fuel listed a w := by
  have hbind : ∀ e : Edge, Region.binds .any e = bindA e := by
    intro e
    unfold Region.binds bindA
    cases e.ground <;> rfl
  have nil : ∀ (listed : Array Bool) (a : Act) (w : World), listed.size = ops.size → Inv E call ops ms base n t0 h0 rs tN hN F w0 ρ0 df (fun i => listed.getD i false) a w →
      Region.ready .any ops listed = [] → Q .normal a w := by
    intro listed a w hsz hI hr
    have hall : ∀ i, i < ops.size → listed.getD i false = true := by
      intro i
      induction i using Nat.strongRecOn with
      | ind i ih =>
        intro hi
        cases hq : listed.getD i false with
        | true => rfl
        | false =>
          exfalso
          have hio : ops[i]? = some ops[i] := Array.getElem?_eq_getElem hi
          have : i ∈ Region.ready .any ops listed := mem_ready.2 ⟨by rw [getD_list (by omega)]; exact hq, ops[i], hio, fun e he hb => by
            have hlt := (mask_edges X.masks (i := i) (o := ops[i]) (by rw [Array.getElem?_toList]; exact hio)).1 e (by simpa using he) (by rw [← hbind]; exact hb)
            exact ih e.on hlt (by omega)⟩
          rw [hr] at this; cases this
    obtain ⟨p1, ρ, p2, p3, p4, p5, p6, p7⟩ := hI.done X hall
    exact hN' p1 ρ a w p2 p3 p4 p5 p6 p7
  intro fuel
  induction fuel with
  | zero =>
    intro listed a w hsz hf hI
    have hr : Region.ready .any ops listed = [] := by
      apply List.eq_nil_iff_forall_not_mem.2
      intro j hj
      obtain ⟨h1, o, h2, _⟩ := mem_ready.1 hj
      have hlt : j < ops.size := (Array.getElem?_eq_some_iff.1 h2).1
      have := unl_zero (Nat.le_zero.1 hf) j hlt
      rw [getD_list (by omega)] at h1
      rw [h1] at this; cases this
    exact ⟨hr, nil listed a w hsz hI hr⟩
  | succ fuel ih =>
    intro listed a w hsz hf hI
    refine ⟨fun hr => nil listed a w hsz hI hr, fun i hi => ?_⟩
    obtain ⟨h1, o, h2, h3⟩ := mem_ready.1 hi
    have hlt : i < ops.size := (Array.getElem?_eq_some_iff.1 h2).1
    rw [getD_list (by omega)] at h1
    have hdf : a.defers = df := let ⟨_, hS, _⟩ := hI.ex; hS.df
    refine hI.step hE hcall X h2 h1 (fun e he hb => h3 e (by simpa using he) (by rw [hbind]; exact hb)) (fun a' w' hI' => ?_) (fun p hp hpp ρ' v' w' => hQ p hp hpp a ρ' v' w' hdf)
    have hfun : (fun j => (listed.setIfInBounds i true).getD j false) = Lo (fun j => listed.getD j false) i := by
      funext j
      apply Bool.eq_iff_iff.2
      rw [Lo_iff]
      by_cases hij : i = j
      · subst hij
        simp [show i < listed.size by omega]
      · rw [getD_set_ne false hij]
        exact ⟨.inl, fun h => h.resolve_right (fun e => hij e.symm)⟩
    refine ih _ a' w' (by simpa using hsz) ?_ (by rw [hfun]; exact hI')
    rw [hfun]
    have := unl_lt (L := fun j => listed.getD j false) h1 ops.size hlt
    omega
end

theorem Fixed.pan2 {E : Env} {call : CallF} {ops : Array Oper} {ms : List Nat} {base n : Nat} {t0 tN : PT AV} {h0 hN : Heap} {rs : List Rec} (X : Fixed E call ops ms base n t0 h0 rs tN hN) {p : Rec} (hp : p ∈ rs) (pp : p.pan = true) : p.k = 2 := by
  obtain ⟨pre, suf, tm, hm, e, q1, q2⟩ := X.here hp
  cases q2 with
  | ok s d => rw [s.pan] at pp; cases pp
  | pan s d =>
    rcases kindFit_tag (kindsFit_spec X.fit p hp) s.skip with ⟨_, q⟩ | ⟨_, q⟩ | ⟨q, _⟩
    · rw [s.tag] at q; cases q
    · rw [s.tag] at q; cases q
    · exact q

theorem Fixed.onePan {E : Env} {call : CallF} {ops : Array Oper} {ms : List Nat} {base n : Nat} {t0 tN : PT AV} {h0 hN : Heap} {rs : List Rec} (X : Fixed E call ops ms base n t0 h0 rs tN hN) {p q : Rec} (hp : p ∈ rs) (hq : q ∈ rs) (pp : p.pan = true) (pq : q.pan = true) : p = q := by
  obtain ⟨pre, suf, e⟩ := List.append_of_mem hp
  have hq' := hq
  rw [e, List.mem_append, List.mem_cons] at hq'
  rcases hq' with h | h | h
  · have := ((X.topoAt e).2.1 (X.pan2 hp pp)).2 q h
    rw [pq] at this; cases this
  · exact h.symm
  · obtain ⟨s1, s2, e2⟩ := List.append_of_mem h
    have e3 : rs = (pre ++ p :: s1) ++ q :: s2 := by rw [e, e2]; simp
    have := ((X.topoAt e3).2.1 (X.pan2 hq pq)).2 p (by simp)
    rw [pp] at this; cases this

theorem draw_sound {E : Env} (hE : EnvOk E) : DrawSound E := by
  intro call hcall id ops s r hr F w0 w ρ a hs
  unfold runDraw at hr
  split at hr
  · cases hr
  rename_i ms hms
  split at hr
  case isFalse => cases hr
  rename_i hc1
  simp only [Bool.and_eq_true, Nat.blt_eq] at hc1
  split at hr
  case h_2 => cases hr
  rename_i rs t h hrun
  split at hr
  case isFalse => cases hr
  rename_i hc2
  simp only [Bool.and_eq_true] at hc2
  obtain ⟨c1, c2, c3, c4, c5⟩ := hc2
  have X : Fixed E call ops ms s.h.next s.n s.tmps { s.h with next := s.h.next + ops.toList.length } rs t h :=
    ⟨hms, hc1.1, runL_ok _ _ _ _ hrun, c1, c2, c4, c5, c3, rfl, hc1.2, hs.nm⟩
  refine wp_region_any hE.mixed ?_
  have hwr := hs.wr.drew (w.drawn + 1)
  refine walk (F := F) (w0 := w0) hE hcall X (ρ0 := ρ) (df := a.defers) ?_ ?_ ops.size _ a _ (by simp) ?_ ?_
  · intro hp ρ' a' w' q1 q2 q3 q4 q5 q6
    have hpn : panOf rs = none := panOf_none hp
    rw [hpn] at hr
    cases hr
    exact ⟨ρ', q5, q6, q4, q1, q2, hs.nm, by rw [q3]; exact hs.dr.mono (hs.wr.sub q5)⟩
  · intro p hp hpp a' ρ' v' w' q1 q2 q3 q4 q5
    obtain ⟨p', hp', hpp', hpq⟩ := panOf_some hp hpp
    have : p' = p := X.onePan hpp' hp hpq hpp
    subst this
    rw [hp'] at hr
    cases hr
    exact ⟨ρ', q2, q3, ⟨v', rfl, q4⟩, q5, by rw [q1]; exact hs.dr.mono (hs.wr.sub q2)⟩
  · have : ∀ m (L : Nat → Bool), unl L m ≤ m := by
      intro m L
      induction m with
      | zero => exact Nat.le_refl _
      | succ m ih => simp only [unl]; split <;> omega
    exact this _ _
  · have hL : (fun i => (Array.replicate ops.size false).getD i false) = fun _ => false := by
      funext i
      by_cases h : i < ops.size <;> simp [h]
    rw [hL]
    refine ⟨fun i h => (by cases h), fun x _ _ => rfl, ρ, ⟨⟨s.tmps, hs.tr, fun d => .inr ⟨fun r _ _ h => (by cases h), rfl⟩⟩, hs.sz, rfl⟩, ⟨⟨[], rs, s.tmps, _, rfl, .nil, X.runs, .inl rfl, fun r h => (by cases h), fun _ _ _ _ => rfl, Nat.le_refl _, ?_⟩, fun r hr _ _ => hs.wr.fresh _ (by omega)⟩, Agree.refl _ _⟩
    have hup : WRel F w0 { w with drawn := w.drawn + 1 } ρ { s.h with next := s.h.next + ops.toList.length } :=
      ⟨hwr.os, hwr.tape, hwr.output, hwr.size, hwr.old, hwr.inold, by have := X.low; simp only; omega, fun k hk => hwr.fresh k (by simp only at hk; omega), hwr.dom, hwr.blk, hwr.own, hwr.inj⟩
    refine hup.congr (fun k l hk => ?_) (lay_next _ _)
    rcases lay_cases (base := s.h.next) k rs (fun x hx => by have := X.id hx; have := X.low; omega) with ⟨_, g2⟩ | ⟨x, x1, B, sh, x3, x4, x5⟩
    · exact g2 _
    · have := hs.wr.fresh k (by omega)
      rw [hk] at this; cases this
where
  panOf_none : ∀ {l : List Rec}, (∀ x ∈ l, x.pan = false) → panOf l = none
    | [], _ => rfl
    | x :: l, h => by
      unfold panOf
      rw [h x (by simp)]
      exact panOf_none (fun y hy => h y (by simp [hy]))
  panOf_some {p : Rec} : ∀ {l : List Rec}, p ∈ l → p.pan = true → ∃ q, panOf l = some q ∧ q ∈ l ∧ q.pan = true
    | [], h, _ => by cases h
    | x :: l, h, hp => by
      simp only [panOf]
      cases hx : x.pan with
      | true => exact ⟨x, by simp, by simp, hx⟩
      | false =>
        cases h with
        | head => rw [hx] at hp; cases hp
        | tail _ h =>
          obtain ⟨q, h1, h2, h3⟩ := panOf_some h hp
          exact ⟨q, by simpa using h1, by simp [h2], h3⟩

end Go.Ev
