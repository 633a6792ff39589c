/- Operations in an open order: what an operation hangs on; what the checks say. -/
import Derived.Test.YtcdcllmmkimbfaaGreatDoorEv12
import Derived.Orders
set_option linter.unusedSimpArgs false
set_option linter.unusedVariables false
namespace Go.Ev

/-! ## an operation hangs on the slots it looks at -/
theorem mem_tmps : ∀ {l : List Operand} {x : Operand} {d : Nat}, x ∈ l → d ∈ tmpsOf [x] → d ∈ tmpsOf l
  | [], _, _, h, _ => by cases h
  | y :: l, x, d, h, hd => by
    cases h with
    | head => cases y <;> simp_all [tmpsOf]
    | tail _ h =>
      have := mem_tmps h hd
      cases y <;> simp_all [tmpsOf]

theorem opd_congr {G : Nat} {t t' : PT AV} {x : Operand} (h : ∀ d ∈ tmpsOf [x], getT t d = getT t' d) : opd G t x = opd G t' x := by
  cases x <;> simp only [opd]
  case tmp i => rw [h i (by simp [tmpsOf])]

theorem opds_congr {G : Nat} {t t' : PT AV} : ∀ {l : List Operand}, (∀ x ∈ l, opd G t x = opd G t' x) → opds G t l = opds G t' l
  | [], _ => rfl
  | x :: l, h => by
    simp only [opds]
    rw [h x (by simp), opds_congr (fun y hy => h y (by simp [hy]))]

theorem partsA_congr {G : Nat} {t t' : PT AV} : ∀ {l : List (Nat × Operand)}, (∀ x ∈ l.map (·.2), opd G t x = opd G t' x) → partsA G t l = partsA G t' l
  | [], _ => rfl
  | (i, x) :: l, h => by
    simp only [partsA]
    rw [h x (by simp), partsA_congr (fun y hy => h y (by simp only [List.map_cons, List.mem_cons]; exact .inr hy))]

theorem oopd_congr {G : Nat} {t t' : PT AV} {x : Option Operand} (h : ∀ y ∈ x.toList, opd G t y = opd G t' y) : oopd G t x = oopd G t' x := by
  cases x with
  | none => rfl
  | some x => simp only [oopd]; rw [h x (by simp)]

theorem evCall_congr {E : Env} {h : Heap} {t t' : PT AV} {c : Call} (k : ∀ x ∈ c.operands.toList, opd E.G t x = opd E.G t' x) : evCall E h t c = evCall E h t' c := by
  have ka : opds E.G t c.args.toList = opds E.G t' c.args.toList := opds_congr fun x hx => k x (by simp only [Call.operands, Array.toList_append, List.mem_append]; exact .inr hx)
  unfold evCall
  rw [ka]
  cases hc : c.callee with
  | value f =>
    have kf := k f (by simp only [Call.operands, hc, Array.toList_append, List.mem_append]; exact .inl (by simp))
    simp only [kf]
  | _ => rfl

theorem evDefer_congr {E : Env} {t t' : PT AV} {c : Call} (k : ∀ x ∈ c.operands.toList, opd E.G t x = opd E.G t' x) : evDefer E t c = evDefer E t' c := by
  have ka : opds E.G t c.args.toList = opds E.G t' c.args.toList := opds_congr fun x hx => k x (by simp only [Call.operands, Array.toList_append, List.mem_append]; exact .inr hx)
  unfold evDefer
  rw [ka]
  cases hc : c.callee with
  | value f =>
    have kf := k f (by simp only [Call.operands, hc, Array.toList_append, List.mem_append]; exact .inl (by simp))
    simp only [kf]
  | _ => rfl

theorem evOp_congr {E : Env} {h : Heap} {t t' : PT AV} {o : Op} (hh : ∀ d ∈ tmpsOf o.operands.toList, getT t d = getT t' d) : evOp E h t o = evOp E h t' o := by
  have k : ∀ x ∈ o.operands.toList, opd E.G t x = opd E.G t' x := fun x hx => opd_congr fun d hd => hh d (mem_tmps hx hd)
  cases o with
  | call c => exact evCall_congr k
  | defer c => exact evDefer_congr k
  | build ty ps =>
    simp only [evOp]
    rw [partsA_congr (fun x hx => k x (by simpa [Op.operands] using hx))]
  | buildSlice ty n ps =>
    simp only [evOp]
    rw [partsA_congr (fun x hx => k x (by simpa [Op.operands] using hx))]
  | makeFunc f a b =>
    have k1 : opds E.G t a.toList = opds E.G t' a.toList := opds_congr fun x hx => k x (by simp only [Op.operands, Array.toList_append, List.mem_append]; exact .inl hx)
    have k2 : opds E.G t b.toList = opds E.G t' b.toList := opds_congr fun x hx => k x (by simp only [Op.operands, Array.toList_append, List.mem_append]; exact .inr hx)
    cases f <;> simp only [evOp, k1, k2]
  | slice ty x lo hi mx =>
    have k0 := k x (by simp [Op.operands])
    have k1 : oopd E.G t lo = oopd E.G t' lo := oopd_congr fun y hy => k y (by cases lo <;> simp_all [Op.operands])
    have k2 : oopd E.G t hi = oopd E.G t' hi := oopd_congr fun y hy => k y (by cases hi <;> simp_all [Op.operands])
    have k3 : oopd E.G t mx = oopd E.G t' mx := oopd_congr fun y hy => k y (by cases mx <;> simp_all [Op.operands])
    simp only [evOp, k0, k1, k2, k3]
  | _ => first
    | rfl
    | (simp only [Op.operands, List.mem_cons, List.not_mem_nil, or_false, forall_eq_or_imp, forall_eq] at k
       simp only [evOp, k])

theorem guard_congr {all : List Oper} {t t' : PT AV} {o : Oper} (hh : ∀ d ∈ looks all o, getT t d = getT t' d) : guardA all t o = guardA all t' o := by
  unfold looks at hh
  unfold guardA
  cases hg : o.guard with
  | none => rfl
  | some p =>
    obtain ⟨j, want⟩ := p
    simp only [hg] at hh
    cases hj : nth all j with
    | none => simp only [hj]
    | some oj =>
      cases hd : oj.dst with
      | none => simp only [hj, hd]
      | some d =>
        simp only [hj, hd, Option.toList_some] at hh
        simp only [hj, hd, hh d (by simp)]

theorem look_op {all : List Oper} {o : Oper} {d : Nat} (h : d ∈ tmpsOf o.op.operands.toList) : d ∈ looks all o := List.mem_append_left _ h

/-- what makes a new block does not look at the heap -/
theorem evOp_heap {E : Env} {h h' : Heap} {t : PT AV} {o : Op} (hk : kindOf E.P o = 1) : evOp E h t o = evOp E h' t o := by
  cases o with
  | alloc e => rfl
  | box e x => rfl
  | buildSlice a b c => rfl
  | makeSlice a b c => rfl
  | call c =>
    unfold kindOf at hk
    split at hk <;> first | contradiction | (rename_i heq; cases heq) | skip
    all_goals (first | (split at hk <;> contradiction) | skip)
  | convert a b c =>
    unfold kindOf at hk
    split at hk <;> first | contradiction | (rename_i heq; cases heq) | skip
    all_goals (first | (split at hk <;> contradiction) | skip)
  | _ => simp [kindOf] at hk

/-! ## masks -/
def mkA (ms : List Nat) (i : Nat) : Nat := (nth ms i).getD 0

theorem memN_iff : ∀ {l : List Nat} {x : Nat}, memN x l = true ↔ x ∈ l
  | [], x => by simp [memN]
  | a :: l, x => by
    simp only [memN, Bool.or_eq_true, List.mem_cons, memN_iff (l := l)]
    constructor
    · rintro (h | h)
      · exact .inl (Nat.eq_of_beq_eq_true h).symm
      · exact .inr h
    · rintro (rfl | h)
      · exact .inl (by simp)
      · exact .inr h

theorem bit_or (a b j : Nat) : bit (a ||| b) j = (bit a j || bit b j) := by simp [bit]
theorem bit_pow (i j : Nat) : bit (2 ^ i) j = true ↔ i = j := by simp [bit, Nat.testBit_two_pow]
theorem bit_zero (j : Nat) : bit 0 j = false := by simp [bit]

theorem maskOf_bit {acc : List Nat} {j : Nat} : ∀ {l : List Edge}, bit (maskOf acc l) j = true → ∃ e ∈ l, bindA e = true ∧ (j = e.on ∨ bit (mkA acc e.on) j = true)
  | [], h => by simp [maskOf, bit_zero] at h
  | e :: l, h => by
    simp only [maskOf] at h
    split at h
    · rename_i hb
      rw [bit_or, bit_or, Bool.or_eq_true, Bool.or_eq_true, bit_pow] at h
      rcases h with h | h | h
      · exact ⟨e, by simp, hb, .inl h.symm⟩
      · exact ⟨e, by simp, hb, .inr h⟩
      · obtain ⟨e', h1, h2⟩ := maskOf_bit h
        exact ⟨e', by simp [h1], h2⟩
    · obtain ⟨e', h1, h2⟩ := maskOf_bit h
      exact ⟨e', by simp [h1], h2⟩

theorem edgesOk_lt {i : Nat} : ∀ {l : List Edge}, edgesOk i l = true → ∀ e ∈ l, bindA e = true → e.on < i
  | [], _, e, he, _ => by cases he
  | x :: l, h, e, he, hb => by
    simp only [edgesOk, Bool.and_eq_true, Bool.or_eq_true, Bool.not_eq_true', Nat.blt_eq] at h
    cases he with
    | head => rcases h.1 with h1 | h1
              · rw [hb] at h1; cases h1
              · exact h1
    | tail _ he => exact edgesOk_lt h.2 e he hb

theorem masks_spec : ∀ {l : List Oper} {acc ms : List Nat}, masks l acc = some ms → (∃ s, ms = acc ++ s) ∧
    ∀ k o, l[k]? = some o → edgesOk (acc.length + k) o.after.toList = true ∧ ∃ acc', acc'.length = acc.length + k ∧ (∃ s, ms = acc' ++ s) ∧ nth ms (acc.length + k) = some (maskOf acc' o.after.toList)
  | [], acc, ms, h => by
    simp only [masks] at h; cases h
    exact ⟨⟨[], by simp⟩, fun k o hk => by simp at hk⟩
  | x :: l, acc, ms, h => by
    simp only [masks] at h
    split at h
    case isFalse => cases h
    rename_i he
    obtain ⟨⟨s, hs⟩, ih⟩ := masks_spec h
    refine ⟨⟨maskOf acc x.after.toList :: s, by rw [hs]; simp⟩, fun k o hk => ?_⟩
    cases k with
    | zero =>
      simp only [List.getElem?_cons_zero, Option.some.injEq] at hk
      subst hk
      refine ⟨he, acc, rfl, ⟨maskOf acc x.after.toList :: s, by rw [hs]; simp⟩, ?_⟩
      rw [nth_eq, hs]; simp
    | succ k =>
      simp only [List.getElem?_cons_succ] at hk
      obtain ⟨h1, acc', h2, h3, h4⟩ := ih k o hk
      have e1 : (acc ++ [maskOf acc x.after.toList]).length + k = acc.length + (k + 1) := by simp; omega
      rw [e1] at h1 h2 h4
      exact ⟨h1, acc', h2, h3, h4⟩

theorem mask_edges {all : List Oper} {ms : List Nat} (h : masks all [] = some ms) {i : Nat} {o : Oper} (hi : all[i]? = some o) :
    (∀ e ∈ o.after.toList, bindA e = true → e.on < i) ∧ ∀ j, bit (mkA ms i) j = true → ∃ e ∈ o.after.toList, bindA e = true ∧ (j = e.on ∨ bit (mkA ms e.on) j = true) := by
  obtain ⟨h1, acc', h2, ⟨s, h3⟩, h4⟩ := (masks_spec h).2 i o hi
  simp only [List.length_nil, Nat.zero_add] at h1 h2 h4
  refine ⟨edgesOk_lt h1, fun j hj => ?_⟩
  unfold mkA at hj
  rw [h4] at hj
  obtain ⟨e, he, hb, hx⟩ := maskOf_bit hj
  refine ⟨e, he, hb, hx.imp id fun hx => ?_⟩
  have hlt := edgesOk_lt h1 e he hb
  unfold mkA at hx ⊢
  rw [nth_eq] at hx ⊢
  rw [h3, List.getElem?_append_left (by omega)]
  exact hx

theorem tmpsOne {all : List Oper} {ms : List Nat} {d j : Nat} : ∀ {l : List Oper} {i : Nat}, tmpsOk.one all ms d j l i = true → ∀ k p, l[k]? = some p → i + k = j ∨
    (p.dst ≠ some d ∧ (d ∈ looks all p → bit (mkA ms (i + k)) j = true ∨ bit (mkA ms j) (i + k) = true))
  | [], _, _, k, p, hp => by simp at hp
  | x :: l, i, h, k, p, hp => by
    simp only [tmpsOk.one, Bool.and_eq_true, Bool.or_eq_true] at h
    cases k with
    | zero =>
      simp only [List.getElem?_cons_zero, Option.some.injEq] at hp
      subst hp
      rcases h.1 with h1 | h1
      · exact .inl (Nat.eq_of_beq_eq_true h1)
      · refine .inr ⟨?_, fun hl => ?_⟩
        · intro e
          have := h1.1
          rw [e] at this
          simp at this
        · rcases h1.2 with h2 | h2
          · rw [Bool.not_eq_true'] at h2
            rw [memN_iff.2 hl] at h2; cases h2
          · exact h2
    | succ k =>
      simp only [List.getElem?_cons_succ] at hp
      have := tmpsOne h.2 k p hp
      rw [show i + (k + 1) = i + 1 + k by omega]
      exact this

theorem tmpsGo {all : List Oper} {ms : List Nat} : ∀ {l : List Oper} {j : Nat}, tmpsOk.go all ms l j = true → ∀ k o d, l[k]? = some o → o.dst = some d → tmpsOk.one all ms d (j + k) all 0 = true
  | [], _, _, k, o, d, ho, _ => by simp at ho
  | x :: l, j, h, k, o, d, ho, hd => by
    simp only [tmpsOk.go, Bool.and_eq_true] at h
    cases k with
    | zero =>
      simp only [List.getElem?_cons_zero, Option.some.injEq] at ho
      subst ho
      have := h.1
      rw [hd] at this
      exact this
    | succ k =>
      simp only [List.getElem?_cons_succ] at ho
      have := tmpsGo h.2 k o d ho hd
      rw [show j + (k + 1) = j + 1 + k by omega]
      exact this

theorem tmpsOk_spec {all : List Oper} {ms : List Nat} (h : tmpsOk all ms = true) {i j d : Nat} {p o : Oper} (hj : all[j]? = some o) (hi : all[i]? = some p) (hij : i ≠ j) (hd : o.dst = some d) :
    p.dst ≠ some d ∧ (d ∈ looks all p → bit (mkA ms i) j = true ∨ bit (mkA ms j) i = true) := by
  have h1 := tmpsGo (l := all) (j := 0) h j o d hj hd
  have h2 := tmpsOne h1 i p hi
  simp only [Nat.zero_add] at h2
  exact h2.resolve_left hij

/-! ## rows of records -/
def accDn : List Rec → Nat → Nat
  | [], dn => dn
  | r :: l, dn => accDn l (if r.pan then dn else dn ||| 2 ^ r.i)

theorem accDn_bit : ∀ {l : List Rec} {dn j : Nat}, bit (accDn l dn) j = true ↔ bit dn j = true ∨ ∃ r ∈ l, r.pan = false ∧ r.i = j
  | [], dn, j => by simp [accDn]
  | r :: l, dn, j => by
    simp only [accDn]
    rw [accDn_bit]
    cases hp : r.pan with
    | true => simp [hp]
    | false =>
      simp only [Bool.false_eq_true, if_false, bit_or, Bool.or_eq_true, bit_pow, List.mem_cons, exists_eq_or_imp, hp, true_and, or_assoc]

theorem topo_at {ms : List Nat} : ∀ {pre : List Rec} {r : Rec} {suf : List Rec} {dn : Nat} {pn : Bool}, topoOk ms (pre ++ r :: suf) dn pn = true →
    bit (accDn pre dn) r.i = false ∧ (r.k = 2 → mkA ms r.i = accDn pre dn ∧ pn = false ∧ ∀ x ∈ pre, x.pan = false) ∧ (∀ j, bit (mkA ms r.i) j = true → bit (accDn pre dn) j = true) ∧
    (r.pan = true → ∀ x ∈ suf, x.i ≠ r.i)
  | [], r, suf, dn, pn, h => by
    simp only [List.nil_append, topoOk, Bool.and_eq_true, Bool.not_eq_true', Bool.or_eq_true] at h
    obtain ⟨h1, h2, h3, h4⟩ := h
    refine ⟨h1, fun hk => ?_, fun j hj => ?_, fun hp x hx e => ?_⟩
    · rw [if_pos (by simp [hk])] at h2
      simp only [Bool.and_eq_true, Bool.not_eq_true'] at h2
      exact ⟨Nat.eq_of_beq_eq_true h2.1, h2.2, by simp⟩
    · show bit dn j = true
      split at h2
      · simp only [Bool.and_eq_true] at h2
        rw [← Nat.eq_of_beq_eq_true h2.1]; exact hj
      · have e := Nat.eq_of_beq_eq_true h2
        unfold mkA at hj
        rw [← e] at hj
        have : bit (((nth ms r.i).getD 0) &&& dn) j = true := hj
        simp only [bit, Nat.testBit_and, Bool.and_eq_true] at this
        exact this.2
    · rcases h3 with h3 | h3
      · rw [hp] at h3; cases h3
      · have : r.i ∈ suf.map Rec.i := List.mem_map.2 ⟨x, hx, e⟩
        rw [memN_iff.2 this] at h3; cases h3
  | x :: pre, r, suf, dn, pn, h => by
    simp only [List.cons_append, topoOk, Bool.and_eq_true] at h
    obtain ⟨q1, q2, q3, q4⟩ := topo_at h.2.2.2
    refine ⟨q1, fun hk => ?_, q3, q4⟩
    obtain ⟨a1, a2, a3⟩ := q2 hk
    simp only [Bool.or_eq_false_iff] at a2
    exact ⟨a1, a2.1, fun y hy => by
      cases hy with
      | head => exact a2.2
      | tail _ hy => exact a3 y hy⟩

end Go.Ev
