/- Code and calls: what the evaluator says holds of the model. -/
import Derived.Test.YtcdcllmmkimbfaaGreatDoorEv11
import Derived.Recover
set_option linter.unusedSimpArgs false
set_option linter.unusedVariables false
namespace Go.Ev

def drAx : DR → AX
  | .norm _ => .norm
  | .pan v _ => .panD v
def drSt : DR → St
  | .norm s => s
  | .pan _ s => s

def DrawSound (E : Env) : Prop := ∀ (call : CallF), CallSound E call → ∀ (id : Nat) (ops : Array Oper) (s : St) (r : DR), runDraw E call ops.toList s = some r → ∀ (F : Frm) (w0 w : World) (ρ : Ren) (a : Act),
  SRel E.G F w0 w ρ s a → (Code.region id ops true).wp E.P (XPost E.G F w0 ρ s.h.next (drAx r) (drSt r)) a w

def CSound (E : Env) (c : Code) (s : St) (x : AX) (s' : St) : Prop := ∀ (F : Frm) (w0 w : World) (ρ : Ren) (a : Act), SRel E.G F w0 w ρ s a → c.wp E.P (XPost E.G F w0 ρ s.h.next x s') a w

def LSound (E : Env) (b : Code) (s : St) (x : AX) (s' : St) : Prop := ∃ m, ∀ (F : Frm) (w0 w : World) (ρ : Ren) (a : Act), SRel E.G F w0 w ρ s a → Code.rounds E.P b (XPost E.G F w0 ρ s.h.next x s') m a w

/-! ## results -/
section
variable {E : Env} {F : Frm} {w0 : World}

def resF (tm : Array Value) : ResultVar → Sem Value
  | .tmp t => pure (tm.getD t undef)
  | .cell a t => do loadVar t (← asAddr (tm.getD a undef))

theorem results_def (fn : Func) (tm : Array Value) : results fn tm = (do
    let vs ← fn.results.mapM (resF tm)
    pure (if h : vs.size = 1 then vs[0] else .tuple vs) : Sem Value) := rfl

theorem resOne_ok {w : World} {ρ : Ren} {h : Heap} {t : PT AV} {tm : Array Value} (hw : WRel F w0 w ρ h) (ht : TRel E.G ρ t tm) {r : ResultVar} {v : AV} (hr : resOne E.P h t r = some v) :
    ∃ v', (resF tm r).run E.P w = .ok v' w ∧ VRel ρ v v' := by
  cases r with
  | tmp i => simp only [resOne] at hr; cases hr; exact ⟨_, rfl, ht.rel i⟩
  | cell i ty =>
    simp only [resOne] at hr
    have hv := ht.rel i
    obtain ⟨v', h1, h2⟩ := load_ok (P := E.P) hw hv hr
    refine ⟨v', ?_, h2⟩
    unfold evLoad at hr
    split at hr
    · rename_i k off heq
      rw [heq] at hv
      simp only [resF]
      generalize tm.getD i undef = tv at hv h1 ⊢
      cases hv with
      | ptr hl =>
        simp only [Instr.loadAt, Instr.sureAddr, Sem.run_bind, Sem.run_pure, Result.andThen_ok] at h1
        simp only [asAddr, Sem.run_bind, Sem.run_pure, Result.andThen_ok]
        exact h1
    · cases hr

theorem resAll_ok {w : World} {ρ : Ren} {h : Heap} {t : PT AV} {tm : Array Value} (hw : WRel F w0 w ρ h) (ht : TRel E.G ρ t tm) : ∀ {l : List ResultVar} {vs : List AV}, resAll E.P h t l = some vs →
    ∃ vs', (l.mapM (resF tm) : Sem (List Value)).run E.P w = .ok vs' w ∧ VsRel ρ vs vs'
  | [], vs, hr => by simp only [resAll] at hr; cases hr; exact ⟨[], rfl, .nil⟩
  | r :: l, vs, hr => by
    simp only [resAll] at hr
    split at hr
    · rename_i v hv
      split at hr
      · rename_i us hus
        cases hr
        obtain ⟨v', h1, h2⟩ := resOne_ok hw ht hv
        obtain ⟨us', h3, h4⟩ := resAll_ok hw ht hus
        refine ⟨v' :: us', ?_, .cons h2 h4⟩
        rw [List.mapM_cons]
        simp only [Sem.run_bind, h1, Result.andThen_ok, h3, Sem.run_pure]
      · cases hr
    · cases hr

theorem results_ok {w : World} {ρ : Ren} {h : Heap} {t : PT AV} {tm : Array Value} (hw : WRel F w0 w ρ h) (ht : TRel E.G ρ t tm) {fn : Func} {v : AV} (hr : resA E.P h t fn = some v) :
    ∃ v', (results fn tm).run E.P w = .ok v' w ∧ VRel ρ v v' := by
  rw [results_def]
  unfold resA at hr
  split at hr
  · rename_i u hu
    cases hr
    obtain ⟨vs', h1, h2⟩ := resAll_ok hw ht hu
    cases h2 with
    | cons h3 t3 =>
      cases t3
      rename_i v'
      refine ⟨v', ?_, h3⟩
      simp only [Sem.run_bind]
      rw [Array.mapM_eq_mapM_toList, Sem.run_map, h1]
      simp
  · rename_i vs hne hvs
    cases hr
    obtain ⟨vs', h1, h2⟩ := resAll_ok hw ht hvs
    refine ⟨.tuple vs'.toArray, ?_, .tup (by simpa using h2)⟩
    have hlen : vs'.length ≠ 1 := by
      rw [← h2.length]
      intro h
      match vs, h, hne, hvs with
      | [x], _, hne, _ => exact hne x rfl
    simp only [Sem.run_bind]
    rw [Array.mapM_eq_mapM_toList, Sem.run_map, h1]
    simp [hlen]
  · cases hr

/-! ## the beginning of a call -/
theorem initT_get : ∀ (l : List AV) (i : Nat) (t : PT AV) (j : Nat), i + l.length ≤ maxId → getT (initT l i t) j = if i ≤ j ∧ j < i + l.length then (l[j - i]?).getD undefA else getT t j
  | [], i, t, j, h => by simp [initT]; intro h1 h2; omega
  | v :: l, i, t, j, h => by
    simp only [initT]
    rw [initT_get l (i + 1) _ j (by simp at h ⊢; omega)]
    have hi : i < maxId := by simp at h; omega
    by_cases h1 : i + 1 ≤ j ∧ j < i + 1 + l.length
    · rw [if_pos h1, if_pos (by simp; omega)]
      have : j - i = (j - (i + 1)) + 1 := by omega
      rw [this, List.getElem?_cons_succ]
    · rw [if_neg h1, getT_set hi]
      by_cases h2 : j = i
      · subst h2; simp
      · rw [if_neg h2, if_neg (by simp; omega)]

theorem init_rel {ρ : Ren} {args : List AV} {args' : Array Value} (ha : VsRel ρ args args'.toList) (hg : ∀ g, g < E.G → ∃ s, ρ g = some ⟨g, 0, s⟩) {n : Nat} (hn : args.length ≤ n) (hm : n < maxId) :
    TRel E.G ρ (initT args 0 .e) (args' ++ Array.replicate (n - args'.size) undef) ∧ (args' ++ Array.replicate (n - args'.size) undef).size = n := by
  have hlen := ha.length
  have hsz : args'.size = args.length := by rw [hlen]; simp
  refine ⟨⟨fun i => ?_, hg⟩, by simp; omega⟩
  rw [initT_get args 0 .e i (by omega)]
  by_cases hi : i < args.length
  · rw [if_pos (by omega)]
    have h1 : args[i]? = some args[i] := List.getElem?_eq_getElem hi
    obtain ⟨v', h2, h3⟩ := ha.get h1
    have h4 : args'[i]? = some v' := by simpa using h2
    have h5 : (args' ++ Array.replicate (n - args'.size) undef).getD i undef = v' := by
      rw [Array.getD_eq_getD_getElem?, Array.getElem?_append, if_pos (by omega), h4]; rfl
    rw [h5, Nat.sub_zero, h1]; exact h3
  · rw [if_neg (by omega)]
    have h5 : (args' ++ Array.replicate (n - args'.size) undef).getD i undef = undef := by
      rw [Array.getD_eq_getD_getElem?, Array.getElem?_append, if_neg (by omega)]
      cases h : (Array.replicate (n - args'.size) undef)[i - args'.size]? with
      | none => rfl
      | some u =>
        rw [Array.getElem?_replicate] at h
        split at h
        · cases h; rfl
        · cases h
    rw [h5]
    have h6 : getT (.e : PT AV) i = undefA := by simp [getT, PT.get_e]
    rw [h6]; exact VRel.undef ρ

/-! ## a deferred function that recovers -/
def modeOf (m : Option Value) : FrameMode := match m with
  | none => .returning
  | some v => .panicking [{ v := v, recovered := false }]

def MRel (ρ : Ren) : Option AV → Option Value → Prop
  | none, none => True
  | some v, some v' => VRel ρ v v'
  | _, _ => False

theorem rec_ok {runf : Code → St → Option (AX × St)} (hrun : ∀ c s x s', runf c s = some (x, s') → CSound E c s x s') {w : World} {ρ : Ren} {h h' : Heap} {f : FuncId} {args : List AV} {args' : Array Value} {m : Option AV} {m' : Option Value}
    (hw : WRel F w0 w ρ h) (hg : ∀ g, g < E.G → ∃ s, ρ g = some ⟨g, 0, s⟩) (ha : VsRel ρ args args'.toList) (hm : MRel ρ m m') (hr : recA E runf f args h m = some h') :
    (∃ fn, E.P.funcs[f]? = some fn ∧ fn.body.isSome = true ∧ fn.name ≠ "runtime.NumGoroutine") ∧
    CallsD E.P f args' (modeOf m') w (fun e u' w' => (∃ v, e = .returned v) ∧ settle u' = .returning ∧ ∃ ρ', Agree h.next ρ ρ' ∧ h.next ≤ h'.next ∧ WRel F w0 w' ρ' h') := by
  unfold recA at hr
  split at hr
  case h_2 => cases hr
  rename_i fn hfn
  split at hr
  case h_2 => cases hr
  rename_i id ops rest hb
  split at hr
  case h_2 => cases hr
  rename_i o1 o2 hops
  split at hr
  case h_2 => cases hr
  rename_i d1 d1' d2 ho1 hg1 hd1 ho2 hg2 hd2
  split at hr
  case isFalse => cases hr
  rename_i hc
  simp only [Bool.and_eq_true, Nat.beq_eq, Nat.blt_eq, Nat.ble_eq] at hc
  obtain ⟨c1, c2, c3, c4, c5, c6, c7⟩ := hc
  subst c1
  refine ⟨⟨fn, hfn, by rw [hb]; rfl, fun e => by simp [numGo, e] at c7⟩, ?_⟩
  obtain ⟨i1, i2⟩ := init_rel (E := E) ha hg c5 c4
  have hops' : ops = #[o1, o2] := by rw [← Array.toArray_toList (xs := ops), hops]
  have hres : fn.results = #[] := Array.eq_empty_of_size_eq_zero c6
  -- what 'rest' comes to
  have key : ∀ (rv : AV) (rv' : Value), VRel ρ rv rv' → (match runf rest ⟨((initT args 0 .e).set dep d1 (some rv)).set dep d2 (some rv), fn.ntmps, h, []⟩ with
      | some (.norm, s) => (match s.defs with | [] => some s.h | _ => none)
      | some (.ret, s) => (match s.defs with | [] => some s.h | _ => none)
      | _ => none) = some h' →
      rest.wp E.P (fun e a w' => (e = .normal ∨ e = .ret) ∧ a.defers = [] ∧ ∃ ρ', Agree h.next ρ ρ' ∧ h.next ≤ h'.next ∧ WRel F w0 w' ρ' h')
        { tmps := ((args' ++ Array.replicate (fn.ntmps - args'.size) undef).setIfInBounds d1 rv').setIfInBounds d2 rv', defers := [] } w := by
    intro rv rv' hrv hk
    have hs : SRel E.G F w0 w ρ ⟨((initT args 0 .e).set dep d1 (some rv)).set dep d2 (some rv), fn.ntmps, h, []⟩
        { tmps := ((args' ++ Array.replicate (fn.ntmps - args'.size) undef).setIfInBounds d1 rv').setIfInBounds d2 rv', defers := [] } := by
      have t1 := i1.set (d := d1) (by rw [i2]; exact c2) (by omega) hrv
      have t2 := t1.set (d := d2) (by simp only [Array.size_setIfInBounds]; rw [i2]; exact c3) (by omega) hrv
      exact ⟨hw, t2, by simp only [Array.size_setIfInBounds]; exact i2, by simp only; omega, .nil⟩
    split at hk
    · rename_i s hs1
      split at hk
      · rename_i hd
        cases hk
        refine Code.wp_mono ?_ (hrun _ _ _ _ hs1 F w0 w ρ _ hs)
        rintro e a w' ⟨ρ', q1, q2, q3⟩
        cases e <;> first
          | (exact q3.elim)
          | (refine ⟨.inl rfl, ?_, ρ', q1, q2, q3.wr⟩
             have := q3.dr
             rw [hd] at this
             generalize a.defers = ad at this
             cases this; rfl)
      · cases hk
    · rename_i s hs1
      split at hk
      · rename_i hd
        cases hk
        refine Code.wp_mono ?_ (hrun _ _ _ _ hs1 F w0 w ρ _ hs)
        rintro e a w' ⟨ρ', q1, q2, q3⟩
        cases e <;> first
          | (exact q3.elim)
          | (refine ⟨.inr rfl, ?_, ρ', q1, q2, q3.wr⟩
             have := q3.dr
             rw [hd] at this
             generalize a.defers = ad at this
             cases this; rfl)
      · cases hk
    · cases hk
  have hrun1 : ∀ (b : Act), (execOp b.eval o1).run E.P w = .ok .recover w := by
    intro b
    simp [execOp, ho1, resolve, invoke, builtin]
  have hrun2 : ∀ (b : Act) (w' : World), (execOp b.eval o2).run E.P w' = .ok (.value (b.tmps.getD d1 undef)) w' := by
    intro b w'
    simp [execOp, ho2, Act.eval]
  have hw1 : ∀ tm : Array Value, Region.wanted o1 (yielded #[o1, o2] tm) = true := fun tm => by simp [Region.wanted, hg1]
  have hw2 : ∀ tm : Array Value, Region.wanted o2 (yielded #[o1, o2] tm) = true := fun tm => by simp [Region.wanted, hg2]
  have hsz : d1 < (args' ++ Array.replicate (fn.ntmps - args'.size) undef).size := by rw [i2]; exact c2
  refine callsD_of_wpS hfn hb ?_
  intro c₀ cs hmode
  refine wpS_seq (wpS_region ?_)
  subst hops'
  show wpOpsS E.P #[o1, o2] _ [0, 1] _ _ w
  simp only [wpOpsS, List.getElem?_toArray, List.getElem?_cons_zero, hw1, if_true, hrun1]
  cases m with
  | none =>
    cases m' with
    | some _ => exact hm.elim
    | none =>
      have hmode' : c₀.mode = .returning := hmode
      simp only [recoverD, hmode']
      simp only [List.getElem?_toArray, List.getElem?_cons_succ, List.getElem?_cons_zero, hw2, if_true, hrun2, Oper.upon_value]
      have hg1' : ((({ tmps := args' ++ Array.replicate (fn.ntmps - args'.size) undef, defers := [] } : Act).put o1.dst .nilIface).tmps.getD d1 undef) = .nilIface := by
        simp only [Act.put, hd1]
        rw [Array.getD_eq_getD_getElem?, Array.getElem?_setIfInBounds_self_of_lt hsz]; rfl
      rw [hg1']
      have k := key .niliface .nilIface .niliface hr
      refine (wpS_of_wp ?_ : Code.wpS E.P rest _ _ (c₀ :: cs) w)
      · simp only [Act.put, hd1, hd2]
        refine Code.wp_mono ?_ k
        rintro e a w' ⟨he, hda, q⟩
        have hc0 : c₀ :: cs = { c₀ with mode := .returning } :: cs := by rw [← hmode']
        rcases he with rfl | rfl
        · exact ⟨hda, .returning, hc0, _, results_none hres a.tmps E.P w', ⟨_, rfl⟩, rfl, q⟩
        · exact ⟨hda, .returning, hc0, _, results_none hres a.tmps E.P w', ⟨_, rfl⟩, rfl, q⟩
  | some v =>
    cases m' with
    | none => exact hm.elim
    | some v' =>
      have hmode' : c₀.mode = .panicking [{ v := v', recovered := false }] := hmode
      simp only [recoverD, hmode']
      simp only [List.getElem?_toArray, List.getElem?_cons_succ, List.getElem?_cons_zero, hw2, if_true, hrun2, Oper.upon_value]
      have hg1' : ((({ tmps := args' ++ Array.replicate (fn.ntmps - args'.size) undef, defers := [] } : Act).put o1.dst v').tmps.getD d1 undef) = v' := by
        simp only [Act.put, hd1]
        rw [Array.getD_eq_getD_getElem?, Array.getElem?_setIfInBounds_self_of_lt hsz]; rfl
      rw [hg1']
      have k := key v v' hm hr
      refine (wpS_of_wp ?_ : Code.wpS E.P rest _ _ _ w)
      · simp only [Act.put, hd1, hd2]
        refine Code.wp_mono ?_ k
        rintro e a w' ⟨he, hda, q⟩
        rcases he with rfl | rfl
        · exact ⟨hda, .panicking [{ v := v', recovered := true }], rfl, _, results_none hres a.tmps E.P w', ⟨_, rfl⟩, rfl, q⟩
        · exact ⟨hda, .panicking [{ v := v', recovered := true }], rfl, _, results_none hres a.tmps E.P w', ⟨_, rfl⟩, rfl, q⟩

/-! ## calls -/
theorem finish_ok {runf : Code → St → Option (AX × St)} (hrun : ∀ c s x s', runf c s = some (x, s') → CSound E c s x s') {fn : Func} {ρ0 : Ren} {n0 : Nat} {m : Option AV} {s : St} {r : Ret} {h' : Heap}
    (hf : finish E runf fn m s = some (r, h')) {w : World} {ρ : Ren} {a : Act} {m' : Option Value} (ha : Agree n0 ρ0 ρ) (hn : n0 ≤ s.h.next) (hs : SRel E.G F w0 w ρ s a) (hm : MRel ρ m m') :
    Leaves E.P fn a.tmps (RPost F w0 ρ0 n0 r h') a.defers (modeOf m') w := by
  unfold finish at hf
  split at hf
  · rename_i hd
    have hdr := hs.dr
    rw [hd] at hdr
    generalize a.defers = ad at hdr
    cases hdr
    split at hf
    · split at hf
      · rename_i v hv
        cases hf
        cases m' with
        | some _ => exact hm.elim
        | none =>
          obtain ⟨v', h1, h2⟩ := results_ok hs.wr hs.tr hv
          exact ⟨v', h1, ρ, ha, hn, hs.wr, h2⟩
      · cases hf
    · cases hf
      cases m' with
      | none => exact hm.elim
      | some v' => exact ⟨ρ, ha, hn, hs.wr, v', rfl, hm⟩
  · rename_i f args hd
    have hdr := hs.dr
    rw [hd] at hdr
    generalize a.defers = ad at hdr
    cases hdr with
    | cons h1 t1 =>
      cases t1
      rename_i cap da
      split at hf
      · rename_i h1' hrec
        split at hf
        · rename_i v hv
          cases hf
          obtain ⟨⟨fn', hfn', hbody, hname⟩, hcd⟩ := rec_ok hrun hs.wr hs.tr.glob h1 hm hrec
          have hinv : (invoke (.fn (.func f) cap) da).run E.P w = .ok (.enter f (da ++ cap)) w := by
            cases hb : fn'.body with
            | none => rw [hb] at hbody; cases hbody
            | some c => simp [invoke, callFunc, hfn', hname, hb]
          refine leaves_cons (by cases m' <;> simp [modeOf]) hinv (hcd.mono ?_)
          rintro e u' w' ⟨⟨v0, rfl⟩, hset, ρ', q1, q2, q3⟩
          simp only [Leaves, hset]
          have hsub := hs.wr.sub q1
          obtain ⟨v', g1, g2⟩ := results_ok q3 (hs.tr.mono hsub) hv
          exact ⟨v', g1, ρ', ha.trans q1 hn, by omega, q3, g2⟩
        · cases hf
      · cases hf
  · cases hf
end

theorem callBody_ok {E : Env} {runf : Code → St → Option (AX × St)} (hrun : ∀ c s x s', runf c s = some (x, s') → CSound E c s x s') : CallSound E (callBody E runf) := by
  intro f args h r h' hc F w0 w ρ args' ha hw hg
  unfold callBody at hc
  split at hc
  case h_2 => cases hc
  rename_i fn hfn
  split at hc
  case h_2 => cases hc
  rename_i c hb
  split at hc
  case isFalse => cases hc
  rename_i hcond
  simp only [Bool.and_eq_true, Nat.ble_eq, Nat.blt_eq] at hcond
  obtain ⟨i1, i2⟩ := init_rel (E := E) ha hg hcond.1 hcond.2
  have hs : SRel E.G F w0 w ρ ⟨initT args 0 .e, fn.ntmps, h, []⟩ { tmps := args' ++ Array.replicate (fn.ntmps - args'.size) undef, defers := [] } :=
    ⟨hw, i1, i2, by simp only; omega, .nil⟩
  refine calls_of_wp_defers hfn hb ?_
  split at hc
  · rename_i s hs1
    refine Code.wp_mono ?_ (hrun _ _ _ _ hs1 F w0 w ρ _ hs)
    rintro e a w' ⟨ρ', q1, q2, q3⟩
    cases e <;> first
      | exact q3.elim
      | exact finish_ok hrun hc q1 q2 q3 (m' := none) trivial
  · rename_i s hs1
    refine Code.wp_mono ?_ (hrun _ _ _ _ hs1 F w0 w ρ _ hs)
    rintro e a w' ⟨ρ', q1, q2, q3⟩
    cases e <;> first
      | exact q3.elim
      | exact finish_ok hrun hc q1 q2 q3 (m' := none) trivial
  · rename_i v s hs1
    refine Code.wp_mono ?_ (hrun _ _ _ _ hs1 F w0 w ρ _ hs)
    rintro e a w' ⟨ρ', q1, q2, q3⟩
    cases e <;> first
      | exact q3.elim
      | (obtain ⟨⟨v', rfl, q4⟩, q5⟩ := q3
         exact finish_ok hrun hc q1 q2 q5 (m' := some v') q4)
  · rename_i v s hs1
    split at hc
    · rename_i hd
      cases hc
      refine Code.wp_mono ?_ (hrun _ _ _ _ hs1 F w0 w ρ _ hs)
      rintro e a w' ⟨ρ', q1, q2, q3⟩
      cases e <;> first
        | exact q3.elim
        | (obtain ⟨⟨v', rfl, q4⟩, q5, q6⟩ := q3
           rw [hd] at q6
           generalize hq : a.defers = ad at q6
           cases q6
           show Leaves E.P fn a.tmps _ a.defers _ _
           rw [hq]
           exact ⟨ρ', q1, q2, q5, v', rfl, q4⟩)
    · cases hc
  · cases hc

theorem eqL_same {a b : List Nat} (h : eqL a b = true) : a = b := by
  rw [eqL_eq] at h; exact of_decide_eq_true h

theorem beqs_eq {n : Nat} (ih : ∀ x y, beqA n x y = true → x = y) : ∀ {a b : List AV}, beqA.beqs n a b = true → a = b
  | [], [], _ => rfl
  | [], _ :: _, h => by simp [beqA.beqs] at h
  | _ :: _, [], h => by simp [beqA.beqs] at h
  | a :: l, b :: m, h => by
    simp only [beqA.beqs, Bool.and_eq_true] at h
    rw [ih _ _ h.1, beqs_eq ih h.2]

theorem beqA_eq : ∀ (n : Nat) (x y : AV), beqA n x y = true → x = y := by
  intro n
  induction n with
  | zero => intro x y h; simp [beqA] at h
  | succ n ih =>
    intro x y h
    unfold beqA at h
    split at h <;> first
      | rfl
      | cases h
      | (simp only [Bool.and_eq_true, decide_eq_true_eq] at h
         obtain ⟨h1, h2⟩ := h
         rw [sameK_eq h1, h2])
      | rw [eqL_same h]
      | (simp only [Bool.and_eq_true] at h
         obtain ⟨h1, h2⟩ := h
         rw [Nat.eq_of_beq_eq_true h1, ih _ _ h2])
      | (simp only [Bool.and_eq_true] at h
         obtain ⟨h1, h2, h3⟩ := h
         rw [Nat.eq_of_beq_eq_true h1, beqs_eq ih h2, beqs_eq ih h3])
      | rw [beqs_eq ih h]
      | (simp only [Bool.and_eq_true] at h
         obtain ⟨h1, h2, h3, h4⟩ := h
         rw [Nat.eq_of_beq_eq_true h1, Nat.eq_of_beq_eq_true h2, Nat.eq_of_beq_eq_true h3, Nat.eq_of_beq_eq_true h4])
      | (simp only [Bool.and_eq_true] at h
         obtain ⟨h1, h2⟩ := h
         rw [Nat.eq_of_beq_eq_true h1, Nat.eq_of_beq_eq_true h2])
      | rw [Nat.eq_of_beq_eq_true h]
      | (rw [beq_iff_eq] at h; rw [h])

/-- what names no block stands for itself everywhere -/
theorem pures_rel {n : Nat} {ρ ρ' : Ren} (ih : ∀ v v', pureA n v = true → VRel ρ v v' → VRel ρ' v v') : ∀ {l : List AV} {l' : List Value}, pureA.pures n l = true → VsRel ρ l l' → VsRel ρ' l l'
  | [], _, _, .nil => .nil
  | a :: l, _, h, .cons hv ht => by
    simp only [pureA.pures, Bool.and_eq_true] at h
    exact .cons (ih _ _ h.1 hv) (pures_rel ih h.2 ht)

theorem pureA_rel {ρ ρ' : Ren} : ∀ (n : Nat) (v : AV) (v' : Value), pureA n v = true → VRel ρ v v' → VRel ρ' v v' := by
  intro n
  induction n with
  | zero => intro v v' h; simp [pureA] at h
  | succ n ih =>
    intro v v' h hv
    cases hv with
    | bool b => exact .bool b
    | int k n => exact .int k n
    | str s => exact .str s
    | nilptr => exact .nilptr
    | nilsl => exact .nilsl
    | nilfn => exact .nilfn
    | niliface => exact .niliface
    | lit => exact .lit _
    | fn h1 h2 =>
      simp only [pureA, Bool.and_eq_true] at h
      exact .fn (pures_rel ih h.1 h1) (pures_rel ih h.2 h2)
    | iface h1 => simp only [pureA] at h; exact .iface (ih _ _ h h1)
    | agg h1 => simp only [pureA] at h; exact .agg (pures_rel ih h h1)
    | tup h1 => simp only [pureA] at h; exact .tup (pures_rel ih h h1)
    | _ => simp [pureA] at h

theorem findSum_ok {f : FuncId} {args : List AV} {s : Sum} : ∀ {l : List Sum}, findSum f args l = some s → s ∈ l ∧ s.f = f ∧ s.args = args
  | [], h => by simp [findSum] at h
  | x :: l, h => by
    simp only [findSum] at h
    split at h
    · rename_i hc
      cases h
      simp only [Bool.and_eq_true] at hc
      exact ⟨by simp, Nat.eq_of_beq_eq_true hc.1, beqs_eq (fun x y => beqA_eq 20 x y) hc.2⟩
    · obtain ⟨h1, h2⟩ := findSum_ok h
      exact ⟨by simp [h1], h2⟩

/-- a world that has only grown -/
theorem WRel.grown {F : Frm} {w0 w w' : World} {ρ : Ren} {h : Heap} (hw : WRel F w0 w ρ h) (h1 : w'.os = w.os) (h2 : w'.tape = w.tape) (h3 : w'.output = w.output) (h4 : w.heap.size ≤ w'.heap.size)
    (h5 : ∀ b, b < w.heap.size → w'.heap[b]? = w.heap[b]?) : WRel F w0 w' ρ h :=
  ⟨h1.trans hw.os, h2.trans hw.tape, h3.trans hw.output, Nat.le_trans hw.size h4, fun b hb => (h5 b (Nat.lt_of_lt_of_le (hw.inold b hb) hw.size)).trans (hw.old b hb), hw.inold, hw.bound, hw.fresh,
   fun k l hk => Nat.lt_of_lt_of_le (hw.dom k l hk) h4, fun k B l hk hl => (hw.blk k B l hk hl).mono (Sub.refl _) (h5 _ (hw.dom k l hl)), hw.own, hw.inj⟩

/-- and a block of its own beside -/
theorem WRel.adopt {F : Frm} {w0 w w' : World} {ρ ρ1 : Ren} {h : Heap} (hw : WRel F w0 w ρ h) (h1 : w'.os = w.os) (h2 : w'.tape = w.tape) (h3 : w'.output = w.output) (h4 : w.heap.size ≤ w'.heap.size)
    (h5 : ∀ b, b < w.heap.size → w'.heap[b]? = w.heap[b]?) (hn : h.next < maxId) {B : Blk} {l : Loc} (hl : w.heap.size ≤ l.b) (hl' : l.b < w'.heap.size) (hb : BRel ρ1 w' B l) (hp : pureA.pures 20 B.cells = true) :
    WRel F w0 w' (ρ.upd h.next l) { h.put h.next (some B) with next := h.next + 1 } := by
  have hg := hw.grown h1 h2 h3 h4 h5
  have hf := hw.fresh h.next (Nat.le_refl _)
  have hsub := Ren.upd_sub (l := l) hf
  have hget : ∀ j, ({ h.put h.next (some B) with next := h.next + 1 } : Heap).get j = if j = h.next then some B else h.get j := fun j => Heap.get_put hn j
  have hup : ∀ j, (ρ.upd h.next l) j = if j = h.next then some l else ρ j := fun j => rfl
  refine ⟨hg.os, hg.tape, hg.output, hg.size, hg.old, hg.inold, by simp only; omega, fun k hk => ?_, fun k m hk => ?_, fun k B' m hk hm => ?_, fun k B' m hk hm => ?_, fun k1 B1 m1 k2 B2 m2 g1 r1 g2 r2 hz e => ?_⟩
  · simp only at hk
    rw [hup, if_neg (by omega)]; exact hw.fresh k (by omega)
  · rw [hup] at hk
    split at hk
    · cases hk; exact hl'
    · exact hg.dom k m hk
  · rw [hget] at hk; rw [hup] at hm
    split at hk
    · rename_i e
      rw [if_pos e] at hm; cases hk; cases hm
      obtain ⟨⟨cs, fz, c1, c2, c3, c4⟩, c5, c6⟩ := hb
      exact ⟨⟨cs, fz, c1, c2, c3, pures_rel (fun v v' => pureA_rel 20 v v') hp c4⟩, c5, c6⟩
    · rename_i e
      rw [if_neg e] at hm
      exact (hg.blk k B' m hk hm).mono hsub rfl
  · rw [hget] at hk; rw [hup] at hm
    split at hk
    · rename_i e
      rw [if_pos e] at hm; cases hm
      have : ∀ b, F.any b → b < w.heap.size := fun b hb => Nat.lt_of_lt_of_le (hw.inold b hb) hw.size
      exact ⟨fun _ x => by have := this _ (.inl x); omega, fun x => by have := this _ (.inr x); omega⟩
    · rename_i e
      rw [if_neg e] at hm
      exact hg.own k B' m hk hm
  · rw [hget] at g1 g2; rw [hup] at r1 r2
    split at g1 <;> split at g2
    · rename_i e1 e2; rw [e1, e2]
    · rename_i e1 e2
      rw [if_pos e1] at r1; rw [if_neg e2] at r2; cases r1
      have := hw.dom k2 m2 r2; omega
    · rename_i e1 e2
      rw [if_neg e1] at r1; rw [if_pos e2] at r2; cases r2
      have := hw.dom k1 m1 r1; omega
    · rename_i e1 e2
      rw [if_neg e1] at r1; rw [if_neg e2] at r2
      exact hw.inj k1 B1 m1 k2 B2 m2 g1 r1 g2 r2 hz e

theorem callWith_ok {E : Env} (hE : EnvOk E) {runf : Code → St → Option (AX × St)} (hrun : ∀ c s x s', runf c s = some (x, s') → CSound E c s x s') : CallSound E (callWith E runf) := by
  intro f args h r h' hc F w0 w ρ args' ha hw hg
  unfold callWith at hc
  split at hc
  · rename_i s hs
    obtain ⟨s1, rfl, rfl⟩ := findSum_ok hs
    have hk := hE.sums s s1 w ρ args' ha
    unfold applySum at hc
    split at hc
    · rename_i hb
      split at hc
      case isFalse => cases hc
      rename_i hp
      cases hc
      refine hk.mono ?_
      rintro e w' ⟨v', rfl, q1, q2, q3, q4, q5, q6⟩
      rw [hb] at q6
      obtain ⟨ρ', q6⟩ := q6
      exact ⟨ρ, Agree.refl _ _, Nat.le_refl _, hw.grown q1 q2 q3 q4 q5, pureA_rel 20 _ _ hp q6⟩
    · rename_i B hb
      split at hc
      case isFalse => cases hc
      rename_i hp
      simp only [Bool.and_eq_true, Nat.blt_eq] at hp
      split at hc
      · rename_i k off hr
        split at hc
        case isFalse => cases hc
        rename_i hk0
        have hk0' : k = 0 := Nat.eq_of_beq_eq_true hk0
        subst hk0'
        cases hc
        refine hk.mono ?_
        rintro e w' ⟨v', rfl, q1, q2, q3, q4, q5, q6⟩
        rw [hb] at q6
        obtain ⟨ρ1, ρ', l, g1, g2, g3, g4, g5⟩ := q6
        refine ⟨ρ.upd h.next l, Ren.upd_agree (Nat.le_refl _), by simp, hw.adopt q1 q2 q3 q4 q5 hp.1 g2 g3 g4 hp.2, ?_⟩
        rw [hr] at g5
        cases g5 with
        | ptr hl =>
          rw [g1] at hl; cases hl
          exact .ptr (Ren.upd_self _ _ _)
      · rename_i k off len cap hr
        split at hc
        case isFalse => cases hc
        rename_i hk0
        have hk0' : k = 0 := Nat.eq_of_beq_eq_true hk0
        subst hk0'
        cases hc
        refine hk.mono ?_
        rintro e w' ⟨v', rfl, q1, q2, q3, q4, q5, q6⟩
        rw [hb] at q6
        obtain ⟨ρ1, ρ', l, g1, g2, g3, g4, g5⟩ := q6
        refine ⟨ρ.upd h.next l, Ren.upd_agree (Nat.le_refl _), by simp, hw.adopt q1 q2 q3 q4 q5 hp.1 g2 g3 g4 hp.2, ?_⟩
        rw [hr] at g5
        cases g5 with
        | sl hl =>
          rw [g1] at hl; cases hl
          exact .sl (Ren.upd_self _ _ _)
      · rename_i k off len es hr
        split at hc
        case isFalse => cases hc
        rename_i hk0
        have hk0' : k = 0 := Nat.eq_of_beq_eq_true hk0
        subst hk0'
        cases hc
        refine hk.mono ?_
        rintro e w' ⟨v', rfl, q1, q2, q3, q4, q5, q6⟩
        rw [hb] at q6
        obtain ⟨ρ1, ρ', l, g1, g2, g3, g4, g5⟩ := q6
        refine ⟨ρ.upd h.next l, Ren.upd_agree (Nat.le_refl _), by simp, hw.adopt q1 q2 q3 q4 q5 hp.1 g2 g3 g4 hp.2, ?_⟩
        rw [hr] at g5
        cases g5 with
        | slo hl c1 c2 =>
          rw [g1] at hl; cases hl
          exact .slo (Ren.upd_self _ _ _) c1 c2
      · cases hc
  · exact callBody_ok hrun f args h r h' hc F w0 w ρ args' ha hw hg

theorem rounds_mono {P : Program} {c : Code} {Q Q' : Exit → Act → World → Prop} (hq : ∀ e a w, Q e a w → Q' e a w) : ∀ (m : Nat) (a : Act) (w : World), Code.rounds P c Q m a w → Code.rounds P c Q' m a w
  | 0, _, _, h => h
  | m + 1, a, w, h => by
    rw [rounds_succ] at h ⊢
    refine Code.wp_mono ?_ h
    intro e a w he
    cases e <;> first
      | exact rounds_mono hq m _ _ he
      | exact hq _ _ _ he

theorem not_norm {G : Nat} {F : Frm} {w0 w : World} {ρ : Ren} {n : Nat} {x : AX} {s : St} {a : Act} (hx : x ≠ .norm) : ¬ XPost G F w0 ρ n x s .normal a w := by
  rintro ⟨ρ', _, _, h⟩
  cases x <;> first
    | exact hx rfl
    | exact h

/-- what is not the normal way goes past what stands behind -/
theorem past {G : Nat} {F : Frm} {w0 : World} {ρ : Ren} {n : Nat} {x : AX} {s : St} {next : Act → World → Prop} (hx : x ≠ .norm) :
    ∀ e a w, XPost G F w0 ρ n x s e a w → Exit.then next (XPost G F w0 ρ n x s) e a w := by
  intro e a w h
  cases e with
  | normal => exact absurd h (not_norm hx)
  | _ => exact h

theorem run_ok {E : Env} (hE : EnvOk E) (hd : DrawSound E) : ∀ (n : Nat) (c : Code) (s : St) (x : AX) (s' : St), run E n c s = some (x, s') →
    CSound E c s x s' ∧ ∀ b, c = .loop b → LSound E b s x s' := by
  intro n
  induction n with
  | zero => intro c s x s' h; simp [run] at h
  | succ n ih =>
    have hrun : ∀ c s x s', run E n c s = some (x, s') → CSound E c s x s' := fun c s x s' h => (ih c s x s' h).1
    have hcall : CallSound E (callWith E (run E n)) := callWith_ok hE hrun
    intro c s x s' h
    cases c with
    | skip =>
      simp only [run] at h; cases h
      exact ⟨fun F w0 w ρ a hs => wp_skip ⟨ρ, Agree.refl _ _, Nat.le_refl _, hs⟩, by intro b hb; cases hb⟩
    | exit id =>
      simp only [run] at h; cases h
      exact ⟨fun F w0 w ρ a hs => wp_exit ⟨ρ, Agree.refl _ _, Nat.le_refl _, rfl, hs⟩, by intro b hb; cases hb⟩
    | ret =>
      simp only [run] at h; cases h
      exact ⟨fun F w0 w ρ a hs => wp_ret ⟨ρ, Agree.refl _ _, Nat.le_refl _, hs⟩, by intro b hb; cases hb⟩
    | seq y z =>
      refine ⟨fun F w0 w ρ a hs => wp_seq ?_, by intro b hb; cases hb⟩
      simp only [run] at h
      split at h
      · rename_i s1 h1
        refine Code.wp_mono ?_ (hrun _ _ _ _ h1 F w0 w ρ a hs)
        intro e a w he
        cases e with
        | normal =>
          obtain ⟨ρ', q1, q2, q3⟩ := he
          exact Code.wp_mono (fun e a w q => XPost.weaken q2 q1 q) (hrun _ _ _ _ h F w0 w ρ' a q3)
        | _ => obtain ⟨_, _, _, q⟩ := he; exact q.elim
      · rename_i hne
        refine Code.wp_mono (past ?_) (hrun _ _ _ _ h F w0 w ρ a hs)
        rintro rfl
        exact hne s' h
    | cond o y z =>
      refine ⟨fun F w0 w ρ a hs => ?_, by intro b hb; cases hb⟩
      simp only [run] at h
      split at h
      · rename_i ho
        have hv := opd_rel (a := a) hs.tr ho
        refine wp_cond_true ?_ (hrun _ _ _ _ h F w0 w ρ a hs)
        generalize a.eval o = u at hv; cases hv; rfl
      · rename_i ho
        have hv := opd_rel (a := a) hs.tr ho
        refine wp_cond_false ?_ (hrun _ _ _ _ h F w0 w ρ a hs)
        generalize a.eval o = u at hv; cases hv; rfl
      · cases h
    | block id y =>
      refine ⟨fun F w0 w ρ a hs => wp_block ?_, by intro b hb; cases hb⟩
      simp only [run] at h
      split at h
      · rename_i j s1 h1
        split at h
        · rename_i hj
          have hj' : j = id := by simpa [Nat.beq_eq] using hj
          subst hj'
          cases h
          refine Code.wp_mono ?_ (hrun _ _ _ _ h1 F w0 w ρ a hs)
          intro e a w he
          obtain ⟨ρ', q1, q2, q3⟩ := he
          cases e with
          | exit k =>
            obtain ⟨rfl, q4⟩ := q3
            simp only [Exit.inBlock, if_true]
            exact ⟨ρ', q1, q2, q4⟩
          | _ => exact q3.elim
        · rename_i hj
          have hj' : j ≠ id := fun e => hj (by simp [e])
          cases h
          refine Code.wp_mono ?_ (hrun _ _ _ _ h1 F w0 w ρ a hs)
          intro e a w he
          obtain ⟨ρ', q1, q2, q3⟩ := he
          cases e with
          | exit k =>
            obtain ⟨rfl, q4⟩ := q3
            simp only [Exit.inBlock, hj', if_false]
            exact ⟨ρ', q1, q2, rfl, q4⟩
          | _ => exact q3.elim
      · rename_i hne
        refine Code.wp_mono ?_ (hrun _ _ _ _ h F w0 w ρ a hs)
        intro e a w he
        cases e with
        | exit k =>
          obtain ⟨ρ', q1, q2, q3⟩ := he
          cases x with
          | exit j => exact absurd h (hne j s')
          | _ => exact q3.elim
        | _ => exact he
    | loop y =>
      have hl : LSound E y s x s' := by
        simp only [run] at h
        split at h
        · rename_i s1 h1
          obtain ⟨m, hm⟩ := (ih _ _ _ _ h).2 y rfl
          refine ⟨m + 1, fun F w0 w ρ a hs => ?_⟩
          rw [rounds_succ]
          refine Code.wp_mono ?_ (hrun _ _ _ _ h1 F w0 w ρ a hs)
          intro e a w he
          cases e with
          | normal =>
            obtain ⟨ρ', q1, q2, q3⟩ := he
            exact rounds_mono (fun e a w q => XPost.weaken q2 q1 q) m a w (hm F w0 w ρ' a q3)
          | _ => obtain ⟨_, _, _, q⟩ := he; exact q.elim
        · rename_i hne
          refine ⟨1, fun F w0 w ρ a hs => ?_⟩
          rw [rounds_succ]
          refine Code.wp_mono (past ?_) (hrun _ _ _ _ h F w0 w ρ a hs)
          rintro rfl
          exact hne s' h
      refine ⟨?_, by intro b hb; cases hb; exact hl⟩
      intro F w0 w ρ a hs
      obtain ⟨m, hm⟩ := hl
      exact wp_loop_rounds m (hm F w0 w ρ a hs)
    | region id ops draw =>
      refine ⟨fun F w0 w ρ a hs => ?_, by intro b hb; cases hb⟩
      cases draw with
      | false =>
        simp only [run] at h
        cases hq : runSeq E (callWith E (run E n)) ops.toList ops.toList s with
        | none => rw [hq] at h; simp [ofSeq] at h
        | some p =>
          obtain ⟨r, s1⟩ := p
          rw [hq] at h
          have hw := runSeq_ok (F := F) (w0 := w0) hE hcall ops.toList s s1 r w ρ a hs hq
          have hx : axOf r = x ∧ s1 = s' := by
            cases r <;> simp [ofSeq] at h <;> exact ⟨h.1, h.2⟩
          rw [hx.1, hx.2] at hw
          exact wp_region_list hw
      | true =>
        simp only [run] at h
        cases hq : runDraw E (callWith E (run E n)) ops.toList s with
        | none => rw [hq] at h; cases h
        | some r =>
          rw [hq] at h
          have hw := hd _ hcall id ops s r hq F w0 w ρ a hs
          have hx : drAx r = x ∧ drSt r = s' := by
            cases r <;> (simp only at h; cases h; exact ⟨rfl, rfl⟩)
          rw [hx.1, hx.2] at hw
          exact hw
    | _ => simp [run] at h

theorem callA_ok {E : Env} (hE : EnvOk E) (hd : DrawSound E) (n : Nat) : CallSound E (callA E n) :=
  callWith_ok hE fun c s x s' h => (run_ok hE hd n c s x s' h).1

end Go.Ev
