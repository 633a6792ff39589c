/-
  The closed sentence reservoir/reservoirlaw30.ShellRuns says true in whatever world it is called, and touches nothing that was there: by the evaluator's run of it, done by the kernel. No condition.
-/
import Derived.Test.YtcdcllmmkimbfaaGreatDoorEv17
import Derived.Test.YtcdcllmmkimbfaaGreatDoorChecked
import Derived.Laws.Externs
namespace Go.Proofs.YtcdcllmmkimbfaaGreatDoor
open Go.Ev

def ext (f : FuncId) : Nat := if Nat.beq f 73 then 2 else if Nat.beq f 80 then 3 else if Nat.beq f 83 then 4 else if Nat.beq f 160 then 1 else 0

def sum0 : Sum := { f := 166, args := [], ret := .slo 0 0 61 2, blk := some { elem := 24, exact := false, fz := 0, cells := [.str [58, 97, 117, 116, 104, 111, 114, 105, 116, 121], .str [], .str [58, 109, 101, 116, 104, 111, 100], .str [71, 69, 84], .str [58, 109, 101, 116, 104, 111, 100], .str [80, 79, 83, 84], .str [58, 112, 97, 116, 104], .str [47], .str [58, 112, 97, 116, 104], .str [47, 105, 110, 100, 101, 120, 46, 104, 116, 109, 108], .str [58, 115, 99, 104, 101, 109, 101], .str [104, 116, 116, 112], .str [58, 115, 99, 104, 101, 109, 101], .str [104, 116, 116, 112, 115], .str [58, 115, 116, 97, 116, 117, 115], .str [50, 48, 48], .str [58, 115, 116, 97, 116, 117, 115], .str [50, 48, 52], .str [58, 115, 116, 97, 116, 117, 115], .str [50, 48, 54], .str [58, 115, 116, 97, 116, 117, 115], .str [51, 48, 52], .str [58, 115, 116, 97, 116, 117, 115], .str [52, 48, 48], .str [58, 115, 116, 97, 116, 117, 115], .str [52, 48, 52], .str [58, 115, 116, 97, 116, 117, 115], .str [53, 48, 48], .str [97, 99, 99, 101, 112, 116, 45, 99, 104, 97, 114, 115, 101, 116], .str [], .str [97, 99, 99, 101, 112, 116, 45, 101, 110, 99, 111, 100, 105, 110, 103], .str [103, 122, 105, 112, 44, 32, 100, 101, 102, 108, 97, 116, 101], .str [97, 99, 99, 101, 112, 116, 45, 108, 97, 110, 103, 117, 97, 103, 101], .str [], .str [97, 99, 99, 101, 112, 116, 45, 114, 97, 110, 103, 101, 115], .str [], .str [97, 99, 99, 101, 112, 116], .str [], .str [97, 99, 99, 101, 115, 115, 45, 99, 111, 110, 116, 114, 111, 108, 45, 97, 108, 108, 111, 119, 45, 111, 114, 105, 103, 105, 110], .str [], .str [97, 103, 101], .str [], .str [97, 108, 108, 111, 119], .str [], .str [97, 117, 116, 104, 111, 114, 105, 122, 97, 116, 105, 111, 110], .str [], .str [99, 97, 99, 104, 101, 45, 99, 111, 110, 116, 114, 111, 108], .str [], .str [99, 111, 110, 116, 101, 110, 116, 45, 100, 105, 115, 112, 111, 115, 105, 116, 105, 111, 110], .str [], .str [99, 111, 110, 116, 101, 110, 116, 45, 101, 110, 99, 111, 100, 105, 110, 103], .str [], .str [99, 111, 110, 116, 101, 110, 116, 45, 108, 97, 110, 103, 117, 97, 103, 101], .str [], .str [99, 111, 110, 116, 101, 110, 116, 45, 108, 101, 110, 103, 116, 104], .str [], .str [99, 111, 110, 116, 101, 110, 116, 45, 108, 111, 99, 97, 116, 105, 111, 110], .str [], .str [99, 111, 110, 116, 101, 110, 116, 45, 114, 97, 110, 103, 101], .str [], .str [99, 111, 110, 116, 101, 110, 116, 45, 116, 121, 112, 101], .str [], .str [99, 111, 111, 107, 105, 101], .str [], .str [100, 97, 116, 101], .str [], .str [101, 116, 97, 103], .str [], .str [101, 120, 112, 101, 99, 116], .str [], .str [101, 120, 112, 105, 114, 101, 115], .str [], .str [102, 114, 111, 109], .str [], .str [104, 111, 115, 116], .str [], .str [105, 102, 45, 109, 97, 116, 99, 104], .str [], .str [105, 102, 45, 109, 111, 100, 105, 102, 105, 101, 100, 45, 115, 105, 110, 99, 101], .str [], .str [105, 102, 45, 110, 111, 110, 101, 45, 109, 97, 116, 99, 104], .str [], .str [105, 102, 45, 114, 97, 110, 103, 101], .str [], .str [105, 102, 45, 117, 110, 109, 111, 100, 105, 102, 105, 101, 100, 45, 115, 105, 110, 99, 101], .str [], .str [108, 97, 115, 116, 45, 109, 111, 100, 105, 102, 105, 101, 100], .str [], .str [108, 105, 110, 107], .str [], .str [108, 111, 99, 97, 116, 105, 111, 110], .str [], .str [109, 97, 120, 45, 102, 111, 114, 119, 97, 114, 100, 115], .str [], .str [112, 114, 111, 120, 121, 45, 97, 117, 116, 104, 101, 110, 116, 105, 99, 97, 116, 101], .str [], .str [112, 114, 111, 120, 121, 45, 97, 117, 116, 104, 111, 114, 105, 122, 97, 116, 105, 111, 110], .str [], .str [114, 97, 110, 103, 101], .str [], .str [114, 101, 102, 101, 114, 101, 114], .str [], .str [114, 101, 102, 114, 101, 115, 104], .str [], .str [114, 101, 116, 114, 121, 45, 97, 102, 116, 101, 114], .str [], .str [115, 101, 114, 118, 101, 114], .str [], .str [115, 101, 116, 45, 99, 111, 111, 107, 105, 101], .str [], .str [115, 116, 114, 105, 99, 116, 45, 116, 114, 97, 110, 115, 112, 111, 114, 116, 45, 115, 101, 99, 117, 114, 105, 116, 121], .str [], .str [116, 114, 97, 110, 115, 102, 101, 114, 45, 101, 110, 99, 111, 100, 105, 110, 103], .str [], .str [117, 115, 101, 114, 45, 97, 103, 101, 110, 116], .str [], .str [118, 97, 114, 121], .str [], .str [118, 105, 97], .str [], .str [119, 119, 119, 45, 97, 117, 116, 104, 101, 110, 116, 105, 99, 97, 116, 101], .str []] } }

noncomputable def env (l : List Sum) : Env := { P := Tryz.prog, G := 0, ext := ext, sums := l }

theorem exts_ok : ∀ f fn, Tryz.prog.funcs[f]? = some fn → fn.body = none → ext f ≠ 0 → ∀ args w, (callFunc f args).run Tryz.prog w = ((extFn (ext f) fn args).run Tryz.prog w).andThen fun v w' => .ok (.value v) w' := by
  intro f fn hf _ hn
  by_cases h73 : f = 73
  · subst h73
    obtain rfl := Option.some.inj (Tryz.func73.symm.trans hf)
    exact fun args w => run_callFunc_extern (e := extFn 2 Tryz.f73) Tryz.func73 (by kernel_rfl) (by kernel_rfl) (by kernel_rfl) (by kernel_rfl) args w
  by_cases h80 : f = 80
  · subst h80
    obtain rfl := Option.some.inj (Tryz.func80.symm.trans hf)
    exact fun args w => run_callFunc_extern (e := extFn 3 Tryz.f80) Tryz.func80 (by kernel_rfl) (by kernel_rfl) (by kernel_rfl) (by kernel_rfl) args w
  by_cases h83 : f = 83
  · subst h83
    obtain rfl := Option.some.inj (Tryz.func83.symm.trans hf)
    exact fun args w => run_callFunc_extern (e := extFn 4 Tryz.f83) Tryz.func83 (by kernel_rfl) (by kernel_rfl) (by kernel_rfl) (by kernel_rfl) args w
  by_cases h160 : f = 160
  · subst h160
    obtain rfl := Option.some.inj (Tryz.func160.symm.trans hf)
    exact fun args w => run_callFunc_extern (e := extFn 1 Tryz.f160) Tryz.func160 (by kernel_rfl) (by kernel_rfl) (by kernel_rfl) (by kernel_rfl) args w
  exfalso; apply hn; show ext f = 0; unfold ext
  rw [PT.nbeq h73, PT.nbeq h80, PT.nbeq h83, PT.nbeq h160]; rfl

theorem env_ok {l : List Sum} (h : ∀ x ∈ l, SumOk Tryz.prog x) : EnvOk (env l) := ⟨Checked.mixed Tryz.checked, exts_ok, h⟩

set_option maxRecDepth 100000 in
theorem sum0_runs : sumFits (callA (env []) 1000000 sum0.f sum0.args empty) sum0 = true := by kernel_rfl
theorem sum0_ok : SumOk Tryz.prog sum0 := sum_ok (E := env []) (env_ok (fun x hx => by cases hx)) rfl rfl sum0_runs

set_option maxRecDepth 100000 in
theorem law_runs : isTrue (callA (env [sum0]) 1000000 3 [] empty) = true := by kernel_rfl

theorem law_calls (w : World) : Calls Tryz.prog 3 #[] w fun e w' => e = .returned (.bool true) ∧ w'.os = w.os ∧ w'.tape = w.tape ∧ w'.output = w.output ∧ w.heap.size ≤ w'.heap.size ∧ ∀ b, b < w.heap.size → w'.heap[b]? = w.heap[b]? :=
  run_true (E := env [sum0]) (env_ok (fun x hx => by
  simp only [List.mem_cons, List.not_mem_nil, or_false] at hx
  subst hx
  exact sum0_ok)) rfl law_runs w
end Go.Proofs.YtcdcllmmkimbfaaGreatDoor
