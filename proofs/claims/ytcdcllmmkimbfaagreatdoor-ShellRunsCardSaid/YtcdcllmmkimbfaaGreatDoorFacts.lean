/-
  The closed facts of the row on reservoir/reservoirlaw30.ShellRuns, each by the kernel, each as a lemma of its own. No condition.
-/
import Derived.Test.YtcdcllmmkimbfaaGreatDoorRows
import Derived.ProofKit
import Derived.OpenShut
import Derived.JoinedOf
namespace Go.Proofs.YtcdcllmmkimbfaaGreatDoor

set_option maxHeartbeats 100000000 in
theorem facts : joinedFacts Tryz.prog 3 Tryz.f3 Rows.shellRunsSpec Rows.shellRunsRow = true := by
  unfold joinedFacts
  simp only [Bool.and_eq_true]
  repeat' apply And.intro
  all_goals (as_aux_lemma => kernel_rfl)

theorem named : Tryz.prog.funcNamed "reservoir/reservoirlaw30.ShellRuns" = some 3 := by kernel_rfl

theorem wrapped : Tryz.f3.isWrapper Tryz.prog Rows.shellRunsRow.wrapper Rows.shellRunsRow.mainSum := by
  unfold Func.isWrapper; first | (rw [if_pos (by decide +kernel)]; kernel_rfl) | (rw [if_neg (by decide +kernel)]; exact ⟨rfl, rfl⟩)

end Go.Proofs.YtcdcllmmkimbfaaGreatDoor
