/- Closed facts of ModelKnown's row. -/
import Derived.Test.YthdaccndnfgeeaaGreatDoorCards
import Derived.Test.YthdaccndnfgeeaaGreatDoorTie
import Derived.WalkKit
import Derived.ProofKit
namespace Go.Proofs.YthdaccndnfgeeaaGreatDoor.modelKnown
open Go
theorem f_named : Tryz.pinned.checked.prog.funcNamed Rows.modelKnownRow.func = some 9 := by kernel_rfl
theorem f_inst : Tryz.f9.isInstance Tryz.pinned.checked.prog Rows.modelKnownRow.origin Rows.modelKnownRow.targs := of_decide_eq_true (by kernel_rfl)
theorem f_wrap : Tryz.f9.isWrapper Tryz.pinned.checked.prog Rows.modelKnownRow.wrapper Rows.modelKnownRow.mainSum := by unfold Func.isWrapper; first | (rw [if_pos (by decide +kernel)]; kernel_rfl) | (rw [if_neg (by decide +kernel)]; exact ⟨rfl, rfl⟩)
set_option maxHeartbeats 40000000 in
theorem facts : joinedFacts Tryz.pinned.checked.prog 9 Tryz.f9 (OpenSpec.ofChange Rows.modelKnownSpec).bare Rows.modelKnownRow = true := by
  simp only [joinedFacts, Bool.and_eq_true]
  repeat' (refine And.intro ?_ ?_)
  all_goals (as_aux_lemma => kernel_rfl)
end Go.Proofs.YthdaccndnfgeeaaGreatDoor.modelKnown
