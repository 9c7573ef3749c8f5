/-
  The row's closed facts for ArchiveKnown. No condition.
-/
import Derived.Test.YtoifafjijgekeaaGreatRows
import Derived.ProofKit
namespace Go.Proofs.YtoifafjijgekeaaGreat
open Go.ChangeShapes Go.WideShapes Go.ChangeAt Go.RowKit

set_option maxHeartbeats 40000000 in
theorem archiveKnown_facts : joinedFacts Tryz.prog 3 Tryz.f3 Rows.archiveKnownSpec Rows.archiveKnownRow = true := by
  unfold joinedFacts
  repeat' (with_reducible refine Bool.and_eq_true_iff.2 ⟨?_, ?_⟩)
  all_goals decide +kernel
theorem archiveKnown_named : Tryz.prog.funcNamed Rows.archiveKnownRow.func = some 3 := by kernel_rfl
theorem archiveKnown_inst : Tryz.f3.isInstance Tryz.prog Rows.archiveKnownRow.origin Rows.archiveKnownRow.targs := of_decide_eq_true (by kernel_rfl)
theorem archiveKnown_wrap : Tryz.f3.isWrapper Tryz.prog Rows.archiveKnownRow.wrapper Rows.archiveKnownRow.mainSum := by
  unfold Func.isWrapper; first | (rw [if_pos (by decide +kernel)]; kernel_rfl) | (rw [if_neg (by decide +kernel)]; exact ⟨rfl, rfl⟩)
end Go.Proofs.YtoifafjijgekeaaGreat
