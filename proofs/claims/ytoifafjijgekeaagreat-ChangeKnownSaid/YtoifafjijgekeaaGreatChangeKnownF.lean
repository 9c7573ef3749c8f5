/-
  The row's closed facts for ChangeKnown. No condition.
-/
import Derived.Test.YtoifafjijgekeaaGreatRows
import Derived.ProofKit
namespace Go.Proofs.YtoifafjijgekeaaGreat
open Go.ChangeShapes Go.WideShapes Go.ChangeAt Go.RowKit

set_option maxHeartbeats 40000000 in
theorem changeKnown_facts : joinedFacts Tryz.prog 4 Tryz.f4 Rows.changeKnownSpec Rows.changeKnownRow = true := by
  unfold joinedFacts
  repeat' (with_reducible refine Bool.and_eq_true_iff.2 ⟨?_, ?_⟩)
  all_goals decide +kernel
theorem changeKnown_named : Tryz.prog.funcNamed Rows.changeKnownRow.func = some 4 := by kernel_rfl
theorem changeKnown_inst : Tryz.f4.isInstance Tryz.prog Rows.changeKnownRow.origin Rows.changeKnownRow.targs := of_decide_eq_true (by kernel_rfl)
theorem changeKnown_wrap : Tryz.f4.isWrapper Tryz.prog Rows.changeKnownRow.wrapper Rows.changeKnownRow.mainSum := by
  unfold Func.isWrapper; first | (rw [if_pos (by decide +kernel)]; kernel_rfl) | (rw [if_neg (by decide +kernel)]; exact ⟨rfl, rfl⟩)
end Go.Proofs.YtoifafjijgekeaaGreat
