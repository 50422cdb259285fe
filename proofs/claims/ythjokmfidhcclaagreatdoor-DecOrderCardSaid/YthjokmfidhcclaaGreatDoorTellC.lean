/- The row's closed facts, each by the kernel alone. -/
import Derived.Test.YthjokmfidhcclaaGreatDoorTellA
import Derived.JoinedOf
import Derived.Stop.Joined
namespace Go.Proofs.YthjokmfidhcclaaGreatDoor
open Go.ChangeShapes Go.WideShapes Go.ChangeAt Go.RowKit

set_option maxHeartbeats 8000000 in
theorem decOrder_closed : joinedFacts Tryz.pinned.checked.prog 3 Tryz.f3 Rows.decOrderSpec Rows.decOrderRow = true := by
  unfold joinedFacts
  simp only [Bool.and_eq_true]
  repeat' apply And.intro
  all_goals (as_aux_lemma => kernel_rfl)

end Go.Proofs.YthjokmfidhcclaaGreatDoor
