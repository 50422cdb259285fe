/- TestsTell: whatever the test, the value and the type, the law returns true, and they read as they did; its tied card. No condition beyond the card's own: the listed variables of Go's library hold what its text lays; the other named ones may hold anything. -/
import Derived.Test.YtnihfhfakadepaaGreatDoorCards
import Derived.Test.YtnihfhfakadepaaGreatDoorTie
import Derived.Test.YtnihfhfakadepaaGreatDoorXTreeA
import Derived.Test.YtnihfhfakadepaaGreatDoorXTellB
import Derived.Lib.LaidU8T
import Derived.PinnedBridge
import Derived.Lay
import Derived.LaidMore
import Derived.WalkKit
import Derived.ProofKit
import Derived.OpenShut
import Derived.Below
import Derived.SevenTiedAt
import Derived.Stop.Joined
namespace Go.Proofs.YtnihfhfakadepaaGreatDoor
open Go.ChangeShapes Go.WideShapes Go.ChangeAt Go.RowKit Go.Lib
/-- TestsTell holds: the tied card. -/
theorem testsTell_holds : Rows.TestsTellCardSaid :=
  Claim7.holds_tied_plain_at .later [] [.data, .data, .data, .data, .data, .data, .data, .data, .pinned] true (true, "4a22fc61eaab084d3e08be3a606d380bddc76c95c6a2faba8dab4034e486d93d") true testsTell_row (fun _ h => by cases h) (by kernel_rfl) (fun _ h => by cases h) testsTell_row_tie rfl ⟨rfl, rfl⟩ (by kernel_rfl) rfl
    (fun f fn hf hfn => by
      obtain rfl : f = 3 := Option.some.inj ((show Tryz.prog.funcNamed "verdict/verdictlaw8.TestsTell" = some 3 by kernel_rfl).symm.trans hf) |>.symm
      obtain rfl : fn = Tryz.f3 := (Option.some.inj (Tryz.func3.symm.trans hfn)).symm
      exact ⟨by kernel_rfl, fun j t ht => by
        rw [Tryz.params3] at ht
        have hm : t ∈ [29, 26, 32] := by simpa using Array.mem_of_getElem? ht
        have hall : ([29, 26, 32].all fun u => !Tryz.prog.wantsStandIn u) = true := by kernel_rfl
        exact (show Tryz.prog.wantsStandIn t = false by simpa using List.all_eq_true.1 hall t hm)⟩)
    (by kernel_rfl)
#print axioms testsTell_holds
end Go.Proofs.YtnihfhfakadepaaGreatDoor
