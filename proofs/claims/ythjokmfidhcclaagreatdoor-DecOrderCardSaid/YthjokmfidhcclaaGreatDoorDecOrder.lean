/- DecOrder: whatever the three numbers, the law returns true, and they read as they did; its tied card. No condition beyond the card's own: the listed variables of Go's library hold what its text lays; the other named ones may hold anything. -/
import Derived.Test.YthjokmfidhcclaaGreatDoorCards
import Derived.Test.YthjokmfidhcclaaGreatDoorTie
import Derived.Test.YthjokmfidhcclaaGreatDoorTellB
import Derived.Lib.LaidU8T
import Derived.PinnedBridge
import Derived.Lay
import Derived.LaidMore
import Derived.WalkKit
import Derived.ProofKit
import Derived.OpenShut
import Derived.Below
import Derived.SevenTiedAt
import Derived.Stop.Joined
namespace Go.Proofs.YthjokmfidhcclaaGreatDoor
open Go.ChangeShapes Go.WideShapes Go.ChangeAt Go.RowKit Go.Lib
/-- DecOrder holds: the tied card. -/
theorem decOrder_holds : Rows.DecOrderCardSaid :=
  Claim7.holds_tied_plain_at .later [] [.data, .data, .data, .data, .data, .data, .data] true (true, "eec829b2f6f2df22c9f0b8a9afe7ea08fadaac9c2ca058c280449a60ae95a40f") true decOrder_row (fun _ h => by cases h) (by kernel_rfl) (fun _ h => by cases h) decOrder_row_tie rfl ⟨rfl, rfl⟩ (by kernel_rfl) rfl
    (fun f fn hf hfn => by
      obtain rfl : f = 3 := Option.some.inj ((show Tryz.prog.funcNamed "verdict/verdictlaw1.DecOrder" = some 3 by kernel_rfl).symm.trans hf) |>.symm
      obtain rfl : fn = Tryz.f3 := (Option.some.inj (Tryz.func3.symm.trans hfn)).symm
      exact ⟨by kernel_rfl, fun j t ht => by
        rw [Tryz.params3] at ht
        have hm : t ∈ [23, 23, 23] := by simpa using Array.mem_of_getElem? ht
        have hall : ([23, 23, 23].all fun u => !Tryz.prog.wantsStandIn u) = true := by kernel_rfl
        exact (show Tryz.prog.wantsStandIn t = false by simpa using List.all_eq_true.1 hall t hm)⟩)
    (by kernel_rfl)
#print axioms decOrder_holds
end Go.Proofs.YthjokmfidhcclaaGreatDoor
