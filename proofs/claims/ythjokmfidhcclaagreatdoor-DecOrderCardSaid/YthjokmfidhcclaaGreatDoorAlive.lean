/- The closed fact that the law asks first: 1.5 and 0.5 are 2. -/
import Derived.Test.YthjokmfidhcclaaGreatDoorAddC
namespace Go.Proofs.YthjokmfidhcclaaGreatDoor
open Go.RowKit

set_option maxRecDepth 100000 in
set_option maxHeartbeats 4000000 in
theorem alive_any {w : World} (ht : Thr w) : Calls Tryz.prog 4 #[] w fun e w' => e = .returned (.bool true) ∧ Keeps (fun _ => False) w w' := by
  have HA := Lib.hid (add_closed ht)
  clear ht
  go_enter Tryz.func4, Tryz.ntmps4
  go_wp2_with (go_at_call 7; ((with_reducible refine HA.out.mono ?_); rintro e w1 ⟨rfl, hk⟩; have HK := Lib.hid hk; clear hk))
  go_ret
  exact ⟨rfl, HK.out.alloc _⟩

end Go.Proofs.YthjokmfidhcclaaGreatDoor
