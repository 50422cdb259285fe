/- cluster.node, walked: the number of a node in the list, or -1. -/
import Derived.Test.YtibjbpakbfodaaaPureC
namespace Go.Proofs.Ytibjbpakbfodaaa
open Go.RowKit

/-- The number of a node in a list of so many; below 0: there is none. -/
def spot (len : Nat) (id : Int) : Int := if id < 1 ∨ (len : Int) < id then -1 else id - 1

set_option maxRecDepth 100000 in
set_option maxHeartbeats 2000000 in
theorem node_any {w : World} {b len c : Nat} {A : Option Addr} (h0 : w.cell? ⟨b, 0, none⟩ = some (.slice A len c)) (hl : len ≤ 1000) (id : Int) :
    Calls Try.prog 83 #[.pointer (some ⟨b, 0, none⟩), .int .i64 id] w fun e w' => e = .returned (.int .i64 (spot len id)) ∧ w' = w := by
  go_enter Try.func83, Try.ntmps83
  cases q1 : decide (id < 1)
  case true =>
    have hr : spot len id = -1 := by unfold spot; rw [if_pos (.inl (by simpa using q1))]
    have HR := Lib.hid hr
    clear hr
    go_wp2_with fail
    go_ret
    exact ⟨by rw [HR.out]; rfl, rfl⟩
  case false =>
    have h1 : ¬ id < 1 := by simpa using q1
    cases q2 : decide ((len : Int) < id)
    case true =>
      have hr : spot len id = -1 := by unfold spot; rw [if_pos (.inr (by simpa using q2))]
      have HR := Lib.hid hr
      clear hr h1
      go_wp2_with fail
      go_ret
      exact ⟨by rw [HR.out]; rfl, rfl⟩
    case false =>
      have h2 : ¬ (len : Int) < id := by simpa using q2
      have hr : spot len id = id - 1 := by unfold spot; rw [if_neg (by omega)]
      have HR := Lib.hid hr
      have hw : IntKind.i64.wrap (id - 1) = id - 1 := IntWalk.i64_in _ (by omega)
      have h2' := h2
      clear hr
      go_wp2_with fail
      go_ret
      exact ⟨by rw [HR.out]; rfl, rfl⟩
end Go.Proofs.Ytibjbpakbfodaaa
