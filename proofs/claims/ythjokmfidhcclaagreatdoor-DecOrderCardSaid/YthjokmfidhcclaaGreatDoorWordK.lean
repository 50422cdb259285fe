/- How many noughts a small word begins with. -/
import Derived.Test.YthjokmfidhcclaaGreatDoorKeep
import Derived.Lib.Strings
import Derived.Lib.Slices
import Derived.Lib.Small
import Derived.Lib.Walk
import Derived.Lib.BitFns
namespace Go.Proofs.YthjokmfidhcclaaGreatDoor
open Go.RowKit

theorem len8_at (y : Int) (h : y.toNat < Lib.len8tab.size) : ((Lib.len8tab[y.toNat]'h).toNat : Int) = Lib.len8 y := by
  unfold Lib.len8
  rw [getElem?_pos Lib.len8tab y.toNat h]
  rfl

set_option maxRecDepth 100000 in
set_option maxHeartbeats 2000000 in
theorem len64_small {w : World} (x : Int) (h0 : 0 ≤ x) (h : x < 256) :
    Calls Tryz.prog 169 #[.int .u64 x] w fun e w' => e = .returned (.int .i64 (Lib.bitLen x.toNat)) ∧ w' = w := by
  have c1 : ¬ 4294967296 ≤ x := by omega
  have c2 : ¬ 65536 ≤ x := by omega
  have c3 : ¬ 256 ≤ x := by omega
  go_enter Tryz.func169, Tryz.ntmps169
  go_wp2
  have l := Lib.bitLen_le8' x (by omega) (by omega)
  go_ret
  refine ⟨congrArg Ending.returned (congrArg (Value.int IntKind.i64) ?_), rfl⟩
  rw [len8_at, Lib.len8_of x (by omega) (by omega)]
  simp only [wrap64]
  omega

set_option maxRecDepth 100000 in
set_option maxHeartbeats 2000000 in
theorem nlz_small {w : World} (x : Int) (h0 : 0 ≤ x) (h : x < 256) :
    Calls Tryz.prog 99 #[.int .u64 x] w fun e w' => e = .returned (.int .u64 (64 - (Lib.bitLen x.toNat : Int))) ∧ w' = w := by
  have l := Lib.bitLen_le8' x (by omega) (by omega)
  have H := fun W : World => len64_small (w := W) x h0 h
  obtain ⟨b, hb⟩ : ∃ b, Lib.bitLen x.toNat = b := ⟨_, rfl⟩
  rw [hb] at H l ⊢
  have HH := Lib.hid H
  have w1 : IntKind.i64.wrap (64 - (b : Int)) = 64 - (b : Int) := by simp only [IntKind.wrap_i64]; omega
  have w2 : IntKind.u64.wrap (64 - (b : Int)) = 64 - (b : Int) := by simp only [IntKind.wrap_u64]; omega
  clear hb H
  have HL : Hid (∀ W : World, Calls Tryz.prog 154 #[.int .u64 x] W fun e w' => e = .returned (.int .i64 (b : Int)) ∧ w' = W) := by
    refine Lib.hid fun W => ?_
    go_enter Tryz.func154, Tryz.ntmps154
    go_wp2_with (go_at_call 169; ((with_reducible refine (HH.out _).mono ?_); rintro e w2 ⟨rfl, rfl⟩))
    go_ret
    exact ⟨rfl, rfl⟩
  have HZ : Hid (∀ W : World, Calls Tryz.prog 127 #[.int .u64 x] W fun e w' => e = .returned (.int .i64 (64 - (b : Int))) ∧ w' = W) := by
    refine Lib.hid fun W => ?_
    go_enter Tryz.func127, Tryz.ntmps127
    go_wp2_with (go_at_call 154; ((with_reducible refine (HL.out _).mono ?_); rintro e w2 ⟨rfl, rfl⟩))
    go_ret
    exact ⟨rfl, rfl⟩
  go_enter Tryz.func99, Tryz.ntmps99
  go_wp2_with (go_at_call 127; ((with_reducible refine (HZ.out _).mono ?_); rintro e w2 ⟨rfl, rfl⟩))
  go_ret
  exact ⟨rfl, rfl⟩

end Go.Proofs.YthjokmfidhcclaaGreatDoor
