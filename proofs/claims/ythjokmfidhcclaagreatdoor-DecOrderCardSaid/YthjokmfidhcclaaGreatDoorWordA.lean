/- Words of 64 bits: the product and the sum of two, whole (packages math/bits, math/big). -/
import Derived.Test.YthjokmfidhcclaaGreatDoorKeep
import Derived.Lib.Mul64
import Derived.Laws.Bits64b
import Derived.Laws.Externs
import Derived.WalkKit
namespace Go.Proofs.YthjokmfidhcclaaGreatDoor
open Go.RowKit Go.Lib

namespace Wd
theorem maskN (a : Nat) (ha : a < 18446744073709551616) : bits .and .u64 (a : Int) 4294967295 = ((a % 4294967296 : Nat) : Int) := by
  have h := bits_and_u64_nat a 4294967295 ha (by omega)
  have e : a &&& 4294967295 = a % 4294967296 := Nat.and_two_pow_sub_one_eq_mod a 32
  rw [e] at h
  exact h
theorem divN (a : Nat) : (a : Int) / 4294967296 = ((a / 4294967296 : Nat) : Int) := by omega
theorem mulN (a b : Nat) : (a : Int) * (b : Int) = ((a * b : Nat) : Int) := (Int.natCast_mul a b).symm
theorem addN (a b : Nat) : (a : Int) + (b : Int) = ((a + b : Nat) : Int) := (Int.natCast_add a b).symm
theorem wrapN (a : Nat) (ha : a < 18446744073709551616) : IntKind.u64.wrap (a : Int) = (a : Int) := by rw [IntKind.wrap_u64]; omega
theorem wrapM (a : Nat) : IntKind.u64.wrap (a : Int) = ((a % 18446744073709551616 : Nat) : Int) := by rw [IntKind.wrap_u64]; omega
end Wd

set_option maxRecDepth 100000 in
set_option maxHeartbeats 2000000 in
theorem mul64_any {w : World} (x y : Nat) (hx : x < 18446744073709551616) (hy : y < 18446744073709551616) :
    Calls Tryz.prog 105 #[.int .u64 x, .int .u64 y] w fun e w' => e = .returned (.tuple #[.int .u64 ((x * y / 18446744073709551616 : Nat) : Int), .int .u64 ((x * y % 18446744073709551616 : Nat) : Int)]) ∧ w' = w := by
  obtain ⟨bd, bt, bw, hhi⟩ := Lib.mul64_hi x y hx hy
  have ba := Lib.half_mul_le (a := x / 4294967296) (b := y / 4294967296) (by omega) (by omega)
  have bb := Lib.half_mul_le (a := x / 4294967296) (b := y % 4294967296) (by omega) (by omega)
  have bc := Lib.half_mul_le (a := x % 4294967296) (b := y / 4294967296) (by omega) (by omega)
  have ba' : x / 4294967296 * (y / 4294967296) < 18446744073709551616 := by omega
  have bb' : x / 4294967296 * (y % 4294967296) < 18446744073709551616 := by omega
  have bc' : x % 4294967296 * (y / 4294967296) < 18446744073709551616 := by omega
  have bh1 : x / 4294967296 * (y / 4294967296) + (x / 4294967296 * (y % 4294967296) + x % 4294967296 * (y % 4294967296) / 4294967296) / 4294967296 < 18446744073709551616 := by omega
  have bh : x / 4294967296 * (y / 4294967296) + (x / 4294967296 * (y % 4294967296) + x % 4294967296 * (y % 4294967296) / 4294967296) / 4294967296 + ((x / 4294967296 * (y % 4294967296) + x % 4294967296 * (y % 4294967296) / 4294967296) % 4294967296 + x % 4294967296 * (y / 4294967296)) / 4294967296 < 18446744073709551616 := by omega
  go_enter Tryz.func105, Tryz.ntmps105
  go_wp2
  simp only [Wd.maskN x hx, Wd.maskN y hy, Wd.divN, Wd.mulN, Wd.addN, Wd.wrapN _ bd, Wd.wrapN _ bb', Wd.wrapN _ bt, Wd.maskN _ bt, Wd.wrapN _ bc', Wd.wrapN _ bw, Wd.wrapN _ ba', Wd.wrapN _ bh1, Wd.wrapN _ bh, Wd.wrapM (x * y)]
  rw [hhi]
  go_ret2
  exact ⟨rfl, rfl⟩

set_option maxRecDepth 100000 in
set_option maxHeartbeats 2000000 in
theorem bmul_any {w : World} (x y : Nat) (hx : x < 18446744073709551616) (hy : y < 18446744073709551616) :
    Calls Tryz.prog 78 #[.int .u64 x, .int .u64 y] w fun e w' => e = .returned (.tuple #[.int .u64 ((x * y / 18446744073709551616 : Nat) : Int), .int .u64 ((x * y % 18446744073709551616 : Nat) : Int)]) ∧ w' = w := by
  have H := Lib.hid (mul64_any (w := w) x y hx hy)
  clear hx hy
  generalize ((x * y / 18446744073709551616 : Nat) : Int) = hi at *
  generalize ((x * y % 18446744073709551616 : Nat) : Int) = lo at *
  go_enter Tryz.func78, Tryz.ntmps78
  go_wp2_with (go_at_call 105; ((with_reducible refine H.out.mono ?_); rintro e w2 ⟨rfl, rfl⟩))
  go_ret2
  exact ⟨rfl, rfl⟩

set_option maxRecDepth 100000 in
set_option maxHeartbeats 2000000 in
theorem mulWW_any {w : World} (x y : Nat) (hx : x < 18446744073709551616) (hy : y < 18446744073709551616) :
    Calls Tryz.prog 57 #[.int .u64 x, .int .u64 y] w fun e w' => e = .returned (.tuple #[.int .u64 ((x * y / 18446744073709551616 : Nat) : Int), .int .u64 ((x * y % 18446744073709551616 : Nat) : Int)]) ∧ w' = w := by
  have H := Lib.hid (bmul_any (w := w) x y hx hy)
  clear hx hy
  generalize ((x * y / 18446744073709551616 : Nat) : Int) = hi at *
  generalize ((x * y % 18446744073709551616 : Nat) : Int) = lo at *
  go_enter Tryz.func57, Tryz.ntmps57
  go_wp2_with (go_at_call 78; ((with_reducible refine H.out.mono ?_); rintro e w2 ⟨rfl, rfl⟩))
  go_ret2
  exact ⟨rfl, rfl⟩

theorem add64_runs (x y : Nat) (w : World) :
    (callFunc 54 #[.int .u64 x, .int .u64 y, .int .u64 0]).run Tryz.prog w =
      .ok (.value (.tuple #[.int .u64 (((x + y) % 18446744073709551616 : Nat) : Int), .int .u64 (((x + y) / 18446744073709551616 : Nat) : Int)])) w := by
  rw [run_callFunc_extern Tryz.func54 (by kernel_rfl) (by kernel_rfl) (by kernel_rfl) (e := add64Entry) (by kernel_rfl), run_add64 x y 0 (by omega) (by omega) (by omega) (by omega)]
  simp only [Result.andThen]
  congr 5 <;> omega

set_option maxRecDepth 100000 in
set_option maxHeartbeats 2000000 in
theorem badd_any {w : World} (x y : Nat) :
    Calls Tryz.prog 42 #[.int .u64 x, .int .u64 y, .int .u64 0] w fun e w' => e = .returned (.tuple #[.int .u64 (((x + y) % 18446744073709551616 : Nat) : Int), .int .u64 (((x + y) / 18446744073709551616 : Nat) : Int)]) ∧ w' = w := by
  have hd := add64_runs x y
  generalize (((x + y) / 18446744073709551616 : Nat) : Int) = hi at *
  generalize (((x + y) % 18446744073709551616 : Nat) : Int) = lo at *
  go_enter Tryz.func42, Tryz.ntmps42
  go_wp2
  go_ret2
  exact ⟨rfl, rfl⟩

/-- The carry of a product with a word is a word. -/
theorem word_hi {x y c : Nat} (hx : x < 18446744073709551616) (hy : y < 18446744073709551616) (hc : c < 18446744073709551616) : (x * y + c) / 18446744073709551616 < 18446744073709551616 := by
  apply Nat.div_lt_of_lt_mul
  have : x * y ≤ 18446744073709551615 * 18446744073709551615 := Nat.mul_le_mul (by omega) (by omega)
  omega

set_option maxRecDepth 100000 in
set_option maxHeartbeats 2000000 in
theorem mulAddWWW_any {w : World} (x y c : Nat) (hx : x < 18446744073709551616) (hy : y < 18446744073709551616) (hc : c < 18446744073709551616) :
    Calls Tryz.prog 80 #[.int .u64 x, .int .u64 y, .int .u64 c] w fun e w' => e = .returned (.tuple #[.int .u64 (((x * y + c) / 18446744073709551616 : Nat) : Int), .int .u64 (((x * y + c) % 18446744073709551616 : Nat) : Int)]) ∧ w' = w := by
  have H := Lib.hid (bmul_any (w := w) x y hx hy)
  have HA := Lib.hid (badd_any (w := w) (x * y % 18446744073709551616) c)
  have hh := word_hi hx hy hc
  clear hx hy
  obtain ⟨p, hp⟩ : ∃ p, x * y = p := ⟨_, rfl⟩
  rw [hp] at H HA hh
  rw [hp]
  clear hp
  obtain ⟨h, hh1⟩ : ∃ h, p / 18446744073709551616 = h := ⟨_, rfl⟩
  obtain ⟨l, hl1⟩ : ∃ l, p % 18446744073709551616 = l := ⟨_, rfl⟩
  rw [hh1, hl1] at H
  rw [hl1] at HA
  obtain ⟨h2, hh2⟩ : ∃ h, (l + c) / 18446744073709551616 = h := ⟨_, rfl⟩
  obtain ⟨l2, hl2⟩ : ∃ h, (l + c) % 18446744073709551616 = h := ⟨_, rfl⟩
  rw [hh2, hl2] at HA
  have e1 : IntKind.u64.wrap ((h : Int) + (h2 : Int)) = (((p + c) / 18446744073709551616 : Nat) : Int) := by simp only [IntKind.wrap_u64]; omega
  have e2 : (p + c) % 18446744073709551616 = l2 := by omega
  rw [e2]
  generalize (((p + c) / 18446744073709551616 : Nat) : Int) = r at *
  clear hh hh1 hl1 hh2 hl2 e2
  go_enter Tryz.func80, Tryz.ntmps80
  go_wp2_with (first | (go_at_call 78; ((with_reducible refine H.out.mono ?_); rintro e w2 ⟨rfl, rfl⟩)) | (go_at_call 42; ((with_reducible refine HA.out.mono ?_); rintro e w2 ⟨rfl, rfl⟩)))
  go_ret2
  exact ⟨rfl, rfl⟩

end Go.Proofs.YthjokmfidhcclaaGreatDoor
