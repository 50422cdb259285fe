/- Package math/big: the stack that is asked for and given back; the plain law of powers. -/
import Derived.Test.YthjokmfidhcclaaGreatDoorWordJ
import Derived.Test.YthjokmfidhcclaaGreatDoorWordK
namespace Go.Proofs.YthjokmfidhcclaaGreatDoor
open Go.RowKit

set_option maxRecDepth 100000 in
set_option maxHeartbeats 2000000 in
theorem getStack_any {w : World} :
    Calls Tryz.prog 60 #[] w fun e w' => e = .returned (.pointer (some ⟨w.heap.size, 0, none⟩)) ∧ w' = w.alloc (.cells #[.pointer none] 102) := by
  go_enter Tryz.func60, Tryz.ntmps60
  go_wp2
  go_ret
  exact ⟨rfl, rfl⟩

set_option maxRecDepth 100000 in
set_option maxHeartbeats 2000000 in
theorem free_any {w : World} {p : Nat} (h : w.cell? ⟨p, 0, none⟩ = some (.pointer none)) :
    Calls Tryz.prog 61 #[.pointer (some ⟨p, 0, none⟩)] w fun e w' => e = .returned (.tuple #[]) ∧ w' = w := by
  go_enter Tryz.func61, Tryz.ntmps61
  go_wp2
  go_end0
  exact ⟨rfl, rfl⟩

/-- The bits of the exponent, round by round: k bits are left. -/
structure PowR (b e k z v : Nat) : Prop where
  zed : z = b ^ (e / 2 ^ k)
  vee : v = e * 2 ^ (64 - k) % 18446744073709551616

theorem top_bit (v : Nat) (hv : v < 18446744073709551616) : v &&& 9223372036854775808 = if 9223372036854775808 ≤ v then 9223372036854775808 else 0 := by
  have ht : v.testBit 63 = decide (9223372036854775808 ≤ v) := by
    rw [Nat.testBit_eq_decide_div_mod_eq, show (2 : Nat) ^ 63 = 9223372036854775808 by decide]
    by_cases h1 : 9223372036854775808 ≤ v
    · simp only [h1, decide_true]; simp; omega
    · simp only [h1, decide_false]; simp; omega
  apply Nat.eq_of_testBit_eq
  intro i
  rw [Nat.testBit_and, show 9223372036854775808 = 2 ^ 63 by decide, Nat.testBit_two_pow]
  by_cases hi : 63 = i
  · subst hi
    rw [ht]
    by_cases h1 : 9223372036854775808 ≤ v
    · simp only [h1, decide_true, Bool.and_self, show (2 : Nat) ^ 63 = 9223372036854775808 by decide, if_pos]; decide
    · simp [h1, show (2 : Nat) ^ 63 = 9223372036854775808 by decide]
  · by_cases h1 : 9223372036854775808 ≤ v
    · rw [show (2 : Nat) ^ 63 = 9223372036854775808 by decide, if_pos h1, show 9223372036854775808 = 2 ^ 63 by decide, Nat.testBit_two_pow]; simp [hi]
    · rw [show (2 : Nat) ^ 63 = 9223372036854775808 by decide, if_neg h1]; simp [hi]

theorem PowR.next {b e k z v : Nat} (h : PowR b e (k + 1) z v) (hk : k < 60) :
    (9223372036854775808 ≤ v → PowR b e k (z * z * b) (v * 2 % 18446744073709551616)) ∧ (¬ 9223372036854775808 ≤ v → PowR b e k (z * z) (v * 2 % 18446744073709551616)) := by
  have hv2 : v * 2 % 18446744073709551616 = e * 2 ^ (64 - k) % 18446744073709551616 := by
    rw [h.vee, show 64 - k = (64 - (k + 1)) + 1 by omega, Nat.pow_succ, ← Nat.mul_assoc, Nat.mod_mul_mod]
  have hd : e / 2 ^ (k + 1) = e / 2 ^ k / 2 := by rw [Nat.pow_succ, Nat.div_div_eq_div_mul]
  have hbit : (9223372036854775808 ≤ v) ↔ e / 2 ^ k % 2 = 1 := by
    have hp : (2 : Nat) ^ (64 - (k + 1)) * 2 ^ (k + 1) = 18446744073709551616 := by
      rw [← Nat.pow_add, show 64 - (k + 1) + (k + 1) = 64 by omega]
    have hp2 : (2 : Nat) ^ (64 - (k + 1)) * 2 ^ k = 9223372036854775808 := by
      rw [← Nat.pow_add, show 64 - (k + 1) + k = 63 by omega]
    have hpos : 0 < (2 : Nat) ^ (64 - (k + 1)) := Nat.two_pow_pos _
    have hpk : 0 < (2 : Nat) ^ k := Nat.two_pow_pos _
    have e1 : v = 2 ^ (64 - (k + 1)) * (e % 2 ^ (k + 1)) := by
      rw [h.vee, ← hp, Nat.mul_comm e, Nat.mul_mod_mul_left]
    have e2 : e % 2 ^ (k + 1) = e % 2 ^ k + 2 ^ k * (e / 2 ^ k % 2) := by rw [Nat.pow_succ, Nat.mod_mul]
    rw [e1, ← hp2, Nat.mul_le_mul_left_iff hpos, e2]
    have hr : e % 2 ^ k < 2 ^ k := Nat.mod_lt _ hpk
    rcases Nat.mod_two_eq_zero_or_one (e / 2 ^ k) with h0 | h0
    · rw [h0]; simp; omega
    · rw [h0]; simp
  have hz : z * z = b ^ (e / 2 ^ (k + 1) * 2) := by rw [h.zed, ← Nat.pow_add, Nat.mul_two]
  constructor
  · intro hle
    refine ⟨?_, hv2⟩
    rw [hz, hd, ← Nat.pow_succ]
    congr 1
    have := hbit.1 hle
    omega
  · intro hle
    refine ⟨?_, hv2⟩
    rw [hz, hd]
    congr 1
    have : ¬ e / 2 ^ k % 2 = 1 := fun h => hle (hbit.2 h)
    omega

end Go.Proofs.YthjokmfidhcclaaGreatDoor
