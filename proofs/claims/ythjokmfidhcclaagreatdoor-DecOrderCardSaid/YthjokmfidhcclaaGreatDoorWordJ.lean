/- Package math/big: a number times a number of one word. -/
import Derived.Test.YthjokmfidhcclaaGreatDoorWordI
namespace Go.Proofs.YthjokmfidhcclaaGreatDoor
open Go.RowKit

theorem digs_oneV {y : Nat} (h0 : 0 < y) (h : y < 18446744073709551616) : digs 18446744073709551616 y = [y] := by
  rw [digs_pos (by omega) h0, Nat.mod_eq_of_lt h, Nat.div_eq_of_lt h, digs_zero]

set_option maxRecDepth 100000 in
set_option maxHeartbeats 2000000 in
theorem mulOne_any {w : World} {vz vs vx vy : Value} {lz : List Nat} {n y : Nat} (hz : Buf w vz lz) (hx : BN w vx n) (hn : 0 < n) (hl : (digs 18446744073709551616 n).length ≤ 90) (hne : ∀ g, vz.ownBlock = some g → vx.ownBlock ≠ some g) (hy : BN w vy y) (hy0 : 0 < y) (hyl : y < 18446744073709551616) :
    Calls Tryz.prog 47 #[vz, vs, vx, vy] w fun e w' => Times w vz (n * y) e w' := by
  have hp : 0 < (digs 18446744073709551616 n).length := by rw [digs_pos (by omega) hn]; simp
  have HM := Lib.hid (mulAddWW_any hz hx hn hl hne hy0 hyl)
  unfold BN at hx hy
  rw [digs_oneV hy0 hyl] at hy
  obtain ⟨gx, Lx, rfl, hbx, htx, hlx⟩ := hx.blk hp
  obtain ⟨gy, Ly, rfl, hby, hty, hly⟩ := hy.blk (by simp)
  have hc : w.cell? ⟨gy, 0, none⟩ = some (.int .u64 (y : Int)) := hy.cells 0 (.int .u64 (y : Int)) (by simp [wcs])
  simp only [List.length_cons, List.length_nil, Nat.zero_add] at *
  generalize (digs 18446744073709551616 n).length = m at *
  generalize hcx : Lx.length = cx at *
  generalize hcy : Ly.length = cy at *
  have h1 : ((m : Int) == 0) = false := by rw [beq_eq_false_iff_ne]; omega
  have h2 : ¬ (m : Int) < 1 := by omega
  clear hcx hcy hx hy hbx htx hby hty hz hne hn hl hlx hp
  go_enter Tryz.func47, Tryz.ntmps47
  go_wp2_with (go_at_call 64; ((with_reducible refine HM.out.mono ?_); rintro e w2 ⟨v, rfl, hv⟩; have HV := Lib.hid hv; clear hv))
  go_ret
  exact ⟨_, rfl, HV.out⟩

set_option maxRecDepth 100000 in
set_option maxHeartbeats 2000000 in
/-- The number of one word in front. -/
theorem mulSwap_any {w : World} {vs vx vy : Value} {n y : Nat} (hx : BN w vx n) (hn : 0 < n) (hl : (digs 18446744073709551616 n).length ≤ 90) (hy : BN w vy y) (hy0 : 0 < y) (hyl : y < 18446744073709551616) :
    Calls Tryz.prog 47 #[.slice none 0 0, vs, vy, vx] w fun e w' => Times w (.slice none 0 0) (y * n) e w' := by
  have hp : 0 < (digs 18446744073709551616 n).length := by rw [digs_pos (by omega) hn]; simp
  rcases Nat.lt_or_ge 1 (digs 18446744073709551616 n).length with h1 | h1
  · have HM := Lib.hid (mulOne_any (vs := vs) (Buf.nil w) hx hn hl (fun _ h => by cases h) hy hy0 hyl)
    rw [Nat.mul_comm n] at HM
    unfold BN at hx hy
    rw [digs_oneV hy0 hyl] at hy
    obtain ⟨gx, Lx, rfl, hbx, htx, hlx⟩ := hx.blk hp
    obtain ⟨gy, Ly, rfl, hby, hty, hly⟩ := hy.blk (by simp)
    simp only [List.length_cons, List.length_nil, Nat.zero_add] at *
    generalize (digs 18446744073709551616 n).length = m at *
    generalize hcx : Lx.length = cx at *
    generalize hcy : Ly.length = cy at *
    have h2 : (1 : Int) < (m : Int) := by omega
    clear hcx hcy hx hy hbx htx hby hty hn hl hlx hp
    go_enter Tryz.func47, Tryz.ntmps47
    go_wp2_with (go_at_call 47; ((with_reducible refine HM.out.mono ?_); rintro e w2 ⟨v, rfl, hv⟩; have HV := Lib.hid hv; clear hv))
    go_ret
    exact ⟨_, rfl, HV.out⟩
  · have hnl : n < 18446744073709551616 := by
      have := digs_lt_pow (B := 18446744073709551616) (by omega) n
      have h2 : 18446744073709551616 ^ (digs 18446744073709551616 n).length ≤ 18446744073709551616 ^ 1 := Nat.pow_le_pow_right (by omega) h1
      rw [Nat.pow_one] at h2
      omega
    exact mulOne_any (Buf.nil w) hy hy0 (by rw [digs_oneV hy0 hyl]; simp) (fun _ h => by cases h) hx hn hnl

set_option maxRecDepth 100000 in
set_option maxHeartbeats 2000000 in
theorem mulNone_any {w : World} {vs vx : Value} {n : Nat} (hx : BN w vx n) (hn : 0 < n) :
    Calls Tryz.prog 47 #[.slice none 0 0, vs, .slice none 0 0, vx] w fun e w' => e = .returned (.slice none 0 0) ∧ w' = w := by
  have hp : 0 < (digs 18446744073709551616 n).length := by rw [digs_pos (by omega) hn]; simp
  unfold BN at hx
  obtain ⟨gx, Lx, rfl, hbx, htx, hlx⟩ := hx.blk hp
  generalize (digs 18446744073709551616 n).length = m at *
  generalize hcx : Lx.length = cx at *
  have h2 : (0 : Int) < (m : Int) := by omega
  have h1 : ((m : Int) == 0) = false := by rw [beq_eq_false_iff_ne]; omega
  have h3 : ¬ (m : Int) < 0 := by omega
  clear hcx hx hbx htx hlx hp
  have HI : Hid (Calls Tryz.prog 47 #[.slice none 0 0, vs, .slice (some ⟨gx, 0, none⟩) m cx, .slice none 0 0] w fun e w' => e = .returned (.slice none 0 0) ∧ w' = w) := by
    refine Lib.hid ?_
    go_enter Tryz.func47, Tryz.ntmps47
    go_wp2_with fail
    go_ret
    exact ⟨rfl, rfl⟩
  go_enter Tryz.func47, Tryz.ntmps47
  go_wp2_with (go_at_call 47; ((with_reducible refine HI.out.mono ?_); rintro e w2 ⟨rfl, rfl⟩))
  go_ret
  exact ⟨rfl, rfl⟩

end Go.Proofs.YthjokmfidhcclaaGreatDoor
