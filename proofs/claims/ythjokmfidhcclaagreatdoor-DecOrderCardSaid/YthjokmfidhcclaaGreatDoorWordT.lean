/- Package math/big: a number of one word or none, times a number. -/
import Derived.Test.YthjokmfidhcclaaGreatDoorWordS
namespace Go.Proofs.YthjokmfidhcclaaGreatDoor
open Go.RowKit

set_option maxRecDepth 100000 in
set_option maxHeartbeats 2000000 in
theorem mulNil_any {w : World} {vs vx : Value} {n c0 : Nat} {A0 : Option Addr} (hx : BN w vx n) (hn : 0 < n) :
    Calls Tryz.prog 47 #[.slice none 0 0, vs, .slice A0 0 c0, vx] w fun e w' => e = .returned (.slice none 0 0) ∧ w' = w := by
  have hp : 0 < (digs 18446744073709551616 n).length := by rw [digs_pos (by omega) hn]; simp
  unfold BN at hx
  obtain ⟨gx, Lx, rfl, hbx, htx, hlx⟩ := hx.blk hp
  generalize (digs 18446744073709551616 n).length = m at *
  generalize hcx : Lx.length = cx at *
  have h2 : (0 : Int) < (m : Int) := by omega
  have h1 : ((m : Int) == 0) = false := by rw [beq_eq_false_iff_ne]; omega
  have h3 : ¬ (m : Int) < 0 := by omega
  clear hcx hx hbx htx hlx hp
  have HI : Hid (Calls Tryz.prog 47 #[.slice none 0 0, vs, .slice (some ⟨gx, 0, none⟩) m cx, .slice A0 0 c0] w fun e w' => e = .returned (.slice none 0 0) ∧ w' = w) := by
    refine Lib.hid ?_
    go_enter Tryz.func47, Tryz.ntmps47
    go_wp2_with fail
    go_ret
    exact ⟨rfl, rfl⟩
  go_enter Tryz.func47, Tryz.ntmps47
  go_wp2_with (go_at_call 47; ((with_reducible refine HI.out.mono ?_); rintro e w2 ⟨rfl, rfl⟩))
  go_ret
  exact ⟨rfl, rfl⟩

/-- A product, in new words. -/
theorem mul_new {w : World} {vs vx vy : Value} {a n : Nat} (hx : BN w vx a) (ha : a < 18446744073709551616) (hy : BN w vy n) (hn : 0 < n) (hl : (digs 18446744073709551616 n).length ≤ 90) :
    Calls Tryz.prog 47 #[.slice none 0 0, vs, vx, vy] w fun e w' => NewN w (a * n) e w' := by
  rcases Nat.eq_zero_or_pos a with rfl | h0
  · obtain ⟨A, c, rfl⟩ := hx.slice
    rw [digs_zero]
    refine (mulNil_any hy hn).mono ?_
    rintro e w' ⟨rfl, rfl⟩
    exact ⟨_, rfl, .inl ⟨rfl, by rw [Nat.zero_mul, digs_zero]⟩, Keeps.refl _ _, fun _ h => by cases h⟩
  · refine (mulSwap_any hy hn hl hx h0 ha).mono ?_
    rintro e w' ⟨v, rfl, h1, h2, h3⟩
    exact ⟨v, rfl, h1, h2.mono (fun k h => by cases h), fun g hg => (h3 g hg).resolve_left (fun h => by cases h)⟩

set_option maxRecDepth 100000 in
set_option maxHeartbeats 2000000 in
theorem gMul_any {w : World} {pz px py : Nat} {a b : Int} (hz : GZero w pz) (hx : GInt w px a) (hy : GInt w py b) (hne : px ≠ py) (hxz : px ≠ pz) (hyz : py ≠ pz) (ha : a.natAbs < 18446744073709551616) (hb : 0 < b.natAbs) (hl : (digs 18446744073709551616 b.natAbs).length ≤ 90) :
    Calls Tryz.prog 14 #[.pointer (some ⟨pz, 0, none⟩), .pointer (some ⟨px, 0, none⟩), .pointer (some ⟨py, 0, none⟩)] w fun e w' => e = .returned (.pointer (some ⟨pz, 0, none⟩)) ∧ GInt w' pz (a * b) ∧ Keeps (fun k => k = pz) w w' := by
  have H := Lib.hid (gmul_any hz hx hy hne hxz hyz fun W vx vy _ h1 h2 => mul_new h1 ha h2 hb hl)
  clear hz hx hy hne hxz hyz ha hb hl
  go_enter Tryz.func14, Tryz.ntmps14
  go_wp2_with (go_at_call 29; ((with_reducible refine H.out.mono ?_); rintro e w2 ⟨rfl, h2, h3⟩; have H2 := Lib.hid h2; have H3 := Lib.hid h3; clear h2 h3))
  go_ret
  exact ⟨rfl, H2.out, H3.out⟩

end Go.Proofs.YthjokmfidhcclaaGreatDoor
