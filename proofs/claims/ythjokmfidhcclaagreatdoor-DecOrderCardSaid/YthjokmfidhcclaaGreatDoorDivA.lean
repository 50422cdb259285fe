/- Package math/big: a list of words divided by one; a whole number divided by one. -/
import Derived.Test.YthjokmfidhcclaaGreatDoorAddB
namespace Go.Proofs.YthjokmfidhcclaaGreatDoor
open Go.RowKit

set_option maxRecDepth 100000 in
set_option maxHeartbeats 2000000 in
theorem divW_one {w : World} {vx : Value} {n : Nat} (hx : BN w vx n) (hn : 0 < n) (hl : (digs 18446744073709551616 n).length ≤ 100) :
    Calls Tryz.prog 73 #[.slice none 0 0, vx, .int .u64 1] w fun e w' => ∃ v, e = .returned (.tuple #[v, .int .u64 0]) ∧ BN w' v n ∧ Keeps (fun _ => False) w w' ∧ ∀ g, v.ownBlock = some g → w.heap.size ≤ g := by
  have HS := Lib.hid (set_new hx hn hl)
  obtain ⟨A, c, rfl⟩ := hx.slice
  generalize (digs 18446744073709551616 n).length = k at *
  clear hx hn hl
  go_enter Tryz.func73, Tryz.ntmps73
  go_wp2_with (go_at_call 37; ((with_reducible refine HS.out.mono ?_); rintro e w1 ⟨v, rfl, hbn, hk, hf⟩; have HB := Lib.hid hbn; have HK := Lib.hid hk; have HF := Lib.hid hf; clear hbn hk hf))
  go_ret2
  exact ⟨v, rfl, HB.out, HK.out, HF.out⟩

set_option maxRecDepth 100000 in
set_option maxHeartbeats 2000000 in
theorem setWord_zero {w : World} : Calls Tryz.prog 74 #[.slice none 0 0, .int .u64 0] w fun e w' => e = .returned (.slice none 0 0) ∧ w' = w := by
  go_enter Tryz.func74, Tryz.ntmps74
  go_wp2
  go_ret
  exact ⟨rfl, rfl⟩

set_option maxRecDepth 100000 in
set_option maxHeartbeats 2000000 in
theorem ndiv_one {w : World} {vx vy : Value} {n : Nat} (hx : BN w vx n) (hy : BN w vy 1) (hn : 0 < n) (hl : (digs 18446744073709551616 n).length ≤ 100) :
    Calls Tryz.prog 49 #[.slice none 0 0, .pointer none, .slice none 0 0, vx, vy] w fun e w' => ∃ v, e = .returned (.tuple #[v, .slice none 0 0]) ∧ BN w' v n ∧ Keeps (fun _ => False) w w' ∧ ∀ g, v.ownBlock = some g → w.heap.size ≤ g := by
  have HD := Lib.hid (divW_one hx hn hl)
  obtain ⟨gy, cy, rfl, hcy, _, dy⟩ := hy.one (by omega) (by omega)
  have dy1 : w.cell? ⟨gy, 0, none⟩ = some (.int .u64 1) := dy
  have HZ := Lib.hid (fun W : World => setWord_zero (w := W))
  clear hx hy hn hl dy
  go_enter Tryz.func49, Tryz.ntmps49
  go_wp2_with (first | (go_at_call 73; ((with_reducible refine HD.out.mono ?_); rintro e w1 ⟨v, rfl, hbn, hk, hf⟩; have HB := Lib.hid hbn; have HK := Lib.hid hk; have HF := Lib.hid hf; clear hbn hk hf)) | (go_at_call 74; ((with_reducible refine (HZ.out _).mono ?_); rintro e w2 ⟨rfl, rfl⟩)))
  go_ret2
  exact ⟨v, rfl, HB.out, HK.out, HF.out⟩

end Go.Proofs.YthjokmfidhcclaaGreatDoor
