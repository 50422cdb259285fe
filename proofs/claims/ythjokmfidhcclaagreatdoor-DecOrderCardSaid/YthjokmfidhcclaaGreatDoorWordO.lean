/- Package math/big: a power of ten, its exponent nought or one (nat.expNN). -/
import Derived.Test.YthjokmfidhcclaaGreatDoorWordN
namespace Go.Proofs.YthjokmfidhcclaaGreatDoor
open Go.RowKit

set_option maxRecDepth 100000 in
set_option maxHeartbeats 8000000 in
theorem expNN_one {w : World} {vx vy : Value} (hx : BN w vx 10) (hy : BN w vy 1) :
    Calls Tryz.prog 72 #[.slice none 0 0, .pointer none, vx, vy, .slice none 0 0, .bool false] w fun e' w' => NewN w (10 ^ 1) e' w' := by
  have HXB := Lib.hid hx
  unfold BN at hx hy
  rw [digs_oneV (by omega) (by omega)] at hx hy
  obtain ⟨gx, Lx, rfl, hbx, htx, hlx⟩ := hx.blk (by simp)
  obtain ⟨gy, Ly, rfl, hby, hty, hly⟩ := hy.blk (by simp)
  have cx0 : w.cell? ⟨gx, 0, none⟩ = some (.int .u64 ((10 : Nat) : Int)) := hx.cells 0 _ (by simp [wcs])
  have cy0 : w.cell? ⟨gy, 0, none⟩ = some (.int .u64 ((1 : Nat) : Int)) := hy.cells 0 _ (by simp [wcs])
  simp only [List.length_cons, List.length_nil, Nat.zero_add] at *
  have HAX := Lib.hid (fun W : World => alias_nil (w := W) (v := .slice (some ⟨gx, 0, none⟩) 1 Lx.length) ⟨_, _, _, rfl⟩)
  have HAY := Lib.hid (fun W : World => alias_nil (w := W) (v := .slice (some ⟨gy, 0, none⟩) 1 Ly.length) ⟨_, _, _, rfl⟩)
  have HSET := Lib.hid (fun (W : World) (hk : Keeps (fun _ => False) w W) => set_new (w := W) (HXB.out.later hk) (by omega) (by rw [digs_oneV (by omega) (by omega)]; simp))
  have HCX := Lib.hid cx0; have HCY := Lib.hid cy0
  clear hx hy hbx htx hby hty
  go_enter_defers Tryz.func72, Tryz.ntmps72
  go_wp2_with (first
    | (go_at_call 58; ((with_reducible refine (HAX.out _).mono ?_); rintro e' w1 ⟨rfl, q1, rfl⟩; have c1 := (Keeps.refl (fun _ => False) w).drewN q1))
    | (go_at_call 58; ((with_reducible refine (HAY.out _).mono ?_); rintro e' w2 ⟨rfl, q2, rfl⟩; have HK0 := Lib.hid (((Keeps.refl (fun _ => False) w).drewN q1).drewN q2); generalize hw0 : (w.drewN q1).drewN q2 = W0 at *; have cx0 := HK0.out.cell (fun h => h) HCX.out; have cy0 := HK0.out.cell (fun h => h) HCY.out))
    | (go_at_call 37; ((with_reducible refine (HSET.out W0 HK0.out).mono ?_); rintro e' w2 ⟨vz, rfl, hbz, hkz, hfz⟩; have HZ := Lib.hid hbz; have HKZ := Lib.hid hkz; have HFZ := Lib.hid hfz; clear hbz hkz hfz)))
  refine ⟨_, results_tmp rfl _ _ _, ?_⟩
  refine ⟨_, rfl, HZ.out, HK0.out.trans HKZ.out fun _ h => .inl h, fun g hg => ?_⟩
  have := HFZ.out g hg
  have := HK0.out.size
  omega

set_option maxRecDepth 100000 in
set_option maxHeartbeats 8000000 in
theorem expNN_zero {w : World} {vx : Value} {A : Option Addr} {c : Nat} (hx : BN w vx 10) :
    Calls Tryz.prog 72 #[.slice none 0 0, .pointer none, vx, .slice A 0 c, .slice none 0 0, .bool false] w fun e' w' => NewN w (10 ^ 0) e' w' := by
  unfold BN at hx
  rw [digs_oneV (by omega) (by omega)] at hx
  obtain ⟨gx, Lx, rfl, hbx, htx, hlx⟩ := hx.blk (by simp)
  simp only [List.length_cons, List.length_nil, Nat.zero_add] at *
  have HAX := Lib.hid (fun W : World => alias_nil (w := W) (v := .slice (some ⟨gx, 0, none⟩) 1 Lx.length) ⟨_, _, _, rfl⟩)
  have HAY := Lib.hid (fun W : World => alias_nil (w := W) (v := .slice A 0 c) ⟨_, _, _, rfl⟩)
  have HSET := Lib.hid (fun (W : World) => (show Calls Tryz.prog 74 #[.slice none 0 0, .int .u64 1] W (fun e' w' => NewN W 1 e' w') from setWord_new (w := W) 1 (by omega) (by omega)))
  clear hx hbx htx
  go_enter_defers Tryz.func72, Tryz.ntmps72
  go_wp2_with (first
    | (go_at_call 58; ((with_reducible refine (HAX.out _).mono ?_); rintro e' w1 ⟨rfl, q1, rfl⟩))
    | (go_at_call 58; ((with_reducible refine (HAY.out _).mono ?_); rintro e' w2 ⟨rfl, q2, rfl⟩; have HK0 := Lib.hid (((Keeps.refl (fun _ => False) w).drewN q1).drewN q2); generalize hw0 : (w.drewN q1).drewN q2 = W0 at *))
    | (go_at_call 74; ((with_reducible refine (HSET.out W0).mono ?_); rintro e' w2 ⟨vz, rfl, hbz, hkz, hfz⟩; have HZ := Lib.hid hbz; have HKZ := Lib.hid hkz; have HFZ := Lib.hid hfz; clear hbz hkz hfz)))
  refine ⟨_, results_tmp rfl _ _ _, ?_⟩
  refine ⟨_, rfl, HZ.out, HK0.out.trans HKZ.out fun _ h => .inl h, fun g hg => ?_⟩
  have := HFZ.out g hg
  have := HK0.out.size
  omega

theorem expNN_any {w : World} {vx vy : Value} {e : Nat} (ht : Thr w) (hx : BN w vx 10) (hy : BN w vy e) (he : e < 128) :
    Calls Tryz.prog 72 #[.slice none 0 0, .pointer none, vx, vy, .slice none 0 0, .bool false] w fun e' w' => NewN w (10 ^ e) e' w' := by
  rcases (show e = 0 ∨ e = 1 ∨ 2 ≤ e by omega) with h | h | h
  · subst h
    unfold BN at hy
    rw [digs_zero] at hy
    rcases hy with ⟨rfl, _⟩ | ⟨g, L, rfl, _⟩
    · exact expNN_zero hx
    · exact expNN_zero hx
  · subst h; exact expNN_one hx hy
  · exact expNN_big ht hx hy h he

end Go.Proofs.YthjokmfidhcclaaGreatDoor
