/- Package math/big: the sum of two whole numbers above 0 of one word each. -/
import Derived.Test.YthjokmfidhcclaaGreatDoorAddA
import Derived.Test.YthjokmfidhcclaaGreatDoorWordV
namespace Go.Proofs.YthjokmfidhcclaaGreatDoor
open Go.RowKit

theorem len_posV {n : Nat} (h : 0 < n) : 0 < (digs 18446744073709551616 n).length := by rw [digs_pos (by omega) h]; simp

theorem NewN.keep {w w1 w2 : World} {v : Value} {n p : Nat} (h : BN w1 v n) (hf : ∀ g, v.ownBlock = some g → w.heap.size ≤ g) (hp : p < w.heap.size) (hk : Keeps (fun k => k = p) w1 w2) : BN w2 v n :=
  Buf.kept h hk fun g hg hh => by have := hf g hg; omega

set_option maxRecDepth 100000 in
set_option maxHeartbeats 4000000 in
theorem gAdd_one {w : World} {pz px py x y : Nat} (hz : GZero w pz) (hx : GInt w px (x : Int)) (hy : GInt w py (y : Int)) (hx0 : 0 < x) (hxl : x < 18446744073709551616) (hy0 : 0 < y) (hyl : y < 18446744073709551616) :
    Calls Tryz.prog 12 #[.pointer (some ⟨pz, 0, none⟩), .pointer (some ⟨px, 0, none⟩), .pointer (some ⟨py, 0, none⟩)] w fun e w' => e = .returned (.pointer (some ⟨pz, 0, none⟩)) ∧ GInt w' pz ((x + y : Nat) : Int) ∧ Keeps (fun k => k = pz) w w' := by
  obtain ⟨vx, hbx, hnx⟩ := hx
  obtain ⟨vy, hby, hny⟩ := hy
  rw [Int.natAbs_natCast] at hnx hny
  rw [decide_eq_false (by omega)] at hbx hby
  unfold GZero at hz
  have HZ := Lib.hid hz
  have HC := Lib.hid (fun (W : World) (hk : Keeps (fun _ => False) w W) => (⟨cell_of_row W pz 1 _ _ _ (hk.blk hz), cell_of_row W px 0 _ _ _ (hk.blk hbx), cell_of_row W px 1 _ _ _ (hk.blk hbx), cell_of_row W py 0 _ _ _ (hk.blk hby), cell_of_row W py 1 _ _ _ (hk.blk hby)⟩ : W.cell? ⟨pz, 1, none⟩ = some (.slice none 0 0) ∧ W.cell? ⟨px, 0, none⟩ = some (.bool false) ∧ W.cell? ⟨px, 1, none⟩ = some vx ∧ W.cell? ⟨py, 0, none⟩ = some (.bool false) ∧ W.cell? ⟨py, 1, none⟩ = some vy))
  have HS := Lib.hid (fun (W : World) (hk : Keeps (fun _ => False) w W) => nadd_one (hnx.later hk) (hny.later hk) hx0 hxl hy0 hyl)
  have HP := Lib.hid (len_posV (n := x + y) (by omega))
  obtain ⟨d0, d1, d2, d3, d4⟩ := HC.out w (Keeps.refl _ _)
  clear hz hbx hby hnx hny hx0 hxl hy0 hyl
  go_enter Tryz.func12, Tryz.ntmps12
  go_upto_region 2 with fail
  go_quiet (fail)
  go_upto_region 3 with fail
  refine Wg.wp_region_first (C := fun w' => Keeps (fun _ => False) w w') (by kernel_rfl) 14 ?_
  generalize hW : World.mk _ _ _ _ _ = W
  have K0 := Lib.hid (show Keeps (fun _ => False) w W by rw [← hW]; exact ⟨rfl, rfl, rfl, Nat.le_refl _, fun _ _ _ => rfl⟩)
  clear hW
  apply Wg.wpAnyP_stays (by kernel_rfl) [0, 1, 2, 3, 4, 5, 6, 7, 8, 9, 10, 11, 12] _ _ _ 4 _ K0.out (by kernel_rfl) ?hs ?hr
  case hs =>
    repeat (apply Wg.wpStays_step rfl rfl; (intro w' hw'; obtain ⟨d0, d1, d2, d3, d4⟩ := HC.out w' hw'; clear hw'; go_simp; exact ⟨rfl, rfl⟩); go_simp)
    exact rfl
  case hr =>
    apply Wg.wpAnyP_one (i := 13) (fuel := 3) (by kernel_rfl) rfl rfl
    go_simp
    refine Wg.plain_call (HS.out W K0.out) ?_
    rintro e W2 ⟨v, rfl, hbn, hk, hf⟩
    obtain ⟨A, c, rfl⟩ := hbn.slice
    have K2 := Lib.hid (K0.out.trans hk fun _ h => .inl h)
    have HBN := Lib.hid hbn
    have HF := Lib.hid (fun g hg => Nat.le_trans K0.out.size (hf g hg))
    have HZ2 := Lib.hid (K2.out.blk HZ.out)
    have d8 : W2.cell? ⟨pz, 0, none⟩ = some (.bool false) := cell_of_row W2 pz 0 _ _ _ HZ2.out
    have d9 : W2.cell? ⟨pz, 1, none⟩ = some (.slice none 0 0) := cell_of_row W2 pz 1 _ _ _ HZ2.out
    have zf := frozen_of_row W2 pz 1 _ _ HZ2.out
    have zf0 := frozen_of_row W2 pz 0 _ _ HZ2.out
    have zl := row_lt HZ2.out
    have hp := HP.out
    clear hbn hk hf HP HS
    refine ⟨_, rfl, K2.out, ?_⟩
    apply Wg.wpAnyP_one (i := 14) (fuel := 2) (by kernel_rfl) rfl rfl
    go_simp
    refine ⟨trivial, ?_⟩
    apply Wg.wpAnyP_one (i := 15) (fuel := 1) (by kernel_rfl) rfl rfl
    go_simp
    refine ⟨trivial, ?_⟩
    apply Wg.wpAnyP_one (i := 16) (fuel := 0) (by kernel_rfl) rfl rfl
    go_simp
    refine ⟨trivial, by kernel_rfl, ?_⟩
    go_simp
    have hp2 : decide ((0 : Int) < ((digs 18446744073709551616 (x + y)).length : Int)) = true := decide_eq_true (by omega)
    go_wp2_with fail
    go_ret
    have hk9 : Keeps (fun k => k = pz) W2 ((W2.setCell ⟨pz, 1, none⟩ (.slice A (digs 18446744073709551616 (x + y)).length c)).setCell ⟨pz, 0, none⟩ (.bool false)) := ((Keeps.refl (fun k => k = pz) W2).setCell (p := ⟨pz, 1, none⟩) (.inl rfl) _).setCell (p := ⟨pz, 0, none⟩) (.inl rfl) _
    have hb1 := setCell_blk (k := 1) (u := .slice A (digs 18446744073709551616 (x + y)).length c) HZ2.out
    have hb2 := setCell_blk (k := 0) (u := .bool false) hb1
    refine ⟨rfl, ⟨.slice A (digs 18446744073709551616 (x + y)).length c, ?_, ?_⟩, (K2.out.mono (S' := fun k => k = pz) fun _ h => h.elim).trans hk9 fun _ h => .inl h⟩
    · rw [hb2, decide_eq_false (Int.not_lt.2 (Int.natCast_nonneg _))]; rfl
    · rw [Int.natAbs_natCast]
      exact Buf.kept HBN.out hk9 fun g hg hh => by
        have := HF.out g hg
        have := row_lt HZ.out
        omega

end Go.Proofs.YthjokmfidhcclaaGreatDoor
