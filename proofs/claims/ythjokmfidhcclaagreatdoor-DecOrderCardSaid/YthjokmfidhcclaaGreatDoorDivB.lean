/- Package math/big: a whole number divided by one. -/
import Derived.Test.YthjokmfidhcclaaGreatDoorDivA
namespace Go.Proofs.YthjokmfidhcclaaGreatDoor
open Go.RowKit

set_option maxRecDepth 100000 in
set_option maxHeartbeats 4000000 in
theorem gQuoRem_one {w : World} {pz px py pr n : Nat} (hz : GZero w pz) (hr : GZero w pr) (hx : GInt w px (n : Int)) (hy : GInt w py 1) (hn : 0 < n) (hl : (digs 18446744073709551616 n).length ≤ 100) (hzr : pz ≠ pr) (hxz : px ≠ pz) (hxr : px ≠ pr) (hyz : py ≠ pz) (hyr : py ≠ pr) :
    Calls Tryz.prog 31 #[.pointer (some ⟨pz, 0, none⟩), .pointer (some ⟨px, 0, none⟩), .pointer (some ⟨py, 0, none⟩), .pointer (some ⟨pr, 0, none⟩)] w fun e w' => e = .returned (.tuple #[.pointer (some ⟨pz, 0, none⟩), .pointer (some ⟨pr, 0, none⟩)]) ∧ GInt w' pz (n : Int) ∧ GZero w' pr ∧ Keeps (fun k => k = pz ∨ k = pr) w w' := by
  obtain ⟨vx, hbx, hnx⟩ := hx
  obtain ⟨vy, hby, hny⟩ := hy
  rw [Int.natAbs_natCast] at hnx
  rw [decide_eq_false (by omega)] at hbx hby
  have hny : BN w vy 1 := hny
  unfold GZero at hz hr
  have HZ := Lib.hid hz; have HR := Lib.hid hr
  have HC := Lib.hid (fun (W : World) (hk : Keeps (fun k => k = pz) w W) => (⟨cell_of_row W pr 1 _ _ _ ((hk.block pr (row_lt hr) (Ne.symm hzr)).trans hr), cell_of_row W px 1 _ _ _ ((hk.block px (row_lt hbx) hxz).trans hbx), cell_of_row W py 1 _ _ _ ((hk.block py (row_lt hby) hyz).trans hby)⟩ : W.cell? ⟨pr, 1, none⟩ = some (.slice none 0 0) ∧ W.cell? ⟨px, 1, none⟩ = some vx ∧ W.cell? ⟨py, 1, none⟩ = some vy))
  have HD := Lib.hid (fun (W : World) (hk : Keeps (fun _ => False) w W) => ndiv_one (hnx.later hk) (hny.later hk) hn hl)
  have HP := Lib.hid (len_posV hn)
  have z1 : w.cell? ⟨pz, 1, none⟩ = some (.slice none 0 0) := cell_of_row w pz 1 _ _ _ hz
  have HN := Lib.hid (⟨hzr, hxz, hxr, hyz, hyr⟩ : pz ≠ pr ∧ px ≠ pz ∧ px ≠ pr ∧ py ≠ pz ∧ py ≠ pr)
  have HBX := Lib.hid hbx; have HBY := Lib.hid hby
  clear hz hr hbx hby hnx hny hn hl hzr hxz hxr hyz hyr
  go_enter Tryz.func31, Tryz.ntmps31
  go_upto_region 1 with fail
  refine Wg.wp_region_first (C := fun w' => Keeps (fun k => k = pz) w w') (by kernel_rfl) 25 ?_
  have K0 := Lib.hid (show Keeps (fun _ => False) w { w with drawn := w.drawn + 1 } from (Keeps.refl _ w).drew)
  generalize { w with drawn := w.drawn + 1 } = W at *
  have KZ0 := Lib.hid (K0.out.mono (S' := fun k => k = pz) fun _ h => h.elim)
  apply Wg.wpAnyP_stays (by kernel_rfl) [0, 1, 2, 3, 4, 6, 7, 8, 9, 10, 11, 12, 13, 14, 15, 16, 17] _ _ _ 11 _ KZ0.out (by kernel_rfl) ?hs ?hr
  case hs =>
    repeat (apply Wg.wpStays_step rfl rfl; (intro w' hw'; obtain ⟨d0, d1, d2⟩ := HC.out w' hw'; clear hw'; go_simp; exact ⟨rfl, rfl⟩); go_simp)
    exact rfl
  case hr =>
    have z1 := K0.out.cell (fun h => h) z1
    apply Wg.wpAnyP_one (i := 5) (fuel := 10) (by kernel_rfl) rfl rfl
    go_simp
    refine ⟨KZ0.out, ?_⟩
    apply Wg.wpAnyP_one (i := 18) (fuel := 9) (by kernel_rfl) rfl rfl
    go_simp
    refine Wg.plain_call (HD.out W K0.out) ?_
    rintro e W2 ⟨v, rfl, hbn, hk, hf⟩
    obtain ⟨A, c, rfl⟩ := hbn.slice
    have K2 := Lib.hid (K0.out.trans hk fun _ h => .inl h)
    have HBN := Lib.hid hbn
    have HF := Lib.hid (fun g hg => Nat.le_trans K0.out.size (hf g hg))
    have HZ2 := Lib.hid (K2.out.blk HZ.out)
    have KZ2 := Lib.hid (K2.out.mono (S' := fun k => k = pz) fun _ h => h.elim)
    clear hbn hk hf HD
    refine ⟨_, rfl, KZ2.out, ?_⟩
    apply Wg.wpAnyP_one (i := 19) (fuel := 8) (by kernel_rfl) rfl rfl
    go_simp
    refine ⟨KZ2.out, ?_⟩
    apply Wg.wpAnyP_stays (by kernel_rfl) [20, 21] _ _ _ 6 _ KZ2.out (by kernel_rfl) ?hs2 ?hr2
    case hs2 =>
      repeat (apply Wg.wpStays_step rfl rfl; (intro w' hw'; clear hw'; go_simp; exact ⟨rfl, rfl⟩); go_simp)
      exact rfl
    case hr2 =>
      have d9 : W2.cell? ⟨pz, 1, none⟩ = some (.slice none 0 0) := cell_of_row W2 pz 1 _ _ _ HZ2.out
      have zf := frozen_of_row W2 pz 1 _ _ HZ2.out
      have zl := row_lt HZ2.out
      have hb1 := setCell_blk (k := 1) (u := .slice A (digs 18446744073709551616 n).length c) HZ2.out
      obtain ⟨W3, hW3⟩ : ∃ W3, W2.setCell ⟨pz, 1, none⟩ (.slice A (digs 18446744073709551616 n).length c) = W3 := ⟨_, rfl⟩
      rw [hW3] at hb1
      have K23 := Lib.hid (show Keeps (fun k => k = pz) W2 W3 by rw [← hW3]; exact (Keeps.refl (fun k => k = pz) W2).setCell (p := ⟨pz, 1, none⟩) (.inl rfl) _)
      have KZ3 := Lib.hid (KZ2.out.trans K23.out fun _ h => .inl h)
      apply Wg.wpAnyP_one (i := 22) (fuel := 5) (by kernel_rfl) rfl rfl
      go_simp
      refine ⟨KZ2.out, ?_⟩
      apply Wg.wpAnyP_one (i := 23) (fuel := 4) (by kernel_rfl) rfl rfl
      go_simp
      refine ⟨KZ2.out, ?_⟩
      apply Wg.wpAnyP_one (i := 24) (fuel := 3) (by kernel_rfl) rfl rfl
      go_simp
      clear hW3
      have HB1 := Lib.hid hb1
      have HR3 := Lib.hid ((KZ3.out.block pr (row_lt HR.out) (Ne.symm HN.out.1)).trans HR.out)
      have d10 : W3.cell? ⟨pr, 1, none⟩ = some (.slice none 0 0) := cell_of_row W3 pr 1 _ _ _ HR3.out
      have rf := frozen_of_row W3 pr 1 _ _ HR3.out
      have rl := row_lt HR3.out
      clear hb1 d9 zf zl z1
      refine ⟨KZ3.out, ?_⟩
      apply Wg.wpAnyP_one (i := 25) (fuel := 2) (by kernel_rfl) rfl rfl
      go_simp
      refine ⟨trivial, ?_⟩
      apply Wg.wpAnyP_one (i := 26) (fuel := 1) (by kernel_rfl) rfl rfl
      go_simp
      refine ⟨trivial, ?_⟩
      apply Wg.wpAnyP_one (i := 27) (fuel := 0) (by kernel_rfl) rfl rfl
      go_simp
      refine ⟨trivial, by kernel_rfl, ?_⟩
      go_simp
      have hr4 := setCell_blk (k := 1) (u := .slice none 0 0) HR3.out
      have hz4 : (W3.setCell ⟨pr, 1, none⟩ (.slice none 0 0)).heap[pz]? = some (.cells #[.bool false, .slice A (digs 18446744073709551616 n).length c] 40 (0, 0)) := (heap_setCell_other _ _ _ _ HN.out.1).trans HB1.out
      have K34 : Keeps (fun k => k = pr) W3 (W3.setCell ⟨pr, 1, none⟩ (.slice none 0 0)) := (Keeps.refl (fun k => k = pr) W3).setCell (p := ⟨pr, 1, none⟩) (.inl rfl) _
      generalize W3.setCell ⟨pr, 1, none⟩ (.slice none 0 0) = W4 at *
      have KK := Lib.hid ((KZ3.out.mono (S' := fun k => k = pz ∨ k = pr) fun _ h => .inl (.inl h)).trans K34 fun _ h => .inl (.inr h))
      have K24 := Lib.hid ((K23.out.mono (S' := fun k => k = pz ∨ k = pr) fun _ h => .inl (.inl h)).trans K34 fun _ h => .inl (.inr h))
      have hr4 : W4.heap[pr]? = some (.cells #[.bool false, .slice none 0 0] 40 (0, 0)) := hr4
      have hx4 := (KK.out.block px (row_lt HBX.out) (by rintro (h | h); exact HN.out.2.1 h; exact HN.out.2.2.1 h)).trans HBX.out
      have hy4 := (KK.out.block py (row_lt HBY.out) (by rintro (h | h); exact HN.out.2.2.2.1 h; exact HN.out.2.2.2.2 h)).trans HBY.out
      have HZ4 := Lib.hid hz4; have HR4 := Lib.hid hr4
      have HC4 := Lib.hid (fun (W : World) (hk : Keeps (fun k => k = pz) W4 W) => (⟨cell_of_row W pr 1 _ _ _ ((hk.block pr (row_lt hr4) (Ne.symm HN.out.1)).trans hr4), cell_of_row W px 0 _ _ _ ((hk.block px (row_lt hx4) HN.out.2.1).trans hx4), cell_of_row W py 0 _ _ _ ((hk.block py (row_lt hy4) HN.out.2.2.2.1).trans hy4)⟩ : W.cell? ⟨pr, 1, none⟩ = some (.slice none 0 0) ∧ W.cell? ⟨px, 0, none⟩ = some (.bool false) ∧ W.cell? ⟨py, 0, none⟩ = some (.bool false)))
      have hn2 : decide ((0 : Int) < ((digs 18446744073709551616 n).length : Int)) = true := decide_eq_true (by have := HP.out; omega)
      have hn3 : 0 < (digs 18446744073709551616 n).length := HP.out
      clear hr4 hz4 hx4 hy4 K34 d10 rf rl
      go_upto_region 2 with fail
      refine Wg.wp_region_first (C := fun w' => Keeps (fun k => k = pz) W4 w') (by kernel_rfl) 34 ?_
      have K5 := Lib.hid (show Keeps (fun _ => False) W4 { W4 with drawn := W4.drawn + 1 } from (Keeps.refl _ W4).drew)
      generalize { W4 with drawn := W4.drawn + 1 } = W5 at *
      have KZ5 := Lib.hid (K5.out.mono (S' := fun k => k = pz) fun _ h => h.elim)
      apply Wg.wpAnyP_stays (by kernel_rfl) [0, 1, 2, 3, 4, 19, 20, 21, 22, 23, 24] _ _ _ 26 _ KZ5.out (by kernel_rfl) ?hs3 ?hr3
      case hs3 =>
        repeat (apply Wg.wpStays_step rfl rfl; (intro w' hw'; obtain ⟨d0, d1, d2⟩ := HC4.out w' hw'; clear hw'; go_simp; exact ⟨rfl, rfl⟩); go_simp)
        exact rfl
      case hr3 =>
        have z5 : W5.cell? ⟨pz, 1, none⟩ = some (.slice A (digs 18446744073709551616 n).length c) := cell_of_row W5 pz 1 _ _ _ (K5.out.blk HZ4.out)
        apply Wg.wpAnyP_one (i := 5) (fuel := 25) (by kernel_rfl) rfl rfl
        go_simp
        refine ⟨KZ5.out, ?_⟩
        apply Wg.wpAnyP_stays (by kernel_rfl) [6, 7, 8, 9, 10, 11, 12, 13, 14, 15, 16, 17, 18, 25, 26, 27, 28, 29, 30] _ _ _ 6 _ KZ5.out (by kernel_rfl) ?hs4 ?hr4
        case hs4 =>
          iterate 3 (apply Wg.wpStays_step rfl rfl; (intro w' hw'; obtain ⟨d0, d1, d2⟩ := HC4.out w' hw'; clear hw'; go_simp; exact ⟨rfl, rfl⟩); go_simp)
          iterate 9 (apply Wg.wpStays_wanted rfl (by first | rfl | (go_simp; done)); (intro w' hw'; obtain ⟨d0, d1, d2⟩ := HC4.out w' hw'; clear hw'; go_simp; exact ⟨rfl, rfl⟩); go_simp)
          iterate 2 (apply Wg.wpStays_step rfl rfl; (intro w' hw'; obtain ⟨d0, d1, d2⟩ := HC4.out w' hw'; clear hw'; go_simp; exact ⟨rfl, rfl⟩); go_simp)
          iterate 4 (apply Wg.wpStays_skip rfl; (first | rfl | (go_simp; done)); go_simp)
          apply Wg.wpStays_step rfl rfl; (intro w' hw'; obtain ⟨d0, d1, d2⟩ := HC4.out w' hw'; clear hw'; go_simp; exact ⟨rfl, rfl⟩); go_simp
          exact rfl
        case hr4 =>
          have HZ5 := Lib.hid (K5.out.blk HZ4.out)
          have HR5 := Lib.hid (K5.out.blk HR4.out)
          have e0 : W5.cell? ⟨pz, 0, none⟩ = some (.bool false) := cell_of_row W5 pz 0 _ _ _ HZ5.out
          have zf := frozen_of_row W5 pz 0 _ _ HZ5.out
          have zl := row_lt HZ5.out
          have hb6 := setCell_blk (k := 0) (u := .bool false) HZ5.out
          have hr6 : (W5.setCell ⟨pz, 0, none⟩ (.bool false)).heap[pr]? = some (.cells #[.bool false, .slice none 0 0] 40 (0, 0)) := (heap_setCell_other _ _ _ _ (Ne.symm HN.out.1)).trans HR5.out
          obtain ⟨W6, hW6⟩ : ∃ W6, W5.setCell ⟨pz, 0, none⟩ (.bool false) = W6 := ⟨_, rfl⟩
          rw [hW6] at hb6 hr6
          have K56 := Lib.hid (show Keeps (fun k => k = pz) W5 W6 by rw [← hW6]; exact (Keeps.refl (fun k => k = pz) W5).setCell (p := ⟨pz, 0, none⟩) (.inl rfl) _)
          have KZ6 := Lib.hid (KZ5.out.trans K56.out fun _ h => .inl h)
          apply Wg.wpAnyP_one (i := 31) (fuel := 5) (by kernel_rfl) rfl rfl
          go_simp
          refine ⟨KZ5.out, ?_⟩
          apply Wg.wpAnyP_one (i := 32) (fuel := 4) (by kernel_rfl) rfl rfl
          go_simp
          refine ⟨KZ5.out, ?_⟩
          apply Wg.wpAnyP_one (i := 33) (fuel := 3) (by kernel_rfl) rfl rfl
          go_simp
          clear hW6
          have HB6 := Lib.hid hb6; have HR6 := Lib.hid hr6
          have d10 : W6.cell? ⟨pr, 0, none⟩ = some (.bool false) := cell_of_row W6 pr 0 _ _ _ HR6.out
          have rf := frozen_of_row W6 pr 0 _ _ HR6.out
          have rl := row_lt HR6.out
          clear hb6 hr6 e0 zf zl z5
          refine ⟨KZ6.out, ?_⟩
          apply Wg.wpAnyP_one (i := 34) (fuel := 2) (by kernel_rfl) rfl rfl
          go_simp
          refine ⟨trivial, ?_⟩
          apply Wg.wpAnyP_one (i := 35) (fuel := 1) (by kernel_rfl) rfl rfl
          go_simp
          refine ⟨trivial, ?_⟩
          apply Wg.wpAnyP_one (i := 36) (fuel := 0) (by kernel_rfl) rfl rfl
          go_simp
          refine ⟨trivial, by kernel_rfl, ?_⟩
          go_simp
          go_wp2_with fail
          go_ret2
          have hr7 := setCell_blk (k := 0) (u := .bool false) HR6.out
          have hz7 : (W6.setCell ⟨pr, 0, none⟩ (.bool false)).heap[pz]? = _ := (heap_setCell_other _ _ _ _ HN.out.1).trans HB6.out
          have K67 : Keeps (fun k => k = pr) W6 (W6.setCell ⟨pr, 0, none⟩ (.bool false)) := (Keeps.refl (fun k => k = pr) W6).setCell (p := ⟨pr, 0, none⟩) (.inl rfl) _
          have KE : Keeps (fun k => k = pz ∨ k = pr) W4 (W6.setCell ⟨pr, 0, none⟩ (.bool false)) := (KZ6.out.mono (S' := fun k => k = pz ∨ k = pr) fun _ h => .inl (.inl h)).trans K67 fun _ h => .inl (.inr h)
          refine ⟨rfl, ⟨.slice A (digs 18446744073709551616 n).length c, hz7.trans ?_, ?_⟩, hr7, KK.out.trans KE fun _ h => .inl h⟩
          · rw [decide_eq_false (Int.not_lt.2 (Int.natCast_nonneg _))]; rfl
          · rw [Int.natAbs_natCast]
            exact Buf.kept HBN.out (K24.out.trans KE fun _ h => .inl h) fun g hg hh => by
              have := HF.out g hg
              have := row_lt HZ.out
              have := row_lt HR.out
              omega

end Go.Proofs.YthjokmfidhcclaaGreatDoor
