/- Package math/big: a product of two whole numbers, from the product of their lists of words. -/
import Derived.Test.YthjokmfidhcclaaGreatDoorWordR
namespace Go.Proofs.YthjokmfidhcclaaGreatDoor
open Go.RowKit

theorem sign_mul {a b : Int} (h : 0 < a.natAbs * b.natAbs) : (!decide (a < 0) == decide (b < 0)) = decide (a * b < 0) := by
  have ha : a ≠ 0 := by intro e; subst e; simp at h
  have hb : b ≠ 0 := by intro e; subst e; simp at h
  rcases Int.lt_or_gt_of_ne ha with h1 | h1 <;> rcases Int.lt_or_gt_of_ne hb with h2 | h2
  · have := Int.mul_pos_of_neg_of_neg h1 h2
    rw [decide_eq_true h1, decide_eq_true h2, decide_eq_false (by omega)]; rfl
  · have := Int.mul_neg_of_neg_of_pos h1 h2
    rw [decide_eq_true h1, decide_eq_false (by omega), decide_eq_true this]; rfl
  · have := Int.mul_neg_of_pos_of_neg h1 h2
    rw [decide_eq_false (by omega), decide_eq_true h2, decide_eq_true this]; rfl
  · have := Int.mul_pos h1 h2
    rw [decide_eq_false (by omega), decide_eq_false (by omega), decide_eq_false (by omega)]; rfl
theorem prod_pos_of_len {k n : Nat} (h : (digs 18446744073709551616 k).length = n) (hn : 0 < n) : 0 < k := by
  rcases Nat.eq_zero_or_pos k with rfl | h0
  · rw [digs_zero] at h; simp at h; omega
  · exact h0
theorem prod_zero_of_len {k n : Nat} (h : (digs 18446744073709551616 k).length = n) (hn : ¬ 0 < n) : k = 0 := by
  rcases Nat.eq_zero_or_pos k with h0 | h0
  · exact h0
  · rw [digs_pos (by omega) h0] at h; simp at h; omega

set_option maxRecDepth 100000 in
set_option maxHeartbeats 4000000 in
theorem gmul_any {w : World} {pz px py : Nat} {a b : Int} (hz : GZero w pz) (hx : GInt w px a) (hy : GInt w py b) (hne : px ≠ py) (hxz : px ≠ pz) (hyz : py ≠ pz) 
    (HM : ∀ (W : World) (vx vy : Value), Keeps (fun _ => False) w W → BN W vx a.natAbs → BN W vy b.natAbs → Calls Tryz.prog 47 #[.slice none 0 0, .pointer none, vx, vy] W fun e w' => NewN W (a.natAbs * b.natAbs) e w') :
    Calls Tryz.prog 29 #[.pointer (some ⟨pz, 0, none⟩), .pointer none, .pointer (some ⟨px, 0, none⟩), .pointer (some ⟨py, 0, none⟩)] w fun e w' => e = .returned (.tuple #[]) ∧ GInt w' pz (a * b) ∧ Keeps (fun k => k = pz) w w' := by
  obtain ⟨vx, hbx, hnx⟩ := hx
  obtain ⟨vy, hby, hny⟩ := hy
  have heq : (binOp .eql 33 (.pointer (some ⟨px, 0, none⟩)) (.pointer (some ⟨py, 0, none⟩))).run Tryz.prog w = .ok (.bool false) w :=
    run_eql_ptr_other w Tryz.underlying33 (by kernel_rfl : Tryz.prog.info? 40 = some Tryz.t40) (by decide) (fun e => hne (congrArg Addr.block e)) hbx hby
  unfold GZero at hz
  have HC := Lib.hid (fun (W : World) (hk : Keeps (fun _ => False) w W) => (⟨cell_of_row W pz 1 _ _ _ (hk.blk hz), cell_of_row W px 1 _ _ _ (hk.blk hbx), cell_of_row W py 1 _ _ _ (hk.blk hby)⟩ : W.cell? ⟨pz, 1, none⟩ = some (.slice none 0 0) ∧ W.cell? ⟨px, 1, none⟩ = some vx ∧ W.cell? ⟨py, 1, none⟩ = some vy))
  have HMM := Lib.hid (fun (W : World) (hk : Keeps (fun _ => False) w W) => HM W vx vy hk (hnx.later hk) (hny.later hk))
  go_enter Tryz.func29, Tryz.ntmps29
  go_upto_region 3 with fail
  refine Wg.wp_region_first (C := fun w' => Keeps (fun _ => False) w w') (by kernel_rfl) 15 ?_
  have K0 := Lib.hid (show Keeps (fun _ => False) w { w with drawn := w.drawn + 1 } from (Keeps.refl _ w).drew)
  generalize { w with drawn := w.drawn + 1 } = W at *
  apply Wg.wpAnyP_stays (by kernel_rfl) [0, 1, 2, 3, 4, 5, 6, 7, 8, 9, 10, 11, 12, 13] _ _ _ 4 _ K0.out (by kernel_rfl) ?hs ?hr
  case hs =>
    repeat (apply Wg.wpStays_step rfl rfl; (intro w' hw'; obtain ⟨d0, d1, d2⟩ := HC.out w' hw'; clear hw'; go_simp; exact ⟨rfl, rfl⟩); go_simp)
    exact rfl
  case hr =>
    apply Wg.wpAnyP_one (i := 14) (fuel := 3) (by kernel_rfl) rfl rfl
    go_simp
    refine Wg.plain_call (HMM.out W K0.out) ?_
    rintro e W2 ⟨v, rfl, hbn, hk, hf⟩
    obtain ⟨A, c, rfl⟩ := hbn.slice
    have K2 := Lib.hid (K0.out.trans hk fun _ h => .inl h)
    have HBN := Lib.hid hbn; have HF := Lib.hid hf
    have HZ2 := Lib.hid (K2.out.blk hz)
    obtain ⟨d0, d1, d2⟩ := HC.out W2 K2.out
    have zf := frozen_of_row W2 pz 1 _ _ HZ2.out
    have zl := row_lt HZ2.out
    clear hbn hk hf
    refine ⟨_, rfl, K2.out, ?_⟩
    apply Wg.wpAnyP_one (i := 15) (fuel := 2) (by kernel_rfl) rfl rfl
    go_simp
    refine ⟨trivial, ?_⟩
    apply Wg.wpAnyP_one (i := 16) (fuel := 1) (by kernel_rfl) rfl rfl
    go_simp
    refine ⟨trivial, ?_⟩
    apply Wg.wpAnyP_one (i := 17) (fuel := 0) (by kernel_rfl) rfl rfl
    go_simp
    refine ⟨trivial, by kernel_rfl, ?_⟩
    go_simp
    have hb3 := setCell_blk (k := 1) (u := .slice A (digs 18446744073709551616 (a.natAbs * b.natAbs)).length c) HZ2.out
    obtain ⟨w3, hw3⟩ : ∃ w3, W2.setCell ⟨pz, 1, none⟩ (.slice A (digs 18446744073709551616 (a.natAbs * b.natAbs)).length c) = w3 := ⟨_, rfl⟩
    rw [hw3] at hb3
    have hkz : Keeps (fun k => k = pz) w w3 := by rw [← hw3]; exact (K2.out.mono (S' := fun k => k = pz) fun _ h => h.elim).setCell (p := ⟨pz, 1, none⟩) (.inl rfl) _
    have hx3 := (hkz.block px (row_lt hbx) hxz).trans hbx
    have hy3 := (hkz.block py (row_lt hby) hyz).trans hby
    rw [hw3]
    have HC4 := Lib.hid (fun (W : World) (hk : Keeps (fun _ => False) w3 W) => (⟨cell_of_row W pz 0 _ _ _ (hk.blk hb3), cell_of_row W pz 1 _ _ _ (hk.blk hb3), cell_of_row W px 0 _ _ _ (hk.blk hx3), cell_of_row W py 0 _ _ _ (hk.blk hy3)⟩ : W.cell? ⟨pz, 0, none⟩ = some (.bool false) ∧ W.cell? ⟨pz, 1, none⟩ = some (.slice A (digs 18446744073709551616 (a.natAbs * b.natAbs)).length c) ∧ W.cell? ⟨px, 0, none⟩ = some (.bool (decide (a < 0))) ∧ W.cell? ⟨py, 0, none⟩ = some (.bool (decide (b < 0)))))
    have HBN3 := Lib.hid (show BN w3 (.slice A (digs 18446744073709551616 (a.natAbs * b.natAbs)).length c) (a.natAbs * b.natAbs) by
      rw [← hw3]
      exact Buf.kept HBN.out ((Keeps.refl (fun k => k = pz) W2).setCell (p := ⟨pz, 1, none⟩) (.inl rfl) _) fun g hg hh => by
        have := HF.out g hg
        have := K0.out.size
        have := row_lt hz
        omega)
    clear hw3
    generalize hlen : (digs 18446744073709551616 (a.natAbs * b.natAbs)).length = n at *
    go_wp2_with fail
    have K30 := Lib.hid (show Keeps (fun _ => False) w3 { w3 with drawn := w3.drawn + 1 } from (Keeps.refl _ w3).drew)
    by_cases hn0 : 0 < n
    · have g0 : decide ((0 : Int) < (n : Int)) = true := decide_eq_true (by omega)
      refine Wg.wp_region_first (C := fun w' => Keeps (fun _ => False) w3 w') (by kernel_rfl) 20 ?_
      generalize { w3 with drawn := w3.drawn + 1 } = V at *
      apply Wg.wpAnyP_stays (by kernel_rfl) [0, 1, 2, 3, 4, 5, 6, 7, 8, 9, 10, 11, 12, 13, 14, 15, 16, 17, 18, 19] _ _ _ 1 _ K30.out (by kernel_rfl) ?hs ?hr
      case hs =>
        repeat ((first | apply Wg.wpStays_step rfl rfl | apply Wg.wpStays_wanted rfl (by first | rfl | (go_simp; done))); (intro w' hw'; obtain ⟨d0, d1, d2, d3⟩ := HC4.out w' hw'; clear hw'; go_simp; exact ⟨rfl, rfl⟩); go_simp)
        exact rfl
      case hr =>
        have HZ4 := Lib.hid (K30.out.blk hb3)
        obtain ⟨d0, d1, d2, d3⟩ := HC4.out V K30.out
        have zf4 := frozen_of_row V pz 0 _ _ HZ4.out
        have zl4 := row_lt HZ4.out
        apply Wg.wpAnyP_one (i := 20) (fuel := 0) (by kernel_rfl) rfl rfl
        go_simp
        refine ⟨trivial, by kernel_rfl, ?_⟩
        go_simp
        go_wp2_with fail
        go_end0
        have hk9 : Keeps (fun k => k = pz) w3 (V.setCell ⟨pz, 0, none⟩ (.bool (!decide (a < 0) == decide (b < 0)))) := (K30.out.mono (S' := fun k => k = pz) fun _ h => h.elim).setCell (p := ⟨pz, 0, none⟩) (.inl rfl) _
        refine ⟨rfl, ⟨.slice A n c, ?_, ?_⟩, hkz.trans hk9 fun _ h => .inl h⟩
        · rw [setCell_blk HZ4.out, sign_mul (prod_pos_of_len hlen hn0)]; rfl
        · rw [Int.natAbs_mul]
          exact Buf.kept HBN3.out hk9 fun g hg hh => by
            have := HF.out g hg
            have := K0.out.size
            have := row_lt hz
            omega
    · have g0 : decide ((0 : Int) < (n : Int)) = false := decide_eq_false (by omega)
      refine Wg.wp_region_first (C := fun w' => Keeps (fun _ => False) w3 w') (by kernel_rfl) 20 ?_
      generalize { w3 with drawn := w3.drawn + 1 } = V at *
      apply Wg.wpAnyP_stays (by kernel_rfl) [0, 1, 2, 3, 4, 5, 6, 7, 8, 9, 10, 11, 12, 13, 14, 15, 16, 17, 18, 19] _ _ _ 1 _ K30.out (by kernel_rfl) ?hs ?hr
      case hs =>
        iterate 8 (apply Wg.wpStays_step rfl rfl; (intro w' hw'; obtain ⟨d0, d1, d2, d3⟩ := HC4.out w' hw'; clear hw'; go_simp; exact ⟨rfl, rfl⟩); go_simp)
        iterate 9 (apply Wg.wpStays_skip rfl; (first | rfl | (go_simp; done)); go_simp)
        iterate 3 (apply Wg.wpStays_step rfl rfl; (intro w' hw'; obtain ⟨d0, d1, d2, d3⟩ := HC4.out w' hw'; clear hw'; go_simp; exact ⟨rfl, rfl⟩); go_simp)
        exact rfl
      case hr =>
        have HZ4 := Lib.hid (K30.out.blk hb3)
        obtain ⟨d0, d1, d2, d3⟩ := HC4.out V K30.out
        have zf4 := frozen_of_row V pz 0 _ _ HZ4.out
        have zl4 := row_lt HZ4.out
        apply Wg.wpAnyP_one (i := 20) (fuel := 0) (by kernel_rfl) rfl rfl
        go_simp
        refine ⟨trivial, by kernel_rfl, ?_⟩
        go_simp
        go_wp2_with fail
        go_end0
        have hk9 : Keeps (fun k => k = pz) w3 (V.setCell ⟨pz, 0, none⟩ (.bool false)) := (K30.out.mono (S' := fun k => k = pz) fun _ h => h.elim).setCell (p := ⟨pz, 0, none⟩) (.inl rfl) _
        refine ⟨rfl, ⟨.slice A n c, ?_, ?_⟩, hkz.trans hk9 fun _ h => .inl h⟩
        · rw [setCell_blk HZ4.out, decide_eq_false (by have h0 := prod_zero_of_len hlen hn0; rw [← Int.natAbs_mul, Int.natAbs_eq_zero] at h0; omega)]; rfl
        · rw [Int.natAbs_mul]
          exact Buf.kept HBN3.out hk9 fun g hg hh => by
            have := HF.out g hg
            have := K0.out.size
            have := row_lt hz
            omega

end Go.Proofs.YthjokmfidhcclaaGreatDoor
