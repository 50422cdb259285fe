/- Package dec: noughts taken from the end; package math/big: a whole number as a machine's, and its size compared. -/
import Derived.Test.YthjokmfidhcclaaGreatDoorHalfB
namespace Go.Proofs.YthjokmfidhcclaaGreatDoor
open Go.RowKit

set_option maxRecDepth 100000 in
set_option maxHeartbeats 2000000 in
theorem gCmpAbs_any {w : World} {p1 p2 : Nat} {x y : Int} (h1 : GInt w p1 x) (h2 : GInt w p2 y) (hl : (digs 18446744073709551616 x.natAbs).length ≤ 1000) :
    Calls Tryz.prog 24 #[.pointer (some ⟨p1, 0, none⟩), .pointer (some ⟨p2, 0, none⟩)] w fun e w' => e = .returned (.int .i64 (cmpN x.natAbs y.natAbs)) ∧ ∃ q, w' = w.drewN q := by
  obtain ⟨v1, hb1, hv1⟩ := h1
  obtain ⟨v2, hb2, hv2⟩ := h2
  have c1 : w.cell? ⟨p1, 1, none⟩ = some v1 := cell_of_row w p1 1 _ _ _ hb1
  have c2 : w.cell? ⟨p2, 1, none⟩ = some v2 := cell_of_row w p2 1 _ _ _ hb2
  have HC := Lib.hid (fun q => gcmpw_any (w := w.drewN q) (v1 := v1) (v2 := v2) (n := x.natAbs) (m := y.natAbs) hv1 hv2 hl)
  clear hb1 hb2 hv1 hv2 hl
  go_enter Tryz.func24, Tryz.ntmps24
  go_upto_region 1 with fail
  go_quiet ((go_at_call 22; exact (HC.out _).mono fun _ _ ⟨he, m, hm⟩ => ⟨he, _, hm.trans (World.drewN_drewN _ _ _)⟩))
  go_wp2_with fail
  go_ret
  exact ⟨rfl, _, by first | rfl | ((repeat rw [World.drewN_drewN]); rfl)⟩

set_option maxRecDepth 100000 in
set_option maxHeartbeats 2000000 in
theorem low64_pos {w : World} {v : Value} {n : Nat} (h : BN w v n) (hn : 0 < n) (hl : n < 18446744073709551616) : Calls Tryz.prog 36 #[v] w fun e w' => e = .returned (.int .u64 (n : Int)) ∧ w' = w := by
  obtain ⟨g, c, rfl, hc, _, d⟩ := h.one hn hl
  clear h
  go_enter Tryz.func36, Tryz.ntmps36
  go_wp2
  go_ret
  exact ⟨rfl, rfl⟩

set_option maxRecDepth 100000 in
set_option maxHeartbeats 2000000 in
theorem gInt64_pos {w : World} {p n : Nat} (h : GInt w p (n : Int)) (hn : 0 < n) (hl : n < 9223372036854775808) : Calls Tryz.prog 26 #[.pointer (some ⟨p, 0, none⟩)] w fun e w' => e = .returned (.int .i64 (n : Int)) ∧ w' = w := by
  obtain ⟨v, hb, hv⟩ := h
  rw [Int.natAbs_natCast] at hv
  rw [decide_eq_false (by omega)] at hb
  have d0 : w.cell? ⟨p, 0, none⟩ = some (.bool false) := cell_of_row w p 0 _ _ _ hb
  have d1 : w.cell? ⟨p, 1, none⟩ = some v := cell_of_row w p 1 _ _ _ hb
  have HL := Lib.hid (low64_pos hv hn (by omega))
  have wr : IntKind.i64.wrap (n : Int) = (n : Int) := by simp only [IntKind.wrap_i64]; omega
  clear hb hv
  go_enter Tryz.func26, Tryz.ntmps26
  go_wp2_with (go_at_call 36; ((with_reducible refine HL.out.mono ?_); rintro e w1 ⟨rfl, rfl⟩))
  go_ret
  exact ⟨rfl, rfl⟩

theorem dec_cells {w : World} {p : Nat} {u0 u1 : Value} {c x : Int} (h : w.heap[p]? = some (.cells #[u0, u1] 23 (0, 0))) :
    ((w.setCell ⟨p, 0, none⟩ (.int .i64 c)).setCell ⟨p, 1, none⟩ (.int .i64 x)).cell? ⟨p, 0, none⟩ = some (.int .i64 c) ∧ ((w.setCell ⟨p, 0, none⟩ (.int .i64 c)).setCell ⟨p, 1, none⟩ (.int .i64 x)).cell? ⟨p, 1, none⟩ = some (.int .i64 x) := by
  have hb := setCell_blk (k := 1) (u := .int .i64 x) (setCell_blk (k := 0) (u := .int .i64 c) h)
  exact ⟨cell_of_row _ p 0 _ _ _ hb, cell_of_row _ p 1 _ _ _ hb⟩

set_option maxRecDepth 100000 in
set_option maxHeartbeats 4000000 in
theorem normal_any {w : World} (c k : Nat) (x : Int) (hc : c % 10 ≠ 0) (hl : c * 10 ^ k < 9223372036854775808) (hx : -100 ≤ x) (hx2 : x + k ≤ 40) :
    Calls Tryz.prog 25 #[.int .i64 ((c * 10 ^ k : Nat) : Int), .int .i64 x] w fun e w' => e = .returned (.tuple #[.agg #[.int .i64 c, .int .i64 (x + k)], .int .i64 0]) ∧ Keeps (fun _ => False) w w' := by
  obtain ⟨w1, hw1⟩ : ∃ w1, w.alloc (.cells #[.int .i64 0, .int .i64 0] 23) = w1 := ⟨_, rfl⟩
  obtain ⟨pa, hpa⟩ : ∃ pa, w.heap.size = pa := ⟨_, rfl⟩
  have hk1 : Keeps (fun _ => False) w w1 := by rw [← hw1]; exact (Keeps.refl _ _).alloc _
  have h1 : w1.heap[pa]? = some (.cells #[.int .i64 0, .int .i64 0] 23 (0, 0)) := by rw [← hw1, ← hpa]; exact heap_alloc_new _ _
  have hne : (((c * 10 ^ k : Nat) : Int) == 0) = false := by
    rw [beq_eq_false_iff_ne]
    have := Nat.mul_pos (show 0 < c by omega) (Nat.pow_pos (n := k) (show 0 < 10 by omega))
    omega
  have HC := Lib.hid hc; have HL := Lib.hid hl; have HX2 := Lib.hid hx2
  have H1 := Lib.hid h1; have HK1 := Lib.hid hk1
  have d0 : w1.cell? ⟨pa, 0, none⟩ = some (.int .i64 0) := cell_of_row w1 pa 0 _ _ _ h1
  have d1 : w1.cell? ⟨pa, 1, none⟩ = some (.int .i64 0) := cell_of_row w1 pa 1 _ _ _ h1
  have zf0 := frozen_of_row w1 pa 0 _ _ h1
  have zf1 := frozen_of_row w1 pa 1 _ _ h1
  have zl := row_lt h1
  clear hc hl hx2 h1 hk1
  generalize hC : c * 10 ^ k = C at hne ⊢
  have HCC := Lib.hid hC
  clear hC
  go_enter Tryz.func25, Tryz.ntmps25
  go_wp2
  go_loop [0, 1] (fun cc i => ∃ j r : Nat, j ≤ k ∧ cc = .int .i64 (r : Int) ∧ i = .int .i64 (x + j) ∧ Hid (r = c * 10 ^ (k - j))) (fun cc _ => (intOf cc).toNat)
  case atStart => exact ⟨0, C, Nat.zero_le _, rfl, by simp, Lib.hid (by rw [Nat.sub_zero]; exact HCC.out.symm)⟩
  case round =>
    obtain ⟨j, r, hj, rfl, rfl, hr⟩ := hrel
    have HX := Lib.hid (show x + j ≤ 40 by have := HX2.out; omega)
    have m1 : Int.tmod (r : Int) 10 = ((r % 10 : Nat) : Int) := by rw [Int.tmod_eq_emod_of_nonneg (by omega)]; omega
    by_cases hk : j = k
    · subst hk
      have hrc : r = c := by have := hr.out; simpa using this
      subst hrc
      have hm : ((Int.tmod (r : Int) 10) == 0) = false := by rw [m1, beq_eq_false_iff_ne]; have := HC.out; omega
      have hgt : ¬ (40 : Int) < x + (j : Int) := by have := HX.out; omega
      go_wp2
      obtain ⟨q0, q1⟩ := dec_cells (c := r) (x := x + j) H1.out
      refine bodyPost_ret (v := .tuple #[.agg #[.int .i64 r, .int .i64 (x + j)], .int .i64 0]) (by simp [results, Tryz.results25, go_sem, q0, q1]) rfl ?_
      exact ⟨rfl, (HK1.out.setNew (by omega) _).setNew (by omega) _⟩
    · have hs : k - j = (k - (j + 1)) + 1 := by omega
      have hq : r = c * 10 ^ (k - (j + 1)) * 10 := by rw [hr.out, hs, Nat.pow_succ, Nat.mul_assoc]
      have HQ := Lib.hid (show r / 10 = c * 10 ^ (k - (j + 1)) by omega)
      have hm : (Int.tmod (r : Int) 10 == 0) = true := by rw [m1, beq_iff_eq]; omega
      have hp : 0 < r / 10 := by rw [HQ.out]; exact Nat.mul_pos (by have := HC.out; omega) (Nat.pow_pos (by omega))
      have m2 : Int.tdiv (r : Int) 10 = ((r / 10 : Nat) : Int) := by rw [Int.tdiv_eq_ediv_of_nonneg (by omega)]; omega
      have HP := Lib.hid (show r / 10 < r by omega)
      have hr9 : r < 9223372036854775808 := by
        rw [hr.out]
        exact Nat.lt_of_le_of_lt (Nat.mul_le_mul_left _ (Nat.pow_le_pow_right (by omega) (by omega))) HL.out
      obtain ⟨s, hsr⟩ : ∃ s, r / 10 = s := ⟨_, rfl⟩
      rw [hsr] at HQ hp m2 HP
      have hw1 : IntKind.i64.wrap (s : Int) = (s : Int) := by simp only [IntKind.wrap_i64]; omega
      have hw2 : IntKind.i64.wrap (x + (j : Int) + 1) = x + ((j + 1 : Nat) : Int) := by simp only [IntKind.wrap_i64]; have := HX.out; omega
      clear hq hr hsr hs
      go_wp2
      go_round
      case rel => exact ⟨j + 1, s, by omega, by go_num, by go_num, HQ⟩
      case measure => simp [intOf]; exact HP.out

end Go.Proofs.YthjokmfidhcclaaGreatDoor
