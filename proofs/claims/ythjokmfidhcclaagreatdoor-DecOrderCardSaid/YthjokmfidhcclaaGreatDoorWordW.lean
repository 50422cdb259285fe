/- Package dec: what is wrong with two numbers; which is less. -/
import Derived.Test.YthjokmfidhcclaaGreatDoorWordU
import Derived.Test.YthjokmfidhcclaaGreatDoorWordV
import Derived.Test.YthjokmfidhcclaaGreatDoorMin
import Derived.Test.YthjokmfidhcclaaGreatDoorDecA
namespace Go.Proofs.YthjokmfidhcclaaGreatDoor
open Go.RowKit

def rightW (a b : DecV) : Int := if wrongD a ≠ 0 then wrongD a else wrongD b

set_option maxRecDepth 100000 in
set_option maxHeartbeats 4000000 in
theorem dright_any {w : World} {g : Nat} (a b : DecV) (hb : w.heap[g]? = some (.cells #[.int .i64 a.coef, .int .i64 a.exp, .int .i64 b.coef, .int .i64 b.exp] 23 (0, 0))) :
    Calls Tryz.prog 8 #[.slice (some ⟨g, 0, none⟩) 2 2] w fun e w' => e = .returned (.int .i64 (rightW a b)) ∧ Keeps (fun _ => False) w w' := by
  have HC := Lib.hid (fun (W : World) (hk : Keeps (fun _ => False) w W) => (⟨cell_of_row W g 0 _ _ _ (hk.blk hb), cell_of_row W g 1 _ _ _ (hk.blk hb), cell_of_row W g 2 _ _ _ (hk.blk hb), cell_of_row W g 3 _ _ _ (hk.blk hb)⟩ : W.cell? ⟨g, 0, none⟩ = some (.int .i64 a.coef) ∧ W.cell? ⟨g, 1, none⟩ = some (.int .i64 a.exp) ∧ W.cell? ⟨g, 2, none⟩ = some (.int .i64 b.coef) ∧ W.cell? ⟨g, 3, none⟩ = some (.int .i64 b.exp)))
  have HW1 := Lib.hid (fun W : World => decWrong_any (w := W) a)
  have HW2 := Lib.hid (fun W : World => decWrong_any (w := W) b)
  clear hb
  go_enter Tryz.func8, Tryz.ntmps8
  go_wp2_with fail
  go_loopw [8] (fun i wr => ∃ (k : Nat), k ≤ 2 ∧ i = .int .i64 (k : Int) ∧ Hid (1 ≤ k → wrongD a = 0) ∧ Hid (2 ≤ k → wrongD b = 0) ∧ Hid (Keeps (fun _ => False) w wr)) (fun i _ => (2 - intOf i).toNat)
  case atStart => exact ⟨0, by omega, rfl, Lib.hid (by omega), Lib.hid (by omega), Lib.hid (Keeps.refl _ _)⟩
  case round =>
    obtain ⟨k, hk, rfl, ha, hb, hkk⟩ := hrel
    rcases (show k = 0 ∨ k = 1 ∨ k = 2 by omega) with rfl | rfl | rfl
    · obtain ⟨d0, d1, d2, d3⟩ := HC.out _ hkk.out
      by_cases hwa : wrongD a = 0
      · rw [hwa] at HW1
        go_wp2_with (go_at_call 5; ((with_reducible refine (HW1.out _).mono ?_); rintro e w2 ⟨rfl, hk2⟩; have HK2 := Lib.hid hk2; clear hk2))
        go_roundw
        case measure => simp [intOf]
        case rel => exact ⟨1, by omega, by go_num, Lib.hid fun _ => hwa, Lib.hid (by omega), Lib.hid ((hkk.out.alloc _).trans HK2.out fun _ h => .inl h)⟩
      · have hr : rightW a b = wrongD a := if_pos hwa
        have hne : (wrongD a != 0) = true := by simp [hwa]
        go_wp2_with (go_at_call 5; ((with_reducible refine (HW1.out _).mono ?_); rintro e w2 ⟨rfl, hk2⟩; have HK2 := Lib.hid hk2; clear hk2))
        go_ret
        exact ⟨ret_int hr.symm, (hkk.out.alloc _).trans HK2.out fun _ h => .inl h⟩
    · obtain ⟨d0, d1, d2, d3⟩ := HC.out _ hkk.out
      have hwa := ha.out (by omega)
      by_cases hwb : wrongD b = 0
      · rw [hwb] at HW2
        go_wp2_with (go_at_call 5; ((with_reducible refine (HW2.out _).mono ?_); rintro e w2 ⟨rfl, hk2⟩; have HK2 := Lib.hid hk2; clear hk2))
        go_roundw
        case measure => simp [intOf]
        case rel => exact ⟨2, by omega, by go_num, Lib.hid fun _ => hwa, Lib.hid fun _ => hwb, Lib.hid ((hkk.out.alloc _).trans HK2.out fun _ h => .inl h)⟩
      · have hr : rightW a b = wrongD b := if_neg (by simpa using hwa)
        have hne : (wrongD b != 0) = true := by simp [hwb]
        go_wp2_with (go_at_call 5; ((with_reducible refine (HW2.out _).mono ?_); rintro e w2 ⟨rfl, hk2⟩; have HK2 := Lib.hid hk2; clear hk2))
        go_ret
        exact ⟨ret_int hr.symm, (hkk.out.alloc _).trans HK2.out fun _ h => .inl h⟩
    · have hwa := ha.out (by omega)
      have hwb := hb.out (by omega)
      have hr : rightW a b = 0 := by unfold rightW; rw [if_neg (by simpa using hwa), hwb]
      go_wp2_with fail
      go_ret
      exact ⟨ret_int hr.symm, hkk.out⟩

theorem units_len (d : DecV) (e : Int) (h : wrongD d = 0) (n : Nat) (he : d.exp - e = n) (hn : n ≤ 80) : (digs 18446744073709551616 (unitsD d e).natAbs).length ≤ 1000 := by
  have hc : d.coef.natAbs ≤ 999999999999999999 := by have := wrongD_zero h; omega
  refine Nat.le_trans (digs_length_le (by omega) 6 _ ?_) (by omega)
  unfold unitsD
  rw [he, Int.toNat_natCast, Int.natAbs_mul, Int.natAbs_pow]
  refine Nat.lt_of_le_of_lt (Nat.mul_le_mul hc (Nat.pow_le_pow_right (by decide) hn)) (by decide)

set_option maxRecDepth 100000 in
set_option maxHeartbeats 4000000 in
theorem decCmp_any {w : World} (ht : Thr w) (a b : DecV) :
    Calls Tryz.prog 6 #[.agg #[.int .i64 a.coef, .int .i64 a.exp], .agg #[.int .i64 b.coef, .int .i64 b.exp]] w fun e w' => e = .returned (.tuple #[.int .i64 (cmpE a b).1, .int .i64 (cmpE a b).2]) ∧ Keeps (fun _ => False) w w' := by
  obtain ⟨w1, hw1⟩ : ∃ w1, w.alloc (.cells #[.int .i64 a.coef, .int .i64 a.exp] 23) = w1 := ⟨_, rfl⟩
  obtain ⟨pa, hpa⟩ : ∃ pa, w.heap.size = pa := ⟨_, rfl⟩
  have ha1 : w1.heap[pa]? = some (.cells #[.int .i64 a.coef, .int .i64 a.exp] 23 (0, 0)) := by rw [← hw1, ← hpa]; exact heap_alloc_new _ _
  have hk1 : Keeps (fun _ => False) w w1 := by rw [← hw1]; exact (Keeps.refl _ _).alloc _
  obtain ⟨w2, hw2⟩ : ∃ w2, w1.alloc (.cells #[.int .i64 b.coef, .int .i64 b.exp] 23) = w2 := ⟨_, rfl⟩
  obtain ⟨pb, hpb⟩ : ∃ pb, w1.heap.size = pb := ⟨_, rfl⟩
  have hb2 : w2.heap[pb]? = some (.cells #[.int .i64 b.coef, .int .i64 b.exp] 23 (0, 0)) := by rw [← hw2, ← hpb]; exact heap_alloc_new _ _
  have hk2 : Keeps (fun _ => False) w1 w2 := by rw [← hw2]; exact (Keeps.refl _ _).alloc _
  have ha2 := hk2.blk ha1
  obtain ⟨w3, hw3⟩ : ∃ w3, w2.alloc (.cells #[.int .i64 a.coef, .int .i64 a.exp, .int .i64 b.coef, .int .i64 b.exp] 23) = w3 := ⟨_, rfl⟩
  obtain ⟨pc, hpc⟩ : ∃ pc, w2.heap.size = pc := ⟨_, rfl⟩
  have hc3 : w3.heap[pc]? = some (.cells #[.int .i64 a.coef, .int .i64 a.exp, .int .i64 b.coef, .int .i64 b.exp] 23 (0, 0)) := by rw [← hw3, ← hpc]; exact heap_alloc_new _ _
  have hk3 : Keeps (fun _ => False) w2 w3 := by rw [← hw3]; exact (Keeps.refl _ _).alloc _
  have HK := Lib.hid ((hk1.trans hk2 fun _ h => .inl h).trans hk3 fun _ h => .inl h)
  have ht3 := ht.later HK.out
  have hk23 : ∀ {W : World}, Keeps (fun _ => False) w3 W → Keeps (fun _ => False) w2 W := fun hk => hk3.trans hk fun _ h => .inl h
  have HC := Lib.hid (fun (W : World) (hk : Keeps (fun _ => False) w2 W) => (⟨cell_of_row W pa 0 _ _ _ (hk.blk ha2), cell_of_row W pa 1 _ _ _ (hk.blk ha2), cell_of_row W pb 0 _ _ _ (hk.blk hb2), cell_of_row W pb 1 _ _ _ (hk.blk hb2)⟩ : W.cell? ⟨pa, 0, none⟩ = some (.int .i64 a.coef) ∧ W.cell? ⟨pa, 1, none⟩ = some (.int .i64 a.exp) ∧ W.cell? ⟨pb, 0, none⟩ = some (.int .i64 b.coef) ∧ W.cell? ⟨pb, 1, none⟩ = some (.int .i64 b.exp)))
  have HR := Lib.hid (dright_any a b hc3)
  have HT := Lib.hid (fun (W : World) (hk : Keeps (fun _ => False) w3 W) => ht3.later hk)
  have HK3 := Lib.hid hk3
  obtain ⟨d0, d1, d2, d3⟩ := HC.out w2 (Keeps.refl _ _)
  have HPA := Lib.hid hpa; have HPB := Lib.hid hpb; have HHW1 := Lib.hid hw1; have HHW2 := Lib.hid hw2; have HHW3 := Lib.hid hw3; have HPC := Lib.hid hpc
  clear ha1 hk1 hb2 hk2 ha2 hc3 hk3 ht3 hk23 ht
  by_cases hwr : rightW a b = 0
  · have hwa : wrongD a = 0 := by
      rcases Decidable.em (wrongD a = 0) with h | h
      · exact h
      · unfold rightW at hwr; rw [if_pos h] at hwr; exact hwr
    have hwb : wrongD b = 0 := by
      unfold rightW at hwr; rw [if_neg (by simpa using hwa)] at hwr; exact hwr
    have he : cmpE a b = (cmpD a b, 0) := by unfold cmpE; rw [if_neg (by simpa using hwa), if_neg (by simpa using hwb)]
    have ha0 := wrongD_zero hwa
    have hb0 := wrongD_zero hwb
    rw [he]
    obtain ⟨m, hm⟩ : ∃ m, min a.exp b.exp = m := ⟨_, rfl⟩
    obtain ⟨n1, hn1⟩ : ∃ n1 : Nat, a.exp - m = n1 := ⟨(a.exp - m).toNat, by omega⟩
    obtain ⟨n2, hn2⟩ : ∃ n2 : Nat, b.exp - m = n2 := ⟨(b.exp - m).toNat, by omega⟩
    have HL := Lib.hid (units_len a m hwa n1 hn1 (by omega))
    have HU1 := Lib.hid (fun (W : World) (hk : Keeps (fun _ => False) w3 W) => units_any (HT.out W hk) a m n1 (by omega) (by omega) hn1 (by omega))
    have HU2 := Lib.hid (fun (W : World) (hk : Keeps (fun _ => False) w3 W) => units_any (HT.out W hk) b m n2 (by omega) (by omega) hn2 (by omega))
    have hcd : cmpD a b = cmpI (unitsD a m) (unitsD b m) := by rw [← hm]; rfl
    rw [hcd]
    rw [hwr] at HR
    have HM := Lib.hid hm
    clear he hwa hwb hwr hcd ha0 hb0 hn1 hn2 HT
    go_enter Tryz.func6, Tryz.ntmps6
    go_upto_region 5 with (go_at_call 8; ((with_reducible refine HR.out.mono ?_); rintro e w4 ⟨rfl, hk4⟩; have HK4 := Lib.hid hk4; clear d0 d1 d2 d3; obtain ⟨d0, d1, d2, d3⟩ := HC.out w4 (HK3.out.trans hk4 fun _ h => .inl h); clear hk4))
    have K4 := Lib.hid (show Keeps (fun _ => False) w3 { w4 with drawn := w4.drawn + 1 } from HK4.out.drew)
    refine Wg.wp_region_first (C := fun w' => Keeps (fun _ => False) w3 w') (by kernel_rfl) 6 ?_
    generalize { w4 with drawn := w4.drawn + 1 } = W at *
    apply Wg.wpAnyP_stays (by kernel_rfl) [0, 1, 3, 4] _ _ _ 5 _ K4.out (by kernel_rfl) ?hs ?hr
    case hs =>
      repeat (apply Wg.wpStays_step rfl rfl; (intro w' hw'; obtain ⟨d0, d1, d2, d3⟩ := HC.out w' (HK3.out.trans hw' fun _ h => .inl h); clear hw'; go_simp; exact ⟨rfl, rfl⟩); go_simp)
      exact rfl
    case hr =>
      apply Wg.wpAnyP_one (i := 2) (fuel := 4) (by kernel_rfl) rfl rfl
      go_simp
      refine Wg.plain_call (HU1.out W K4.out) ?_
      rintro e W1 ⟨p1, rfl, hg1, hk1, _⟩
      have A1 := Lib.hid (K4.out.trans hk1 fun _ h => .inl h)
      have G1 := Lib.hid hg1
      refine ⟨_, rfl, A1.out, ?_⟩
      clear hk1 hg1
      apply Wg.wpAnyP_one (i := 5) (fuel := 3) (by kernel_rfl) rfl rfl
      go_simp
      refine Wg.plain_call (HU2.out W1 A1.out) ?_
      rintro e W2 ⟨p2, rfl, hg2, hk2, hf2⟩
      have A2 := Lib.hid (A1.out.trans hk2 fun _ h => .inl h)
      have G2 := Lib.hid hg2
      have G3 := Lib.hid (G1.out.later hk2)
      have NE := Lib.hid (show p1 ≠ p2 by have := gint_lt G1.out; omega)
      refine ⟨_, rfl, A2.out, ?_⟩
      clear hk2 hg2 hf2
      apply Wg.wpAnyP_one (i := 6) (fuel := 2) (by kernel_rfl) rfl rfl
      go_simp
      refine Wg.plain_call (gCmp_any G3.out G2.out NE.out HL.out) ?_
      rintro e W3 ⟨rfl, q, rfl⟩
      have K9 := Lib.hid (A2.out.drewN q)
      refine ⟨_, rfl, trivial, ?_⟩
      apply Wg.wpAnyP_one (i := 7) (fuel := 1) (by kernel_rfl) rfl rfl
      go_simp
      refine ⟨trivial, ?_⟩
      apply Wg.wpAnyP_one (i := 8) (fuel := 0) (by kernel_rfl) rfl rfl
      go_simp
      refine ⟨trivial, by kernel_rfl, ?_⟩
      go_simp
      go_wp2_with fail
      go_ret2
      exact ⟨rfl, HK.out.trans K9.out fun _ h => .inl h⟩
  · have he : cmpE a b = (0, rightW a b) := by
      unfold cmpE rightW at *
      split
      · rfl
      · rename_i h
        rw [if_neg h] at hwr
        rw [if_pos hwr]
    rw [he]
    have hne : (rightW a b != 0) = true := by simp [hwr]
    clear he
    go_enter Tryz.func6, Tryz.ntmps6
    go_wp2_with (go_at_call 8; ((with_reducible refine HR.out.mono ?_); rintro e w4 ⟨rfl, hk4⟩; have HK4 := Lib.hid hk4; clear hk4))
    go_ret2
    exact ⟨rfl, HK.out.trans HK4.out fun _ h => .inl h⟩

end Go.Proofs.YthjokmfidhcclaaGreatDoor
