/- Package logic: And, Or, in halves. -/
import Derived.Test.YtnihfhfakadepaaGreatDoorXLogA
namespace Go.Proofs.YtnihfhfakadepaaGreatDoor
open Go.RowKit

set_option maxRecDepth 100000 in
set_option maxHeartbeats 8000000 in
theorem and_any {w : World} (h g : Int) (h0 : 0 ≤ h) (h2 : h ≤ 2) (g0 : 0 ≤ g) (g2 : g ≤ 2) : Hands 28 #[.agg (hC h), .agg (hC g)] w (hC (min h g)) := by
  unfold Hands
  obtain ⟨w0, e0⟩ : ∃ w0, w.alloc (.cells (hC h) 26) = w0 := ⟨_, rfl⟩
  obtain ⟨w1, e1⟩ : ∃ w1, w0.alloc (.cells (hC g) 26) = w1 := ⟨_, rfl⟩
  obtain ⟨w2, e2⟩ : ∃ w2, w1.alloc (.cells zero6 26) = w2 := ⟨_, rfl⟩
  obtain ⟨pa, ea⟩ : ∃ p, w.heap.size = p := ⟨_, rfl⟩
  obtain ⟨pb, eb⟩ : ∃ p, w0.heap.size = p := ⟨_, rfl⟩
  obtain ⟨p, ep⟩ : ∃ p, w1.heap.size = p := ⟨_, rfl⟩
  have k0 : Keeps (fun _ => False) w w0 := by rw [← e0]; exact (Keeps.refl _ _).alloc _
  have k1 : Keeps (fun _ => False) w0 w1 := by rw [← e1]; exact (Keeps.refl _ _).alloc _
  have k2 : Keeps (fun _ => False) w1 w2 := by rw [← e2]; exact (Keeps.refl _ _).alloc _
  have ba : w0.heap[pa]? = some (.cells (hC h) 26 (0, 0)) := by rw [← e0, ← ea]; exact heap_alloc_new _ _
  have bb : w1.heap[pb]? = some (.cells (hC g) 26 (0, 0)) := by rw [← e1, ← eb]; exact heap_alloc_new _ _
  have bp : w2.heap[p]? = some (.cells zero6 26 (0, 0)) := by rw [← e2, ← ep]; exact heap_alloc_new _ _
  have ba2 := k2.blk (k1.blk ba)
  have bb2 := k2.blk bb
  have HB := Lib.hid (fun (W : World) (hk : Keeps (fun _ => False) w2 W) => hk.blk bp)
  have HK2 := Lib.hid ((k0.trans k1 fun _ h => .inl h).trans k2 fun _ h => .inl h)
  have HPL := Lib.hid (show w.heap.size ≤ p by have := k0.size; have := k1.size; omega)
  have HTA := Lib.hid (fun W : World => truth_any (w := W) (hV h))
  have HTB := Lib.hid (fun W : World => truth_any (w := W) (hV g))
  rw [truth_hV h0 h2] at HTA
  rw [truth_hV g0 g2] at HTB
  have HO := Lib.hid (fun W : World => told_any (w := W) (min h g - 1) (by omega) (by omega))
  have HAA := Lib.hid (fun (W : World) (hk : Keeps (fun _ => False) w2 W) => hk.blk ba2)
  have HBB := Lib.hid (fun (W : World) (hk : Keeps (fun _ => False) w2 W) => hk.blk bb2)
  clear k0 k1 k2 ba bb bp ba2 bb2
  rcases (show h = 0 ∨ h = 1 ∨ h = 2 by omega) with rfl | rfl | rfl <;> rcases (show g = 0 ∨ g = 1 ∨ g = 2 by omega) with rfl | rfl | rfl
  · show Calls Tryz.prog 28 #[.agg #[.int .i64 2, .bool false, .int .i64 0, .int .i64 0, .string ⟨#[]⟩, .slice none 0 0], .agg #[.int .i64 2, .bool false, .int .i64 0, .int .i64 0, .string ⟨#[]⟩, .slice none 0 0]] w fun e w' => e = .returned (.agg #[.int .i64 2, .bool false, .int .i64 0, .int .i64 0, .string ⟨#[]⟩, .slice none 0 0]) ∧ Keeps (fun _ => False) w w'
    have HTA := Lib.hid (fun W : World => (show Calls Tryz.prog 44 #[.agg #[.int .i64 2, .bool false, .int .i64 0, .int .i64 0, .string ⟨#[]⟩, .slice none 0 0]] W fun e w' => e = .returned (.int .i64 (-1)) ∧ Keeps (fun _ => False) W w' from HTA.out W))
    have HTB := Lib.hid (fun W : World => (show Calls Tryz.prog 44 #[.agg #[.int .i64 2, .bool false, .int .i64 0, .int .i64 0, .string ⟨#[]⟩, .slice none 0 0]] W fun e w' => e = .returned (.int .i64 (-1)) ∧ Keeps (fun _ => False) W w' from HTB.out W))
    have HO := Lib.hid (fun W : World => (show Calls Tryz.prog 43 #[.int .i64 (-1)] W fun e w' => e = .returned (.agg #[.int .i64 2, .bool false, .int .i64 0, .int .i64 0, .string ⟨#[]⟩, .slice none 0 0]) ∧ Keeps (fun _ => False) W w' from HO.out W))
    replace e0 : w.alloc (.cells #[.int .i64 2, .bool false, .int .i64 0, .int .i64 0, .string ⟨#[]⟩, .slice none 0 0] 26) = w0 := e0
    replace e1 : w0.alloc (.cells #[.int .i64 2, .bool false, .int .i64 0, .int .i64 0, .string ⟨#[]⟩, .slice none 0 0] 26) = w1 := e1
    have HAA := Lib.hid (fun (W : World) (hk : Keeps (fun _ => False) w2 W) => cells6 (show W.heap[pa]? = some (.cells #[.int .i64 2, .bool false, .int .i64 0, .int .i64 0, .string ⟨#[]⟩, .slice none 0 0] 26 (0, 0)) from HAA.out W hk))
    have HBB := Lib.hid (fun (W : World) (hk : Keeps (fun _ => False) w2 W) => cells6 (show W.heap[pb]? = some (.cells #[.int .i64 2, .bool false, .int .i64 0, .int .i64 0, .string ⟨#[]⟩, .slice none 0 0] 26 (0, 0)) from HBB.out W hk))
    go_enter Tryz.func28, Tryz.ntmps28
    go_upto_region 1 with fail
    have KW := Lib.hid (show Keeps (fun _ => False) w2 { w2 with drawn := w2.drawn + 1 } from (Keeps.refl _ w2).drew)
    refine Wg.wp_region_first (C := fun w' => Keeps (fun _ => False) w2 w') (by kernel_rfl) 6 ?_
    generalize { w2 with drawn := w2.drawn + 1 } = W at *
    apply Wg.wpAnyP_stays (by kernel_rfl) [0, 2] _ _ _ 5 _ KW.out (by kernel_rfl) ?hs ?hr
    case hs =>
      repeat (apply Wg.wpStays_step rfl rfl; (intro w' hw'; obtain ⟨y0, y1, y2, y3, y4, y5, _⟩ := HAA.out w' hw'; obtain ⟨x0, x1, x2, x3, x4, x5, _⟩ := HBB.out w' hw'; clear hw'; go_simp; exact ⟨rfl, rfl⟩); go_simp)
      exact rfl
    case hr =>
      apply Wg.wpAnyP_one (i := 1) (fuel := 4) (by kernel_rfl) rfl rfl
      go_simp
      refine Wg.plain_call (HTA.out W) ?_
      rintro e W1 ⟨rfl, hk⟩
      have K1 := Lib.hid (KW.out.trans hk fun _ h => .inl h)
      refine ⟨_, rfl, K1.out, ?_⟩
      clear hk
      apply Wg.wpAnyP_one (i := 3) (fuel := 3) (by kernel_rfl) rfl rfl
      go_simp
      refine Wg.plain_call (HTB.out W1) ?_
      rintro e W2 ⟨rfl, hk⟩
      have K2 := Lib.hid (K1.out.trans hk fun _ h => .inl h)
      refine ⟨_, rfl, K2.out, ?_⟩
      clear hk
      apply Wg.wpAnyP_one (i := 4) (fuel := 2) (by kernel_rfl) rfl rfl
      go_simp
      refine ⟨K2.out, ?_⟩
      apply Wg.wpAnyP_one (i := 5) (fuel := 1) (by kernel_rfl) rfl rfl
      go_simp
      refine Wg.plain_call (HO.out W2) ?_
      rintro e W3 ⟨rfl, hk⟩
      have K3 := Lib.hid (K2.out.trans hk fun _ h => .inl h)
      refine ⟨_, rfl, K3.out, ?_⟩
      clear hk
      have hb3 := HB.out W3 K3.out
      obtain ⟨z0, z1, z2, z3, z4, z5, zf⟩ := cells6 hb3
      have zl := row_lt hb3
      obtain ⟨wf, hwf, hfb, hfk⟩ := put6 (v0 := .int .i64 2) (v1 := .bool false) (v2 := .int .i64 0) (v3 := .int .i64 0) (v4 := .string ⟨#[]⟩) (v5 := .slice none 0 0) hb3
      obtain ⟨q0, q1, q2, q3, q4, q5, qf⟩ := cells6 hfb
      apply Wg.wpAnyP_one (i := 6) (fuel := 0) (by kernel_rfl) rfl rfl
      go_simp
      refine ⟨trivial, by kernel_rfl, ?_⟩
      go_simp
      go_wp2_with fail
      (try simp only [Exit.inBlock, Exit.then])
      refine bodyPost_ret (v := .agg #[.int .i64 2, .bool false, .int .i64 0, .int .i64 0, .string ⟨#[]⟩, .slice none 0 0]) (by simp [results, Tryz.results28, go_sem, q0, q1, q2, q3, q4, q5]) rfl ?_
      exact ⟨rfl, (HK2.out.trans K3.out fun _ h => .inl h).trans hfk fun k e => .inr (by have := HPL.out; omega)⟩
  · show Calls Tryz.prog 28 #[.agg #[.int .i64 2, .bool false, .int .i64 0, .int .i64 0, .string ⟨#[]⟩, .slice none 0 0], .agg #[.int .i64 1, .bool false, .int .i64 0, .int .i64 0, .string ⟨#[]⟩, .slice none 0 0]] w fun e w' => e = .returned (.agg #[.int .i64 2, .bool false, .int .i64 0, .int .i64 0, .string ⟨#[]⟩, .slice none 0 0]) ∧ Keeps (fun _ => False) w w'
    have HTA := Lib.hid (fun W : World => (show Calls Tryz.prog 44 #[.agg #[.int .i64 2, .bool false, .int .i64 0, .int .i64 0, .string ⟨#[]⟩, .slice none 0 0]] W fun e w' => e = .returned (.int .i64 (-1)) ∧ Keeps (fun _ => False) W w' from HTA.out W))
    have HTB := Lib.hid (fun W : World => (show Calls Tryz.prog 44 #[.agg #[.int .i64 1, .bool false, .int .i64 0, .int .i64 0, .string ⟨#[]⟩, .slice none 0 0]] W fun e w' => e = .returned (.int .i64 (0)) ∧ Keeps (fun _ => False) W w' from HTB.out W))
    have HO := Lib.hid (fun W : World => (show Calls Tryz.prog 43 #[.int .i64 (-1)] W fun e w' => e = .returned (.agg #[.int .i64 2, .bool false, .int .i64 0, .int .i64 0, .string ⟨#[]⟩, .slice none 0 0]) ∧ Keeps (fun _ => False) W w' from HO.out W))
    replace e0 : w.alloc (.cells #[.int .i64 2, .bool false, .int .i64 0, .int .i64 0, .string ⟨#[]⟩, .slice none 0 0] 26) = w0 := e0
    replace e1 : w0.alloc (.cells #[.int .i64 1, .bool false, .int .i64 0, .int .i64 0, .string ⟨#[]⟩, .slice none 0 0] 26) = w1 := e1
    have HAA := Lib.hid (fun (W : World) (hk : Keeps (fun _ => False) w2 W) => cells6 (show W.heap[pa]? = some (.cells #[.int .i64 2, .bool false, .int .i64 0, .int .i64 0, .string ⟨#[]⟩, .slice none 0 0] 26 (0, 0)) from HAA.out W hk))
    have HBB := Lib.hid (fun (W : World) (hk : Keeps (fun _ => False) w2 W) => cells6 (show W.heap[pb]? = some (.cells #[.int .i64 1, .bool false, .int .i64 0, .int .i64 0, .string ⟨#[]⟩, .slice none 0 0] 26 (0, 0)) from HBB.out W hk))
    go_enter Tryz.func28, Tryz.ntmps28
    go_upto_region 1 with fail
    have KW := Lib.hid (show Keeps (fun _ => False) w2 { w2 with drawn := w2.drawn + 1 } from (Keeps.refl _ w2).drew)
    refine Wg.wp_region_first (C := fun w' => Keeps (fun _ => False) w2 w') (by kernel_rfl) 6 ?_
    generalize { w2 with drawn := w2.drawn + 1 } = W at *
    apply Wg.wpAnyP_stays (by kernel_rfl) [0, 2] _ _ _ 5 _ KW.out (by kernel_rfl) ?hs ?hr
    case hs =>
      repeat (apply Wg.wpStays_step rfl rfl; (intro w' hw'; obtain ⟨y0, y1, y2, y3, y4, y5, _⟩ := HAA.out w' hw'; obtain ⟨x0, x1, x2, x3, x4, x5, _⟩ := HBB.out w' hw'; clear hw'; go_simp; exact ⟨rfl, rfl⟩); go_simp)
      exact rfl
    case hr =>
      apply Wg.wpAnyP_one (i := 1) (fuel := 4) (by kernel_rfl) rfl rfl
      go_simp
      refine Wg.plain_call (HTA.out W) ?_
      rintro e W1 ⟨rfl, hk⟩
      have K1 := Lib.hid (KW.out.trans hk fun _ h => .inl h)
      refine ⟨_, rfl, K1.out, ?_⟩
      clear hk
      apply Wg.wpAnyP_one (i := 3) (fuel := 3) (by kernel_rfl) rfl rfl
      go_simp
      refine Wg.plain_call (HTB.out W1) ?_
      rintro e W2 ⟨rfl, hk⟩
      have K2 := Lib.hid (K1.out.trans hk fun _ h => .inl h)
      refine ⟨_, rfl, K2.out, ?_⟩
      clear hk
      apply Wg.wpAnyP_one (i := 4) (fuel := 2) (by kernel_rfl) rfl rfl
      go_simp
      refine ⟨K2.out, ?_⟩
      apply Wg.wpAnyP_one (i := 5) (fuel := 1) (by kernel_rfl) rfl rfl
      go_simp
      refine Wg.plain_call (HO.out W2) ?_
      rintro e W3 ⟨rfl, hk⟩
      have K3 := Lib.hid (K2.out.trans hk fun _ h => .inl h)
      refine ⟨_, rfl, K3.out, ?_⟩
      clear hk
      have hb3 := HB.out W3 K3.out
      obtain ⟨z0, z1, z2, z3, z4, z5, zf⟩ := cells6 hb3
      have zl := row_lt hb3
      obtain ⟨wf, hwf, hfb, hfk⟩ := put6 (v0 := .int .i64 2) (v1 := .bool false) (v2 := .int .i64 0) (v3 := .int .i64 0) (v4 := .string ⟨#[]⟩) (v5 := .slice none 0 0) hb3
      obtain ⟨q0, q1, q2, q3, q4, q5, qf⟩ := cells6 hfb
      apply Wg.wpAnyP_one (i := 6) (fuel := 0) (by kernel_rfl) rfl rfl
      go_simp
      refine ⟨trivial, by kernel_rfl, ?_⟩
      go_simp
      go_wp2_with fail
      (try simp only [Exit.inBlock, Exit.then])
      refine bodyPost_ret (v := .agg #[.int .i64 2, .bool false, .int .i64 0, .int .i64 0, .string ⟨#[]⟩, .slice none 0 0]) (by simp [results, Tryz.results28, go_sem, q0, q1, q2, q3, q4, q5]) rfl ?_
      exact ⟨rfl, (HK2.out.trans K3.out fun _ h => .inl h).trans hfk fun k e => .inr (by have := HPL.out; omega)⟩
  · show Calls Tryz.prog 28 #[.agg #[.int .i64 2, .bool false, .int .i64 0, .int .i64 0, .string ⟨#[]⟩, .slice none 0 0], .agg #[.int .i64 2, .bool true, .int .i64 0, .int .i64 0, .string ⟨#[]⟩, .slice none 0 0]] w fun e w' => e = .returned (.agg #[.int .i64 2, .bool false, .int .i64 0, .int .i64 0, .string ⟨#[]⟩, .slice none 0 0]) ∧ Keeps (fun _ => False) w w'
    have HTA := Lib.hid (fun W : World => (show Calls Tryz.prog 44 #[.agg #[.int .i64 2, .bool false, .int .i64 0, .int .i64 0, .string ⟨#[]⟩, .slice none 0 0]] W fun e w' => e = .returned (.int .i64 (-1)) ∧ Keeps (fun _ => False) W w' from HTA.out W))
    have HTB := Lib.hid (fun W : World => (show Calls Tryz.prog 44 #[.agg #[.int .i64 2, .bool true, .int .i64 0, .int .i64 0, .string ⟨#[]⟩, .slice none 0 0]] W fun e w' => e = .returned (.int .i64 (1)) ∧ Keeps (fun _ => False) W w' from HTB.out W))
    have HO := Lib.hid (fun W : World => (show Calls Tryz.prog 43 #[.int .i64 (-1)] W fun e w' => e = .returned (.agg #[.int .i64 2, .bool false, .int .i64 0, .int .i64 0, .string ⟨#[]⟩, .slice none 0 0]) ∧ Keeps (fun _ => False) W w' from HO.out W))
    replace e0 : w.alloc (.cells #[.int .i64 2, .bool false, .int .i64 0, .int .i64 0, .string ⟨#[]⟩, .slice none 0 0] 26) = w0 := e0
    replace e1 : w0.alloc (.cells #[.int .i64 2, .bool true, .int .i64 0, .int .i64 0, .string ⟨#[]⟩, .slice none 0 0] 26) = w1 := e1
    have HAA := Lib.hid (fun (W : World) (hk : Keeps (fun _ => False) w2 W) => cells6 (show W.heap[pa]? = some (.cells #[.int .i64 2, .bool false, .int .i64 0, .int .i64 0, .string ⟨#[]⟩, .slice none 0 0] 26 (0, 0)) from HAA.out W hk))
    have HBB := Lib.hid (fun (W : World) (hk : Keeps (fun _ => False) w2 W) => cells6 (show W.heap[pb]? = some (.cells #[.int .i64 2, .bool true, .int .i64 0, .int .i64 0, .string ⟨#[]⟩, .slice none 0 0] 26 (0, 0)) from HBB.out W hk))
    go_enter Tryz.func28, Tryz.ntmps28
    go_upto_region 1 with fail
    have KW := Lib.hid (show Keeps (fun _ => False) w2 { w2 with drawn := w2.drawn + 1 } from (Keeps.refl _ w2).drew)
    refine Wg.wp_region_first (C := fun w' => Keeps (fun _ => False) w2 w') (by kernel_rfl) 6 ?_
    generalize { w2 with drawn := w2.drawn + 1 } = W at *
    apply Wg.wpAnyP_stays (by kernel_rfl) [0, 2] _ _ _ 5 _ KW.out (by kernel_rfl) ?hs ?hr
    case hs =>
      repeat (apply Wg.wpStays_step rfl rfl; (intro w' hw'; obtain ⟨y0, y1, y2, y3, y4, y5, _⟩ := HAA.out w' hw'; obtain ⟨x0, x1, x2, x3, x4, x5, _⟩ := HBB.out w' hw'; clear hw'; go_simp; exact ⟨rfl, rfl⟩); go_simp)
      exact rfl
    case hr =>
      apply Wg.wpAnyP_one (i := 1) (fuel := 4) (by kernel_rfl) rfl rfl
      go_simp
      refine Wg.plain_call (HTA.out W) ?_
      rintro e W1 ⟨rfl, hk⟩
      have K1 := Lib.hid (KW.out.trans hk fun _ h => .inl h)
      refine ⟨_, rfl, K1.out, ?_⟩
      clear hk
      apply Wg.wpAnyP_one (i := 3) (fuel := 3) (by kernel_rfl) rfl rfl
      go_simp
      refine Wg.plain_call (HTB.out W1) ?_
      rintro e W2 ⟨rfl, hk⟩
      have K2 := Lib.hid (K1.out.trans hk fun _ h => .inl h)
      refine ⟨_, rfl, K2.out, ?_⟩
      clear hk
      apply Wg.wpAnyP_one (i := 4) (fuel := 2) (by kernel_rfl) rfl rfl
      go_simp
      refine ⟨K2.out, ?_⟩
      apply Wg.wpAnyP_one (i := 5) (fuel := 1) (by kernel_rfl) rfl rfl
      go_simp
      refine Wg.plain_call (HO.out W2) ?_
      rintro e W3 ⟨rfl, hk⟩
      have K3 := Lib.hid (K2.out.trans hk fun _ h => .inl h)
      refine ⟨_, rfl, K3.out, ?_⟩
      clear hk
      have hb3 := HB.out W3 K3.out
      obtain ⟨z0, z1, z2, z3, z4, z5, zf⟩ := cells6 hb3
      have zl := row_lt hb3
      obtain ⟨wf, hwf, hfb, hfk⟩ := put6 (v0 := .int .i64 2) (v1 := .bool false) (v2 := .int .i64 0) (v3 := .int .i64 0) (v4 := .string ⟨#[]⟩) (v5 := .slice none 0 0) hb3
      obtain ⟨q0, q1, q2, q3, q4, q5, qf⟩ := cells6 hfb
      apply Wg.wpAnyP_one (i := 6) (fuel := 0) (by kernel_rfl) rfl rfl
      go_simp
      refine ⟨trivial, by kernel_rfl, ?_⟩
      go_simp
      go_wp2_with fail
      (try simp only [Exit.inBlock, Exit.then])
      refine bodyPost_ret (v := .agg #[.int .i64 2, .bool false, .int .i64 0, .int .i64 0, .string ⟨#[]⟩, .slice none 0 0]) (by simp [results, Tryz.results28, go_sem, q0, q1, q2, q3, q4, q5]) rfl ?_
      exact ⟨rfl, (HK2.out.trans K3.out fun _ h => .inl h).trans hfk fun k e => .inr (by have := HPL.out; omega)⟩
  · show Calls Tryz.prog 28 #[.agg #[.int .i64 1, .bool false, .int .i64 0, .int .i64 0, .string ⟨#[]⟩, .slice none 0 0], .agg #[.int .i64 2, .bool false, .int .i64 0, .int .i64 0, .string ⟨#[]⟩, .slice none 0 0]] w fun e w' => e = .returned (.agg #[.int .i64 2, .bool false, .int .i64 0, .int .i64 0, .string ⟨#[]⟩, .slice none 0 0]) ∧ Keeps (fun _ => False) w w'
    have HTA := Lib.hid (fun W : World => (show Calls Tryz.prog 44 #[.agg #[.int .i64 1, .bool false, .int .i64 0, .int .i64 0, .string ⟨#[]⟩, .slice none 0 0]] W fun e w' => e = .returned (.int .i64 (0)) ∧ Keeps (fun _ => False) W w' from HTA.out W))
    have HTB := Lib.hid (fun W : World => (show Calls Tryz.prog 44 #[.agg #[.int .i64 2, .bool false, .int .i64 0, .int .i64 0, .string ⟨#[]⟩, .slice none 0 0]] W fun e w' => e = .returned (.int .i64 (-1)) ∧ Keeps (fun _ => False) W w' from HTB.out W))
    have HO := Lib.hid (fun W : World => (show Calls Tryz.prog 43 #[.int .i64 (-1)] W fun e w' => e = .returned (.agg #[.int .i64 2, .bool false, .int .i64 0, .int .i64 0, .string ⟨#[]⟩, .slice none 0 0]) ∧ Keeps (fun _ => False) W w' from HO.out W))
    replace e0 : w.alloc (.cells #[.int .i64 1, .bool false, .int .i64 0, .int .i64 0, .string ⟨#[]⟩, .slice none 0 0] 26) = w0 := e0
    replace e1 : w0.alloc (.cells #[.int .i64 2, .bool false, .int .i64 0, .int .i64 0, .string ⟨#[]⟩, .slice none 0 0] 26) = w1 := e1
    have HAA := Lib.hid (fun (W : World) (hk : Keeps (fun _ => False) w2 W) => cells6 (show W.heap[pa]? = some (.cells #[.int .i64 1, .bool false, .int .i64 0, .int .i64 0, .string ⟨#[]⟩, .slice none 0 0] 26 (0, 0)) from HAA.out W hk))
    have HBB := Lib.hid (fun (W : World) (hk : Keeps (fun _ => False) w2 W) => cells6 (show W.heap[pb]? = some (.cells #[.int .i64 2, .bool false, .int .i64 0, .int .i64 0, .string ⟨#[]⟩, .slice none 0 0] 26 (0, 0)) from HBB.out W hk))
    go_enter Tryz.func28, Tryz.ntmps28
    go_upto_region 1 with fail
    have KW := Lib.hid (show Keeps (fun _ => False) w2 { w2 with drawn := w2.drawn + 1 } from (Keeps.refl _ w2).drew)
    refine Wg.wp_region_first (C := fun w' => Keeps (fun _ => False) w2 w') (by kernel_rfl) 6 ?_
    generalize { w2 with drawn := w2.drawn + 1 } = W at *
    apply Wg.wpAnyP_stays (by kernel_rfl) [0, 2] _ _ _ 5 _ KW.out (by kernel_rfl) ?hs ?hr
    case hs =>
      repeat (apply Wg.wpStays_step rfl rfl; (intro w' hw'; obtain ⟨y0, y1, y2, y3, y4, y5, _⟩ := HAA.out w' hw'; obtain ⟨x0, x1, x2, x3, x4, x5, _⟩ := HBB.out w' hw'; clear hw'; go_simp; exact ⟨rfl, rfl⟩); go_simp)
      exact rfl
    case hr =>
      apply Wg.wpAnyP_one (i := 1) (fuel := 4) (by kernel_rfl) rfl rfl
      go_simp
      refine Wg.plain_call (HTA.out W) ?_
      rintro e W1 ⟨rfl, hk⟩
      have K1 := Lib.hid (KW.out.trans hk fun _ h => .inl h)
      refine ⟨_, rfl, K1.out, ?_⟩
      clear hk
      apply Wg.wpAnyP_one (i := 3) (fuel := 3) (by kernel_rfl) rfl rfl
      go_simp
      refine Wg.plain_call (HTB.out W1) ?_
      rintro e W2 ⟨rfl, hk⟩
      have K2 := Lib.hid (K1.out.trans hk fun _ h => .inl h)
      refine ⟨_, rfl, K2.out, ?_⟩
      clear hk
      apply Wg.wpAnyP_one (i := 4) (fuel := 2) (by kernel_rfl) rfl rfl
      go_simp
      refine ⟨K2.out, ?_⟩
      apply Wg.wpAnyP_one (i := 5) (fuel := 1) (by kernel_rfl) rfl rfl
      go_simp
      refine Wg.plain_call (HO.out W2) ?_
      rintro e W3 ⟨rfl, hk⟩
      have K3 := Lib.hid (K2.out.trans hk fun _ h => .inl h)
      refine ⟨_, rfl, K3.out, ?_⟩
      clear hk
      have hb3 := HB.out W3 K3.out
      obtain ⟨z0, z1, z2, z3, z4, z5, zf⟩ := cells6 hb3
      have zl := row_lt hb3
      obtain ⟨wf, hwf, hfb, hfk⟩ := put6 (v0 := .int .i64 2) (v1 := .bool false) (v2 := .int .i64 0) (v3 := .int .i64 0) (v4 := .string ⟨#[]⟩) (v5 := .slice none 0 0) hb3
      obtain ⟨q0, q1, q2, q3, q4, q5, qf⟩ := cells6 hfb
      apply Wg.wpAnyP_one (i := 6) (fuel := 0) (by kernel_rfl) rfl rfl
      go_simp
      refine ⟨trivial, by kernel_rfl, ?_⟩
      go_simp
      go_wp2_with fail
      (try simp only [Exit.inBlock, Exit.then])
      refine bodyPost_ret (v := .agg #[.int .i64 2, .bool false, .int .i64 0, .int .i64 0, .string ⟨#[]⟩, .slice none 0 0]) (by simp [results, Tryz.results28, go_sem, q0, q1, q2, q3, q4, q5]) rfl ?_
      exact ⟨rfl, (HK2.out.trans K3.out fun _ h => .inl h).trans hfk fun k e => .inr (by have := HPL.out; omega)⟩
  · show Calls Tryz.prog 28 #[.agg #[.int .i64 1, .bool false, .int .i64 0, .int .i64 0, .string ⟨#[]⟩, .slice none 0 0], .agg #[.int .i64 1, .bool false, .int .i64 0, .int .i64 0, .string ⟨#[]⟩, .slice none 0 0]] w fun e w' => e = .returned (.agg #[.int .i64 1, .bool false, .int .i64 0, .int .i64 0, .string ⟨#[]⟩, .slice none 0 0]) ∧ Keeps (fun _ => False) w w'
    have HTA := Lib.hid (fun W : World => (show Calls Tryz.prog 44 #[.agg #[.int .i64 1, .bool false, .int .i64 0, .int .i64 0, .string ⟨#[]⟩, .slice none 0 0]] W fun e w' => e = .returned (.int .i64 (0)) ∧ Keeps (fun _ => False) W w' from HTA.out W))
    have HTB := Lib.hid (fun W : World => (show Calls Tryz.prog 44 #[.agg #[.int .i64 1, .bool false, .int .i64 0, .int .i64 0, .string ⟨#[]⟩, .slice none 0 0]] W fun e w' => e = .returned (.int .i64 (0)) ∧ Keeps (fun _ => False) W w' from HTB.out W))
    have HO := Lib.hid (fun W : World => (show Calls Tryz.prog 43 #[.int .i64 (0)] W fun e w' => e = .returned (.agg #[.int .i64 1, .bool false, .int .i64 0, .int .i64 0, .string ⟨#[]⟩, .slice none 0 0]) ∧ Keeps (fun _ => False) W w' from HO.out W))
    replace e0 : w.alloc (.cells #[.int .i64 1, .bool false, .int .i64 0, .int .i64 0, .string ⟨#[]⟩, .slice none 0 0] 26) = w0 := e0
    replace e1 : w0.alloc (.cells #[.int .i64 1, .bool false, .int .i64 0, .int .i64 0, .string ⟨#[]⟩, .slice none 0 0] 26) = w1 := e1
    have HAA := Lib.hid (fun (W : World) (hk : Keeps (fun _ => False) w2 W) => cells6 (show W.heap[pa]? = some (.cells #[.int .i64 1, .bool false, .int .i64 0, .int .i64 0, .string ⟨#[]⟩, .slice none 0 0] 26 (0, 0)) from HAA.out W hk))
    have HBB := Lib.hid (fun (W : World) (hk : Keeps (fun _ => False) w2 W) => cells6 (show W.heap[pb]? = some (.cells #[.int .i64 1, .bool false, .int .i64 0, .int .i64 0, .string ⟨#[]⟩, .slice none 0 0] 26 (0, 0)) from HBB.out W hk))
    go_enter Tryz.func28, Tryz.ntmps28
    go_upto_region 1 with fail
    have KW := Lib.hid (show Keeps (fun _ => False) w2 { w2 with drawn := w2.drawn + 1 } from (Keeps.refl _ w2).drew)
    refine Wg.wp_region_first (C := fun w' => Keeps (fun _ => False) w2 w') (by kernel_rfl) 6 ?_
    generalize { w2 with drawn := w2.drawn + 1 } = W at *
    apply Wg.wpAnyP_stays (by kernel_rfl) [0, 2] _ _ _ 5 _ KW.out (by kernel_rfl) ?hs ?hr
    case hs =>
      repeat (apply Wg.wpStays_step rfl rfl; (intro w' hw'; obtain ⟨y0, y1, y2, y3, y4, y5, _⟩ := HAA.out w' hw'; obtain ⟨x0, x1, x2, x3, x4, x5, _⟩ := HBB.out w' hw'; clear hw'; go_simp; exact ⟨rfl, rfl⟩); go_simp)
      exact rfl
    case hr =>
      apply Wg.wpAnyP_one (i := 1) (fuel := 4) (by kernel_rfl) rfl rfl
      go_simp
      refine Wg.plain_call (HTA.out W) ?_
      rintro e W1 ⟨rfl, hk⟩
      have K1 := Lib.hid (KW.out.trans hk fun _ h => .inl h)
      refine ⟨_, rfl, K1.out, ?_⟩
      clear hk
      apply Wg.wpAnyP_one (i := 3) (fuel := 3) (by kernel_rfl) rfl rfl
      go_simp
      refine Wg.plain_call (HTB.out W1) ?_
      rintro e W2 ⟨rfl, hk⟩
      have K2 := Lib.hid (K1.out.trans hk fun _ h => .inl h)
      refine ⟨_, rfl, K2.out, ?_⟩
      clear hk
      apply Wg.wpAnyP_one (i := 4) (fuel := 2) (by kernel_rfl) rfl rfl
      go_simp
      refine ⟨K2.out, ?_⟩
      apply Wg.wpAnyP_one (i := 5) (fuel := 1) (by kernel_rfl) rfl rfl
      go_simp
      refine Wg.plain_call (HO.out W2) ?_
      rintro e W3 ⟨rfl, hk⟩
      have K3 := Lib.hid (K2.out.trans hk fun _ h => .inl h)
      refine ⟨_, rfl, K3.out, ?_⟩
      clear hk
      have hb3 := HB.out W3 K3.out
      obtain ⟨z0, z1, z2, z3, z4, z5, zf⟩ := cells6 hb3
      have zl := row_lt hb3
      obtain ⟨wf, hwf, hfb, hfk⟩ := put6 (v0 := .int .i64 1) (v1 := .bool false) (v2 := .int .i64 0) (v3 := .int .i64 0) (v4 := .string ⟨#[]⟩) (v5 := .slice none 0 0) hb3
      obtain ⟨q0, q1, q2, q3, q4, q5, qf⟩ := cells6 hfb
      apply Wg.wpAnyP_one (i := 6) (fuel := 0) (by kernel_rfl) rfl rfl
      go_simp
      refine ⟨trivial, by kernel_rfl, ?_⟩
      go_simp
      go_wp2_with fail
      (try simp only [Exit.inBlock, Exit.then])
      refine bodyPost_ret (v := .agg #[.int .i64 1, .bool false, .int .i64 0, .int .i64 0, .string ⟨#[]⟩, .slice none 0 0]) (by simp [results, Tryz.results28, go_sem, q0, q1, q2, q3, q4, q5]) rfl ?_
      exact ⟨rfl, (HK2.out.trans K3.out fun _ h => .inl h).trans hfk fun k e => .inr (by have := HPL.out; omega)⟩
  · show Calls Tryz.prog 28 #[.agg #[.int .i64 1, .bool false, .int .i64 0, .int .i64 0, .string ⟨#[]⟩, .slice none 0 0], .agg #[.int .i64 2, .bool true, .int .i64 0, .int .i64 0, .string ⟨#[]⟩, .slice none 0 0]] w fun e w' => e = .returned (.agg #[.int .i64 1, .bool false, .int .i64 0, .int .i64 0, .string ⟨#[]⟩, .slice none 0 0]) ∧ Keeps (fun _ => False) w w'
    have HTA := Lib.hid (fun W : World => (show Calls Tryz.prog 44 #[.agg #[.int .i64 1, .bool false, .int .i64 0, .int .i64 0, .string ⟨#[]⟩, .slice none 0 0]] W fun e w' => e = .returned (.int .i64 (0)) ∧ Keeps (fun _ => False) W w' from HTA.out W))
    have HTB := Lib.hid (fun W : World => (show Calls Tryz.prog 44 #[.agg #[.int .i64 2, .bool true, .int .i64 0, .int .i64 0, .string ⟨#[]⟩, .slice none 0 0]] W fun e w' => e = .returned (.int .i64 (1)) ∧ Keeps (fun _ => False) W w' from HTB.out W))
    have HO := Lib.hid (fun W : World => (show Calls Tryz.prog 43 #[.int .i64 (0)] W fun e w' => e = .returned (.agg #[.int .i64 1, .bool false, .int .i64 0, .int .i64 0, .string ⟨#[]⟩, .slice none 0 0]) ∧ Keeps (fun _ => False) W w' from HO.out W))
    replace e0 : w.alloc (.cells #[.int .i64 1, .bool false, .int .i64 0, .int .i64 0, .string ⟨#[]⟩, .slice none 0 0] 26) = w0 := e0
    replace e1 : w0.alloc (.cells #[.int .i64 2, .bool true, .int .i64 0, .int .i64 0, .string ⟨#[]⟩, .slice none 0 0] 26) = w1 := e1
    have HAA := Lib.hid (fun (W : World) (hk : Keeps (fun _ => False) w2 W) => cells6 (show W.heap[pa]? = some (.cells #[.int .i64 1, .bool false, .int .i64 0, .int .i64 0, .string ⟨#[]⟩, .slice none 0 0] 26 (0, 0)) from HAA.out W hk))
    have HBB := Lib.hid (fun (W : World) (hk : Keeps (fun _ => False) w2 W) => cells6 (show W.heap[pb]? = some (.cells #[.int .i64 2, .bool true, .int .i64 0, .int .i64 0, .string ⟨#[]⟩, .slice none 0 0] 26 (0, 0)) from HBB.out W hk))
    go_enter Tryz.func28, Tryz.ntmps28
    go_upto_region 1 with fail
    have KW := Lib.hid (show Keeps (fun _ => False) w2 { w2 with drawn := w2.drawn + 1 } from (Keeps.refl _ w2).drew)
    refine Wg.wp_region_first (C := fun w' => Keeps (fun _ => False) w2 w') (by kernel_rfl) 6 ?_
    generalize { w2 with drawn := w2.drawn + 1 } = W at *
    apply Wg.wpAnyP_stays (by kernel_rfl) [0, 2] _ _ _ 5 _ KW.out (by kernel_rfl) ?hs ?hr
    case hs =>
      repeat (apply Wg.wpStays_step rfl rfl; (intro w' hw'; obtain ⟨y0, y1, y2, y3, y4, y5, _⟩ := HAA.out w' hw'; obtain ⟨x0, x1, x2, x3, x4, x5, _⟩ := HBB.out w' hw'; clear hw'; go_simp; exact ⟨rfl, rfl⟩); go_simp)
      exact rfl
    case hr =>
      apply Wg.wpAnyP_one (i := 1) (fuel := 4) (by kernel_rfl) rfl rfl
      go_simp
      refine Wg.plain_call (HTA.out W) ?_
      rintro e W1 ⟨rfl, hk⟩
      have K1 := Lib.hid (KW.out.trans hk fun _ h => .inl h)
      refine ⟨_, rfl, K1.out, ?_⟩
      clear hk
      apply Wg.wpAnyP_one (i := 3) (fuel := 3) (by kernel_rfl) rfl rfl
      go_simp
      refine Wg.plain_call (HTB.out W1) ?_
      rintro e W2 ⟨rfl, hk⟩
      have K2 := Lib.hid (K1.out.trans hk fun _ h => .inl h)
      refine ⟨_, rfl, K2.out, ?_⟩
      clear hk
      apply Wg.wpAnyP_one (i := 4) (fuel := 2) (by kernel_rfl) rfl rfl
      go_simp
      refine ⟨K2.out, ?_⟩
      apply Wg.wpAnyP_one (i := 5) (fuel := 1) (by kernel_rfl) rfl rfl
      go_simp
      refine Wg.plain_call (HO.out W2) ?_
      rintro e W3 ⟨rfl, hk⟩
      have K3 := Lib.hid (K2.out.trans hk fun _ h => .inl h)
      refine ⟨_, rfl, K3.out, ?_⟩
      clear hk
      have hb3 := HB.out W3 K3.out
      obtain ⟨z0, z1, z2, z3, z4, z5, zf⟩ := cells6 hb3
      have zl := row_lt hb3
      obtain ⟨wf, hwf, hfb, hfk⟩ := put6 (v0 := .int .i64 1) (v1 := .bool false) (v2 := .int .i64 0) (v3 := .int .i64 0) (v4 := .string ⟨#[]⟩) (v5 := .slice none 0 0) hb3
      obtain ⟨q0, q1, q2, q3, q4, q5, qf⟩ := cells6 hfb
      apply Wg.wpAnyP_one (i := 6) (fuel := 0) (by kernel_rfl) rfl rfl
      go_simp
      refine ⟨trivial, by kernel_rfl, ?_⟩
      go_simp
      go_wp2_with fail
      (try simp only [Exit.inBlock, Exit.then])
      refine bodyPost_ret (v := .agg #[.int .i64 1, .bool false, .int .i64 0, .int .i64 0, .string ⟨#[]⟩, .slice none 0 0]) (by simp [results, Tryz.results28, go_sem, q0, q1, q2, q3, q4, q5]) rfl ?_
      exact ⟨rfl, (HK2.out.trans K3.out fun _ h => .inl h).trans hfk fun k e => .inr (by have := HPL.out; omega)⟩
  · show Calls Tryz.prog 28 #[.agg #[.int .i64 2, .bool true, .int .i64 0, .int .i64 0, .string ⟨#[]⟩, .slice none 0 0], .agg #[.int .i64 2, .bool false, .int .i64 0, .int .i64 0, .string ⟨#[]⟩, .slice none 0 0]] w fun e w' => e = .returned (.agg #[.int .i64 2, .bool false, .int .i64 0, .int .i64 0, .string ⟨#[]⟩, .slice none 0 0]) ∧ Keeps (fun _ => False) w w'
    have HTA := Lib.hid (fun W : World => (show Calls Tryz.prog 44 #[.agg #[.int .i64 2, .bool true, .int .i64 0, .int .i64 0, .string ⟨#[]⟩, .slice none 0 0]] W fun e w' => e = .returned (.int .i64 (1)) ∧ Keeps (fun _ => False) W w' from HTA.out W))
    have HTB := Lib.hid (fun W : World => (show Calls Tryz.prog 44 #[.agg #[.int .i64 2, .bool false, .int .i64 0, .int .i64 0, .string ⟨#[]⟩, .slice none 0 0]] W fun e w' => e = .returned (.int .i64 (-1)) ∧ Keeps (fun _ => False) W w' from HTB.out W))
    have HO := Lib.hid (fun W : World => (show Calls Tryz.prog 43 #[.int .i64 (-1)] W fun e w' => e = .returned (.agg #[.int .i64 2, .bool false, .int .i64 0, .int .i64 0, .string ⟨#[]⟩, .slice none 0 0]) ∧ Keeps (fun _ => False) W w' from HO.out W))
    replace e0 : w.alloc (.cells #[.int .i64 2, .bool true, .int .i64 0, .int .i64 0, .string ⟨#[]⟩, .slice none 0 0] 26) = w0 := e0
    replace e1 : w0.alloc (.cells #[.int .i64 2, .bool false, .int .i64 0, .int .i64 0, .string ⟨#[]⟩, .slice none 0 0] 26) = w1 := e1
    have HAA := Lib.hid (fun (W : World) (hk : Keeps (fun _ => False) w2 W) => cells6 (show W.heap[pa]? = some (.cells #[.int .i64 2, .bool true, .int .i64 0, .int .i64 0, .string ⟨#[]⟩, .slice none 0 0] 26 (0, 0)) from HAA.out W hk))
    have HBB := Lib.hid (fun (W : World) (hk : Keeps (fun _ => False) w2 W) => cells6 (show W.heap[pb]? = some (.cells #[.int .i64 2, .bool false, .int .i64 0, .int .i64 0, .string ⟨#[]⟩, .slice none 0 0] 26 (0, 0)) from HBB.out W hk))
    go_enter Tryz.func28, Tryz.ntmps28
    go_upto_region 1 with fail
    have KW := Lib.hid (show Keeps (fun _ => False) w2 { w2 with drawn := w2.drawn + 1 } from (Keeps.refl _ w2).drew)
    refine Wg.wp_region_first (C := fun w' => Keeps (fun _ => False) w2 w') (by kernel_rfl) 6 ?_
    generalize { w2 with drawn := w2.drawn + 1 } = W at *
    apply Wg.wpAnyP_stays (by kernel_rfl) [0, 2] _ _ _ 5 _ KW.out (by kernel_rfl) ?hs ?hr
    case hs =>
      repeat (apply Wg.wpStays_step rfl rfl; (intro w' hw'; obtain ⟨y0, y1, y2, y3, y4, y5, _⟩ := HAA.out w' hw'; obtain ⟨x0, x1, x2, x3, x4, x5, _⟩ := HBB.out w' hw'; clear hw'; go_simp; exact ⟨rfl, rfl⟩); go_simp)
      exact rfl
    case hr =>
      apply Wg.wpAnyP_one (i := 1) (fuel := 4) (by kernel_rfl) rfl rfl
      go_simp
      refine Wg.plain_call (HTA.out W) ?_
      rintro e W1 ⟨rfl, hk⟩
      have K1 := Lib.hid (KW.out.trans hk fun _ h => .inl h)
      refine ⟨_, rfl, K1.out, ?_⟩
      clear hk
      apply Wg.wpAnyP_one (i := 3) (fuel := 3) (by kernel_rfl) rfl rfl
      go_simp
      refine Wg.plain_call (HTB.out W1) ?_
      rintro e W2 ⟨rfl, hk⟩
      have K2 := Lib.hid (K1.out.trans hk fun _ h => .inl h)
      refine ⟨_, rfl, K2.out, ?_⟩
      clear hk
      apply Wg.wpAnyP_one (i := 4) (fuel := 2) (by kernel_rfl) rfl rfl
      go_simp
      refine ⟨K2.out, ?_⟩
      apply Wg.wpAnyP_one (i := 5) (fuel := 1) (by kernel_rfl) rfl rfl
      go_simp
      refine Wg.plain_call (HO.out W2) ?_
      rintro e W3 ⟨rfl, hk⟩
      have K3 := Lib.hid (K2.out.trans hk fun _ h => .inl h)
      refine ⟨_, rfl, K3.out, ?_⟩
      clear hk
      have hb3 := HB.out W3 K3.out
      obtain ⟨z0, z1, z2, z3, z4, z5, zf⟩ := cells6 hb3
      have zl := row_lt hb3
      obtain ⟨wf, hwf, hfb, hfk⟩ := put6 (v0 := .int .i64 2) (v1 := .bool false) (v2 := .int .i64 0) (v3 := .int .i64 0) (v4 := .string ⟨#[]⟩) (v5 := .slice none 0 0) hb3
      obtain ⟨q0, q1, q2, q3, q4, q5, qf⟩ := cells6 hfb
      apply Wg.wpAnyP_one (i := 6) (fuel := 0) (by kernel_rfl) rfl rfl
      go_simp
      refine ⟨trivial, by kernel_rfl, ?_⟩
      go_simp
      go_wp2_with fail
      (try simp only [Exit.inBlock, Exit.then])
      refine bodyPost_ret (v := .agg #[.int .i64 2, .bool false, .int .i64 0, .int .i64 0, .string ⟨#[]⟩, .slice none 0 0]) (by simp [results, Tryz.results28, go_sem, q0, q1, q2, q3, q4, q5]) rfl ?_
      exact ⟨rfl, (HK2.out.trans K3.out fun _ h => .inl h).trans hfk fun k e => .inr (by have := HPL.out; omega)⟩
  · show Calls Tryz.prog 28 #[.agg #[.int .i64 2, .bool true, .int .i64 0, .int .i64 0, .string ⟨#[]⟩, .slice none 0 0], .agg #[.int .i64 1, .bool false, .int .i64 0, .int .i64 0, .string ⟨#[]⟩, .slice none 0 0]] w fun e w' => e = .returned (.agg #[.int .i64 1, .bool false, .int .i64 0, .int .i64 0, .string ⟨#[]⟩, .slice none 0 0]) ∧ Keeps (fun _ => False) w w'
    have HTA := Lib.hid (fun W : World => (show Calls Tryz.prog 44 #[.agg #[.int .i64 2, .bool true, .int .i64 0, .int .i64 0, .string ⟨#[]⟩, .slice none 0 0]] W fun e w' => e = .returned (.int .i64 (1)) ∧ Keeps (fun _ => False) W w' from HTA.out W))
    have HTB := Lib.hid (fun W : World => (show Calls Tryz.prog 44 #[.agg #[.int .i64 1, .bool false, .int .i64 0, .int .i64 0, .string ⟨#[]⟩, .slice none 0 0]] W fun e w' => e = .returned (.int .i64 (0)) ∧ Keeps (fun _ => False) W w' from HTB.out W))
    have HO := Lib.hid (fun W : World => (show Calls Tryz.prog 43 #[.int .i64 (0)] W fun e w' => e = .returned (.agg #[.int .i64 1, .bool false, .int .i64 0, .int .i64 0, .string ⟨#[]⟩, .slice none 0 0]) ∧ Keeps (fun _ => False) W w' from HO.out W))
    replace e0 : w.alloc (.cells #[.int .i64 2, .bool true, .int .i64 0, .int .i64 0, .string ⟨#[]⟩, .slice none 0 0] 26) = w0 := e0
    replace e1 : w0.alloc (.cells #[.int .i64 1, .bool false, .int .i64 0, .int .i64 0, .string ⟨#[]⟩, .slice none 0 0] 26) = w1 := e1
    have HAA := Lib.hid (fun (W : World) (hk : Keeps (fun _ => False) w2 W) => cells6 (show W.heap[pa]? = some (.cells #[.int .i64 2, .bool true, .int .i64 0, .int .i64 0, .string ⟨#[]⟩, .slice none 0 0] 26 (0, 0)) from HAA.out W hk))
    have HBB := Lib.hid (fun (W : World) (hk : Keeps (fun _ => False) w2 W) => cells6 (show W.heap[pb]? = some (.cells #[.int .i64 1, .bool false, .int .i64 0, .int .i64 0, .string ⟨#[]⟩, .slice none 0 0] 26 (0, 0)) from HBB.out W hk))
    go_enter Tryz.func28, Tryz.ntmps28
    go_upto_region 1 with fail
    have KW := Lib.hid (show Keeps (fun _ => False) w2 { w2 with drawn := w2.drawn + 1 } from (Keeps.refl _ w2).drew)
    refine Wg.wp_region_first (C := fun w' => Keeps (fun _ => False) w2 w') (by kernel_rfl) 6 ?_
    generalize { w2 with drawn := w2.drawn + 1 } = W at *
    apply Wg.wpAnyP_stays (by kernel_rfl) [0, 2] _ _ _ 5 _ KW.out (by kernel_rfl) ?hs ?hr
    case hs =>
      repeat (apply Wg.wpStays_step rfl rfl; (intro w' hw'; obtain ⟨y0, y1, y2, y3, y4, y5, _⟩ := HAA.out w' hw'; obtain ⟨x0, x1, x2, x3, x4, x5, _⟩ := HBB.out w' hw'; clear hw'; go_simp; exact ⟨rfl, rfl⟩); go_simp)
      exact rfl
    case hr =>
      apply Wg.wpAnyP_one (i := 1) (fuel := 4) (by kernel_rfl) rfl rfl
      go_simp
      refine Wg.plain_call (HTA.out W) ?_
      rintro e W1 ⟨rfl, hk⟩
      have K1 := Lib.hid (KW.out.trans hk fun _ h => .inl h)
      refine ⟨_, rfl, K1.out, ?_⟩
      clear hk
      apply Wg.wpAnyP_one (i := 3) (fuel := 3) (by kernel_rfl) rfl rfl
      go_simp
      refine Wg.plain_call (HTB.out W1) ?_
      rintro e W2 ⟨rfl, hk⟩
      have K2 := Lib.hid (K1.out.trans hk fun _ h => .inl h)
      refine ⟨_, rfl, K2.out, ?_⟩
      clear hk
      apply Wg.wpAnyP_one (i := 4) (fuel := 2) (by kernel_rfl) rfl rfl
      go_simp
      refine ⟨K2.out, ?_⟩
      apply Wg.wpAnyP_one (i := 5) (fuel := 1) (by kernel_rfl) rfl rfl
      go_simp
      refine Wg.plain_call (HO.out W2) ?_
      rintro e W3 ⟨rfl, hk⟩
      have K3 := Lib.hid (K2.out.trans hk fun _ h => .inl h)
      refine ⟨_, rfl, K3.out, ?_⟩
      clear hk
      have hb3 := HB.out W3 K3.out
      obtain ⟨z0, z1, z2, z3, z4, z5, zf⟩ := cells6 hb3
      have zl := row_lt hb3
      obtain ⟨wf, hwf, hfb, hfk⟩ := put6 (v0 := .int .i64 1) (v1 := .bool false) (v2 := .int .i64 0) (v3 := .int .i64 0) (v4 := .string ⟨#[]⟩) (v5 := .slice none 0 0) hb3
      obtain ⟨q0, q1, q2, q3, q4, q5, qf⟩ := cells6 hfb
      apply Wg.wpAnyP_one (i := 6) (fuel := 0) (by kernel_rfl) rfl rfl
      go_simp
      refine ⟨trivial, by kernel_rfl, ?_⟩
      go_simp
      go_wp2_with fail
      (try simp only [Exit.inBlock, Exit.then])
      refine bodyPost_ret (v := .agg #[.int .i64 1, .bool false, .int .i64 0, .int .i64 0, .string ⟨#[]⟩, .slice none 0 0]) (by simp [results, Tryz.results28, go_sem, q0, q1, q2, q3, q4, q5]) rfl ?_
      exact ⟨rfl, (HK2.out.trans K3.out fun _ h => .inl h).trans hfk fun k e => .inr (by have := HPL.out; omega)⟩
  · show Calls Tryz.prog 28 #[.agg #[.int .i64 2, .bool true, .int .i64 0, .int .i64 0, .string ⟨#[]⟩, .slice none 0 0], .agg #[.int .i64 2, .bool true, .int .i64 0, .int .i64 0, .string ⟨#[]⟩, .slice none 0 0]] w fun e w' => e = .returned (.agg #[.int .i64 2, .bool true, .int .i64 0, .int .i64 0, .string ⟨#[]⟩, .slice none 0 0]) ∧ Keeps (fun _ => False) w w'
    have HTA := Lib.hid (fun W : World => (show Calls Tryz.prog 44 #[.agg #[.int .i64 2, .bool true, .int .i64 0, .int .i64 0, .string ⟨#[]⟩, .slice none 0 0]] W fun e w' => e = .returned (.int .i64 (1)) ∧ Keeps (fun _ => False) W w' from HTA.out W))
    have HTB := Lib.hid (fun W : World => (show Calls Tryz.prog 44 #[.agg #[.int .i64 2, .bool true, .int .i64 0, .int .i64 0, .string ⟨#[]⟩, .slice none 0 0]] W fun e w' => e = .returned (.int .i64 (1)) ∧ Keeps (fun _ => False) W w' from HTB.out W))
    have HO := Lib.hid (fun W : World => (show Calls Tryz.prog 43 #[.int .i64 (1)] W fun e w' => e = .returned (.agg #[.int .i64 2, .bool true, .int .i64 0, .int .i64 0, .string ⟨#[]⟩, .slice none 0 0]) ∧ Keeps (fun _ => False) W w' from HO.out W))
    replace e0 : w.alloc (.cells #[.int .i64 2, .bool true, .int .i64 0, .int .i64 0, .string ⟨#[]⟩, .slice none 0 0] 26) = w0 := e0
    replace e1 : w0.alloc (.cells #[.int .i64 2, .bool true, .int .i64 0, .int .i64 0, .string ⟨#[]⟩, .slice none 0 0] 26) = w1 := e1
    have HAA := Lib.hid (fun (W : World) (hk : Keeps (fun _ => False) w2 W) => cells6 (show W.heap[pa]? = some (.cells #[.int .i64 2, .bool true, .int .i64 0, .int .i64 0, .string ⟨#[]⟩, .slice none 0 0] 26 (0, 0)) from HAA.out W hk))
    have HBB := Lib.hid (fun (W : World) (hk : Keeps (fun _ => False) w2 W) => cells6 (show W.heap[pb]? = some (.cells #[.int .i64 2, .bool true, .int .i64 0, .int .i64 0, .string ⟨#[]⟩, .slice none 0 0] 26 (0, 0)) from HBB.out W hk))
    go_enter Tryz.func28, Tryz.ntmps28
    go_upto_region 1 with fail
    have KW := Lib.hid (show Keeps (fun _ => False) w2 { w2 with drawn := w2.drawn + 1 } from (Keeps.refl _ w2).drew)
    refine Wg.wp_region_first (C := fun w' => Keeps (fun _ => False) w2 w') (by kernel_rfl) 6 ?_
    generalize { w2 with drawn := w2.drawn + 1 } = W at *
    apply Wg.wpAnyP_stays (by kernel_rfl) [0, 2] _ _ _ 5 _ KW.out (by kernel_rfl) ?hs ?hr
    case hs =>
      repeat (apply Wg.wpStays_step rfl rfl; (intro w' hw'; obtain ⟨y0, y1, y2, y3, y4, y5, _⟩ := HAA.out w' hw'; obtain ⟨x0, x1, x2, x3, x4, x5, _⟩ := HBB.out w' hw'; clear hw'; go_simp; exact ⟨rfl, rfl⟩); go_simp)
      exact rfl
    case hr =>
      apply Wg.wpAnyP_one (i := 1) (fuel := 4) (by kernel_rfl) rfl rfl
      go_simp
      refine Wg.plain_call (HTA.out W) ?_
      rintro e W1 ⟨rfl, hk⟩
      have K1 := Lib.hid (KW.out.trans hk fun _ h => .inl h)
      refine ⟨_, rfl, K1.out, ?_⟩
      clear hk
      apply Wg.wpAnyP_one (i := 3) (fuel := 3) (by kernel_rfl) rfl rfl
      go_simp
      refine Wg.plain_call (HTB.out W1) ?_
      rintro e W2 ⟨rfl, hk⟩
      have K2 := Lib.hid (K1.out.trans hk fun _ h => .inl h)
      refine ⟨_, rfl, K2.out, ?_⟩
      clear hk
      apply Wg.wpAnyP_one (i := 4) (fuel := 2) (by kernel_rfl) rfl rfl
      go_simp
      refine ⟨K2.out, ?_⟩
      apply Wg.wpAnyP_one (i := 5) (fuel := 1) (by kernel_rfl) rfl rfl
      go_simp
      refine Wg.plain_call (HO.out W2) ?_
      rintro e W3 ⟨rfl, hk⟩
      have K3 := Lib.hid (K2.out.trans hk fun _ h => .inl h)
      refine ⟨_, rfl, K3.out, ?_⟩
      clear hk
      have hb3 := HB.out W3 K3.out
      obtain ⟨z0, z1, z2, z3, z4, z5, zf⟩ := cells6 hb3
      have zl := row_lt hb3
      obtain ⟨wf, hwf, hfb, hfk⟩ := put6 (v0 := .int .i64 2) (v1 := .bool true) (v2 := .int .i64 0) (v3 := .int .i64 0) (v4 := .string ⟨#[]⟩) (v5 := .slice none 0 0) hb3
      obtain ⟨q0, q1, q2, q3, q4, q5, qf⟩ := cells6 hfb
      apply Wg.wpAnyP_one (i := 6) (fuel := 0) (by kernel_rfl) rfl rfl
      go_simp
      refine ⟨trivial, by kernel_rfl, ?_⟩
      go_simp
      go_wp2_with fail
      (try simp only [Exit.inBlock, Exit.then])
      refine bodyPost_ret (v := .agg #[.int .i64 2, .bool true, .int .i64 0, .int .i64 0, .string ⟨#[]⟩, .slice none 0 0]) (by simp [results, Tryz.results28, go_sem, q0, q1, q2, q3, q4, q5]) rfl ?_
      exact ⟨rfl, (HK2.out.trans K3.out fun _ h => .inl h).trans hfk fun k e => .inr (by have := HPL.out; omega)⟩

set_option maxRecDepth 100000 in
set_option maxHeartbeats 8000000 in
theorem or_any {w : World} (h g : Int) (h0 : 0 ≤ h) (h2 : h ≤ 2) (g0 : 0 ≤ g) (g2 : g ≤ 2) : Hands 30 #[.agg (hC h), .agg (hC g)] w (hC (max h g)) := by
  unfold Hands
  obtain ⟨w0, e0⟩ : ∃ w0, w.alloc (.cells (hC h) 26) = w0 := ⟨_, rfl⟩
  obtain ⟨w1, e1⟩ : ∃ w1, w0.alloc (.cells (hC g) 26) = w1 := ⟨_, rfl⟩
  obtain ⟨w2, e2⟩ : ∃ w2, w1.alloc (.cells zero6 26) = w2 := ⟨_, rfl⟩
  obtain ⟨pa, ea⟩ : ∃ p, w.heap.size = p := ⟨_, rfl⟩
  obtain ⟨pb, eb⟩ : ∃ p, w0.heap.size = p := ⟨_, rfl⟩
  obtain ⟨p, ep⟩ : ∃ p, w1.heap.size = p := ⟨_, rfl⟩
  have k0 : Keeps (fun _ => False) w w0 := by rw [← e0]; exact (Keeps.refl _ _).alloc _
  have k1 : Keeps (fun _ => False) w0 w1 := by rw [← e1]; exact (Keeps.refl _ _).alloc _
  have k2 : Keeps (fun _ => False) w1 w2 := by rw [← e2]; exact (Keeps.refl _ _).alloc _
  have ba : w0.heap[pa]? = some (.cells (hC h) 26 (0, 0)) := by rw [← e0, ← ea]; exact heap_alloc_new _ _
  have bb : w1.heap[pb]? = some (.cells (hC g) 26 (0, 0)) := by rw [← e1, ← eb]; exact heap_alloc_new _ _
  have bp : w2.heap[p]? = some (.cells zero6 26 (0, 0)) := by rw [← e2, ← ep]; exact heap_alloc_new _ _
  have ba2 := k2.blk (k1.blk ba)
  have bb2 := k2.blk bb
  have HB := Lib.hid (fun (W : World) (hk : Keeps (fun _ => False) w2 W) => hk.blk bp)
  have HK2 := Lib.hid ((k0.trans k1 fun _ h => .inl h).trans k2 fun _ h => .inl h)
  have HPL := Lib.hid (show w.heap.size ≤ p by have := k0.size; have := k1.size; omega)
  have HTA := Lib.hid (fun W : World => truth_any (w := W) (hV h))
  have HTB := Lib.hid (fun W : World => truth_any (w := W) (hV g))
  rw [truth_hV h0 h2] at HTA
  rw [truth_hV g0 g2] at HTB
  have HO := Lib.hid (fun W : World => told_any (w := W) (max h g - 1) (by omega) (by omega))
  have HAA := Lib.hid (fun (W : World) (hk : Keeps (fun _ => False) w2 W) => hk.blk ba2)
  have HBB := Lib.hid (fun (W : World) (hk : Keeps (fun _ => False) w2 W) => hk.blk bb2)
  clear k0 k1 k2 ba bb bp ba2 bb2
  rcases (show h = 0 ∨ h = 1 ∨ h = 2 by omega) with rfl | rfl | rfl <;> rcases (show g = 0 ∨ g = 1 ∨ g = 2 by omega) with rfl | rfl | rfl
  · show Calls Tryz.prog 30 #[.agg #[.int .i64 2, .bool false, .int .i64 0, .int .i64 0, .string ⟨#[]⟩, .slice none 0 0], .agg #[.int .i64 2, .bool false, .int .i64 0, .int .i64 0, .string ⟨#[]⟩, .slice none 0 0]] w fun e w' => e = .returned (.agg #[.int .i64 2, .bool false, .int .i64 0, .int .i64 0, .string ⟨#[]⟩, .slice none 0 0]) ∧ Keeps (fun _ => False) w w'
    have HTA := Lib.hid (fun W : World => (show Calls Tryz.prog 44 #[.agg #[.int .i64 2, .bool false, .int .i64 0, .int .i64 0, .string ⟨#[]⟩, .slice none 0 0]] W fun e w' => e = .returned (.int .i64 (-1)) ∧ Keeps (fun _ => False) W w' from HTA.out W))
    have HTB := Lib.hid (fun W : World => (show Calls Tryz.prog 44 #[.agg #[.int .i64 2, .bool false, .int .i64 0, .int .i64 0, .string ⟨#[]⟩, .slice none 0 0]] W fun e w' => e = .returned (.int .i64 (-1)) ∧ Keeps (fun _ => False) W w' from HTB.out W))
    have HO := Lib.hid (fun W : World => (show Calls Tryz.prog 43 #[.int .i64 (-1)] W fun e w' => e = .returned (.agg #[.int .i64 2, .bool false, .int .i64 0, .int .i64 0, .string ⟨#[]⟩, .slice none 0 0]) ∧ Keeps (fun _ => False) W w' from HO.out W))
    replace e0 : w.alloc (.cells #[.int .i64 2, .bool false, .int .i64 0, .int .i64 0, .string ⟨#[]⟩, .slice none 0 0] 26) = w0 := e0
    replace e1 : w0.alloc (.cells #[.int .i64 2, .bool false, .int .i64 0, .int .i64 0, .string ⟨#[]⟩, .slice none 0 0] 26) = w1 := e1
    have HAA := Lib.hid (fun (W : World) (hk : Keeps (fun _ => False) w2 W) => cells6 (show W.heap[pa]? = some (.cells #[.int .i64 2, .bool false, .int .i64 0, .int .i64 0, .string ⟨#[]⟩, .slice none 0 0] 26 (0, 0)) from HAA.out W hk))
    have HBB := Lib.hid (fun (W : World) (hk : Keeps (fun _ => False) w2 W) => cells6 (show W.heap[pb]? = some (.cells #[.int .i64 2, .bool false, .int .i64 0, .int .i64 0, .string ⟨#[]⟩, .slice none 0 0] 26 (0, 0)) from HBB.out W hk))
    go_enter Tryz.func30, Tryz.ntmps30
    go_upto_region 1 with fail
    have KW := Lib.hid (show Keeps (fun _ => False) w2 { w2 with drawn := w2.drawn + 1 } from (Keeps.refl _ w2).drew)
    refine Wg.wp_region_first (C := fun w' => Keeps (fun _ => False) w2 w') (by kernel_rfl) 6 ?_
    generalize { w2 with drawn := w2.drawn + 1 } = W at *
    apply Wg.wpAnyP_stays (by kernel_rfl) [0, 2] _ _ _ 5 _ KW.out (by kernel_rfl) ?hs ?hr
    case hs =>
      repeat (apply Wg.wpStays_step rfl rfl; (intro w' hw'; obtain ⟨y0, y1, y2, y3, y4, y5, _⟩ := HAA.out w' hw'; obtain ⟨x0, x1, x2, x3, x4, x5, _⟩ := HBB.out w' hw'; clear hw'; go_simp; exact ⟨rfl, rfl⟩); go_simp)
      exact rfl
    case hr =>
      apply Wg.wpAnyP_one (i := 1) (fuel := 4) (by kernel_rfl) rfl rfl
      go_simp
      refine Wg.plain_call (HTA.out W) ?_
      rintro e W1 ⟨rfl, hk⟩
      have K1 := Lib.hid (KW.out.trans hk fun _ h => .inl h)
      refine ⟨_, rfl, K1.out, ?_⟩
      clear hk
      apply Wg.wpAnyP_one (i := 3) (fuel := 3) (by kernel_rfl) rfl rfl
      go_simp
      refine Wg.plain_call (HTB.out W1) ?_
      rintro e W2 ⟨rfl, hk⟩
      have K2 := Lib.hid (K1.out.trans hk fun _ h => .inl h)
      refine ⟨_, rfl, K2.out, ?_⟩
      clear hk
      apply Wg.wpAnyP_one (i := 4) (fuel := 2) (by kernel_rfl) rfl rfl
      go_simp
      refine ⟨K2.out, ?_⟩
      apply Wg.wpAnyP_one (i := 5) (fuel := 1) (by kernel_rfl) rfl rfl
      go_simp
      refine Wg.plain_call (HO.out W2) ?_
      rintro e W3 ⟨rfl, hk⟩
      have K3 := Lib.hid (K2.out.trans hk fun _ h => .inl h)
      refine ⟨_, rfl, K3.out, ?_⟩
      clear hk
      have hb3 := HB.out W3 K3.out
      obtain ⟨z0, z1, z2, z3, z4, z5, zf⟩ := cells6 hb3
      have zl := row_lt hb3
      obtain ⟨wf, hwf, hfb, hfk⟩ := put6 (v0 := .int .i64 2) (v1 := .bool false) (v2 := .int .i64 0) (v3 := .int .i64 0) (v4 := .string ⟨#[]⟩) (v5 := .slice none 0 0) hb3
      obtain ⟨q0, q1, q2, q3, q4, q5, qf⟩ := cells6 hfb
      apply Wg.wpAnyP_one (i := 6) (fuel := 0) (by kernel_rfl) rfl rfl
      go_simp
      refine ⟨trivial, by kernel_rfl, ?_⟩
      go_simp
      go_wp2_with fail
      (try simp only [Exit.inBlock, Exit.then])
      refine bodyPost_ret (v := .agg #[.int .i64 2, .bool false, .int .i64 0, .int .i64 0, .string ⟨#[]⟩, .slice none 0 0]) (by simp [results, Tryz.results30, go_sem, q0, q1, q2, q3, q4, q5]) rfl ?_
      exact ⟨rfl, (HK2.out.trans K3.out fun _ h => .inl h).trans hfk fun k e => .inr (by have := HPL.out; omega)⟩
  · show Calls Tryz.prog 30 #[.agg #[.int .i64 2, .bool false, .int .i64 0, .int .i64 0, .string ⟨#[]⟩, .slice none 0 0], .agg #[.int .i64 1, .bool false, .int .i64 0, .int .i64 0, .string ⟨#[]⟩, .slice none 0 0]] w fun e w' => e = .returned (.agg #[.int .i64 1, .bool false, .int .i64 0, .int .i64 0, .string ⟨#[]⟩, .slice none 0 0]) ∧ Keeps (fun _ => False) w w'
    have HTA := Lib.hid (fun W : World => (show Calls Tryz.prog 44 #[.agg #[.int .i64 2, .bool false, .int .i64 0, .int .i64 0, .string ⟨#[]⟩, .slice none 0 0]] W fun e w' => e = .returned (.int .i64 (-1)) ∧ Keeps (fun _ => False) W w' from HTA.out W))
    have HTB := Lib.hid (fun W : World => (show Calls Tryz.prog 44 #[.agg #[.int .i64 1, .bool false, .int .i64 0, .int .i64 0, .string ⟨#[]⟩, .slice none 0 0]] W fun e w' => e = .returned (.int .i64 (0)) ∧ Keeps (fun _ => False) W w' from HTB.out W))
    have HO := Lib.hid (fun W : World => (show Calls Tryz.prog 43 #[.int .i64 (0)] W fun e w' => e = .returned (.agg #[.int .i64 1, .bool false, .int .i64 0, .int .i64 0, .string ⟨#[]⟩, .slice none 0 0]) ∧ Keeps (fun _ => False) W w' from HO.out W))
    replace e0 : w.alloc (.cells #[.int .i64 2, .bool false, .int .i64 0, .int .i64 0, .string ⟨#[]⟩, .slice none 0 0] 26) = w0 := e0
    replace e1 : w0.alloc (.cells #[.int .i64 1, .bool false, .int .i64 0, .int .i64 0, .string ⟨#[]⟩, .slice none 0 0] 26) = w1 := e1
    have HAA := Lib.hid (fun (W : World) (hk : Keeps (fun _ => False) w2 W) => cells6 (show W.heap[pa]? = some (.cells #[.int .i64 2, .bool false, .int .i64 0, .int .i64 0, .string ⟨#[]⟩, .slice none 0 0] 26 (0, 0)) from HAA.out W hk))
    have HBB := Lib.hid (fun (W : World) (hk : Keeps (fun _ => False) w2 W) => cells6 (show W.heap[pb]? = some (.cells #[.int .i64 1, .bool false, .int .i64 0, .int .i64 0, .string ⟨#[]⟩, .slice none 0 0] 26 (0, 0)) from HBB.out W hk))
    go_enter Tryz.func30, Tryz.ntmps30
    go_upto_region 1 with fail
    have KW := Lib.hid (show Keeps (fun _ => False) w2 { w2 with drawn := w2.drawn + 1 } from (Keeps.refl _ w2).drew)
    refine Wg.wp_region_first (C := fun w' => Keeps (fun _ => False) w2 w') (by kernel_rfl) 6 ?_
    generalize { w2 with drawn := w2.drawn + 1 } = W at *
    apply Wg.wpAnyP_stays (by kernel_rfl) [0, 2] _ _ _ 5 _ KW.out (by kernel_rfl) ?hs ?hr
    case hs =>
      repeat (apply Wg.wpStays_step rfl rfl; (intro w' hw'; obtain ⟨y0, y1, y2, y3, y4, y5, _⟩ := HAA.out w' hw'; obtain ⟨x0, x1, x2, x3, x4, x5, _⟩ := HBB.out w' hw'; clear hw'; go_simp; exact ⟨rfl, rfl⟩); go_simp)
      exact rfl
    case hr =>
      apply Wg.wpAnyP_one (i := 1) (fuel := 4) (by kernel_rfl) rfl rfl
      go_simp
      refine Wg.plain_call (HTA.out W) ?_
      rintro e W1 ⟨rfl, hk⟩
      have K1 := Lib.hid (KW.out.trans hk fun _ h => .inl h)
      refine ⟨_, rfl, K1.out, ?_⟩
      clear hk
      apply Wg.wpAnyP_one (i := 3) (fuel := 3) (by kernel_rfl) rfl rfl
      go_simp
      refine Wg.plain_call (HTB.out W1) ?_
      rintro e W2 ⟨rfl, hk⟩
      have K2 := Lib.hid (K1.out.trans hk fun _ h => .inl h)
      refine ⟨_, rfl, K2.out, ?_⟩
      clear hk
      apply Wg.wpAnyP_one (i := 4) (fuel := 2) (by kernel_rfl) rfl rfl
      go_simp
      refine ⟨K2.out, ?_⟩
      apply Wg.wpAnyP_one (i := 5) (fuel := 1) (by kernel_rfl) rfl rfl
      go_simp
      refine Wg.plain_call (HO.out W2) ?_
      rintro e W3 ⟨rfl, hk⟩
      have K3 := Lib.hid (K2.out.trans hk fun _ h => .inl h)
      refine ⟨_, rfl, K3.out, ?_⟩
      clear hk
      have hb3 := HB.out W3 K3.out
      obtain ⟨z0, z1, z2, z3, z4, z5, zf⟩ := cells6 hb3
      have zl := row_lt hb3
      obtain ⟨wf, hwf, hfb, hfk⟩ := put6 (v0 := .int .i64 1) (v1 := .bool false) (v2 := .int .i64 0) (v3 := .int .i64 0) (v4 := .string ⟨#[]⟩) (v5 := .slice none 0 0) hb3
      obtain ⟨q0, q1, q2, q3, q4, q5, qf⟩ := cells6 hfb
      apply Wg.wpAnyP_one (i := 6) (fuel := 0) (by kernel_rfl) rfl rfl
      go_simp
      refine ⟨trivial, by kernel_rfl, ?_⟩
      go_simp
      go_wp2_with fail
      (try simp only [Exit.inBlock, Exit.then])
      refine bodyPost_ret (v := .agg #[.int .i64 1, .bool false, .int .i64 0, .int .i64 0, .string ⟨#[]⟩, .slice none 0 0]) (by simp [results, Tryz.results30, go_sem, q0, q1, q2, q3, q4, q5]) rfl ?_
      exact ⟨rfl, (HK2.out.trans K3.out fun _ h => .inl h).trans hfk fun k e => .inr (by have := HPL.out; omega)⟩
  · show Calls Tryz.prog 30 #[.agg #[.int .i64 2, .bool false, .int .i64 0, .int .i64 0, .string ⟨#[]⟩, .slice none 0 0], .agg #[.int .i64 2, .bool true, .int .i64 0, .int .i64 0, .string ⟨#[]⟩, .slice none 0 0]] w fun e w' => e = .returned (.agg #[.int .i64 2, .bool true, .int .i64 0, .int .i64 0, .string ⟨#[]⟩, .slice none 0 0]) ∧ Keeps (fun _ => False) w w'
    have HTA := Lib.hid (fun W : World => (show Calls Tryz.prog 44 #[.agg #[.int .i64 2, .bool false, .int .i64 0, .int .i64 0, .string ⟨#[]⟩, .slice none 0 0]] W fun e w' => e = .returned (.int .i64 (-1)) ∧ Keeps (fun _ => False) W w' from HTA.out W))
    have HTB := Lib.hid (fun W : World => (show Calls Tryz.prog 44 #[.agg #[.int .i64 2, .bool true, .int .i64 0, .int .i64 0, .string ⟨#[]⟩, .slice none 0 0]] W fun e w' => e = .returned (.int .i64 (1)) ∧ Keeps (fun _ => False) W w' from HTB.out W))
    have HO := Lib.hid (fun W : World => (show Calls Tryz.prog 43 #[.int .i64 (1)] W fun e w' => e = .returned (.agg #[.int .i64 2, .bool true, .int .i64 0, .int .i64 0, .string ⟨#[]⟩, .slice none 0 0]) ∧ Keeps (fun _ => False) W w' from HO.out W))
    replace e0 : w.alloc (.cells #[.int .i64 2, .bool false, .int .i64 0, .int .i64 0, .string ⟨#[]⟩, .slice none 0 0] 26) = w0 := e0
    replace e1 : w0.alloc (.cells #[.int .i64 2, .bool true, .int .i64 0, .int .i64 0, .string ⟨#[]⟩, .slice none 0 0] 26) = w1 := e1
    have HAA := Lib.hid (fun (W : World) (hk : Keeps (fun _ => False) w2 W) => cells6 (show W.heap[pa]? = some (.cells #[.int .i64 2, .bool false, .int .i64 0, .int .i64 0, .string ⟨#[]⟩, .slice none 0 0] 26 (0, 0)) from HAA.out W hk))
    have HBB := Lib.hid (fun (W : World) (hk : Keeps (fun _ => False) w2 W) => cells6 (show W.heap[pb]? = some (.cells #[.int .i64 2, .bool true, .int .i64 0, .int .i64 0, .string ⟨#[]⟩, .slice none 0 0] 26 (0, 0)) from HBB.out W hk))
    go_enter Tryz.func30, Tryz.ntmps30
    go_upto_region 1 with fail
    have KW := Lib.hid (show Keeps (fun _ => False) w2 { w2 with drawn := w2.drawn + 1 } from (Keeps.refl _ w2).drew)
    refine Wg.wp_region_first (C := fun w' => Keeps (fun _ => False) w2 w') (by kernel_rfl) 6 ?_
    generalize { w2 with drawn := w2.drawn + 1 } = W at *
    apply Wg.wpAnyP_stays (by kernel_rfl) [0, 2] _ _ _ 5 _ KW.out (by kernel_rfl) ?hs ?hr
    case hs =>
      repeat (apply Wg.wpStays_step rfl rfl; (intro w' hw'; obtain ⟨y0, y1, y2, y3, y4, y5, _⟩ := HAA.out w' hw'; obtain ⟨x0, x1, x2, x3, x4, x5, _⟩ := HBB.out w' hw'; clear hw'; go_simp; exact ⟨rfl, rfl⟩); go_simp)
      exact rfl
    case hr =>
      apply Wg.wpAnyP_one (i := 1) (fuel := 4) (by kernel_rfl) rfl rfl
      go_simp
      refine Wg.plain_call (HTA.out W) ?_
      rintro e W1 ⟨rfl, hk⟩
      have K1 := Lib.hid (KW.out.trans hk fun _ h => .inl h)
      refine ⟨_, rfl, K1.out, ?_⟩
      clear hk
      apply Wg.wpAnyP_one (i := 3) (fuel := 3) (by kernel_rfl) rfl rfl
      go_simp
      refine Wg.plain_call (HTB.out W1) ?_
      rintro e W2 ⟨rfl, hk⟩
      have K2 := Lib.hid (K1.out.trans hk fun _ h => .inl h)
      refine ⟨_, rfl, K2.out, ?_⟩
      clear hk
      apply Wg.wpAnyP_one (i := 4) (fuel := 2) (by kernel_rfl) rfl rfl
      go_simp
      refine ⟨K2.out, ?_⟩
      apply Wg.wpAnyP_one (i := 5) (fuel := 1) (by kernel_rfl) rfl rfl
      go_simp
      refine Wg.plain_call (HO.out W2) ?_
      rintro e W3 ⟨rfl, hk⟩
      have K3 := Lib.hid (K2.out.trans hk fun _ h => .inl h)
      refine ⟨_, rfl, K3.out, ?_⟩
      clear hk
      have hb3 := HB.out W3 K3.out
      obtain ⟨z0, z1, z2, z3, z4, z5, zf⟩ := cells6 hb3
      have zl := row_lt hb3
      obtain ⟨wf, hwf, hfb, hfk⟩ := put6 (v0 := .int .i64 2) (v1 := .bool true) (v2 := .int .i64 0) (v3 := .int .i64 0) (v4 := .string ⟨#[]⟩) (v5 := .slice none 0 0) hb3
      obtain ⟨q0, q1, q2, q3, q4, q5, qf⟩ := cells6 hfb
      apply Wg.wpAnyP_one (i := 6) (fuel := 0) (by kernel_rfl) rfl rfl
      go_simp
      refine ⟨trivial, by kernel_rfl, ?_⟩
      go_simp
      go_wp2_with fail
      (try simp only [Exit.inBlock, Exit.then])
      refine bodyPost_ret (v := .agg #[.int .i64 2, .bool true, .int .i64 0, .int .i64 0, .string ⟨#[]⟩, .slice none 0 0]) (by simp [results, Tryz.results30, go_sem, q0, q1, q2, q3, q4, q5]) rfl ?_
      exact ⟨rfl, (HK2.out.trans K3.out fun _ h => .inl h).trans hfk fun k e => .inr (by have := HPL.out; omega)⟩
  · show Calls Tryz.prog 30 #[.agg #[.int .i64 1, .bool false, .int .i64 0, .int .i64 0, .string ⟨#[]⟩, .slice none 0 0], .agg #[.int .i64 2, .bool false, .int .i64 0, .int .i64 0, .string ⟨#[]⟩, .slice none 0 0]] w fun e w' => e = .returned (.agg #[.int .i64 1, .bool false, .int .i64 0, .int .i64 0, .string ⟨#[]⟩, .slice none 0 0]) ∧ Keeps (fun _ => False) w w'
    have HTA := Lib.hid (fun W : World => (show Calls Tryz.prog 44 #[.agg #[.int .i64 1, .bool false, .int .i64 0, .int .i64 0, .string ⟨#[]⟩, .slice none 0 0]] W fun e w' => e = .returned (.int .i64 (0)) ∧ Keeps (fun _ => False) W w' from HTA.out W))
    have HTB := Lib.hid (fun W : World => (show Calls Tryz.prog 44 #[.agg #[.int .i64 2, .bool false, .int .i64 0, .int .i64 0, .string ⟨#[]⟩, .slice none 0 0]] W fun e w' => e = .returned (.int .i64 (-1)) ∧ Keeps (fun _ => False) W w' from HTB.out W))
    have HO := Lib.hid (fun W : World => (show Calls Tryz.prog 43 #[.int .i64 (0)] W fun e w' => e = .returned (.agg #[.int .i64 1, .bool false, .int .i64 0, .int .i64 0, .string ⟨#[]⟩, .slice none 0 0]) ∧ Keeps (fun _ => False) W w' from HO.out W))
    replace e0 : w.alloc (.cells #[.int .i64 1, .bool false, .int .i64 0, .int .i64 0, .string ⟨#[]⟩, .slice none 0 0] 26) = w0 := e0
    replace e1 : w0.alloc (.cells #[.int .i64 2, .bool false, .int .i64 0, .int .i64 0, .string ⟨#[]⟩, .slice none 0 0] 26) = w1 := e1
    have HAA := Lib.hid (fun (W : World) (hk : Keeps (fun _ => False) w2 W) => cells6 (show W.heap[pa]? = some (.cells #[.int .i64 1, .bool false, .int .i64 0, .int .i64 0, .string ⟨#[]⟩, .slice none 0 0] 26 (0, 0)) from HAA.out W hk))
    have HBB := Lib.hid (fun (W : World) (hk : Keeps (fun _ => False) w2 W) => cells6 (show W.heap[pb]? = some (.cells #[.int .i64 2, .bool false, .int .i64 0, .int .i64 0, .string ⟨#[]⟩, .slice none 0 0] 26 (0, 0)) from HBB.out W hk))
    go_enter Tryz.func30, Tryz.ntmps30
    go_upto_region 1 with fail
    have KW := Lib.hid (show Keeps (fun _ => False) w2 { w2 with drawn := w2.drawn + 1 } from (Keeps.refl _ w2).drew)
    refine Wg.wp_region_first (C := fun w' => Keeps (fun _ => False) w2 w') (by kernel_rfl) 6 ?_
    generalize { w2 with drawn := w2.drawn + 1 } = W at *
    apply Wg.wpAnyP_stays (by kernel_rfl) [0, 2] _ _ _ 5 _ KW.out (by kernel_rfl) ?hs ?hr
    case hs =>
      repeat (apply Wg.wpStays_step rfl rfl; (intro w' hw'; obtain ⟨y0, y1, y2, y3, y4, y5, _⟩ := HAA.out w' hw'; obtain ⟨x0, x1, x2, x3, x4, x5, _⟩ := HBB.out w' hw'; clear hw'; go_simp; exact ⟨rfl, rfl⟩); go_simp)
      exact rfl
    case hr =>
      apply Wg.wpAnyP_one (i := 1) (fuel := 4) (by kernel_rfl) rfl rfl
      go_simp
      refine Wg.plain_call (HTA.out W) ?_
      rintro e W1 ⟨rfl, hk⟩
      have K1 := Lib.hid (KW.out.trans hk fun _ h => .inl h)
      refine ⟨_, rfl, K1.out, ?_⟩
      clear hk
      apply Wg.wpAnyP_one (i := 3) (fuel := 3) (by kernel_rfl) rfl rfl
      go_simp
      refine Wg.plain_call (HTB.out W1) ?_
      rintro e W2 ⟨rfl, hk⟩
      have K2 := Lib.hid (K1.out.trans hk fun _ h => .inl h)
      refine ⟨_, rfl, K2.out, ?_⟩
      clear hk
      apply Wg.wpAnyP_one (i := 4) (fuel := 2) (by kernel_rfl) rfl rfl
      go_simp
      refine ⟨K2.out, ?_⟩
      apply Wg.wpAnyP_one (i := 5) (fuel := 1) (by kernel_rfl) rfl rfl
      go_simp
      refine Wg.plain_call (HO.out W2) ?_
      rintro e W3 ⟨rfl, hk⟩
      have K3 := Lib.hid (K2.out.trans hk fun _ h => .inl h)
      refine ⟨_, rfl, K3.out, ?_⟩
      clear hk
      have hb3 := HB.out W3 K3.out
      obtain ⟨z0, z1, z2, z3, z4, z5, zf⟩ := cells6 hb3
      have zl := row_lt hb3
      obtain ⟨wf, hwf, hfb, hfk⟩ := put6 (v0 := .int .i64 1) (v1 := .bool false) (v2 := .int .i64 0) (v3 := .int .i64 0) (v4 := .string ⟨#[]⟩) (v5 := .slice none 0 0) hb3
      obtain ⟨q0, q1, q2, q3, q4, q5, qf⟩ := cells6 hfb
      apply Wg.wpAnyP_one (i := 6) (fuel := 0) (by kernel_rfl) rfl rfl
      go_simp
      refine ⟨trivial, by kernel_rfl, ?_⟩
      go_simp
      go_wp2_with fail
      (try simp only [Exit.inBlock, Exit.then])
      refine bodyPost_ret (v := .agg #[.int .i64 1, .bool false, .int .i64 0, .int .i64 0, .string ⟨#[]⟩, .slice none 0 0]) (by simp [results, Tryz.results30, go_sem, q0, q1, q2, q3, q4, q5]) rfl ?_
      exact ⟨rfl, (HK2.out.trans K3.out fun _ h => .inl h).trans hfk fun k e => .inr (by have := HPL.out; omega)⟩
  · show Calls Tryz.prog 30 #[.agg #[.int .i64 1, .bool false, .int .i64 0, .int .i64 0, .string ⟨#[]⟩, .slice none 0 0], .agg #[.int .i64 1, .bool false, .int .i64 0, .int .i64 0, .string ⟨#[]⟩, .slice none 0 0]] w fun e w' => e = .returned (.agg #[.int .i64 1, .bool false, .int .i64 0, .int .i64 0, .string ⟨#[]⟩, .slice none 0 0]) ∧ Keeps (fun _ => False) w w'
    have HTA := Lib.hid (fun W : World => (show Calls Tryz.prog 44 #[.agg #[.int .i64 1, .bool false, .int .i64 0, .int .i64 0, .string ⟨#[]⟩, .slice none 0 0]] W fun e w' => e = .returned (.int .i64 (0)) ∧ Keeps (fun _ => False) W w' from HTA.out W))
    have HTB := Lib.hid (fun W : World => (show Calls Tryz.prog 44 #[.agg #[.int .i64 1, .bool false, .int .i64 0, .int .i64 0, .string ⟨#[]⟩, .slice none 0 0]] W fun e w' => e = .returned (.int .i64 (0)) ∧ Keeps (fun _ => False) W w' from HTB.out W))
    have HO := Lib.hid (fun W : World => (show Calls Tryz.prog 43 #[.int .i64 (0)] W fun e w' => e = .returned (.agg #[.int .i64 1, .bool false, .int .i64 0, .int .i64 0, .string ⟨#[]⟩, .slice none 0 0]) ∧ Keeps (fun _ => False) W w' from HO.out W))
    replace e0 : w.alloc (.cells #[.int .i64 1, .bool false, .int .i64 0, .int .i64 0, .string ⟨#[]⟩, .slice none 0 0] 26) = w0 := e0
    replace e1 : w0.alloc (.cells #[.int .i64 1, .bool false, .int .i64 0, .int .i64 0, .string ⟨#[]⟩, .slice none 0 0] 26) = w1 := e1
    have HAA := Lib.hid (fun (W : World) (hk : Keeps (fun _ => False) w2 W) => cells6 (show W.heap[pa]? = some (.cells #[.int .i64 1, .bool false, .int .i64 0, .int .i64 0, .string ⟨#[]⟩, .slice none 0 0] 26 (0, 0)) from HAA.out W hk))
    have HBB := Lib.hid (fun (W : World) (hk : Keeps (fun _ => False) w2 W) => cells6 (show W.heap[pb]? = some (.cells #[.int .i64 1, .bool false, .int .i64 0, .int .i64 0, .string ⟨#[]⟩, .slice none 0 0] 26 (0, 0)) from HBB.out W hk))
    go_enter Tryz.func30, Tryz.ntmps30
    go_upto_region 1 with fail
    have KW := Lib.hid (show Keeps (fun _ => False) w2 { w2 with drawn := w2.drawn + 1 } from (Keeps.refl _ w2).drew)
    refine Wg.wp_region_first (C := fun w' => Keeps (fun _ => False) w2 w') (by kernel_rfl) 6 ?_
    generalize { w2 with drawn := w2.drawn + 1 } = W at *
    apply Wg.wpAnyP_stays (by kernel_rfl) [0, 2] _ _ _ 5 _ KW.out (by kernel_rfl) ?hs ?hr
    case hs =>
      repeat (apply Wg.wpStays_step rfl rfl; (intro w' hw'; obtain ⟨y0, y1, y2, y3, y4, y5, _⟩ := HAA.out w' hw'; obtain ⟨x0, x1, x2, x3, x4, x5, _⟩ := HBB.out w' hw'; clear hw'; go_simp; exact ⟨rfl, rfl⟩); go_simp)
      exact rfl
    case hr =>
      apply Wg.wpAnyP_one (i := 1) (fuel := 4) (by kernel_rfl) rfl rfl
      go_simp
      refine Wg.plain_call (HTA.out W) ?_
      rintro e W1 ⟨rfl, hk⟩
      have K1 := Lib.hid (KW.out.trans hk fun _ h => .inl h)
      refine ⟨_, rfl, K1.out, ?_⟩
      clear hk
      apply Wg.wpAnyP_one (i := 3) (fuel := 3) (by kernel_rfl) rfl rfl
      go_simp
      refine Wg.plain_call (HTB.out W1) ?_
      rintro e W2 ⟨rfl, hk⟩
      have K2 := Lib.hid (K1.out.trans hk fun _ h => .inl h)
      refine ⟨_, rfl, K2.out, ?_⟩
      clear hk
      apply Wg.wpAnyP_one (i := 4) (fuel := 2) (by kernel_rfl) rfl rfl
      go_simp
      refine ⟨K2.out, ?_⟩
      apply Wg.wpAnyP_one (i := 5) (fuel := 1) (by kernel_rfl) rfl rfl
      go_simp
      refine Wg.plain_call (HO.out W2) ?_
      rintro e W3 ⟨rfl, hk⟩
      have K3 := Lib.hid (K2.out.trans hk fun _ h => .inl h)
      refine ⟨_, rfl, K3.out, ?_⟩
      clear hk
      have hb3 := HB.out W3 K3.out
      obtain ⟨z0, z1, z2, z3, z4, z5, zf⟩ := cells6 hb3
      have zl := row_lt hb3
      obtain ⟨wf, hwf, hfb, hfk⟩ := put6 (v0 := .int .i64 1) (v1 := .bool false) (v2 := .int .i64 0) (v3 := .int .i64 0) (v4 := .string ⟨#[]⟩) (v5 := .slice none 0 0) hb3
      obtain ⟨q0, q1, q2, q3, q4, q5, qf⟩ := cells6 hfb
      apply Wg.wpAnyP_one (i := 6) (fuel := 0) (by kernel_rfl) rfl rfl
      go_simp
      refine ⟨trivial, by kernel_rfl, ?_⟩
      go_simp
      go_wp2_with fail
      (try simp only [Exit.inBlock, Exit.then])
      refine bodyPost_ret (v := .agg #[.int .i64 1, .bool false, .int .i64 0, .int .i64 0, .string ⟨#[]⟩, .slice none 0 0]) (by simp [results, Tryz.results30, go_sem, q0, q1, q2, q3, q4, q5]) rfl ?_
      exact ⟨rfl, (HK2.out.trans K3.out fun _ h => .inl h).trans hfk fun k e => .inr (by have := HPL.out; omega)⟩
  · show Calls Tryz.prog 30 #[.agg #[.int .i64 1, .bool false, .int .i64 0, .int .i64 0, .string ⟨#[]⟩, .slice none 0 0], .agg #[.int .i64 2, .bool true, .int .i64 0, .int .i64 0, .string ⟨#[]⟩, .slice none 0 0]] w fun e w' => e = .returned (.agg #[.int .i64 2, .bool true, .int .i64 0, .int .i64 0, .string ⟨#[]⟩, .slice none 0 0]) ∧ Keeps (fun _ => False) w w'
    have HTA := Lib.hid (fun W : World => (show Calls Tryz.prog 44 #[.agg #[.int .i64 1, .bool false, .int .i64 0, .int .i64 0, .string ⟨#[]⟩, .slice none 0 0]] W fun e w' => e = .returned (.int .i64 (0)) ∧ Keeps (fun _ => False) W w' from HTA.out W))
    have HTB := Lib.hid (fun W : World => (show Calls Tryz.prog 44 #[.agg #[.int .i64 2, .bool true, .int .i64 0, .int .i64 0, .string ⟨#[]⟩, .slice none 0 0]] W fun e w' => e = .returned (.int .i64 (1)) ∧ Keeps (fun _ => False) W w' from HTB.out W))
    have HO := Lib.hid (fun W : World => (show Calls Tryz.prog 43 #[.int .i64 (1)] W fun e w' => e = .returned (.agg #[.int .i64 2, .bool true, .int .i64 0, .int .i64 0, .string ⟨#[]⟩, .slice none 0 0]) ∧ Keeps (fun _ => False) W w' from HO.out W))
    replace e0 : w.alloc (.cells #[.int .i64 1, .bool false, .int .i64 0, .int .i64 0, .string ⟨#[]⟩, .slice none 0 0] 26) = w0 := e0
    replace e1 : w0.alloc (.cells #[.int .i64 2, .bool true, .int .i64 0, .int .i64 0, .string ⟨#[]⟩, .slice none 0 0] 26) = w1 := e1
    have HAA := Lib.hid (fun (W : World) (hk : Keeps (fun _ => False) w2 W) => cells6 (show W.heap[pa]? = some (.cells #[.int .i64 1, .bool false, .int .i64 0, .int .i64 0, .string ⟨#[]⟩, .slice none 0 0] 26 (0, 0)) from HAA.out W hk))
    have HBB := Lib.hid (fun (W : World) (hk : Keeps (fun _ => False) w2 W) => cells6 (show W.heap[pb]? = some (.cells #[.int .i64 2, .bool true, .int .i64 0, .int .i64 0, .string ⟨#[]⟩, .slice none 0 0] 26 (0, 0)) from HBB.out W hk))
    go_enter Tryz.func30, Tryz.ntmps30
    go_upto_region 1 with fail
    have KW := Lib.hid (show Keeps (fun _ => False) w2 { w2 with drawn := w2.drawn + 1 } from (Keeps.refl _ w2).drew)
    refine Wg.wp_region_first (C := fun w' => Keeps (fun _ => False) w2 w') (by kernel_rfl) 6 ?_
    generalize { w2 with drawn := w2.drawn + 1 } = W at *
    apply Wg.wpAnyP_stays (by kernel_rfl) [0, 2] _ _ _ 5 _ KW.out (by kernel_rfl) ?hs ?hr
    case hs =>
      repeat (apply Wg.wpStays_step rfl rfl; (intro w' hw'; obtain ⟨y0, y1, y2, y3, y4, y5, _⟩ := HAA.out w' hw'; obtain ⟨x0, x1, x2, x3, x4, x5, _⟩ := HBB.out w' hw'; clear hw'; go_simp; exact ⟨rfl, rfl⟩); go_simp)
      exact rfl
    case hr =>
      apply Wg.wpAnyP_one (i := 1) (fuel := 4) (by kernel_rfl) rfl rfl
      go_simp
      refine Wg.plain_call (HTA.out W) ?_
      rintro e W1 ⟨rfl, hk⟩
      have K1 := Lib.hid (KW.out.trans hk fun _ h => .inl h)
      refine ⟨_, rfl, K1.out, ?_⟩
      clear hk
      apply Wg.wpAnyP_one (i := 3) (fuel := 3) (by kernel_rfl) rfl rfl
      go_simp
      refine Wg.plain_call (HTB.out W1) ?_
      rintro e W2 ⟨rfl, hk⟩
      have K2 := Lib.hid (K1.out.trans hk fun _ h => .inl h)
      refine ⟨_, rfl, K2.out, ?_⟩
      clear hk
      apply Wg.wpAnyP_one (i := 4) (fuel := 2) (by kernel_rfl) rfl rfl
      go_simp
      refine ⟨K2.out, ?_⟩
      apply Wg.wpAnyP_one (i := 5) (fuel := 1) (by kernel_rfl) rfl rfl
      go_simp
      refine Wg.plain_call (HO.out W2) ?_
      rintro e W3 ⟨rfl, hk⟩
      have K3 := Lib.hid (K2.out.trans hk fun _ h => .inl h)
      refine ⟨_, rfl, K3.out, ?_⟩
      clear hk
      have hb3 := HB.out W3 K3.out
      obtain ⟨z0, z1, z2, z3, z4, z5, zf⟩ := cells6 hb3
      have zl := row_lt hb3
      obtain ⟨wf, hwf, hfb, hfk⟩ := put6 (v0 := .int .i64 2) (v1 := .bool true) (v2 := .int .i64 0) (v3 := .int .i64 0) (v4 := .string ⟨#[]⟩) (v5 := .slice none 0 0) hb3
      obtain ⟨q0, q1, q2, q3, q4, q5, qf⟩ := cells6 hfb
      apply Wg.wpAnyP_one (i := 6) (fuel := 0) (by kernel_rfl) rfl rfl
      go_simp
      refine ⟨trivial, by kernel_rfl, ?_⟩
      go_simp
      go_wp2_with fail
      (try simp only [Exit.inBlock, Exit.then])
      refine bodyPost_ret (v := .agg #[.int .i64 2, .bool true, .int .i64 0, .int .i64 0, .string ⟨#[]⟩, .slice none 0 0]) (by simp [results, Tryz.results30, go_sem, q0, q1, q2, q3, q4, q5]) rfl ?_
      exact ⟨rfl, (HK2.out.trans K3.out fun _ h => .inl h).trans hfk fun k e => .inr (by have := HPL.out; omega)⟩
  · show Calls Tryz.prog 30 #[.agg #[.int .i64 2, .bool true, .int .i64 0, .int .i64 0, .string ⟨#[]⟩, .slice none 0 0], .agg #[.int .i64 2, .bool false, .int .i64 0, .int .i64 0, .string ⟨#[]⟩, .slice none 0 0]] w fun e w' => e = .returned (.agg #[.int .i64 2, .bool true, .int .i64 0, .int .i64 0, .string ⟨#[]⟩, .slice none 0 0]) ∧ Keeps (fun _ => False) w w'
    have HTA := Lib.hid (fun W : World => (show Calls Tryz.prog 44 #[.agg #[.int .i64 2, .bool true, .int .i64 0, .int .i64 0, .string ⟨#[]⟩, .slice none 0 0]] W fun e w' => e = .returned (.int .i64 (1)) ∧ Keeps (fun _ => False) W w' from HTA.out W))
    have HTB := Lib.hid (fun W : World => (show Calls Tryz.prog 44 #[.agg #[.int .i64 2, .bool false, .int .i64 0, .int .i64 0, .string ⟨#[]⟩, .slice none 0 0]] W fun e w' => e = .returned (.int .i64 (-1)) ∧ Keeps (fun _ => False) W w' from HTB.out W))
    have HO := Lib.hid (fun W : World => (show Calls Tryz.prog 43 #[.int .i64 (1)] W fun e w' => e = .returned (.agg #[.int .i64 2, .bool true, .int .i64 0, .int .i64 0, .string ⟨#[]⟩, .slice none 0 0]) ∧ Keeps (fun _ => False) W w' from HO.out W))
    replace e0 : w.alloc (.cells #[.int .i64 2, .bool true, .int .i64 0, .int .i64 0, .string ⟨#[]⟩, .slice none 0 0] 26) = w0 := e0
    replace e1 : w0.alloc (.cells #[.int .i64 2, .bool false, .int .i64 0, .int .i64 0, .string ⟨#[]⟩, .slice none 0 0] 26) = w1 := e1
    have HAA := Lib.hid (fun (W : World) (hk : Keeps (fun _ => False) w2 W) => cells6 (show W.heap[pa]? = some (.cells #[.int .i64 2, .bool true, .int .i64 0, .int .i64 0, .string ⟨#[]⟩, .slice none 0 0] 26 (0, 0)) from HAA.out W hk))
    have HBB := Lib.hid (fun (W : World) (hk : Keeps (fun _ => False) w2 W) => cells6 (show W.heap[pb]? = some (.cells #[.int .i64 2, .bool false, .int .i64 0, .int .i64 0, .string ⟨#[]⟩, .slice none 0 0] 26 (0, 0)) from HBB.out W hk))
    go_enter Tryz.func30, Tryz.ntmps30
    go_upto_region 1 with fail
    have KW := Lib.hid (show Keeps (fun _ => False) w2 { w2 with drawn := w2.drawn + 1 } from (Keeps.refl _ w2).drew)
    refine Wg.wp_region_first (C := fun w' => Keeps (fun _ => False) w2 w') (by kernel_rfl) 6 ?_
    generalize { w2 with drawn := w2.drawn + 1 } = W at *
    apply Wg.wpAnyP_stays (by kernel_rfl) [0, 2] _ _ _ 5 _ KW.out (by kernel_rfl) ?hs ?hr
    case hs =>
      repeat (apply Wg.wpStays_step rfl rfl; (intro w' hw'; obtain ⟨y0, y1, y2, y3, y4, y5, _⟩ := HAA.out w' hw'; obtain ⟨x0, x1, x2, x3, x4, x5, _⟩ := HBB.out w' hw'; clear hw'; go_simp; exact ⟨rfl, rfl⟩); go_simp)
      exact rfl
    case hr =>
      apply Wg.wpAnyP_one (i := 1) (fuel := 4) (by kernel_rfl) rfl rfl
      go_simp
      refine Wg.plain_call (HTA.out W) ?_
      rintro e W1 ⟨rfl, hk⟩
      have K1 := Lib.hid (KW.out.trans hk fun _ h => .inl h)
      refine ⟨_, rfl, K1.out, ?_⟩
      clear hk
      apply Wg.wpAnyP_one (i := 3) (fuel := 3) (by kernel_rfl) rfl rfl
      go_simp
      refine Wg.plain_call (HTB.out W1) ?_
      rintro e W2 ⟨rfl, hk⟩
      have K2 := Lib.hid (K1.out.trans hk fun _ h => .inl h)
      refine ⟨_, rfl, K2.out, ?_⟩
      clear hk
      apply Wg.wpAnyP_one (i := 4) (fuel := 2) (by kernel_rfl) rfl rfl
      go_simp
      refine ⟨K2.out, ?_⟩
      apply Wg.wpAnyP_one (i := 5) (fuel := 1) (by kernel_rfl) rfl rfl
      go_simp
      refine Wg.plain_call (HO.out W2) ?_
      rintro e W3 ⟨rfl, hk⟩
      have K3 := Lib.hid (K2.out.trans hk fun _ h => .inl h)
      refine ⟨_, rfl, K3.out, ?_⟩
      clear hk
      have hb3 := HB.out W3 K3.out
      obtain ⟨z0, z1, z2, z3, z4, z5, zf⟩ := cells6 hb3
      have zl := row_lt hb3
      obtain ⟨wf, hwf, hfb, hfk⟩ := put6 (v0 := .int .i64 2) (v1 := .bool true) (v2 := .int .i64 0) (v3 := .int .i64 0) (v4 := .string ⟨#[]⟩) (v5 := .slice none 0 0) hb3
      obtain ⟨q0, q1, q2, q3, q4, q5, qf⟩ := cells6 hfb
      apply Wg.wpAnyP_one (i := 6) (fuel := 0) (by kernel_rfl) rfl rfl
      go_simp
      refine ⟨trivial, by kernel_rfl, ?_⟩
      go_simp
      go_wp2_with fail
      (try simp only [Exit.inBlock, Exit.then])
      refine bodyPost_ret (v := .agg #[.int .i64 2, .bool true, .int .i64 0, .int .i64 0, .string ⟨#[]⟩, .slice none 0 0]) (by simp [results, Tryz.results30, go_sem, q0, q1, q2, q3, q4, q5]) rfl ?_
      exact ⟨rfl, (HK2.out.trans K3.out fun _ h => .inl h).trans hfk fun k e => .inr (by have := HPL.out; omega)⟩
  · show Calls Tryz.prog 30 #[.agg #[.int .i64 2, .bool true, .int .i64 0, .int .i64 0, .string ⟨#[]⟩, .slice none 0 0], .agg #[.int .i64 1, .bool false, .int .i64 0, .int .i64 0, .string ⟨#[]⟩, .slice none 0 0]] w fun e w' => e = .returned (.agg #[.int .i64 2, .bool true, .int .i64 0, .int .i64 0, .string ⟨#[]⟩, .slice none 0 0]) ∧ Keeps (fun _ => False) w w'
    have HTA := Lib.hid (fun W : World => (show Calls Tryz.prog 44 #[.agg #[.int .i64 2, .bool true, .int .i64 0, .int .i64 0, .string ⟨#[]⟩, .slice none 0 0]] W fun e w' => e = .returned (.int .i64 (1)) ∧ Keeps (fun _ => False) W w' from HTA.out W))
    have HTB := Lib.hid (fun W : World => (show Calls Tryz.prog 44 #[.agg #[.int .i64 1, .bool false, .int .i64 0, .int .i64 0, .string ⟨#[]⟩, .slice none 0 0]] W fun e w' => e = .returned (.int .i64 (0)) ∧ Keeps (fun _ => False) W w' from HTB.out W))
    have HO := Lib.hid (fun W : World => (show Calls Tryz.prog 43 #[.int .i64 (1)] W fun e w' => e = .returned (.agg #[.int .i64 2, .bool true, .int .i64 0, .int .i64 0, .string ⟨#[]⟩, .slice none 0 0]) ∧ Keeps (fun _ => False) W w' from HO.out W))
    replace e0 : w.alloc (.cells #[.int .i64 2, .bool true, .int .i64 0, .int .i64 0, .string ⟨#[]⟩, .slice none 0 0] 26) = w0 := e0
    replace e1 : w0.alloc (.cells #[.int .i64 1, .bool false, .int .i64 0, .int .i64 0, .string ⟨#[]⟩, .slice none 0 0] 26) = w1 := e1
    have HAA := Lib.hid (fun (W : World) (hk : Keeps (fun _ => False) w2 W) => cells6 (show W.heap[pa]? = some (.cells #[.int .i64 2, .bool true, .int .i64 0, .int .i64 0, .string ⟨#[]⟩, .slice none 0 0] 26 (0, 0)) from HAA.out W hk))
    have HBB := Lib.hid (fun (W : World) (hk : Keeps (fun _ => False) w2 W) => cells6 (show W.heap[pb]? = some (.cells #[.int .i64 1, .bool false, .int .i64 0, .int .i64 0, .string ⟨#[]⟩, .slice none 0 0] 26 (0, 0)) from HBB.out W hk))
    go_enter Tryz.func30, Tryz.ntmps30
    go_upto_region 1 with fail
    have KW := Lib.hid (show Keeps (fun _ => False) w2 { w2 with drawn := w2.drawn + 1 } from (Keeps.refl _ w2).drew)
    refine Wg.wp_region_first (C := fun w' => Keeps (fun _ => False) w2 w') (by kernel_rfl) 6 ?_
    generalize { w2 with drawn := w2.drawn + 1 } = W at *
    apply Wg.wpAnyP_stays (by kernel_rfl) [0, 2] _ _ _ 5 _ KW.out (by kernel_rfl) ?hs ?hr
    case hs =>
      repeat (apply Wg.wpStays_step rfl rfl; (intro w' hw'; obtain ⟨y0, y1, y2, y3, y4, y5, _⟩ := HAA.out w' hw'; obtain ⟨x0, x1, x2, x3, x4, x5, _⟩ := HBB.out w' hw'; clear hw'; go_simp; exact ⟨rfl, rfl⟩); go_simp)
      exact rfl
    case hr =>
      apply Wg.wpAnyP_one (i := 1) (fuel := 4) (by kernel_rfl) rfl rfl
      go_simp
      refine Wg.plain_call (HTA.out W) ?_
      rintro e W1 ⟨rfl, hk⟩
      have K1 := Lib.hid (KW.out.trans hk fun _ h => .inl h)
      refine ⟨_, rfl, K1.out, ?_⟩
      clear hk
      apply Wg.wpAnyP_one (i := 3) (fuel := 3) (by kernel_rfl) rfl rfl
      go_simp
      refine Wg.plain_call (HTB.out W1) ?_
      rintro e W2 ⟨rfl, hk⟩
      have K2 := Lib.hid (K1.out.trans hk fun _ h => .inl h)
      refine ⟨_, rfl, K2.out, ?_⟩
      clear hk
      apply Wg.wpAnyP_one (i := 4) (fuel := 2) (by kernel_rfl) rfl rfl
      go_simp
      refine ⟨K2.out, ?_⟩
      apply Wg.wpAnyP_one (i := 5) (fuel := 1) (by kernel_rfl) rfl rfl
      go_simp
      refine Wg.plain_call (HO.out W2) ?_
      rintro e W3 ⟨rfl, hk⟩
      have K3 := Lib.hid (K2.out.trans hk fun _ h => .inl h)
      refine ⟨_, rfl, K3.out, ?_⟩
      clear hk
      have hb3 := HB.out W3 K3.out
      obtain ⟨z0, z1, z2, z3, z4, z5, zf⟩ := cells6 hb3
      have zl := row_lt hb3
      obtain ⟨wf, hwf, hfb, hfk⟩ := put6 (v0 := .int .i64 2) (v1 := .bool true) (v2 := .int .i64 0) (v3 := .int .i64 0) (v4 := .string ⟨#[]⟩) (v5 := .slice none 0 0) hb3
      obtain ⟨q0, q1, q2, q3, q4, q5, qf⟩ := cells6 hfb
      apply Wg.wpAnyP_one (i := 6) (fuel := 0) (by kernel_rfl) rfl rfl
      go_simp
      refine ⟨trivial, by kernel_rfl, ?_⟩
      go_simp
      go_wp2_with fail
      (try simp only [Exit.inBlock, Exit.then])
      refine bodyPost_ret (v := .agg #[.int .i64 2, .bool true, .int .i64 0, .int .i64 0, .string ⟨#[]⟩, .slice none 0 0]) (by simp [results, Tryz.results30, go_sem, q0, q1, q2, q3, q4, q5]) rfl ?_
      exact ⟨rfl, (HK2.out.trans K3.out fun _ h => .inl h).trans hfk fun k e => .inr (by have := HPL.out; omega)⟩
  · show Calls Tryz.prog 30 #[.agg #[.int .i64 2, .bool true, .int .i64 0, .int .i64 0, .string ⟨#[]⟩, .slice none 0 0], .agg #[.int .i64 2, .bool true, .int .i64 0, .int .i64 0, .string ⟨#[]⟩, .slice none 0 0]] w fun e w' => e = .returned (.agg #[.int .i64 2, .bool true, .int .i64 0, .int .i64 0, .string ⟨#[]⟩, .slice none 0 0]) ∧ Keeps (fun _ => False) w w'
    have HTA := Lib.hid (fun W : World => (show Calls Tryz.prog 44 #[.agg #[.int .i64 2, .bool true, .int .i64 0, .int .i64 0, .string ⟨#[]⟩, .slice none 0 0]] W fun e w' => e = .returned (.int .i64 (1)) ∧ Keeps (fun _ => False) W w' from HTA.out W))
    have HTB := Lib.hid (fun W : World => (show Calls Tryz.prog 44 #[.agg #[.int .i64 2, .bool true, .int .i64 0, .int .i64 0, .string ⟨#[]⟩, .slice none 0 0]] W fun e w' => e = .returned (.int .i64 (1)) ∧ Keeps (fun _ => False) W w' from HTB.out W))
    have HO := Lib.hid (fun W : World => (show Calls Tryz.prog 43 #[.int .i64 (1)] W fun e w' => e = .returned (.agg #[.int .i64 2, .bool true, .int .i64 0, .int .i64 0, .string ⟨#[]⟩, .slice none 0 0]) ∧ Keeps (fun _ => False) W w' from HO.out W))
    replace e0 : w.alloc (.cells #[.int .i64 2, .bool true, .int .i64 0, .int .i64 0, .string ⟨#[]⟩, .slice none 0 0] 26) = w0 := e0
    replace e1 : w0.alloc (.cells #[.int .i64 2, .bool true, .int .i64 0, .int .i64 0, .string ⟨#[]⟩, .slice none 0 0] 26) = w1 := e1
    have HAA := Lib.hid (fun (W : World) (hk : Keeps (fun _ => False) w2 W) => cells6 (show W.heap[pa]? = some (.cells #[.int .i64 2, .bool true, .int .i64 0, .int .i64 0, .string ⟨#[]⟩, .slice none 0 0] 26 (0, 0)) from HAA.out W hk))
    have HBB := Lib.hid (fun (W : World) (hk : Keeps (fun _ => False) w2 W) => cells6 (show W.heap[pb]? = some (.cells #[.int .i64 2, .bool true, .int .i64 0, .int .i64 0, .string ⟨#[]⟩, .slice none 0 0] 26 (0, 0)) from HBB.out W hk))
    go_enter Tryz.func30, Tryz.ntmps30
    go_upto_region 1 with fail
    have KW := Lib.hid (show Keeps (fun _ => False) w2 { w2 with drawn := w2.drawn + 1 } from (Keeps.refl _ w2).drew)
    refine Wg.wp_region_first (C := fun w' => Keeps (fun _ => False) w2 w') (by kernel_rfl) 6 ?_
    generalize { w2 with drawn := w2.drawn + 1 } = W at *
    apply Wg.wpAnyP_stays (by kernel_rfl) [0, 2] _ _ _ 5 _ KW.out (by kernel_rfl) ?hs ?hr
    case hs =>
      repeat (apply Wg.wpStays_step rfl rfl; (intro w' hw'; obtain ⟨y0, y1, y2, y3, y4, y5, _⟩ := HAA.out w' hw'; obtain ⟨x0, x1, x2, x3, x4, x5, _⟩ := HBB.out w' hw'; clear hw'; go_simp; exact ⟨rfl, rfl⟩); go_simp)
      exact rfl
    case hr =>
      apply Wg.wpAnyP_one (i := 1) (fuel := 4) (by kernel_rfl) rfl rfl
      go_simp
      refine Wg.plain_call (HTA.out W) ?_
      rintro e W1 ⟨rfl, hk⟩
      have K1 := Lib.hid (KW.out.trans hk fun _ h => .inl h)
      refine ⟨_, rfl, K1.out, ?_⟩
      clear hk
      apply Wg.wpAnyP_one (i := 3) (fuel := 3) (by kernel_rfl) rfl rfl
      go_simp
      refine Wg.plain_call (HTB.out W1) ?_
      rintro e W2 ⟨rfl, hk⟩
      have K2 := Lib.hid (K1.out.trans hk fun _ h => .inl h)
      refine ⟨_, rfl, K2.out, ?_⟩
      clear hk
      apply Wg.wpAnyP_one (i := 4) (fuel := 2) (by kernel_rfl) rfl rfl
      go_simp
      refine ⟨K2.out, ?_⟩
      apply Wg.wpAnyP_one (i := 5) (fuel := 1) (by kernel_rfl) rfl rfl
      go_simp
      refine Wg.plain_call (HO.out W2) ?_
      rintro e W3 ⟨rfl, hk⟩
      have K3 := Lib.hid (K2.out.trans hk fun _ h => .inl h)
      refine ⟨_, rfl, K3.out, ?_⟩
      clear hk
      have hb3 := HB.out W3 K3.out
      obtain ⟨z0, z1, z2, z3, z4, z5, zf⟩ := cells6 hb3
      have zl := row_lt hb3
      obtain ⟨wf, hwf, hfb, hfk⟩ := put6 (v0 := .int .i64 2) (v1 := .bool true) (v2 := .int .i64 0) (v3 := .int .i64 0) (v4 := .string ⟨#[]⟩) (v5 := .slice none 0 0) hb3
      obtain ⟨q0, q1, q2, q3, q4, q5, qf⟩ := cells6 hfb
      apply Wg.wpAnyP_one (i := 6) (fuel := 0) (by kernel_rfl) rfl rfl
      go_simp
      refine ⟨trivial, by kernel_rfl, ?_⟩
      go_simp
      go_wp2_with fail
      (try simp only [Exit.inBlock, Exit.then])
      refine bodyPost_ret (v := .agg #[.int .i64 2, .bool true, .int .i64 0, .int .i64 0, .string ⟨#[]⟩, .slice none 0 0]) (by simp [results, Tryz.results30, go_sem, q0, q1, q2, q3, q4, q5]) rfl ?_
      exact ⟨rfl, (HK2.out.trans K3.out fun _ h => .inl h).trans hfk fun k e => .inr (by have := HPL.out; omega)⟩

end Go.Proofs.YtnihfhfakadepaaGreatDoor
