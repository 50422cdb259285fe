/- Package dec: a sum at two given numbers. -/
import Derived.Test.YthjokmfidhcclaaGreatDoorNearB
namespace Go.Proofs.YthjokmfidhcclaaGreatDoor
open Go.RowKit

theorem near_twenty {w : World} {pn pd : Nat} (ht : Thr w) (hx : GInt w pn 20) (hy : GInt w pd 1) :
    Calls Tryz.prog 11 #[.pointer (some ⟨pn, 0, none⟩), .pointer (some ⟨pd, 0, none⟩), .int .i64 (-1)] w fun e w' => e = .returned (.tuple #[.agg #[.int .i64 2, .int .i64 0], .int .i64 0]) ∧ Keeps (fun _ => False) w w' := by
  refine near_one (m := 20) (J := 23) (c := 2) (k := 17) ht hx hy (by omega) (by omega) (by omega) (by omega) ?_ (by decide) (by decide) (by decide) (by omega)
  intro j hj
  have h1 : (17 : Nat) ≤ (-1 + 40 - (j : Int)).toNat := by omega
  have h2 : 10 ^ 17 ≤ 10 ^ (-1 + 40 - (j : Int)).toNat := Nat.pow_le_pow_right (by omega) h1
  omega

set_option maxRecDepth 100000 in
set_option maxHeartbeats 4000000 in
theorem add_closed {w : World} (ht : Thr w) :
    Calls Tryz.prog 7 #[.agg #[.int .i64 15, .int .i64 (-1)], .agg #[.int .i64 5, .int .i64 (-1)]] w fun e w' => e = .returned (.tuple #[.agg #[.int .i64 2, .int .i64 0], .int .i64 0]) ∧ Keeps (fun _ => False) w w' := by
  obtain ⟨w1, hw1⟩ : ∃ w1, w.alloc (.cells #[.int .i64 15, .int .i64 (-1)] 23) = w1 := ⟨_, rfl⟩
  obtain ⟨pa, hpa⟩ : ∃ pa, w.heap.size = pa := ⟨_, rfl⟩
  have ha1 : w1.heap[pa]? = some (.cells #[.int .i64 15, .int .i64 (-1)] 23 (0, 0)) := by rw [← hw1, ← hpa]; exact heap_alloc_new _ _
  have hk1 : Keeps (fun _ => False) w w1 := by rw [← hw1]; exact (Keeps.refl _ _).alloc _
  obtain ⟨w2, hw2⟩ : ∃ w2, w1.alloc (.cells #[.int .i64 5, .int .i64 (-1)] 23) = w2 := ⟨_, rfl⟩
  obtain ⟨pb, hpb⟩ : ∃ pb, w1.heap.size = pb := ⟨_, rfl⟩
  have hb2 : w2.heap[pb]? = some (.cells #[.int .i64 5, .int .i64 (-1)] 23 (0, 0)) := by rw [← hw2, ← hpb]; exact heap_alloc_new _ _
  have hk2 : Keeps (fun _ => False) w1 w2 := by rw [← hw2]; exact (Keeps.refl _ _).alloc _
  obtain ⟨w3, hw3⟩ : ∃ w3, w2.alloc (.cells #[.int .i64 0, .int .i64 0] 23) = w3 := ⟨_, rfl⟩
  obtain ⟨pc, hpc⟩ : ∃ pc, w2.heap.size = pc := ⟨_, rfl⟩
  have hc3 : w3.heap[pc]? = some (.cells #[.int .i64 0, .int .i64 0] 23 (0, 0)) := by rw [← hw3, ← hpc]; exact heap_alloc_new _ _
  have hk3 : Keeps (fun _ => False) w2 w3 := by rw [← hw3]; exact (Keeps.refl _ _).alloc _
  obtain ⟨w4, hw4⟩ : ∃ w4, w3.alloc (.cells #[.int .i64 15, .int .i64 (-1), .int .i64 5, .int .i64 (-1)] 23) = w4 := ⟨_, rfl⟩
  obtain ⟨pd, hpd⟩ : ∃ pd, w3.heap.size = pd := ⟨_, rfl⟩
  have hd4 : w4.heap[pd]? = some (.cells #[.int .i64 15, .int .i64 (-1), .int .i64 5, .int .i64 (-1)] 23 (0, 0)) := by rw [← hw4, ← hpd]; exact heap_alloc_new _ _
  have hk4 : Keeps (fun _ => False) w3 w4 := by rw [← hw4]; exact (Keeps.refl _ _).alloc _
  have ha3 := hk3.blk (hk2.blk ha1)
  have hb3 := hk3.blk hb2
  have HK3 := Lib.hid ((hk1.trans hk2 fun _ h => .inl h).trans hk3 fun _ h => .inl h)
  have HK4 := Lib.hid hk4
  have HC := Lib.hid (fun (W : World) (hk : Keeps (fun _ => False) w3 W) => (⟨cell_of_row W pa 0 _ _ _ (hk.blk ha3), cell_of_row W pa 1 _ _ _ (hk.blk ha3), cell_of_row W pb 0 _ _ _ (hk.blk hb3), cell_of_row W pb 1 _ _ _ (hk.blk hb3)⟩ : W.cell? ⟨pa, 0, none⟩ = some (.int .i64 15) ∧ W.cell? ⟨pa, 1, none⟩ = some (.int .i64 (-1)) ∧ W.cell? ⟨pb, 0, none⟩ = some (.int .i64 5) ∧ W.cell? ⟨pb, 1, none⟩ = some (.int .i64 (-1))))
  have HR := Lib.hid (show Calls Tryz.prog 8 #[.slice (some ⟨pd, 0, none⟩) 2 2] w4 (fun e w' => e = .returned (.int .i64 0) ∧ Keeps (fun _ => False) w4 w') from dright_any ⟨15, -1⟩ ⟨5, -1⟩ hd4)
  have HT := Lib.hid (fun (W : World) (hk : Keeps (fun _ => False) w3 W) => ht.later (HK3.out.trans hk fun _ h => .inl h))
  have HC3 := Lib.hid hc3
  have HPC := Lib.hid (show w.heap.size ≤ pc by have := hk1.size; have := hk2.size; omega)
  have HU1 := Lib.hid (fun (W : World) (hk : Keeps (fun _ => False) w3 W) => (show Calls Tryz.prog 9 #[.agg #[.int .i64 15, .int .i64 (-1)], .int .i64 (-1)] W (fun e' w' => ∃ p, e' = .returned (.pointer (some ⟨p, 0, none⟩)) ∧ GInt w' p ((15 : Nat) : Int) ∧ Keeps (fun _ => False) W w' ∧ W.heap.size ≤ p) from units_any (HT.out W hk) ⟨15, -1⟩ (-1) 0 (by simp) (by simp) (by simp) (by omega)))
  have HU2 := Lib.hid (fun (W : World) (hk : Keeps (fun _ => False) w3 W) => (show Calls Tryz.prog 9 #[.agg #[.int .i64 5, .int .i64 (-1)], .int .i64 (-1)] W (fun e' w' => ∃ p, e' = .returned (.pointer (some ⟨p, 0, none⟩)) ∧ GInt w' p ((5 : Nat) : Int) ∧ Keeps (fun _ => False) W w' ∧ W.heap.size ≤ p) from units_any (HT.out W hk) ⟨5, -1⟩ (-1) 0 (by simp) (by simp) (by simp) (by omega)))
  have HA := Lib.hid (fun (W : World) (pz px py : Nat) (hz : GZero W pz) (hx : GInt W px ((15 : Nat) : Int)) (hy : GInt W py ((5 : Nat) : Int)) => (show Calls Tryz.prog 12 #[.pointer (some ⟨pz, 0, none⟩), .pointer (some ⟨px, 0, none⟩), .pointer (some ⟨py, 0, none⟩)] W (fun e w' => e = .returned (.pointer (some ⟨pz, 0, none⟩)) ∧ GInt w' pz 20 ∧ Keeps (fun k => k = pz) W w') from gAdd_one hz hx hy (by omega) (by omega) (by omega) (by omega)))
  have HN := Lib.hid (fun W : World => (show Calls Tryz.prog 13 #[.int .i64 1] W (fun e w' => ∃ p, e = .returned (.pointer (some ⟨p, 0, none⟩)) ∧ GInt w' p 1 ∧ Keeps (fun _ => False) W w' ∧ W.heap.size ≤ p) from gNewInt_any (w := W) 1 (by omega) (by omega)))
  have HNear := Lib.hid (fun (W : World) (hk : Keeps (fun _ => False) w3 W) (pn p1 : Nat) (hx : GInt W pn 20) (hy : GInt W p1 1) => near_twenty (HT.out W hk) hx hy)
  obtain ⟨d0, d1, d2, d3⟩ := HC.out w3 (Keeps.refl _ _)
  clear ha1 hk1 hb2 hk2 ha3 hb3 hc3 hk3 hd4 hk4 ht
  go_enter Tryz.func7, Tryz.ntmps7
  go_upto_region 5 with (go_at_call 8; ((with_reducible refine HR.out.mono ?_); rintro e w5 ⟨rfl, hk5⟩; have HK5 := Lib.hid (HK4.out.trans hk5 fun _ h => .inl h); clear hk5 d0 d1 d2 d3; obtain ⟨d0, d1, d2, d3⟩ := HC.out w5 HK5.out))
  clear hw1 hw2 hw3 hw4 hpa hpb hpc hpd d0 d1 d2 d3
  refine Wg.wp_region_first (C := fun w' => Keeps (fun _ => False) w3 w') (by kernel_rfl) 13 ?_
  have KW := Lib.hid (show Keeps (fun _ => False) w3 { w5 with drawn := w5.drawn + 1 } from HK5.out.drew)
  generalize { w5 with drawn := w5.drawn + 1 } = V0 at *
  apply Wg.wpAnyP_stays (by kernel_rfl) [1, 2, 4, 5, 9] _ _ _ 10 _ KW.out (by kernel_rfl) ?hs ?hr
  case hs =>
    repeat (apply Wg.wpStays_step rfl rfl; (intro w' hw'; obtain ⟨d0, d1, d2, d3⟩ := HC.out w' hw'; clear hw'; go_simp; exact ⟨rfl, rfl⟩); go_simp)
    exact rfl
  case hr =>
    have K0 := Lib.hid KW.out
    apply Wg.wpAnyP_two (i := 0) (k := 3) (fuel := 9) (by kernel_rfl) rfl rfl rfl rfl
    · skip
      go_simp
      refine ⟨K0.out.alloc _, ?_⟩
      have hz := gzero_alloc V0
      have hk : Keeps (fun _ => False) V0 (V0.alloc (.cells #[.bool false, .slice none 0 0] 40)) := (Keeps.refl _ _).alloc _
      obtain ⟨pz, hpz⟩ : ∃ q, V0.heap.size = q := ⟨_, rfl⟩
      rw [hpz] at hz ⊢
      generalize hw9 : V0.alloc (.cells #[.bool false, .slice none 0 0] 40) = V1 at *
      have K1 := Lib.hid (K0.out.trans hk fun _ h => .inl h)
      have ZF := Lib.hid (show w3.heap.size ≤ pz by have := K0.out.size; omega)
      have HZ := Lib.hid hz
      clear hz hk hpz hw9
      apply Wg.wpAnyP_one (i := 3) (fuel := 8) (by kernel_rfl) rfl rfl
      go_simp
      refine Wg.plain_call (HU1.out V1 K1.out) ?_
      rintro e9 V2 ⟨px, rfl, hx, hk, hf⟩
      have K2 := Lib.hid (K1.out.trans hk fun _ h => .inl h)
      have HX := Lib.hid hx
      have HZ := Lib.hid (HZ.out.later hk)
      refine ⟨_, rfl, K2.out, ?_⟩
      clear hx hk hf
      apply Wg.wpAnyP_one (i := 6) (fuel := 7) (by kernel_rfl) rfl rfl
      go_simp
      refine Wg.plain_call (HU2.out V2 K2.out) ?_
      rintro e9 V3 ⟨py, rfl, hx, hk, hf⟩
      have K3 := Lib.hid (K2.out.trans hk fun _ h => .inl h)
      have HY := Lib.hid hx
      have HZ := Lib.hid (HZ.out.later hk)
      have HX := Lib.hid (HX.out.later hk)
      refine ⟨_, rfl, K3.out, ?_⟩
      clear hx hk hf
      apply Wg.wpAnyP_one (i := 7) (fuel := 6) (by kernel_rfl) rfl rfl
      go_simp
      refine Wg.plain_call (HA.out V3 pz px py HZ.out HX.out HY.out) ?_
      rintro e9 V4 ⟨rfl, hx, hk⟩
      have K4 := Lib.hid (K3.out.trans hk fun k e => .inr (by have := ZF.out; omega))
      have HS := Lib.hid hx
      refine ⟨_, rfl, K4.out, ?_⟩
      clear hx hk
      apply Wg.wpAnyP_one (i := 8) (fuel := 5) (by kernel_rfl) rfl rfl
      go_simp
      refine Wg.plain_call (HN.out V4) ?_
      rintro e9 V5 ⟨p1, rfl, hx, hk, hf⟩
      have K5 := Lib.hid (K4.out.trans hk fun _ h => .inl h)
      have HS := Lib.hid (HS.out.later hk)
      have H1 := Lib.hid hx
      refine ⟨_, rfl, K5.out, ?_⟩
      clear hx hk hf
      apply Wg.wpAnyP_one (i := 10) (fuel := 4) (by kernel_rfl) rfl rfl
      go_simp
      refine Wg.plain_call (HNear.out V5 K5.out pz p1 HS.out H1.out) ?_
      rintro e9 VE ⟨rfl, hk⟩
      have KE := Lib.hid (K5.out.trans hk fun _ h => .inl h)
      refine ⟨_, rfl, KE.out, ?_⟩
      clear hk
      apply Wg.wpAnyP_stays (by kernel_rfl) [11, 12] _ _ _ 2 _ KE.out (by kernel_rfl) ?hs ?hr
      case hs =>
        repeat (apply Wg.wpStays_step rfl rfl; (intro w' hw'; clear hw'; go_simp; exact ⟨rfl, rfl⟩); go_simp)
        exact rfl
      case hr =>
        have hr9 := KE.out.blk HC3.out
        have f0 : VE.cell? ⟨pc, 0, none⟩ = some (.int .i64 0) := cell_of_row VE pc 0 _ _ _ hr9
        have f1 : VE.cell? ⟨pc, 1, none⟩ = some (.int .i64 0) := cell_of_row VE pc 1 _ _ _ hr9
        have zf0 := frozen_of_row VE pc 0 _ _ hr9
        have zf1 := frozen_of_row VE pc 1 _ _ hr9
        have zl := row_lt hr9
        have HR9 := Lib.hid hr9
        clear hr9
        apply Wg.wpAnyP_one (i := 13) (fuel := 1) (by kernel_rfl) rfl rfl
        go_simp
        refine ⟨trivial, ?_⟩
        apply Wg.wpAnyP_one (i := 14) (fuel := 0) (by kernel_rfl) rfl rfl
        go_simp
        refine ⟨trivial, by kernel_rfl, ?_⟩
        go_simp
        go_wp2_with fail
        obtain ⟨q0, q1⟩ := dec_cells (c := 2) (x := 0) HR9.out
        refine bodyPost_ret (v := .tuple #[.agg #[.int .i64 2, .int .i64 0], .int .i64 0]) (by simp [results, Tryz.results7, go_sem, q0, q1]) rfl ?_
        exact ⟨rfl, ((HK3.out.trans KE.out fun _ h => .inl h).setNew HPC.out _).setNew HPC.out _⟩
    · skip
      go_simp
      refine Wg.plain_call (HU1.out V0 K0.out) ?_
      rintro e9 V1 ⟨px, rfl, hx, hk, hf⟩
      have K1 := Lib.hid (K0.out.trans hk fun _ h => .inl h)
      have HX := Lib.hid hx
      refine ⟨_, rfl, K1.out, ?_⟩
      clear hx hk hf
      apply Wg.wpAnyP_two (i := 0) (k := 6) (fuel := 8) (by kernel_rfl) rfl rfl rfl rfl
      · skip
        go_simp
        refine ⟨K1.out.alloc _, ?_⟩
        have hz := gzero_alloc V1
        have hk : Keeps (fun _ => False) V1 (V1.alloc (.cells #[.bool false, .slice none 0 0] 40)) := (Keeps.refl _ _).alloc _
        obtain ⟨pz, hpz⟩ : ∃ q, V1.heap.size = q := ⟨_, rfl⟩
        rw [hpz] at hz ⊢
        generalize hw9 : V1.alloc (.cells #[.bool false, .slice none 0 0] 40) = V2 at *
        have K2 := Lib.hid (K1.out.trans hk fun _ h => .inl h)
        have ZF := Lib.hid (show w3.heap.size ≤ pz by have := K1.out.size; omega)
        have HZ := Lib.hid hz
        have HX := Lib.hid (HX.out.later hk)
        clear hz hk hpz hw9
        apply Wg.wpAnyP_one (i := 6) (fuel := 7) (by kernel_rfl) rfl rfl
        go_simp
        refine Wg.plain_call (HU2.out V2 K2.out) ?_
        rintro e9 V3 ⟨py, rfl, hx, hk, hf⟩
        have K3 := Lib.hid (K2.out.trans hk fun _ h => .inl h)
        have HY := Lib.hid hx
        have HZ := Lib.hid (HZ.out.later hk)
        have HX := Lib.hid (HX.out.later hk)
        refine ⟨_, rfl, K3.out, ?_⟩
        clear hx hk hf
        apply Wg.wpAnyP_one (i := 7) (fuel := 6) (by kernel_rfl) rfl rfl
        go_simp
        refine Wg.plain_call (HA.out V3 pz px py HZ.out HX.out HY.out) ?_
        rintro e9 V4 ⟨rfl, hx, hk⟩
        have K4 := Lib.hid (K3.out.trans hk fun k e => .inr (by have := ZF.out; omega))
        have HS := Lib.hid hx
        refine ⟨_, rfl, K4.out, ?_⟩
        clear hx hk
        apply Wg.wpAnyP_one (i := 8) (fuel := 5) (by kernel_rfl) rfl rfl
        go_simp
        refine Wg.plain_call (HN.out V4) ?_
        rintro e9 V5 ⟨p1, rfl, hx, hk, hf⟩
        have K5 := Lib.hid (K4.out.trans hk fun _ h => .inl h)
        have HS := Lib.hid (HS.out.later hk)
        have H1 := Lib.hid hx
        refine ⟨_, rfl, K5.out, ?_⟩
        clear hx hk hf
        apply Wg.wpAnyP_one (i := 10) (fuel := 4) (by kernel_rfl) rfl rfl
        go_simp
        refine Wg.plain_call (HNear.out V5 K5.out pz p1 HS.out H1.out) ?_
        rintro e9 VE ⟨rfl, hk⟩
        have KE := Lib.hid (K5.out.trans hk fun _ h => .inl h)
        refine ⟨_, rfl, KE.out, ?_⟩
        clear hk
        apply Wg.wpAnyP_stays (by kernel_rfl) [11, 12] _ _ _ 2 _ KE.out (by kernel_rfl) ?hs ?hr
        case hs =>
          repeat (apply Wg.wpStays_step rfl rfl; (intro w' hw'; clear hw'; go_simp; exact ⟨rfl, rfl⟩); go_simp)
          exact rfl
        case hr =>
          have hr9 := KE.out.blk HC3.out
          have f0 : VE.cell? ⟨pc, 0, none⟩ = some (.int .i64 0) := cell_of_row VE pc 0 _ _ _ hr9
          have f1 : VE.cell? ⟨pc, 1, none⟩ = some (.int .i64 0) := cell_of_row VE pc 1 _ _ _ hr9
          have zf0 := frozen_of_row VE pc 0 _ _ hr9
          have zf1 := frozen_of_row VE pc 1 _ _ hr9
          have zl := row_lt hr9
          have HR9 := Lib.hid hr9
          clear hr9
          apply Wg.wpAnyP_one (i := 13) (fuel := 1) (by kernel_rfl) rfl rfl
          go_simp
          refine ⟨trivial, ?_⟩
          apply Wg.wpAnyP_one (i := 14) (fuel := 0) (by kernel_rfl) rfl rfl
          go_simp
          refine ⟨trivial, by kernel_rfl, ?_⟩
          go_simp
          go_wp2_with fail
          obtain ⟨q0, q1⟩ := dec_cells (c := 2) (x := 0) HR9.out
          refine bodyPost_ret (v := .tuple #[.agg #[.int .i64 2, .int .i64 0], .int .i64 0]) (by simp [results, Tryz.results7, go_sem, q0, q1]) rfl ?_
          exact ⟨rfl, ((HK3.out.trans KE.out fun _ h => .inl h).setNew HPC.out _).setNew HPC.out _⟩
      · skip
        go_simp
        refine Wg.plain_call (HU2.out V1 K1.out) ?_
        rintro e9 V2 ⟨py, rfl, hx, hk, hf⟩
        have K2 := Lib.hid (K1.out.trans hk fun _ h => .inl h)
        have HY := Lib.hid hx
        have HX := Lib.hid (HX.out.later hk)
        refine ⟨_, rfl, K2.out, ?_⟩
        clear hx hk hf
        apply Wg.wpAnyP_one (i := 0) (fuel := 7) (by kernel_rfl) rfl rfl
        go_simp
        refine ⟨K2.out.alloc _, ?_⟩
        have hz := gzero_alloc V2
        have hk : Keeps (fun _ => False) V2 (V2.alloc (.cells #[.bool false, .slice none 0 0] 40)) := (Keeps.refl _ _).alloc _
        obtain ⟨pz, hpz⟩ : ∃ q, V2.heap.size = q := ⟨_, rfl⟩
        rw [hpz] at hz ⊢
        generalize hw9 : V2.alloc (.cells #[.bool false, .slice none 0 0] 40) = V3 at *
        have K3 := Lib.hid (K2.out.trans hk fun _ h => .inl h)
        have ZF := Lib.hid (show w3.heap.size ≤ pz by have := K2.out.size; omega)
        have HZ := Lib.hid hz
        have HX := Lib.hid (HX.out.later hk)
        have HY := Lib.hid (HY.out.later hk)
        clear hz hk hpz hw9
        apply Wg.wpAnyP_one (i := 7) (fuel := 6) (by kernel_rfl) rfl rfl
        go_simp
        refine Wg.plain_call (HA.out V3 pz px py HZ.out HX.out HY.out) ?_
        rintro e9 V4 ⟨rfl, hx, hk⟩
        have K4 := Lib.hid (K3.out.trans hk fun k e => .inr (by have := ZF.out; omega))
        have HS := Lib.hid hx
        refine ⟨_, rfl, K4.out, ?_⟩
        clear hx hk
        apply Wg.wpAnyP_one (i := 8) (fuel := 5) (by kernel_rfl) rfl rfl
        go_simp
        refine Wg.plain_call (HN.out V4) ?_
        rintro e9 V5 ⟨p1, rfl, hx, hk, hf⟩
        have K5 := Lib.hid (K4.out.trans hk fun _ h => .inl h)
        have HS := Lib.hid (HS.out.later hk)
        have H1 := Lib.hid hx
        refine ⟨_, rfl, K5.out, ?_⟩
        clear hx hk hf
        apply Wg.wpAnyP_one (i := 10) (fuel := 4) (by kernel_rfl) rfl rfl
        go_simp
        refine Wg.plain_call (HNear.out V5 K5.out pz p1 HS.out H1.out) ?_
        rintro e9 VE ⟨rfl, hk⟩
        have KE := Lib.hid (K5.out.trans hk fun _ h => .inl h)
        refine ⟨_, rfl, KE.out, ?_⟩
        clear hk
        apply Wg.wpAnyP_stays (by kernel_rfl) [11, 12] _ _ _ 2 _ KE.out (by kernel_rfl) ?hs ?hr
        case hs =>
          repeat (apply Wg.wpStays_step rfl rfl; (intro w' hw'; clear hw'; go_simp; exact ⟨rfl, rfl⟩); go_simp)
          exact rfl
        case hr =>
          have hr9 := KE.out.blk HC3.out
          have f0 : VE.cell? ⟨pc, 0, none⟩ = some (.int .i64 0) := cell_of_row VE pc 0 _ _ _ hr9
          have f1 : VE.cell? ⟨pc, 1, none⟩ = some (.int .i64 0) := cell_of_row VE pc 1 _ _ _ hr9
          have zf0 := frozen_of_row VE pc 0 _ _ hr9
          have zf1 := frozen_of_row VE pc 1 _ _ hr9
          have zl := row_lt hr9
          have HR9 := Lib.hid hr9
          clear hr9
          apply Wg.wpAnyP_one (i := 13) (fuel := 1) (by kernel_rfl) rfl rfl
          go_simp
          refine ⟨trivial, ?_⟩
          apply Wg.wpAnyP_one (i := 14) (fuel := 0) (by kernel_rfl) rfl rfl
          go_simp
          refine ⟨trivial, by kernel_rfl, ?_⟩
          go_simp
          go_wp2_with fail
          obtain ⟨q0, q1⟩ := dec_cells (c := 2) (x := 0) HR9.out
          refine bodyPost_ret (v := .tuple #[.agg #[.int .i64 2, .int .i64 0], .int .i64 0]) (by simp [results, Tryz.results7, go_sem, q0, q1]) rfl ?_
          exact ⟨rfl, ((HK3.out.trans KE.out fun _ h => .inl h).setNew HPC.out _).setNew HPC.out _⟩

end Go.Proofs.YthjokmfidhcclaaGreatDoor
