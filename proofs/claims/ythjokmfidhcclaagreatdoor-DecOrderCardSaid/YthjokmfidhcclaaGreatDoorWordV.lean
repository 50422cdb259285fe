/- Package dec: how many units of a power of ten a number has. -/
import Derived.Test.YthjokmfidhcclaaGreatDoorWordT
import Derived.Test.YthjokmfidhcclaaGreatDoorWordR
import Derived.Test.YthjokmfidhcclaaGreatDoorDec
namespace Go.Proofs.YthjokmfidhcclaaGreatDoor
open Go.RowKit

theorem gint_lt {w : World} {p : Nat} {n : Int} (h : GInt w p n) : p < w.heap.size := by
  obtain ⟨v, h1, _⟩ := h
  exact row_lt h1
theorem gzero_lt {w : World} {p : Nat} (h : GZero w p) : p < w.heap.size := row_lt h

set_option maxRecDepth 100000 in
set_option maxHeartbeats 4000000 in
theorem units_any {w : World} (ht : Thr w) (d : DecV) (e : Int) (n : Nat) (h1 : -9223372036854775808 < d.coef) (h2 : d.coef < 9223372036854775808) (he : d.exp - e = n) (hn : n < 128) :
    Calls Tryz.prog 9 #[.agg #[.int .i64 d.coef, .int .i64 d.exp], .int .i64 e] w fun e' w' => ∃ p, e' = .returned (.pointer (some ⟨p, 0, none⟩)) ∧ GInt w' p (unitsD d e) ∧ Keeps (fun _ => False) w w' ∧ w.heap.size ≤ p := by
  have hu : unitsD d e = d.coef * ((10 ^ n : Nat) : Int) := by
    unfold unitsD
    rw [he, Int.toNat_natCast, Int.natCast_pow]
    rfl
  rw [hu]
  obtain ⟨c, x⟩ := d
  simp only at h1 h2 he ⊢
  have hwn : IntKind.i64.wrap (n : Int) = (n : Int) := by simp only [IntKind.wrap_i64]; omega
  have hlen : (digs 18446744073709551616 (((10 ^ n : Nat) : Int)).natAbs).length ≤ 90 := by
    rw [Int.natAbs_natCast]
    exact ten_lenV (n := 127) (by omega) (by decide)
  have hpos : 0 < (((10 ^ n : Nat) : Int)).natAbs := by rw [Int.natAbs_natCast]; exact Nat.pow_pos (by omega)
  obtain ⟨w1, hw1⟩ : ∃ w1, w.alloc (.cells #[.int .i64 c, .int .i64 x] 23) = w1 := ⟨_, rfl⟩
  obtain ⟨pa, hpa⟩ : ∃ pa, w.heap.size = pa := ⟨_, rfl⟩
  have ha1 : w1.heap[pa]? = some (.cells #[.int .i64 c, .int .i64 x] 23 (0, 0)) := by rw [← hw1, ← hpa]; exact heap_alloc_new _ _
  have HK1 := Lib.hid (show Keeps (fun _ => False) w w1 by rw [← hw1]; exact (Keeps.refl _ _).alloc _)
  have HC := Lib.hid (fun (W : World) (hk : Keeps (fun _ => False) w1 W) => (⟨cell_of_row W pa 0 _ _ _ (hk.blk ha1), cell_of_row W pa 1 _ _ _ (hk.blk ha1)⟩ : W.cell? ⟨pa, 0, none⟩ = some (.int .i64 c) ∧ W.cell? ⟨pa, 1, none⟩ = some (.int .i64 x)))
  have HN := Lib.hid (fun (W : World) (_ : Keeps (fun _ => False) w W) => gNewInt_any (w := W) c h1 h2)
  have HT := Lib.hid (fun (W : World) (hk : Keeps (fun _ => False) w W) => dten_any (w := W) (e := n) (ht.later hk) hn)
  have HM := Lib.hid (fun (W : World) (pz px py : Nat) (hz : GZero W pz) (hx : GInt W px c) (hy : GInt W py ((10 ^ n : Nat) : Int)) (hne : px ≠ py) (hxz : px ≠ pz) (hyz : py ≠ pz) => gMul_any hz hx hy hne hxz hyz (by omega) hpos hlen)
  have HPA := Lib.hid hpa; have HW1 := Lib.hid hw1
  generalize ((10 ^ n : Nat) : Int) = N at *
  clear hu hlen hpos ht ha1
  obtain ⟨d0, d1⟩ := HC.out w1 (Keeps.refl _ _)
  go_enter Tryz.func9, Tryz.ntmps9
  go_upto_region 1 with fail
  have KW0 := Lib.hid (show Keeps (fun _ => False) w1 { w1 with drawn := w1.drawn + 1 } from (Keeps.refl _ w1).drew)
  refine Wg.wp_region_first (C := fun w' => Keeps (fun _ => False) w1 w') (by kernel_rfl) 9 ?_
  generalize { w1 with drawn := w1.drawn + 1 } = W at *
  have KW := Lib.hid KW0.out
  apply Wg.wpAnyP_stays (by kernel_rfl) [1, 2, 4, 5, 6, 7] _ _ _ 5 _ KW.out (by kernel_rfl) ?hs ?hr
  case hs =>
    repeat (apply Wg.wpStays_step rfl rfl; (intro w' hw'; obtain ⟨d0, d1⟩ := HC.out w' hw'; clear hw'; go_simp; exact ⟨rfl, rfl⟩); go_simp)
    exact rfl
  case hr =>
    apply Wg.wpAnyP_two (i := 0) (k := 3) (fuel := 4) (by kernel_rfl) rfl rfl rfl rfl
    · skip
      go_simp
      refine ⟨KW.out.alloc _, ?_⟩
      have hz : GZero (W.alloc (.cells #[.bool false, .slice none 0 0] 40)) W.heap.size := heap_alloc_new _ _
      have hk : Keeps (fun _ => False) W (W.alloc (.cells #[.bool false, .slice none 0 0] 40)) := (Keeps.refl _ _).alloc _
      obtain ⟨pz, hpz⟩ : ∃ q, W.heap.size = q := ⟨_, rfl⟩
      rw [hpz] at hz ⊢
      generalize hw9 : W.alloc (.cells #[.bool false, .slice none 0 0] 40) = V1 at *
      have K1 := Lib.hid (KW.out.trans hk fun _ h => .inl h)
      have ZF := Lib.hid (show w1.heap.size ≤ pz by have := KW.out.size; omega)
      have HZ1 := Lib.hid hz
      clear hz hk hpz hw9
      apply Wg.wpAnyP_one (i := 3) (fuel := 3) (by kernel_rfl) rfl rfl
      go_simp
      refine Wg.plain_call (HN.out V1 (HK1.out.trans K1.out fun _ h => .inl h)) ?_
      rintro e9 V2 ⟨px, rfl, hx, hk, hf⟩
      have K2 := Lib.hid (K1.out.trans hk fun _ h => .inl h)
      have XF := Lib.hid (show w1.heap.size ≤ px by have := K1.out.size; omega)
      have HX2 := Lib.hid hx
      have XL := Lib.hid (show px < V2.heap.size from gint_lt hx)
      have NZX := Lib.hid (show px ≠ pz by have := gzero_lt HZ1.out; omega)
      have HZ2 := Lib.hid (show GZero V2 pz from hk.blk HZ1.out)
      refine ⟨_, rfl, K2.out, ?_⟩
      clear hx hk hf
      apply Wg.wpAnyP_one (i := 8) (fuel := 2) (by kernel_rfl) rfl rfl
      go_simp
      refine Wg.plain_call (HT.out V2 (HK1.out.trans K2.out fun _ h => .inl h)) ?_
      rintro e9 V3 ⟨py, rfl, hx, hk, hf⟩
      have K3 := Lib.hid (K2.out.trans hk fun _ h => .inl h)
      have YF := Lib.hid (show w1.heap.size ≤ py by have := K2.out.size; omega)
      have HY3 := Lib.hid hx
      have YL := Lib.hid (show py < V3.heap.size from gint_lt hx)
      have NZY := Lib.hid (show py ≠ pz by have := gzero_lt HZ2.out; omega)
      have HZ3 := Lib.hid (show GZero V3 pz from hk.blk HZ2.out)
      have NXY := Lib.hid (show px ≠ py by have := XL.out; omega)
      have HX3 := Lib.hid (HX2.out.later hk)
      have XL2 := XL.out
      clear XL
      have XL := Lib.hid (show px < V3.heap.size by have := hk.size; omega)
      clear XL2
      refine ⟨_, rfl, K3.out, ?_⟩
      clear hx hk hf
      apply Wg.wpAnyP_one (i := 9) (fuel := 1) (by kernel_rfl) rfl rfl
      go_simp
      refine Wg.plain_call (HM.out V3 pz px py HZ3.out HX3.out HY3.out NXY.out NZX.out NZY.out) ?_
      rintro e9 V4 ⟨rfl, hx, hk⟩
      have K4 := Lib.hid (K3.out.trans hk fun k e => .inr (by have := ZF.out; omega))
      have HG := Lib.hid hx
      refine ⟨_, rfl, trivial, ?_⟩
      clear hx hk
      apply Wg.wpAnyP_one (i := 10) (fuel := 0) (by kernel_rfl) rfl rfl
      go_simp
      refine ⟨trivial, by kernel_rfl, ?_⟩
      go_simp
      go_wp2_with fail
      go_ret
      exact ⟨pz, rfl, HG.out, HK1.out.trans K4.out fun _ h => .inl h, by have := ZF.out; have := HK1.out.size; omega⟩
    · skip
      go_simp
      refine Wg.plain_call (HN.out W (HK1.out.trans KW.out fun _ h => .inl h)) ?_
      rintro e9 V1 ⟨px, rfl, hx, hk, hf⟩
      have K1 := Lib.hid (KW.out.trans hk fun _ h => .inl h)
      have XF := Lib.hid (show w1.heap.size ≤ px by have := KW.out.size; omega)
      have HX1 := Lib.hid hx
      have XL := Lib.hid (show px < V1.heap.size from gint_lt hx)
      refine ⟨_, rfl, K1.out, ?_⟩
      clear hx hk hf
      apply Wg.wpAnyP_two (i := 0) (k := 8) (fuel := 3) (by kernel_rfl) rfl rfl rfl rfl
      · skip
        go_simp
        refine ⟨K1.out.alloc _, ?_⟩
        have hz : GZero (V1.alloc (.cells #[.bool false, .slice none 0 0] 40)) V1.heap.size := heap_alloc_new _ _
        have hk : Keeps (fun _ => False) V1 (V1.alloc (.cells #[.bool false, .slice none 0 0] 40)) := (Keeps.refl _ _).alloc _
        obtain ⟨pz, hpz⟩ : ∃ q, V1.heap.size = q := ⟨_, rfl⟩
        rw [hpz] at hz ⊢
        generalize hw9 : V1.alloc (.cells #[.bool false, .slice none 0 0] 40) = V2 at *
        have K2 := Lib.hid (K1.out.trans hk fun _ h => .inl h)
        have ZF := Lib.hid (show w1.heap.size ≤ pz by have := K1.out.size; omega)
        have HZ2 := Lib.hid hz
        have HX2 := Lib.hid (HX1.out.later hk)
        have NZX := Lib.hid (show px ≠ pz by have := XL.out; omega)
        have XL2 := XL.out
        clear XL
        have XL := Lib.hid (show px < V2.heap.size by have := hk.size; omega)
        clear XL2
        clear hz hk hpz hw9
        apply Wg.wpAnyP_one (i := 8) (fuel := 2) (by kernel_rfl) rfl rfl
        go_simp
        refine Wg.plain_call (HT.out V2 (HK1.out.trans K2.out fun _ h => .inl h)) ?_
        rintro e9 V3 ⟨py, rfl, hx, hk, hf⟩
        have K3 := Lib.hid (K2.out.trans hk fun _ h => .inl h)
        have YF := Lib.hid (show w1.heap.size ≤ py by have := K2.out.size; omega)
        have HY3 := Lib.hid hx
        have YL := Lib.hid (show py < V3.heap.size from gint_lt hx)
        have NZY := Lib.hid (show py ≠ pz by have := gzero_lt HZ2.out; omega)
        have HZ3 := Lib.hid (show GZero V3 pz from hk.blk HZ2.out)
        have NXY := Lib.hid (show px ≠ py by have := XL.out; omega)
        have HX3 := Lib.hid (HX2.out.later hk)
        have XL2 := XL.out
        clear XL
        have XL := Lib.hid (show px < V3.heap.size by have := hk.size; omega)
        clear XL2
        refine ⟨_, rfl, K3.out, ?_⟩
        clear hx hk hf
        apply Wg.wpAnyP_one (i := 9) (fuel := 1) (by kernel_rfl) rfl rfl
        go_simp
        refine Wg.plain_call (HM.out V3 pz px py HZ3.out HX3.out HY3.out NXY.out NZX.out NZY.out) ?_
        rintro e9 V4 ⟨rfl, hx, hk⟩
        have K4 := Lib.hid (K3.out.trans hk fun k e => .inr (by have := ZF.out; omega))
        have HG := Lib.hid hx
        refine ⟨_, rfl, trivial, ?_⟩
        clear hx hk
        apply Wg.wpAnyP_one (i := 10) (fuel := 0) (by kernel_rfl) rfl rfl
        go_simp
        refine ⟨trivial, by kernel_rfl, ?_⟩
        go_simp
        go_wp2_with fail
        go_ret
        exact ⟨pz, rfl, HG.out, HK1.out.trans K4.out fun _ h => .inl h, by have := ZF.out; have := HK1.out.size; omega⟩
      · skip
        go_simp
        refine Wg.plain_call (HT.out V1 (HK1.out.trans K1.out fun _ h => .inl h)) ?_
        rintro e9 V2 ⟨py, rfl, hx, hk, hf⟩
        have K2 := Lib.hid (K1.out.trans hk fun _ h => .inl h)
        have YF := Lib.hid (show w1.heap.size ≤ py by have := K1.out.size; omega)
        have HY2 := Lib.hid hx
        have YL := Lib.hid (show py < V2.heap.size from gint_lt hx)
        have NXY := Lib.hid (show px ≠ py by have := XL.out; omega)
        have HX2 := Lib.hid (HX1.out.later hk)
        have XL2 := XL.out
        clear XL
        have XL := Lib.hid (show px < V2.heap.size by have := hk.size; omega)
        clear XL2
        refine ⟨_, rfl, K2.out, ?_⟩
        clear hx hk hf
        apply Wg.wpAnyP_one (i := 0) (fuel := 2) (by kernel_rfl) rfl rfl
        go_simp
        refine ⟨K2.out.alloc _, ?_⟩
        have hz : GZero (V2.alloc (.cells #[.bool false, .slice none 0 0] 40)) V2.heap.size := heap_alloc_new _ _
        have hk : Keeps (fun _ => False) V2 (V2.alloc (.cells #[.bool false, .slice none 0 0] 40)) := (Keeps.refl _ _).alloc _
        obtain ⟨pz, hpz⟩ : ∃ q, V2.heap.size = q := ⟨_, rfl⟩
        rw [hpz] at hz ⊢
        generalize hw9 : V2.alloc (.cells #[.bool false, .slice none 0 0] 40) = V3 at *
        have K3 := Lib.hid (K2.out.trans hk fun _ h => .inl h)
        have ZF := Lib.hid (show w1.heap.size ≤ pz by have := K2.out.size; omega)
        have HZ3 := Lib.hid hz
        have HX3 := Lib.hid (HX2.out.later hk)
        have NZX := Lib.hid (show px ≠ pz by have := XL.out; omega)
        have XL2 := XL.out
        clear XL
        have XL := Lib.hid (show px < V3.heap.size by have := hk.size; omega)
        clear XL2
        have HY3 := Lib.hid (HY2.out.later hk)
        have NZY := Lib.hid (show py ≠ pz by have := YL.out; omega)
        have YL2 := YL.out
        clear YL
        have YL := Lib.hid (show py < V3.heap.size by have := hk.size; omega)
        clear YL2
        clear hz hk hpz hw9
        apply Wg.wpAnyP_one (i := 9) (fuel := 1) (by kernel_rfl) rfl rfl
        go_simp
        refine Wg.plain_call (HM.out V3 pz px py HZ3.out HX3.out HY3.out NXY.out NZX.out NZY.out) ?_
        rintro e9 V4 ⟨rfl, hx, hk⟩
        have K4 := Lib.hid (K3.out.trans hk fun k e => .inr (by have := ZF.out; omega))
        have HG := Lib.hid hx
        refine ⟨_, rfl, trivial, ?_⟩
        clear hx hk
        apply Wg.wpAnyP_one (i := 10) (fuel := 0) (by kernel_rfl) rfl rfl
        go_simp
        refine ⟨trivial, by kernel_rfl, ?_⟩
        go_simp
        go_wp2_with fail
        go_ret
        exact ⟨pz, rfl, HG.out, HK1.out.trans K4.out fun _ h => .inl h, by have := ZF.out; have := HK1.out.size; omega⟩

end Go.Proofs.YthjokmfidhcclaaGreatDoor
