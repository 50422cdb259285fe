/- The law TestsTell, walked: whatever the test, the value and the type, it answers yes. -/
import Derived.Test.YtnihfhfakadepaaGreatDoorXLawA
namespace Go.Proofs.YtnihfhfakadepaaGreatDoor
open Go.RowKit
set_option maxRecDepth 100000 in
set_option maxHeartbeats 16000000 in
theorem law_c {w : World} {t : Tst} {v : Val} (hto : TOk w t) (hv : VOk w (fun _ => False) v) (eT eV R ty : Int) (fb : Bool) (Ay : Option Addr) (ny cy : Nat) (h0 : 0 ≤ R) (h2 : R ≤ 2)
    (hW : ∀ W, Keeps (fun _ => False) w W → Says 4 #[.agg t.cells.toArray] W eT) (hR5 : ∀ W, Keeps (fun _ => False) w W → Says 5 #[.agg t.cells.toArray] W eT)
    (hD : ∀ W, Keeps (fun _ => False) w W → Calls Tryz.prog 6 #[.agg t.cells.toArray, .agg v.cells.toArray] W fun e w' => e = .returned (if eT ≠ 0 then .tuple #[.agg zero6, .int .i64 eT] else if eV ≠ 0 then .tuple #[.agg zero6, .int .i64 eV] else .tuple #[.agg (hC R), .int .i64 0]) ∧ Keeps (fun _ => False) W w')
    (hR7 : ∀ W, Keeps (fun _ => False) w W → Calls Tryz.prog 7 #[.agg v.cells.toArray] W fun e w' => e = .returned (.int .i64 eV) ∧ Keeps (fun _ => False) W w')
    (hR10 : eT = 0 → ∀ W, Keeps (fun _ => False) w W → Says 10 #[.agg t.cells.toArray, .agg v.cells.toArray] W R)
    (hF11 : eT = 0 → ∀ W, Keeps (fun _ => False) w W → SaysB 11 #[.agg t.cells.toArray, .agg #[.int .i64 ty, .slice Ay ny cy]] W fb)
    (hF12 : eT = 0 → ∀ W, Keeps (fun _ => False) w W → SaysB 12 #[.agg t.cells.toArray, .agg #[.int .i64 ty, .slice Ay ny cy]] W fb) (hT : eT = 0 ∧ eV = 0) :
    Calls Tryz.prog 3 #[.agg t.cells.toArray, .agg v.cells.toArray, .agg #[.int .i64 ty, .slice Ay ny cy]] w fun e w' => e = .returned (.bool true) ∧ Keeps (fun _ => False) w w' := by
  obtain ⟨w2, pa, pb, pc, e2, epa, epb, epc, k2, ba, bb, bc⟩ := law_boxes w t.cells.toArray v.cells.toArray #[.int .i64 ty, .slice Ay ny cy]
  have HW := Lib.hid (fun (W : World) (hk : Keeps (fun _ => False) w2 W) => hW W (k2.trans hk fun _ h => .inl h))
  have HR5 := Lib.hid (fun (W : World) (hk : Keeps (fun _ => False) w2 W) => hR5 W (k2.trans hk fun _ h => .inl h))
  have HD1 := Lib.hid (show ∀ (h : eT ≠ 0) (W : World) (hk : Keeps (fun _ => False) w2 W), Calls Tryz.prog 6 #[.agg t.cells.toArray, .agg v.cells.toArray] W fun e w' => e = .returned (.tuple #[.agg #[.int .i64 0, .bool false, .int .i64 0, .int .i64 0, .string ⟨#[]⟩, .slice none 0 0], .int .i64 eT]) ∧ Keeps (fun _ => False) W w' from fun h W hk => (hD W (k2.trans hk fun _ h => .inl h)).mono fun e w' ⟨q1, q2⟩ => ⟨q1.trans (by rw [if_pos h]), q2⟩)
  have HD2 := Lib.hid (show ∀ (h : eT = 0) (h' : eV ≠ 0) (W : World) (hk : Keeps (fun _ => False) w2 W), Calls Tryz.prog 6 #[.agg t.cells.toArray, .agg v.cells.toArray] W fun e w' => e = .returned (.tuple #[.agg #[.int .i64 0, .bool false, .int .i64 0, .int .i64 0, .string ⟨#[]⟩, .slice none 0 0], .int .i64 eV]) ∧ Keeps (fun _ => False) W w' from fun h h' W hk => (hD W (k2.trans hk fun _ h => .inl h)).mono fun e w' ⟨q1, q2⟩ => ⟨q1.trans (by rw [if_neg (by omega), if_pos h']), q2⟩)
  have HD3 := Lib.hid (show ∀ (h : eT = 0) (h' : eV = 0) (W : World) (hk : Keeps (fun _ => False) w2 W), Calls Tryz.prog 6 #[.agg t.cells.toArray, .agg v.cells.toArray] W fun e w' => e = .returned (.tuple #[.agg #[.int .i64 (kH R), .bool (yH R), .int .i64 0, .int .i64 0, .string ⟨#[]⟩, .slice none 0 0], .int .i64 0]) ∧ Keeps (fun _ => False) W w' from fun h h' W hk => (hD W (k2.trans hk fun _ h => .inl h)).mono fun e w' ⟨q1, q2⟩ => ⟨q1.trans (by rw [if_neg (by omega), if_neg (by omega)]; rfl), q2⟩)
  have HR7 := Lib.hid (fun (W : World) (hk : Keeps (fun _ => False) w2 W) => hR7 W (k2.trans hk fun _ h => .inl h))
  have HR10 := Lib.hid (fun (h : eT = 0) (W : World) (hk : Keeps (fun _ => False) w2 W) => hR10 h W (k2.trans hk fun _ h => .inl h))
  have HF11 := Lib.hid (fun (h : eT = 0) (W : World) (hk : Keeps (fun _ => False) w2 W) => hF11 h W (k2.trans hk fun _ h => .inl h))
  have HF12 := Lib.hid (fun (h : eT = 0) (W : World) (hk : Keeps (fun _ => False) w2 W) => hF12 h W (k2.trans hk fun _ h => .inl h))
  have HO9 := Lib.hid (fun W : World => (of_any (w := W) R h0 h2).frm)
  have HS8 := Lib.hid (fun W : World => sameK_any (w := W) (kH R) (yH R))
  have hAT : ∀ W, Keeps (fun _ => False) w2 W → At W pa 0 t.cells := fun W hk j u hj => by rw [Nat.zero_add, cell_of_row W pa j _ _ _ (hk.blk ba), List.getElem?_toArray]; exact hj
  have HVV := Lib.hid (fun (W : World) (hk : Keeps (fun _ => False) w2 W) => hk.blk bb)
  have HTY := Lib.hid (fun (W : World) (hk : Keeps (fun _ => False) w2 W) => (⟨cell_of_row W pc 0 _ _ _ (hk.blk bc), cell_of_row W pc 1 _ _ _ (hk.blk bc)⟩ : W.cell? ⟨pc, 0, none⟩ = some (.int .i64 ty) ∧ W.cell? ⟨pc, 1, none⟩ = some (.slice Ay ny cy)))
  have K2 := Lib.hid k2
  have HEP := Lib.hid (And.intro e2 (And.intro epa (And.intro epb epc)))
  have KR := Lib.hid (Keeps.refl (fun _ => False) w2)
  clear k2 ba bb bc hW hR5 hD hR7 hR10 hF11 hF12
  obtain ⟨kd, va, vb, oa, ob, kvv, l⟩ := t
  obtain ⟨hva, hvb, hrow, hkids⟩ := hto.parts
  obtain ⟨kv, yv, dv, tv, lv, ev⟩ := v
  obtain ⟨ka, ya, da, ta, la, ea⟩ := va
  obtain ⟨kb, yb, db, tb, lb, eb⟩ := vb
  obtain ⟨Av, nv, cv, hlv⟩ := hv.slice
  obtain ⟨Aa, na, ca, hla⟩ := hva.slice
  obtain ⟨Ab, nb, cb, hlb⟩ := hvb.slice
  obtain ⟨Ak, nk, ck, hkv⟩ := hrow.slice
  subst hla hlb hkv hlv
  have HVC := Lib.hid (fun (W : World) (hk : Keeps (fun _ => False) w2 W) => cells6 (HVV.out W hk))
  have HAT := Lib.hid (fun (W : World) (hk : Keeps (fun _ => False) w2 W) => cells16 (hAT W hk))
  unfold Says at HW HR5 HR10
  unfold SaysB at HF11 HF12
  simp only [Tst.cells, Val.cells] at e2 HW HR5 HD1 HD2 HD3 HR7 HR10 HF11 HF12 ⊢
  clear HVV hva hvb hrow hkids hto hv hAT h0 h2
  (obtain ⟨u0, u1, u2, u3, u4, u5, u6, u7, u8, u9, u10, u11, u12, u13, u14, u15⟩ := HAT.out w2 KR.out)
  obtain ⟨hT, hV⟩ := hT
  subst hT hV
  have HDX := Lib.hid (HD3.out rfl rfl)
  have HX10 := Lib.hid (HR10.out rfl); have HX11 := Lib.hid (HF11.out rfl); have HX12 := Lib.hid (HF12.out rfl)
  clear HD1 HD2 HD3 HR10 HF11 HF12
  as_aux_lemma =>
  go_enter Tryz.func3, Tryz.ntmps3
  go_upto_region 1 with fail
  have KW := Lib.hid (show Keeps (fun _ => False) w2 { w2 with drawn := w2.drawn + 1 } from (Keeps.refl _ w2).drew)
  clear u0 u1 u2 u3 u4 u5 u6 u7 u8 u9 u10 u11 u12 u13 u14 u15
  refine Wg.wp_region_first (C := fun w' => Keeps (fun _ => False) w2 w') (by kernel_rfl) 4 ?_
  generalize { w2 with drawn := w2.drawn + 1 } = W at *
  apply Wg.wpAnyP_stays (by kernel_rfl) [0, 2] _ _ _ 3 _ KW.out (by kernel_rfl) ?hs ?hr
  case hs =>
    repeat (apply Wg.wpStays_step rfl rfl; (intro w' hw'; (obtain ⟨u0, u1, u2, u3, u4, u5, u6, u7, u8, u9, u10, u11, u12, u13, u14, u15⟩ := HAT.out w' hw'); clear hw'; go_simp; exact ⟨rfl, rfl⟩); go_simp)
    exact rfl
  case hr =>
    apply Wg.wpAnyP_one (i := 1) (fuel := 2) (by kernel_rfl) rfl rfl
    go_simp
    refine Wg.plain_call (HW.out W KW.out) ?_
    rintro e W1 ⟨rfl, hk⟩
    have K1 := Lib.hid (KW.out.trans hk fun _ h => .inl h)
    refine ⟨_, rfl, K1.out, ?_⟩
    clear hk
    apply Wg.wpAnyP_one (i := 3) (fuel := 1) (by kernel_rfl) rfl rfl
    go_simp
    refine Wg.plain_call (HR5.out W1 K1.out) ?_
    rintro e W3 ⟨rfl, hk⟩
    have K3 := Lib.hid (K1.out.trans hk fun _ h => .inl h)
    refine ⟨_, rfl, K3.out, ?_⟩
    clear hk
    apply Wg.wpAnyP_one (i := 4) (fuel := 0) (by kernel_rfl) rfl rfl
    go_simp
    refine ⟨trivial, by kernel_rfl, ?_⟩
    go_simp
    (obtain ⟨u0, u1, u2, u3, u4, u5, u6, u7, u8, u9, u10, u11, u12, u13, u14, u15⟩ := HAT.out W3 K3.out)
    (obtain ⟨v0, v1, v2, v3, v4, v5, _⟩ := HVC.out W3 K3.out)
    as_aux_lemma =>
    go_upto_region 4 with (go_at_call 6; ((with_reducible refine (HDX.out _ K3.out).mono ?_); rintro e W4 ⟨rfl, hk⟩; have K4 := Lib.hid (K3.out.trans hk fun _ h => .inl h); clear hk; clear u0 u1 u2 u3 u4 u5 u6 u7 u8 u9 u10 u11 u12 u13 u14 u15; clear v0 v1 v2 v3 v4 v5))
    have hb9 := heap_alloc_new W4 (.cells #[.int .i64 (kH R), .bool (yH R), .int .i64 0, .int .i64 0, .string ⟨#[]⟩, .slice none 0 0] 26)
    have hk9 := K4.out.alloc (.cells #[.int .i64 (kH R), .bool (yH R), .int .i64 0, .int .i64 0, .string ⟨#[]⟩, .slice none 0 0] 26)
    obtain ⟨p9, hp9⟩ : ∃ q, W4.heap.size = q := ⟨_, rfl⟩
    rw [hp9] at hb9 ⊢
    generalize W4.alloc (.cells #[.int .i64 (kH R), .bool (yH R), .int .i64 0, .int .i64 0, .string ⟨#[]⟩, .slice none 0 0] 26) = W5 at *
    have K5 := Lib.hid hk9
    have HB9 := Lib.hid (fun (W : World) (hk : Keeps (fun _ => False) W5 W) => cells6 (hk.blk hb9))
    have KR5 := Lib.hid (Keeps.refl (fun _ => False) W5)
    clear hb9 hk9
    (obtain ⟨u0, u1, u2, u3, u4, u5, u6, u7, u8, u9, u10, u11, u12, u13, u14, u15⟩ := HAT.out W5 K5.out)
    go_upto_region 10 with (first | (go_at_call 5; ((with_reducible refine (HR5.out _ K5.out).mono ?_); rintro e W6 ⟨rfl, hk⟩; have K6 := Lib.hid (K5.out.trans hk fun _ h => .inl h); have K56 := Lib.hid (KR5.out.trans hk fun _ h => .inl h); clear hk; clear u0 u1 u2 u3 u4 u5 u6 u7 u8 u9 u10 u11 u12 u13 u14 u15; (obtain ⟨z0, z1, z2, z3, z4, z5, _⟩ := HB9.out W6 K56.out); (obtain ⟨v0, v1, v2, v3, v4, v5, _⟩ := HVC.out W6 K6.out))) | (go_at_call 7; ((with_reducible refine (HR7.out _ K6.out).mono ?_); rintro e W7 ⟨rfl, hk⟩; have K7 := Lib.hid (K6.out.trans hk fun _ h => .inl h); have K57 := Lib.hid (K56.out.trans hk fun _ h => .inl h); clear hk v0 v1 v2 v3 v4 v5 z0 z1 z2 z3 z4 z5)))
    as_aux_lemma =>
    have KD := Lib.hid (show Keeps (fun _ => False) W7 { W7 with drawn := W7.drawn + 1 } from (Keeps.refl _ W7).drew)
    refine Wg.wp_region_first (C := fun w' => Keeps (fun _ => False) W7 w') (by kernel_rfl) 19 ?_
    generalize { W7 with drawn := W7.drawn + 1 } = X at *
    apply Wg.wpAnyP_stays (by kernel_rfl) [0, 1, 2, 3, 4, 5] _ _ _ 14 _ KD.out (by kernel_rfl) ?hs ?hr
    case hs =>
      (iterate 3 (apply Wg.wpStays_step rfl rfl; (intro w' hw'; clear hw'; go_simp; exact ⟨rfl, rfl⟩); go_simp))
      (iterate 3 (apply Wg.wpStays_wanted rfl; (first | rfl | (go_simp; done)); (intro w' hw'; (obtain ⟨u0, u1, u2, u3, u4, u5, u6, u7, u8, u9, u10, u11, u12, u13, u14, u15⟩ := HAT.out w' (K7.out.trans hw' fun _ h => .inl h)); (obtain ⟨v0, v1, v2, v3, v4, v5, _⟩ := HVC.out w' (K7.out.trans hw' fun _ h => .inl h)); (obtain ⟨z0, z1, z2, z3, z4, z5, _⟩ := HB9.out w' (K57.out.trans hw' fun _ h => .inl h)); clear hw'; go_simp; exact ⟨rfl, rfl⟩); go_simp))
      exact rfl
    case hr =>
      apply Wg.wpAnyP_oneW (i := 6) (fuel := 13) (by kernel_rfl) rfl (by first | rfl | (go_simp; done))
      go_simp
      refine Wg.plain_call (HX10.out X (K7.out.trans KD.out fun _ h => .inl h)) ?_
      rintro e X1 ⟨rfl, hk⟩
      have J1 := Lib.hid (KD.out.trans hk fun _ h => .inl h)
      refine ⟨_, rfl, J1.out, ?_⟩
      clear hk
      apply Wg.wpAnyP_oneW (i := 7) (fuel := 12) (by kernel_rfl) rfl (by first | rfl | (go_simp; done))
      go_simp
      refine Wg.plain_call (HO9.out X1) ?_
      rintro e X2 ⟨rfl, hk⟩
      have J2 := Lib.hid (J1.out.trans hk fun _ h => .inl h)
      refine ⟨_, rfl, J2.out, ?_⟩
      clear hk
      apply Wg.wpAnyP_oneW (i := 8) (fuel := 11) (by kernel_rfl) rfl (by first | rfl | (go_simp; done))
      go_simp
      refine Wg.plain_call (HS8.out X2) ?_
      rintro e X3 ⟨rfl, hk⟩
      have J3 := Lib.hid (J2.out.trans hk fun _ h => .inl h)
      refine ⟨_, rfl, J3.out, ?_⟩
      clear hk
      apply Wg.wpAnyP_one (i := 9) (fuel := 10) (by kernel_rfl) rfl rfl
      go_simp
      refine ⟨J3.out, ?_⟩
      apply Wg.wpAnyP_one (i := 10) (fuel := 9) (by kernel_rfl) rfl rfl
      go_simp
      refine ⟨J3.out, ?_⟩
      apply Wg.wpAnyP_stays (by kernel_rfl) [11, 12, 14, 15] _ _ _ 5 _ J3.out (by kernel_rfl) ?hs2 ?hr2
      case hs2 =>
        (iterate 4 (apply Wg.wpStays_wanted rfl; (first | rfl | (go_simp; done)); (intro w' hw'; (obtain ⟨u0, u1, u2, u3, u4, u5, u6, u7, u8, u9, u10, u11, u12, u13, u14, u15⟩ := HAT.out w' (K7.out.trans hw' fun _ h => .inl h)); (obtain ⟨y0, y1⟩ := HTY.out w' (K7.out.trans hw' fun _ h => .inl h)); clear hw'; go_simp; exact ⟨rfl, rfl⟩); go_simp))
        exact rfl
      case hr2 =>
        apply Wg.wpAnyP_oneW (i := 13) (fuel := 4) (by kernel_rfl) rfl (by first | rfl | (go_simp; done))
        go_simp
        refine Wg.plain_call (HX11.out X3 (K7.out.trans J3.out fun _ h => .inl h)) ?_
        rintro e X4 ⟨rfl, hk⟩
        have J4 := Lib.hid (J3.out.trans hk fun _ h => .inl h)
        refine ⟨_, rfl, J4.out, ?_⟩
        clear hk
        apply Wg.wpAnyP_oneW (i := 16) (fuel := 3) (by kernel_rfl) rfl (by first | rfl | (go_simp; done))
        go_simp
        refine Wg.plain_call (HX12.out X4 (K7.out.trans J4.out fun _ h => .inl h)) ?_
        rintro e X5 ⟨rfl, hk⟩
        have J5 := Lib.hid (J4.out.trans hk fun _ h => .inl h)
        refine ⟨_, rfl, J5.out, ?_⟩
        clear hk
        apply Wg.wpAnyP_oneW (i := 17) (fuel := 2) (by kernel_rfl) rfl (by first | rfl | (go_simp; done))
        go_simp
        refine ⟨J5.out, ?_⟩
        apply Wg.wpAnyP_one (i := 18) (fuel := 1) (by kernel_rfl) rfl rfl
        go_simp
        refine ⟨J5.out, ?_⟩
        apply Wg.wpAnyP_one (i := 19) (fuel := 0) (by kernel_rfl) rfl rfl
        go_simp
        refine ⟨trivial, by kernel_rfl, ?_⟩
        go_simp
        go_wp2_with fail
        go_ret
        exact ⟨by simp, (K2.out.trans K7.out fun _ h => .inl h).trans J5.out fun _ h => .inl h⟩

end Go.Proofs.YtnihfhfakadepaaGreatDoor
