/- Package verdictref8: what a test says of a value. -/
import Derived.Test.YtnihfhfakadepaaGreatDoorXAppIn
import Derived.Test.YtnihfhfakadepaaGreatDoorXLessB
namespace Go.Proofs.YtnihfhfakadepaaGreatDoor
open Go.RowKit
set_option maxRecDepth 100000 in
set_option maxHeartbeats 4000000 in
theorem least_any {w : World} (a b : Int) : Says 19 #[.int .i64 a, .int .i64 b] w (min a b) := by
  unfold Says
  by_cases h : a < b
  · have hm : min a b = a := by omega
    rw [hm]
    clear hm
    go_enter Tryz.func19, Tryz.ntmps19
    go_wp2
    go_ret
    exact ⟨rfl, Keeps.refl _ _⟩
  · have hm : min a b = b := by omega
    rw [hm]
    clear hm
    go_enter Tryz.func19, Tryz.ntmps19
    go_wp2
    go_ret
    exact ⟨rfl, Keeps.refl _ _⟩

/-- Two boxes: a test and a value. -/
theorem testval_boxes (w : World) (ca cb : Array Value) : ∃ w2 pa pb, ((w.alloc (.cells ca 29)).alloc (.cells cb 26)) = w2 ∧ w.heap.size = pa ∧ pa + 1 = pb ∧ Keeps (fun _ => False) w w2 ∧ w2.heap[pa]? = some (.cells ca 29 (0, 0)) ∧ w2.heap[pb]? = some (.cells cb 26 (0, 0)) := by
  have k1 : Keeps (fun _ => False) w (w.alloc (.cells ca 29)) := (Keeps.refl _ _).alloc _
  have k2 : Keeps (fun _ => False) (w.alloc (.cells ca 29)) ((w.alloc (.cells ca 29)).alloc (.cells cb 26)) := (Keeps.refl _ _).alloc _
  have a := heap_alloc_new w (.cells ca 29)
  have b := heap_alloc_new (w.alloc (.cells ca 29)) (.cells cb 26)
  have s1 : (w.alloc (.cells ca 29)).heap.size = w.heap.size + 1 := by simp
  rw [s1] at b
  exact ⟨_, _, _, rfl, rfl, rfl, k1.trans k2 fun _ h => .inl h, k2.blk a, b⟩

set_option maxRecDepth 100000 in
set_option maxHeartbeats 16000000 in
theorem rdoes_any (hdiv : DivSays) (m : Nat) : ∀ (t : Tst), SizeOf.sizeOf t < m → ∀ (w : World) (v : Val), TOk w t → TGood t → (∃ A n c, v.lv = .slice A n c) →
    Says 10 #[.agg t.cells.toArray, .agg v.cells.toArray] w (doesT t v) := by
  induction m with
  | zero => intro t h; omega
  | succ m ih =>
    intro t hm w v hto hg hv
    obtain ⟨kd, va, vb, oa, ob, kvv, l⟩ := t
    obtain ⟨hva, hvb, hrow, hkids⟩ := hto.parts
    obtain ⟨g1, g2, g3, g4⟩ := hg.parts
    have HL1 := Lib.hid (fun (W : World) => rless_any hdiv (w := W) v va hv (by obtain ⟨_, _, _, _, lv, _⟩ := va; exact hva.slice))
    have HL2 := Lib.hid (fun (W : World) => rless_any hdiv (w := W) va v (by obtain ⟨_, _, _, _, lv, _⟩ := va; exact hva.slice) hv)
    have HL3 := Lib.hid (fun (W : World) => rless_any hdiv (w := W) v vb hv (by obtain ⟨_, _, _, _, lv, _⟩ := vb; exact hvb.slice))
    have HL4 := Lib.hid (fun (W : World) => rless_any hdiv (w := W) vb v (by obtain ⟨_, _, _, _, lv, _⟩ := vb; exact hvb.slice) hv)
    have HEQ := Lib.hid (fun (h2 : kd = 2) (W : World) => requal_any (w := W) v va hv (by obtain ⟨_, _, _, _, lv, _⟩ := va; exact hva.slice) (g3 h2).1 (g3 h2).2)
    have HSZ := Lib.hid (show ∀ (k : Nat) (x : Tst), l[k]? = some x → SizeOf.sizeOf x < m from fun k x h => by have := Tst.lt_of_get (k := kd) (a := va) (b := vb) (oa := oa) (ob := ob) (kv := kvv) h; omega)
    have HDEF := Lib.hid (show doesT (.mk kd va vb oa ob kvv l) v = if kd = 2 then eqH v va else if kd = 3 then lessH v va else if kd = 4 then 2 - lessH va v else if kd = 5 then lessH va v else if kd = 6 then 2 - lessH v va
      else if kd = 7 then min (if oa then lessH va v else 2 - lessH v va) (if ob then lessH v vb else 2 - lessH vb v) else if kd = 8 then doesL l v 0 else if kd = 9 then 2 - doesL l v 0 else 2 by unfold doesT; rfl)
    obtain ⟨b10, b12⟩ := lessH_bd v va
    obtain ⟨b20, b22⟩ := lessH_bd va v
    obtain ⟨b30, b32⟩ := lessH_bd v vb
    obtain ⟨b40, b42⟩ := lessH_bd vb v
    generalize doesT (.mk kd va vb oa ob kvv l) v = R at *
    generalize hx1 : lessH v va = L1 at *
    generalize hx2 : lessH va v = L2 at *
    generalize hx3 : lessH v vb = L3 at *
    generalize hx4 : lessH vb v = L4 at *
    generalize hx5 : eqH v va = E1 at *
    clear hx1 hx2 hx3 hx4 hx5 g3 hg
    obtain ⟨w2, pa, pb, e2, epa, epb, k2, ba, bb⟩ := testval_boxes w (Tst.mk kd va vb oa ob kvv l).cells.toArray v.cells.toArray
    have HAT := Lib.hid (show ∀ W, Keeps (fun _ => False) w2 W → At W pa 0 (Tst.mk kd va vb oa ob kvv l).cells from fun W hk j u hj => by rw [Nat.zero_add, cell_of_row W pa j _ _ _ (hk.blk ba), List.getElem?_toArray]; exact hj)
    have HVV := Lib.hid (fun (W : World) (hk : Keeps (fun _ => False) w2 W) => hk.blk bb)
    have HIH := Lib.hid (fun (k : Nat) (x : Tst) (hx : l[k]? = some x) (h8 : 8 ≤ kd) (W : World) (hk : Keeps (fun _ => False) w2 W) => ih x (HSZ.out k x hx) W v (TOk.later (k2.trans hk fun _ h => .inl h) x (hkids.get hx)) ((g4 h8).get hx) hv)
    have HKD := Lib.hid (fun (k : Nat) (x : Tst) (hx : l[k]? = some x) => hkids.get hx)
    have HDB := Lib.hid (fun (x : Tst) => doesT_bd x v)
    obtain ⟨kv, yv, dv, tv, lv, ev⟩ := v
    obtain ⟨ka, ya, da, ta, la, ea⟩ := va
    obtain ⟨kb, yb, db, tb, lb, eb⟩ := vb
    obtain ⟨Aa, na, ca, hla⟩ := hva.slice
    obtain ⟨Ab, nb, cb, hlb⟩ := hvb.slice
    obtain ⟨Ak, nk, ck, hkv⟩ := hrow.slice
    obtain ⟨Av, nv, cv, hlv⟩ := hv
    simp only [Val.lv] at hlv
    subst hla hlb hkv hlv
    have HVC := Lib.hid (fun (W : World) (hk : Keeps (fun _ => False) w2 W) => cells6 (HVV.out W hk))
    unfold Says at HL1 HL2 HL3 HL4 HEQ HIH
    simp only [Val.cells] at HL1 HL2 HL3 HL4 HEQ HIH
    simp only [Tst.cells, Val.cells] at e2 ⊢
    have K2 := Lib.hid k2
    have HEP := Lib.hid (And.intro e2 (And.intro epa epb))
    have FY := Lib.hid (show ∀ r, R = r → Ending.returned (.int .i64 r) = .returned (.int .i64 R) from fun r h => by rw [h])
    have KR := Lib.hid (Keeps.refl (fun _ => False) w2)
    unfold Says
    clear HVV k2 ba bb hva hvb hkids ih g4 hto
    go_enter Tryz.func10, Tryz.ntmps10
    go_upto_region 1 with fail
    have KW := Lib.hid (show Keeps (fun _ => False) w2 { w2 with drawn := w2.drawn + 1 } from (Keeps.refl _ w2).drew)
    refine Wg.wp_region_first (C := fun w' => Keeps (fun _ => False) w2 w') (by kernel_rfl) 9 ?_
    generalize { w2 with drawn := w2.drawn + 1 } = W at *
    apply Wg.wpAnyP_stays (by kernel_rfl) [0, 1, 2, 4, 5, 6] _ _ _ 4 _ KW.out (by kernel_rfl) ?hs ?hr
    case hs =>
      repeat (apply Wg.wpStays_step rfl rfl; (intro w' hw'; obtain ⟨a1, a2, a3, a4, a5, a6⟩ := (HAT.out w' hw').partA; obtain ⟨v0, v1, v2, v3, v4, v5, _⟩ := HVC.out w' hw'; simp only [Nat.zero_add] at a1 a2 a3 a4 a5 a6; clear hw'; go_simp; exact ⟨rfl, rfl⟩); go_simp)
      exact rfl
    case hr =>
      apply Wg.wpAnyP_one (i := 3) (fuel := 3) (by kernel_rfl) rfl rfl
      go_simp
      refine Wg.plain_call (HL1.out W) ?_
      rintro e V1 ⟨rfl, hk⟩
      have J1 := Lib.hid (KW.out.trans hk fun _ h => .inl h)
      refine ⟨_, rfl, J1.out, ?_⟩
      clear hk
      apply Wg.wpAnyP_one (i := 7) (fuel := 2) (by kernel_rfl) rfl rfl
      go_simp
      refine Wg.plain_call (HL2.out V1) ?_
      rintro e V2 ⟨rfl, hk⟩
      have J2 := Lib.hid (J1.out.trans hk fun _ h => .inl h)
      refine ⟨_, rfl, J2.out, ?_⟩
      clear hk
      apply Wg.wpAnyP_one (i := 8) (fuel := 1) (by kernel_rfl) rfl rfl
      go_simp
      refine ⟨J2.out, ?_⟩
      apply Wg.wpAnyP_one (i := 9) (fuel := 0) (by kernel_rfl) rfl rfl
      go_simp
      refine ⟨trivial, by kernel_rfl, ?_⟩
      go_simp
      have t0 := (HAT.out V2 J2.out).kind
      have KF := Lib.hid (K2.out.trans J2.out fun _ h => .inl h)
      clear HL1 HL2 KW J1
      rcases (show kd = 1 ∨ kd = 2 ∨ kd = 3 ∨ kd = 4 ∨ kd = 5 ∨ kd = 6 ∨ kd = 7 ∨ (kd = 8 ∨ kd = 9) by omega) with rfl | rfl | rfl | rfl | rfl | rfl | rfl | h89
      · have HY := Lib.hid (FY.out (2) HDEF.out)
        as_aux_lemma =>
        go_wp2_with fail
        go_ret
        exact ⟨HY.out, KF.out⟩
      · have HY := Lib.hid (FY.out E1 HDEF.out)
        obtain ⟨a1, a2, a3, a4, a5, a6⟩ := (HAT.out V2 J2.out).partA
        obtain ⟨v0, v1, v2, v3, v4, v5, _⟩ := HVC.out V2 J2.out
        simp only [Nat.zero_add] at a1 a2 a3 a4 a5 a6
        as_aux_lemma =>
        go_wp2_with (go_at_call 20; ((with_reducible refine (HEQ.out rfl _).mono ?_); rintro e w5 ⟨rfl, hk⟩; have K5 := Lib.hid (KF.out.trans hk fun _ h => .inl h); clear hk))
        go_ret
        exact ⟨HY.out, K5.out⟩
      · have HY := Lib.hid (FY.out (L1) HDEF.out)
        as_aux_lemma =>
        go_wp2_with fail
        go_ret
        exact ⟨HY.out, KF.out⟩
      · have HY := Lib.hid (FY.out (2 - L2) HDEF.out)
        as_aux_lemma =>
        go_wp2_with fail
        go_ret
        exact ⟨HY.out, KF.out⟩
      · have HY := Lib.hid (FY.out (L2) HDEF.out)
        as_aux_lemma =>
        go_wp2_with fail
        go_ret
        exact ⟨HY.out, KF.out⟩
      · have HY := Lib.hid (FY.out (2 - L1) HDEF.out)
        as_aux_lemma =>
        go_wp2_with fail
        go_ret
        exact ⟨HY.out, KF.out⟩
      · have HLS := Lib.hid (fun (W : World) (a b : Int) => least_any (w := W) a b)
        unfold Says at HLS
        (obtain ⟨t13, t14, _⟩ := (HAT.out V2 J2.out).rest)
        (obtain ⟨b1, b2, b3, b4, b5, b6⟩ := (HAT.out V2 J2.out).partB)
        (obtain ⟨v0, v1, v2, v3, v4, v5, _⟩ := HVC.out V2 J2.out)
        simp only [Nat.zero_add] at t13 t14 b1 b2 b3 b4 b5 b6
        cases oa <;> cases ob
        · have HY := Lib.hid (FY.out (min (2 - L1) (2 - L4)) HDEF.out)
          as_aux_lemma =>
          go_wp2_with (first | (go_at_call 18; ((with_reducible refine (HL4.out _).mono ?_); rintro e w5 ⟨rfl, hk⟩; have J5 := Lib.hid (J2.out.trans hk fun _ h => .inl h); clear hk t13 t14 b1 b2 b3 b4 b5 b6 v0 v1 v2 v3 v4 v5; (obtain ⟨t13, t14, _⟩ := (HAT.out w5 J5.out).rest); (obtain ⟨b1, b2, b3, b4, b5, b6⟩ := (HAT.out w5 J5.out).partB); (obtain ⟨v0, v1, v2, v3, v4, v5, _⟩ := HVC.out w5 J5.out); simp only [Nat.zero_add] at t13 t14 b1 b2 b3 b4 b5 b6)) | (go_at_call 19; ((with_reducible refine (HLS.out _ _ _).mono ?_); rintro e w7 ⟨rfl, hk⟩; have J7 := Lib.hid (J5.out.trans hk fun _ h => .inl h); clear hk)))
          go_ret
          exact ⟨HY.out, K2.out.trans J7.out fun _ h => .inl h⟩
        · have HY := Lib.hid (FY.out (min (2 - L1) (L3)) HDEF.out)
          as_aux_lemma =>
          go_wp2_with (first | (go_at_call 18; ((with_reducible refine (HL4.out _).mono ?_); rintro e w5 ⟨rfl, hk⟩; have J5 := Lib.hid (J2.out.trans hk fun _ h => .inl h); clear hk t13 t14 b1 b2 b3 b4 b5 b6 v0 v1 v2 v3 v4 v5; (obtain ⟨t13, t14, _⟩ := (HAT.out w5 J5.out).rest); (obtain ⟨b1, b2, b3, b4, b5, b6⟩ := (HAT.out w5 J5.out).partB); (obtain ⟨v0, v1, v2, v3, v4, v5, _⟩ := HVC.out w5 J5.out); simp only [Nat.zero_add] at t13 t14 b1 b2 b3 b4 b5 b6)) | (go_at_call 18; ((with_reducible refine (HL3.out _).mono ?_); rintro e w6 ⟨rfl, hk⟩; have J6 := Lib.hid (J5.out.trans hk fun _ h => .inl h); clear hk t13 t14 b1 b2 b3 b4 b5 b6 v0 v1 v2 v3 v4 v5)) | (go_at_call 19; ((with_reducible refine (HLS.out _ _ _).mono ?_); rintro e w7 ⟨rfl, hk⟩; have J7 := Lib.hid (J6.out.trans hk fun _ h => .inl h); clear hk)))
          go_ret
          exact ⟨HY.out, K2.out.trans J7.out fun _ h => .inl h⟩
        · have HY := Lib.hid (FY.out (min (L2) (2 - L4)) HDEF.out)
          as_aux_lemma =>
          go_wp2_with (first | (go_at_call 18; ((with_reducible refine (HL4.out _).mono ?_); rintro e w5 ⟨rfl, hk⟩; have J5 := Lib.hid (J2.out.trans hk fun _ h => .inl h); clear hk t13 t14 b1 b2 b3 b4 b5 b6 v0 v1 v2 v3 v4 v5; (obtain ⟨t13, t14, _⟩ := (HAT.out w5 J5.out).rest); (obtain ⟨b1, b2, b3, b4, b5, b6⟩ := (HAT.out w5 J5.out).partB); (obtain ⟨v0, v1, v2, v3, v4, v5, _⟩ := HVC.out w5 J5.out); simp only [Nat.zero_add] at t13 t14 b1 b2 b3 b4 b5 b6)) | (go_at_call 19; ((with_reducible refine (HLS.out _ _ _).mono ?_); rintro e w7 ⟨rfl, hk⟩; have J7 := Lib.hid (J5.out.trans hk fun _ h => .inl h); clear hk)))
          go_ret
          exact ⟨HY.out, K2.out.trans J7.out fun _ h => .inl h⟩
        · have HY := Lib.hid (FY.out (min (L2) (L3)) HDEF.out)
          as_aux_lemma =>
          go_wp2_with (first | (go_at_call 18; ((with_reducible refine (HL4.out _).mono ?_); rintro e w5 ⟨rfl, hk⟩; have J5 := Lib.hid (J2.out.trans hk fun _ h => .inl h); clear hk t13 t14 b1 b2 b3 b4 b5 b6 v0 v1 v2 v3 v4 v5; (obtain ⟨t13, t14, _⟩ := (HAT.out w5 J5.out).rest); (obtain ⟨b1, b2, b3, b4, b5, b6⟩ := (HAT.out w5 J5.out).partB); (obtain ⟨v0, v1, v2, v3, v4, v5, _⟩ := HVC.out w5 J5.out); simp only [Nat.zero_add] at t13 t14 b1 b2 b3 b4 b5 b6)) | (go_at_call 18; ((with_reducible refine (HL3.out _).mono ?_); rintro e w6 ⟨rfl, hk⟩; have J6 := Lib.hid (J5.out.trans hk fun _ h => .inl h); clear hk t13 t14 b1 b2 b3 b4 b5 b6 v0 v1 v2 v3 v4 v5)) | (go_at_call 19; ((with_reducible refine (HLS.out _ _ _).mono ?_); rintro e w7 ⟨rfl, hk⟩; have J7 := Lib.hid (J6.out.trans hk fun _ h => .inl h); clear hk)))
          go_ret
          exact ⟨HY.out, K2.out.trans J7.out fun _ h => .inl h⟩
      · rcases h89 with rfl | rfl
        · have HRR := Lib.hid (show R = doesL l (.mk kv yv dv tv (.slice Av nv cv) ev) 0 from HDEF.out)
          have HLS := Lib.hid (fun (W : World) (a b : Int) => least_any (w := W) a b)
          unfold Says at HLS
          obtain ⟨hnk, hck, hmx, hel⟩ := hrow.elemT
          subst hnk
          have HE := Lib.hid hel
          obtain ⟨r1, r2, r3⟩ := (HAT.out V2 J2.out).rest
          simp only [Nat.zero_add] at r3
          clear hrow hel r1 r2
          obtain ⟨len, hlen⟩ : ∃ len, l.length = len := ⟨_, rfl⟩
          rw [hlen] at r3 hck
          have HLEN := Lib.hid hlen
          have hlb : len ≤ 9223372036854775807 := Nat.le_trans hck (Nat.le_trans hmx (by decide))
          clear hlen
          as_aux_lemma =>
          go_wp2_with fail
          go_loopw [70, 10] (fun i nn wr => ∃ k g, i = .int .i64 ((k : Nat) : Int) ∧ nn = .int .i64 (2 - g) ∧ k ≤ len ∧ (0 : Int) ≤ g ∧ g ≤ 2 ∧ Hid (doesL (l.drop k) (.mk kv yv dv tv (.slice Av nv cv) ev) g = doesL l (.mk kv yv dv tv (.slice Av nv cv) ev) 0) ∧ Hid (Keeps (fun _ => False) w2 wr)) (fun i _ _ => ((len : Int) - intOf i).toNat)
          case atStart => exact ⟨0, 0, rfl, rfl, by omega, by omega, by omega, Lib.hid rfl, J2⟩
          case round =>
            obtain ⟨k, g, rfl, rfl, hk, hg0, hg2, he, hkk⟩ := hrel
            clear t0 r3
            have t0 := (HAT.out _ hkk.out).kind
            rcases (show k = len ∨ k < len by omega) with rfl | hlt
            · have HG := Lib.hid (show doesL l (.mk kv yv dv tv (.slice Av nv cv) ev) 0 = g by rw [← he.out, List.drop_of_length_le (by have := HLEN.out; omega)]; rfl)
              go_wp2_with fail
              go_ret
              exact ⟨ret_int (by have h1 := HRR.out; have h2 := HG.out; omega), K2.out.trans hkk.out fun _ h => .inl h⟩
            · have hlz : (k : Int) < (len : Int) := by omega
              have hkl : k < l.length := by have := HLEN.out; omega
              have hgx : l[k]? = some l[k] := List.getElem?_eq_getElem hkl
              have hdr := List.drop_eq_getElem_cons hkl
              generalize l[k] = x at *
              obtain ⟨bb, off, rfl, hatx⟩ := HE.out k x hgx
              have HI := Lib.hid (HIH.out k x hgx (by omega))
              have hatw := hatx.keep (K2.out.trans hkk.out fun _ h => .inl h) (fun h => h)
              obtain ⟨hd0, hd2⟩ := HDB.out x
              have HE2 := Lib.hid (show doesL (l.drop (k + 1)) (.mk kv yv dv tv (.slice Av nv cv) ev) (max g (doesT x (.mk kv yv dv tv (.slice Av nv cv) ev))) = doesL l (.mk kv yv dv tv (.slice Av nv cv) ev) 0 by rw [← he.out, hdr]; rfl)
              generalize doesT x (.mk kv yv dv tv (.slice Av nv cv) ev) = D at *
              have htx := HKD.out k x hgx
              obtain ⟨xk, xa, xb, xoa, xob, xkv, xl⟩ := x
              obtain ⟨hxa, hxb, hxr, _⟩ := htx.parts
              obtain ⟨xka, xya, xda, xta, xla, xea⟩ := xa
              obtain ⟨xkb, xyb, xdb, xtb, xlb, xeb⟩ := xb
              obtain ⟨xAa, xna, xca, hxla⟩ := hxa.slice
              obtain ⟨xAb, xnb, xcb, hxlb⟩ := hxb.slice
              obtain ⟨xAk, xnk, xck, hxkv⟩ := hxr.slice
              subst hxla hxlb hxkv
              have u0 := hatw.kind
              obtain ⟨u1, u2, u3, u4, u5, u6⟩ := hatw.partA
              obtain ⟨u7, u8, u9, u10, u11, u12⟩ := hatw.partB
              obtain ⟨u13, u14, u15⟩ := hatw.rest
              simp only [Tst.cells] at HI
              clear hatw htx hxa hxb hxr hgx hdr hatx t0 he
              go_upto_region 28 with fail
              have hb9 := heap_alloc_new wr (.cells #[.int .i64 xk, .int .i64 xka, .bool xya, .int .i64 xda.coef, .int .i64 xda.exp, .string xta, .slice xAa xna xca, .int .i64 xkb, .bool xyb, .int .i64 xdb.coef, .int .i64 xdb.exp, .string xtb, .slice xAb xnb xcb, .bool xoa, .bool xob, .slice xAk xnk xck] 29)
              have hka := hkk.out.alloc (.cells #[.int .i64 xk, .int .i64 xka, .bool xya, .int .i64 xda.coef, .int .i64 xda.exp, .string xta, .slice xAa xna xca, .int .i64 xkb, .bool xyb, .int .i64 xdb.coef, .int .i64 xdb.exp, .string xtb, .slice xAb xnb xcb, .bool xoa, .bool xob, .slice xAk xnk xck] 29)
              obtain ⟨p9, hp9⟩ : ∃ q, wr.heap.size = q := ⟨_, rfl⟩
              rw [hp9] at hb9 ⊢
              generalize wr.alloc (.cells #[.int .i64 xk, .int .i64 xka, .bool xya, .int .i64 xda.coef, .int .i64 xda.exp, .string xta, .slice xAa xna xca, .int .i64 xkb, .bool xyb, .int .i64 xdb.coef, .int .i64 xdb.exp, .string xtb, .slice xAb xnb xcb, .bool xoa, .bool xob, .slice xAk xnk xck] 29) = wA at *
              have KA := Lib.hid hka
              have H9 := Lib.hid (show At wA p9 0 (Tst.mk xk (.mk xka xya xda xta (.slice xAa xna xca) xea) (.mk xkb xyb xdb xtb (.slice xAb xnb xcb) xeb) xoa xob (.slice xAk xnk xck) xl).cells from fun j u hj => by rw [Nat.zero_add, cell_of_row wA p9 j _ _ _ hb9, List.getElem?_toArray]; exact hj)
              clear u0 u1 u2 u3 u4 u5 u6 u7 u8 u9 u10 u11 u12 u13 u14 u15 hb9 hp9 hka
              have u0 := H9.out.kind
              obtain ⟨u1, u2, u3, u4, u5, u6⟩ := H9.out.partA
              obtain ⟨u7, u8, u9, u10, u11, u12⟩ := H9.out.partB
              obtain ⟨u13, u14, u15⟩ := H9.out.rest
              simp only [Nat.zero_add] at u1 u2 u3 u4 u5 u6 u7 u8 u9 u10 u11 u12 u13 u14 u15
              obtain ⟨v0, v1, v2, v3, v4, v5, _⟩ := HVC.out wA KA.out
              go_wp2_with (first | (go_at_call 10; ((with_reducible refine (HI.out _ KA.out).mono ?_); rintro e w5 ⟨rfl, hk⟩; have J5 := Lib.hid (KA.out.trans hk fun _ h => .inl h); clear hk u0 u1 u2 u3 u4 u5 u6 u7 u8 u9 u10 u11 u12 u13 u14 u15 v0 v1 v2 v3 v4 v5)) | (go_at_call 19; ((with_reducible refine (HLS.out _ _ _).mono ?_); rintro e w7 ⟨rfl, hk⟩; have J7 := Lib.hid (J5.out.trans hk fun _ h => .inl h); clear hk)))
              go_roundw
              case measure => simp [intOf]; omega
              case rel => exact ⟨k + 1, max g D, by go_num, by congr 1; omega, by omega, by omega, by omega, HE2, J7⟩
        · have HRR := Lib.hid (show R = 2 - doesL l (.mk kv yv dv tv (.slice Av nv cv) ev) 0 from HDEF.out)
          have HLS := Lib.hid (fun (W : World) (a b : Int) => least_any (w := W) a b)
          unfold Says at HLS
          obtain ⟨hnk, hck, hmx, hel⟩ := hrow.elemT
          subst hnk
          have HE := Lib.hid hel
          obtain ⟨r1, r2, r3⟩ := (HAT.out V2 J2.out).rest
          simp only [Nat.zero_add] at r3
          clear hrow hel r1 r2
          obtain ⟨len, hlen⟩ : ∃ len, l.length = len := ⟨_, rfl⟩
          rw [hlen] at r3 hck
          have HLEN := Lib.hid hlen
          have hlb : len ≤ 9223372036854775807 := Nat.le_trans hck (Nat.le_trans hmx (by decide))
          clear hlen
          as_aux_lemma =>
          go_wp2_with fail
          go_loopw [70, 10] (fun i nn wr => ∃ k g, i = .int .i64 ((k : Nat) : Int) ∧ nn = .int .i64 (2 - g) ∧ k ≤ len ∧ (0 : Int) ≤ g ∧ g ≤ 2 ∧ Hid (doesL (l.drop k) (.mk kv yv dv tv (.slice Av nv cv) ev) g = doesL l (.mk kv yv dv tv (.slice Av nv cv) ev) 0) ∧ Hid (Keeps (fun _ => False) w2 wr)) (fun i _ _ => ((len : Int) - intOf i).toNat)
          case atStart => exact ⟨0, 0, rfl, rfl, by omega, by omega, by omega, Lib.hid rfl, J2⟩
          case round =>
            obtain ⟨k, g, rfl, rfl, hk, hg0, hg2, he, hkk⟩ := hrel
            clear t0 r3
            have t0 := (HAT.out _ hkk.out).kind
            rcases (show k = len ∨ k < len by omega) with rfl | hlt
            · have HG := Lib.hid (show doesL l (.mk kv yv dv tv (.slice Av nv cv) ev) 0 = g by rw [← he.out, List.drop_of_length_le (by have := HLEN.out; omega)]; rfl)
              go_wp2_with fail
              go_ret
              exact ⟨ret_int (by have h1 := HRR.out; have h2 := HG.out; omega), K2.out.trans hkk.out fun _ h => .inl h⟩
            · have hlz : (k : Int) < (len : Int) := by omega
              have hkl : k < l.length := by have := HLEN.out; omega
              have hgx : l[k]? = some l[k] := List.getElem?_eq_getElem hkl
              have hdr := List.drop_eq_getElem_cons hkl
              generalize l[k] = x at *
              obtain ⟨bb, off, rfl, hatx⟩ := HE.out k x hgx
              have HI := Lib.hid (HIH.out k x hgx (by omega))
              have hatw := hatx.keep (K2.out.trans hkk.out fun _ h => .inl h) (fun h => h)
              obtain ⟨hd0, hd2⟩ := HDB.out x
              have HE2 := Lib.hid (show doesL (l.drop (k + 1)) (.mk kv yv dv tv (.slice Av nv cv) ev) (max g (doesT x (.mk kv yv dv tv (.slice Av nv cv) ev))) = doesL l (.mk kv yv dv tv (.slice Av nv cv) ev) 0 by rw [← he.out, hdr]; rfl)
              generalize doesT x (.mk kv yv dv tv (.slice Av nv cv) ev) = D at *
              have htx := HKD.out k x hgx
              obtain ⟨xk, xa, xb, xoa, xob, xkv, xl⟩ := x
              obtain ⟨hxa, hxb, hxr, _⟩ := htx.parts
              obtain ⟨xka, xya, xda, xta, xla, xea⟩ := xa
              obtain ⟨xkb, xyb, xdb, xtb, xlb, xeb⟩ := xb
              obtain ⟨xAa, xna, xca, hxla⟩ := hxa.slice
              obtain ⟨xAb, xnb, xcb, hxlb⟩ := hxb.slice
              obtain ⟨xAk, xnk, xck, hxkv⟩ := hxr.slice
              subst hxla hxlb hxkv
              have u0 := hatw.kind
              obtain ⟨u1, u2, u3, u4, u5, u6⟩ := hatw.partA
              obtain ⟨u7, u8, u9, u10, u11, u12⟩ := hatw.partB
              obtain ⟨u13, u14, u15⟩ := hatw.rest
              simp only [Tst.cells] at HI
              clear hatw htx hxa hxb hxr hgx hdr hatx t0 he
              go_upto_region 28 with fail
              have hb9 := heap_alloc_new wr (.cells #[.int .i64 xk, .int .i64 xka, .bool xya, .int .i64 xda.coef, .int .i64 xda.exp, .string xta, .slice xAa xna xca, .int .i64 xkb, .bool xyb, .int .i64 xdb.coef, .int .i64 xdb.exp, .string xtb, .slice xAb xnb xcb, .bool xoa, .bool xob, .slice xAk xnk xck] 29)
              have hka := hkk.out.alloc (.cells #[.int .i64 xk, .int .i64 xka, .bool xya, .int .i64 xda.coef, .int .i64 xda.exp, .string xta, .slice xAa xna xca, .int .i64 xkb, .bool xyb, .int .i64 xdb.coef, .int .i64 xdb.exp, .string xtb, .slice xAb xnb xcb, .bool xoa, .bool xob, .slice xAk xnk xck] 29)
              obtain ⟨p9, hp9⟩ : ∃ q, wr.heap.size = q := ⟨_, rfl⟩
              rw [hp9] at hb9 ⊢
              generalize wr.alloc (.cells #[.int .i64 xk, .int .i64 xka, .bool xya, .int .i64 xda.coef, .int .i64 xda.exp, .string xta, .slice xAa xna xca, .int .i64 xkb, .bool xyb, .int .i64 xdb.coef, .int .i64 xdb.exp, .string xtb, .slice xAb xnb xcb, .bool xoa, .bool xob, .slice xAk xnk xck] 29) = wA at *
              have KA := Lib.hid hka
              have H9 := Lib.hid (show At wA p9 0 (Tst.mk xk (.mk xka xya xda xta (.slice xAa xna xca) xea) (.mk xkb xyb xdb xtb (.slice xAb xnb xcb) xeb) xoa xob (.slice xAk xnk xck) xl).cells from fun j u hj => by rw [Nat.zero_add, cell_of_row wA p9 j _ _ _ hb9, List.getElem?_toArray]; exact hj)
              clear u0 u1 u2 u3 u4 u5 u6 u7 u8 u9 u10 u11 u12 u13 u14 u15 hb9 hp9 hka
              have u0 := H9.out.kind
              obtain ⟨u1, u2, u3, u4, u5, u6⟩ := H9.out.partA
              obtain ⟨u7, u8, u9, u10, u11, u12⟩ := H9.out.partB
              obtain ⟨u13, u14, u15⟩ := H9.out.rest
              simp only [Nat.zero_add] at u1 u2 u3 u4 u5 u6 u7 u8 u9 u10 u11 u12 u13 u14 u15
              obtain ⟨v0, v1, v2, v3, v4, v5, _⟩ := HVC.out wA KA.out
              go_wp2_with (first | (go_at_call 10; ((with_reducible refine (HI.out _ KA.out).mono ?_); rintro e w5 ⟨rfl, hk⟩; have J5 := Lib.hid (KA.out.trans hk fun _ h => .inl h); clear hk u0 u1 u2 u3 u4 u5 u6 u7 u8 u9 u10 u11 u12 u13 u14 u15 v0 v1 v2 v3 v4 v5)) | (go_at_call 19; ((with_reducible refine (HLS.out _ _ _).mono ?_); rintro e w7 ⟨rfl, hk⟩; have J7 := Lib.hid (J5.out.trans hk fun _ h => .inl h); clear hk)))
              go_roundw
              case measure => simp [intOf]; omega
              case rel => exact ⟨k + 1, max g D, by go_num, by congr 1; omega, by omega, by omega, by omega, HE2, J7⟩

end Go.Proofs.YtnihfhfakadepaaGreatDoor
