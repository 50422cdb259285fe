/- Package trials: what a right test tells of a value. -/
import Derived.Test.YtnihfhfakadepaaGreatDoorXAppIn
namespace Go.Proofs.YtnihfhfakadepaaGreatDoor
open Go.RowKit

set_option maxRecDepth 100000 in
set_option maxHeartbeats 16000000 in
theorem apply_any (m : Nat) : ∀ (t : Tst), SizeOf.sizeOf t < m → ∀ (w : World) (v : Val), TOk w t → TGood t → (∃ A n c, v.lv = .slice A n c) → Thr w →
    Hands 16 #[.agg t.cells.toArray, .agg v.cells.toArray] w (hC (doesT t v)) := by
  induction m with
  | zero => intro t h; omega
  | succ m ih =>
    intro t hm w v hto hg hv ht
    have hbd := doesT_bd t v
    obtain ⟨kd, va, vb, oa, ob, kvv, l⟩ := t
    by_cases h7 : kd = 7
    · subst h7
      have hd : doesT (.mk 7 va vb oa ob kvv l) v = min (if oa then lessH va v else 2 - lessH v va) (if ob then lessH v vb else 2 - lessH vb v) := by unfold doesT; rfl
      rw [hd]
      exact apply_in hto hv ht
    obtain ⟨hva, hvb, hrow, hkids⟩ := hto.parts
    obtain ⟨g1, g2, g3, g4⟩ := hg.parts
    have HL1 := Lib.hid (fun (W : World) (hk : Keeps (fun _ => False) w W) => less_any (ht.later hk) v va hv (by obtain ⟨_, _, _, _, lv, _⟩ := va; exact hva.slice))
    have HL2 := Lib.hid (fun (W : World) (hk : Keeps (fun _ => False) w W) => less_any (ht.later hk) va v (by obtain ⟨_, _, _, _, lv, _⟩ := va; exact hva.slice) hv)
    have HL3 := Lib.hid (fun (W : World) (hk : Keeps (fun _ => False) w W) => less_any (ht.later hk) v vb hv (by obtain ⟨_, _, _, _, lv, _⟩ := vb; exact hvb.slice))
    have HL4 := Lib.hid (fun (W : World) (hk : Keeps (fun _ => False) w W) => less_any (ht.later hk) vb v (by obtain ⟨_, _, _, _, lv, _⟩ := vb; exact hvb.slice) hv)
    have HEQ := Lib.hid (fun (h2 : kd = 2) (W : World) => equal_any (w := W) v va hv (by obtain ⟨_, _, _, _, lv, _⟩ := va; exact hva.slice) (g3 h2).1 (g3 h2).2)
    have HSZ := Lib.hid (show ∀ (k : Nat) (x : Tst), l[k]? = some x → SizeOf.sizeOf x < m from fun k x h => by have := Tst.lt_of_get (k := kd) (a := va) (b := vb) (oa := oa) (ob := ob) (kv := kvv) h; omega)
    have HDEF := Lib.hid (show doesT (.mk kd va vb oa ob kvv l) v = if kd = 2 then eqH v va else if kd = 3 then lessH v va else if kd = 4 then 2 - lessH va v else if kd = 5 then lessH va v else if kd = 6 then 2 - lessH v va
      else if kd = 7 then min (if oa then lessH va v else 2 - lessH v va) (if ob then lessH v vb else 2 - lessH vb v) else if kd = 8 then doesL l v 0 else if kd = 9 then 2 - doesL l v 0 else 2 by unfold doesT; rfl)
    have BD1 := Lib.hid (lessH_bd v va)
    have BD2 := Lib.hid (lessH_bd va v)
    have BD3 := Lib.hid (lessH_bd v vb)
    have BD4 := Lib.hid (lessH_bd vb v)
    generalize doesT (.mk kd va vb oa ob kvv l) v = R at *
    generalize hx1 : lessH v va = L1 at *
    generalize hx2 : lessH va v = L2 at *
    generalize hx3 : lessH v vb = L3 at *
    generalize hx4 : lessH vb v = L4 at *
    generalize hx5 : eqH v va = E1 at *
    clear hx1 hx2 hx3 hx4 hx5 g3 hto hg
    obtain ⟨w2, pa, pb, p, e2, epa, epb, ep, k2, ba, bb, bp⟩ := test_boxes w (Tst.mk kd va vb oa ob kvv l).cells.toArray v.cells.toArray
    have HAT := Lib.hid (show ∀ W, Keeps (fun _ => False) w2 W → At W pa 0 (Tst.mk kd va vb oa ob kvv l).cells from fun W hk j u hj => by rw [Nat.zero_add, cell_of_row W pa j _ _ _ (hk.blk ba), List.getElem?_toArray]; exact hj)
    have HVV := Lib.hid (fun (W : World) (hk : Keeps (fun _ => False) w2 W) => hk.blk bb)
    have HTH := Lib.hid (fun (W : World) (hk : Keeps (fun _ => False) w2 W) => (ht.later k2).later hk)
    have HIH := Lib.hid (fun (k : Nat) (x : Tst) (hx : l[k]? = some x) (h8 : 8 ≤ kd) (W : World) (hk : Keeps (fun _ => False) w2 W) => ih x (HSZ.out k x hx) W v (TOk.later (k2.trans hk fun _ h => .inl h) x (hkids.get hx)) ((g4 h8).get hx) hv ((ht.later k2).later hk))
    have HKD := Lib.hid (fun (k : Nat) (x : Tst) (hx : l[k]? = some x) => hkids.get hx)
    have HDB := Lib.hid (fun (x : Tst) => doesT_bd x v)
    obtain ⟨kv, yv, dv, tv, lv, ev⟩ := v
    obtain ⟨ka, ya, da, ta, la, ea⟩ := va
    obtain ⟨kb, yb, db, tb, lb, eb⟩ := vb
    obtain ⟨Aa, na, ca, hla⟩ := hva.slice
    obtain ⟨Ab, nb, cb, hlb⟩ := hvb.slice
    obtain ⟨Ak, nk, ck, hkv⟩ := hrow.slice
    obtain ⟨Av, nv, cv, hlv⟩ := hv
    simp only [Val.lv] at hlv
    subst hla hlb hkv hlv
    have HVC := Lib.hid (fun (W : World) (hk : Keeps (fun _ => False) w2 W) => cells6 (HVV.out W hk))
    simp only [Val.cells] at HL1 HL2 HL3 HL4 HEQ HIH
    simp only [Tst.cells, Val.cells] at e2 ⊢
    have K2 := Lib.hid k2; have BP := Lib.hid bp; have HPL := Lib.hid (show w.heap.size ≤ p by omega)
    have HEP := Lib.hid (And.intro e2 (And.intro epa (And.intro epb ep)))
    have FY := Lib.hid (show ∀ r, R = r → Ending.returned (.agg #[.int .i64 (kH r), .bool (yH r), .int .i64 0, .int .i64 0, .string ⟨#[]⟩, .slice none 0 0]) = .returned (.agg (hC R)) from fun r h => by rw [h]; rfl)
    have KR := Lib.hid (Keeps.refl (fun _ => False) w2)
    unfold Hands
    clear HVV k2 ba bb bp hva hvb hkids ht ih g4
    have t0 := (HAT.out w2 KR.out).kind
    obtain ⟨a1, a2, a3, a4, a5, a6⟩ := (HAT.out w2 KR.out).partA
    obtain ⟨v0, v1, v2, v3, v4, v5, _⟩ := HVC.out w2 KR.out
    simp only [Nat.zero_add] at t0 a1 a2 a3 a4 a5 a6
    rcases (show kd = 1 ∨ kd = 2 ∨ kd = 3 ∨ kd = 4 ∨ kd = 5 ∨ kd = 6 ∨ (kd = 8 ∨ kd = 9) by omega) with rfl | rfl | rfl | rfl | rfl | rfl | h89
    · have HY := Lib.hid (FY.out 2 HDEF.out)
      have HB1 := Lib.hid (fun W : World => Hands.frm (h := 2) (bool_any (w := W) true))
      as_aux_lemma =>
      go_enter Tryz.func16, Tryz.ntmps16
      go_wp2_with (go_at_call 29; ((with_reducible refine (HB1.out _).mono ?_); rintro e w4 ⟨rfl, hk⟩; have K4 := Lib.hid (KR.out.trans hk fun _ h => .inl h); clear hk; clear t0 a1 a2 a3 a4 a5 a6 v0 v1 v2 v3 v4 v5; have hb9 := K4.out.blk BP.out; (obtain ⟨z0, z1, z2, z3, z4, z5, zf⟩ := cells6 hb9); have zl := row_lt hb9; (obtain ⟨wf, hwf, hfb, hfk⟩ := put6 (v0 := .int .i64 (kH (2))) (v1 := .bool (yH (2))) (v2 := .int .i64 0) (v3 := .int .i64 0) (v4 := .string ⟨#[]⟩) (v5 := .slice none 0 0) hb9); (obtain ⟨q0, q1, q2, q3, q4, q5, qf⟩ := cells6 hfb); clear hb9))
      (try simp only [Exit.inBlock, Exit.then])
      refine bodyPost_ret (v := .agg #[.int .i64 (kH (2)), .bool (yH (2)), .int .i64 0, .int .i64 0, .string ⟨#[]⟩, .slice none 0 0]) (by simp [results, Tryz.results16, go_sem, q0, q1, q2, q3, q4, q5]) rfl ?_
      exact ⟨HY.out, handed K2.out K4.out hfk HPL.out⟩
    · have HY := Lib.hid (FY.out E1 HDEF.out)
      as_aux_lemma =>
      go_enter Tryz.func16, Tryz.ntmps16
      go_wp2_with (go_at_call 25; ((with_reducible refine ((HEQ.out rfl _).frm).mono ?_); rintro e w4 ⟨rfl, hk⟩; have K4 := Lib.hid (KR.out.trans hk fun _ h => .inl h); clear hk; clear t0 a1 a2 a3 a4 a5 a6 v0 v1 v2 v3 v4 v5; have hb9 := K4.out.blk BP.out; (obtain ⟨z0, z1, z2, z3, z4, z5, zf⟩ := cells6 hb9); have zl := row_lt hb9; (obtain ⟨wf, hwf, hfb, hfk⟩ := put6 (v0 := .int .i64 (kH (E1))) (v1 := .bool (yH (E1))) (v2 := .int .i64 0) (v3 := .int .i64 0) (v4 := .string ⟨#[]⟩) (v5 := .slice none 0 0) hb9); (obtain ⟨q0, q1, q2, q3, q4, q5, qf⟩ := cells6 hfb); clear hb9))
      (try simp only [Exit.inBlock, Exit.then])
      refine bodyPost_ret (v := .agg #[.int .i64 (kH (E1)), .bool (yH (E1)), .int .i64 0, .int .i64 0, .string ⟨#[]⟩, .slice none 0 0]) (by simp [results, Tryz.results16, go_sem, q0, q1, q2, q3, q4, q5]) rfl ?_
      exact ⟨HY.out, handed K2.out K4.out hfk HPL.out⟩
    · have HY := Lib.hid (FY.out L1 HDEF.out)
      as_aux_lemma =>
      go_enter Tryz.func16, Tryz.ntmps16
      go_wp2_with (go_at_call 26; ((with_reducible refine ((HL1.out _ K2.out).frm).mono ?_); rintro e w4 ⟨rfl, hk⟩; have K4 := Lib.hid (KR.out.trans hk fun _ h => .inl h); clear hk; clear t0 a1 a2 a3 a4 a5 a6 v0 v1 v2 v3 v4 v5; have hb9 := K4.out.blk BP.out; (obtain ⟨z0, z1, z2, z3, z4, z5, zf⟩ := cells6 hb9); have zl := row_lt hb9; (obtain ⟨wf, hwf, hfb, hfk⟩ := put6 (v0 := .int .i64 (kH (L1))) (v1 := .bool (yH (L1))) (v2 := .int .i64 0) (v3 := .int .i64 0) (v4 := .string ⟨#[]⟩) (v5 := .slice none 0 0) hb9); (obtain ⟨q0, q1, q2, q3, q4, q5, qf⟩ := cells6 hfb); clear hb9))
      (try simp only [Exit.inBlock, Exit.then])
      refine bodyPost_ret (v := .agg #[.int .i64 (kH (L1)), .bool (yH (L1)), .int .i64 0, .int .i64 0, .string ⟨#[]⟩, .slice none 0 0]) (by simp [results, Tryz.results16, go_sem, q0, q1, q2, q3, q4, q5]) rfl ?_
      exact ⟨HY.out, handed K2.out K4.out hfk HPL.out⟩
    · have HY := Lib.hid (FY.out (2 - L2) HDEF.out)
      have HN := Lib.hid (fun W : World => Hands.arg (not_any (w := W) L2 BD2.out.1 BD2.out.2))
      as_aux_lemma =>
      go_enter Tryz.func16, Tryz.ntmps16
      go_wp2_with (first | (go_at_call 26; ((with_reducible refine ((HL2.out _ K2.out).frm).mono ?_); rintro e w3 ⟨rfl, hk⟩; have K3 := Lib.hid (KR.out.trans hk fun _ h => .inl h); clear hk; clear t0 a1 a2 a3 a4 a5 a6 v0 v1 v2 v3 v4 v5; )) | (go_at_call 27; ((with_reducible refine (HN.out _).mono ?_); rintro e w4 ⟨rfl, hk⟩; have K4 := Lib.hid (K3.out.trans hk fun _ h => .inl h); clear hk; have hb9 := K4.out.blk BP.out; (obtain ⟨z0, z1, z2, z3, z4, z5, zf⟩ := cells6 hb9); have zl := row_lt hb9; (obtain ⟨wf, hwf, hfb, hfk⟩ := put6 (v0 := .int .i64 (kH (2 - L2))) (v1 := .bool (yH (2 - L2))) (v2 := .int .i64 0) (v3 := .int .i64 0) (v4 := .string ⟨#[]⟩) (v5 := .slice none 0 0) hb9); (obtain ⟨q0, q1, q2, q3, q4, q5, qf⟩ := cells6 hfb); clear hb9)))
      (try simp only [Exit.inBlock, Exit.then])
      refine bodyPost_ret (v := .agg #[.int .i64 (kH (2 - L2)), .bool (yH (2 - L2)), .int .i64 0, .int .i64 0, .string ⟨#[]⟩, .slice none 0 0]) (by simp [results, Tryz.results16, go_sem, q0, q1, q2, q3, q4, q5]) rfl ?_
      exact ⟨HY.out, handed K2.out K4.out hfk HPL.out⟩
    · have HY := Lib.hid (FY.out L2 HDEF.out)
      as_aux_lemma =>
      go_enter Tryz.func16, Tryz.ntmps16
      go_wp2_with (go_at_call 26; ((with_reducible refine ((HL2.out _ K2.out).frm).mono ?_); rintro e w4 ⟨rfl, hk⟩; have K4 := Lib.hid (KR.out.trans hk fun _ h => .inl h); clear hk; clear t0 a1 a2 a3 a4 a5 a6 v0 v1 v2 v3 v4 v5; have hb9 := K4.out.blk BP.out; (obtain ⟨z0, z1, z2, z3, z4, z5, zf⟩ := cells6 hb9); have zl := row_lt hb9; (obtain ⟨wf, hwf, hfb, hfk⟩ := put6 (v0 := .int .i64 (kH (L2))) (v1 := .bool (yH (L2))) (v2 := .int .i64 0) (v3 := .int .i64 0) (v4 := .string ⟨#[]⟩) (v5 := .slice none 0 0) hb9); (obtain ⟨q0, q1, q2, q3, q4, q5, qf⟩ := cells6 hfb); clear hb9))
      (try simp only [Exit.inBlock, Exit.then])
      refine bodyPost_ret (v := .agg #[.int .i64 (kH (L2)), .bool (yH (L2)), .int .i64 0, .int .i64 0, .string ⟨#[]⟩, .slice none 0 0]) (by simp [results, Tryz.results16, go_sem, q0, q1, q2, q3, q4, q5]) rfl ?_
      exact ⟨HY.out, handed K2.out K4.out hfk HPL.out⟩
    · have HY := Lib.hid (FY.out (2 - L1) HDEF.out)
      have HN := Lib.hid (fun W : World => Hands.arg (not_any (w := W) L1 BD1.out.1 BD1.out.2))
      as_aux_lemma =>
      go_enter Tryz.func16, Tryz.ntmps16
      go_wp2_with (first | (go_at_call 26; ((with_reducible refine ((HL1.out _ K2.out).frm).mono ?_); rintro e w3 ⟨rfl, hk⟩; have K3 := Lib.hid (KR.out.trans hk fun _ h => .inl h); clear hk; clear t0 a1 a2 a3 a4 a5 a6 v0 v1 v2 v3 v4 v5; )) | (go_at_call 27; ((with_reducible refine (HN.out _).mono ?_); rintro e w4 ⟨rfl, hk⟩; have K4 := Lib.hid (K3.out.trans hk fun _ h => .inl h); clear hk; have hb9 := K4.out.blk BP.out; (obtain ⟨z0, z1, z2, z3, z4, z5, zf⟩ := cells6 hb9); have zl := row_lt hb9; (obtain ⟨wf, hwf, hfb, hfk⟩ := put6 (v0 := .int .i64 (kH (2 - L1))) (v1 := .bool (yH (2 - L1))) (v2 := .int .i64 0) (v3 := .int .i64 0) (v4 := .string ⟨#[]⟩) (v5 := .slice none 0 0) hb9); (obtain ⟨q0, q1, q2, q3, q4, q5, qf⟩ := cells6 hfb); clear hb9)))
      (try simp only [Exit.inBlock, Exit.then])
      refine bodyPost_ret (v := .agg #[.int .i64 (kH (2 - L1)), .bool (yH (2 - L1)), .int .i64 0, .int .i64 0, .string ⟨#[]⟩, .slice none 0 0]) (by simp [results, Tryz.results16, go_sem, q0, q1, q2, q3, q4, q5]) rfl ?_
      exact ⟨HY.out, handed K2.out K4.out hfk HPL.out⟩
    · rcases h89 with rfl | rfl
      · have HRR := Lib.hid (show R = doesL l (.mk kv yv dv tv (.slice Av nv cv) ev) 0 from HDEF.out)
        obtain ⟨hnk, hck, hmx, hel⟩ := hrow.elemT
        subst hnk
        have HE := Lib.hid hel
        obtain ⟨r1, r2, r3⟩ := (HAT.out w2 KR.out).rest
        simp only [Nat.zero_add] at r3
        clear hrow hel r1 r2
        obtain ⟨len, hlen⟩ : ∃ len, l.length = len := ⟨_, rfl⟩
        rw [hlen] at r3 hck
        have HLEN := Lib.hid hlen
        have hlb : len ≤ 9223372036854775807 := Nat.le_trans hck (Nat.le_trans hmx (by decide))
        have HB0 := Lib.hid (fun W : World => Hands.frm (h := 0) (bool_any (w := W) false))
        have HR3 := Lib.hid (fun (W : World) (hk : Keeps (fun _ => False) w2 W) => hk.cell (fun h => h) r3)
        clear hlen
        as_aux_lemma =>
        go_enter Tryz.func16, Tryz.ntmps16
        go_upto_region 22 with (go_at_call 29; ((with_reducible refine (HB0.out _).mono ?_); rintro e w3 ⟨rfl, hk⟩; have K3 := Lib.hid (KR.out.trans hk fun _ h => .inl h); clear hk; clear t0 a1 a2 a3 a4 a5 a6 v0 v1 v2 v3 v4 v5 r3))
        obtain ⟨p7, hp7⟩ : ∃ q, w3.heap.size = q := ⟨_, rfl⟩
        have hb7 := heap_alloc_new w3 (.cells (frm (kH 0) (yH 0)) 26)
        have hk4 := K3.out.alloc (.cells (frm (kH 0) (yH 0)) 26)
        have HP7 := Lib.hid (show w2.heap.size ≤ p7 by have := K3.out.size; omega)
        rw [hp7] at hb7 ⊢
        generalize w3.alloc (.cells (frm (kH 0) (yH 0)) 26) = w4 at *
        have HB7 := Lib.hid hb7; have K4 := Lib.hid hk4
        obtain ⟨r1, r2, r3⟩ := (HAT.out w4 K4.out).rest
        simp only [Nat.zero_add] at r3
        rw [HLEN.out] at r3
        clear hb7 hp7 hk4 r1 r2
        go_wp2_with fail
        go_loopw [78] (fun i wr => ∃ k g, i = .int .i64 ((k : Nat) : Int) ∧ k ≤ len ∧ (0 : Int) ≤ g ∧ g ≤ 2 ∧ Hid (wr.heap[p7]? = some (.cells (frm (kH g) (yH g)) 26 (0, 0))) ∧ Hid (doesL (l.drop k) (.mk kv yv dv tv (.slice Av nv cv) ev) g = doesL l (.mk kv yv dv tv (.slice Av nv cv) ev) 0) ∧ Hid (Keeps (fun _ => False) w2 wr)) (fun i _ => ((len : Int) - intOf i).toNat)
        case atStart => exact ⟨0, 0, rfl, by omega, by omega, by omega, HB7, Lib.hid rfl, K4⟩
        case round =>
          obtain ⟨k, g, rfl, hk, hg0, hg2, h7, he, hkk⟩ := hrel
          have t0 := (HAT.out _ hkk.out).kind
          obtain ⟨y0, y1, y2, y3, y4, y5, yf⟩ := cells6 h7.out
          rcases (show k = len ∨ k < len by omega) with rfl | hlt
          · have HG := Lib.hid (show doesL l (.mk kv yv dv tv (.slice Av nv cv) ev) 0 = g by rw [← he.out, List.drop_of_length_le (by have := HLEN.out; omega)]; rfl)
            have HY := Lib.hid (FY.out g (by rw [HRR.out, HG.out]))
            have hb9 := hkk.out.blk BP.out
            obtain ⟨z0, z1, z2, z3, z4, z5, zf⟩ := cells6 hb9
            have zl := row_lt hb9
            obtain ⟨wf, hwf, hfb, hfk⟩ := put6 (v0 := .int .i64 (kH (g))) (v1 := .bool (yH (g))) (v2 := .int .i64 0) (v3 := .int .i64 0) (v4 := .string ⟨#[]⟩) (v5 := .slice none 0 0) hb9
            obtain ⟨q0, q1, q2, q3, q4, q5, qf⟩ := cells6 hfb
            clear hb9
            go_wp2_with fail
            (try simp only [Exit.inBlock, Exit.then])
            refine bodyPost_ret (v := .agg #[.int .i64 (kH g), .bool (yH g), .int .i64 0, .int .i64 0, .string ⟨#[]⟩, .slice none 0 0]) (by simp [results, Tryz.results16, go_sem, q0, q1, q2, q3, q4, q5]) rfl ?_
            exact ⟨HY.out, handed K2.out hkk.out hfk HPL.out⟩
          · have hlz : (k : Int) < (len : Int) := by omega
            have hkl : k < l.length := by have := HLEN.out; omega
            have hgx : l[k]? = some l[k] := List.getElem?_eq_getElem hkl
            have hdr := List.drop_eq_getElem_cons hkl
            generalize l[k] = x at *
            obtain ⟨bb, off, rfl, hatx⟩ := HE.out k x hgx
            have HI := Lib.hid (HIH.out k x hgx (by omega))
            have hatw := hatx.keep (K2.out.trans hkk.out fun _ h => .inl h) (fun h => h)
            have hdb := HDB.out x
            have HE2 := Lib.hid (show doesL (l.drop (k + 1)) (.mk kv yv dv tv (.slice Av nv cv) ev) (max g (doesT x (.mk kv yv dv tv (.slice Av nv cv) ev))) = doesL l (.mk kv yv dv tv (.slice Av nv cv) ev) 0 by rw [← he.out, hdr]; rfl)
            generalize doesT x (.mk kv yv dv tv (.slice Av nv cv) ev) = D at *
            have HOR := Lib.hid (fun W : World => Hands.args (or_any (w := W) g D hg0 hg2 hdb.1 hdb.2))
            have HMX := Lib.hid (show (0 : Int) ≤ max g D ∧ max g D ≤ 2 by omega)
            have htx := HKD.out k x hgx
            obtain ⟨xk, xa, xb, xoa, xob, xkv, xl⟩ := x
            obtain ⟨hxa, hxb, hxr, _⟩ := htx.parts
            obtain ⟨xka, xya, xda, xta, xla, xea⟩ := xa
            obtain ⟨xkb, xyb, xdb, xtb, xlb, xeb⟩ := xb
            obtain ⟨xAa, xna, xca, hxla⟩ := hxa.slice
            obtain ⟨xAb, xnb, xcb, hxlb⟩ := hxb.slice
            obtain ⟨xAk, xnk, xck, hxkv⟩ := hxr.slice
            subst hxla hxlb hxkv
            have u0 := hatw.kind
            obtain ⟨u1, u2, u3, u4, u5, u6⟩ := hatw.partA
            obtain ⟨u7, u8, u9, u10, u11, u12⟩ := hatw.partB
            obtain ⟨u13, u14, u15⟩ := hatw.rest
            simp only [Tst.cells] at HI
            clear hatw htx hxa hxb hxr hgx hdr hatx t0 y0 y1 y2 y3 y4 y5 yf he
            go_upto_region 25 with fail
            have hb9 := heap_alloc_new wr (.cells #[.int .i64 xk, .int .i64 xka, .bool xya, .int .i64 xda.coef, .int .i64 xda.exp, .string xta, .slice xAa xna xca, .int .i64 xkb, .bool xyb, .int .i64 xdb.coef, .int .i64 xdb.exp, .string xtb, .slice xAb xnb xcb, .bool xoa, .bool xob, .slice xAk xnk xck] 29)
            have KA := Lib.hid (hkk.out.alloc (.cells #[.int .i64 xk, .int .i64 xka, .bool xya, .int .i64 xda.coef, .int .i64 xda.exp, .string xta, .slice xAa xna xca, .int .i64 xkb, .bool xyb, .int .i64 xdb.coef, .int .i64 xdb.exp, .string xtb, .slice xAb xnb xcb, .bool xoa, .bool xob, .slice xAk xnk xck] 29))
            have h7A := ((Keeps.refl (fun _ => False) wr).alloc (.cells #[.int .i64 xk, .int .i64 xka, .bool xya, .int .i64 xda.coef, .int .i64 xda.exp, .string xta, .slice xAa xna xca, .int .i64 xkb, .bool xyb, .int .i64 xdb.coef, .int .i64 xdb.exp, .string xtb, .slice xAb xnb xcb, .bool xoa, .bool xob, .slice xAk xnk xck] 29)).blk h7.out
            obtain ⟨p9, hp9⟩ : ∃ q, wr.heap.size = q := ⟨_, rfl⟩
            rw [hp9] at hb9 ⊢
            generalize wr.alloc (.cells #[.int .i64 xk, .int .i64 xka, .bool xya, .int .i64 xda.coef, .int .i64 xda.exp, .string xta, .slice xAa xna xca, .int .i64 xkb, .bool xyb, .int .i64 xdb.coef, .int .i64 xdb.exp, .string xtb, .slice xAb xnb xcb, .bool xoa, .bool xob, .slice xAk xnk xck] 29) = wA at *
            have H9 := Lib.hid (show ∀ W, Keeps (fun _ => False) wA W → At W p9 0 (Tst.mk xk (.mk xka xya xda xta (.slice xAa xna xca) xea) (.mk xkb xyb xdb xtb (.slice xAb xnb xcb) xeb) xoa xob (.slice xAk xnk xck) xl).cells from fun W hk j u hj => by rw [Nat.zero_add, cell_of_row W p9 j _ _ _ (hk.blk hb9), List.getElem?_toArray]; exact hj)
            have H7 := Lib.hid (fun (W : World) (hk : Keeps (fun _ => False) wA W) => hk.blk h7A)
            clear u0 u1 u2 u3 u4 u5 u6 u7 u8 u9 u10 u11 u12 u13 u14 u15 hb9 h7A hp9
            have KW := Lib.hid (show Keeps (fun _ => False) wA { wA with drawn := wA.drawn + 1 } from (Keeps.refl _ wA).drew)
            refine Wg.wp_region_first (C := fun w' => Keeps (fun _ => False) wA w') (by kernel_rfl) 5 ?_
            generalize { wA with drawn := wA.drawn + 1 } = W at *
            apply Wg.wpAnyP_stays (by kernel_rfl) [0, 1, 2] _ _ _ 3 _ KW.out (by kernel_rfl) ?hs ?hr
            case hs =>
              repeat (apply Wg.wpStays_step rfl rfl; (intro w' hw'; have u0 := (H9.out w' hw').kind; obtain ⟨u1, u2, u3, u4, u5, u6⟩ := (H9.out w' hw').partA; obtain ⟨u7, u8, u9, u10, u11, u12⟩ := (H9.out w' hw').partB; obtain ⟨u13, u14, u15⟩ := (H9.out w' hw').rest; obtain ⟨y0, y1, y2, y3, y4, y5, _⟩ := cells6 (H7.out w' hw'); obtain ⟨v0, v1, v2, v3, v4, v5, _⟩ := HVC.out w' (KA.out.trans hw' fun _ h => .inl h); simp only [Nat.zero_add] at u0 u1 u2 u3 u4 u5 u6 u7 u8 u9 u10 u11 u12 u13 u14 u15; clear hw'; go_simp; exact ⟨rfl, rfl⟩); go_simp)
              exact rfl
            case hr =>
              apply Wg.wpAnyP_one (i := 3) (fuel := 2) (by kernel_rfl) rfl rfl
              go_simp
              refine Wg.plain_call ((HI.out W (KA.out.trans KW.out fun _ h => .inl h)).frm) ?_
              rintro e W1 ⟨rfl, hk1⟩
              have B1 := Lib.hid (KW.out.trans hk1 fun _ h => .inl h)
              refine ⟨_, rfl, B1.out, ?_⟩
              clear hk1
              apply Wg.wpAnyP_one (i := 4) (fuel := 1) (by kernel_rfl) rfl rfl
              go_simp
              refine Wg.plain_call (HOR.out W1) ?_
              rintro e W2 ⟨rfl, hk1⟩
              have B2 := Lib.hid (B1.out.trans hk1 fun _ h => .inl h)
              refine ⟨_, rfl, B2.out, ?_⟩
              clear hk1
              have hb8 := H7.out W2 B2.out
              obtain ⟨z0, z1, z2, z3, z4, z5, zf⟩ := cells6 hb8
              have zl := row_lt hb8
              obtain ⟨wf, hwf, hfb, hfk⟩ := put6 (v0 := .int .i64 (kH (max g D))) (v1 := .bool (yH (max g D))) (v2 := .int .i64 0) (v3 := .int .i64 0) (v4 := .string ⟨#[]⟩) (v5 := .slice none 0 0) hb8
              have KF := Lib.hid (((KA.out.trans B2.out fun _ h => .inl h).trans hfk fun k e => .inr (by have := HP7.out; omega)))
              have HFB := Lib.hid hfb
              apply Wg.wpAnyP_one (i := 5) (fuel := 0) (by kernel_rfl) rfl rfl
              go_simp
              refine ⟨trivial, by kernel_rfl, ?_⟩
              go_simp
              clear hb8 z0 z1 z2 z3 z4 z5 zf zl hwf hfb hfk
              go_wp2_with fail
              go_roundw
              case measure => simp [intOf]; omega
              case rel => exact ⟨k + 1, max g D, by go_num, by omega, HMX.out.1, HMX.out.2, HFB, HE2, KF⟩
      · have HRR := Lib.hid (show R = 2 - doesL l (.mk kv yv dv tv (.slice Av nv cv) ev) 0 from HDEF.out)
        obtain ⟨hnk, hck, hmx, hel⟩ := hrow.elemT
        subst hnk
        have HE := Lib.hid hel
        obtain ⟨r1, r2, r3⟩ := (HAT.out w2 KR.out).rest
        simp only [Nat.zero_add] at r3
        clear hrow hel r1 r2
        obtain ⟨len, hlen⟩ : ∃ len, l.length = len := ⟨_, rfl⟩
        rw [hlen] at r3 hck
        have HLEN := Lib.hid hlen
        have hlb : len ≤ 9223372036854775807 := Nat.le_trans hck (Nat.le_trans hmx (by decide))
        have HB0 := Lib.hid (fun W : World => Hands.frm (h := 0) (bool_any (w := W) false))
        have HR3 := Lib.hid (fun (W : World) (hk : Keeps (fun _ => False) w2 W) => hk.cell (fun h => h) r3)
        clear hlen
        as_aux_lemma =>
        go_enter Tryz.func16, Tryz.ntmps16
        go_upto_region 22 with (go_at_call 29; ((with_reducible refine (HB0.out _).mono ?_); rintro e w3 ⟨rfl, hk⟩; have K3 := Lib.hid (KR.out.trans hk fun _ h => .inl h); clear hk; clear t0 a1 a2 a3 a4 a5 a6 v0 v1 v2 v3 v4 v5 r3))
        obtain ⟨p7, hp7⟩ : ∃ q, w3.heap.size = q := ⟨_, rfl⟩
        have hb7 := heap_alloc_new w3 (.cells (frm (kH 0) (yH 0)) 26)
        have hk4 := K3.out.alloc (.cells (frm (kH 0) (yH 0)) 26)
        have HP7 := Lib.hid (show w2.heap.size ≤ p7 by have := K3.out.size; omega)
        rw [hp7] at hb7 ⊢
        generalize w3.alloc (.cells (frm (kH 0) (yH 0)) 26) = w4 at *
        have HB7 := Lib.hid hb7; have K4 := Lib.hid hk4
        obtain ⟨r1, r2, r3⟩ := (HAT.out w4 K4.out).rest
        simp only [Nat.zero_add] at r3
        rw [HLEN.out] at r3
        clear hb7 hp7 hk4 r1 r2
        go_wp2_with fail
        go_loopw [78] (fun i wr => ∃ k g, i = .int .i64 ((k : Nat) : Int) ∧ k ≤ len ∧ (0 : Int) ≤ g ∧ g ≤ 2 ∧ Hid (wr.heap[p7]? = some (.cells (frm (kH g) (yH g)) 26 (0, 0))) ∧ Hid (doesL (l.drop k) (.mk kv yv dv tv (.slice Av nv cv) ev) g = doesL l (.mk kv yv dv tv (.slice Av nv cv) ev) 0) ∧ Hid (Keeps (fun _ => False) w2 wr)) (fun i _ => ((len : Int) - intOf i).toNat)
        case atStart => exact ⟨0, 0, rfl, by omega, by omega, by omega, HB7, Lib.hid rfl, K4⟩
        case round =>
          obtain ⟨k, g, rfl, hk, hg0, hg2, h7, he, hkk⟩ := hrel
          have t0 := (HAT.out _ hkk.out).kind
          obtain ⟨y0, y1, y2, y3, y4, y5, yf⟩ := cells6 h7.out
          rcases (show k = len ∨ k < len by omega) with rfl | hlt
          · have HG := Lib.hid (show doesL l (.mk kv yv dv tv (.slice Av nv cv) ev) 0 = g by rw [← he.out, List.drop_of_length_le (by have := HLEN.out; omega)]; rfl)
            have HY := Lib.hid (FY.out (2 - g) (by rw [HRR.out, HG.out]))
            have HN := Lib.hid (fun W : World => Hands.arg (not_any (w := W) g hg0 hg2))
            go_wp2_with (go_at_call 27; ((with_reducible refine (HN.out _).mono ?_); rintro e w5 ⟨rfl, hk⟩; have K5 := Lib.hid (hkk.out.trans hk fun _ h => .inl h); clear hk; clear t0 y0 y1 y2 y3 y4 y5 yf; have hb9 := K5.out.blk BP.out; (obtain ⟨z0, z1, z2, z3, z4, z5, zf⟩ := cells6 hb9); have zl := row_lt hb9; (obtain ⟨wf, hwf, hfb, hfk⟩ := put6 (v0 := .int .i64 (kH (2 - g))) (v1 := .bool (yH (2 - g))) (v2 := .int .i64 0) (v3 := .int .i64 0) (v4 := .string ⟨#[]⟩) (v5 := .slice none 0 0) hb9); (obtain ⟨q0, q1, q2, q3, q4, q5, qf⟩ := cells6 hfb); clear hb9))
            (try simp only [Exit.inBlock, Exit.then])
            refine bodyPost_ret (v := .agg #[.int .i64 (kH (2 - g)), .bool (yH (2 - g)), .int .i64 0, .int .i64 0, .string ⟨#[]⟩, .slice none 0 0]) (by simp [results, Tryz.results16, go_sem, q0, q1, q2, q3, q4, q5]) rfl ?_
            exact ⟨HY.out, handed K2.out K5.out hfk HPL.out⟩
          · have hlz : (k : Int) < (len : Int) := by omega
            have hkl : k < l.length := by have := HLEN.out; omega
            have hgx : l[k]? = some l[k] := List.getElem?_eq_getElem hkl
            have hdr := List.drop_eq_getElem_cons hkl
            generalize l[k] = x at *
            obtain ⟨bb, off, rfl, hatx⟩ := HE.out k x hgx
            have HI := Lib.hid (HIH.out k x hgx (by omega))
            have hatw := hatx.keep (K2.out.trans hkk.out fun _ h => .inl h) (fun h => h)
            have hdb := HDB.out x
            have HE2 := Lib.hid (show doesL (l.drop (k + 1)) (.mk kv yv dv tv (.slice Av nv cv) ev) (max g (doesT x (.mk kv yv dv tv (.slice Av nv cv) ev))) = doesL l (.mk kv yv dv tv (.slice Av nv cv) ev) 0 by rw [← he.out, hdr]; rfl)
            generalize doesT x (.mk kv yv dv tv (.slice Av nv cv) ev) = D at *
            have HOR := Lib.hid (fun W : World => Hands.args (or_any (w := W) g D hg0 hg2 hdb.1 hdb.2))
            have HMX := Lib.hid (show (0 : Int) ≤ max g D ∧ max g D ≤ 2 by omega)
            have htx := HKD.out k x hgx
            obtain ⟨xk, xa, xb, xoa, xob, xkv, xl⟩ := x
            obtain ⟨hxa, hxb, hxr, _⟩ := htx.parts
            obtain ⟨xka, xya, xda, xta, xla, xea⟩ := xa
            obtain ⟨xkb, xyb, xdb, xtb, xlb, xeb⟩ := xb
            obtain ⟨xAa, xna, xca, hxla⟩ := hxa.slice
            obtain ⟨xAb, xnb, xcb, hxlb⟩ := hxb.slice
            obtain ⟨xAk, xnk, xck, hxkv⟩ := hxr.slice
            subst hxla hxlb hxkv
            have u0 := hatw.kind
            obtain ⟨u1, u2, u3, u4, u5, u6⟩ := hatw.partA
            obtain ⟨u7, u8, u9, u10, u11, u12⟩ := hatw.partB
            obtain ⟨u13, u14, u15⟩ := hatw.rest
            simp only [Tst.cells] at HI
            clear hatw htx hxa hxb hxr hgx hdr hatx t0 y0 y1 y2 y3 y4 y5 yf he
            go_upto_region 25 with fail
            have hb9 := heap_alloc_new wr (.cells #[.int .i64 xk, .int .i64 xka, .bool xya, .int .i64 xda.coef, .int .i64 xda.exp, .string xta, .slice xAa xna xca, .int .i64 xkb, .bool xyb, .int .i64 xdb.coef, .int .i64 xdb.exp, .string xtb, .slice xAb xnb xcb, .bool xoa, .bool xob, .slice xAk xnk xck] 29)
            have KA := Lib.hid (hkk.out.alloc (.cells #[.int .i64 xk, .int .i64 xka, .bool xya, .int .i64 xda.coef, .int .i64 xda.exp, .string xta, .slice xAa xna xca, .int .i64 xkb, .bool xyb, .int .i64 xdb.coef, .int .i64 xdb.exp, .string xtb, .slice xAb xnb xcb, .bool xoa, .bool xob, .slice xAk xnk xck] 29))
            have h7A := ((Keeps.refl (fun _ => False) wr).alloc (.cells #[.int .i64 xk, .int .i64 xka, .bool xya, .int .i64 xda.coef, .int .i64 xda.exp, .string xta, .slice xAa xna xca, .int .i64 xkb, .bool xyb, .int .i64 xdb.coef, .int .i64 xdb.exp, .string xtb, .slice xAb xnb xcb, .bool xoa, .bool xob, .slice xAk xnk xck] 29)).blk h7.out
            obtain ⟨p9, hp9⟩ : ∃ q, wr.heap.size = q := ⟨_, rfl⟩
            rw [hp9] at hb9 ⊢
            generalize wr.alloc (.cells #[.int .i64 xk, .int .i64 xka, .bool xya, .int .i64 xda.coef, .int .i64 xda.exp, .string xta, .slice xAa xna xca, .int .i64 xkb, .bool xyb, .int .i64 xdb.coef, .int .i64 xdb.exp, .string xtb, .slice xAb xnb xcb, .bool xoa, .bool xob, .slice xAk xnk xck] 29) = wA at *
            have H9 := Lib.hid (show ∀ W, Keeps (fun _ => False) wA W → At W p9 0 (Tst.mk xk (.mk xka xya xda xta (.slice xAa xna xca) xea) (.mk xkb xyb xdb xtb (.slice xAb xnb xcb) xeb) xoa xob (.slice xAk xnk xck) xl).cells from fun W hk j u hj => by rw [Nat.zero_add, cell_of_row W p9 j _ _ _ (hk.blk hb9), List.getElem?_toArray]; exact hj)
            have H7 := Lib.hid (fun (W : World) (hk : Keeps (fun _ => False) wA W) => hk.blk h7A)
            clear u0 u1 u2 u3 u4 u5 u6 u7 u8 u9 u10 u11 u12 u13 u14 u15 hb9 h7A hp9
            have KW := Lib.hid (show Keeps (fun _ => False) wA { wA with drawn := wA.drawn + 1 } from (Keeps.refl _ wA).drew)
            refine Wg.wp_region_first (C := fun w' => Keeps (fun _ => False) wA w') (by kernel_rfl) 5 ?_
            generalize { wA with drawn := wA.drawn + 1 } = W at *
            apply Wg.wpAnyP_stays (by kernel_rfl) [0, 1, 2] _ _ _ 3 _ KW.out (by kernel_rfl) ?hs ?hr
            case hs =>
              repeat (apply Wg.wpStays_step rfl rfl; (intro w' hw'; have u0 := (H9.out w' hw').kind; obtain ⟨u1, u2, u3, u4, u5, u6⟩ := (H9.out w' hw').partA; obtain ⟨u7, u8, u9, u10, u11, u12⟩ := (H9.out w' hw').partB; obtain ⟨u13, u14, u15⟩ := (H9.out w' hw').rest; obtain ⟨y0, y1, y2, y3, y4, y5, _⟩ := cells6 (H7.out w' hw'); obtain ⟨v0, v1, v2, v3, v4, v5, _⟩ := HVC.out w' (KA.out.trans hw' fun _ h => .inl h); simp only [Nat.zero_add] at u0 u1 u2 u3 u4 u5 u6 u7 u8 u9 u10 u11 u12 u13 u14 u15; clear hw'; go_simp; exact ⟨rfl, rfl⟩); go_simp)
              exact rfl
            case hr =>
              apply Wg.wpAnyP_one (i := 3) (fuel := 2) (by kernel_rfl) rfl rfl
              go_simp
              refine Wg.plain_call ((HI.out W (KA.out.trans KW.out fun _ h => .inl h)).frm) ?_
              rintro e W1 ⟨rfl, hk1⟩
              have B1 := Lib.hid (KW.out.trans hk1 fun _ h => .inl h)
              refine ⟨_, rfl, B1.out, ?_⟩
              clear hk1
              apply Wg.wpAnyP_one (i := 4) (fuel := 1) (by kernel_rfl) rfl rfl
              go_simp
              refine Wg.plain_call (HOR.out W1) ?_
              rintro e W2 ⟨rfl, hk1⟩
              have B2 := Lib.hid (B1.out.trans hk1 fun _ h => .inl h)
              refine ⟨_, rfl, B2.out, ?_⟩
              clear hk1
              have hb8 := H7.out W2 B2.out
              obtain ⟨z0, z1, z2, z3, z4, z5, zf⟩ := cells6 hb8
              have zl := row_lt hb8
              obtain ⟨wf, hwf, hfb, hfk⟩ := put6 (v0 := .int .i64 (kH (max g D))) (v1 := .bool (yH (max g D))) (v2 := .int .i64 0) (v3 := .int .i64 0) (v4 := .string ⟨#[]⟩) (v5 := .slice none 0 0) hb8
              have KF := Lib.hid (((KA.out.trans B2.out fun _ h => .inl h).trans hfk fun k e => .inr (by have := HP7.out; omega)))
              have HFB := Lib.hid hfb
              apply Wg.wpAnyP_one (i := 5) (fuel := 0) (by kernel_rfl) rfl rfl
              go_simp
              refine ⟨trivial, by kernel_rfl, ?_⟩
              go_simp
              clear hb8 z0 z1 z2 z3 z4 z5 zf zl hwf hfb hfk
              go_wp2_with fail
              go_roundw
              case measure => simp [intOf]; omega
              case rel => exact ⟨k + 1, max g D, by go_num, by omega, HMX.out.1, HMX.out.2, HFB, HE2, KF⟩

end Go.Proofs.YtnihfhfakadepaaGreatDoor
