/- Package trials: what a test says of a value. -/
import Derived.Test.YtnihfhfakadepaaGreatDoorXApp
import Derived.Test.YtnihfhfakadepaaGreatDoorXFitsA
import Derived.Test.YtnihfhfakadepaaGreatDoorXTstA
namespace Go.Proofs.YtnihfhfakadepaaGreatDoor
open Go.RowKit

set_option maxRecDepth 100000 in
set_option maxHeartbeats 16000000 in
theorem does_any {w : World} {t : Tst} {v : Val} (hto : TOk w t) (hv : VOk w (fun _ => False) v) (ht : Tabs w) :
    Calls Tryz.prog 6 #[.agg t.cells.toArray, .agg v.cells.toArray] w fun e w' =>
      e = .returned (if wrongT t 1 ≠ 0 then .tuple #[.agg zero6, .int .i64 (wrongT t 1)] else if wrongV v ≠ 0 then .tuple #[.agg zero6, .int .i64 (wrongV v)] else .tuple #[.agg (hC (doesT t v)), .int .i64 0]) ∧ Keeps (fun _ => False) w w' := by
  have hvs : ∃ A n c, v.lv = .slice A n c := by obtain ⟨_, _, _, _, lv, _⟩ := v; exact hv.slice
  have hg := fun h => good_of_right t 1 h
  obtain ⟨w2, pa, pb, p, e2, epa, epb, ep, k2, ba, bb, bp⟩ := test_boxes w t.cells.toArray v.cells.toArray
  have HW := Lib.hid (fun (W : World) (hk : Keeps (fun _ => False) w2 W) => tWrong_any (TOk.later (k2.trans hk fun _ h => .inl h) t hto) (ht.later (k2.trans hk fun _ h => .inl h)))
  have HV := Lib.hid (fun (W : World) (hk : Keeps (fun _ => False) w2 W) => lwrong_any (hv.later (k2.trans hk fun _ h => .inl h)) (ht.later (k2.trans hk fun _ h => .inl h)))
  have HA := Lib.hid (fun (h : wrongT t 1 = 0) (W : World) (hk : Keeps (fun _ => False) w2 W) => apply_any (SizeOf.sizeOf t + 1) t (by omega) W v (TOk.later (k2.trans hk fun _ h => .inl h) t hto) (hg h) hvs (ht.1.later (k2.trans hk fun _ h => .inl h)))
  have HAT := Lib.hid (show ∀ W, Keeps (fun _ => False) w2 W → At W pa 0 t.cells from fun W hk j u hj => by rw [Nat.zero_add, cell_of_row W pa j _ _ _ (hk.blk ba), List.getElem?_toArray]; exact hj)
  have HVV := Lib.hid (fun (W : World) (hk : Keeps (fun _ => False) w2 W) => hk.blk bb)
  have K2 := Lib.hid k2; have BP := Lib.hid bp; have HPL := Lib.hid (show w.heap.size ≤ p by omega)
  have HEP := Lib.hid (And.intro e2 (And.intro epa (And.intro epb ep)))
  have KR := Lib.hid (Keeps.refl (fun _ => False) w2)
  generalize wrongT t 1 = eT at *
  generalize wrongV v = eV at *
  generalize doesT t v = R at *
  clear hvs hg k2 ba bb bp ht
  obtain ⟨kd, va, vb, oa, ob, kvv, l⟩ := t
  obtain ⟨hva, hvb, hrow, hkids⟩ := hto.parts
  obtain ⟨Av, nv, cv, hlv⟩ := (show ∃ A n c, v.lv = .slice A n c by obtain ⟨_, _, _, _, lv, _⟩ := v; exact hv.slice)
  obtain ⟨kv, yv, dv, tv, lv, ev⟩ := v
  obtain ⟨ka, ya, da, ta, la, ea⟩ := va
  obtain ⟨kb, yb, db, tb, lb, eb⟩ := vb
  obtain ⟨Aa, na, ca, hla⟩ := hva.slice
  obtain ⟨Ab, nb, cb, hlb⟩ := hvb.slice
  obtain ⟨Ak, nk, ck, hkv⟩ := hrow.slice
  simp only [Val.lv] at hlv
  subst hla hlb hkv hlv
  have HVC := Lib.hid (fun (W : World) (hk : Keeps (fun _ => False) w2 W) => cells6 (HVV.out W hk))
  unfold Says at HW
  simp only [Tst.cells, Val.cells] at e2 HW HV HA ⊢
  clear HVV hva hvb hrow hkids hto hv
  have u0 := (HAT.out w2 KR.out).kind
  obtain ⟨u1, u2, u3, u4, u5, u6⟩ := (HAT.out w2 KR.out).partA
  obtain ⟨u7, u8, u9, u10, u11, u12⟩ := (HAT.out w2 KR.out).partB
  obtain ⟨u13, u14, u15⟩ := (HAT.out w2 KR.out).rest
  simp only [Nat.zero_add] at u1 u2 u3 u4 u5 u6 u7 u8 u9 u10 u11 u12 u13 u14 u15
  by_cases hT : eT = 0
  · subst hT
    rw [if_neg (by simp)]
    have HA1 := Lib.hid (HA.out rfl)
    clear HA
    by_cases hV : eV = 0
    · subst hV
      rw [if_neg (by simp)]
      have HA2 := Lib.hid (fun (W : World) (hk : Keeps (fun _ => False) w2 W) => (HA1.out W hk).frm)
      clear HA1
      go_enter Tryz.func6, Tryz.ntmps6
      go_wp2_with (first
        | (go_at_call 4; ((with_reducible refine (HW.out _ KR.out).mono ?_); rintro e w3 ⟨rfl, hk⟩; have K3 := Lib.hid hk; clear hk u0 u1 u2 u3 u4 u5 u6 u7 u8 u9 u10 u11 u12 u13 u14 u15; (obtain ⟨v0, v1, v2, v3, v4, v5, _⟩ := HVC.out w3 K3.out)))
        | (go_at_call 15; ((with_reducible refine (HV.out _ K3.out).mono ?_); rintro e w4 ⟨rfl, hk⟩; have K4 := Lib.hid (K3.out.trans hk fun _ h => .inl h); clear hk v0 v1 v2 v3 v4 v5; (obtain ⟨v0, v1, v2, v3, v4, v5, _⟩ := HVC.out w4 K4.out); have u0 := (HAT.out w4 K4.out).kind; (obtain ⟨u1, u2, u3, u4, u5, u6⟩ := (HAT.out w4 K4.out).partA); (obtain ⟨u7, u8, u9, u10, u11, u12⟩ := (HAT.out w4 K4.out).partB); (obtain ⟨u13, u14, u15⟩ := (HAT.out w4 K4.out).rest); simp only [Nat.zero_add] at u1 u2 u3 u4 u5 u6 u7 u8 u9 u10 u11 u12 u13 u14 u15))
        | (go_at_call 16; ((with_reducible refine (HA2.out _ K4.out).mono ?_); rintro e w5 ⟨rfl, hk⟩; have K5 := Lib.hid (K4.out.trans hk fun _ h => .inl h); clear hk v0 v1 v2 v3 v4 v5 u0 u1 u2 u3 u4 u5 u6 u7 u8 u9 u10 u11 u12 u13 u14 u15; have hb9 := K5.out.blk BP.out; (obtain ⟨z0, z1, z2, z3, z4, z5, zf⟩ := cells6 hb9); have zl := row_lt hb9; (obtain ⟨wf, hwf, hfb, hfk⟩ := put6 (v0 := .int .i64 (kH R)) (v1 := .bool (yH R)) (v2 := .int .i64 0) (v3 := .int .i64 0) (v4 := .string ⟨#[]⟩) (v5 := .slice none 0 0) hb9); (obtain ⟨q0, q1, q2, q3, q4, q5, qf⟩ := cells6 hfb); clear hb9)))
      (try simp only [Exit.inBlock, Exit.then])
      refine bodyPost_ret (v := .tuple #[.agg #[.int .i64 (kH R), .bool (yH R), .int .i64 0, .int .i64 0, .string ⟨#[]⟩, .slice none 0 0], .int .i64 0]) (by simp [results, Tryz.results6, go_sem, q0, q1, q2, q3, q4, q5]) rfl ?_
      exact ⟨by rw [hC_frm], handed K2.out K5.out hfk HPL.out⟩
    · rw [if_pos hV]
      have hne : (eV != 0) = true := by simpa using hV
      clear hV
      go_enter Tryz.func6, Tryz.ntmps6
      go_wp2_with (first
        | (go_at_call 4; ((with_reducible refine (HW.out _ KR.out).mono ?_); rintro e w3 ⟨rfl, hk⟩; have K3 := Lib.hid hk; clear hk u0 u1 u2 u3 u4 u5 u6 u7 u8 u9 u10 u11 u12 u13 u14 u15; (obtain ⟨v0, v1, v2, v3, v4, v5, _⟩ := HVC.out w3 K3.out)))
        | (go_at_call 15; ((with_reducible refine (HV.out _ K3.out).mono ?_); rintro e w4 ⟨rfl, hk⟩; have K4 := Lib.hid (K3.out.trans hk fun _ h => .inl h); clear hk v0 v1 v2 v3 v4 v5; have hb9 := K4.out.blk BP.out; (obtain ⟨z0, z1, z2, z3, z4, z5, zf⟩ := cells6 hb9); have zl := row_lt hb9; (obtain ⟨wf, hwf, hfb, hfk⟩ := put6 (v0 := .int .i64 0) (v1 := .bool false) (v2 := .int .i64 0) (v3 := .int .i64 0) (v4 := .string ⟨#[]⟩) (v5 := .slice none 0 0) hb9); (obtain ⟨q0, q1, q2, q3, q4, q5, qf⟩ := cells6 hfb); clear hb9)))
      (try simp only [Exit.inBlock, Exit.then])
      refine bodyPost_ret (v := .tuple #[.agg zero6, .int .i64 eV]) (by simp [results, Tryz.results6, go_sem, q0, q1, q2, q3, q4, q5]) rfl ?_
      exact ⟨rfl, handed K2.out K4.out hfk HPL.out⟩
  · rw [if_pos hT]
    have hne : (eT != 0) = true := by simpa using hT
    clear hT HA
    go_enter Tryz.func6, Tryz.ntmps6
    go_wp2_with (go_at_call 4; ((with_reducible refine (HW.out _ KR.out).mono ?_); rintro e w3 ⟨rfl, hk⟩; have K3 := Lib.hid hk; clear hk u0 u1 u2 u3 u4 u5 u6 u7 u8 u9 u10 u11 u12 u13 u14 u15; have hb9 := K3.out.blk BP.out; (obtain ⟨z0, z1, z2, z3, z4, z5, zf⟩ := cells6 hb9); have zl := row_lt hb9; (obtain ⟨wf, hwf, hfb, hfk⟩ := put6 (v0 := .int .i64 0) (v1 := .bool false) (v2 := .int .i64 0) (v3 := .int .i64 0) (v4 := .string ⟨#[]⟩) (v5 := .slice none 0 0) hb9); (obtain ⟨q0, q1, q2, q3, q4, q5, qf⟩ := cells6 hfb); clear hb9))
    (try simp only [Exit.inBlock, Exit.then])
    refine bodyPost_ret (v := .tuple #[.agg zero6, .int .i64 eT]) (by simp [results, Tryz.results6, go_sem, q0, q1, q2, q3, q4, q5]) rfl ?_
    exact ⟨rfl, handed K2.out K3.out hfk HPL.out⟩

end Go.Proofs.YtnihfhfakadepaaGreatDoor
