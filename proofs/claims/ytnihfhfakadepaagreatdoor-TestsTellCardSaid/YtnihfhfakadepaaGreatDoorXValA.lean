/- Package trials: what is wrong with a value of a test; has it others below and above? Package verdictref8: what is wrong with a value of a test. -/
import Derived.Test.YtnihfhfakadepaaGreatDoorXLookA
import Derived.Test.YtnihfhfakadepaaGreatDoorXWordD
namespace Go.Proofs.YtnihfhfakadepaaGreatDoor
open Go.RowKit

/-- The number of a value without its sign. -/
def absD (d : DecV) : DecV := ⟨d.coef.natAbs, d.exp⟩
theorem wrongD_abs {d : DecV} (h : wrongD d = 0) : wrongD (absD d) = 0 := by
  have hb := wrongD_zero h
  unfold wrongD absD at *
  simp only at *
  rw [if_neg (by omega)] at h ⊢
  split at h
  · omega
  · rename_i h2
    rw [if_neg]
    rintro (⟨h3, h4⟩ | ⟨h3, h4⟩)
    · exact h2 (.inl ⟨by omega, h4⟩)
    · refine h2 (.inr ⟨by omega, ?_⟩)
      rcases Int.lt_or_le d.coef 0 with hn | hn
      · rw [show (d.coef.natAbs : Int) = -d.coef by omega, Int.neg_tmod] at h4
        omega
      · rw [show (d.coef.natAbs : Int) = d.coef by omega] at h4
        exact h4

set_option maxRecDepth 100000 in
set_option maxHeartbeats 4000000 in
theorem limit_any {w : World} : Calls Tryz.prog 35 #[] w fun e w' => e = .returned (.agg #[.int .i64 1, .int .i64 9]) ∧ Keeps (fun _ => False) w w' := by
  go_enter Tryz.func35, Tryz.ntmps35
  go_wp2
  (try simp only [Exit.inBlock, Exit.then])
  refine bodyPost_ret (v := .agg #[.int .i64 1, .int .i64 9]) (by simp [results, Tryz.results35, go_sem]) rfl ?_
  exact ⟨rfl, (Keeps.refl _ _).alloc _⟩

set_option maxRecDepth 100000 in
set_option maxHeartbeats 4000000 in
theorem ordered_any {w : World} (v : Val) : Calls Tryz.prog 22 #[.agg v.cells.toArray] w fun e w' => e = .returned (.bool (ordB v)) ∧ Keeps (fun _ => False) w w' := by
  obtain ⟨kd, ys, d, t, lv, l⟩ := v
  simp only [Val.cells]
  by_cases h3 : kd = 3
  · subst h3
    go_enter Tryz.func22, Tryz.ntmps22
    go_wp2
    go_ret
    exact ⟨rfl, (Keeps.refl _ _).alloc _⟩
  · by_cases h4 : kd = 4
    · subst h4
      go_enter Tryz.func22, Tryz.ntmps22
      go_wp2
      go_ret
      exact ⟨rfl, (Keeps.refl _ _).alloc _⟩
    · have e3 : (kd == 3) = false := by simpa using h3
      have e4 : (kd == 4) = false := by simpa using h4
      have hr : ordB (.mk kd ys d t lv l) = false := by simp [ordB, Val.kind, h3, h4]
      rw [hr]
      go_enter Tryz.func22, Tryz.ntmps22
      go_wp2
      go_ret
      exact ⟨rfl, (Keeps.refl _ _).alloc _⟩

/-- A value's copy in a block of its own. -/
theorem val_copy {w w1 : World} {v : Val} {p : Nat} (h1 : w.alloc (.cells v.cells.toArray 26) = w1) (hp : w.heap.size = p) : (∀ W, Keeps (fun _ => False) w1 W → At W p 0 v.cells) ∧ Keeps (fun _ => False) w w1 := by
  have hb1 : w1.heap[p]? = some (.cells v.cells.toArray 26 (0, 0)) := by rw [← h1, ← hp]; exact heap_alloc_new _ _
  refine ⟨fun W hk j u hj => ?_, by rw [← h1]; exact (Keeps.refl _ _).alloc _⟩
  rw [Nat.zero_add, cell_of_row W p j _ _ _ (hk.blk hb1), List.getElem?_toArray]
  exact hj

set_option maxRecDepth 100000 in
set_option maxHeartbeats 4000000 in
theorem value_any {w : World} {v : Val} (hv : VOk w (fun _ => False) v) (ht : Tabs w) :
    Calls Tryz.prog 21 #[.agg v.cells.toArray] w fun e w' => e = .returned (.int .i64 (valW v)) ∧ Keeps (fun _ => False) w w' := by
  obtain ⟨w1, h1⟩ : ∃ w1, w.alloc (.cells v.cells.toArray 26) = w1 := ⟨_, rfl⟩
  obtain ⟨p, hp⟩ : ∃ p, w.heap.size = p := ⟨_, rfl⟩
  obtain ⟨HAT0, k1⟩ := val_copy h1 hp
  have HAT := Lib.hid HAT0
  have K1 := Lib.hid k1
  have HL := Lib.hid (lwrong_any (hv.later k1) (ht.later k1))
  have HTB := Lib.hid (fun (W : World) (hk : Keeps (fun _ => False) w1 W) => (ht.later k1).later hk)
  have HV0 := Lib.hid (show wrongV v ≠ 0 → wrongV v = valW v from fun h => by unfold valW; rw [if_pos h])
  have HV5 := Lib.hid (show wrongV v = 0 → v.kind = 5 → 8 = valW v from fun h h5 => by unfold valW; rw [if_neg (by simpa using h), if_pos h5])
  have HV3 := Lib.hid (show wrongV v = 0 → v.kind ≠ 5 → (v.kind = 3 ∧ (0 < cmpD (absD v.num) ⟨1, 9⟩ ∨ v.num.exp < -6)) → 3 = valW v from fun h h5 h3 => by unfold valW; rw [if_neg (by simpa using h), if_neg h5]; exact (if_pos h3).symm)
  have HVN := Lib.hid (show wrongV v = 0 → v.kind ≠ 5 → ¬ (v.kind = 3 ∧ (0 < cmpD (absD v.num) ⟨1, 9⟩ ∨ v.num.exp < -6)) → 0 = valW v from fun h h5 h3 => by unfold valW; rw [if_neg (by simpa using h), if_neg h5]; exact (if_neg h3).symm)
  have HWD := Lib.hid (show wrongV v = 0 → v.kind = 3 → wrongD v.num = 0 from fun h hk => by
    obtain ⟨kd, ys, d, t, lv, l⟩ := v
    have hk : kd = 3 := hk
    subst hk
    unfold wrongV lookV at h
    exact h)
  generalize wrongV v = e0 at *
  generalize valW v = rv at *
  obtain ⟨kd, ys, ⟨cf, ex⟩, t, lv, l⟩ := v
  obtain ⟨A, len, cap, hlv, _⟩ := hv.row.1
  subst hlv
  have q0 := HAT.out w1 (Keeps.refl _ _) 0 _ rfl
  have q1 := HAT.out w1 (Keeps.refl _ _) 1 _ rfl
  have q2 := HAT.out w1 (Keeps.refl _ _) 2 _ rfl
  have q3 := HAT.out w1 (Keeps.refl _ _) 3 _ rfl
  have q4 := HAT.out w1 (Keeps.refl _ _) 4 _ rfl
  have q5 := HAT.out w1 (Keeps.refl _ _) 5 _ rfl
  simp only [Nat.add_zero, Nat.zero_add] at q0 q1 q2 q3 q4 q5
  simp only [Val.cells] at h1 HL ⊢
  simp only [Val.kind, Val.num] at HV0 HV5 HV3 HVN HWD
  clear HAT0 k1 hv ht
  by_cases he : e0 = 0
  · subst he
    rcases (show kd = 5 ∨ kd = 3 ∨ (kd ≠ 5 ∧ kd ≠ 3) by omega) with rfl | rfl | ⟨k5, k3⟩
    · have HX := Lib.hid (HV5.out rfl rfl)
      go_enter Tryz.func21, Tryz.ntmps21
      go_wp2_with (go_at_call 15; ((with_reducible refine HL.out.mono ?_); rintro e w2 ⟨rfl, hk2⟩; clear q0 q1 q2 q3 q4 q5; have q0 := HAT.out w2 hk2 0 _ rfl; simp only [Nat.add_zero] at q0; have HK2 := Lib.hid hk2; clear hk2))
      go_ret
      exact ⟨ret_int HX.out, K1.out.trans HK2.out fun _ h => .inl h⟩
    · have hwd := HWD.out rfl rfl
      have hbd := wrongD_zero hwd
      simp only at hbd
      have HCE := Lib.hid (show cmpE (absD ⟨cf, ex⟩) ⟨1, 9⟩ = (cmpD (absD ⟨cf, ex⟩) ⟨1, 9⟩, 0) by unfold cmpE; rw [if_neg (by rw [wrongD_abs hwd]; simp), if_neg (by decide)])
      have HCMP := Lib.hid (fun (W : World) (hk : Keeps (fun _ => False) w1 W) => by
        have := decCmp_any (w := W) (HTB.out W hk).1 (absD ⟨cf, ex⟩) ⟨1, 9⟩
        rw [HCE.out] at this
        exact this)
      generalize hcc : cmpD (absD ⟨cf, ex⟩) ⟨1, 9⟩ = c at *
      clear hcc
      have HX3 := Lib.hid (show 0 < c → (3 : Int) = rv from fun h => HV3.out rfl (by omega) ⟨rfl, .inl h⟩)
      have HX4 := Lib.hid (show ¬ 0 < c → ex < -6 → (3 : Int) = rv from fun _ h => HV3.out rfl (by omega) ⟨rfl, .inr h⟩)
      have HX0 := Lib.hid (show ¬ 0 < c → ¬ ex < -6 → (0 : Int) = rv from fun h1 h2 => HVN.out rfl (by omega) (by omega))
      clear HV0 HV5 HV3 HVN HCE HWD hwd
      simp only [absD] at HCMP
      obtain ⟨m, hm⟩ : ∃ m, cf.natAbs = m := ⟨_, rfl⟩
      rw [hm] at HCMP
      by_cases hc : cf < 0
      · obtain rfl : cf = -(m : Int) := by omega
        have hmb : (m : Int) ≤ 999999999999999999 := by omega
        clear hm hbd
        go_enter Tryz.func21, Tryz.ntmps21
        go_upto_region 11 with (go_at_call 15; ((with_reducible refine HL.out.mono ?_); rintro e w2 ⟨rfl, hk2⟩; clear q0 q1 q2 q3 q4 q5; have q0 := HAT.out w2 hk2 0 _ rfl; have q2 := HAT.out w2 hk2 2 _ rfl; have q3 := HAT.out w2 hk2 3 _ rfl; simp only [Nat.add_zero, Nat.zero_add] at q0 q2 q3; have HK2 := Lib.hid hk2; clear hk2))
        have HA1 := Lib.hid (HK2.out.alloc (.cells #[.int .i64 m, .int .i64 ex] 23))
        have hbd := heap_alloc_new w2 (.cells #[.int .i64 m, .int .i64 ex] 23)
        obtain ⟨pd, hpd⟩ : ∃ q, w2.heap.size = q := ⟨_, rfl⟩
        rw [hpd] at hbd ⊢
        generalize w2.alloc (.cells #[.int .i64 m, .int .i64 ex] 23) = w3 at *
        have HD := Lib.hid (fun (W : World) (hk : Keeps (fun _ => False) w3 W) => (⟨cell_of_row W pd 0 _ _ _ (hk.blk hbd), cell_of_row W pd 1 _ _ _ (hk.blk hbd)⟩ : W.cell? ⟨pd, 0, none⟩ = some (.int .i64 m) ∧ W.cell? ⟨pd, 1, none⟩ = some (.int .i64 ex)))
        have KW := Lib.hid (show Keeps (fun _ => False) w3 { w3 with drawn := w3.drawn + 1 } from (Keeps.refl _ w3).drew)
        clear q0 q2 q3 hbd hpd
        refine Wg.wp_region_first (C := fun w' => Keeps (fun _ => False) w3 w') (by kernel_rfl) 7 ?_
        generalize { w3 with drawn := w3.drawn + 1 } = W at *
        apply Wg.wpAnyP_stays (by kernel_rfl) [0] _ _ _ 7 _ KW.out (by kernel_rfl) ?hs ?hr
        case hs =>
          repeat (apply Wg.wpStays_step rfl rfl; (intro w' hw'; obtain ⟨d0, d1⟩ := HD.out w' hw'; clear hw'; go_simp; exact ⟨rfl, rfl⟩); go_simp)
          exact rfl
        case hr =>
          apply Wg.wpAnyP_one (i := 1) (fuel := 6) (by kernel_rfl) rfl rfl
          go_simp
          refine Wg.plain_call (limit_any (w := W)) ?_
          rintro e W1 ⟨rfl, hk1⟩
          have A1 := Lib.hid (KW.out.trans hk1 fun _ h => .inl h)
          refine ⟨_, rfl, A1.out, ?_⟩
          clear hk1
          apply Wg.wpAnyP_one (i := 2) (fuel := 5) (by kernel_rfl) rfl rfl
          go_simp
          refine Wg.plain_call (HCMP.out W1 (HA1.out.trans A1.out fun _ h => .inl h)) ?_
          rintro e W2 ⟨rfl, hk2⟩
          have A2 := Lib.hid (A1.out.trans hk2 fun _ h => .inl h)
          refine ⟨_, rfl, A2.out, ?_⟩
          clear hk2
          apply Wg.wpAnyP_stays (by kernel_rfl) [3, 4, 5] _ _ _ 2 _ A2.out (by kernel_rfl) ?hs2 ?hr2
          case hs2 =>
            repeat (apply Wg.wpStays_step rfl rfl; (intro w' hw'; clear hw'; go_simp; exact ⟨rfl, rfl⟩); go_simp)
            exact rfl
          case hr2 =>
            apply Wg.wpAnyP_one (i := 6) (fuel := 1) (by kernel_rfl) rfl rfl
            go_simp
            refine ⟨A2.out, ?_⟩
            apply Wg.wpAnyP_one (i := 7) (fuel := 0) (by kernel_rfl) rfl rfl
            go_simp
            refine ⟨trivial, by kernel_rfl, ?_⟩
            go_simp
            obtain ⟨d0, d1⟩ := HD.out W2 A2.out
            have K9 := Lib.hid (((K1.out.trans HA1.out fun _ h => .inl h)).trans A2.out fun _ h => .inl h)
            rcases (show 0 < c ∨ ¬ 0 < c by omega) with h | h
            · have HX := Lib.hid (HX3.out h)
              go_wp2_with fail
              go_ret
              exact ⟨ret_int HX.out, K9.out⟩
            · rcases (show ex < -6 ∨ ¬ ex < -6 by omega) with h2 | h2
              · have HX := Lib.hid (HX4.out (by omega) (by omega))
                go_wp2_with fail
                go_ret
                exact ⟨ret_int HX.out, K9.out⟩
              · have HX := Lib.hid (HX0.out (by omega) (by omega))
                go_wp2_with fail
                go_ret
                exact ⟨ret_int HX.out, K9.out⟩
      · obtain rfl : cf = (m : Int) := by omega
        have hmb : (m : Int) ≤ 999999999999999999 := by omega
        clear hm hbd
        go_enter Tryz.func21, Tryz.ntmps21
        go_upto_region 11 with (go_at_call 15; ((with_reducible refine HL.out.mono ?_); rintro e w2 ⟨rfl, hk2⟩; clear q0 q1 q2 q3 q4 q5; have q0 := HAT.out w2 hk2 0 _ rfl; have q2 := HAT.out w2 hk2 2 _ rfl; have q3 := HAT.out w2 hk2 3 _ rfl; simp only [Nat.add_zero, Nat.zero_add] at q0 q2 q3; have HK2 := Lib.hid hk2; clear hk2))
        have HA1 := Lib.hid (HK2.out.alloc (.cells #[.int .i64 m, .int .i64 ex] 23))
        have hbd := heap_alloc_new w2 (.cells #[.int .i64 m, .int .i64 ex] 23)
        obtain ⟨pd, hpd⟩ : ∃ q, w2.heap.size = q := ⟨_, rfl⟩
        rw [hpd] at hbd ⊢
        generalize w2.alloc (.cells #[.int .i64 m, .int .i64 ex] 23) = w3 at *
        have HD := Lib.hid (fun (W : World) (hk : Keeps (fun _ => False) w3 W) => (⟨cell_of_row W pd 0 _ _ _ (hk.blk hbd), cell_of_row W pd 1 _ _ _ (hk.blk hbd)⟩ : W.cell? ⟨pd, 0, none⟩ = some (.int .i64 m) ∧ W.cell? ⟨pd, 1, none⟩ = some (.int .i64 ex)))
        have KW := Lib.hid (show Keeps (fun _ => False) w3 { w3 with drawn := w3.drawn + 1 } from (Keeps.refl _ w3).drew)
        clear q0 q2 q3 hbd hpd
        refine Wg.wp_region_first (C := fun w' => Keeps (fun _ => False) w3 w') (by kernel_rfl) 7 ?_
        generalize { w3 with drawn := w3.drawn + 1 } = W at *
        apply Wg.wpAnyP_stays (by kernel_rfl) [0] _ _ _ 7 _ KW.out (by kernel_rfl) ?hs ?hr
        case hs =>
          repeat (apply Wg.wpStays_step rfl rfl; (intro w' hw'; obtain ⟨d0, d1⟩ := HD.out w' hw'; clear hw'; go_simp; exact ⟨rfl, rfl⟩); go_simp)
          exact rfl
        case hr =>
          apply Wg.wpAnyP_one (i := 1) (fuel := 6) (by kernel_rfl) rfl rfl
          go_simp
          refine Wg.plain_call (limit_any (w := W)) ?_
          rintro e W1 ⟨rfl, hk1⟩
          have A1 := Lib.hid (KW.out.trans hk1 fun _ h => .inl h)
          refine ⟨_, rfl, A1.out, ?_⟩
          clear hk1
          apply Wg.wpAnyP_one (i := 2) (fuel := 5) (by kernel_rfl) rfl rfl
          go_simp
          refine Wg.plain_call (HCMP.out W1 (HA1.out.trans A1.out fun _ h => .inl h)) ?_
          rintro e W2 ⟨rfl, hk2⟩
          have A2 := Lib.hid (A1.out.trans hk2 fun _ h => .inl h)
          refine ⟨_, rfl, A2.out, ?_⟩
          clear hk2
          apply Wg.wpAnyP_stays (by kernel_rfl) [3, 4, 5] _ _ _ 2 _ A2.out (by kernel_rfl) ?hs2 ?hr2
          case hs2 =>
            repeat (apply Wg.wpStays_step rfl rfl; (intro w' hw'; clear hw'; go_simp; exact ⟨rfl, rfl⟩); go_simp)
            exact rfl
          case hr2 =>
            apply Wg.wpAnyP_one (i := 6) (fuel := 1) (by kernel_rfl) rfl rfl
            go_simp
            refine ⟨A2.out, ?_⟩
            apply Wg.wpAnyP_one (i := 7) (fuel := 0) (by kernel_rfl) rfl rfl
            go_simp
            refine ⟨trivial, by kernel_rfl, ?_⟩
            go_simp
            obtain ⟨d0, d1⟩ := HD.out W2 A2.out
            have K9 := Lib.hid (((K1.out.trans HA1.out fun _ h => .inl h)).trans A2.out fun _ h => .inl h)
            rcases (show 0 < c ∨ ¬ 0 < c by omega) with h | h
            · have HX := Lib.hid (HX3.out h)
              go_wp2_with fail
              go_ret
              exact ⟨ret_int HX.out, K9.out⟩
            · rcases (show ex < -6 ∨ ¬ ex < -6 by omega) with h2 | h2
              · have HX := Lib.hid (HX4.out (by omega) (by omega))
                go_wp2_with fail
                go_ret
                exact ⟨ret_int HX.out, K9.out⟩
              · have HX := Lib.hid (HX0.out (by omega) (by omega))
                go_wp2_with fail
                go_ret
                exact ⟨ret_int HX.out, K9.out⟩
    · have HX := Lib.hid (HVN.out rfl k5 (fun h => k3 h.1))
      have e3 : (kd == 3) = false := by simpa using k3
      have e5 : (kd == 5) = false := by simpa using k5
      go_enter Tryz.func21, Tryz.ntmps21
      go_wp2_with (go_at_call 15; ((with_reducible refine HL.out.mono ?_); rintro e w2 ⟨rfl, hk2⟩; clear q0 q1 q2 q3 q4 q5; have q0 := HAT.out w2 hk2 0 _ rfl; simp only [Nat.add_zero] at q0; have HK2 := Lib.hid hk2; clear hk2))
      go_ret
      exact ⟨ret_int HX.out, K1.out.trans HK2.out fun _ h => .inl h⟩
  · have HX := Lib.hid (HV0.out he)
    have hne : (e0 != 0) = true := by simpa using he
    go_enter Tryz.func21, Tryz.ntmps21
    go_wp2_with (go_at_call 15; ((with_reducible refine HL.out.mono ?_); rintro e w2 ⟨rfl, hk2⟩; clear q0 q1 q2 q3 q4 q5; have HK2 := Lib.hid hk2; clear hk2))
    go_ret
    exact ⟨ret_int HX.out, K1.out.trans HK2.out fun _ h => .inl h⟩

end Go.Proofs.YtnihfhfakadepaaGreatDoor
namespace Go.Proofs.YtnihfhfakadepaaGreatDoor
open Go.RowKit

theorem rat_nine : IsRat ⟨1, 9⟩ (10 ^ 9) 1 := ⟨by decide, fun _ => by decide, fun h => by simp at h⟩

theorem abs_rat {d : DecV} {P Q a b : Int} (h : IsRat d P Q) (hb : 0 < b) (he : (P.natAbs : Int) * b = a * Q) : IsRat (absD d) a b := by
  have hQ := h.pos
  refine ⟨hb, fun h0 => ?_, fun h0 => ?_⟩
  · have e := h.up h0
    have e2 : (P.natAbs : Int) = d.coef.natAbs * 10 ^ d.exp.toNat * Q := by
      rw [e, Int.natAbs_mul, Int.natAbs_mul, Int.natAbs_pow, Int.natCast_mul, Int.natCast_mul, Int.natCast_pow]
      rw [show ((Int.natAbs 10 : Nat) : Int) = 10 from rfl, show (Q.natAbs : Int) = Q by omega]
    rw [e2] at he
    show a = d.coef.natAbs * 10 ^ d.exp.toNat * b
    apply Int.eq_of_mul_eq_mul_right (a := Q) (by omega)
    rw [← he]
    simp only [Int.mul_comm, Int.mul_left_comm]
  · have e := h.down h0
    have e2 : (P.natAbs : Int) * 10 ^ (-d.exp).toNat = d.coef.natAbs * Q := by
      have e3 := congrArg Int.natAbs e
      rw [Int.natAbs_mul, Int.natAbs_mul, Int.natAbs_pow] at e3
      have e4 := congrArg (fun n : Nat => (n : Int)) e3
      simp only [Int.natCast_mul, Int.natCast_pow] at e4
      rw [show ((Int.natAbs 10 : Nat) : Int) = 10 from rfl, show (Q.natAbs : Int) = Q by omega] at e4
      exact e4
    show a * 10 ^ (-d.exp).toNat = d.coef.natAbs * b
    apply Int.eq_of_mul_eq_mul_right (a := Q) (by omega)
    have e5 : a * 10 ^ (-d.exp).toNat * Q = a * Q * 10 ^ (-d.exp).toNat := by rw [Int.mul_assoc, Int.mul_assoc, Int.mul_comm Q]
    rw [e5, ← he]
    have e6 : (P.natAbs : Int) * b * 10 ^ (-d.exp).toNat = (P.natAbs : Int) * 10 ^ (-d.exp).toNat * b := by rw [Int.mul_assoc, Int.mul_assoc, Int.mul_comm b]
    rw [e6, e2, Int.mul_assoc, Int.mul_assoc, Int.mul_comm Q]

theorem rabs_dec (hdiv : DivSays) {w : World} {p : Nat} {d : DecV} {P Q : Int} (hx : BRat w p P Q) (h : IsRat d P Q) (l1 : P.natAbs < 4294967296 ^ 7) (l2 : Q.natAbs < 4294967296 ^ 5) (hs : P.natAbs < 18446744073709551616 ∨ Q.natAbs < 18446744073709551616) :
    Calls Tryz.prog 37 #[.pointer (some ⟨p, 0, none⟩), .pointer (some ⟨p, 0, none⟩)] w fun e w' => e = .returned (.pointer (some ⟨p, 0, none⟩)) ∧ ∃ a b : Int, BRat w' p a b ∧ IsRat (absD d) a b ∧ a.natAbs < 4294967296 ^ 7 ∧ b.natAbs < 4294967296 ^ 5 ∧ Keeps (fun k => k = p) w w' := by
  obtain ⟨u0, u1, u2, u3, hz⟩ := hx.blk
  refine (rabs_any hdiv hz hx h.pos (len_of_lt l1 (by omega)) (len_of_lt l2 (by omega)) hs).mono ?_
  rintro e w' ⟨rfl, a, b, hb, h0, he, ha, hbb, hk⟩
  exact ⟨rfl, a, b, hb, abs_rat h h0 he, by omega, by have := h.pos; omega, hk⟩

set_option maxRecDepth 100000 in
set_option maxHeartbeats 4000000 in
theorem rvalue_any (hdiv : DivSays) {w : World} {v : Val} (hv : VOk w (fun _ => False) v) (ht : Tabs w) :
    Calls Tryz.prog 23 #[.agg v.cells.toArray] w fun e w' => e = .returned (.int .i64 (valW v)) ∧ Keeps (fun _ => False) w w' := by
  obtain ⟨w1, h1⟩ : ∃ w1, w.alloc (.cells v.cells.toArray 26) = w1 := ⟨_, rfl⟩
  obtain ⟨p, hp⟩ : ∃ p, w.heap.size = p := ⟨_, rfl⟩
  obtain ⟨HAT0, k1⟩ := val_copy h1 hp
  have HAT := Lib.hid HAT0
  have K1 := Lib.hid k1
  have HL := Lib.hid (rwrong_any (hv.later k1) (ht.later k1))
  have HTB := Lib.hid (fun (W : World) (hk : Keeps (fun _ => False) w1 W) => (ht.later k1).later hk)
  have HV0 := Lib.hid (show wrongV v ≠ 0 → wrongV v = valW v from fun h => by unfold valW; rw [if_pos h])
  have HV5 := Lib.hid (show wrongV v = 0 → v.kind = 5 → 8 = valW v from fun h h5 => by unfold valW; rw [if_neg (by simpa using h), if_pos h5])
  have HV3 := Lib.hid (show wrongV v = 0 → v.kind ≠ 5 → (v.kind = 3 ∧ (0 < cmpD (absD v.num) ⟨1, 9⟩ ∨ v.num.exp < -6)) → 3 = valW v from fun h h5 h3 => by unfold valW; rw [if_neg (by simpa using h), if_neg h5]; exact (if_pos h3).symm)
  have HVN := Lib.hid (show wrongV v = 0 → v.kind ≠ 5 → ¬ (v.kind = 3 ∧ (0 < cmpD (absD v.num) ⟨1, 9⟩ ∨ v.num.exp < -6)) → 0 = valW v from fun h h5 h3 => by unfold valW; rw [if_neg (by simpa using h), if_neg h5]; exact (if_neg h3).symm)
  have HWD := Lib.hid (show wrongV v = 0 → v.kind = 3 → wrongD v.num = 0 from fun h hk => by
    obtain ⟨kd, ys, d, t, lv, l⟩ := v
    have hk : kd = 3 := hk
    subst hk
    unfold wrongV lookV at h
    exact h)
  generalize wrongV v = e0 at *
  generalize valW v = rv at *
  obtain ⟨kd, ys, ⟨cf, ex⟩, t, lv, l⟩ := v
  obtain ⟨A, len, cap, hlv, _⟩ := hv.row.1
  subst hlv
  have q0 := HAT.out w1 (Keeps.refl _ _) 0 _ rfl
  have q1 := HAT.out w1 (Keeps.refl _ _) 1 _ rfl
  have q2 := HAT.out w1 (Keeps.refl _ _) 2 _ rfl
  have q3 := HAT.out w1 (Keeps.refl _ _) 3 _ rfl
  have q4 := HAT.out w1 (Keeps.refl _ _) 4 _ rfl
  have q5 := HAT.out w1 (Keeps.refl _ _) 5 _ rfl
  simp only [Nat.add_zero, Nat.zero_add] at q0 q1 q2 q3 q4 q5
  simp only [Val.cells] at h1 HL ⊢
  simp only [Val.kind, Val.num] at HV0 HV5 HV3 HVN HWD
  clear HAT0 k1 hv ht
  by_cases he : e0 = 0
  · subst he
    rcases (show kd = 5 ∨ kd = 3 ∨ (kd ≠ 5 ∧ kd ≠ 3) by omega) with rfl | rfl | ⟨k5, k3⟩
    · have HX := Lib.hid (HV5.out rfl rfl)
      go_enter Tryz.func23, Tryz.ntmps23
      go_wp2_with (go_at_call 7; ((with_reducible refine HL.out.mono ?_); rintro e w2 ⟨rfl, hk2⟩; clear q0 q1 q2 q3 q4 q5; have q0 := HAT.out w2 hk2 0 _ rfl; simp only [Nat.add_zero] at q0; have HK2 := Lib.hid hk2; clear hk2))
      go_ret
      exact ⟨ret_int HX.out, K1.out.trans HK2.out fun _ h => .inl h⟩
    · have hwd := HWD.out rfl rfl
      have hbd := wrongD_zero hwd
      simp only at hbd
      have HRAT := Lib.hid (fun W : World => ratR_any hdiv (w := W) ⟨cf, ex⟩ hwd)
      have HABS := Lib.hid (fun (W : World) (p : Nat) (P Q : Int) (hx : BRat W p P Q) (hr : IsRat ⟨cf, ex⟩ P Q) (l1 : P.natAbs < 4294967296 ^ 7) (l2 : Q.natAbs < 4294967296 ^ 5) (hs : P.natAbs < 18446744073709551616 ∨ Q.natAbs < 18446744073709551616) => rabs_dec hdiv hx hr l1 l2 hs)
      have HR9 := Lib.hid (fun W : World => rat2_any hdiv (w := W) 9 (by omega) (by omega))
      have HCMP := Lib.hid (fun (W : World) (p1 p2 : Nat) (P Q : Int) (hx : BRat W p1 P Q) (hr : IsRat (absD ⟨cf, ex⟩) P Q) (l1 : P.natAbs < 4294967296 ^ 7) (l2 : Q.natAbs < 4294967296 ^ 5) (hy : BRat W p2 (10 ^ 9) 1) => rcmp_dec hx hy hr (b := ⟨1, 9⟩) rat_nine l1 l2 (by decide) (by decide) (show -40 ≤ (absD ⟨cf, ex⟩).exp from hbd.2.2.1) (by decide))
      generalize hcc : cmpD (absD ⟨cf, ex⟩) ⟨1, 9⟩ = c at *
      clear hcc
      have HX3 := Lib.hid (show 0 < c → (3 : Int) = rv from fun h => HV3.out rfl (by omega) ⟨rfl, .inl h⟩)
      have HX4 := Lib.hid (show ¬ 0 < c → ex < -6 → (3 : Int) = rv from fun _ h => HV3.out rfl (by omega) ⟨rfl, .inr h⟩)
      have HX0 := Lib.hid (show ¬ 0 < c → ¬ ex < -6 → (0 : Int) = rv from fun h1 h2 => HVN.out rfl (by omega) (by omega))
      clear HV0 HV5 HV3 HVN HWD hwd hbd
      go_enter Tryz.func23, Tryz.ntmps23
      go_wp2_with (first
        | (go_at_call 7; ((with_reducible refine HL.out.mono ?_); rintro e w2 ⟨rfl, hk2⟩; clear q0 q1 q2 q3 q4 q5; have q0 := HAT.out w2 hk2 0 _ rfl; have q2 := HAT.out w2 hk2 2 _ rfl; have q3 := HAT.out w2 hk2 3 _ rfl; simp only [Nat.add_zero, Nat.zero_add] at q0 q2 q3; have HK2 := Lib.hid hk2; clear hk2))
        | (go_at_call 36; ((with_reducible refine (HRAT.out w2).mono ?_); rintro e w3 ⟨pr, rfl, P, Q, hb, hr, l1, l2, hk3, hs, hf⟩; have A3 := Lib.hid (HABS.out w3 pr P Q hb hr l1 l2 hs); have HK3 := Lib.hid (HK2.out.trans hk3 fun _ h => .inl h); have HF := Lib.hid (show w1.heap.size ≤ pr by have := HK2.out.size; omega); clear hb hr l1 l2 hs hk3 hf q0 q2 q3))
        | (go_at_call 37; ((with_reducible refine A3.out.mono ?_); rintro e w4 ⟨rfl, a, b, hb, hr, l1, l2, hk4⟩; have HK4 := Lib.hid (HK3.out.trans hk4 fun k e => .inr (by have := HF.out; omega)); have q3 := HAT.out w4 HK4.out 3 _ rfl; simp only [Nat.zero_add] at q3; have HC4 := Lib.hid (fun (W : World) (p2 : Nat) (hk : Keeps (fun _ => False) w4 W) (hy : BRat W p2 (10 ^ 9) 1) => HCMP.out W pr p2 a b (hb.later hk) hr l1 l2 hy); clear hb hr l1 l2 hk4))
        | (go_at_call 39; ((with_reducible refine (HR9.out w4).mono ?_); rintro e w5 ⟨p9, rfl, hb9, hk5⟩; have HK5 := Lib.hid (HK4.out.trans hk5 fun _ h => .inl h); have HC5 := Lib.hid (HC4.out w5 p9 hk5 hb9); clear hb9 hk5))
        | (go_at_call 38; ((with_reducible refine HC5.out.mono ?_); rintro e w6 ⟨rfl, hk6⟩; have HK6 := Lib.hid (HK5.out.trans hk6 fun _ h => .inl h); clear hk6)))
      all_goals go_ret
      all_goals first
        | exact ⟨ret_int (HX3.out (by omega)), K1.out.trans HK6.out fun _ h => .inl h⟩
        | exact ⟨ret_int (HX0.out (by omega) (by omega)), K1.out.trans HK6.out fun _ h => .inl h⟩
        | exact ⟨ret_int (by rcases Int.lt_or_le 0 c with h | h; exact HX3.out h; exact HX4.out (by omega) (by omega)), K1.out.trans HK4.out fun _ h => .inl h⟩
    · have HX := Lib.hid (HVN.out rfl k5 (fun h => k3 h.1))
      have e3 : (kd == 3) = false := by simpa using k3
      have e5 : (kd == 5) = false := by simpa using k5
      go_enter Tryz.func23, Tryz.ntmps23
      go_wp2_with (go_at_call 7; ((with_reducible refine HL.out.mono ?_); rintro e w2 ⟨rfl, hk2⟩; clear q0 q1 q2 q3 q4 q5; have q0 := HAT.out w2 hk2 0 _ rfl; simp only [Nat.add_zero] at q0; have HK2 := Lib.hid hk2; clear hk2))
      go_ret
      exact ⟨ret_int HX.out, K1.out.trans HK2.out fun _ h => .inl h⟩
  · have HX := Lib.hid (HV0.out he)
    have hne : (e0 != 0) = true := by simpa using he
    go_enter Tryz.func23, Tryz.ntmps23
    go_wp2_with (go_at_call 7; ((with_reducible refine HL.out.mono ?_); rintro e w2 ⟨rfl, hk2⟩; clear q0 q1 q2 q3 q4 q5; have HK2 := Lib.hid hk2; clear hk2))
    go_ret
    exact ⟨ret_int HX.out, K1.out.trans HK2.out fun _ h => .inl h⟩

end Go.Proofs.YtnihfhfakadepaaGreatDoor
