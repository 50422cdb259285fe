/- Package verdictref8: what is wrong with a test. -/
import Derived.Test.YtnihfhfakadepaaGreatDoorXTstA
import Derived.Test.YtnihfhfakadepaaGreatDoorXValA
namespace Go.Proofs.YtnihfhfakadepaaGreatDoor
open Go.RowKit

set_option maxRecDepth 100000 in
set_option maxHeartbeats 8000000 in
theorem rTwrong_any (hdiv : DivSays) (m : Nat) : ∀ (t : Tst), SizeOf.sizeOf t < m → ∀ (w : World) (depth : Nat), TOk w t → Tabs w → depth ≤ 100 →
    Says 14 #[.agg t.cells.toArray, .int .i64 depth] w (wrongT t depth) := by
  induction m with
  | zero => intro t h; omega
  | succ m ih =>
    intro t hm w0 depth hto0 ht0 hd
    obtain ⟨w, h1⟩ : ∃ w1, w0.alloc (.cells t.cells.toArray 29) = w1 := ⟨_, rfl⟩
    obtain ⟨p, hp⟩ : ∃ p, w0.heap.size = p := ⟨_, rfl⟩
    obtain ⟨HATS, k1⟩ := tst_copy h1 hp
    have K0 := Lib.hid k1
    have hto := TOk.later k1 _ hto0
    have ht := ht0.later k1
    clear k1 hto0 ht0
    obtain ⟨kd, va, vb, oa, ob, kv, l⟩ := t
    obtain ⟨hva, hvb, hrow, hkids⟩ := hto.parts
    have HVA := Lib.hid (fun (W : World) (hk : Keeps (fun _ => False) w W) => rvalue_any hdiv (hva.later hk) (ht.later hk))
    have HVB := Lib.hid (fun (W : World) (hk : Keeps (fun _ => False) w W) => rvalue_any hdiv (hvb.later hk) (ht.later hk))
    have HX := Lib.hid (show ∀ r, wrongT (.mk kd va vb oa ob kv l) depth = r → (Ending.returned (.int .i64 r) = .returned (.int .i64 (wrongT (.mk kd va vb oa ob kv l) depth))) from fun r h => by rw [h])
    have HDEF := Lib.hid (show wrongT (.mk kd va vb oa ob kv l) depth = if 4 < depth then 4 else if kd = 1 then 0 else if kd = 2 then valW va else if 3 ≤ kd ∧ kd ≤ 6 then (if valW va ≠ 0 then valW va else if ordB va then 0 else 9)
      else if kd = 7 then (if valW va ≠ 0 then valW va else if valW vb ≠ 0 then valW vb else if ordB va = true ∧ va.kind = vb.kind then 0 else 9)
      else if kd = 8 ∨ kd = 9 then (if l.length < 1 ∨ 20 < l.length then 5 else wrongL l (depth + 1)) else 1 by unfold wrongT; rfl)
    have HSZ := Lib.hid (show ∀ (k : Nat) (x : Tst), l[k]? = some x → SizeOf.sizeOf x < m from fun k x h => by have := Tst.lt_of_get (k := kd) (a := va) (b := vb) (oa := oa) (ob := ob) (kv := kv) h; omega)
    generalize wrongT (.mk kd va vb oa ob kv l) depth = R at *
    unfold Says
    have HOO := Lib.hid (show ordB va = (decide (va.kind = 3) || decide (va.kind = 4)) from rfl)
    generalize hea : valW va = eA at *
    generalize heb : valW vb = eB at *
    generalize hoo : ordB va = oo at *
    clear hea heb hoo hto
    obtain ⟨ka, ya, da, ta, la, ea⟩ := va
    obtain ⟨kb, yb, db, tb, lb, eb⟩ := vb
    obtain ⟨Aa, na, ca, hla⟩ := hva.slice
    obtain ⟨Ab, nb, cb, hlb⟩ := hvb.slice
    obtain ⟨Ak, nk, ck, hkv⟩ := hrow.slice
    subst hla hlb hkv
    have HAT := Lib.hid HATS
    simp only [Val.cells] at HVA HVB
    simp only [Val.kind] at HDEF HOO
    simp only [Tst.cells] at h1 ⊢
    have KR := Lib.hid (Keeps.refl (fun _ => False) w)
    have t0 := (HAT.out w KR.out).kind
    clear HATS hva hvb
    by_cases g0 : 4 < depth
    · have g0z : (depth : Int) > 4 := by omega
      have HY := Lib.hid (HX.out 4 (by rw [HDEF.out, if_pos g0]))
      as_aux_lemma =>
      go_enter Tryz.func14, Tryz.ntmps14
      go_wp2_with fail
      go_ret
      exact ⟨HY.out, K0.out⟩
    have g0z : ¬ (depth : Int) > 4 := by omega
    have HD1 := Lib.hid (HDEF.out.trans (if_neg g0))
    clear HDEF
    rcases (show kd = 1 ∨ kd = 2 ∨ (3 ≤ kd ∧ kd ≤ 6) ∨ kd = 7 ∨ (kd = 8 ∨ kd = 9) ∨ kd < 1 ∨ 9 < kd by omega) with rfl | rfl | h36 | rfl | h89 | hbad | hbad
    · have HY := Lib.hid (HX.out 0 (by rw [HD1.out, if_pos rfl]))
      as_aux_lemma =>
      go_enter Tryz.func14, Tryz.ntmps14
      go_wp2_with fail
      go_ret
      exact ⟨HY.out, K0.out⟩
    · obtain ⟨a1, a2, a3, a4, a5, a6⟩ := (HAT.out w KR.out).partA
      simp only [Nat.zero_add] at t0 a1 a2 a3 a4 a5 a6
      by_cases he : eA = 0
      · subst he
        have HY := Lib.hid (HX.out 0 (by rw [HD1.out, if_neg (by omega), if_pos rfl]))
        as_aux_lemma =>
        go_enter Tryz.func14, Tryz.ntmps14
        go_wp2_with (go_at_call 23; ((with_reducible refine (HVA.out _ KR.out).mono ?_); rintro e w2 ⟨rfl, hk⟩; have K2 := Lib.hid (KR.out.trans hk fun _ h => .inl h); clear hk t0 a1 a2 a3 a4 a5 a6; have t0 := (HAT.out w2 K2.out).kind; obtain ⟨a1, a2, a3, a4, a5, a6⟩ := (HAT.out w2 K2.out).partA; simp only [Nat.zero_add] at a1 a2 a3 a4 a5 a6))
        all_goals
          go_ret
          exact ⟨HY.out, K0.out.trans K2.out fun _ h => .inl h⟩
      · have HY := Lib.hid (HX.out eA (by rw [HD1.out, if_neg (by omega), if_pos rfl]))
        have hne : (eA != 0) = true := by simpa using he
        as_aux_lemma =>
        go_enter Tryz.func14, Tryz.ntmps14
        go_wp2_with (go_at_call 23; ((with_reducible refine (HVA.out _ KR.out).mono ?_); rintro e w2 ⟨rfl, hk⟩; have K2 := Lib.hid (KR.out.trans hk fun _ h => .inl h); clear hk t0 a1 a2 a3 a4 a5 a6; have t0 := (HAT.out w2 K2.out).kind; obtain ⟨a1, a2, a3, a4, a5, a6⟩ := (HAT.out w2 K2.out).partA; simp only [Nat.zero_add] at a1 a2 a3 a4 a5 a6))
        go_ret
        exact ⟨HY.out, K0.out.trans K2.out fun _ h => .inl h⟩
    · have HD2 := Lib.hid (HD1.out.trans (by rw [if_neg (by omega), if_neg (by omega), if_pos h36]))
      clear HD1
      obtain ⟨a1, a2, a3, a4, a5, a6⟩ := (HAT.out w KR.out).partA
      simp only [Nat.zero_add] at t0 a1 a2 a3 a4 a5 a6
      have f1 : ¬ kd < 1 := by omega
      have f2 : ¬ kd > 9 := by omega
      have f3 : ¬ kd ≥ 8 := by omega
      have f4 : (kd == 1) = false := by simp; omega
      have f5 : (kd == 7) = false := by simp; omega
      have f6 : (kd != 2) = true := by simp; omega
      clear h36
      by_cases he : eA = 0
      · subst he
        have HD3 := Lib.hid (HD2.out.trans (if_neg (by simp)))
        clear HD2
        rcases (show ka = 3 ∨ ka = 4 ∨ (ka ≠ 3 ∧ ka ≠ 4) by omega) with rfl | rfl | ⟨k3, k4⟩
        · have HY := Lib.hid (HX.out 0 (by rw [HD3.out, HOO.out]; rfl))
          as_aux_lemma =>
          go_enter Tryz.func14, Tryz.ntmps14
          go_wp2_with (go_at_call 23; ((with_reducible refine (HVA.out _ KR.out).mono ?_); rintro e w2 ⟨rfl, hk⟩; have K2 := Lib.hid (KR.out.trans hk fun _ h => .inl h); clear hk t0 a1 a2 a3 a4 a5 a6; have t0 := (HAT.out w2 K2.out).kind; obtain ⟨a1, a2, a3, a4, a5, a6⟩ := (HAT.out w2 K2.out).partA; simp only [Nat.zero_add] at a1 a2 a3 a4 a5 a6))
          go_ret
          exact ⟨HY.out, K0.out.trans K2.out fun _ h => .inl h⟩
        · have HY := Lib.hid (HX.out 0 (by rw [HD3.out, HOO.out]; rfl))
          as_aux_lemma =>
          go_enter Tryz.func14, Tryz.ntmps14
          go_wp2_with (go_at_call 23; ((with_reducible refine (HVA.out _ KR.out).mono ?_); rintro e w2 ⟨rfl, hk⟩; have K2 := Lib.hid (KR.out.trans hk fun _ h => .inl h); clear hk t0 a1 a2 a3 a4 a5 a6; have t0 := (HAT.out w2 K2.out).kind; obtain ⟨a1, a2, a3, a4, a5, a6⟩ := (HAT.out w2 K2.out).partA; simp only [Nat.zero_add] at a1 a2 a3 a4 a5 a6))
          go_ret
          exact ⟨HY.out, K0.out.trans K2.out fun _ h => .inl h⟩
        · have e3 : (ka == 3) = false := by simpa using k3
          have e4 : (ka == 4) = false := by simpa using k4
          have HY := Lib.hid (HX.out 9 (by rw [HD3.out, HOO.out]; simp [k3, k4]))
          clear k3 k4
          as_aux_lemma =>
          go_enter Tryz.func14, Tryz.ntmps14
          go_wp2_with (go_at_call 23; ((with_reducible refine (HVA.out _ KR.out).mono ?_); rintro e w2 ⟨rfl, hk⟩; have K2 := Lib.hid (KR.out.trans hk fun _ h => .inl h); clear hk t0 a1 a2 a3 a4 a5 a6; have t0 := (HAT.out w2 K2.out).kind; obtain ⟨a1, a2, a3, a4, a5, a6⟩ := (HAT.out w2 K2.out).partA; simp only [Nat.zero_add] at a1 a2 a3 a4 a5 a6))
          go_ret
          exact ⟨HY.out, K0.out.trans K2.out fun _ h => .inl h⟩
      · have HY := Lib.hid (HX.out eA (by rw [HD2.out, if_pos he]))
        have hne : (eA != 0) = true := by simpa using he
        as_aux_lemma =>
        go_enter Tryz.func14, Tryz.ntmps14
        go_wp2_with (go_at_call 23; ((with_reducible refine (HVA.out _ KR.out).mono ?_); rintro e w2 ⟨rfl, hk⟩; have K2 := Lib.hid (KR.out.trans hk fun _ h => .inl h); clear hk t0 a1 a2 a3 a4 a5 a6; have t0 := (HAT.out w2 K2.out).kind; obtain ⟨a1, a2, a3, a4, a5, a6⟩ := (HAT.out w2 K2.out).partA; simp only [Nat.zero_add] at a1 a2 a3 a4 a5 a6))
        go_ret
        exact ⟨HY.out, K0.out.trans K2.out fun _ h => .inl h⟩
    · have HD2 := Lib.hid (HD1.out.trans (by rw [if_neg (by omega), if_neg (by omega), if_neg (by omega), if_pos rfl]))
      clear HD1
      obtain ⟨a1, a2, a3, a4, a5, a6⟩ := (HAT.out w KR.out).partA
      simp only [Nat.zero_add] at t0 a1 a2 a3 a4 a5 a6
      by_cases he : eA = 0
      · subst he
        have HD3 := Lib.hid (HD2.out.trans (if_neg (by simp)))
        clear HD2
        by_cases he2 : eB = 0
        · subst he2
          have HD4 := Lib.hid (HD3.out.trans (if_neg (by simp)))
          clear HD3
          rcases (show ka = 3 ∨ ka = 4 ∨ (ka ≠ 3 ∧ ka ≠ 4) by omega) with rfl | rfl | ⟨k3, k4⟩
          · rcases (show kb = 3 ∨ kb ≠ 3 by omega) with rfl | hkb
            · skip
              have HY := Lib.hid (HX.out 0 (HD4.out.trans (if_pos ⟨by rw [HOO.out]; rfl, rfl⟩)))
              as_aux_lemma =>
              go_enter Tryz.func14, Tryz.ntmps14
              go_wp2_with (first | (go_at_call 23; ((with_reducible refine (HVA.out _ KR.out).mono ?_); rintro e w2 ⟨rfl, hk⟩; have K2 := Lib.hid (KR.out.trans hk fun _ h => .inl h); clear hk t0 a1 a2 a3 a4 a5 a6; have t0 := (HAT.out w2 K2.out).kind; obtain ⟨a1, a2, a3, a4, a5, a6⟩ := (HAT.out w2 K2.out).partA; simp only [Nat.zero_add] at a1 a2 a3 a4 a5 a6; obtain ⟨b1, b2, b3, b4, b5, b6⟩ := (HAT.out w2 K2.out).partB; simp only [Nat.zero_add] at b1 b2 b3 b4 b5 b6)) | (go_at_call 23; ((with_reducible refine (HVB.out _ K2.out).mono ?_); rintro e w3 ⟨rfl, hk⟩; have K3 := Lib.hid (K2.out.trans hk fun _ h => .inl h); clear hk t0 a1 a2 a3 a4 a5 a6 b1 b2 b3 b4 b5 b6; have t0 := (HAT.out w3 K3.out).kind; obtain ⟨a1, a2, a3, a4, a5, a6⟩ := (HAT.out w3 K3.out).partA; obtain ⟨b1, b2, b3, b4, b5, b6⟩ := (HAT.out w3 K3.out).partB; simp only [Nat.zero_add] at t0 a1 b1)))
              go_ret
              exact ⟨HY.out, K0.out.trans K3.out fun _ h => .inl h⟩
            · have hne : ((3 : Int) != kb) = true := by simp; omega
              have HY0 := Lib.hid (show R = 9 from HD4.out.trans (if_neg (fun h => hkb h.2.symm)))
              clear hkb
              have HY := Lib.hid (HX.out 9 (HY0.out))
              as_aux_lemma =>
              go_enter Tryz.func14, Tryz.ntmps14
              go_wp2_with (first | (go_at_call 23; ((with_reducible refine (HVA.out _ KR.out).mono ?_); rintro e w2 ⟨rfl, hk⟩; have K2 := Lib.hid (KR.out.trans hk fun _ h => .inl h); clear hk t0 a1 a2 a3 a4 a5 a6; have t0 := (HAT.out w2 K2.out).kind; obtain ⟨a1, a2, a3, a4, a5, a6⟩ := (HAT.out w2 K2.out).partA; simp only [Nat.zero_add] at a1 a2 a3 a4 a5 a6; obtain ⟨b1, b2, b3, b4, b5, b6⟩ := (HAT.out w2 K2.out).partB; simp only [Nat.zero_add] at b1 b2 b3 b4 b5 b6)) | (go_at_call 23; ((with_reducible refine (HVB.out _ K2.out).mono ?_); rintro e w3 ⟨rfl, hk⟩; have K3 := Lib.hid (K2.out.trans hk fun _ h => .inl h); clear hk t0 a1 a2 a3 a4 a5 a6 b1 b2 b3 b4 b5 b6; have t0 := (HAT.out w3 K3.out).kind; obtain ⟨a1, a2, a3, a4, a5, a6⟩ := (HAT.out w3 K3.out).partA; obtain ⟨b1, b2, b3, b4, b5, b6⟩ := (HAT.out w3 K3.out).partB; simp only [Nat.zero_add] at t0 a1 b1)))
              go_ret
              exact ⟨HY.out, K0.out.trans K3.out fun _ h => .inl h⟩
          · rcases (show kb = 4 ∨ kb ≠ 4 by omega) with rfl | hkb
            · skip
              have HY := Lib.hid (HX.out 0 (HD4.out.trans (if_pos ⟨by rw [HOO.out]; rfl, rfl⟩)))
              as_aux_lemma =>
              go_enter Tryz.func14, Tryz.ntmps14
              go_wp2_with (first | (go_at_call 23; ((with_reducible refine (HVA.out _ KR.out).mono ?_); rintro e w2 ⟨rfl, hk⟩; have K2 := Lib.hid (KR.out.trans hk fun _ h => .inl h); clear hk t0 a1 a2 a3 a4 a5 a6; have t0 := (HAT.out w2 K2.out).kind; obtain ⟨a1, a2, a3, a4, a5, a6⟩ := (HAT.out w2 K2.out).partA; simp only [Nat.zero_add] at a1 a2 a3 a4 a5 a6; obtain ⟨b1, b2, b3, b4, b5, b6⟩ := (HAT.out w2 K2.out).partB; simp only [Nat.zero_add] at b1 b2 b3 b4 b5 b6)) | (go_at_call 23; ((with_reducible refine (HVB.out _ K2.out).mono ?_); rintro e w3 ⟨rfl, hk⟩; have K3 := Lib.hid (K2.out.trans hk fun _ h => .inl h); clear hk t0 a1 a2 a3 a4 a5 a6 b1 b2 b3 b4 b5 b6; have t0 := (HAT.out w3 K3.out).kind; obtain ⟨a1, a2, a3, a4, a5, a6⟩ := (HAT.out w3 K3.out).partA; obtain ⟨b1, b2, b3, b4, b5, b6⟩ := (HAT.out w3 K3.out).partB; simp only [Nat.zero_add] at t0 a1 b1)))
              go_ret
              exact ⟨HY.out, K0.out.trans K3.out fun _ h => .inl h⟩
            · have hne : ((4 : Int) != kb) = true := by simp; omega
              have HY0 := Lib.hid (show R = 9 from HD4.out.trans (if_neg (fun h => hkb h.2.symm)))
              clear hkb
              have HY := Lib.hid (HX.out 9 (HY0.out))
              as_aux_lemma =>
              go_enter Tryz.func14, Tryz.ntmps14
              go_wp2_with (first | (go_at_call 23; ((with_reducible refine (HVA.out _ KR.out).mono ?_); rintro e w2 ⟨rfl, hk⟩; have K2 := Lib.hid (KR.out.trans hk fun _ h => .inl h); clear hk t0 a1 a2 a3 a4 a5 a6; have t0 := (HAT.out w2 K2.out).kind; obtain ⟨a1, a2, a3, a4, a5, a6⟩ := (HAT.out w2 K2.out).partA; simp only [Nat.zero_add] at a1 a2 a3 a4 a5 a6; obtain ⟨b1, b2, b3, b4, b5, b6⟩ := (HAT.out w2 K2.out).partB; simp only [Nat.zero_add] at b1 b2 b3 b4 b5 b6)) | (go_at_call 23; ((with_reducible refine (HVB.out _ K2.out).mono ?_); rintro e w3 ⟨rfl, hk⟩; have K3 := Lib.hid (K2.out.trans hk fun _ h => .inl h); clear hk t0 a1 a2 a3 a4 a5 a6 b1 b2 b3 b4 b5 b6; have t0 := (HAT.out w3 K3.out).kind; obtain ⟨a1, a2, a3, a4, a5, a6⟩ := (HAT.out w3 K3.out).partA; obtain ⟨b1, b2, b3, b4, b5, b6⟩ := (HAT.out w3 K3.out).partB; simp only [Nat.zero_add] at t0 a1 b1)))
              go_ret
              exact ⟨HY.out, K0.out.trans K3.out fun _ h => .inl h⟩
          · have e3 : (ka == 3) = false := by simpa using k3
            have e4 : (ka == 4) = false := by simpa using k4
            have HY0 := Lib.hid (show R = 9 from HD4.out.trans (if_neg (fun h => by have h1 := h.1; rw [HOO.out] at h1; simp [k3, k4] at h1)))
            clear k3 k4
            have HY := Lib.hid (HX.out 9 (HY0.out))
            as_aux_lemma =>
            go_enter Tryz.func14, Tryz.ntmps14
            go_wp2_with (first | (go_at_call 23; ((with_reducible refine (HVA.out _ KR.out).mono ?_); rintro e w2 ⟨rfl, hk⟩; have K2 := Lib.hid (KR.out.trans hk fun _ h => .inl h); clear hk t0 a1 a2 a3 a4 a5 a6; have t0 := (HAT.out w2 K2.out).kind; obtain ⟨a1, a2, a3, a4, a5, a6⟩ := (HAT.out w2 K2.out).partA; simp only [Nat.zero_add] at a1 a2 a3 a4 a5 a6; obtain ⟨b1, b2, b3, b4, b5, b6⟩ := (HAT.out w2 K2.out).partB; simp only [Nat.zero_add] at b1 b2 b3 b4 b5 b6)) | (go_at_call 23; ((with_reducible refine (HVB.out _ K2.out).mono ?_); rintro e w3 ⟨rfl, hk⟩; have K3 := Lib.hid (K2.out.trans hk fun _ h => .inl h); clear hk t0 a1 a2 a3 a4 a5 a6 b1 b2 b3 b4 b5 b6; have t0 := (HAT.out w3 K3.out).kind; obtain ⟨a1, a2, a3, a4, a5, a6⟩ := (HAT.out w3 K3.out).partA; obtain ⟨b1, b2, b3, b4, b5, b6⟩ := (HAT.out w3 K3.out).partB; simp only [Nat.zero_add] at t0 a1 b1)))
            go_ret
            exact ⟨HY.out, K0.out.trans K3.out fun _ h => .inl h⟩
        · have hne : (eB != 0) = true := by simpa using he2
          have HY0 := Lib.hid (show R = eB by rw [HD3.out, if_pos he2])
          clear he2
          have HY := Lib.hid (HX.out eB (HY0.out))
          as_aux_lemma =>
          go_enter Tryz.func14, Tryz.ntmps14
          go_wp2_with (first | (go_at_call 23; ((with_reducible refine (HVA.out _ KR.out).mono ?_); rintro e w2 ⟨rfl, hk⟩; have K2 := Lib.hid (KR.out.trans hk fun _ h => .inl h); clear hk t0 a1 a2 a3 a4 a5 a6; have t0 := (HAT.out w2 K2.out).kind; obtain ⟨a1, a2, a3, a4, a5, a6⟩ := (HAT.out w2 K2.out).partA; simp only [Nat.zero_add] at a1 a2 a3 a4 a5 a6; obtain ⟨b1, b2, b3, b4, b5, b6⟩ := (HAT.out w2 K2.out).partB; simp only [Nat.zero_add] at b1 b2 b3 b4 b5 b6)) | (go_at_call 23; ((with_reducible refine (HVB.out _ K2.out).mono ?_); rintro e w3 ⟨rfl, hk⟩; have K3 := Lib.hid (K2.out.trans hk fun _ h => .inl h); clear hk t0 a1 a2 a3 a4 a5 a6 b1 b2 b3 b4 b5 b6; have t0 := (HAT.out w3 K3.out).kind; obtain ⟨a1, a2, a3, a4, a5, a6⟩ := (HAT.out w3 K3.out).partA; obtain ⟨b1, b2, b3, b4, b5, b6⟩ := (HAT.out w3 K3.out).partB; simp only [Nat.zero_add] at t0 a1 b1)))
          go_ret
          exact ⟨HY.out, K0.out.trans K3.out fun _ h => .inl h⟩
      · have hne : (eA != 0) = true := by simpa using he
        have HY0 := Lib.hid (show R = eA by rw [HD2.out, if_pos he])
        clear he
        have HY := Lib.hid (HX.out eA (HY0.out))
        as_aux_lemma =>
        go_enter Tryz.func14, Tryz.ntmps14
        go_wp2_with (go_at_call 23; ((with_reducible refine (HVA.out _ KR.out).mono ?_); rintro e w2 ⟨rfl, hk⟩; have K2 := Lib.hid (KR.out.trans hk fun _ h => .inl h); clear hk t0 a1 a2 a3 a4 a5 a6; have t0 := (HAT.out w2 K2.out).kind; obtain ⟨a1, a2, a3, a4, a5, a6⟩ := (HAT.out w2 K2.out).partA; simp only [Nat.zero_add] at a1 a2 a3 a4 a5 a6; obtain ⟨b1, b2, b3, b4, b5, b6⟩ := (HAT.out w2 K2.out).partB; simp only [Nat.zero_add] at b1 b2 b3 b4 b5 b6))
        go_ret
        exact ⟨HY.out, K0.out.trans K2.out fun _ h => .inl h⟩
    · rcases h89 with rfl | rfl
      · have HD2 := Lib.hid (HD1.out.trans (by rw [if_neg (by omega), if_neg (by omega), if_neg (by omega), if_neg (by omega), if_pos (by omega)]))
        clear HD1
        obtain ⟨hnk, hck, hmx, hel⟩ := hrow.elemT
        subst hnk
        have HE := Lib.hid hel
        have HKD := Lib.hid hkids
        obtain ⟨r1, r2, r3⟩ := (HAT.out w KR.out).rest
        simp only [Nat.zero_add] at t0 r3
        clear hrow hkids hel
        by_cases g1 : l.length < 1 ∨ 20 < l.length
        · have HY := Lib.hid (HX.out 5 (by rw [HD2.out, if_pos g1]))
          rcases (show l.length < 1 ∨ ¬ l.length < 1 by omega) with g2 | g2
          · have g2z : ((l.length : Int) == 0) = true := by rw [beq_iff_eq]; omega
            as_aux_lemma =>
            go_enter Tryz.func14, Tryz.ntmps14
            go_wp2_with fail
            go_ret
            exact ⟨HY.out, K0.out⟩
          · have g2z : ((l.length : Int) == 0) = false := by rw [beq_eq_false_iff_ne]; omega
            have g3z : (l.length : Int) > 20 := by omega
            as_aux_lemma =>
            go_enter Tryz.func14, Tryz.ntmps14
            go_wp2_with fail
            go_ret
            exact ⟨HY.out, K0.out⟩
        · have g2z : ((l.length : Int) == 0) = false := by rw [beq_eq_false_iff_ne]; omega
          have g3z : ¬ (l.length : Int) > 20 := by omega
          have HD3 := Lib.hid (HD2.out.trans (if_neg g1))
          obtain ⟨len, hlen⟩ : ∃ len, l.length = len := ⟨_, rfl⟩
          rw [hlen] at g1 g2z g3z r3 hck
          have HLEN := Lib.hid hlen
          have HR3 := Lib.hid (fun (W : World) (hk : Keeps (fun _ => False) w W) => hk.cell (fun h => h) r3)
          clear hlen HD2
          as_aux_lemma =>
          go_enter Tryz.func14, Tryz.ntmps14
          go_wp2_with fail
          go_loopw [37] (fun i wr => ∃ k, i = .int .i64 ((k : Nat) : Int) ∧ k ≤ len ∧ Hid (wrongL (l.drop k) (depth + 1) = wrongL l (depth + 1)) ∧ Hid (Keeps (fun _ => False) w wr)) (fun i _ => ((len : Int) - intOf i).toNat)
          case atStart => exact ⟨0, rfl, by omega, Lib.hid rfl, Lib.hid (Keeps.refl _ _)⟩
          case round =>
            obtain ⟨k, rfl, hk, he, hkk⟩ := hrel
            rcases (show k = len ∨ k < len by omega) with rfl | hlt
            · have HY := Lib.hid (HX.out 0 (by rw [HD3.out, ← he.out, List.drop_of_length_le (by have := HLEN.out; omega)]; rfl))
              go_wp2_with fail
              go_ret
              exact ⟨HY.out, K0.out.trans hkk.out fun _ h => .inl h⟩
            · have hlz : (k : Int) < (len : Int) := by omega
              have hkl : k < l.length := by have := HLEN.out; omega
              have hgx : l[k]? = some l[k] := List.getElem?_eq_getElem hkl
              have hdr := List.drop_eq_getElem_cons hkl
              generalize l[k] = x at *
              obtain ⟨bb, off, rfl, hatx⟩ := HE.out k x hgx
              have HI := Lib.hid (fun (W : World) (hw : Keeps (fun _ => False) w W) => ih x (HSZ.out k x hgx) W (depth + 1) (TOk.later hw _ (HKD.out.get hgx)) (ht.later hw) (by omega))
              unfold Says at HI
              rw [show ((depth + 1 : Nat) : Int) = (depth : Int) + 1 from rfl] at HI
              have hatw := hatx.keep hkk.out (fun h => h)
              have r3' := HR3.out _ hkk.out
              have HE2 := Lib.hid (show wrongL (l.drop k) (depth + 1) = if wrongT x (depth + 1) ≠ 0 then wrongT x (depth + 1) else wrongL (l.drop (k + 1)) (depth + 1) by rw [hdr]; rfl)
              generalize wrongT x (depth + 1) = r at *
              have htx := HKD.out.get hgx
              obtain ⟨xk, xa, xb, xoa, xob, xkv, xl⟩ := x
              obtain ⟨hxa, hxb, hxr, _⟩ := htx.parts
              obtain ⟨xka, xya, xda, xta, xla, xea⟩ := xa
              obtain ⟨xkb, xyb, xdb, xtb, xlb, xeb⟩ := xb
              obtain ⟨xAa, xna, xca, hxla⟩ := hxa.slice
              obtain ⟨xAb, xnb, xcb, hxlb⟩ := hxb.slice
              obtain ⟨xAk, xnk, xck, hxkv⟩ := hxr.slice
              subst hxla hxlb hxkv
              have u0 := hatw.kind
              obtain ⟨u1, u2, u3, u4, u5, u6⟩ := hatw.partA
              obtain ⟨u7, u8, u9, u10, u11, u12⟩ := hatw.partB
              obtain ⟨u13, u14, u15⟩ := hatw.rest
              simp only [Tst.cells] at HI
              clear hatw htx hxa hxb hxr
              clear hdr hgx hatx
              by_cases hr : r = 0
              · subst hr
                have HE3 := Lib.hid (show wrongL (l.drop (k + 1)) (depth + 1) = wrongL l (depth + 1) by rw [← he.out, HE2.out, if_neg (by simp)])
                clear HE2
                go_wp2_with (go_at_call 14; ((with_reducible refine (HI.out _ (hkk.out.alloc _)).mono ?_); rintro e w2 ⟨rfl, hk2⟩; have HK2 := Lib.hid ((hkk.out.alloc _).trans hk2 fun _ h => .inl h); clear hk2))
                go_roundw
                case measure => simp [intOf]; omega
                case rel => exact ⟨k + 1, by go_num, by omega, HE3, HK2⟩
              · have hrb : (r != 0) = true := by simpa using hr
                have HY := Lib.hid (HX.out r (by rw [HD3.out, ← he.out, HE2.out, if_pos hr]))
                clear HE2
                go_wp2_with (go_at_call 14; ((with_reducible refine (HI.out _ (hkk.out.alloc _)).mono ?_); rintro e w2 ⟨rfl, hk2⟩; have HK2 := Lib.hid ((hkk.out.alloc _).trans hk2 fun _ h => .inl h); clear hk2))
                go_ret
                exact ⟨HY.out, K0.out.trans HK2.out fun _ h => .inl h⟩
      · have HD2 := Lib.hid (HD1.out.trans (by rw [if_neg (by omega), if_neg (by omega), if_neg (by omega), if_neg (by omega), if_pos (by omega)]))
        clear HD1
        obtain ⟨hnk, hck, hmx, hel⟩ := hrow.elemT
        subst hnk
        have HE := Lib.hid hel
        have HKD := Lib.hid hkids
        obtain ⟨r1, r2, r3⟩ := (HAT.out w KR.out).rest
        simp only [Nat.zero_add] at t0 r3
        clear hrow hkids hel
        by_cases g1 : l.length < 1 ∨ 20 < l.length
        · have HY := Lib.hid (HX.out 5 (by rw [HD2.out, if_pos g1]))
          rcases (show l.length < 1 ∨ ¬ l.length < 1 by omega) with g2 | g2
          · have g2z : ((l.length : Int) == 0) = true := by rw [beq_iff_eq]; omega
            as_aux_lemma =>
            go_enter Tryz.func14, Tryz.ntmps14
            go_wp2_with fail
            go_ret
            exact ⟨HY.out, K0.out⟩
          · have g2z : ((l.length : Int) == 0) = false := by rw [beq_eq_false_iff_ne]; omega
            have g3z : (l.length : Int) > 20 := by omega
            as_aux_lemma =>
            go_enter Tryz.func14, Tryz.ntmps14
            go_wp2_with fail
            go_ret
            exact ⟨HY.out, K0.out⟩
        · have g2z : ((l.length : Int) == 0) = false := by rw [beq_eq_false_iff_ne]; omega
          have g3z : ¬ (l.length : Int) > 20 := by omega
          have HD3 := Lib.hid (HD2.out.trans (if_neg g1))
          obtain ⟨len, hlen⟩ : ∃ len, l.length = len := ⟨_, rfl⟩
          rw [hlen] at g1 g2z g3z r3 hck
          have HLEN := Lib.hid hlen
          have HR3 := Lib.hid (fun (W : World) (hk : Keeps (fun _ => False) w W) => hk.cell (fun h => h) r3)
          clear hlen HD2
          as_aux_lemma =>
          go_enter Tryz.func14, Tryz.ntmps14
          go_wp2_with fail
          go_loopw [37] (fun i wr => ∃ k, i = .int .i64 ((k : Nat) : Int) ∧ k ≤ len ∧ Hid (wrongL (l.drop k) (depth + 1) = wrongL l (depth + 1)) ∧ Hid (Keeps (fun _ => False) w wr)) (fun i _ => ((len : Int) - intOf i).toNat)
          case atStart => exact ⟨0, rfl, by omega, Lib.hid rfl, Lib.hid (Keeps.refl _ _)⟩
          case round =>
            obtain ⟨k, rfl, hk, he, hkk⟩ := hrel
            rcases (show k = len ∨ k < len by omega) with rfl | hlt
            · have HY := Lib.hid (HX.out 0 (by rw [HD3.out, ← he.out, List.drop_of_length_le (by have := HLEN.out; omega)]; rfl))
              go_wp2_with fail
              go_ret
              exact ⟨HY.out, K0.out.trans hkk.out fun _ h => .inl h⟩
            · have hlz : (k : Int) < (len : Int) := by omega
              have hkl : k < l.length := by have := HLEN.out; omega
              have hgx : l[k]? = some l[k] := List.getElem?_eq_getElem hkl
              have hdr := List.drop_eq_getElem_cons hkl
              generalize l[k] = x at *
              obtain ⟨bb, off, rfl, hatx⟩ := HE.out k x hgx
              have HI := Lib.hid (fun (W : World) (hw : Keeps (fun _ => False) w W) => ih x (HSZ.out k x hgx) W (depth + 1) (TOk.later hw _ (HKD.out.get hgx)) (ht.later hw) (by omega))
              unfold Says at HI
              rw [show ((depth + 1 : Nat) : Int) = (depth : Int) + 1 from rfl] at HI
              have hatw := hatx.keep hkk.out (fun h => h)
              have r3' := HR3.out _ hkk.out
              have HE2 := Lib.hid (show wrongL (l.drop k) (depth + 1) = if wrongT x (depth + 1) ≠ 0 then wrongT x (depth + 1) else wrongL (l.drop (k + 1)) (depth + 1) by rw [hdr]; rfl)
              generalize wrongT x (depth + 1) = r at *
              have htx := HKD.out.get hgx
              obtain ⟨xk, xa, xb, xoa, xob, xkv, xl⟩ := x
              obtain ⟨hxa, hxb, hxr, _⟩ := htx.parts
              obtain ⟨xka, xya, xda, xta, xla, xea⟩ := xa
              obtain ⟨xkb, xyb, xdb, xtb, xlb, xeb⟩ := xb
              obtain ⟨xAa, xna, xca, hxla⟩ := hxa.slice
              obtain ⟨xAb, xnb, xcb, hxlb⟩ := hxb.slice
              obtain ⟨xAk, xnk, xck, hxkv⟩ := hxr.slice
              subst hxla hxlb hxkv
              have u0 := hatw.kind
              obtain ⟨u1, u2, u3, u4, u5, u6⟩ := hatw.partA
              obtain ⟨u7, u8, u9, u10, u11, u12⟩ := hatw.partB
              obtain ⟨u13, u14, u15⟩ := hatw.rest
              simp only [Tst.cells] at HI
              clear hatw htx hxa hxb hxr
              clear hdr hgx hatx
              by_cases hr : r = 0
              · subst hr
                have HE3 := Lib.hid (show wrongL (l.drop (k + 1)) (depth + 1) = wrongL l (depth + 1) by rw [← he.out, HE2.out, if_neg (by simp)])
                clear HE2
                go_wp2_with (go_at_call 14; ((with_reducible refine (HI.out _ (hkk.out.alloc _)).mono ?_); rintro e w2 ⟨rfl, hk2⟩; have HK2 := Lib.hid ((hkk.out.alloc _).trans hk2 fun _ h => .inl h); clear hk2))
                go_roundw
                case measure => simp [intOf]; omega
                case rel => exact ⟨k + 1, by go_num, by omega, HE3, HK2⟩
              · have hrb : (r != 0) = true := by simpa using hr
                have HY := Lib.hid (HX.out r (by rw [HD3.out, ← he.out, HE2.out, if_pos hr]))
                clear HE2
                go_wp2_with (go_at_call 14; ((with_reducible refine (HI.out _ (hkk.out.alloc _)).mono ?_); rintro e w2 ⟨rfl, hk2⟩; have HK2 := Lib.hid ((hkk.out.alloc _).trans hk2 fun _ h => .inl h); clear hk2))
                go_ret
                exact ⟨HY.out, K0.out.trans HK2.out fun _ h => .inl h⟩
    · have HY := Lib.hid (HX.out 1 (by rw [HD1.out, if_neg (by omega), if_neg (by omega), if_neg (by omega), if_neg (by omega), if_neg (by omega)]))
      as_aux_lemma =>
      go_enter Tryz.func14, Tryz.ntmps14
      go_wp2_with fail
      go_ret
      exact ⟨HY.out, K0.out⟩
    · have HY := Lib.hid (HX.out 1 (by rw [HD1.out, if_neg (by omega), if_neg (by omega), if_neg (by omega), if_neg (by omega), if_neg (by omega)]))
      have h0 : ¬ kd < 1 := by omega
      have h9 : kd > 9 := by omega
      as_aux_lemma =>
      go_enter Tryz.func14, Tryz.ntmps14
      go_wp2_with fail
      go_ret
      exact ⟨HY.out, K0.out⟩

set_option maxRecDepth 100000 in
set_option maxHeartbeats 4000000 in
theorem rTWrong_any (hdiv : DivSays) {w : World} {t : Tst} (hto : TOk w t) (ht : Tabs w) : Says 5 #[.agg t.cells.toArray] w (wrongT t 1) := by
  obtain ⟨w1, h1⟩ : ∃ w1, w.alloc (.cells t.cells.toArray 29) = w1 := ⟨_, rfl⟩
  obtain ⟨p, hp⟩ : ∃ p, w.heap.size = p := ⟨_, rfl⟩
  obtain ⟨hat, k1⟩ := tst_copy h1 hp
  have K1 := Lib.hid k1
  have H := Lib.hid (show Says 14 #[.agg t.cells.toArray, .int .i64 1] w1 (wrongT t 1) from rTwrong_any hdiv (SizeOf.sizeOf t + 1) t (by omega) w1 1 (TOk.later k1 _ hto) (ht.later k1) (by omega))
  unfold Says at H ⊢
  generalize wrongT t 1 = R at *
  have hat1 := hat w1 (Keeps.refl _ _)
  clear hat k1 ht
  obtain ⟨kd, va, vb, oa, ob, kv, l⟩ := t
  obtain ⟨hva, hvb, hrow, _⟩ := hto.parts
  obtain ⟨ka, ya, da, ta, la, ea⟩ := va
  obtain ⟨kb, yb, db, tb, lb, eb⟩ := vb
  obtain ⟨Aa, na, ca, hla⟩ := hva.slice
  obtain ⟨Ab, nb, cb, hlb⟩ := hvb.slice
  obtain ⟨Ak, nk, ck, hkv⟩ := hrow.slice
  subst hla hlb hkv
  have u0 := hat1.kind
  obtain ⟨u1, u2, u3, u4, u5, u6⟩ := hat1.partA
  obtain ⟨u7, u8, u9, u10, u11, u12⟩ := hat1.partB
  obtain ⟨u13, u14, u15⟩ := hat1.rest
  simp only [Nat.zero_add] at u0 u1 u2 u3 u4 u5 u6 u7 u8 u9 u10 u11 u12 u13 u14 u15
  simp only [Tst.cells] at h1 H ⊢
  clear hat1
  clear hva hvb hrow hto
  go_enter Tryz.func5, Tryz.ntmps5
  go_wp2_with (go_at_call 14; ((with_reducible refine H.out.mono ?_); rintro e w2 ⟨rfl, hk⟩; have K2 := Lib.hid (K1.out.trans hk fun _ h => .inl h); clear hk))
  go_ret
  exact ⟨rfl, K2.out⟩

end Go.Proofs.YtnihfhfakadepaaGreatDoor
