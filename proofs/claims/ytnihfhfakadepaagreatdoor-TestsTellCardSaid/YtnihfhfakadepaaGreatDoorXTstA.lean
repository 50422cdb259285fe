/- Package trials: what is wrong with a test. -/
import Derived.Test.YtnihfhfakadepaaGreatDoorXTreeA
import Derived.Test.YtnihfhfakadepaaGreatDoorXValA
namespace Go.Proofs.YtnihfhfakadepaaGreatDoor
open Go.RowKit

/-- What is said, and new memory alone is written. -/
def Says (f : Nat) (args : Array Value) (w : World) (r : Int) : Prop :=
  Calls Tryz.prog f args w fun e w' => e = .returned (.int .i64 r) ∧ Keeps (fun _ => False) w w'

set_option maxRecDepth 100000 in
set_option maxHeartbeats 8000000 in
theorem wrong_any (m : Nat) : ∀ (t : Tst), SizeOf.sizeOf t < m → ∀ (w : World) (b o depth : Nat), TOk w t → Tabs w → At w b o t.cells → depth ≤ 100 →
    Says 13 #[.pointer (some ⟨b, o, none⟩), .int .i64 depth] w (wrongT t depth) := by
  induction m with
  | zero => intro t h; omega
  | succ m ih =>
    intro t hm w b o depth hto ht hat hd
    obtain ⟨kd, va, vb, oa, ob, kv, l⟩ := t
    obtain ⟨hva, hvb, hrow, hkids⟩ := hto.parts
    have HVA := Lib.hid (fun (W : World) (hk : Keeps (fun _ => False) w W) => value_any (hva.later hk) (ht.later hk))
    have HVB := Lib.hid (fun (W : World) (hk : Keeps (fun _ => False) w W) => value_any (hvb.later hk) (ht.later hk))
    have HOA := Lib.hid (fun (W : World) => ordered_any (w := W) va)
    have HX := Lib.hid (show ∀ r, wrongT (.mk kd va vb oa ob kv l) depth = r → (Ending.returned (.int .i64 r) = .returned (.int .i64 (wrongT (.mk kd va vb oa ob kv l) depth))) from fun r h => by rw [h])
    have hdef : wrongT (.mk kd va vb oa ob kv l) depth = if 4 < depth then 4 else if kd = 1 then 0 else if kd = 2 then valW va else if 3 ≤ kd ∧ kd ≤ 6 then (if valW va ≠ 0 then valW va else if ordB va then 0 else 9)
      else if kd = 7 then (if valW va ≠ 0 then valW va else if valW vb ≠ 0 then valW vb else if ordB va = true ∧ va.kind = vb.kind then 0 else 9)
      else if kd = 8 ∨ kd = 9 then (if l.length < 1 ∨ 20 < l.length then 5 else wrongL l (depth + 1)) else 1 := by unfold wrongT; rfl
    have HDEF := Lib.hid hdef
    have HSZ := Lib.hid (show ∀ (k : Nat) (x : Tst), l[k]? = some x → SizeOf.sizeOf x < m from fun k x h => by have := Tst.lt_of_get (k := kd) (a := va) (b := vb) (oa := oa) (ob := ob) (kv := kv) h; omega)
    generalize wrongT (.mk kd va vb oa ob kv l) depth = R at *
    unfold Says
    have HKA := Lib.hid (show va.kind = va.kind from rfl)
    generalize hea : valW va = eA at *
    generalize heb : valW vb = eB at *
    generalize hoo : ordB va = oo at *
    clear hea heb hoo hto
    obtain ⟨ka, ya, da, ta, la, ea⟩ := va
    obtain ⟨kb, yb, db, tb, lb, eb⟩ := vb
    obtain ⟨Aa, na, ca, hla⟩ := hva.slice
    obtain ⟨Ab, nb, cb, hlb⟩ := hvb.slice
    obtain ⟨Ak, nk, ck, hkv⟩ := hrow.slice
    subst hla hlb hkv
    have HAT := Lib.hid (fun (W : World) (hk : Keeps (fun _ => False) w W) => hat.keep hk (fun h => h))
    simp only [Val.cells] at HVA HVB HOA
    simp only [Val.kind] at HDEF
    have KR := Lib.hid (Keeps.refl (fun _ => False) w)
    have t0 := hat.kind
    have HHAT := Lib.hid hat
    clear hat hdef hva hvb HKA
    by_cases g0 : 4 < depth
    · have g0z : (depth : Int) > 4 := by omega
      have HY := Lib.hid (HX.out 4 (by rw [HDEF.out, if_pos g0]))
      go_enter Tryz.func13, Tryz.ntmps13
      go_wp2_with fail
      go_ret
      exact ⟨HY.out, KR.out⟩
    have g0z : ¬ (depth : Int) > 4 := by omega
    have HD1 := Lib.hid (HDEF.out.trans (if_neg g0))
    clear HDEF
    rcases (show kd = 1 ∨ kd = 2 ∨ (3 ≤ kd ∧ kd ≤ 6) ∨ kd = 7 ∨ (kd = 8 ∨ kd = 9) ∨ (kd < 1 ∨ 9 < kd) by omega) with rfl | rfl | h36 | rfl | h89 | hbad
    · have HY := Lib.hid (HX.out 0 (by rw [HD1.out, if_pos rfl]))
      go_enter Tryz.func13, Tryz.ntmps13
      go_wp2_with fail
      go_ret
      exact ⟨HY.out, KR.out⟩
    · have HY := Lib.hid (HX.out eA (by rw [HD1.out, if_neg (by omega), if_pos rfl]))
      obtain ⟨a1, a2, a3, a4, a5, a6⟩ := (HAT.out w KR.out).partA
      go_enter Tryz.func13, Tryz.ntmps13
      go_wp2_with (go_at_call 21; ((with_reducible refine (HVA.out _ KR.out).mono ?_); rintro e w2 ⟨rfl, hk⟩; have K2 := Lib.hid (KR.out.trans hk fun _ h => .inl h); clear hk))
      go_ret
      exact ⟨HY.out, K2.out⟩
    · have HD2 := Lib.hid (HD1.out.trans (by rw [if_neg (by omega), if_neg (by omega), if_pos h36]))
      clear HD1
      obtain ⟨a1, a2, a3, a4, a5, a6⟩ := (HAT.out w KR.out).partA
      rcases (show kd = 3 ∨ kd ≠ 3 by omega) with rfl | h3
      · clear h36
        by_cases he : eA = 0
        · subst he
          have HD3 := Lib.hid (HD2.out.trans (if_neg (by simp)))
          cases oo
          · have HY := Lib.hid (HX.out 9 (by rw [HD3.out]; rfl))
            go_enter Tryz.func13, Tryz.ntmps13
            go_wp2_with (first
              | (go_at_call 21; ((with_reducible refine (HVA.out _ KR.out).mono ?_); rintro e w2 ⟨rfl, hk⟩; have K2 := Lib.hid (KR.out.trans hk fun _ h => .inl h); clear a1 a2 a3 a4 a5 a6; obtain ⟨a1, a2, a3, a4, a5, a6⟩ := (HAT.out w2 K2.out).partA; clear hk))
              | (go_at_call 22; ((with_reducible refine (HOA.out _).mono ?_); rintro e w3 ⟨rfl, hk⟩; have K3 := Lib.hid (K2.out.trans hk fun _ h => .inl h); clear hk)))
            go_ret
            exact ⟨HY.out, K3.out⟩
          · have HY := Lib.hid (HX.out 0 (by rw [HD3.out]; rfl))
            go_enter Tryz.func13, Tryz.ntmps13
            go_wp2_with (first
              | (go_at_call 21; ((with_reducible refine (HVA.out _ KR.out).mono ?_); rintro e w2 ⟨rfl, hk⟩; have K2 := Lib.hid (KR.out.trans hk fun _ h => .inl h); clear a1 a2 a3 a4 a5 a6; obtain ⟨a1, a2, a3, a4, a5, a6⟩ := (HAT.out w2 K2.out).partA; clear hk))
              | (go_at_call 22; ((with_reducible refine (HOA.out _).mono ?_); rintro e w3 ⟨rfl, hk⟩; have K3 := Lib.hid (K2.out.trans hk fun _ h => .inl h); clear hk)))
            go_ret
            exact ⟨HY.out, K3.out⟩
        · have HY := Lib.hid (HX.out eA (by rw [HD2.out, if_pos he]))
          have hne : (eA != 0) = true := by simpa using he
          go_enter Tryz.func13, Tryz.ntmps13
          go_wp2_with (go_at_call 21; ((with_reducible refine (HVA.out _ KR.out).mono ?_); rintro e w2 ⟨rfl, hk⟩; have K2 := Lib.hid (KR.out.trans hk fun _ h => .inl h); clear hk))
          go_ret
          exact ⟨HY.out, K2.out⟩
      rcases (show kd = 4 ∨ kd ≠ 4 by omega) with rfl | h4
      · clear h36
        by_cases he : eA = 0
        · subst he
          have HD3 := Lib.hid (HD2.out.trans (if_neg (by simp)))
          cases oo
          · have HY := Lib.hid (HX.out 9 (by rw [HD3.out]; rfl))
            go_enter Tryz.func13, Tryz.ntmps13
            go_wp2_with (first
              | (go_at_call 21; ((with_reducible refine (HVA.out _ KR.out).mono ?_); rintro e w2 ⟨rfl, hk⟩; have K2 := Lib.hid (KR.out.trans hk fun _ h => .inl h); clear a1 a2 a3 a4 a5 a6; obtain ⟨a1, a2, a3, a4, a5, a6⟩ := (HAT.out w2 K2.out).partA; clear hk))
              | (go_at_call 22; ((with_reducible refine (HOA.out _).mono ?_); rintro e w3 ⟨rfl, hk⟩; have K3 := Lib.hid (K2.out.trans hk fun _ h => .inl h); clear hk)))
            go_ret
            exact ⟨HY.out, K3.out⟩
          · have HY := Lib.hid (HX.out 0 (by rw [HD3.out]; rfl))
            go_enter Tryz.func13, Tryz.ntmps13
            go_wp2_with (first
              | (go_at_call 21; ((with_reducible refine (HVA.out _ KR.out).mono ?_); rintro e w2 ⟨rfl, hk⟩; have K2 := Lib.hid (KR.out.trans hk fun _ h => .inl h); clear a1 a2 a3 a4 a5 a6; obtain ⟨a1, a2, a3, a4, a5, a6⟩ := (HAT.out w2 K2.out).partA; clear hk))
              | (go_at_call 22; ((with_reducible refine (HOA.out _).mono ?_); rintro e w3 ⟨rfl, hk⟩; have K3 := Lib.hid (K2.out.trans hk fun _ h => .inl h); clear hk)))
            go_ret
            exact ⟨HY.out, K3.out⟩
        · have HY := Lib.hid (HX.out eA (by rw [HD2.out, if_pos he]))
          have hne : (eA != 0) = true := by simpa using he
          go_enter Tryz.func13, Tryz.ntmps13
          go_wp2_with (go_at_call 21; ((with_reducible refine (HVA.out _ KR.out).mono ?_); rintro e w2 ⟨rfl, hk⟩; have K2 := Lib.hid (KR.out.trans hk fun _ h => .inl h); clear hk))
          go_ret
          exact ⟨HY.out, K2.out⟩
      rcases (show kd = 5 ∨ kd ≠ 5 by omega) with rfl | h5
      · clear h36
        by_cases he : eA = 0
        · subst he
          have HD3 := Lib.hid (HD2.out.trans (if_neg (by simp)))
          cases oo
          · have HY := Lib.hid (HX.out 9 (by rw [HD3.out]; rfl))
            go_enter Tryz.func13, Tryz.ntmps13
            go_wp2_with (first
              | (go_at_call 21; ((with_reducible refine (HVA.out _ KR.out).mono ?_); rintro e w2 ⟨rfl, hk⟩; have K2 := Lib.hid (KR.out.trans hk fun _ h => .inl h); clear a1 a2 a3 a4 a5 a6; obtain ⟨a1, a2, a3, a4, a5, a6⟩ := (HAT.out w2 K2.out).partA; clear hk))
              | (go_at_call 22; ((with_reducible refine (HOA.out _).mono ?_); rintro e w3 ⟨rfl, hk⟩; have K3 := Lib.hid (K2.out.trans hk fun _ h => .inl h); clear hk)))
            go_ret
            exact ⟨HY.out, K3.out⟩
          · have HY := Lib.hid (HX.out 0 (by rw [HD3.out]; rfl))
            go_enter Tryz.func13, Tryz.ntmps13
            go_wp2_with (first
              | (go_at_call 21; ((with_reducible refine (HVA.out _ KR.out).mono ?_); rintro e w2 ⟨rfl, hk⟩; have K2 := Lib.hid (KR.out.trans hk fun _ h => .inl h); clear a1 a2 a3 a4 a5 a6; obtain ⟨a1, a2, a3, a4, a5, a6⟩ := (HAT.out w2 K2.out).partA; clear hk))
              | (go_at_call 22; ((with_reducible refine (HOA.out _).mono ?_); rintro e w3 ⟨rfl, hk⟩; have K3 := Lib.hid (K2.out.trans hk fun _ h => .inl h); clear hk)))
            go_ret
            exact ⟨HY.out, K3.out⟩
        · have HY := Lib.hid (HX.out eA (by rw [HD2.out, if_pos he]))
          have hne : (eA != 0) = true := by simpa using he
          go_enter Tryz.func13, Tryz.ntmps13
          go_wp2_with (go_at_call 21; ((with_reducible refine (HVA.out _ KR.out).mono ?_); rintro e w2 ⟨rfl, hk⟩; have K2 := Lib.hid (KR.out.trans hk fun _ h => .inl h); clear hk))
          go_ret
          exact ⟨HY.out, K2.out⟩
      rcases (show kd = 6 ∨ kd ≠ 6 by omega) with rfl | h6
      · clear h36
        by_cases he : eA = 0
        · subst he
          have HD3 := Lib.hid (HD2.out.trans (if_neg (by simp)))
          cases oo
          · have HY := Lib.hid (HX.out 9 (by rw [HD3.out]; rfl))
            go_enter Tryz.func13, Tryz.ntmps13
            go_wp2_with (first
              | (go_at_call 21; ((with_reducible refine (HVA.out _ KR.out).mono ?_); rintro e w2 ⟨rfl, hk⟩; have K2 := Lib.hid (KR.out.trans hk fun _ h => .inl h); clear a1 a2 a3 a4 a5 a6; obtain ⟨a1, a2, a3, a4, a5, a6⟩ := (HAT.out w2 K2.out).partA; clear hk))
              | (go_at_call 22; ((with_reducible refine (HOA.out _).mono ?_); rintro e w3 ⟨rfl, hk⟩; have K3 := Lib.hid (K2.out.trans hk fun _ h => .inl h); clear hk)))
            go_ret
            exact ⟨HY.out, K3.out⟩
          · have HY := Lib.hid (HX.out 0 (by rw [HD3.out]; rfl))
            go_enter Tryz.func13, Tryz.ntmps13
            go_wp2_with (first
              | (go_at_call 21; ((with_reducible refine (HVA.out _ KR.out).mono ?_); rintro e w2 ⟨rfl, hk⟩; have K2 := Lib.hid (KR.out.trans hk fun _ h => .inl h); clear a1 a2 a3 a4 a5 a6; obtain ⟨a1, a2, a3, a4, a5, a6⟩ := (HAT.out w2 K2.out).partA; clear hk))
              | (go_at_call 22; ((with_reducible refine (HOA.out _).mono ?_); rintro e w3 ⟨rfl, hk⟩; have K3 := Lib.hid (K2.out.trans hk fun _ h => .inl h); clear hk)))
            go_ret
            exact ⟨HY.out, K3.out⟩
        · have HY := Lib.hid (HX.out eA (by rw [HD2.out, if_pos he]))
          have hne : (eA != 0) = true := by simpa using he
          go_enter Tryz.func13, Tryz.ntmps13
          go_wp2_with (go_at_call 21; ((with_reducible refine (HVA.out _ KR.out).mono ?_); rintro e w2 ⟨rfl, hk⟩; have K2 := Lib.hid (KR.out.trans hk fun _ h => .inl h); clear hk))
          go_ret
          exact ⟨HY.out, K2.out⟩
      omega
    · have HD2 := Lib.hid (HD1.out.trans (by rw [if_neg (by omega), if_neg (by omega), if_neg (by omega), if_pos rfl]))
      clear HD1 hrow hkids
      obtain ⟨a1, a2, a3, a4, a5, a6⟩ := (HAT.out w KR.out).partA
      obtain ⟨b1, b2, b3, b4, b5, b6⟩ := (HAT.out w KR.out).partB
      go_enter Tryz.func13, Tryz.ntmps13
      go_upto_region 19 with fail
      have KW := Lib.hid (show Keeps (fun _ => False) w { w with drawn := w.drawn + 1 } from (Keeps.refl _ w).drew)
      clear a1 a2 a3 a4 a5 a6 b1 b2 b3 b4 b5 b6
      refine Wg.wp_region_first (C := fun w' => Keeps (fun _ => False) w w') (by kernel_rfl) 11 ?_
      generalize { w with drawn := w.drawn + 1 } = W at *
      apply Wg.wpAnyP_stays (by kernel_rfl) [0, 1, 2, 3, 4, 5, 6, 7, 10] _ _ _ 2 _ KW.out (by kernel_rfl) ?hs ?hr
      case hs =>
        repeat (apply Wg.wpStays_step rfl rfl; (intro w' hw'; obtain ⟨a1, a2, a3, a4, a5, a6⟩ := (HAT.out w' hw').partA; obtain ⟨b1, b2, b3, b4, b5, b6⟩ := (HAT.out w' hw').partB; clear hw'; go_simp; exact ⟨rfl, rfl⟩); go_simp)
        exact rfl
      case hr =>
        apply Wg.wpAnyP_one (i := 8) (fuel := 1) (by kernel_rfl) rfl rfl
        go_simp
        refine ⟨KW.out.alloc _, ?_⟩
        have hc0 := heap_alloc_new W (.cells #[.int .i64 ka, .bool ya, .int .i64 da.coef, .int .i64 da.exp, .string ta, .slice Aa na ca, .int .i64 kb, .bool yb, .int .i64 db.coef, .int .i64 db.exp, .string tb, .slice Ab nb cb] 26)
        have HK1 := Lib.hid (KW.out.alloc (.cells #[.int .i64 ka, .bool ya, .int .i64 da.coef, .int .i64 da.exp, .string ta, .slice Aa na ca, .int .i64 kb, .bool yb, .int .i64 db.coef, .int .i64 db.exp, .string tb, .slice Ab nb cb] 26))
        obtain ⟨pc, hpc⟩ : ∃ q, W.heap.size = q := ⟨_, rfl⟩
        rw [hpc] at hc0 ⊢
        generalize W.alloc (.cells #[.int .i64 ka, .bool ya, .int .i64 da.coef, .int .i64 da.exp, .string ta, .slice Aa na ca, .int .i64 kb, .bool yb, .int .i64 db.coef, .int .i64 db.exp, .string tb, .slice Ab nb cb] 26) = w1 at *
        have HP := Lib.hid (fun (V : World) (hk : Keeps (fun _ => False) w1 V) (j : Nat) => cell_of_row V pc j _ _ _ (hk.blk hc0))
        clear hc0 hpc
        apply Wg.wpAnyP_one (i := 9) (fuel := 0) (by kernel_rfl) rfl rfl
        go_simp
        refine ⟨HK1.out, by kernel_rfl, ?_⟩
        go_simp
        go_wp2_with fail
        have HPA := Lib.hid (fun (V : World) (hk : Keeps (fun _ => False) w1 V) => (⟨HP.out V hk 0, HP.out V hk 1, HP.out V hk 2, HP.out V hk 3, HP.out V hk 4, HP.out V hk 5⟩ : V.cell? ⟨pc, 0, none⟩ = some (.int .i64 ka) ∧ V.cell? ⟨pc, 1, none⟩ = some (.bool ya) ∧ V.cell? ⟨pc, 2, none⟩ = some (.int .i64 da.coef) ∧ V.cell? ⟨pc, 3, none⟩ = some (.int .i64 da.exp) ∧ V.cell? ⟨pc, 4, none⟩ = some (.string ta) ∧ V.cell? ⟨pc, 5, none⟩ = some (.slice Aa na ca)))
        have HPB := Lib.hid (fun (V : World) (hk : Keeps (fun _ => False) w1 V) => (⟨HP.out V hk 6, HP.out V hk 7, HP.out V hk 8, HP.out V hk 9, HP.out V hk 10, HP.out V hk 11⟩ : V.cell? ⟨pc, 6, none⟩ = some (.int .i64 kb) ∧ V.cell? ⟨pc, 7, none⟩ = some (.bool yb) ∧ V.cell? ⟨pc, 8, none⟩ = some (.int .i64 db.coef) ∧ V.cell? ⟨pc, 9, none⟩ = some (.int .i64 db.exp) ∧ V.cell? ⟨pc, 10, none⟩ = some (.string tb) ∧ V.cell? ⟨pc, 11, none⟩ = some (.slice Ab nb cb)))
        clear HP
        obtain ⟨q0, q1, q2, q3, q4, q5⟩ := HPA.out w1 (Keeps.refl _ _)
        refine wp_loop_rounds 3 ?_
        rw [rounds_succ]
        by_cases he : eA = 0
        · subst he
          have HD3 := Lib.hid (HD2.out.trans (if_neg (by simp)))
          clear HD2
          go_wp2_with (go_at_call 21; ((with_reducible refine (HVA.out _ (HK1.out.alloc _)).mono ?_); rintro e w2 ⟨rfl, hk⟩; have K2 := Lib.hid (((Keeps.refl (fun _ => False) w1).alloc _).trans hk fun _ h => .inl h); clear hk q0 q1 q2 q3 q4 q5; obtain ⟨q6, q7, q8, q9, q10, q11⟩ := HPB.out w2 K2.out; have K3 := Lib.hid (HK1.out.trans K2.out fun _ h => .inl h)))
          rw [rounds_succ]
          by_cases he2 : eB = 0
          · subst he2
            have HD4 := Lib.hid (HD3.out.trans (if_neg (by simp)))
            clear HD3
            go_wp2_with (go_at_call 21; ((with_reducible refine (HVB.out _ (K3.out.alloc _)).mono ?_); rintro e w3 ⟨rfl, hk⟩; have K4 := Lib.hid ((K3.out.alloc _).trans hk fun _ h => .inl h); clear hk q6 q7 q8 q9 q10 q11))
            rw [rounds_succ]
            go_wp2_with fail
            clear HPA HPB HVA HVB
            cases oo
            · have HY := Lib.hid (HX.out 9 (HD4.out.trans (if_neg (by simp))))
              refine Wg.wp_region_first (C := fun w' => Keeps (fun _ => False) w w') (by kernel_rfl) 19 ?_
              have KV := Lib.hid (show Keeps (fun _ => False) w { w3 with drawn := w3.drawn + 1 } from K4.out.drew)
              generalize { w3 with drawn := w3.drawn + 1 } = V at *
              apply Wg.wpAnyP_stays (by kernel_rfl) [0, 1, 2, 3] _ _ _ 15 _ KV.out (by kernel_rfl) ?hs ?hr
              case hs =>
                repeat (apply Wg.wpStays_step rfl rfl; (intro w' hw'; obtain ⟨a1, a2, a3, a4, a5, a6⟩ := (HAT.out w' hw').partA; clear hw'; go_simp; exact ⟨rfl, rfl⟩); go_simp)
                exact rfl
              case hr =>
                apply Wg.wpAnyP_one (i := 4) (fuel := 14) (by kernel_rfl) rfl rfl
                go_simp
                refine Wg.plain_call (HOA.out V) ?_
                rintro e V1 ⟨rfl, hk⟩
                have KV1 := Lib.hid (KV.out.trans hk fun _ h => .inl h)
                refine ⟨_, rfl, KV1.out, ?_⟩
                clear hk
                apply Wg.wpAnyP_stays (by kernel_rfl) [5, 6, 7, 8, 9, 10, 11, 12, 13, 14, 15, 16, 17] _ _ _ 1 _ KV1.out (by kernel_rfl) ?hs2 ?hr2
                case hs2 =>
                  (iterate 2 (apply Wg.wpStays_step rfl rfl; (intro w' hw'; obtain ⟨a1, a2, a3, a4, a5, a6⟩ := (HAT.out w' hw').partA; obtain ⟨b1, b2, b3, b4, b5, b6⟩ := (HAT.out w' hw').partB; clear hw'; go_simp; exact ⟨rfl, rfl⟩); go_simp))
                  (iterate 11 (apply Wg.wpStays_skip rfl; (first | rfl | (go_simp; done)); go_simp))
                  exact rfl
                case hr2 =>
                  apply Wg.wpAnyP_one (i := 18) (fuel := 0) (by kernel_rfl) rfl rfl
                  go_simp
                  refine ⟨KV1.out, by kernel_rfl, ?_⟩
                  go_simp
                  go_wp2_with fail
                  go_ret
                  exact ⟨HY.out, KV1.out⟩
            · by_cases hkk : ka = kb
              · have HY := Lib.hid (HX.out 0 (HD4.out.trans (if_pos ⟨rfl, hkk⟩)))
                subst hkk
                refine Wg.wp_region_first (C := fun w' => Keeps (fun _ => False) w w') (by kernel_rfl) 19 ?_
                have KV := Lib.hid (show Keeps (fun _ => False) w { w3 with drawn := w3.drawn + 1 } from K4.out.drew)
                generalize { w3 with drawn := w3.drawn + 1 } = V at *
                apply Wg.wpAnyP_stays (by kernel_rfl) [0, 1, 2, 3] _ _ _ 15 _ KV.out (by kernel_rfl) ?hs ?hr
                case hs =>
                  repeat (apply Wg.wpStays_step rfl rfl; (intro w' hw'; obtain ⟨a1, a2, a3, a4, a5, a6⟩ := (HAT.out w' hw').partA; clear hw'; go_simp; exact ⟨rfl, rfl⟩); go_simp)
                  exact rfl
                case hr =>
                  apply Wg.wpAnyP_one (i := 4) (fuel := 14) (by kernel_rfl) rfl rfl
                  go_simp
                  refine Wg.plain_call (HOA.out V) ?_
                  rintro e V1 ⟨rfl, hk⟩
                  have KV1 := Lib.hid (KV.out.trans hk fun _ h => .inl h)
                  refine ⟨_, rfl, KV1.out, ?_⟩
                  clear hk
                  apply Wg.wpAnyP_stays (by kernel_rfl) [5, 6, 7, 8, 9, 10, 11, 12, 13, 14, 15, 16, 17] _ _ _ 1 _ KV1.out (by kernel_rfl) ?hs2 ?hr2
                  case hs2 =>
                    (iterate 2 (apply Wg.wpStays_step rfl rfl; (intro w' hw'; obtain ⟨a1, a2, a3, a4, a5, a6⟩ := (HAT.out w' hw').partA; obtain ⟨b1, b2, b3, b4, b5, b6⟩ := (HAT.out w' hw').partB; clear hw'; go_simp; exact ⟨rfl, rfl⟩); go_simp))
                    (iterate 11 (apply Wg.wpStays_wanted rfl; (first | rfl | (go_simp; done)); (intro w' hw'; obtain ⟨a1, a2, a3, a4, a5, a6⟩ := (HAT.out w' hw').partA; obtain ⟨b1, b2, b3, b4, b5, b6⟩ := (HAT.out w' hw').partB; clear hw'; go_simp; exact ⟨rfl, rfl⟩); go_simp))
                    exact rfl
                  case hr2 =>
                    apply Wg.wpAnyP_one (i := 18) (fuel := 0) (by kernel_rfl) rfl rfl
                    go_simp
                    refine ⟨KV1.out, by kernel_rfl, ?_⟩
                    go_simp
                    go_wp2_with fail
                    go_ret
                    exact ⟨HY.out, KV1.out⟩
              · have HY := Lib.hid (HX.out 9 (HD4.out.trans (if_neg (fun h => hkk h.2))))
                have hne : (ka != kb) = true := by simpa using hkk
                clear hkk
                refine Wg.wp_region_first (C := fun w' => Keeps (fun _ => False) w w') (by kernel_rfl) 19 ?_
                have KV := Lib.hid (show Keeps (fun _ => False) w { w3 with drawn := w3.drawn + 1 } from K4.out.drew)
                generalize { w3 with drawn := w3.drawn + 1 } = V at *
                apply Wg.wpAnyP_stays (by kernel_rfl) [0, 1, 2, 3] _ _ _ 15 _ KV.out (by kernel_rfl) ?hs ?hr
                case hs =>
                  repeat (apply Wg.wpStays_step rfl rfl; (intro w' hw'; obtain ⟨a1, a2, a3, a4, a5, a6⟩ := (HAT.out w' hw').partA; clear hw'; go_simp; exact ⟨rfl, rfl⟩); go_simp)
                  exact rfl
                case hr =>
                  apply Wg.wpAnyP_one (i := 4) (fuel := 14) (by kernel_rfl) rfl rfl
                  go_simp
                  refine Wg.plain_call (HOA.out V) ?_
                  rintro e V1 ⟨rfl, hk⟩
                  have KV1 := Lib.hid (KV.out.trans hk fun _ h => .inl h)
                  refine ⟨_, rfl, KV1.out, ?_⟩
                  clear hk
                  apply Wg.wpAnyP_stays (by kernel_rfl) [5, 6, 7, 8, 9, 10, 11, 12, 13, 14, 15, 16, 17] _ _ _ 1 _ KV1.out (by kernel_rfl) ?hs2 ?hr2
                  case hs2 =>
                    (iterate 2 (apply Wg.wpStays_step rfl rfl; (intro w' hw'; obtain ⟨a1, a2, a3, a4, a5, a6⟩ := (HAT.out w' hw').partA; obtain ⟨b1, b2, b3, b4, b5, b6⟩ := (HAT.out w' hw').partB; clear hw'; go_simp; exact ⟨rfl, rfl⟩); go_simp))
                    (iterate 11 (apply Wg.wpStays_wanted rfl; (first | rfl | (go_simp; done)); (intro w' hw'; obtain ⟨a1, a2, a3, a4, a5, a6⟩ := (HAT.out w' hw').partA; obtain ⟨b1, b2, b3, b4, b5, b6⟩ := (HAT.out w' hw').partB; clear hw'; go_simp; exact ⟨rfl, rfl⟩); go_simp))
                    exact rfl
                  case hr2 =>
                    apply Wg.wpAnyP_one (i := 18) (fuel := 0) (by kernel_rfl) rfl rfl
                    go_simp
                    refine ⟨KV1.out, by kernel_rfl, ?_⟩
                    go_simp
                    go_wp2_with fail
                    go_ret
                    exact ⟨HY.out, KV1.out⟩
          · have HY := Lib.hid (HX.out eB (by rw [HD3.out, if_pos he2]))
            have hne : (eB != 0) = true := by simpa using he2
            go_wp2_with (go_at_call 21; ((with_reducible refine (HVB.out _ (K3.out.alloc _)).mono ?_); rintro e w3 ⟨rfl, hk⟩; have K4 := Lib.hid ((K3.out.alloc _).trans hk fun _ h => .inl h); clear hk q6 q7 q8 q9 q10 q11))
            go_ret
            exact ⟨HY.out, K4.out⟩
        · have HY := Lib.hid (HX.out eA (by rw [HD2.out, if_pos he]))
          have hne : (eA != 0) = true := by simpa using he
          go_wp2_with (go_at_call 21; ((with_reducible refine (HVA.out _ (HK1.out.alloc _)).mono ?_); rintro e w2 ⟨rfl, hk⟩; have K2 := Lib.hid ((HK1.out.alloc _).trans hk fun _ h => .inl h); clear hk q0 q1 q2 q3 q4 q5))
          go_ret
          exact ⟨HY.out, K2.out⟩
    · rcases h89 with rfl | rfl
      · have HD2 := Lib.hid (HD1.out.trans (by rw [if_neg (by omega), if_neg (by omega), if_neg (by omega), if_neg (by omega), if_pos (by omega)]))
        clear HD1
        obtain ⟨hnk, hck, hmx, hel⟩ := hrow.elemT
        subst hnk
        have HE := Lib.hid hel
        have HKD := Lib.hid hkids
        obtain ⟨r1, r2, r3⟩ := HHAT.out.rest
        clear hrow hkids hel
        by_cases g1 : l.length < 1 ∨ 20 < l.length
        · have HY := Lib.hid (HX.out 5 (by rw [HD2.out, if_pos g1]))
          rcases (show l.length < 1 ∨ ¬ l.length < 1 by omega) with g2 | g2
          · have g2z : (l.length : Int) < 1 := by omega
            go_enter Tryz.func13, Tryz.ntmps13
            go_wp2_with fail
            go_ret
            exact ⟨HY.out, KR.out⟩
          · have g2z : ¬ (l.length : Int) < 1 := by omega
            have g3z : (l.length : Int) > 20 := by omega
            go_enter Tryz.func13, Tryz.ntmps13
            go_wp2_with fail
            go_ret
            exact ⟨HY.out, KR.out⟩
        · have g2z : ¬ (l.length : Int) < 1 := by omega
          have g3z : ¬ (l.length : Int) > 20 := by omega
          have HD3 := Lib.hid (HD2.out.trans (if_neg g1))
          obtain ⟨len, hlen⟩ : ∃ len, l.length = len := ⟨_, rfl⟩
          rw [hlen] at g1 g2z g3z r3 hck
          have HLEN := Lib.hid hlen
          have HR3 := Lib.hid (fun (W : World) (hk : Keeps (fun _ => False) w W) => hk.cell (fun h => h) r3)
          clear hlen HD2
          go_enter Tryz.func13, Tryz.ntmps13
          go_wp2_with fail
          go_loopw [108] (fun i wr => ∃ k, i = .int .i64 ((k : Nat) : Int) ∧ k ≤ len ∧ Hid (wrongL (l.drop k) (depth + 1) = wrongL l (depth + 1)) ∧ Hid (Keeps (fun _ => False) w wr)) (fun i _ => ((len : Int) - intOf i).toNat)
          case atStart => exact ⟨0, rfl, by omega, Lib.hid rfl, Lib.hid (Keeps.refl _ _)⟩
          case round =>
            obtain ⟨k, rfl, hk, he, hkk⟩ := hrel
            rcases (show k = len ∨ k < len by omega) with rfl | hlt
            · have HY := Lib.hid (HX.out 0 (by rw [HD3.out, ← he.out, List.drop_of_length_le (by have := HLEN.out; omega)]; rfl))
              go_wp2_with fail
              go_ret
              exact ⟨HY.out, hkk.out⟩
            · have hlz : (k : Int) < (len : Int) := by omega
              have hkl : k < l.length := by have := HLEN.out; omega
              have hgx : l[k]? = some l[k] := List.getElem?_eq_getElem hkl
              have hdr := List.drop_eq_getElem_cons hkl
              generalize l[k] = x at *
              obtain ⟨bb, off, rfl, hatx⟩ := HE.out k x hgx
              have HI := Lib.hid (ih x (HSZ.out k x hgx) _ bb (off + k * 16) (depth + 1) (TOk.later hkk.out _ (HKD.out.get hgx)) (ht.later hkk.out) (hatx.keep hkk.out (fun h => h)) (by omega))
              unfold Says at HI
              rw [show ((depth + 1 : Nat) : Int) = (depth : Int) + 1 from rfl] at HI
              have r3' := HR3.out _ hkk.out
              have HE2 := Lib.hid (show wrongL (l.drop k) (depth + 1) = if wrongT x (depth + 1) ≠ 0 then wrongT x (depth + 1) else wrongL (l.drop (k + 1)) (depth + 1) by rw [hdr]; rfl)
              generalize wrongT x (depth + 1) = r at *
              clear hdr hgx hatx
              by_cases hr : r = 0
              · subst hr
                have HE3 := Lib.hid (show wrongL (l.drop (k + 1)) (depth + 1) = wrongL l (depth + 1) by rw [← he.out, HE2.out, if_neg (by simp)])
                clear HE2
                go_wp2_with (go_at_call 13; ((with_reducible refine HI.out.mono ?_); rintro e w2 ⟨rfl, hk2⟩; have HK2 := Lib.hid (hkk.out.trans hk2 fun _ h => .inl h); clear hk2))
                go_roundw
                case measure => simp [intOf]; omega
                case rel => exact ⟨k + 1, by go_num, by omega, HE3, HK2⟩
              · have hrb : (r != 0) = true := by simpa using hr
                have HY := Lib.hid (HX.out r (by rw [HD3.out, ← he.out, HE2.out, if_pos hr]))
                clear HE2
                go_wp2_with (go_at_call 13; ((with_reducible refine HI.out.mono ?_); rintro e w2 ⟨rfl, hk2⟩; have HK2 := Lib.hid (hkk.out.trans hk2 fun _ h => .inl h); clear hk2))
                go_ret
                exact ⟨HY.out, HK2.out⟩
      · have HD2 := Lib.hid (HD1.out.trans (by rw [if_neg (by omega), if_neg (by omega), if_neg (by omega), if_neg (by omega), if_pos (by omega)]))
        clear HD1
        obtain ⟨hnk, hck, hmx, hel⟩ := hrow.elemT
        subst hnk
        have HE := Lib.hid hel
        have HKD := Lib.hid hkids
        obtain ⟨r1, r2, r3⟩ := HHAT.out.rest
        clear hrow hkids hel
        by_cases g1 : l.length < 1 ∨ 20 < l.length
        · have HY := Lib.hid (HX.out 5 (by rw [HD2.out, if_pos g1]))
          rcases (show l.length < 1 ∨ ¬ l.length < 1 by omega) with g2 | g2
          · have g2z : (l.length : Int) < 1 := by omega
            go_enter Tryz.func13, Tryz.ntmps13
            go_wp2_with fail
            go_ret
            exact ⟨HY.out, KR.out⟩
          · have g2z : ¬ (l.length : Int) < 1 := by omega
            have g3z : (l.length : Int) > 20 := by omega
            go_enter Tryz.func13, Tryz.ntmps13
            go_wp2_with fail
            go_ret
            exact ⟨HY.out, KR.out⟩
        · have g2z : ¬ (l.length : Int) < 1 := by omega
          have g3z : ¬ (l.length : Int) > 20 := by omega
          have HD3 := Lib.hid (HD2.out.trans (if_neg g1))
          obtain ⟨len, hlen⟩ : ∃ len, l.length = len := ⟨_, rfl⟩
          rw [hlen] at g1 g2z g3z r3 hck
          have HLEN := Lib.hid hlen
          have HR3 := Lib.hid (fun (W : World) (hk : Keeps (fun _ => False) w W) => hk.cell (fun h => h) r3)
          clear hlen HD2
          go_enter Tryz.func13, Tryz.ntmps13
          go_wp2_with fail
          go_loopw [108] (fun i wr => ∃ k, i = .int .i64 ((k : Nat) : Int) ∧ k ≤ len ∧ Hid (wrongL (l.drop k) (depth + 1) = wrongL l (depth + 1)) ∧ Hid (Keeps (fun _ => False) w wr)) (fun i _ => ((len : Int) - intOf i).toNat)
          case atStart => exact ⟨0, rfl, by omega, Lib.hid rfl, Lib.hid (Keeps.refl _ _)⟩
          case round =>
            obtain ⟨k, rfl, hk, he, hkk⟩ := hrel
            rcases (show k = len ∨ k < len by omega) with rfl | hlt
            · have HY := Lib.hid (HX.out 0 (by rw [HD3.out, ← he.out, List.drop_of_length_le (by have := HLEN.out; omega)]; rfl))
              go_wp2_with fail
              go_ret
              exact ⟨HY.out, hkk.out⟩
            · have hlz : (k : Int) < (len : Int) := by omega
              have hkl : k < l.length := by have := HLEN.out; omega
              have hgx : l[k]? = some l[k] := List.getElem?_eq_getElem hkl
              have hdr := List.drop_eq_getElem_cons hkl
              generalize l[k] = x at *
              obtain ⟨bb, off, rfl, hatx⟩ := HE.out k x hgx
              have HI := Lib.hid (ih x (HSZ.out k x hgx) _ bb (off + k * 16) (depth + 1) (TOk.later hkk.out _ (HKD.out.get hgx)) (ht.later hkk.out) (hatx.keep hkk.out (fun h => h)) (by omega))
              unfold Says at HI
              rw [show ((depth + 1 : Nat) : Int) = (depth : Int) + 1 from rfl] at HI
              have r3' := HR3.out _ hkk.out
              have HE2 := Lib.hid (show wrongL (l.drop k) (depth + 1) = if wrongT x (depth + 1) ≠ 0 then wrongT x (depth + 1) else wrongL (l.drop (k + 1)) (depth + 1) by rw [hdr]; rfl)
              generalize wrongT x (depth + 1) = r at *
              clear hdr hgx hatx
              by_cases hr : r = 0
              · subst hr
                have HE3 := Lib.hid (show wrongL (l.drop (k + 1)) (depth + 1) = wrongL l (depth + 1) by rw [← he.out, HE2.out, if_neg (by simp)])
                clear HE2
                go_wp2_with (go_at_call 13; ((with_reducible refine HI.out.mono ?_); rintro e w2 ⟨rfl, hk2⟩; have HK2 := Lib.hid (hkk.out.trans hk2 fun _ h => .inl h); clear hk2))
                go_roundw
                case measure => simp [intOf]; omega
                case rel => exact ⟨k + 1, by go_num, by omega, HE3, HK2⟩
              · have hrb : (r != 0) = true := by simpa using hr
                have HY := Lib.hid (HX.out r (by rw [HD3.out, ← he.out, HE2.out, if_pos hr]))
                clear HE2
                go_wp2_with (go_at_call 13; ((with_reducible refine HI.out.mono ?_); rintro e w2 ⟨rfl, hk2⟩; have HK2 := Lib.hid (hkk.out.trans hk2 fun _ h => .inl h); clear hk2))
                go_ret
                exact ⟨HY.out, HK2.out⟩
    · have HY := Lib.hid (HX.out 1 (by rw [HD1.out, if_neg (by omega), if_neg (by omega), if_neg (by omega), if_neg (by omega), if_neg (by omega)]))
      have e1 : (kd == 1) = false := by simp; omega
      have e2 : (kd == 2) = false := by simp; omega
      have e3 : (kd == 3) = false := by simp; omega
      have e4 : (kd == 4) = false := by simp; omega
      have e5 : (kd == 5) = false := by simp; omega
      have e6 : (kd == 6) = false := by simp; omega
      have e7 : (kd == 7) = false := by simp; omega
      have e8 : (kd == 8) = false := by simp; omega
      have e9 : (kd == 9) = false := by simp; omega
      go_enter Tryz.func13, Tryz.ntmps13
      go_wp2_with fail
      go_ret
      exact ⟨HY.out, KR.out⟩

/-- A test's copy in a block of its own. -/
theorem tst_copy {w w1 : World} {t : Tst} {p : Nat} (h1 : w.alloc (.cells t.cells.toArray 29) = w1) (hp : w.heap.size = p) : (∀ W, Keeps (fun _ => False) w1 W → At W p 0 t.cells) ∧ Keeps (fun _ => False) w w1 := by
  have hb1 : w1.heap[p]? = some (.cells t.cells.toArray 29 (0, 0)) := by rw [← h1, ← hp]; exact heap_alloc_new _ _
  refine ⟨fun W hk j u hj => ?_, by rw [← h1]; exact (Keeps.refl _ _).alloc _⟩
  rw [Nat.zero_add, cell_of_row W p j _ _ _ (hk.blk hb1), List.getElem?_toArray]
  exact hj

set_option maxRecDepth 100000 in
set_option maxHeartbeats 4000000 in
theorem tWrong_any {w : World} {t : Tst} (hto : TOk w t) (ht : Tabs w) : Says 4 #[.agg t.cells.toArray] w (wrongT t 1) := by
  obtain ⟨w1, h1⟩ : ∃ w1, w.alloc (.cells t.cells.toArray 29) = w1 := ⟨_, rfl⟩
  obtain ⟨p, hp⟩ : ∃ p, w.heap.size = p := ⟨_, rfl⟩
  obtain ⟨hat, k1⟩ := tst_copy h1 hp
  have K1 := Lib.hid k1
  have H := Lib.hid (show Says 13 #[.pointer (some ⟨p, 0, none⟩), .int .i64 1] w1 (wrongT t 1) from wrong_any (SizeOf.sizeOf t + 1) t (by omega) w1 p 0 1 (TOk.later k1 _ hto) (ht.later k1) (hat w1 (Keeps.refl _ _)) (by omega))
  unfold Says at H ⊢
  generalize wrongT t 1 = R at *
  clear hat k1 ht
  obtain ⟨kd, va, vb, oa, ob, kv, l⟩ := t
  obtain ⟨hva, hvb, hrow, _⟩ := hto.parts
  obtain ⟨ka, ya, da, ta, la, ea⟩ := va
  obtain ⟨kb, yb, db, tb, lb, eb⟩ := vb
  obtain ⟨Aa, na, ca, hla⟩ := hva.slice
  obtain ⟨Ab, nb, cb, hlb⟩ := hvb.slice
  obtain ⟨Ak, nk, ck, hkv⟩ := hrow.slice
  subst hla hlb hkv
  simp only [Tst.cells] at h1 ⊢
  clear hva hvb hrow hto
  go_enter Tryz.func4, Tryz.ntmps4
  go_wp2_with (go_at_call 13; ((with_reducible refine H.out.mono ?_); rintro e w2 ⟨rfl, hk⟩; have K2 := Lib.hid (K1.out.trans hk fun _ h => .inl h); clear hk))
  go_ret
  exact ⟨rfl, K2.out⟩

end Go.Proofs.YtnihfhfakadepaaGreatDoor
