/- The law DecOrder, walked: whatever the three numbers, it answers yes. -/
import Derived.Test.YthjokmfidhcclaaGreatDoorAlive
import Derived.Test.YthjokmfidhcclaaGreatDoorOrdP
namespace Go.Proofs.YthjokmfidhcclaaGreatDoor
open Go.RowKit

set_option maxRecDepth 100000 in
set_option maxHeartbeats 4000000 in
theorem decOrder_walk {w : World} (ht : Thr w) (a b c : DecV) :
    Calls Tryz.prog 3 #[.agg #[.int .i64 a.coef, .int .i64 a.exp], .agg #[.int .i64 b.coef, .int .i64 b.exp], .agg #[.int .i64 c.coef, .int .i64 c.exp]] w fun e w' => e = .returned (.bool true) ∧ Keeps (fun _ => False) w w' := by
  obtain ⟨w1, hw1⟩ : ∃ w1, w.alloc (.cells #[.int .i64 a.coef, .int .i64 a.exp] 23) = w1 := ⟨_, rfl⟩
  obtain ⟨pa, hpa⟩ : ∃ pa, w.heap.size = pa := ⟨_, rfl⟩
  have ha1 : w1.heap[pa]? = some (.cells #[.int .i64 a.coef, .int .i64 a.exp] 23 (0, 0)) := by rw [← hw1, ← hpa]; exact heap_alloc_new _ _
  have hk1 : Keeps (fun _ => False) w w1 := by rw [← hw1]; exact (Keeps.refl _ _).alloc _
  obtain ⟨w2, hw2⟩ : ∃ w2, w1.alloc (.cells #[.int .i64 b.coef, .int .i64 b.exp] 23) = w2 := ⟨_, rfl⟩
  obtain ⟨pb, hpb⟩ : ∃ pb, w1.heap.size = pb := ⟨_, rfl⟩
  have hb2 : w2.heap[pb]? = some (.cells #[.int .i64 b.coef, .int .i64 b.exp] 23 (0, 0)) := by rw [← hw2, ← hpb]; exact heap_alloc_new _ _
  have hk2 : Keeps (fun _ => False) w1 w2 := by rw [← hw2]; exact (Keeps.refl _ _).alloc _
  obtain ⟨w3, hw3⟩ : ∃ w3, w2.alloc (.cells #[.int .i64 c.coef, .int .i64 c.exp] 23) = w3 := ⟨_, rfl⟩
  obtain ⟨pc, hpc⟩ : ∃ pc, w2.heap.size = pc := ⟨_, rfl⟩
  have hc3 : w3.heap[pc]? = some (.cells #[.int .i64 c.coef, .int .i64 c.exp] 23 (0, 0)) := by rw [← hw3, ← hpc]; exact heap_alloc_new _ _
  have hk3 : Keeps (fun _ => False) w2 w3 := by rw [← hw3]; exact (Keeps.refl _ _).alloc _
  have ha3 := hk3.blk (hk2.blk ha1)
  have hb3 := hk3.blk hb2
  have HK3 := Lib.hid ((hk1.trans hk2 fun _ h => .inl h).trans hk3 fun _ h => .inl h)
  have HC := Lib.hid (fun (W : World) (hk : Keeps (fun _ => False) w3 W) => (⟨cell_of_row W pa 0 _ _ _ (hk.blk ha3), cell_of_row W pa 1 _ _ _ (hk.blk ha3), cell_of_row W pb 0 _ _ _ (hk.blk hb3), cell_of_row W pb 1 _ _ _ (hk.blk hb3), cell_of_row W pc 0 _ _ _ (hk.blk hc3), cell_of_row W pc 1 _ _ _ (hk.blk hc3)⟩ : W.cell? ⟨pa, 0, none⟩ = some (.int .i64 a.coef) ∧ W.cell? ⟨pa, 1, none⟩ = some (.int .i64 a.exp) ∧ W.cell? ⟨pb, 0, none⟩ = some (.int .i64 b.coef) ∧ W.cell? ⟨pb, 1, none⟩ = some (.int .i64 b.exp) ∧ W.cell? ⟨pc, 0, none⟩ = some (.int .i64 c.coef) ∧ W.cell? ⟨pc, 1, none⟩ = some (.int .i64 c.exp)))
  have HA := Lib.hid (alive_any (ht.later HK3.out))
  have HT := Lib.hid (fun (W : World) (hk : Keeps (fun _ => False) w3 W) => ht.later (HK3.out.trans hk fun _ h => .inl h))
  have HWa := Lib.hid (fun W : World => decWrong_any (w := W) a)
  have HWb := Lib.hid (fun W : World => decWrong_any (w := W) b)
  have HWc := Lib.hid (fun W : World => decWrong_any (w := W) c)
  have HAB := Lib.hid (fun (W : World) (hk : Keeps (fun _ => False) w3 W) => decCmp_any (HT.out W hk) a b)
  have HBA := Lib.hid (fun (W : World) (hk : Keeps (fun _ => False) w3 W) => decCmp_any (HT.out W hk) b a)
  have HBC := Lib.hid (fun (W : World) (hk : Keeps (fun _ => False) w3 W) => decCmp_any (HT.out W hk) b c)
  have HAC := Lib.hid (fun (W : World) (hk : Keeps (fun _ => False) w3 W) => decCmp_any (HT.out W hk) a c)
  clear ha1 hk1 hb2 hk2 ha3 hb3 hc3 hk3 ht
  have LAW := Lib.hid (fun (ha : wrongD a = 0) (hb : wrongD b = 0) => (⟨cmpD_bd a b, cmpD_flip b a, cmpD_zero ha hb, cmpD_trans a b c⟩ : (-1 ≤ cmpD a b ∧ cmpD a b ≤ 1) ∧ cmpD b a = -cmpD a b ∧ (cmpD a b = 0 ↔ a = b) ∧ (cmpD a b ≤ 0 → cmpD b c ≤ 0 → cmpD a c ≤ 0)))
  by_cases hwa : wrongD a = 0
  · rw [hwa] at HWa
    by_cases hwb : wrongD b = 0
    · rw [hwb] at HWb
      by_cases hwc : wrongD c = 0
      · rw [hwc] at HWc
        have hab : cmpE a b = (cmpD a b, 0) := by unfold cmpE; rw [if_neg (by simpa using hwa), if_neg (by simpa using hwb)]
        have hba : cmpE b a = (cmpD b a, 0) := by unfold cmpE; rw [if_neg (by simpa using hwb), if_neg (by simpa using hwa)]
        have hbc : cmpE b c = (cmpD b c, 0) := by unfold cmpE; rw [if_neg (by simpa using hwb), if_neg (by simpa using hwc)]
        have hac : cmpE a c = (cmpD a c, 0) := by unfold cmpE; rw [if_neg (by simpa using hwa), if_neg (by simpa using hwc)]
        simp only [hab] at HAB
        simp only [hba] at HBA
        simp only [hbc] at HBC
        simp only [hac] at HAC
        obtain ⟨hbd, hfl, hze, htr⟩ := LAW.out hwa hwb
        rw [hfl] at HBA
        clear hfl hab hba hbc hac hwa hwb hwc LAW
        generalize cmpD a b = x at *
        generalize cmpD b c = z at *
        generalize cmpD a c = u at *
        have HTR := Lib.hid htr
        have hor : (¬ (0 : Int) < z ∧ u ≤ 0) ∨ 0 < z ∨ 0 < x := by by_cases h1 : 0 < z; exact .inr (.inl h1); by_cases h2 : 0 < x; exact .inr (.inr h2); exact .inl ⟨h1, htr (by omega) (by omega)⟩
        clear htr
        rcases (show x = -1 ∨ x = 0 ∨ x = 1 by omega) with rfl | rfl | rfl
        · have hnab : a ≠ b := fun e => by simpa using hze.2 e
          clear hze hbd HTR
          obtain ⟨ac, ax⟩ := a
          obtain ⟨bc, bx⟩ := b
          by_cases hcc : ac = bc
          · subst hcc
            have hxx : ¬ ax = bx := fun e => hnab (by rw [e])
            clear hnab
            rcases hor with ⟨h1, h2⟩ | h1 | h1
            · have g1 : decide (u ≤ 0) = true := decide_eq_true h2
              have g2 : decide (0 < z) = false := decide_eq_false h1
              go_enter Tryz.func3, Tryz.ntmps3
              go_wp2_with (first
                | (go_at_call 4; ((with_reducible refine HA.out.mono ?_); rintro e w4 ⟨rfl, hk⟩; have K4 := Lib.hid hk; obtain ⟨d0, d1, d2, d3, d4, d5⟩ := HC.out w4 hk; clear hk))
                | (go_at_call 5; ((with_reducible refine (HWa.out w4).mono ?_); rintro e w5 ⟨rfl, hk⟩; have K5 := Lib.hid (K4.out.trans hk fun _ h => .inl h); clear d0 d1 d2 d3 d4 d5; obtain ⟨d0, d1, d2, d3, d4, d5⟩ := HC.out w5 K5.out; clear hk))
                | (go_at_call 5; ((with_reducible refine (HWb.out w5).mono ?_); rintro e w6 ⟨rfl, hk⟩; have K6 := Lib.hid (K5.out.trans hk fun _ h => .inl h); clear d0 d1 d2 d3 d4 d5; obtain ⟨d0, d1, d2, d3, d4, d5⟩ := HC.out w6 K6.out; clear hk))
                | (go_at_call 5; ((with_reducible refine (HWc.out w6).mono ?_); rintro e w7 ⟨rfl, hk⟩; have K7 := Lib.hid (K6.out.trans hk fun _ h => .inl h); clear d0 d1 d2 d3 d4 d5; obtain ⟨d0, d1, d2, d3, d4, d5⟩ := HC.out w7 K7.out; clear hk))
                | (go_at_call 6; ((with_reducible refine (HAB.out w7 K7.out).mono ?_); rintro e w8 ⟨rfl, hk⟩; have K8 := Lib.hid (K7.out.trans hk fun _ h => .inl h); clear d0 d1 d2 d3 d4 d5; obtain ⟨d0, d1, d2, d3, d4, d5⟩ := HC.out w8 K8.out; clear hk))
                | (go_at_call 6; ((with_reducible refine (HBA.out w8 K8.out).mono ?_); rintro e w9 ⟨rfl, hk⟩; have K9 := Lib.hid (K8.out.trans hk fun _ h => .inl h); clear d0 d1 d2 d3 d4 d5; obtain ⟨d0, d1, d2, d3, d4, d5⟩ := HC.out w9 K9.out; clear hk))
                | (go_at_call 6; ((with_reducible refine (HBC.out w9 K9.out).mono ?_); rintro e w10 ⟨rfl, hk⟩; have K10 := Lib.hid (K9.out.trans hk fun _ h => .inl h); clear d0 d1 d2 d3 d4 d5; obtain ⟨d0, d1, d2, d3, d4, d5⟩ := HC.out w10 K10.out; clear hk))
                | (go_at_call 6; ((with_reducible refine (HAC.out w10 K10.out).mono ?_); rintro e w11 ⟨rfl, hk⟩; have K11 := Lib.hid (K10.out.trans hk fun _ h => .inl h); clear d0 d1 d2 d3 d4 d5; obtain ⟨d0, d1, d2, d3, d4, d5⟩ := HC.out w11 K11.out; clear hk)))
              go_ret
              exact ⟨rfl, HK3.out.trans K11.out fun _ h => .inl h⟩
            · have g1 : decide (0 < z) = true := decide_eq_true h1
              go_enter Tryz.func3, Tryz.ntmps3
              go_wp2_with (first
                | (go_at_call 4; ((with_reducible refine HA.out.mono ?_); rintro e w4 ⟨rfl, hk⟩; have K4 := Lib.hid hk; obtain ⟨d0, d1, d2, d3, d4, d5⟩ := HC.out w4 hk; clear hk))
                | (go_at_call 5; ((with_reducible refine (HWa.out w4).mono ?_); rintro e w5 ⟨rfl, hk⟩; have K5 := Lib.hid (K4.out.trans hk fun _ h => .inl h); clear d0 d1 d2 d3 d4 d5; obtain ⟨d0, d1, d2, d3, d4, d5⟩ := HC.out w5 K5.out; clear hk))
                | (go_at_call 5; ((with_reducible refine (HWb.out w5).mono ?_); rintro e w6 ⟨rfl, hk⟩; have K6 := Lib.hid (K5.out.trans hk fun _ h => .inl h); clear d0 d1 d2 d3 d4 d5; obtain ⟨d0, d1, d2, d3, d4, d5⟩ := HC.out w6 K6.out; clear hk))
                | (go_at_call 5; ((with_reducible refine (HWc.out w6).mono ?_); rintro e w7 ⟨rfl, hk⟩; have K7 := Lib.hid (K6.out.trans hk fun _ h => .inl h); clear d0 d1 d2 d3 d4 d5; obtain ⟨d0, d1, d2, d3, d4, d5⟩ := HC.out w7 K7.out; clear hk))
                | (go_at_call 6; ((with_reducible refine (HAB.out w7 K7.out).mono ?_); rintro e w8 ⟨rfl, hk⟩; have K8 := Lib.hid (K7.out.trans hk fun _ h => .inl h); clear d0 d1 d2 d3 d4 d5; obtain ⟨d0, d1, d2, d3, d4, d5⟩ := HC.out w8 K8.out; clear hk))
                | (go_at_call 6; ((with_reducible refine (HBA.out w8 K8.out).mono ?_); rintro e w9 ⟨rfl, hk⟩; have K9 := Lib.hid (K8.out.trans hk fun _ h => .inl h); clear d0 d1 d2 d3 d4 d5; obtain ⟨d0, d1, d2, d3, d4, d5⟩ := HC.out w9 K9.out; clear hk))
                | (go_at_call 6; ((with_reducible refine (HBC.out w9 K9.out).mono ?_); rintro e w10 ⟨rfl, hk⟩; have K10 := Lib.hid (K9.out.trans hk fun _ h => .inl h); clear d0 d1 d2 d3 d4 d5; obtain ⟨d0, d1, d2, d3, d4, d5⟩ := HC.out w10 K10.out; clear hk))
                | (go_at_call 6; ((with_reducible refine (HAC.out w10 K10.out).mono ?_); rintro e w11 ⟨rfl, hk⟩; have K11 := Lib.hid (K10.out.trans hk fun _ h => .inl h); clear d0 d1 d2 d3 d4 d5; obtain ⟨d0, d1, d2, d3, d4, d5⟩ := HC.out w11 K11.out; clear hk)))
              go_ret
              exact ⟨rfl, HK3.out.trans K11.out fun _ h => .inl h⟩
            · omega
          · skip
            clear hnab
            rcases hor with ⟨h1, h2⟩ | h1 | h1
            · have g1 : decide (u ≤ 0) = true := decide_eq_true h2
              have g2 : decide (0 < z) = false := decide_eq_false h1
              go_enter Tryz.func3, Tryz.ntmps3
              go_wp2_with (first
                | (go_at_call 4; ((with_reducible refine HA.out.mono ?_); rintro e w4 ⟨rfl, hk⟩; have K4 := Lib.hid hk; obtain ⟨d0, d1, d2, d3, d4, d5⟩ := HC.out w4 hk; clear hk))
                | (go_at_call 5; ((with_reducible refine (HWa.out w4).mono ?_); rintro e w5 ⟨rfl, hk⟩; have K5 := Lib.hid (K4.out.trans hk fun _ h => .inl h); clear d0 d1 d2 d3 d4 d5; obtain ⟨d0, d1, d2, d3, d4, d5⟩ := HC.out w5 K5.out; clear hk))
                | (go_at_call 5; ((with_reducible refine (HWb.out w5).mono ?_); rintro e w6 ⟨rfl, hk⟩; have K6 := Lib.hid (K5.out.trans hk fun _ h => .inl h); clear d0 d1 d2 d3 d4 d5; obtain ⟨d0, d1, d2, d3, d4, d5⟩ := HC.out w6 K6.out; clear hk))
                | (go_at_call 5; ((with_reducible refine (HWc.out w6).mono ?_); rintro e w7 ⟨rfl, hk⟩; have K7 := Lib.hid (K6.out.trans hk fun _ h => .inl h); clear d0 d1 d2 d3 d4 d5; obtain ⟨d0, d1, d2, d3, d4, d5⟩ := HC.out w7 K7.out; clear hk))
                | (go_at_call 6; ((with_reducible refine (HAB.out w7 K7.out).mono ?_); rintro e w8 ⟨rfl, hk⟩; have K8 := Lib.hid (K7.out.trans hk fun _ h => .inl h); clear d0 d1 d2 d3 d4 d5; obtain ⟨d0, d1, d2, d3, d4, d5⟩ := HC.out w8 K8.out; clear hk))
                | (go_at_call 6; ((with_reducible refine (HBA.out w8 K8.out).mono ?_); rintro e w9 ⟨rfl, hk⟩; have K9 := Lib.hid (K8.out.trans hk fun _ h => .inl h); clear d0 d1 d2 d3 d4 d5; obtain ⟨d0, d1, d2, d3, d4, d5⟩ := HC.out w9 K9.out; clear hk))
                | (go_at_call 6; ((with_reducible refine (HBC.out w9 K9.out).mono ?_); rintro e w10 ⟨rfl, hk⟩; have K10 := Lib.hid (K9.out.trans hk fun _ h => .inl h); clear d0 d1 d2 d3 d4 d5; obtain ⟨d0, d1, d2, d3, d4, d5⟩ := HC.out w10 K10.out; clear hk))
                | (go_at_call 6; ((with_reducible refine (HAC.out w10 K10.out).mono ?_); rintro e w11 ⟨rfl, hk⟩; have K11 := Lib.hid (K10.out.trans hk fun _ h => .inl h); clear d0 d1 d2 d3 d4 d5; obtain ⟨d0, d1, d2, d3, d4, d5⟩ := HC.out w11 K11.out; clear hk)))
              go_ret
              exact ⟨rfl, HK3.out.trans K11.out fun _ h => .inl h⟩
            · have g1 : decide (0 < z) = true := decide_eq_true h1
              go_enter Tryz.func3, Tryz.ntmps3
              go_wp2_with (first
                | (go_at_call 4; ((with_reducible refine HA.out.mono ?_); rintro e w4 ⟨rfl, hk⟩; have K4 := Lib.hid hk; obtain ⟨d0, d1, d2, d3, d4, d5⟩ := HC.out w4 hk; clear hk))
                | (go_at_call 5; ((with_reducible refine (HWa.out w4).mono ?_); rintro e w5 ⟨rfl, hk⟩; have K5 := Lib.hid (K4.out.trans hk fun _ h => .inl h); clear d0 d1 d2 d3 d4 d5; obtain ⟨d0, d1, d2, d3, d4, d5⟩ := HC.out w5 K5.out; clear hk))
                | (go_at_call 5; ((with_reducible refine (HWb.out w5).mono ?_); rintro e w6 ⟨rfl, hk⟩; have K6 := Lib.hid (K5.out.trans hk fun _ h => .inl h); clear d0 d1 d2 d3 d4 d5; obtain ⟨d0, d1, d2, d3, d4, d5⟩ := HC.out w6 K6.out; clear hk))
                | (go_at_call 5; ((with_reducible refine (HWc.out w6).mono ?_); rintro e w7 ⟨rfl, hk⟩; have K7 := Lib.hid (K6.out.trans hk fun _ h => .inl h); clear d0 d1 d2 d3 d4 d5; obtain ⟨d0, d1, d2, d3, d4, d5⟩ := HC.out w7 K7.out; clear hk))
                | (go_at_call 6; ((with_reducible refine (HAB.out w7 K7.out).mono ?_); rintro e w8 ⟨rfl, hk⟩; have K8 := Lib.hid (K7.out.trans hk fun _ h => .inl h); clear d0 d1 d2 d3 d4 d5; obtain ⟨d0, d1, d2, d3, d4, d5⟩ := HC.out w8 K8.out; clear hk))
                | (go_at_call 6; ((with_reducible refine (HBA.out w8 K8.out).mono ?_); rintro e w9 ⟨rfl, hk⟩; have K9 := Lib.hid (K8.out.trans hk fun _ h => .inl h); clear d0 d1 d2 d3 d4 d5; obtain ⟨d0, d1, d2, d3, d4, d5⟩ := HC.out w9 K9.out; clear hk))
                | (go_at_call 6; ((with_reducible refine (HBC.out w9 K9.out).mono ?_); rintro e w10 ⟨rfl, hk⟩; have K10 := Lib.hid (K9.out.trans hk fun _ h => .inl h); clear d0 d1 d2 d3 d4 d5; obtain ⟨d0, d1, d2, d3, d4, d5⟩ := HC.out w10 K10.out; clear hk))
                | (go_at_call 6; ((with_reducible refine (HAC.out w10 K10.out).mono ?_); rintro e w11 ⟨rfl, hk⟩; have K11 := Lib.hid (K10.out.trans hk fun _ h => .inl h); clear d0 d1 d2 d3 d4 d5; obtain ⟨d0, d1, d2, d3, d4, d5⟩ := HC.out w11 K11.out; clear hk)))
              go_ret
              exact ⟨rfl, HK3.out.trans K11.out fun _ h => .inl h⟩
            · omega
        · have hab : a = b := hze.1 rfl
          subst hab
          clear hze hbd HTR
          rcases hor with ⟨h1, h2⟩ | h1 | h1
          · have g1 : decide (u ≤ 0) = true := decide_eq_true h2
            have g2 : decide (0 < z) = false := decide_eq_false h1
            go_enter Tryz.func3, Tryz.ntmps3
            go_wp2_with (first
              | (go_at_call 4; ((with_reducible refine HA.out.mono ?_); rintro e w4 ⟨rfl, hk⟩; have K4 := Lib.hid hk; obtain ⟨d0, d1, d2, d3, d4, d5⟩ := HC.out w4 hk; clear hk))
              | (go_at_call 5; ((with_reducible refine (HWa.out w4).mono ?_); rintro e w5 ⟨rfl, hk⟩; have K5 := Lib.hid (K4.out.trans hk fun _ h => .inl h); clear d0 d1 d2 d3 d4 d5; obtain ⟨d0, d1, d2, d3, d4, d5⟩ := HC.out w5 K5.out; clear hk))
              | (go_at_call 5; ((with_reducible refine (HWb.out w5).mono ?_); rintro e w6 ⟨rfl, hk⟩; have K6 := Lib.hid (K5.out.trans hk fun _ h => .inl h); clear d0 d1 d2 d3 d4 d5; obtain ⟨d0, d1, d2, d3, d4, d5⟩ := HC.out w6 K6.out; clear hk))
              | (go_at_call 5; ((with_reducible refine (HWc.out w6).mono ?_); rintro e w7 ⟨rfl, hk⟩; have K7 := Lib.hid (K6.out.trans hk fun _ h => .inl h); clear d0 d1 d2 d3 d4 d5; obtain ⟨d0, d1, d2, d3, d4, d5⟩ := HC.out w7 K7.out; clear hk))
              | (go_at_call 6; ((with_reducible refine (HAB.out w7 K7.out).mono ?_); rintro e w8 ⟨rfl, hk⟩; have K8 := Lib.hid (K7.out.trans hk fun _ h => .inl h); clear d0 d1 d2 d3 d4 d5; obtain ⟨d0, d1, d2, d3, d4, d5⟩ := HC.out w8 K8.out; clear hk))
              | (go_at_call 6; ((with_reducible refine (HBA.out w8 K8.out).mono ?_); rintro e w9 ⟨rfl, hk⟩; have K9 := Lib.hid (K8.out.trans hk fun _ h => .inl h); clear d0 d1 d2 d3 d4 d5; obtain ⟨d0, d1, d2, d3, d4, d5⟩ := HC.out w9 K9.out; clear hk))
              | (go_at_call 6; ((with_reducible refine (HBC.out w9 K9.out).mono ?_); rintro e w10 ⟨rfl, hk⟩; have K10 := Lib.hid (K9.out.trans hk fun _ h => .inl h); clear d0 d1 d2 d3 d4 d5; obtain ⟨d0, d1, d2, d3, d4, d5⟩ := HC.out w10 K10.out; clear hk))
              | (go_at_call 6; ((with_reducible refine (HAC.out w10 K10.out).mono ?_); rintro e w11 ⟨rfl, hk⟩; have K11 := Lib.hid (K10.out.trans hk fun _ h => .inl h); clear d0 d1 d2 d3 d4 d5; obtain ⟨d0, d1, d2, d3, d4, d5⟩ := HC.out w11 K11.out; clear hk)))
            go_ret
            exact ⟨rfl, HK3.out.trans K11.out fun _ h => .inl h⟩
          · have g1 : decide (0 < z) = true := decide_eq_true h1
            go_enter Tryz.func3, Tryz.ntmps3
            go_wp2_with (first
              | (go_at_call 4; ((with_reducible refine HA.out.mono ?_); rintro e w4 ⟨rfl, hk⟩; have K4 := Lib.hid hk; obtain ⟨d0, d1, d2, d3, d4, d5⟩ := HC.out w4 hk; clear hk))
              | (go_at_call 5; ((with_reducible refine (HWa.out w4).mono ?_); rintro e w5 ⟨rfl, hk⟩; have K5 := Lib.hid (K4.out.trans hk fun _ h => .inl h); clear d0 d1 d2 d3 d4 d5; obtain ⟨d0, d1, d2, d3, d4, d5⟩ := HC.out w5 K5.out; clear hk))
              | (go_at_call 5; ((with_reducible refine (HWb.out w5).mono ?_); rintro e w6 ⟨rfl, hk⟩; have K6 := Lib.hid (K5.out.trans hk fun _ h => .inl h); clear d0 d1 d2 d3 d4 d5; obtain ⟨d0, d1, d2, d3, d4, d5⟩ := HC.out w6 K6.out; clear hk))
              | (go_at_call 5; ((with_reducible refine (HWc.out w6).mono ?_); rintro e w7 ⟨rfl, hk⟩; have K7 := Lib.hid (K6.out.trans hk fun _ h => .inl h); clear d0 d1 d2 d3 d4 d5; obtain ⟨d0, d1, d2, d3, d4, d5⟩ := HC.out w7 K7.out; clear hk))
              | (go_at_call 6; ((with_reducible refine (HAB.out w7 K7.out).mono ?_); rintro e w8 ⟨rfl, hk⟩; have K8 := Lib.hid (K7.out.trans hk fun _ h => .inl h); clear d0 d1 d2 d3 d4 d5; obtain ⟨d0, d1, d2, d3, d4, d5⟩ := HC.out w8 K8.out; clear hk))
              | (go_at_call 6; ((with_reducible refine (HBA.out w8 K8.out).mono ?_); rintro e w9 ⟨rfl, hk⟩; have K9 := Lib.hid (K8.out.trans hk fun _ h => .inl h); clear d0 d1 d2 d3 d4 d5; obtain ⟨d0, d1, d2, d3, d4, d5⟩ := HC.out w9 K9.out; clear hk))
              | (go_at_call 6; ((with_reducible refine (HBC.out w9 K9.out).mono ?_); rintro e w10 ⟨rfl, hk⟩; have K10 := Lib.hid (K9.out.trans hk fun _ h => .inl h); clear d0 d1 d2 d3 d4 d5; obtain ⟨d0, d1, d2, d3, d4, d5⟩ := HC.out w10 K10.out; clear hk))
              | (go_at_call 6; ((with_reducible refine (HAC.out w10 K10.out).mono ?_); rintro e w11 ⟨rfl, hk⟩; have K11 := Lib.hid (K10.out.trans hk fun _ h => .inl h); clear d0 d1 d2 d3 d4 d5; obtain ⟨d0, d1, d2, d3, d4, d5⟩ := HC.out w11 K11.out; clear hk)))
            go_ret
            exact ⟨rfl, HK3.out.trans K11.out fun _ h => .inl h⟩
          · omega
        · have hnab : a ≠ b := fun e => by simpa using hze.2 e
          clear hze hbd HTR hor
          obtain ⟨ac, ax⟩ := a
          obtain ⟨bc, bx⟩ := b
          by_cases hcc : ac = bc
          · subst hcc
            have hxx : ¬ ax = bx := fun e => hnab (by rw [e])
            clear hnab
            go_enter Tryz.func3, Tryz.ntmps3
            go_wp2_with (first
              | (go_at_call 4; ((with_reducible refine HA.out.mono ?_); rintro e w4 ⟨rfl, hk⟩; have K4 := Lib.hid hk; obtain ⟨d0, d1, d2, d3, d4, d5⟩ := HC.out w4 hk; clear hk))
              | (go_at_call 5; ((with_reducible refine (HWa.out w4).mono ?_); rintro e w5 ⟨rfl, hk⟩; have K5 := Lib.hid (K4.out.trans hk fun _ h => .inl h); clear d0 d1 d2 d3 d4 d5; obtain ⟨d0, d1, d2, d3, d4, d5⟩ := HC.out w5 K5.out; clear hk))
              | (go_at_call 5; ((with_reducible refine (HWb.out w5).mono ?_); rintro e w6 ⟨rfl, hk⟩; have K6 := Lib.hid (K5.out.trans hk fun _ h => .inl h); clear d0 d1 d2 d3 d4 d5; obtain ⟨d0, d1, d2, d3, d4, d5⟩ := HC.out w6 K6.out; clear hk))
              | (go_at_call 5; ((with_reducible refine (HWc.out w6).mono ?_); rintro e w7 ⟨rfl, hk⟩; have K7 := Lib.hid (K6.out.trans hk fun _ h => .inl h); clear d0 d1 d2 d3 d4 d5; obtain ⟨d0, d1, d2, d3, d4, d5⟩ := HC.out w7 K7.out; clear hk))
              | (go_at_call 6; ((with_reducible refine (HAB.out w7 K7.out).mono ?_); rintro e w8 ⟨rfl, hk⟩; have K8 := Lib.hid (K7.out.trans hk fun _ h => .inl h); clear d0 d1 d2 d3 d4 d5; obtain ⟨d0, d1, d2, d3, d4, d5⟩ := HC.out w8 K8.out; clear hk))
              | (go_at_call 6; ((with_reducible refine (HBA.out w8 K8.out).mono ?_); rintro e w9 ⟨rfl, hk⟩; have K9 := Lib.hid (K8.out.trans hk fun _ h => .inl h); clear d0 d1 d2 d3 d4 d5; obtain ⟨d0, d1, d2, d3, d4, d5⟩ := HC.out w9 K9.out; clear hk))
              | (go_at_call 6; ((with_reducible refine (HBC.out w9 K9.out).mono ?_); rintro e w10 ⟨rfl, hk⟩; have K10 := Lib.hid (K9.out.trans hk fun _ h => .inl h); clear d0 d1 d2 d3 d4 d5; obtain ⟨d0, d1, d2, d3, d4, d5⟩ := HC.out w10 K10.out; clear hk))
              | (go_at_call 6; ((with_reducible refine (HAC.out w10 K10.out).mono ?_); rintro e w11 ⟨rfl, hk⟩; have K11 := Lib.hid (K10.out.trans hk fun _ h => .inl h); clear d0 d1 d2 d3 d4 d5; obtain ⟨d0, d1, d2, d3, d4, d5⟩ := HC.out w11 K11.out; clear hk)))
            go_ret
            exact ⟨rfl, HK3.out.trans K11.out fun _ h => .inl h⟩
          · skip
            clear hnab
            go_enter Tryz.func3, Tryz.ntmps3
            go_wp2_with (first
              | (go_at_call 4; ((with_reducible refine HA.out.mono ?_); rintro e w4 ⟨rfl, hk⟩; have K4 := Lib.hid hk; obtain ⟨d0, d1, d2, d3, d4, d5⟩ := HC.out w4 hk; clear hk))
              | (go_at_call 5; ((with_reducible refine (HWa.out w4).mono ?_); rintro e w5 ⟨rfl, hk⟩; have K5 := Lib.hid (K4.out.trans hk fun _ h => .inl h); clear d0 d1 d2 d3 d4 d5; obtain ⟨d0, d1, d2, d3, d4, d5⟩ := HC.out w5 K5.out; clear hk))
              | (go_at_call 5; ((with_reducible refine (HWb.out w5).mono ?_); rintro e w6 ⟨rfl, hk⟩; have K6 := Lib.hid (K5.out.trans hk fun _ h => .inl h); clear d0 d1 d2 d3 d4 d5; obtain ⟨d0, d1, d2, d3, d4, d5⟩ := HC.out w6 K6.out; clear hk))
              | (go_at_call 5; ((with_reducible refine (HWc.out w6).mono ?_); rintro e w7 ⟨rfl, hk⟩; have K7 := Lib.hid (K6.out.trans hk fun _ h => .inl h); clear d0 d1 d2 d3 d4 d5; obtain ⟨d0, d1, d2, d3, d4, d5⟩ := HC.out w7 K7.out; clear hk))
              | (go_at_call 6; ((with_reducible refine (HAB.out w7 K7.out).mono ?_); rintro e w8 ⟨rfl, hk⟩; have K8 := Lib.hid (K7.out.trans hk fun _ h => .inl h); clear d0 d1 d2 d3 d4 d5; obtain ⟨d0, d1, d2, d3, d4, d5⟩ := HC.out w8 K8.out; clear hk))
              | (go_at_call 6; ((with_reducible refine (HBA.out w8 K8.out).mono ?_); rintro e w9 ⟨rfl, hk⟩; have K9 := Lib.hid (K8.out.trans hk fun _ h => .inl h); clear d0 d1 d2 d3 d4 d5; obtain ⟨d0, d1, d2, d3, d4, d5⟩ := HC.out w9 K9.out; clear hk))
              | (go_at_call 6; ((with_reducible refine (HBC.out w9 K9.out).mono ?_); rintro e w10 ⟨rfl, hk⟩; have K10 := Lib.hid (K9.out.trans hk fun _ h => .inl h); clear d0 d1 d2 d3 d4 d5; obtain ⟨d0, d1, d2, d3, d4, d5⟩ := HC.out w10 K10.out; clear hk))
              | (go_at_call 6; ((with_reducible refine (HAC.out w10 K10.out).mono ?_); rintro e w11 ⟨rfl, hk⟩; have K11 := Lib.hid (K10.out.trans hk fun _ h => .inl h); clear d0 d1 d2 d3 d4 d5; obtain ⟨d0, d1, d2, d3, d4, d5⟩ := HC.out w11 K11.out; clear hk)))
            go_ret
            exact ⟨rfl, HK3.out.trans K11.out fun _ h => .inl h⟩
      · have hne : (wrongD c != 0) = true := by simpa using hwc
        have he : cmpE a b = (cmpD a b, 0) := by unfold cmpE; rw [if_neg (by simpa using hwa), if_neg (by simpa using hwb)]
        simp only [he] at HAB
        go_enter Tryz.func3, Tryz.ntmps3
        go_wp2_with (first
          | (go_at_call 4; ((with_reducible refine HA.out.mono ?_); rintro e w4 ⟨rfl, hk⟩; have K4 := Lib.hid hk; obtain ⟨d0, d1, d2, d3, d4, d5⟩ := HC.out w4 hk; clear hk))
          | (go_at_call 5; ((with_reducible refine (HWa.out w4).mono ?_); rintro e w5 ⟨rfl, hk⟩; have K5 := Lib.hid (K4.out.trans hk fun _ h => .inl h); clear d0 d1 d2 d3 d4 d5; obtain ⟨d0, d1, d2, d3, d4, d5⟩ := HC.out w5 K5.out; clear hk))
          | (go_at_call 5; ((with_reducible refine (HWb.out w5).mono ?_); rintro e w6 ⟨rfl, hk⟩; have K6 := Lib.hid (K5.out.trans hk fun _ h => .inl h); clear d0 d1 d2 d3 d4 d5; obtain ⟨d0, d1, d2, d3, d4, d5⟩ := HC.out w6 K6.out; clear hk))
          | (go_at_call 5; ((with_reducible refine (HWc.out w6).mono ?_); rintro e w7 ⟨rfl, hk⟩; have K7 := Lib.hid (K6.out.trans hk fun _ h => .inl h); clear d0 d1 d2 d3 d4 d5; obtain ⟨d0, d1, d2, d3, d4, d5⟩ := HC.out w7 K7.out; clear hk))
          | (go_at_call 6; ((with_reducible refine (HAB.out w7 K7.out).mono ?_); rintro e w8 ⟨rfl, hk⟩; have K8 := Lib.hid (K7.out.trans hk fun _ h => .inl h); clear d0 d1 d2 d3 d4 d5; obtain ⟨d0, d1, d2, d3, d4, d5⟩ := HC.out w8 K8.out; clear hk)))
        go_ret
        exact ⟨rfl, HK3.out.trans K8.out fun _ h => .inl h⟩
    · have hne : (wrongD b != 0) = true := by simpa using hwb
      have hnf : (wrongD b == 0) = false := by simpa using hwb
      have he : cmpE a b = (0, wrongD b) := by unfold cmpE; rw [if_neg (by simpa using hwa), if_pos hwb]
      simp only [he] at HAB
      go_enter Tryz.func3, Tryz.ntmps3
      go_wp2_with (first
        | (go_at_call 4; ((with_reducible refine HA.out.mono ?_); rintro e w4 ⟨rfl, hk⟩; have K4 := Lib.hid hk; obtain ⟨d0, d1, d2, d3, d4, d5⟩ := HC.out w4 hk; clear hk))
        | (go_at_call 5; ((with_reducible refine (HWa.out w4).mono ?_); rintro e w5 ⟨rfl, hk⟩; have K5 := Lib.hid (K4.out.trans hk fun _ h => .inl h); clear d0 d1 d2 d3 d4 d5; obtain ⟨d0, d1, d2, d3, d4, d5⟩ := HC.out w5 K5.out; clear hk))
        | (go_at_call 5; ((with_reducible refine (HWb.out w5).mono ?_); rintro e w6 ⟨rfl, hk⟩; have K6 := Lib.hid (K5.out.trans hk fun _ h => .inl h); clear d0 d1 d2 d3 d4 d5; obtain ⟨d0, d1, d2, d3, d4, d5⟩ := HC.out w6 K6.out; clear hk))
        | (go_at_call 6; ((with_reducible refine (HAB.out w6 K6.out).mono ?_); rintro e w7 ⟨rfl, hk⟩; have K7 := Lib.hid (K6.out.trans hk fun _ h => .inl h); clear d0 d1 d2 d3 d4 d5; obtain ⟨d0, d1, d2, d3, d4, d5⟩ := HC.out w7 K7.out; clear hk))
        | (go_at_call 5; ((with_reducible refine (HWa.out w7).mono ?_); rintro e w8 ⟨rfl, hk⟩; have K8 := Lib.hid (K7.out.trans hk fun _ h => .inl h); clear d0 d1 d2 d3 d4 d5; obtain ⟨d0, d1, d2, d3, d4, d5⟩ := HC.out w8 K8.out; clear hk))
        | (go_at_call 5; ((with_reducible refine (HWb.out w8).mono ?_); rintro e w9 ⟨rfl, hk⟩; have K9 := Lib.hid (K8.out.trans hk fun _ h => .inl h); clear d0 d1 d2 d3 d4 d5; obtain ⟨d0, d1, d2, d3, d4, d5⟩ := HC.out w9 K9.out; clear hk)))
      go_ret
      exact ⟨rfl, HK3.out.trans K9.out fun _ h => .inl h⟩
  · have hne : (wrongD a != 0) = true := by simpa using hwa
    have hnf : (wrongD a == 0) = false := by simpa using hwa
    have he : cmpE a b = (0, wrongD a) := by unfold cmpE; rw [if_pos hwa]
    simp only [he] at HAB
    go_enter Tryz.func3, Tryz.ntmps3
    go_wp2_with (first
      | (go_at_call 4; ((with_reducible refine HA.out.mono ?_); rintro e w4 ⟨rfl, hk⟩; have K4 := Lib.hid hk; obtain ⟨d0, d1, d2, d3, d4, d5⟩ := HC.out w4 hk; clear hk))
      | (go_at_call 5; ((with_reducible refine (HWa.out w4).mono ?_); rintro e w5 ⟨rfl, hk⟩; have K5 := Lib.hid (K4.out.trans hk fun _ h => .inl h); clear d0 d1 d2 d3 d4 d5; obtain ⟨d0, d1, d2, d3, d4, d5⟩ := HC.out w5 K5.out; clear hk))
      | (go_at_call 6; ((with_reducible refine (HAB.out w5 K5.out).mono ?_); rintro e w6 ⟨rfl, hk⟩; have K6 := Lib.hid (K5.out.trans hk fun _ h => .inl h); clear d0 d1 d2 d3 d4 d5; obtain ⟨d0, d1, d2, d3, d4, d5⟩ := HC.out w6 K6.out; clear hk))
      | (go_at_call 5; ((with_reducible refine (HWa.out w6).mono ?_); rintro e w7 ⟨rfl, hk⟩; have K7 := Lib.hid (K6.out.trans hk fun _ h => .inl h); clear d0 d1 d2 d3 d4 d5; obtain ⟨d0, d1, d2, d3, d4, d5⟩ := HC.out w7 K7.out; clear hk)))
    go_ret
    exact ⟨rfl, HK3.out.trans K7.out fun _ h => .inl h⟩

end Go.Proofs.YthjokmfidhcclaaGreatDoor
