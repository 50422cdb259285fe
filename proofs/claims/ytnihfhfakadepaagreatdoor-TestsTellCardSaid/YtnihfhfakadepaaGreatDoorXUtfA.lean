/- Package verdictref2: is a text made of runes? And the library's answer, laid here. -/
import Derived.Test.YtnihfhfakadepaaGreatDoorXPlainA
import Derived.Test.YtnihfhfakadepaaGreatDoorShelf
import Derived.Test.YtnihfhfakadepaaGreatDoorXWordB
namespace Go.Proofs.YtnihfhfakadepaaGreatDoor
open Go.RowKit

set_option maxRecDepth 100000 in
set_option maxHeartbeats 4000000 in
theorem refUtf8_any {w : World} (s : ByteArray) (hs : s.size ≤ 1000) :
    Calls Tryz.prog 32 #[.string s] w fun e w' => e = .returned (.bool (Lib.validD s.data.toList)) ∧ w' = w := by
  obtain ⟨ANS, hANS⟩ : ∃ ANS, Lib.validD s.data.toList = ANS := ⟨_, rfl⟩
  rw [hANS]
  go_enter Tryz.func32, Tryz.ntmps32
  go_wp2_with fail
  go_loopw [3] (fun i wr => ∃ k : Nat, i = .int .i64 (k : Int) ∧ k ≤ s.size ∧ wr = w ∧ Hid (Lib.validD (s.data.toList.drop k) = ANS)) (fun i _ => ((s.size : Int) - intOf i).toNat)
  case atStart => exact ⟨0, rfl, by omega, rfl, Lib.hid hANS⟩
  case round =>
    obtain ⟨k, rfl, hk, rfl, ha⟩ := hrel
    clear hANS
    rcases (show k = s.size ∨ k < s.size by omega) with rfl | hlt
    · have ht : Hid (true = ANS) := Lib.hid (by rw [← ha.out, valid_end])
      clear ha
      go_wp2_with fail
      go_ret
      exact ⟨ret_bool ht.out, rfl⟩
    · have hlz : (k : Int) < (s.size : Int) := by omega
      have b0 := byteAt_get s k hlt
      have B0 := byteAt_lt s k
      have HV := Lib.hid (fun h1 => valid_none (ANS := ANS) hlt h1 ha.out)
      have HS := Lib.hid (fun m h1 => valid_some (ANS := ANS) (m := m) hlt h1 ha.out)
      have HL := Lib.hid (valid_low s k hlt)
      rw [ha.out] at HL
      generalize byteAt s k = x0 at *
      clear ha
      by_cases h0 : x0 < 128
      · have h0z : (x0 : Int) < 128 := by omega
        have hv := Lib.hid (HL.out h0)
        clear HV HS HL
        go_wp2_with fail
        go_roundw
        case measure => simp [intOf]; omega
        case rel => exact ⟨k + 1, by go_num, by omega, by trivial, Lib.hid hv.out.symm⟩
      · have h0z : ¬ (x0 : Int) < 128 := by omega
        have HV := Lib.hid (HV.out (by omega))
        have HS := Lib.hid (fun m => HS.out m (by omega))
        clear HL
        by_cases hbad : x0 < 192 ∨ 248 ≤ x0
        · have hv := Lib.hid (HV.out (by unfold refN; rw [if_pos hbad]))
          clear HV HS
          go_wp2_with fail
          all_goals first | (go_ret; exact ⟨ret_bool hv.out, rfl⟩) | (exfalso; omega)
        · by_cases hc : x0 < 224
          · skip
            have c1 : (x0 : Int) ≥ 192 := by omega
            have c2 : (x0 : Int) < 224 := by omega
            by_cases hn : k + 1 < s.size
            · have hnz : ¬ ((k : Int) + 1 ≥ (s.size : Int)) := by omega
              have b1 := byteAt_get s (k + 1) (by omega)
              have B1 := byteAt_lt s (k + 1)
              generalize byteAt s (k + 1) = x1 at *
              by_cases hbad1 : x1 < 128 ∨ 192 ≤ x1
              · have hv := Lib.hid (HV.out (by unfold refN; (repeat' split); all_goals first | rfl | (exfalso; omega)))
                clear HV HS
                rcases hbad1 with h | h
                · have hz : (x1 : Int) < 128 := by omega
                  go_wp2_with fail
                  refine wp_loop_rounds 1 ?_
                  rw [rounds_succ]
                  go_wp2_with fail
                  go_ret
                  exact ⟨ret_bool hv.out, rfl⟩
                · have hz : ¬ (x1 : Int) < 128 := by omega
                  have hy : (x1 : Int) ≥ 192 := by omega
                  go_wp2_with fail
                  refine wp_loop_rounds 1 ?_
                  rw [rounds_succ]
                  go_wp2_with fail
                  go_ret
                  exact ⟨ret_bool hv.out, rfl⟩
              have hz1 : ¬ (x1 : Int) < 128 := by omega
              have hy1 : ¬ (x1 : Int) ≥ 192 := by omega
              go_wp2_with fail
              refine wp_loop_rounds 2 ?_
              rw [rounds_succ]
              go_wp2_with fail
              rw [rounds_succ]
              go_wp2_with fail
              all_goals first
                | (exfalso; omega)
                | (go_ret; exact ⟨ret_bool (HV.out (by unfold refN; (repeat' split); all_goals first | rfl | (exfalso; omega))), rfl⟩)
                | exact ⟨⟨k + 2, by go_num, by omega, trivial, Lib.hid (HS.out 2 (by unfold refN; (repeat' split); all_goals first | rfl | (exfalso; omega)))⟩, by simp [intOf]; omega⟩
            · have hv := Lib.hid (HV.out (by unfold refN; (repeat' split); all_goals first | rfl | (exfalso; omega)))
              have hnz : (k : Int) + 1 ≥ (s.size : Int) := by omega
              clear HV HS
              go_wp2_with fail
              go_ret
              exact ⟨ret_bool hv.out, rfl⟩
          · by_cases hd : x0 < 240
            · skip
              have c1 : (x0 : Int) ≥ 192 := by omega
              have c2 : ¬ (x0 : Int) < 224 := by omega
              have c3 : (x0 : Int) ≥ 224 := by omega
              have c4 : (x0 : Int) < 240 := by omega
              by_cases hn : k + 2 < s.size
              · have hnz : ¬ ((k : Int) + 2 ≥ (s.size : Int)) := by omega
                have b1 := byteAt_get s (k + 1) (by omega)
                have B1 := byteAt_lt s (k + 1)
                have b2 := byteAt_get s (k + 2) (by omega)
                have B2 := byteAt_lt s (k + 2)
                generalize byteAt s (k + 1) = x1 at *
                generalize byteAt s (k + 2) = x2 at *
                by_cases hbad1 : x1 < 128 ∨ 192 ≤ x1
                · have hv := Lib.hid (HV.out (by unfold refN; (repeat' split); all_goals first | rfl | (exfalso; omega)))
                  clear HV HS
                  rcases hbad1 with h | h
                  · have hz : (x1 : Int) < 128 := by omega
                    go_wp2_with fail
                    refine wp_loop_rounds 1 ?_
                    rw [rounds_succ]
                    go_wp2_with fail
                    go_ret
                    exact ⟨ret_bool hv.out, rfl⟩
                  · have hz : ¬ (x1 : Int) < 128 := by omega
                    have hy : (x1 : Int) ≥ 192 := by omega
                    go_wp2_with fail
                    refine wp_loop_rounds 1 ?_
                    rw [rounds_succ]
                    go_wp2_with fail
                    go_ret
                    exact ⟨ret_bool hv.out, rfl⟩
                have hz1 : ¬ (x1 : Int) < 128 := by omega
                have hy1 : ¬ (x1 : Int) ≥ 192 := by omega
                by_cases hbad2 : x2 < 128 ∨ 192 ≤ x2
                · have hv := Lib.hid (HV.out (by unfold refN; (repeat' split); all_goals first | rfl | (exfalso; omega)))
                  clear HV HS
                  rcases hbad2 with h | h
                  · have hz : (x2 : Int) < 128 := by omega
                    go_wp2_with fail
                    refine wp_loop_rounds 2 ?_
                    rw [rounds_succ]
                    go_wp2_with fail
                    rw [rounds_succ]
                    go_wp2_with fail
                    go_ret
                    exact ⟨ret_bool hv.out, rfl⟩
                  · have hz : ¬ (x2 : Int) < 128 := by omega
                    have hy : (x2 : Int) ≥ 192 := by omega
                    go_wp2_with fail
                    refine wp_loop_rounds 2 ?_
                    rw [rounds_succ]
                    go_wp2_with fail
                    rw [rounds_succ]
                    go_wp2_with fail
                    go_ret
                    exact ⟨ret_bool hv.out, rfl⟩
                have hz2 : ¬ (x2 : Int) < 128 := by omega
                have hy2 : ¬ (x2 : Int) ≥ 192 := by omega
                go_wp2_with fail
                refine wp_loop_rounds 3 ?_
                rw [rounds_succ]
                go_wp2_with fail
                rw [rounds_succ]
                go_wp2_with fail
                rw [rounds_succ]
                go_wp2_with fail
                all_goals first
                  | (exfalso; omega)
                  | (go_ret; exact ⟨ret_bool (HV.out (by unfold refN; (repeat' split); all_goals first | rfl | (exfalso; omega))), rfl⟩)
                  | exact ⟨⟨k + 3, by go_num, by omega, trivial, Lib.hid (HS.out 3 (by unfold refN; (repeat' split); all_goals first | rfl | (exfalso; omega)))⟩, by simp [intOf]; omega⟩
              · have hv := Lib.hid (HV.out (by unfold refN; (repeat' split); all_goals first | rfl | (exfalso; omega)))
                have hnz : (k : Int) + 2 ≥ (s.size : Int) := by omega
                clear HV HS
                go_wp2_with fail
                go_ret
                exact ⟨ret_bool hv.out, rfl⟩
            · skip
              have c1 : (x0 : Int) ≥ 192 := by omega
              have c2 : ¬ (x0 : Int) < 224 := by omega
              have c3 : (x0 : Int) ≥ 224 := by omega
              have c4 : ¬ (x0 : Int) < 240 := by omega
              have c5 : (x0 : Int) ≥ 240 := by omega
              have c6 : (x0 : Int) < 248 := by omega
              by_cases hn : k + 3 < s.size
              · have hnz : ¬ ((k : Int) + 3 ≥ (s.size : Int)) := by omega
                have b1 := byteAt_get s (k + 1) (by omega)
                have B1 := byteAt_lt s (k + 1)
                have b2 := byteAt_get s (k + 2) (by omega)
                have B2 := byteAt_lt s (k + 2)
                have b3 := byteAt_get s (k + 3) (by omega)
                have B3 := byteAt_lt s (k + 3)
                generalize byteAt s (k + 1) = x1 at *
                generalize byteAt s (k + 2) = x2 at *
                generalize byteAt s (k + 3) = x3 at *
                by_cases hbad1 : x1 < 128 ∨ 192 ≤ x1
                · have hv := Lib.hid (HV.out (by unfold refN; (repeat' split); all_goals first | rfl | (exfalso; omega)))
                  clear HV HS
                  rcases hbad1 with h | h
                  · have hz : (x1 : Int) < 128 := by omega
                    go_wp2_with fail
                    refine wp_loop_rounds 1 ?_
                    rw [rounds_succ]
                    go_wp2_with fail
                    go_ret
                    exact ⟨ret_bool hv.out, rfl⟩
                  · have hz : ¬ (x1 : Int) < 128 := by omega
                    have hy : (x1 : Int) ≥ 192 := by omega
                    go_wp2_with fail
                    refine wp_loop_rounds 1 ?_
                    rw [rounds_succ]
                    go_wp2_with fail
                    go_ret
                    exact ⟨ret_bool hv.out, rfl⟩
                have hz1 : ¬ (x1 : Int) < 128 := by omega
                have hy1 : ¬ (x1 : Int) ≥ 192 := by omega
                by_cases hbad2 : x2 < 128 ∨ 192 ≤ x2
                · have hv := Lib.hid (HV.out (by unfold refN; (repeat' split); all_goals first | rfl | (exfalso; omega)))
                  clear HV HS
                  rcases hbad2 with h | h
                  · have hz : (x2 : Int) < 128 := by omega
                    go_wp2_with fail
                    refine wp_loop_rounds 2 ?_
                    rw [rounds_succ]
                    go_wp2_with fail
                    rw [rounds_succ]
                    go_wp2_with fail
                    go_ret
                    exact ⟨ret_bool hv.out, rfl⟩
                  · have hz : ¬ (x2 : Int) < 128 := by omega
                    have hy : (x2 : Int) ≥ 192 := by omega
                    go_wp2_with fail
                    refine wp_loop_rounds 2 ?_
                    rw [rounds_succ]
                    go_wp2_with fail
                    rw [rounds_succ]
                    go_wp2_with fail
                    go_ret
                    exact ⟨ret_bool hv.out, rfl⟩
                have hz2 : ¬ (x2 : Int) < 128 := by omega
                have hy2 : ¬ (x2 : Int) ≥ 192 := by omega
                by_cases hbad3 : x3 < 128 ∨ 192 ≤ x3
                · have hv := Lib.hid (HV.out (by unfold refN; (repeat' split); all_goals first | rfl | (exfalso; omega)))
                  clear HV HS
                  rcases hbad3 with h | h
                  · have hz : (x3 : Int) < 128 := by omega
                    go_wp2_with fail
                    refine wp_loop_rounds 3 ?_
                    rw [rounds_succ]
                    go_wp2_with fail
                    rw [rounds_succ]
                    go_wp2_with fail
                    rw [rounds_succ]
                    go_wp2_with fail
                    go_ret
                    exact ⟨ret_bool hv.out, rfl⟩
                  · have hz : ¬ (x3 : Int) < 128 := by omega
                    have hy : (x3 : Int) ≥ 192 := by omega
                    go_wp2_with fail
                    refine wp_loop_rounds 3 ?_
                    rw [rounds_succ]
                    go_wp2_with fail
                    rw [rounds_succ]
                    go_wp2_with fail
                    rw [rounds_succ]
                    go_wp2_with fail
                    go_ret
                    exact ⟨ret_bool hv.out, rfl⟩
                have hz3 : ¬ (x3 : Int) < 128 := by omega
                have hy3 : ¬ (x3 : Int) ≥ 192 := by omega
                go_wp2_with fail
                refine wp_loop_rounds 4 ?_
                rw [rounds_succ]
                go_wp2_with fail
                rw [rounds_succ]
                go_wp2_with fail
                rw [rounds_succ]
                go_wp2_with fail
                rw [rounds_succ]
                go_wp2_with fail
                all_goals first
                  | (exfalso; omega)
                  | (go_ret; exact ⟨ret_bool (HV.out (by unfold refN; (repeat' split); all_goals first | rfl | (exfalso; omega))), rfl⟩)
                  | exact ⟨⟨k + 4, by go_num, by omega, trivial, Lib.hid (HS.out 4 (by unfold refN; (repeat' split); all_goals first | rfl | (exfalso; omega)))⟩, by simp [intOf]; omega⟩
              · have hv := Lib.hid (HV.out (by unfold refN; (repeat' split); all_goals first | rfl | (exfalso; omega)))
                have hnz : (k : Int) + 3 ≥ (s.size : Int) := by omega
                clear HV HS
                go_wp2_with fail
                go_ret
                exact ⟨ret_bool hv.out, rfl⟩

end Go.Proofs.YtnihfhfakadepaaGreatDoor
