/- (*peer).sure: what most have, of this term, is counted as sure. -/
import Derived.Test.YtibjbpakbfodaaaSend
import Derived.Test.YtibjbpakbfodaaaPeer
import Derived.Deep.LoopGhost
namespace Go.Proofs.Ytibjbpakbfodaaa
open Go.RowKit

theorem have_snoc (l : List Int) (j : Nat) (hj : j < l.length) (i : Int) : have_ (l.take (j + 1)) i = have_ (l.take j) i + if i ≤ l[j] then 1 else 0 := by
  rw [List.take_succ_eq_append_getElem hj]
  unfold have_
  rw [List.filter_append, List.length_append]
  by_cases h : i ≤ l[j] <;> simp [h]

theorem have_le (l : List Int) (i : Int) : have_ l i ≤ l.length := List.length_filter_le _ _

set_option maxRecDepth 100000 in
set_option maxHeartbeats 2000000 in
theorem sure_any {w : World} {S : Nat → Prop} {p : Nat} {x : NodV} {ov : Value} {out : List MesV} (h : Peer w S p x ov out) (hl : x.n.log.length ≤ 60) (hm : x.n.mtch.length ≤ 5) (hc : 0 ≤ x.n.commit) :
    Calls Try.prog 92 #[.pointer (some ⟨p, 0, none⟩)] w fun e w' => e = .returned (.tuple #[]) ∧ Peer w' S p ⟨sure x.n, x.lv, x.vv, x.nv, x.mv⟩ ov out ∧ Keeps S w w' := by
  obtain ⟨LA, LC, VA, VC, NA, NC, MA, MC, OA, OC, hlv, hvv, hnv, hmv, hov, c0, c1, c2, c3, c4, c5, c6, c7, c8, c9, c10, c11, hfz, hpl⟩ := h.open_
  have HM := Lib.hid (fun j => h.mtchCell hmv (j := j))
  have F5 := Lib.hid (hfz 5)
  have C1 := Lib.hid c1; have C2 := Lib.hid c2; have C5 := Lib.hid c5; have C10 := Lib.hid c10
  clear hlv hvv hnv hov hmv c0 c3 c6 c7 c8 c9 c11 hfz c1 c2 c5 c10
  go_enter Try.func92, Try.ntmps92
  go_wp2
  go_loopw [2] (fun i wr => ∃ k : Nat, k ≤ x.n.log.length ∧ i = .int .i64 k ∧ sureAt x.n x.n.log.length = sureAt x.n k ∧ Keeps (fun _ => False) w wr) (fun i _ => (intOf i).toNat)
  case atStart => exact ⟨_, Nat.le_refl _, rfl, rfl, Keeps.refl _ _⟩
  case round =>
    obtain ⟨k, hk, rfl, hsu, hkw⟩ := hrel
    have HSU := Lib.hid hsu
    have HKW := Lib.hid hkw
    have d1 := hkw.cell (fun h => h) C1.out
    have d2 := hkw.cell (fun h => h) C2.out
    have d5 := hkw.cell (fun h => h) C5.out
    have d10 := hkw.cell (fun h => h) C10.out
    have g5 : wr.frozen? ⟨p, 5, none⟩ = false := (h.later hkw).frozen 5
    have HPd := Lib.hid (h.later hkw)
    clear hsu hkw c4
    by_cases h1 : x.n.commit < (k : Int)
    · obtain ⟨k, rfl⟩ : ∃ k', k = k' + 1 := ⟨k - 1, by omega⟩
      by_cases h2 : termAt x.n.log ((k : Int) + 1) = x.n.term
      · rw [show ((k + 1 : Nat) : Int) = (k : Int) + 1 from by omega] at *
        have hd : decide (x.n.commit < (k : Int) + 1) = true := by simp; omega
        have he : (termAt x.n.log ((k : Int) + 1) == x.n.term) = true := by rw [beq_iff_eq]; exact h2
        have HT := Lib.hid h2
        clear h2
        go_wp2_with fail
        go_quiet ((go_at_call 61; exact Calls.quiet_of_same (termAt_any (HPd.out.later ((Keeps.refl _ _).drewN _)) _ hl (by omega) (by omega))))
        clear hd he
        go_wp2_with fail
        go_loop [3, 38] (fun hv i => ∃ j : Nat, j ≤ x.n.mtch.length ∧ i = .int .i64 j ∧ hv = .int .i64 (have_ (x.n.mtch.take j) ((k : Int) + 1))) (fun _ i => 70 - (intOf i).toNat)
        case atStart => exact ⟨0, by omega, rfl, rfl⟩
        case round =>
          obtain ⟨j, hj, rfl, rfl⟩ := hrel
          have hle := have_le (x.n.mtch.take j) ((k : Int) + 1)
          have hle2 : (x.n.mtch.take j).length ≤ 5 := by rw [List.length_take]; omega
          by_cases hlt : j < x.n.mtch.length
          · obtain ⟨g, hg, hgc, _⟩ := HM.out j hlt
            have hgc' := HKW.out.cell (fun h => h) hgc
            have hs := have_snoc x.n.mtch j hlt ((k : Int) + 1)
            have HS := Lib.hid hs
            clear hs hgc
            subst hg
            generalize x.n.mtch[j] = z at *
            by_cases hz : (k : Int) + 1 ≤ z
            · go_wp2
              go_round
              case rel => exact ⟨j + 1, by omega, by go_num, by rw [HS.out, if_pos hz]; go_num⟩
              case measure => simp [intOf]; omega
            · go_wp2
              go_round
              case rel => exact ⟨j + 1, by omega, by go_num, by rw [HS.out, if_neg hz]; rfl⟩
              case measure => simp [intOf]; omega
          · obtain rfl : j = x.n.mtch.length := by omega
            rw [List.take_length] at hle hle2 ⊢
            by_cases hmaj : x.n.n < 2 * (have_ x.n.mtch ((k : Int) + 1) : Int)
            · have hd2 : decide (x.n.n < 2 * (have_ x.n.mtch ((k : Int) + 1) : Int)) = true := by simp; omega
              go_wp2_with (go_at_call 88; refine (majority_any (w := wr.drewN nq) d1 (by omega) (by omega)).mono ?_; rintro e w' ⟨rfl, rfl⟩)
              refine bodyPost_ret (v := .tuple #[]) (results_none rfl _ _ _) rfl ?_
              refine ⟨rfl, ?_⟩
              have hx : sure x.n = { x.n with commit := (k : Int) + 1 } := by
                unfold sure
                rw [HSU.out, sureAt, if_pos ⟨by omega, HT.out⟩, if_pos hmaj]
              rw [hx]
              exact h.setInt (HKW.out.drewN nq) 5 (.int .i64 ((k : Int) + 1)) _ rfl rfl rfl rfl rfl
            · have hd2 : decide (x.n.n < 2 * (have_ x.n.mtch ((k : Int) + 1) : Int)) = false := by simp; omega
              go_wp2_with (go_at_call 88; refine (majority_any (w := wr.drewN nq) d1 (by omega) (by omega)).mono ?_; rintro e w' ⟨rfl, rfl⟩)
              go_roundw
              case rel => exact ⟨k, by omega, rfl, by rw [HSU.out, sureAt, if_pos ⟨by omega, HT.out⟩, if_neg (by omega)], HKW.out.drewN nq⟩
              case measure => simp [intOf]
      · rw [show ((k + 1 : Nat) : Int) = (k : Int) + 1 from by omega] at *
        have hd : decide (x.n.commit < (k : Int) + 1) = true := by simp; omega
        have he : (termAt x.n.log ((k : Int) + 1) == x.n.term) = false := by rw [beq_eq_false_iff_ne]; exact h2
        have HT := Lib.hid h2
        clear h2
        go_wp2_with fail
        go_quiet ((go_at_call 61; exact Calls.quiet_of_same (termAt_any (HPd.out.later ((Keeps.refl _ _).drewN _)) _ hl (by omega) (by omega))))
        clear hd he
        go_wp2
        go_end0
        refine ⟨rfl, ?_⟩
        have hx : sure x.n = x.n := by
          unfold sure
          rw [HSU.out, sureAt, if_neg (fun h => HT.out h.2)]
        rw [hx]
        exact ⟨h.later (HKW.out.drewN nq), (HKW.out.drewN nq).mono (fun _ h => h.elim)⟩
    · have hd : decide (x.n.commit < (k : Int)) = false := by simp; omega
      go_wp2_with fail
      go_quiet (fail)
      clear hd
      go_wp2
      go_end0
      refine ⟨rfl, ?_⟩
      have hx : sure x.n = x.n := by
        unfold sure
        rw [HSU.out]
        cases k with
        | zero => rfl
        | succ k => rw [sureAt, if_neg (fun h => by have := h.1; omega)]
      rw [hx]
      exact ⟨h.later (HKW.out.drewN nq), (HKW.out.drewN nq).mono (fun _ h => h.elim)⟩
end Go.Proofs.Ytibjbpakbfodaaa
