/- The document's answer, chapter 15: Wrong, walked. -/
import Derived.Test.YtibjbpakbfodaaaXRefS
import Derived.Test.YtibjbpakbfodaaaXExpc
import Derived.BigQuiet
namespace Go.Proofs.Ytibjbpakbfodaaa
open Go.RowKit

/-- The vote ahead of place j. -/
def prevAt (l : List Int) (j : Nat) : Int := if j = 0 then 0 else l.getD (j - 1) 0

set_option maxRecDepth 100000 in
set_option maxHeartbeats 16000000 in
theorem wrongR_any {w : World} {x : NodV} (h : NodeOk w Free x) (hl1 : x.n.log.length ≤ 2000000) (hl2 : x.n.votes.length ≤ 2000000) (hl3 : x.n.next.length ≤ 2000000) (hl4 : x.n.mtch.length ≤ 2000000) :
    Calls Try.prog 19 #[.agg (nodCells x).toArray] w fun e w' => e = .returned (.int .i64 (wrong x.n)) ∧ Keeps Free w w' := by
  have H := Lib.hid h
  obtain ⟨n, lv, vv, nv, mv⟩ := x
  simp only at hl1 hl2 hl3 hl4
  have HW := Lib.hid (wrongR_eq n)
  obtain ⟨LA, LC, VA, VC, NA, NC, MA, MC, rfl, rfl, rfl, rfl⟩ := h.shape
  clear h
  simp only [nodCells]
  go_enter Try.func19, Try.ntmps19
  go_upto_region 1 with fail
  have hb0 := heap_alloc_new w (.cells #[.int .i64 n.id, .int .i64 n.n, .int .i64 n.term, .int .i64 n.vote, .slice LA n.log.length LC, .int .i64 n.commit, .int .i64 n.role, .int .i64 n.boss, .slice VA n.votes.length VC, .slice NA n.next.length NC, .slice MA n.mtch.length MC] 25)
  have hk0 := (Keeps.refl Free w).alloc (.cells #[.int .i64 n.id, .int .i64 n.n, .int .i64 n.term, .int .i64 n.vote, .slice LA n.log.length LC, .int .i64 n.commit, .int .i64 n.role, .int .i64 n.boss, .slice VA n.votes.length VC, .slice NA n.next.length NC, .slice MA n.mtch.length MC] 25)
  obtain ⟨w2, hw2⟩ : ∃ w2, w.alloc (.cells #[.int .i64 n.id, .int .i64 n.n, .int .i64 n.term, .int .i64 n.vote, .slice LA n.log.length LC, .int .i64 n.commit, .int .i64 n.role, .int .i64 n.boss, .slice VA n.votes.length VC, .slice NA n.next.length NC, .slice MA n.mtch.length MC] 25) = w2 := ⟨_, rfl⟩
  rw [hw2] at hb0 hk0 ⊢
  obtain ⟨B, hB⟩ : ∃ B, w.heap.size = B := ⟨_, rfl⟩
  rw [hB] at hb0 ⊢
  have hblt := laid_lt hb0
  have HK := Lib.hid hk0; have HB := Lib.hid hb0
  obtain ⟨b0, b1, b2, b3, b4, b5, b6, b7, b8, b9, b10, bf⟩ := cells11 hb0
  clear hb0 hk0 hw2
  go_cut [48] (fun s wx => s = .bool (s1 n) ∧ wx = w2)
  case first =>
    cases p0 : withinB n.n 1 5
    case false =>
      as_aux_lemma =>
        go_wp2_with (go_at_call 55; refine (within_any _ _ _).mono ?_; rintro e w' ⟨rfl, rfl⟩)
        go_meet
        exact ⟨by unfold s1; rw [p0]; rfl, rfl⟩
    cases p1 : withinB n.id 1 n.n
    case false =>
      as_aux_lemma =>
        go_wp2_with (go_at_call 55; refine (within_any _ _ _).mono ?_; rintro e w' ⟨rfl, rfl⟩)
        go_meet
        exact ⟨by unfold s1; rw [p0, p1]; rfl, rfl⟩
    cases p2 : withinB n.vote 0 n.n
    case false =>
      as_aux_lemma =>
        go_wp2_with (go_at_call 55; refine (within_any _ _ _).mono ?_; rintro e w' ⟨rfl, rfl⟩)
        go_meet
        exact ⟨by unfold s1; rw [p0, p1, p2]; rfl, rfl⟩
    cases p3 : withinB n.boss 0 n.n
    case false =>
      as_aux_lemma =>
        go_wp2_with (go_at_call 55; refine (within_any _ _ _).mono ?_; rintro e w' ⟨rfl, rfl⟩)
        go_meet
        exact ⟨by unfold s1; rw [p0, p1, p2, p3]; rfl, rfl⟩
    cases p4 : withinB n.term 0 1000000
    case false =>
      as_aux_lemma =>
        go_wp2_with (go_at_call 55; refine (within_any _ _ _).mono ?_; rintro e w' ⟨rfl, rfl⟩)
        go_meet
        exact ⟨by unfold s1; rw [p0, p1, p2, p3, p4]; rfl, rfl⟩
    cases p5 : withinB n.commit 0 n.log.length
    case false =>
      as_aux_lemma =>
        go_wp2_with (go_at_call 55; refine (within_any _ _ _).mono ?_; rintro e w' ⟨rfl, rfl⟩)
        go_meet
        exact ⟨by unfold s1; rw [p0, p1, p2, p3, p4, p5]; rfl, rfl⟩
    go_wp2_with (go_at_call 55; refine (within_any _ _ _).mono ?_; rintro e w' ⟨rfl, rfl⟩)
    go_meet
    exact ⟨by unfold s1; rw [p0, p1, p2, p3, p4, p5]; rfl, rfl⟩
  case rest =>
    obtain ⟨rfl, rfl⟩ := hcut
    cases q1 : s1 n
    case true =>
      as_aux_lemma =>
        have hr : wrong n = 3 := by rw [← HW.out]; unfold wrongR; rw [q1]; rfl
        go_wp2_with fail
        go_ret
        exact ⟨ret_int hr.symm, HK.out⟩
    have Q1 := Lib.hid q1
    clear q1
    go_upto_region 3 with fail
    go_cut [62] (fun s wx => s = .bool (s3 n) ∧ wx = wc)
    case first =>
      cases p0 : withinB n.role 1 3
      case false =>
        as_aux_lemma =>
          go_wp2_with (go_at_call 55; refine (within_any _ _ _).mono ?_; rintro e w' ⟨rfl, rfl⟩)
          go_meet
          exact ⟨by unfold s3; rw [p0]; rfl, rfl⟩
      cases p1 : (n.term == 0)
      case false =>
        as_aux_lemma =>
          go_wp2_with (go_at_call 55; refine (within_any _ _ _).mono ?_; rintro e w' ⟨rfl, rfl⟩)
          go_meet
          exact ⟨by unfold s3; rw [p0, p1]; rfl, rfl⟩
      cases p2 : decide (1 < n.role)
      case false =>
        as_aux_lemma =>
          go_wp2_with (go_at_call 55; refine (within_any _ _ _).mono ?_; rintro e w' ⟨rfl, rfl⟩)
          go_meet
          exact ⟨by unfold s3; rw [p0, p1, p2]; rfl, rfl⟩
      go_wp2_with (go_at_call 55; refine (within_any _ _ _).mono ?_; rintro e w' ⟨rfl, rfl⟩)
      go_meet
      exact ⟨by unfold s3; rw [p0, p1, p2]; rfl, rfl⟩
    case rest =>
      rename_i wo
      obtain ⟨rfl, rfl⟩ := hcut
      cases q3 : s3 n
      case true =>
        as_aux_lemma =>
          have hr : wrong n = 1 := by rw [← HW.out]; unfold wrongR; rw [Q1.out, q3]; rfl
          go_wp2_with fail
          go_ret
          exact ⟨ret_int hr.symm, HK.out⟩
      have Q3 := Lib.hid q3
      clear q3
      cases q4 : decide (60 < (n.log.length : Int))
      case true =>
        as_aux_lemma =>
          have hr : wrong n = 4 := by rw [← HW.out]; unfold wrongR; rw [Q1.out, Q3.out, q4]; rfl
          go_wp2_with fail
          go_ret
          exact ⟨ret_int hr.symm, HK.out⟩
      have Q4 := Lib.hid q4
      have hri := rises_any (H.out.log.keep HK.out (fun _ _ h => h)) hl1 n.term
      simp only at hri
      obtain ⟨rb, hrb⟩ : ∃ rb, risesB n.log n.term = rb := ⟨_, rfl⟩
      rw [hrb] at hri
      have HRI := Lib.hid hri; have HRB := Lib.hid hrb
      clear hri hrb
      cases rb
      case false =>
        as_aux_lemma =>
          have hr : wrong n = 2 := by rw [← HW.out]; unfold wrongR; rw [Q1.out, Q3.out, Q4.out, HRB.out]; rfl
          go_wp2_with (go_at_call 56; refine HRI.out.mono ?_; rintro e w3 ⟨rfl, hk3⟩)
          go_ret
          exact ⟨ret_int hr.symm, HK.out.trans hk3 (fun _ h => .inl h)⟩
      go_upto_region 9 with (go_at_call 56; refine HRI.out.mono ?_; rintro e w3 ⟨rfl, hk3⟩; (have HK3 := Lib.hid (HK.out.trans hk3 (fun _ h => .inl h))); (have HB3 := Lib.hid (hk3.blk HB.out)); clear hk3 HRI b0 b1 b2 b3 b4 b5 b6 b7 b8 b9 b10 bf)
      clear HK HB q4
      obtain ⟨b0, b1, b2, b3, b4, b5, b6, b7, b8, b9, b10, bf⟩ := cells11 HB3.out
      go_cut [81] (fun s wx => s = .bool (s6 n) ∧ wx = w3)
      case first =>
        cases p0 : (n.role != 2)
        case false =>
          as_aux_lemma =>
            go_wp2_with fail
            go_meet
            exact ⟨by unfold s6; rw [p0]; rfl, rfl⟩
        cases p1 : decide (0 < n.votes.length)
        case false =>
          as_aux_lemma =>
            go_wp2_with fail
            go_meet
            exact ⟨by unfold s6; rw [p0, show decide (0 < (n.votes.length : Int)) = _ from (decide_eq_decide.2 Int.natCast_pos).trans p1]; rfl, rfl⟩
        go_wp2_with fail
        go_meet
        exact ⟨by unfold s6; rw [p0, show decide (0 < (n.votes.length : Int)) = _ from (decide_eq_decide.2 Int.natCast_pos).trans p1]; rfl, rfl⟩
      case rest =>
        rename_i wp
        obtain ⟨rfl, rfl⟩ := hcut
        cases q6 : s6 n
        case true =>
          as_aux_lemma =>
            have hr : wrong n = 8 := by rw [← HW.out]; unfold wrongR; rw [Q1.out, Q3.out, Q4.out, HRB.out, q6]; rfl
            go_wp2_with fail
            go_ret
            first | exact ⟨ret_int hr.symm, HK3.out⟩ | exact ⟨rfl, HK3.out⟩
        have Q6 := Lib.hid q6
        clear q6
        have HVO := Lib.hid (H.out.votes.keep HK3.out (fun _ _ h => h))
        simp only at HVO
        go_wp2_with fail
        go_loop [85] (fun i => ∃ j : Nat, j ≤ n.votes.length ∧ i = .int .i64 j ∧ votesOk n.n 0 n.votes = votesOk n.n (prevAt n.votes j) (n.votes.drop j)) (fun i => n.votes.length - (intOf i).toNat)
        case atStart => exact ⟨0, by omega, rfl, rfl⟩
        case round =>
          obtain ⟨j, hj, rfl, hv⟩ := hrel
          by_cases hlt : j < n.votes.length
          · obtain ⟨vb, vo, rfl, -, hc⟩ := HVO.out.int hlt
            rw [votesOk_step hlt] at hv
            have hnx : prevAt n.votes (j + 1) = n.votes[j] := by unfold prevAt; rw [if_neg (by omega)]; simp [List.getD, List.getElem?_eq_getElem hlt]
            have HNX := Lib.hid hnx
            have HVV := Lib.hid hv
            have hp0 : j = 0 → prevAt n.votes j = 0 := fun h => by unfold prevAt; rw [if_pos h]
            have hpp : ∀ q, j = q + 1 → ∃ (hq : q < n.votes.length), prevAt n.votes j = n.votes[q] := fun q h => ⟨by omega, by unfold prevAt; rw [if_neg (by omega)]; subst h; simp [List.getD, List.getElem?_eq_getElem (show q < n.votes.length by omega)]⟩
            have HPP := Lib.hid hpp
            clear hnx hv hpp
            obtain ⟨v, hvv⟩ : ∃ v, n.votes[j] = v := ⟨_, rfl⟩
            rw [hvv] at hc
            have HVJ := Lib.hid hvv
            clear hvv
            cases pw : withinB v 1 n.n
            case false =>
              as_aux_lemma =>
                have hvn : votesOk n.n 0 n.votes = false := by rw [HVV.out, HVJ.out, pw]; rfl
                have hr : wrong n = 2 := by rw [← HW.out]; unfold wrongR; rw [Q1.out, Q3.out, Q4.out, HRB.out, Q6.out, hvn]; rfl
                clear hvn hp0
                go_wp2_with (go_at_call 55; refine (within_any _ _ _).mono ?_; rintro e w' ⟨rfl, rfl⟩)
                go_ret
                first | exact ⟨ret_int hr.symm, HK3.out⟩ | exact ⟨rfl, HK3.out⟩
            have hv1 : 1 ≤ v := by unfold withinB at pw; simp at pw; omega
            rcases Nat.eq_zero_or_pos j with h0 | h0
            · subst h0
              have hpz := hp0 rfl
              have HPZ := Lib.hid hpz
              clear hpz hp0
              simp only [Nat.add_zero] at hc
              as_aux_lemma =>
                go_wp2_with (go_at_call 55; refine (within_any _ _ _).mono ?_; rintro e w' ⟨rfl, rfl⟩)
                go_round
                case measure => simp [intOf]; omega
                case rel => exact ⟨1, by omega, rfl, by rw [HNX.out, HVV.out, HVJ.out, pw, HPZ.out, decide_eq_true (by omega : (0 : Int) < v)]; rfl⟩
            · obtain ⟨q, rfl⟩ : ∃ q, j = q + 1 := ⟨j - 1, by omega⟩
              obtain ⟨hq, hpq⟩ := HPP.out q rfl
              obtain ⟨vb', vo', e, -, hc'⟩ := HVO.out.int hq
              injection e with e
              injection e with e1 e2
              subst e1 e2
              rw [← hpq] at hc'
              clear hp0 hpq
              generalize prevAt n.votes (q + 1) = pv at *
              cases pl : decide (v ≤ pv)
              case true =>
                as_aux_lemma =>
                  have hvn : votesOk n.n 0 n.votes = false := by rw [HVV.out, HVJ.out, pw, decide_eq_false (by simp at pl; omega : ¬ pv < v)]; rfl
                  have hr : wrong n = 2 := by rw [← HW.out]; unfold wrongR; rw [Q1.out, Q3.out, Q4.out, HRB.out, Q6.out, hvn]; rfl
                  clear hvn
                  go_wp2_with (go_at_call 55; refine (within_any _ _ _).mono ?_; rintro e w' ⟨rfl, rfl⟩)
                  go_ret
                  first | exact ⟨ret_int hr.symm, HK3.out⟩ | exact ⟨rfl, HK3.out⟩
              as_aux_lemma =>
                go_wp2_with (go_at_call 55; refine (within_any _ _ _).mono ?_; rintro e w' ⟨rfl, rfl⟩)
                go_round
                case measure => simp [intOf]; omega
                case rel => exact ⟨q + 1 + 1, by omega, by go_num, by rw [HNX.out, HVV.out, HVJ.out, pw, decide_eq_true (by simp at pl; omega : pv < v)]; rfl⟩
          · obtain rfl : j = n.votes.length := by omega
            have hvy : votesOk n.n 0 n.votes = true := by rw [hv, List.drop_length]; rfl
            have HVY := Lib.hid hvy
            clear hvy hv HVO
            go_upto_region 17 with fail
            have hdk : decide ((n.votes.length : Int) < (n.votes.length : Int)) = false := by simp
            go_cut [143] (fun s wx => s = .bool (s8 n) ∧ Keeps Free w wx ∧ wx.heap[B]? = some (.cells #[.int .i64 n.id, .int .i64 n.n, .int .i64 n.term, .int .i64 n.vote, .slice LA n.log.length LC, .int .i64 n.commit, .int .i64 n.role, .int .i64 n.boss, .slice VA n.votes.length VC, .slice NA n.next.length NC, .slice MA n.mtch.length MC] 25 (0, 0)))
            case first =>
              have hws : IntKind.i64.wrap ((n.next.length : Int) + (n.mtch.length : Int)) = (n.next.length : Int) + (n.mtch.length : Int) := IntWalk.i64_in _ (by omega)
              cases p0 : (n.role == 3)
              case true =>
                have p0' : (n.role != 3) = false := by simp at p0 ⊢; exact p0
                cases p1 : ((n.next.length : Int) != n.n)
                case true =>
                  as_aux_lemma =>
                    go_wp2_with fail
                    go_meet
                    exact ⟨by unfold s8; rw [p0, p1]; rfl, HK3.out, HB3.out⟩
                cases p2 : ((n.mtch.length : Int) != n.n)
                case true =>
                  as_aux_lemma =>
                    go_wp2_with fail
                    go_meet
                    exact ⟨by unfold s8; rw [p0, p1, p2]; rfl, HK3.out, HB3.out⟩
                as_aux_lemma =>
                  go_wp2_with fail
                  go_meet
                  exact ⟨by unfold s8; rw [p0, p1, p2, p0']; rfl, HK3.out, HB3.out⟩
              case false =>
                have p0' : (n.role != 3) = true := by simp at p0 ⊢; exact p0
                cases p1 : decide (0 < (n.next.length : Int) + (n.mtch.length : Int))
                case true =>
                  as_aux_lemma =>
                    go_wp2_with fail
                    go_meet
                    exact ⟨by unfold s8; rw [p0, p0', p1]; rfl, HK3.out, HB3.out⟩
                as_aux_lemma =>
                  go_wp2_with fail
                  go_meet
                  exact ⟨by unfold s8; rw [p0, p0', p1]; rfl, HK3.out, HB3.out⟩
            case rest =>
              clear HK3 HB3 b0 b1 b2 b3 b4 b5 b6 b7 b8 b9 b10 bf
              obtain ⟨rfl, hk3, hb3⟩ := hcut
              have HK3 := Lib.hid hk3; have HB3 := Lib.hid hb3
              obtain ⟨b0, b1, b2, b3, b4, b5, b6, b7, b8, b9, b10, bf⟩ := cells11 hb3
              clear hk3 hb3
              cases q8 : s8 n
              case true =>
                as_aux_lemma =>
                  have hr : wrong n = 8 := by rw [← HW.out]; unfold wrongR; rw [Q1.out, Q3.out, Q4.out, HRB.out, Q6.out, HVY.out, q8]; rfl
                  go_wp2_with fail
                  go_ret
                  first | exact ⟨ret_int hr.symm, HK3.out⟩ | exact ⟨rfl, HK3.out⟩
              have hnm : n.mtch.length = n.next.length := by
                unfold s8 at q8
                cases p0 : (n.role == 3)
                · rw [p0] at q8
                  have : (n.role != 3) = true := by simp at p0 ⊢; exact p0
                  rw [this] at q8
                  simp at q8
                  omega
                · rw [p0] at q8
                  have : (n.role != 3) = false := by simp at p0 ⊢; exact p0
                  rw [this] at q8
                  simp at q8
                  omega
              have Q8 := Lib.hid q8; have HNM := Lib.hid hnm
              clear q8 hnm
              have hwl : IntKind.i64.wrap ((n.log.length : Int) + 1) = (n.log.length : Int) + 1 := IntWalk.i64_in _ (by omega)
              clear hdk
              go_wp2_with fail
              go_loopw [147] (fun i wr => ∃ j : Nat, j ≤ n.next.length ∧ i = .int .i64 j ∧ Keeps Free w wr ∧ wr.heap[B]? = some (.cells #[.int .i64 n.id, .int .i64 n.n, .int .i64 n.term, .int .i64 n.vote, .slice LA n.log.length LC, .int .i64 n.commit, .int .i64 n.role, .int .i64 n.boss, .slice VA n.votes.length VC, .slice NA n.next.length NC, .slice MA n.mtch.length MC] 25 (0, 0)) ∧ placesOk n.log.length n.next n.mtch = placesOk n.log.length (n.next.drop j) (n.mtch.drop j)) (fun i _ => n.next.length - (intOf i).toNat)
              case atStart => exact ⟨0, by omega, rfl, HK3.out, HB3.out, rfl⟩
              case round =>
                obtain ⟨j, hj, rfl, hkr, hbr, hv⟩ := hrel
                clear b0 b1 b2 b3 b4 b5 b6 b7 b8 b9 b10 bf HK3 HB3
                obtain ⟨b0, b1, b2, b3, b4, b5, b6, b7, b8, b9, b10, bf⟩ := cells11 hbr
                have HKR := Lib.hid hkr; have HBR := Lib.hid hbr
                by_cases hlt : j < n.next.length
                · have hlt2 : j < n.mtch.length := by rw [HNM.out]; exact hlt
                  have hsn := (H.out.next.keep hkr (fun _ _ h => h) : Sl wr Free _ 1 _)
                  have hsm := (H.out.mtch.keep hkr (fun _ _ h => h) : Sl wr Free _ 1 _)
                  simp only at hsn hsm
                  obtain ⟨nb, no, rfl, -, c1⟩ := hsn.int hlt
                  obtain ⟨mb, mo, rfl, -, c2⟩ := hsm.int hlt2
                  rw [placesOk_step hlt hlt2] at hv
                  have HV := Lib.hid hv
                  clear hv hkr hbr hsn hsm
                  obtain ⟨a, ha⟩ : ∃ a, n.next[j] = a := ⟨_, rfl⟩
                  obtain ⟨m, hm⟩ : ∃ m, n.mtch[j] = m := ⟨_, rfl⟩
                  rw [ha] at c1 HV
                  rw [hm] at c2 HV
                  clear ha hm
                  have hlt2' : (j : Int) < (n.mtch.length : Int) := by omega
                  cases pa : withinB a 1 ((n.log.length : Int) + 1)
                  case false =>
                    as_aux_lemma =>
                      have hpn : placesOk n.log.length n.next n.mtch = false := by rw [HV.out, pa]; rfl
                      have hr : wrong n = 3 := by rw [← HW.out]; unfold wrongR; rw [Q1.out, Q3.out, Q4.out, HRB.out, Q6.out, HVY.out, Q8.out, hpn]; rfl
                      clear hpn
                      go_upto_region 22 with fail
                      go_quiet ((go_at_call 55; exact Calls.quiet_of_same (within_any _ _ _)))
                      go_wp2_with fail
                      go_ret
                      first | exact ⟨ret_int hr.symm, HKR.out.drewN _⟩ | exact ⟨rfl, HKR.out.drewN _⟩
                  cases pb : withinB m 0 n.log.length
                  case false =>
                    as_aux_lemma =>
                      have hpn : placesOk n.log.length n.next n.mtch = false := by rw [HV.out, pa, pb]; rfl
                      have hr : wrong n = 3 := by rw [← HW.out]; unfold wrongR; rw [Q1.out, Q3.out, Q4.out, HRB.out, Q6.out, HVY.out, Q8.out, hpn]; rfl
                      clear hpn
                      go_upto_region 22 with fail
                      go_quiet ((go_at_call 55; exact Calls.quiet_of_same (within_any _ _ _)))
                      go_wp2_with fail
                      go_ret
                      first | exact ⟨ret_int hr.symm, HKR.out.drewN _⟩ | exact ⟨rfl, HKR.out.drewN _⟩
                  as_aux_lemma =>
                    go_upto_region 22 with fail
                    go_quiet ((go_at_call 55; exact Calls.quiet_of_same (within_any _ _ _)))
                    go_wp2_with fail
                    go_roundw
                    case measure => simp [intOf]; omega
                    case rel => exact ⟨j + 1, by omega, by go_num, HKR.out.drewN _, HBR.out, by rw [HV.out, pa, pb]; rfl⟩
                · obtain rfl : j = n.next.length := by omega
                  have hpy : placesOk n.log.length n.next n.mtch = true := by rw [hv, List.drop_length]; unfold placesOk; rfl
                  have hr : wrong n = 0 := by rw [← HW.out]; unfold wrongR; rw [Q1.out, Q3.out, Q4.out, HRB.out, Q6.out, HVY.out, Q8.out, hpy]; rfl
                  clear hpy hv hkr hbr
                  go_wp2_with fail
                  go_ret
                  first | exact ⟨ret_int hr.symm, HKR.out⟩ | exact ⟨rfl, HKR.out⟩
end Go.Proofs.Ytibjbpakbfodaaa
