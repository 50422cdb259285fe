/- Wrong: what is wrong with a node. -/
import Derived.Test.YtibjbpakbfodaaaRise
namespace Go.Proofs.Ytibjbpakbfodaaa
open Go.RowKit

set_option maxRecDepth 100000 in
set_option maxHeartbeats 2000000 in
theorem peer53 {w : World} {b : Nat} {n : Int} (h : w.cell? ⟨b, 1, none⟩ = some (.int .i64 n)) (k least : Int) :
    Calls Try.prog 53 #[.int .i64 k, .int .i64 least, .pointer (some ⟨b, 0, none⟩)] w fun e w' => e = .returned (.bool (peerB n k least)) ∧ w' = w := by
  go_enter Try.func53, Try.ntmps53
  by_cases h1 : least ≤ k
  · by_cases h2 : k ≤ n
    · go_wp2
      go_ret
      unfold peerB; simp [h1, h2]
    · go_wp2
      go_ret
      unfold peerB; simp [h1, h2]
  · go_wp2
    go_ret
    refine ⟨ret_bool ?_, rfl⟩
    unfold peerB; rw [decide_eq_false (by omega)]; rfl

/-- What stands at place j of a slice that reads as ints. -/
theorem Sl.int {w : World} {S : Nat → Prop} {A : Option Addr} {n c : Nat} {l : List Int} (h : Sl w S (.slice A n c) 1 (intCells l)) {j : Nat} (hj : j < l.length) : ∃ b off, A = some ⟨b, off, none⟩ ∧ ¬ S b ∧ w.cell? ⟨b, off + j, none⟩ = some (.int .i64 l[j]) := by
  obtain ⟨A', n', c', e, hl, _, _, hc⟩ := h
  injection e with e1 e2 e3
  subst e1
  obtain ⟨b, off, rfl, hb, hcell⟩ := hc (by rw [intCells_length]; omega)
  exact ⟨b, off, rfl, hb, hcell j _ (by simp [intCells, List.getElem?_eq_getElem hj])⟩

def t1 (x : Nod) : Bool := decide (x.n < 1) || decide (5 < x.n) || !peerB x.n x.id 1 || !peerB x.n x.vote 0 || !peerB x.n x.boss 0
def t2 (x : Nod) : Bool := decide (x.term < 0) || decide (1000000 < x.term) || decide (x.commit < 0) || decide ((x.log.length : Int) < x.commit)
def t3 (x : Nod) : Bool := decide (x.role < 1) || decide (3 < x.role) || (decide (x.role ≠ 1) && decide (x.term = 0))
def t4 (x : Nod) : Bool := decide (60 < (x.log.length : Int))
def t5 (x : Nod) : Bool := !rising x.log x.term || (decide (0 < (x.log.length : Int)) && decide (x.term = 0))
def t6 (x : Nod) : Bool := decide (0 < (x.votes.length : Int)) && decide (x.role ≠ 2)
def t8 (x : Nod) : Bool := decide ((x.next.length : Int) ≠ if x.role = 3 then x.n else 0) || decide ((x.mtch.length : Int) ≠ if x.role = 3 then x.n else 0)

theorem wrong_tests (x : Nod) : wrong x = if t1 x then 3 else if t2 x then 3 else if t3 x then 1 else if t4 x then 4 else if t5 x then 2 else if t6 x then 8 else if !votesOk x.n 0 x.votes then 2 else if t8 x then 8 else if !placesOk x.log.length x.next x.mtch then 3 else 0 := by
  unfold wrong
  simp only [t1, t2, t3, t4, t5, t6, t8, Bool.or_eq_true, Bool.and_eq_true, decide_eq_true_eq, Bool.not_eq_true', or_assoc, Int.natCast_pos]
  have : (60 < x.log.length) ↔ (60 < (x.log.length : Int)) := by omega
  simp only [this]

set_option maxRecDepth 100000 in
set_option maxHeartbeats 12000000 in
theorem wrong_any {w : World} {S : Nat → Prop} {x : NodV} (h : NodeOk w S x) :
    Calls Try.prog 18 #[.agg (nodCells x).toArray] w fun e w' => e = .returned (.int .i64 (wrong x.n)) ∧ Keeps (fun _ => False) w w' := by
  obtain ⟨LA, ll, LC, hlv, hll, hl1, hl2, hlc⟩ := h.log
  obtain ⟨VA, vl, VC, hvv, hvl, hv1, hv2, hvc⟩ := h.votes
  obtain ⟨NA, nl, NC, hnv, hnl, hn1, hn2, hnc⟩ := h.next
  obtain ⟨MA, ml, MC, hmv, hml, hm1, hm2, hmc⟩ := h.mtch
  have H := Lib.hid h
  obtain ⟨n, lv, vv, nv, mv⟩ := x
  simp only at *
  subst hlv hvv hnv hmv
  simp only [nodCells]
  have e1 : ll = n.log.length := by rw [itemCells_length] at hll; omega
  have e2 : vl = n.votes.length := by rw [intCells_length] at hvl; omega
  have e3 : nl = n.next.length := by rw [intCells_length] at hnl; omega
  have e4 : ml = n.mtch.length := by rw [intCells_length] at hml; omega
  subst e1 e2 e3 e4
  clear hlc hvc hnc hmc hll hvl hnl hml
  go_enter Try.func18, Try.ntmps18
  have HB := Lib.hid (heap_alloc_new w (.cells #[.int .i64 n.id, .int .i64 n.n, .int .i64 n.term, .int .i64 n.vote, .slice LA n.log.length LC, .int .i64 n.commit, .int .i64 n.role, .int .i64 n.boss, .slice VA n.votes.length VC, .slice NA n.next.length NC, .slice MA n.mtch.length MC] 25))
  have HK := Lib.hid ((Keeps.refl (fun _ => False) w).alloc (.cells #[.int .i64 n.id, .int .i64 n.n, .int .i64 n.term, .int .i64 n.vote, .slice LA n.log.length LC, .int .i64 n.commit, .int .i64 n.role, .int .i64 n.boss, .slice VA n.votes.length VC, .slice NA n.next.length NC, .slice MA n.mtch.length MC] 25))
  go_upto_region 2 with fail
  generalize hwb : w.alloc (.cells #[.int .i64 n.id, .int .i64 n.n, .int .i64 n.term, .int .i64 n.vote, .slice LA n.log.length LC, .int .i64 n.commit, .int .i64 n.role, .int .i64 n.boss, .slice VA n.votes.length VC, .slice NA n.next.length NC, .slice MA n.mtch.length MC] 25) = wb at *
  generalize w.heap.size = B at *
  obtain ⟨b0, b1, b2, b3, b4, b5, b6, b7, b8, b9, b10, bf⟩ := cells11 HB.out
  have P := Lib.hid (fun k least : Int => peer53 b1 k least)
  have F := Lib.hid bf
  clear hwb bf h
  go_cut [9] (fun s wx => s = .bool (t1 n) ∧ wx = wb)
  case first =>
    as_aux_lemma =>
      clear b2 b4 b5 b6 b8 b9 b10
      by_cases h1 : n.n < 1
      · go_wp2_with fail
        go_meet
        unfold t1; simp [h1]
      · by_cases h2 : 5 < n.n
        · go_wp2_with fail
          go_meet
          unfold t1; simp [h2]
        · cases p1 : peerB n.n n.id 1
          · go_wp2_with (go_at_call 53; refine (P.out _ _).mono ?_; rintro e wy ⟨rfl, rfl⟩)
            go_meet
            unfold t1; simp [p1]
          · cases p2 : peerB n.n n.vote 0
            · go_wp2_with (go_at_call 53; refine (P.out _ _).mono ?_; rintro e wy ⟨rfl, rfl⟩)
              go_meet
              unfold t1; simp [p2]
            · cases p3 : peerB n.n n.boss 0
              all_goals
                go_wp2_with (go_at_call 53; refine (P.out _ _).mono ?_; rintro e wy ⟨rfl, rfl⟩)
                go_meet
                unfold t1; simp [h1, h2, p1, p2, p3]
  case rest =>
    obtain ⟨rfl, hw⟩ := hcut
    subst hw
    clear b0 b1 b3 b7
    cases hT1 : t1 n
    case true =>
      as_aux_lemma =>
        have hr : wrong n = 3 := by rw [wrong_tests, hT1]; rfl
        go_wp2_with fail
        go_ret
        exact ⟨ret_int hr.symm, HK.out⟩
    have HT1 := Lib.hid hT1
    go_upto_region 4 with fail
    clear hT1
    go_cut [39] (fun s wx => s = .bool (t2 n) ∧ wx = wc)
    case first =>
      as_aux_lemma =>
        clear b6 b8 b9 b10
        go_wp2_with fail
        all_goals
          go_meet
          unfold t2
          first | (simp; done) | (simp; omega)
    case rest =>
      obtain ⟨rfl, hw⟩ := hcut
      subst hw
      clear b5
      cases hT2 : t2 n
      case true =>
        as_aux_lemma =>
          have hr : wrong n = 3 := by rw [wrong_tests, HT1.out, hT2]; rfl
          go_wp2_with fail
          go_ret
          exact ⟨ret_int hr.symm, HK.out⟩
      have HT2 := Lib.hid hT2
      go_upto_region 6 with fail
      clear hT2
      go_cut [61] (fun s wx => s = .bool (t3 n) ∧ wx = wc)
      case first =>
        as_aux_lemma =>
          clear b4 b8 b9 b10
          cases hb : (n.role != 1)
          all_goals
            go_wp2_with fail
            all_goals
              go_meet
              unfold t3
              have hb2 : decide (n.role ≠ 1) = (n.role != 1) := by by_cases h : n.role = 1 <;> simp [h]
              rw [hb2, hb]
              first | (simp; done) | (by_cases ht : n.term = 0 <;> simp [ht] <;> omega)
      case rest =>
        obtain ⟨rfl, hw⟩ := hcut
        subst hw
        cases hT3 : t3 n
        case true =>
          as_aux_lemma =>
            have hr : wrong n = 1 := by rw [wrong_tests, HT1.out, HT2.out, hT3]; rfl
            go_wp2_with fail
            go_ret
            exact ⟨ret_int hr.symm, HK.out⟩
        have HT3 := Lib.hid hT3
        go_upto_region 8 with fail
        clear hT3
        go_cut [80] (fun s wx => s = .bool (t4 n) ∧ wx = wc)
        case first =>
          as_aux_lemma =>
            clear b2 b6 b8 b9 b10
            go_wp2_with fail
            all_goals
              go_meet
              unfold t4
              first | (simp; done) | (simp; omega)
        case rest =>
          obtain ⟨rfl, hw⟩ := hcut
          subst hw
          cases hT4 : t4 n
          case true =>
            as_aux_lemma =>
              have hr : wrong n = 4 := by rw [wrong_tests, HT1.out, HT2.out, HT3.out, hT4]; rfl
              go_wp2_with fail
              go_ret
              exact ⟨ret_int hr.symm, HK.out⟩
          have HT4 := Lib.hid hT4
          have h60 : n.log.length ≤ 60 := by have := HT4.out; unfold t4 at this; simp at this; omega
          have hrs := rising_any (H.out.log.keep HK.out (fun _ _ h => h.elim)) (by simp only; omega) n.term
          have HRS := Lib.hid hrs
          go_upto_region 10 with fail
          clear hT4 hrs
          go_cut [85] (fun s wx => s = .bool (t5 n) ∧ Keeps (fun _ => False) wc wx)
          case first =>
            as_aux_lemma =>
              clear b6 b8 b9 b10
              cases hri : rising n.log n.term
              · go_wp2_with (go_at_call 54; refine HRS.out.mono ?_; rintro e wy ⟨rfl, hky⟩)
                all_goals
                  go_meet
                  unfold t5
                  rw [hri]
                  first | exact ⟨rfl, hky⟩ | simp [hky]
              · by_cases h0 : 0 < (n.log.length : Int)
                · go_wp2_with (go_at_call 54; refine HRS.out.mono ?_; rintro e wy ⟨rfl, hky⟩; have b2 := hky.cell (fun h => h) b2; have b4 := hky.cell (fun h => h) b4)
                  all_goals
                    go_meet
                    unfold t5
                    rw [hri, decide_eq_true (by omega : 0 < (n.log.length : Int))]
                    refine ⟨?_, hky⟩
                    first | rfl | (simp; done) | (simp; omega)
                · go_wp2_with (go_at_call 54; refine HRS.out.mono ?_; rintro e wy ⟨rfl, hky⟩; have b2 := hky.cell (fun h => h) b2; have b4 := hky.cell (fun h => h) b4)
                  all_goals
                    go_meet
                    unfold t5
                    rw [hri, decide_eq_false (by omega : ¬ 0 < (n.log.length : Int))]
                    refine ⟨?_, hky⟩
                    first | rfl | (simp; done) | (simp; omega)
          case rest =>
            obtain ⟨rfl, hky⟩ := hcut
            have hk5 := HK.out.trans hky (fun _ h => .inl h)
            have hb5 := hky.blk HB.out
            have HK5 := Lib.hid hk5; have HB5 := Lib.hid hb5
            clear HK HB P F HRS b2 b4 b6 b8 b9 b10 hky hk5
            obtain ⟨b0, b1, b2, b3, b4, b5, b6, b7, b8, b9, b10, bf⟩ := cells11 hb5
            have P := Lib.hid (fun k least : Int => peer53 b1 k least)
            have HK := HK5
            clear hb5 bf b0 b2 b3 b5 b7
            cases hT5 : t5 n
            case true =>
              as_aux_lemma =>
                have hr : wrong n = 2 := by rw [wrong_tests, HT1.out, HT2.out, HT3.out, HT4.out, hT5]; rfl
                go_wp2_with fail
                go_ret
                exact ⟨ret_int hr.symm, HK.out⟩
            have HT5 := Lib.hid hT5
            go_upto_region 12 with fail
            clear hT5
            go_cut [111] (fun s wx => s = .bool (t6 n) ∧ wx = wc)
            case first =>
              as_aux_lemma =>
                clear b4 b9 b10
                have hb2 : decide (n.role ≠ 2) = (n.role != 2) := by by_cases h : n.role = 2 <;> simp [h]
                by_cases h0 : 0 < (n.votes.length : Int)
                · go_wp2_with fail
                  go_meet
                  unfold t6
                  rw [decide_eq_true (by omega : 0 < (n.votes.length : Int)), hb2]
                  exact ⟨rfl, rfl⟩
                · go_wp2_with fail
                  go_meet
                  unfold t6
                  rw [decide_eq_false (by omega : ¬ 0 < (n.votes.length : Int))]
                  exact ⟨rfl, rfl⟩
            case rest =>
              obtain ⟨rfl, hw⟩ := hcut
              subst hw
              cases hT6 : t6 n
              case true =>
                as_aux_lemma =>
                  have hr : wrong n = 8 := by rw [wrong_tests, HT1.out, HT2.out, HT3.out, HT4.out, HT5.out, hT6]; rfl
                  go_wp2_with fail
                  go_ret
                  exact ⟨ret_int hr.symm, HK.out⟩
              have HT6 := Lib.hid hT6
              go_upto_region 14 with fail
              clear hT6 b4 b6
              have hsv := (H.out.votes.keep HK.out (fun _ _ h => h.elim))
              simp only at hsv
              have HSV := Lib.hid hsv
              clear hsv
              go_wp2_with fail
              go_loopw [115] (fun i wr => ∃ (j : Nat) (prev : Int), j ≤ n.votes.length ∧ i = .int .i64 j ∧ votesOk n.n 0 n.votes = votesOk n.n prev (n.votes.drop j) ∧ ((j = 0 ∧ prev = 0) ∨ ∃ k, j = k + 1 ∧ n.votes[k]? = some prev) ∧ wr = wc) (fun i _ => match i with | .int _ j => n.votes.length - j.toNat | _ => 0)
              case atStart => exact ⟨0, 0, by omega, rfl, rfl, .inl ⟨rfl, rfl⟩, rfl⟩
              case round =>
                obtain ⟨j, prev, hj, rfl, hr, hjp, hw⟩ := hrel
                subst hw
                have HR := Lib.hid hr
                clear hr
                by_cases hlt : j < n.votes.length
                · obtain ⟨b, off, hva, hbS, i1⟩ := HSV.out.int hlt
                  subst hva
                  have hbl := cell_lt i1
                  have hdr : n.votes.drop j = n.votes[j] :: n.votes.drop (j + 1) := List.drop_eq_getElem_cons hlt
                  have hgj : n.votes[j]? = some n.votes[j] := List.getElem?_eq_getElem hlt
                  have HDR := Lib.hid hdr; have HGJ := Lib.hid hgj
                  clear hdr hgj
                  generalize n.votes[j] = v at *
                  have hmx : maxLen ≤ 9223372036854775807 := by simp [maxLen]
                  cases hp : peerB n.n v 1
                  case false =>
                    as_aux_lemma =>
                      have hv : votesOk n.n 0 n.votes = false := by rw [HR.out, HDR.out, votesOk, hp]; rfl
                      have hres : wrong n = 2 := by rw [wrong_tests, HT1.out, HT2.out, HT3.out, HT4.out, HT5.out, HT6.out, hv]; rfl
                      have HV := Lib.hid hres
                      clear hres hv
                      go_wp2_with (go_at_call 53; refine (P.out _ _).mono ?_; rintro e wy ⟨rfl, rfl⟩)
                      go_ret
                      exact ⟨ret_int HV.out.symm, HK.out⟩
                  have hpv : 1 ≤ v := by unfold peerB at hp; simp at hp; omega
                  rcases hjp with ⟨rfl, rfl⟩ | ⟨k, rfl, hk⟩
                  case inl =>
                    as_aux_lemma =>
                      rw [Nat.add_zero] at i1
                      go_wp2_with (go_at_call 53; refine (P.out _ _).mono ?_; rintro e wy ⟨rfl, rfl⟩)
                      go_roundw
                      case measure => simp only; omega
                      case rel => exact ⟨1, v, by omega, by go_num, by rw [HR.out, HDR.out, votesOk, hp, decide_eq_true (by omega : (0 : Int) < v)]; rfl, .inr ⟨0, rfl, HGJ.out⟩, trivial⟩
                  have hkl : k < n.votes.length := by omega
                  have i2 : wr.cell? ⟨b, off + k, none⟩ = some (.int .i64 prev) := by
                    obtain ⟨b', off', e, _, i2⟩ := HSV.out.int hkl
                    injection e with e; injection e with e1 e2
                    subst e1 e2
                    rw [List.getElem?_eq_getElem hkl] at hk
                    injection hk with hk
                    rw [hk] at i2; exact i2
                  have hw1 : IntKind.i64.wrap ((k : Int) + 1 - 1) = (k : Int) := by rw [show (k : Int) + 1 - 1 = (k : Int) from by omega]; exact IntWalk.i64_in _ (by omega)
                  by_cases hle : prev < v
                  · as_aux_lemma =>
                      go_wp2_with (go_at_call 53; refine (P.out _ _).mono ?_; rintro e wy ⟨rfl, rfl⟩)
                      go_roundw
                      case measure => simp only; omega
                      case rel => exact ⟨k + 2, v, by omega, by go_num, by rw [HR.out, HDR.out, votesOk, hp, decide_eq_true hle]; rfl, .inr ⟨k + 1, rfl, HGJ.out⟩, trivial⟩
                  · as_aux_lemma =>
                      have hv : votesOk n.n 0 n.votes = false := by rw [HR.out, HDR.out, votesOk, hp, decide_eq_false (by omega)]; rfl
                      have hres : wrong n = 2 := by rw [wrong_tests, HT1.out, HT2.out, HT3.out, HT4.out, HT5.out, HT6.out, hv]; rfl
                      have HV := Lib.hid hres
                      clear hres hv
                      go_wp2_with (go_at_call 53; refine (P.out _ _).mono ?_; rintro e wy ⟨rfl, rfl⟩)
                      go_ret
                      exact ⟨ret_int HV.out.symm, HK.out⟩
                · have hj' : j = n.votes.length := by omega
                  subst hj'
                  have hv : votesOk n.n 0 n.votes = true := by rw [HR.out, List.drop_length]; rfl
                  have HV := Lib.hid hv
                  clear hv hjp P HSV HK5
                  obtain ⟨b0, b1, b2, b3, b4, b5, b6, b7, b8, b9, b10, bf⟩ := cells11 HB5.out
                  clear bf b0 b1 b2 b3 b5 b7 b8
                  go_upto_if 141 with fail
                  obtain ⟨q, hq⟩ : ∃ q : Int, q = if n.role = 3 then n.n else 0 := ⟨_, rfl⟩
                  have hs8 : t8 n = (decide ((n.next.length : Int) ≠ q) || decide ((n.mtch.length : Int) ≠ q)) := by rw [hq]; rfl
                  have HQ := Lib.hid hq; have HS8 := Lib.hid hs8
                  clear hq hs8
                  go_cut [6] (fun s wx => s = .int .i64 q ∧ wx = wr)
                  case first =>
                    as_aux_lemma =>
                      by_cases h3 : n.role = 3
                      · have hb : (n.role == 3) = true := by rw [h3]; rfl
                        have hq : q = n.n := by rw [HQ.out, if_pos h3]
                        have HH := Lib.hid hq
                        clear h3 hq
                        go_wp2
                        go_meet
                        rw [HH.out]
                        exact ⟨rfl, rfl⟩
                      · have hb : (n.role == 3) = false := by rw [beq_eq_false_iff_ne]; exact h3
                        have hq : q = 0 := by rw [HQ.out, if_neg h3]
                        have HH := Lib.hid hq
                        clear h3 hq
                        go_wp2
                        go_meet
                        rw [HH.out]
                        exact ⟨rfl, rfl⟩
                  case rest =>
                    obtain ⟨rfl, hw⟩ := hcut
                    subst hw
                    go_upto_region 23 with fail
                    go_cut [155] (fun s wx => s = .bool (t8 n) ∧ wx = wc)
                    case first =>
                      as_aux_lemma =>
                        cases hb1 : ((n.next.length : Int) != q)
                        · go_wp2
                          go_meet
                          rw [HS8.out]
                          have : decide ((n.next.length : Int) ≠ q) = false := by simpa using hb1
                          have hb2 : decide ((n.mtch.length : Int) ≠ q) = ((n.mtch.length : Int) != q) := by by_cases h : (n.mtch.length : Int) = q <;> simp [h]
                          rw [this, hb2]
                          exact ⟨rfl, rfl⟩
                        · go_wp2
                          go_meet
                          rw [HS8.out]
                          have : decide ((n.next.length : Int) ≠ q) = true := by simpa using hb1
                          rw [this]
                          exact ⟨rfl, rfl⟩
                    case rest =>
                      obtain ⟨rfl, hw⟩ := hcut
                      subst hw
                      cases hT8 : t8 n
                      case true =>
                        as_aux_lemma =>
                          have hr : wrong n = 8 := by rw [wrong_tests, HT1.out, HT2.out, HT3.out, HT4.out, HT5.out, HT6.out, HV.out, hT8]; rfl
                          go_wp2_with fail
                          go_ret
                          exact ⟨ret_int hr.symm, HK.out⟩
                      have hlen : n.mtch.length = n.next.length := by
                        have := HS8.out
                        rw [hT8] at this
                        have := this.symm
                        simp only [Bool.or_eq_false_iff, decide_eq_false_iff_not, Decidable.not_not] at this
                        omega
                      have HT8 := Lib.hid hT8
                      go_upto_region 25 with fail
                      clear hT8 b6
                      have HSN := Lib.hid (H.out.next.keep HK.out (fun _ _ h => h.elim)); have HSM := Lib.hid (H.out.mtch.keep HK.out (fun _ _ h => h.elim))
                      have hb4 := b4; have hb9 := b9; have hb10 := b10
                      have HB4 := Lib.hid b4; have HB9 := Lib.hid b9; have HB10 := Lib.hid b10
                      clear hb4 hb9 hb10
                      go_wp2_with fail
                      clear b4 b9 b10
                      go_loopw [159] (fun i wr => ∃ j : Nat, j ≤ n.next.length ∧ i = .int .i64 j ∧ placesOk n.log.length n.next n.mtch = placesOk n.log.length (n.next.drop j) (n.mtch.drop j) ∧ Keeps (fun _ => False) wc wr) (fun i _ => match i with | .int _ j => n.next.length - j.toNat | _ => 0)
                      case atStart => exact ⟨0, by omega, rfl, rfl, Keeps.refl _ _⟩
                      case round =>
                        obtain ⟨j, hj, rfl, hr, hk⟩ := hrel
                        have b4 := hk.cell (fun h => h) HB4.out
                        have b9 := hk.cell (fun h => h) HB9.out
                        have b10 := hk.cell (fun h => h) HB10.out
                        have HR := Lib.hid hr; have HKR := Lib.hid (HK.out.trans hk (fun _ h => .inl h)); have HKJ := Lib.hid hk
                        by_cases hlt : j < n.next.length
                        · obtain ⟨nb, noff, hna, hnS, i1⟩ := (HSN.out.keep hk (fun _ _ h => h.elim)).int hlt
                          obtain ⟨mb, moff, hma, hmS, i2⟩ := (HSM.out.keep hk (fun _ _ h => h.elim)).int (show j < n.mtch.length by omega)
                          subst hna hma
                          have hbl := cell_lt i1
                          have hbl2 := cell_lt i2
                          have hdn : n.next.drop j = n.next[j] :: n.next.drop (j + 1) := List.drop_eq_getElem_cons hlt
                          have hdm : n.mtch.drop j = n.mtch[j]'(by omega) :: n.mtch.drop (j + 1) := List.drop_eq_getElem_cons (by omega)
                          have HDN := Lib.hid hdn; have HDM := Lib.hid hdm
                          clear hdn hdm hk hr
                          generalize n.next[j] = a at *
                          generalize n.mtch[j]'(by omega) = m at *
                          have hmx : maxLen ≤ 9223372036854775807 := by simp [maxLen]
                          have hml : (j : Int) < (n.mtch.length : Int) := by omega
                          have hw : IntKind.i64.wrap ((n.log.length : Int) + 1) = (n.log.length : Int) + 1 := IntWalk.i64_in _ (by omega)
                          have bad : ∀ e : placesOk n.log.length n.next n.mtch = false, wrong n = 3 := fun e => by rw [wrong_tests, HT1.out, HT2.out, HT3.out, HT4.out, HT5.out, HT6.out, HV.out, HT8.out, e]; rfl
                          have BAD := Lib.hid bad
                          go_upto_region 28 with fail
                          clear bad
                          cases d1 : decide (a < 1)
                          case true =>
                            as_aux_lemma =>
                              have hp : placesOk n.log.length n.next n.mtch = false := by rw [HR.out, HDN.out, HDM.out, placesOk, decide_eq_false (by simp at d1; omega : ¬ 1 ≤ a)]; rfl
                              have HP := Lib.hid hp
                              clear hp
                              go_quiet (fail)
                              clear d1 hw
                              go_wp2_with fail
                              go_ret
                              exact ⟨ret_int (BAD.out HP.out).symm, HKR.out.drewN _⟩
                          cases d2 : decide ((n.log.length : Int) + 1 < a)
                          case true =>
                            as_aux_lemma =>
                              have hp : placesOk n.log.length n.next n.mtch = false := by rw [HR.out, HDN.out, HDM.out, placesOk, decide_eq_false (by simp at d2; omega : ¬ a ≤ (n.log.length : Int) + 1)]; simp
                              have HP := Lib.hid hp
                              clear hp
                              go_quiet (fail)
                              clear d1 d2 hw
                              go_wp2_with fail
                              go_ret
                              exact ⟨ret_int (BAD.out HP.out).symm, HKR.out.drewN _⟩
                          cases d3 : decide (m < 0)
                          case true =>
                            as_aux_lemma =>
                              have hp : placesOk n.log.length n.next n.mtch = false := by rw [HR.out, HDN.out, HDM.out, placesOk, decide_eq_false (by simp at d3; omega : ¬ 0 ≤ m)]; simp
                              have HP := Lib.hid hp
                              clear hp
                              go_quiet (fail)
                              clear d1 d2 d3 hw
                              go_wp2_with fail
                              go_ret
                              exact ⟨ret_int (BAD.out HP.out).symm, HKR.out.drewN _⟩
                          cases d4 : decide ((n.log.length : Int) < m)
                          case true =>
                            as_aux_lemma =>
                              have hp : placesOk n.log.length n.next n.mtch = false := by rw [HR.out, HDN.out, HDM.out, placesOk, decide_eq_false (by simp at d4; omega : ¬ m ≤ (n.log.length : Int))]; simp
                              have HP := Lib.hid hp
                              clear hp
                              go_quiet (fail)
                              clear d1 d2 d3 d4 hw
                              go_wp2_with fail
                              go_ret
                              exact ⟨ret_int (BAD.out HP.out).symm, HKR.out.drewN _⟩
                          have hp : placesOk n.log.length n.next n.mtch = placesOk n.log.length (n.next.drop (j + 1)) (n.mtch.drop (j + 1)) := by
                            simp only [decide_eq_false_iff_not] at d1 d2 d3 d4
                            rw [HR.out, HDN.out, HDM.out, placesOk, decide_eq_true (by omega : 1 ≤ a), decide_eq_true (by omega : a ≤ (n.log.length : Int) + 1), decide_eq_true (by omega : 0 ≤ m), decide_eq_true (by omega : m ≤ (n.log.length : Int))]
                            rfl
                          have HP := Lib.hid hp
                          clear hp
                          go_quiet (fail)
                          clear d1 d2 d3 d4 hw
                          go_wp2_with fail
                          go_roundw
                          case measure => simp only; omega
                          case rel => exact ⟨j + 1, by omega, by go_num, HP.out, HKJ.out.drewN _⟩
                        · have hj' : j = n.next.length := by omega
                          subst hj'
                          have hp : placesOk n.log.length n.next n.mtch = true := by rw [HR.out, List.drop_length]; simp [placesOk]
                          have hr0 : wrong n = 0 := by rw [wrong_tests, HT1.out, HT2.out, HT3.out, HT4.out, HT5.out, HT6.out, HV.out, HT8.out, hp]; rfl
                          have HR0 := Lib.hid hr0
                          clear hr0 hp
                          go_wp2_with fail
                          go_ret
                          exact ⟨ret_int HR0.out.symm, HKR.out⟩
end Go.Proofs.Ytibjbpakbfodaaa
