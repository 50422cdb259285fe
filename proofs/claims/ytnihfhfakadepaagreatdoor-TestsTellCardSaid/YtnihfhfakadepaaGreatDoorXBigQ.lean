/- Package verdictbig: a fraction copied, without its sign, compared. -/
import Derived.Test.YtnihfhfakadepaaGreatDoorXBigP
namespace Go.Proofs.YtnihfhfakadepaaGreatDoor
open Go.RowKit

theorem Wg.wpAnyP_three {P : Program} {md : Region.Mode} {ops : Array Oper} {C : World → Prop} {f : Nat} {Q : Act → World → Prop} {i k l fuel : Nat} {o o' o2 : Oper} {listed : Array Bool} {a : Act} {w : World} (hr : Region.ready md ops listed = [i, k, l]) (ho : ops[i]? = some o) (hg : o.guard = none) (ho' : ops[k]? = some o') (hg' : o'.guard = none) (ho2 : ops[l]? = some o2) (hg2 : o2.guard = none)
    (h : Wg.plainUpon P (fun w => f ≤ i ∨ C w) o a (Wg.wpAnyP P md ops C f Q fuel (listed.setIfInBounds i true)) ((execOp a.eval o).run P w))
    (h' : Wg.plainUpon P (fun w => f ≤ k ∨ C w) o' a (Wg.wpAnyP P md ops C f Q fuel (listed.setIfInBounds k true)) ((execOp a.eval o').run P w))
    (h2 : Wg.plainUpon P (fun w => f ≤ l ∨ C w) o2 a (Wg.wpAnyP P md ops C f Q fuel (listed.setIfInBounds l true)) ((execOp a.eval o2).run P w)) : Wg.wpAnyP P md ops C f Q (fuel + 1) listed a w := by
  refine ⟨fun h0 => (by rw [hr] at h0; cases h0), fun j hj => ?_⟩
  rw [hr] at hj
  unfold Wg.pOp
  rcases List.mem_cons.1 hj with rfl | hj
  · simp only [ho, Wg.wanted_of_none hg, if_true]
    exact h
  · rcases List.mem_cons.1 hj with rfl | hj
    · simp only [ho', Wg.wanted_of_none hg', if_true]
      exact h'
    · obtain rfl : j = l := by simpa using hj
      simp only [ho2, Wg.wanted_of_none hg2, if_true]
      exact h2

set_option maxRecDepth 100000 in
set_option maxHeartbeats 4000000 in
theorem rset_any (hdiv : DivSays) {w : World} {p p1 : Nat} {a b : Int} {u0 u1 u2 u3 : Value} (hz : w.heap[p]? = some (.cells #[u0, u1, u2, u3] 83 (0, 0))) (hx : BRat w p1 a b) (hb : 0 < b)
    (hn : (digs 4294967296 a.natAbs).length ≤ 390) (hm : (digs 4294967296 b.natAbs).length ≤ 390) (hs : a.natAbs < 18446744073709551616 ∨ b.natAbs < 18446744073709551616) :
    Calls Tryz.prog 54 #[.pointer (some ⟨p, 0, none⟩), .pointer (some ⟨p1, 0, none⟩)] w fun e w' => e = .returned (.pointer (some ⟨p, 0, none⟩)) ∧ Normed w p a b w' := by
  have HZ := Lib.hid hz; have Rx := Lib.hid hx; have Px := Lib.hid hb
  have LN := Lib.hid hn; have LD := Lib.hid hm; have SM := Lib.hid hs
  have Ixa := Lib.hid hx.a; have Ixb := Lib.hid hx.b
  clear hz hx hb hn hm hs
  go_enter Tryz.func54, Tryz.ntmps54
  go_wp2_with fail
  refine Wg.wp_region_first (C := fun _ => True) (by kernel_rfl) 7 ?_
  have K0 := Lib.hid (show Keeps (fun _ => False) w { w with drawn := w.drawn + 1 } from (Keeps.refl _ w).drew)
  generalize { w with drawn := w.drawn + 1 } = W at *
  apply Wg.wpAnyP_stays (by kernel_rfl) [0, 1, 2, 3, 4] _ _ _ 3 _ trivial (by kernel_rfl) ?hs ?hr
  case hs =>
    repeat (apply Wg.wpStays_step rfl rfl; (intro w' hw'; clear hw'; go_simp; exact ⟨rfl, rfl⟩); go_simp)
    exact rfl
  case hr =>
    apply Wg.wpAnyP_one (i := 5) (fuel := 2) (by kernel_rfl) rfl rfl
    go_simp
    refine Wg.plain_call (den_any (Rx.out.later K0.out) Px.out) ?_
    rintro e w' ⟨rfl, hw'⟩
    rw [hw']
    clear hw' w'
    refine ⟨_, rfl, trivial, ?_⟩
    apply Wg.wpAnyP_one (i := 6) (fuel := 1) (by kernel_rfl) rfl rfl
    go_simp
    refine Wg.plain_call (setFrac_any hdiv (K0.out.blk HZ.out) (Ixa.out.later K0.out) (Ixb.out.later K0.out) Px.out LN.out LD.out SM.out) ?_
    rintro e W5 ⟨rfl, hn5⟩
    refine ⟨_, rfl, trivial, ?_⟩
    have HN5 := Lib.hid (normed_trans K0.out hn5)
    clear hn5
    apply Wg.wpAnyP_one (i := 7) (fuel := 0) (by kernel_rfl) rfl rfl
    go_simp
    refine ⟨trivial, by kernel_rfl, ?_⟩
    go_simp
    go_wp2_with fail
    go_ret
    exact ⟨rfl, HN5.out⟩

theorem digs_len_mono {a b : Nat} (h : a ≤ b) : (digs 4294967296 a).length ≤ (digs 4294967296 b).length :=
  digs_length_le (by omega) _ _ (Nat.lt_of_le_of_lt h (digs_lt_pow (by omega) b))

theorem BRat.blk {w : World} {p : Nat} {a b : Int} (h : BRat w p a b) : ∃ u0 u1 u2 u3, w.heap[p]? = some (.cells #[u0, u1, u2, u3] 83 (0, 0)) := by
  obtain ⟨va, vb, hb, _⟩ := h
  exact ⟨_, _, _, _, hb⟩

theorem normed_abs {w w1 w2 : World} {p : Nat} {a b a' b' : Int} (h : BRat w1 p a' b') (h2 : 0 < b') (h3 : a * b' = a' * b) (h4 : a'.natAbs ≤ a.natAbs) (h5 : b' ≤ b) (h6 : Keeps (fun k => k = p) w w1) (hb : 0 < b) (hg : Gave w1 w2 p 0 a'.natAbs) : Normed w p a.natAbs b w2 := by
  obtain ⟨va, vb, hblk, hva, hvb⟩ := h
  obtain ⟨v, k1, k2, k3⟩ := hg.block hblk (by decide)
  refine ⟨a'.natAbs, b', ⟨v, vb, k1, k2, hvb.keepS hblk (by decide) k3⟩, h2, ?_, by omega, h5, h6.trans k3 fun _ h => .inl h⟩
  have e := congrArg Int.natAbs h3
  rw [Int.natAbs_mul, Int.natAbs_mul] at e
  have e2 : ((a.natAbs * b'.natAbs : Nat) : Int) = ((a'.natAbs * b.natAbs : Nat) : Int) := by rw [e]
  rw [Int.natCast_mul, Int.natCast_mul] at e2
  rw [show ((b'.natAbs : Nat) : Int) = b' by omega, show ((b.natAbs : Nat) : Int) = b by omega] at e2
  exact e2

set_option maxRecDepth 100000 in
set_option maxHeartbeats 4000000 in
theorem rabs_any (hdiv : DivSays) {w : World} {p p1 : Nat} {a b : Int} {u0 u1 u2 u3 : Value} (hz : w.heap[p]? = some (.cells #[u0, u1, u2, u3] 83 (0, 0))) (hx : BRat w p1 a b) (hb : 0 < b)
    (hn : (digs 4294967296 a.natAbs).length ≤ 390) (hm : (digs 4294967296 b.natAbs).length ≤ 390) (hs : a.natAbs < 18446744073709551616 ∨ b.natAbs < 18446744073709551616) :
    Calls Tryz.prog 37 #[.pointer (some ⟨p, 0, none⟩), .pointer (some ⟨p1, 0, none⟩)] w fun e w' => e = .returned (.pointer (some ⟨p, 0, none⟩)) ∧ Normed w p a.natAbs b w' := by
  have HSET := Lib.hid (rset_any hdiv hz hx hb hn hm hs)
  have LN := Lib.hid hn; have PB := Lib.hid hb
  clear hz hx hb hn hm hs
  go_enter Tryz.func37, Tryz.ntmps37
  go_wp2_with (go_at_call 54; ((with_reducible refine HSET.out.mono ?_); rintro e w1 ⟨rfl, hnm⟩; have HN := Lib.hid hnm; clear hnm))
  obtain ⟨a', b', h1, h2, h3, h4, h5, h6⟩ := HN.out
  have HF := Lib.hid (fun w2 (hg : Gave w1 w2 p 0 a'.natAbs) => normed_abs h1 h2 h3 h4 h5 h6 PB.out hg)
  have HI := Lib.hid h1.a
  have hl : (digs 4294967296 a'.natAbs).length ≤ 390 := Nat.le_trans (digs_len_mono h4) LN.out
  have HL := Lib.hid hl
  clear h1 h2 h3 h4 h5 h6 hl HSET LN
  refine Wg.wp_region_first (C := fun _ => True) (by kernel_rfl) 6 ?_
  have K0 := Lib.hid (show Keeps (fun _ => False) w1 { w1 with drawn := w1.drawn + 1 } from (Keeps.refl _ w1).drew)
  have HFD := Lib.hid (fun w2 (hg : Gave { w1 with drawn := w1.drawn + 1 } w2 p 0 a'.natAbs) => HF.out w2 (by
    obtain ⟨w3, v, g1, g2, g3⟩ := hg
    exact ⟨w3, v, K0.out.trans g1 fun _ h => .inl h, g2, g3⟩))
  generalize { w1 with drawn := w1.drawn + 1 } = W at *
  apply Wg.wpAnyP_stays (by kernel_rfl) [0, 1, 2, 3, 4, 5] _ _ _ 1 _ trivial (by kernel_rfl) ?hs ?hr
  case hs =>
    repeat (apply Wg.wpStays_step rfl rfl; (intro w' hw'; clear hw'; go_simp; exact ⟨rfl, rfl⟩); go_simp)
    exact rfl
  case hr =>
    apply Wg.wpAnyP_one (i := 6) (fuel := 0) (by kernel_rfl) rfl rfl
    have hi := HI.out.later K0.out
    obtain ⟨s0, s1⟩ := Slot.of_int hi
    go_simp
    refine Wg.plain_call (abs_any hi (Nat.le_trans HL.out (by omega)) s0 s1) ?_
    rintro e W2 ⟨rfl, hg⟩
    have HR := Lib.hid (HFD.out _ hg)
    refine ⟨_, rfl, trivial, by kernel_rfl, ?_⟩
    clear hg hi s0 s1
    go_simp
    go_wp2_with fail
    go_ret
    exact ⟨rfl, HR.out⟩

/-- How two fractions compare. -/
def cmpR (a b c d : Int) : Int := if b = d then cmpI a c else cmpI (a * d) (c * b)

theorem cmpI_zero {b d : Int} : cmpI b d = 0 ↔ b = d := by
  unfold cmpI
  constructor
  · intro h
    split at h
    · omega
    · split at h <;> omega
  · intro h
    subst h
    rw [if_neg (by omega), if_pos rfl]

set_option maxRecDepth 100000 in
set_option maxHeartbeats 8000000 in
theorem rcmp_any {w : World} {p1 p2 : Nat} {a b c d : Int} (hx : BRat w p1 a b) (hy : BRat w p2 c d) (hb : 0 < b) (hd : 0 < d)
    (la : (digs 4294967296 a.natAbs).length ≤ 400) (lb : (digs 4294967296 b.natAbs).length ≤ 400) (lc : (digs 4294967296 c.natAbs).length ≤ 400) (ld : (digs 4294967296 d.natAbs).length ≤ 400)
    (hn : (digs 4294967296 (a * d).natAbs).length ≤ 900) :
    Calls Tryz.prog 38 #[.pointer (some ⟨p1, 0, none⟩), .pointer (some ⟨p2, 0, none⟩)] w fun e w' => e = .returned (.int .i64 (cmpR a b c d)) ∧ Keeps (fun _ => False) w w' := by
  have Rx := Lib.hid hx; have Ry := Lib.hid hy; have Px := Lib.hid hb; have Py := Lib.hid hd
  have Lxa := Lib.hid la; have Lxb := Lib.hid lb; have Lya := Lib.hid lc; have Lyb := Lib.hid ld
  have LN := Lib.hid hn
  have Ixa := Lib.hid hx.a; have Ixb := Lib.hid hx.b; have Iya := Lib.hid hy.a; have Iyb := Lib.hid hy.b
  have HC := Lib.hid (icmp_any hx.b hy.b (Nat.le_trans lb (by omega)))
  have D1 := Lib.hid (den_any hx hb); have D2 := Lib.hid (den_any hy hd)
  have HZ := Lib.hid (@cmpI_zero b d)
  have HRY : Hid (b = d → cmpR a b c d = cmpI a c) := Lib.hid fun h => if_pos h
  have HRN : Hid (¬ b = d → cmpR a b c d = cmpI (a * d) (c * b)) := Lib.hid fun h => if_neg h
  clear hx hy hb hd la lb lc ld hn
  by_cases hbd : b = d
  · have hc0 : cmpI b d = 0 := HZ.out.2 hbd
    rw [HRY.out hbd]
    rw [hc0] at HC
    clear hc0 HZ HRY HRN
    have HBD := Lib.hid hbd
    clear hbd
    go_enter Tryz.func38, Tryz.ntmps38
    go_wp2_with (first | (go_at_call 56; ((with_reducible refine D1.out.mono ?_); rintro e w' ⟨rfl, hw'⟩; rw [hw']; clear hw' w')) | (go_at_call 56; ((with_reducible refine D2.out.mono ?_); rintro e w' ⟨rfl, hw'⟩; rw [hw']; clear hw' w')) | (go_at_call 57; ((with_reducible refine HC.out.mono ?_); rintro e w1 ⟨rfl, q1, hw1⟩; have K1 := Lib.hid (show Keeps (fun _ => False) w w1 from hw1 ▸ (Keeps.refl _ w).drewN q1); clear hw1)))
    refine Wg.wp_region_first (C := fun _ => True) (by kernel_rfl) 7 ?_
    have K0 := Lib.hid (show Keeps (fun _ => False) w { w1 with drawn := w1.drawn + 1 } from K1.out.drew)
    generalize { w1 with drawn := w1.drawn + 1 } = W at *
    apply Wg.wpAnyP_stays (by kernel_rfl) [0, 1, 2, 3, 4, 5] _ _ _ 2 _ trivial (by kernel_rfl) ?hs ?hr
    case hs =>
      repeat (apply Wg.wpStays_step rfl rfl; (intro w' hw'; clear hw'; go_simp; exact ⟨rfl, rfl⟩); go_simp)
      exact rfl
    case hr =>
      apply Wg.wpAnyP_one (i := 6) (fuel := 1) (by kernel_rfl) rfl rfl
      go_simp
      refine Wg.plain_call (icmp_any (Ixa.out.later K0.out) (Iya.out.later K0.out) (Nat.le_trans Lxa.out (by omega))) ?_
      rintro e W2 ⟨rfl, q2, hw2⟩
      have K2 := Lib.hid (show Keeps (fun _ => False) w W2 from hw2 ▸ K0.out.drewN q2)
      clear hw2
      refine ⟨_, rfl, trivial, ?_⟩
      apply Wg.wpAnyP_one (i := 7) (fuel := 0) (by kernel_rfl) rfl rfl
      go_simp
      refine ⟨trivial, by kernel_rfl, ?_⟩
      go_simp
      go_wp2_with fail
      go_ret
      exact ⟨rfl, K2.out⟩
  · have hc0 : ((cmpI b d) == 0) = false := by rw [beq_eq_false_iff_ne]; exact fun h => hbd (HZ.out.1 h)
    rw [HRN.out hbd]
    generalize cmpI b d = cbd at *
    clear HZ HRY HRN
    have HBD := Lib.hid hbd
    clear hbd
    go_enter Tryz.func38, Tryz.ntmps38
    go_wp2_with (first | (go_at_call 56; ((with_reducible refine D1.out.mono ?_); rintro e w' ⟨rfl, hw'⟩; rw [hw']; clear hw' w')) | (go_at_call 56; ((with_reducible refine D2.out.mono ?_); rintro e w' ⟨rfl, hw'⟩; rw [hw']; clear hw' w')) | (go_at_call 57; ((with_reducible refine HC.out.mono ?_); rintro e w1 ⟨rfl, q1, hw1⟩; have K1 := Lib.hid (show Keeps (fun _ => False) w w1 from hw1 ▸ (Keeps.refl _ w).drewN q1); clear hw1)))
    refine Wg.wp_region_first (C := fun _ => True) (by kernel_rfl) 15 ?_
    have K0 := Lib.hid (show Keeps (fun _ => False) w { w1 with drawn := w1.drawn + 1 } from K1.out.drew)
    generalize { w1 with drawn := w1.drawn + 1 } = W at *
    apply Wg.wpAnyP_stays (by kernel_rfl) [1, 2, 3, 4, 8, 9, 10, 11] _ _ _ 8 _ trivial (by kernel_rfl) ?hs ?hr
    case hs =>
      repeat (apply Wg.wpStays_step rfl rfl; (intro w' hw'; clear hw'; go_simp; exact ⟨rfl, rfl⟩); go_simp)
      exact rfl
    case hr =>
      apply Wg.wpAnyP_three (i := 0) (k := 5) (l := 7) (fuel := 7) (by kernel_rfl) rfl rfl rfl rfl rfl rfl
      · skip
        go_simp
        refine ⟨trivial, ?_⟩
        have hz1 := zint_alloc W
        have hk1 : Keeps (fun _ => False) W (W.alloc (.cells #[.bool false, .slice none 0 0] 81)) := (Keeps.refl _ _).alloc _
        obtain ⟨q1, hq1⟩ : ∃ q, W.heap.size = q := ⟨_, rfl⟩
        rw [hq1] at hz1 ⊢
        generalize hw1 : W.alloc (.cells #[.bool false, .slice none 0 0] 81) = W1 at *
        have K1 := Lib.hid (K0.out.trans hk1 fun _ h => .inl h)
        have Z1_1 := Lib.hid hz1
        have Q1 := Lib.hid (show w.heap.size ≤ q1 by have := K0.out.size; omega)
        clear hz1 hk1 hq1 hw1
        apply Wg.wpAnyP_two (i := 5) (k := 7) (fuel := 6) (by kernel_rfl) rfl rfl rfl rfl
        · skip
          go_simp
          refine Wg.plain_call (den_any (Ry.out.later K1.out) Py.out) ?_
          rintro e w' ⟨rfl, hw'⟩
          rw [hw']
          clear hw' w'
          refine ⟨_, rfl, trivial, ?_⟩
          apply Wg.wpAnyP_two (i := 6) (k := 7) (fuel := 5) (by kernel_rfl) rfl rfl rfl rfl
          · skip
            go_simp
            refine Wg.plain_call (imul_new Z1_1.out (Ixa.out.later K1.out) (Iyb.out.later K1.out) Lxa.out Lyb.out) ?_
            rintro e W2 ⟨rfl, hb2, hk2⟩
            refine ⟨_, rfl, trivial, ?_⟩
            have K2 := Lib.hid (K1.out.fresh hk2 Q1.out)
            have B1_2 := Lib.hid hb2
            clear hb2 hk2
            apply Wg.wpAnyP_two (i := 7) (k := 12) (fuel := 4) (by kernel_rfl) rfl rfl rfl rfl
            · skip
              go_simp
              refine ⟨trivial, ?_⟩
              have hz3 := zint_alloc W2
              have hk3 : Keeps (fun _ => False) W2 (W2.alloc (.cells #[.bool false, .slice none 0 0] 81)) := (Keeps.refl _ _).alloc _
              obtain ⟨q2, hq2⟩ : ∃ q, W2.heap.size = q := ⟨_, rfl⟩
              rw [hq2] at hz3 ⊢
              generalize hw3 : W2.alloc (.cells #[.bool false, .slice none 0 0] 81) = W3 at *
              have K3 := Lib.hid (K2.out.trans hk3 fun _ h => .inl h)
              have Z2_3 := Lib.hid hz3
              have Q2 := Lib.hid (show w.heap.size ≤ q2 by have := K2.out.size; omega)
              have N21 := Lib.hid (show q2 ≠ q1 by have := BInt.lt B1_2.out; omega)
              have B1_3 := Lib.hid (BInt.later B1_2.out hk3)
              clear hz3 hk3 hq2 hw3
              apply Wg.wpAnyP_one (i := 12) (fuel := 3) (by kernel_rfl) rfl rfl
              go_simp
              refine Wg.plain_call (den_any (Rx.out.later K3.out) Px.out) ?_
              rintro e w' ⟨rfl, hw'⟩
              rw [hw']
              clear hw' w'
              refine ⟨_, rfl, trivial, ?_⟩
              apply Wg.wpAnyP_one (i := 13) (fuel := 2) (by kernel_rfl) rfl rfl
              go_simp
              refine Wg.plain_call (imul_new Z2_3.out (Iya.out.later K3.out) (Ixb.out.later K3.out) Lya.out Lxb.out) ?_
              rintro e W4 ⟨rfl, hb4, hk4⟩
              refine ⟨_, rfl, trivial, ?_⟩
              have B1_4 := Lib.hid (BInt.other B1_3.out Z2_3.out (by decide) hk4 (by first | exact N12.out | exact N21.out.symm))
              have K4 := Lib.hid (K3.out.fresh hk4 Q2.out)
              have B2_4 := Lib.hid hb4
              clear hb4 hk4
              apply Wg.wpAnyP_one (i := 14) (fuel := 1) (by kernel_rfl) rfl rfl
              go_simp
              refine Wg.plain_call (icmp_any B1_4.out.at_ B2_4.out.at_ (Nat.le_trans LN.out (by omega))) ?_
              rintro e W5 ⟨rfl, q9, hw9⟩
              refine ⟨_, rfl, trivial, ?_⟩
              have HN5 := Lib.hid (show Keeps (fun _ => False) w W5 from hw9 ▸ K4.out.drewN q9)
              clear hw9
              apply Wg.wpAnyP_one (i := 15) (fuel := 0) (by kernel_rfl) rfl rfl
              go_simp
              refine ⟨trivial, by kernel_rfl, ?_⟩
              go_simp
              go_wp2_with fail
              go_ret
              exact ⟨rfl, HN5.out⟩
            · skip
              go_simp
              refine Wg.plain_call (den_any (Rx.out.later K2.out) Px.out) ?_
              rintro e w' ⟨rfl, hw'⟩
              rw [hw']
              clear hw' w'
              refine ⟨_, rfl, trivial, ?_⟩
              apply Wg.wpAnyP_one (i := 7) (fuel := 3) (by kernel_rfl) rfl rfl
              go_simp
              refine ⟨trivial, ?_⟩
              have hz3 := zint_alloc W2
              have hk3 : Keeps (fun _ => False) W2 (W2.alloc (.cells #[.bool false, .slice none 0 0] 81)) := (Keeps.refl _ _).alloc _
              obtain ⟨q2, hq2⟩ : ∃ q, W2.heap.size = q := ⟨_, rfl⟩
              rw [hq2] at hz3 ⊢
              generalize hw3 : W2.alloc (.cells #[.bool false, .slice none 0 0] 81) = W3 at *
              have K3 := Lib.hid (K2.out.trans hk3 fun _ h => .inl h)
              have Z2_3 := Lib.hid hz3
              have Q2 := Lib.hid (show w.heap.size ≤ q2 by have := K2.out.size; omega)
              have N21 := Lib.hid (show q2 ≠ q1 by have := BInt.lt B1_2.out; omega)
              have B1_3 := Lib.hid (BInt.later B1_2.out hk3)
              clear hz3 hk3 hq2 hw3
              apply Wg.wpAnyP_one (i := 13) (fuel := 2) (by kernel_rfl) rfl rfl
              go_simp
              refine Wg.plain_call (imul_new Z2_3.out (Iya.out.later K3.out) (Ixb.out.later K3.out) Lya.out Lxb.out) ?_
              rintro e W4 ⟨rfl, hb4, hk4⟩
              refine ⟨_, rfl, trivial, ?_⟩
              have B1_4 := Lib.hid (BInt.other B1_3.out Z2_3.out (by decide) hk4 (by first | exact N12.out | exact N21.out.symm))
              have K4 := Lib.hid (K3.out.fresh hk4 Q2.out)
              have B2_4 := Lib.hid hb4
              clear hb4 hk4
              apply Wg.wpAnyP_one (i := 14) (fuel := 1) (by kernel_rfl) rfl rfl
              go_simp
              refine Wg.plain_call (icmp_any B1_4.out.at_ B2_4.out.at_ (Nat.le_trans LN.out (by omega))) ?_
              rintro e W5 ⟨rfl, q9, hw9⟩
              refine ⟨_, rfl, trivial, ?_⟩
              have HN5 := Lib.hid (show Keeps (fun _ => False) w W5 from hw9 ▸ K4.out.drewN q9)
              clear hw9
              apply Wg.wpAnyP_one (i := 15) (fuel := 0) (by kernel_rfl) rfl rfl
              go_simp
              refine ⟨trivial, by kernel_rfl, ?_⟩
              go_simp
              go_wp2_with fail
              go_ret
              exact ⟨rfl, HN5.out⟩
          · skip
            go_simp
            refine ⟨trivial, ?_⟩
            have hz2 := zint_alloc W1
            have hk2 : Keeps (fun _ => False) W1 (W1.alloc (.cells #[.bool false, .slice none 0 0] 81)) := (Keeps.refl _ _).alloc _
            obtain ⟨q2, hq2⟩ : ∃ q, W1.heap.size = q := ⟨_, rfl⟩
            rw [hq2] at hz2 ⊢
            generalize hw2 : W1.alloc (.cells #[.bool false, .slice none 0 0] 81) = W2 at *
            have K2 := Lib.hid (K1.out.trans hk2 fun _ h => .inl h)
            have Z2_2 := Lib.hid hz2
            have Q2 := Lib.hid (show w.heap.size ≤ q2 by have := K1.out.size; omega)
            have N21 := Lib.hid (show q2 ≠ q1 by have := zint_lt Z1_1.out; omega)
            have Z1_2 := Lib.hid (zint_later Z1_1.out hk2)
            clear hz2 hk2 hq2 hw2
            apply Wg.wpAnyP_one (i := 6) (fuel := 4) (by kernel_rfl) rfl rfl
            go_simp
            refine Wg.plain_call (imul_new Z1_2.out (Ixa.out.later K2.out) (Iyb.out.later K2.out) Lxa.out Lyb.out) ?_
            rintro e W3 ⟨rfl, hb3, hk3⟩
            refine ⟨_, rfl, trivial, ?_⟩
            have Z2_3 := Lib.hid (zint_other Z2_2.out hk3 (by first | exact N21.out | exact N12.out.symm))
            have K3 := Lib.hid (K2.out.fresh hk3 Q1.out)
            have B1_3 := Lib.hid hb3
            clear hb3 hk3
            apply Wg.wpAnyP_one (i := 12) (fuel := 3) (by kernel_rfl) rfl rfl
            go_simp
            refine Wg.plain_call (den_any (Rx.out.later K3.out) Px.out) ?_
            rintro e w' ⟨rfl, hw'⟩
            rw [hw']
            clear hw' w'
            refine ⟨_, rfl, trivial, ?_⟩
            apply Wg.wpAnyP_one (i := 13) (fuel := 2) (by kernel_rfl) rfl rfl
            go_simp
            refine Wg.plain_call (imul_new Z2_3.out (Iya.out.later K3.out) (Ixb.out.later K3.out) Lya.out Lxb.out) ?_
            rintro e W4 ⟨rfl, hb4, hk4⟩
            refine ⟨_, rfl, trivial, ?_⟩
            have B1_4 := Lib.hid (BInt.other B1_3.out Z2_3.out (by decide) hk4 (by first | exact N12.out | exact N21.out.symm))
            have K4 := Lib.hid (K3.out.fresh hk4 Q2.out)
            have B2_4 := Lib.hid hb4
            clear hb4 hk4
            apply Wg.wpAnyP_one (i := 14) (fuel := 1) (by kernel_rfl) rfl rfl
            go_simp
            refine Wg.plain_call (icmp_any B1_4.out.at_ B2_4.out.at_ (Nat.le_trans LN.out (by omega))) ?_
            rintro e W5 ⟨rfl, q9, hw9⟩
            refine ⟨_, rfl, trivial, ?_⟩
            have HN5 := Lib.hid (show Keeps (fun _ => False) w W5 from hw9 ▸ K4.out.drewN q9)
            clear hw9
            apply Wg.wpAnyP_one (i := 15) (fuel := 0) (by kernel_rfl) rfl rfl
            go_simp
            refine ⟨trivial, by kernel_rfl, ?_⟩
            go_simp
            go_wp2_with fail
            go_ret
            exact ⟨rfl, HN5.out⟩
        · skip
          go_simp
          refine ⟨trivial, ?_⟩
          have hz2 := zint_alloc W1
          have hk2 : Keeps (fun _ => False) W1 (W1.alloc (.cells #[.bool false, .slice none 0 0] 81)) := (Keeps.refl _ _).alloc _
          obtain ⟨q2, hq2⟩ : ∃ q, W1.heap.size = q := ⟨_, rfl⟩
          rw [hq2] at hz2 ⊢
          generalize hw2 : W1.alloc (.cells #[.bool false, .slice none 0 0] 81) = W2 at *
          have K2 := Lib.hid (K1.out.trans hk2 fun _ h => .inl h)
          have Z2_2 := Lib.hid hz2
          have Q2 := Lib.hid (show w.heap.size ≤ q2 by have := K1.out.size; omega)
          have N21 := Lib.hid (show q2 ≠ q1 by have := zint_lt Z1_1.out; omega)
          have Z1_2 := Lib.hid (zint_later Z1_1.out hk2)
          clear hz2 hk2 hq2 hw2
          apply Wg.wpAnyP_one (i := 5) (fuel := 5) (by kernel_rfl) rfl rfl
          go_simp
          refine Wg.plain_call (den_any (Ry.out.later K2.out) Py.out) ?_
          rintro e w' ⟨rfl, hw'⟩
          rw [hw']
          clear hw' w'
          refine ⟨_, rfl, trivial, ?_⟩
          apply Wg.wpAnyP_one (i := 6) (fuel := 4) (by kernel_rfl) rfl rfl
          go_simp
          refine Wg.plain_call (imul_new Z1_2.out (Ixa.out.later K2.out) (Iyb.out.later K2.out) Lxa.out Lyb.out) ?_
          rintro e W3 ⟨rfl, hb3, hk3⟩
          refine ⟨_, rfl, trivial, ?_⟩
          have Z2_3 := Lib.hid (zint_other Z2_2.out hk3 (by first | exact N21.out | exact N12.out.symm))
          have K3 := Lib.hid (K2.out.fresh hk3 Q1.out)
          have B1_3 := Lib.hid hb3
          clear hb3 hk3
          apply Wg.wpAnyP_one (i := 12) (fuel := 3) (by kernel_rfl) rfl rfl
          go_simp
          refine Wg.plain_call (den_any (Rx.out.later K3.out) Px.out) ?_
          rintro e w' ⟨rfl, hw'⟩
          rw [hw']
          clear hw' w'
          refine ⟨_, rfl, trivial, ?_⟩
          apply Wg.wpAnyP_one (i := 13) (fuel := 2) (by kernel_rfl) rfl rfl
          go_simp
          refine Wg.plain_call (imul_new Z2_3.out (Iya.out.later K3.out) (Ixb.out.later K3.out) Lya.out Lxb.out) ?_
          rintro e W4 ⟨rfl, hb4, hk4⟩
          refine ⟨_, rfl, trivial, ?_⟩
          have B1_4 := Lib.hid (BInt.other B1_3.out Z2_3.out (by decide) hk4 (by first | exact N12.out | exact N21.out.symm))
          have K4 := Lib.hid (K3.out.fresh hk4 Q2.out)
          have B2_4 := Lib.hid hb4
          clear hb4 hk4
          apply Wg.wpAnyP_one (i := 14) (fuel := 1) (by kernel_rfl) rfl rfl
          go_simp
          refine Wg.plain_call (icmp_any B1_4.out.at_ B2_4.out.at_ (Nat.le_trans LN.out (by omega))) ?_
          rintro e W5 ⟨rfl, q9, hw9⟩
          refine ⟨_, rfl, trivial, ?_⟩
          have HN5 := Lib.hid (show Keeps (fun _ => False) w W5 from hw9 ▸ K4.out.drewN q9)
          clear hw9
          apply Wg.wpAnyP_one (i := 15) (fuel := 0) (by kernel_rfl) rfl rfl
          go_simp
          refine ⟨trivial, by kernel_rfl, ?_⟩
          go_simp
          go_wp2_with fail
          go_ret
          exact ⟨rfl, HN5.out⟩
      · skip
        go_simp
        refine Wg.plain_call (den_any (Ry.out.later K0.out) Py.out) ?_
        rintro e w' ⟨rfl, hw'⟩
        rw [hw']
        clear hw' w'
        refine ⟨_, rfl, trivial, ?_⟩
        apply Wg.wpAnyP_two (i := 0) (k := 7) (fuel := 6) (by kernel_rfl) rfl rfl rfl rfl
        · skip
          go_simp
          refine ⟨trivial, ?_⟩
          have hz1 := zint_alloc W
          have hk1 : Keeps (fun _ => False) W (W.alloc (.cells #[.bool false, .slice none 0 0] 81)) := (Keeps.refl _ _).alloc _
          obtain ⟨q1, hq1⟩ : ∃ q, W.heap.size = q := ⟨_, rfl⟩
          rw [hq1] at hz1 ⊢
          generalize hw1 : W.alloc (.cells #[.bool false, .slice none 0 0] 81) = W1 at *
          have K1 := Lib.hid (K0.out.trans hk1 fun _ h => .inl h)
          have Z1_1 := Lib.hid hz1
          have Q1 := Lib.hid (show w.heap.size ≤ q1 by have := K0.out.size; omega)
          clear hz1 hk1 hq1 hw1
          apply Wg.wpAnyP_two (i := 6) (k := 7) (fuel := 5) (by kernel_rfl) rfl rfl rfl rfl
          · skip
            go_simp
            refine Wg.plain_call (imul_new Z1_1.out (Ixa.out.later K1.out) (Iyb.out.later K1.out) Lxa.out Lyb.out) ?_
            rintro e W2 ⟨rfl, hb2, hk2⟩
            refine ⟨_, rfl, trivial, ?_⟩
            have K2 := Lib.hid (K1.out.fresh hk2 Q1.out)
            have B1_2 := Lib.hid hb2
            clear hb2 hk2
            apply Wg.wpAnyP_two (i := 7) (k := 12) (fuel := 4) (by kernel_rfl) rfl rfl rfl rfl
            · skip
              go_simp
              refine ⟨trivial, ?_⟩
              have hz3 := zint_alloc W2
              have hk3 : Keeps (fun _ => False) W2 (W2.alloc (.cells #[.bool false, .slice none 0 0] 81)) := (Keeps.refl _ _).alloc _
              obtain ⟨q2, hq2⟩ : ∃ q, W2.heap.size = q := ⟨_, rfl⟩
              rw [hq2] at hz3 ⊢
              generalize hw3 : W2.alloc (.cells #[.bool false, .slice none 0 0] 81) = W3 at *
              have K3 := Lib.hid (K2.out.trans hk3 fun _ h => .inl h)
              have Z2_3 := Lib.hid hz3
              have Q2 := Lib.hid (show w.heap.size ≤ q2 by have := K2.out.size; omega)
              have N21 := Lib.hid (show q2 ≠ q1 by have := BInt.lt B1_2.out; omega)
              have B1_3 := Lib.hid (BInt.later B1_2.out hk3)
              clear hz3 hk3 hq2 hw3
              apply Wg.wpAnyP_one (i := 12) (fuel := 3) (by kernel_rfl) rfl rfl
              go_simp
              refine Wg.plain_call (den_any (Rx.out.later K3.out) Px.out) ?_
              rintro e w' ⟨rfl, hw'⟩
              rw [hw']
              clear hw' w'
              refine ⟨_, rfl, trivial, ?_⟩
              apply Wg.wpAnyP_one (i := 13) (fuel := 2) (by kernel_rfl) rfl rfl
              go_simp
              refine Wg.plain_call (imul_new Z2_3.out (Iya.out.later K3.out) (Ixb.out.later K3.out) Lya.out Lxb.out) ?_
              rintro e W4 ⟨rfl, hb4, hk4⟩
              refine ⟨_, rfl, trivial, ?_⟩
              have B1_4 := Lib.hid (BInt.other B1_3.out Z2_3.out (by decide) hk4 (by first | exact N12.out | exact N21.out.symm))
              have K4 := Lib.hid (K3.out.fresh hk4 Q2.out)
              have B2_4 := Lib.hid hb4
              clear hb4 hk4
              apply Wg.wpAnyP_one (i := 14) (fuel := 1) (by kernel_rfl) rfl rfl
              go_simp
              refine Wg.plain_call (icmp_any B1_4.out.at_ B2_4.out.at_ (Nat.le_trans LN.out (by omega))) ?_
              rintro e W5 ⟨rfl, q9, hw9⟩
              refine ⟨_, rfl, trivial, ?_⟩
              have HN5 := Lib.hid (show Keeps (fun _ => False) w W5 from hw9 ▸ K4.out.drewN q9)
              clear hw9
              apply Wg.wpAnyP_one (i := 15) (fuel := 0) (by kernel_rfl) rfl rfl
              go_simp
              refine ⟨trivial, by kernel_rfl, ?_⟩
              go_simp
              go_wp2_with fail
              go_ret
              exact ⟨rfl, HN5.out⟩
            · skip
              go_simp
              refine Wg.plain_call (den_any (Rx.out.later K2.out) Px.out) ?_
              rintro e w' ⟨rfl, hw'⟩
              rw [hw']
              clear hw' w'
              refine ⟨_, rfl, trivial, ?_⟩
              apply Wg.wpAnyP_one (i := 7) (fuel := 3) (by kernel_rfl) rfl rfl
              go_simp
              refine ⟨trivial, ?_⟩
              have hz3 := zint_alloc W2
              have hk3 : Keeps (fun _ => False) W2 (W2.alloc (.cells #[.bool false, .slice none 0 0] 81)) := (Keeps.refl _ _).alloc _
              obtain ⟨q2, hq2⟩ : ∃ q, W2.heap.size = q := ⟨_, rfl⟩
              rw [hq2] at hz3 ⊢
              generalize hw3 : W2.alloc (.cells #[.bool false, .slice none 0 0] 81) = W3 at *
              have K3 := Lib.hid (K2.out.trans hk3 fun _ h => .inl h)
              have Z2_3 := Lib.hid hz3
              have Q2 := Lib.hid (show w.heap.size ≤ q2 by have := K2.out.size; omega)
              have N21 := Lib.hid (show q2 ≠ q1 by have := BInt.lt B1_2.out; omega)
              have B1_3 := Lib.hid (BInt.later B1_2.out hk3)
              clear hz3 hk3 hq2 hw3
              apply Wg.wpAnyP_one (i := 13) (fuel := 2) (by kernel_rfl) rfl rfl
              go_simp
              refine Wg.plain_call (imul_new Z2_3.out (Iya.out.later K3.out) (Ixb.out.later K3.out) Lya.out Lxb.out) ?_
              rintro e W4 ⟨rfl, hb4, hk4⟩
              refine ⟨_, rfl, trivial, ?_⟩
              have B1_4 := Lib.hid (BInt.other B1_3.out Z2_3.out (by decide) hk4 (by first | exact N12.out | exact N21.out.symm))
              have K4 := Lib.hid (K3.out.fresh hk4 Q2.out)
              have B2_4 := Lib.hid hb4
              clear hb4 hk4
              apply Wg.wpAnyP_one (i := 14) (fuel := 1) (by kernel_rfl) rfl rfl
              go_simp
              refine Wg.plain_call (icmp_any B1_4.out.at_ B2_4.out.at_ (Nat.le_trans LN.out (by omega))) ?_
              rintro e W5 ⟨rfl, q9, hw9⟩
              refine ⟨_, rfl, trivial, ?_⟩
              have HN5 := Lib.hid (show Keeps (fun _ => False) w W5 from hw9 ▸ K4.out.drewN q9)
              clear hw9
              apply Wg.wpAnyP_one (i := 15) (fuel := 0) (by kernel_rfl) rfl rfl
              go_simp
              refine ⟨trivial, by kernel_rfl, ?_⟩
              go_simp
              go_wp2_with fail
              go_ret
              exact ⟨rfl, HN5.out⟩
          · skip
            go_simp
            refine ⟨trivial, ?_⟩
            have hz2 := zint_alloc W1
            have hk2 : Keeps (fun _ => False) W1 (W1.alloc (.cells #[.bool false, .slice none 0 0] 81)) := (Keeps.refl _ _).alloc _
            obtain ⟨q2, hq2⟩ : ∃ q, W1.heap.size = q := ⟨_, rfl⟩
            rw [hq2] at hz2 ⊢
            generalize hw2 : W1.alloc (.cells #[.bool false, .slice none 0 0] 81) = W2 at *
            have K2 := Lib.hid (K1.out.trans hk2 fun _ h => .inl h)
            have Z2_2 := Lib.hid hz2
            have Q2 := Lib.hid (show w.heap.size ≤ q2 by have := K1.out.size; omega)
            have N21 := Lib.hid (show q2 ≠ q1 by have := zint_lt Z1_1.out; omega)
            have Z1_2 := Lib.hid (zint_later Z1_1.out hk2)
            clear hz2 hk2 hq2 hw2
            apply Wg.wpAnyP_one (i := 6) (fuel := 4) (by kernel_rfl) rfl rfl
            go_simp
            refine Wg.plain_call (imul_new Z1_2.out (Ixa.out.later K2.out) (Iyb.out.later K2.out) Lxa.out Lyb.out) ?_
            rintro e W3 ⟨rfl, hb3, hk3⟩
            refine ⟨_, rfl, trivial, ?_⟩
            have Z2_3 := Lib.hid (zint_other Z2_2.out hk3 (by first | exact N21.out | exact N12.out.symm))
            have K3 := Lib.hid (K2.out.fresh hk3 Q1.out)
            have B1_3 := Lib.hid hb3
            clear hb3 hk3
            apply Wg.wpAnyP_one (i := 12) (fuel := 3) (by kernel_rfl) rfl rfl
            go_simp
            refine Wg.plain_call (den_any (Rx.out.later K3.out) Px.out) ?_
            rintro e w' ⟨rfl, hw'⟩
            rw [hw']
            clear hw' w'
            refine ⟨_, rfl, trivial, ?_⟩
            apply Wg.wpAnyP_one (i := 13) (fuel := 2) (by kernel_rfl) rfl rfl
            go_simp
            refine Wg.plain_call (imul_new Z2_3.out (Iya.out.later K3.out) (Ixb.out.later K3.out) Lya.out Lxb.out) ?_
            rintro e W4 ⟨rfl, hb4, hk4⟩
            refine ⟨_, rfl, trivial, ?_⟩
            have B1_4 := Lib.hid (BInt.other B1_3.out Z2_3.out (by decide) hk4 (by first | exact N12.out | exact N21.out.symm))
            have K4 := Lib.hid (K3.out.fresh hk4 Q2.out)
            have B2_4 := Lib.hid hb4
            clear hb4 hk4
            apply Wg.wpAnyP_one (i := 14) (fuel := 1) (by kernel_rfl) rfl rfl
            go_simp
            refine Wg.plain_call (icmp_any B1_4.out.at_ B2_4.out.at_ (Nat.le_trans LN.out (by omega))) ?_
            rintro e W5 ⟨rfl, q9, hw9⟩
            refine ⟨_, rfl, trivial, ?_⟩
            have HN5 := Lib.hid (show Keeps (fun _ => False) w W5 from hw9 ▸ K4.out.drewN q9)
            clear hw9
            apply Wg.wpAnyP_one (i := 15) (fuel := 0) (by kernel_rfl) rfl rfl
            go_simp
            refine ⟨trivial, by kernel_rfl, ?_⟩
            go_simp
            go_wp2_with fail
            go_ret
            exact ⟨rfl, HN5.out⟩
        · skip
          go_simp
          refine ⟨trivial, ?_⟩
          have hz1 := zint_alloc W
          have hk1 : Keeps (fun _ => False) W (W.alloc (.cells #[.bool false, .slice none 0 0] 81)) := (Keeps.refl _ _).alloc _
          obtain ⟨q2, hq2⟩ : ∃ q, W.heap.size = q := ⟨_, rfl⟩
          rw [hq2] at hz1 ⊢
          generalize hw1 : W.alloc (.cells #[.bool false, .slice none 0 0] 81) = W1 at *
          have K1 := Lib.hid (K0.out.trans hk1 fun _ h => .inl h)
          have Z2_1 := Lib.hid hz1
          have Q2 := Lib.hid (show w.heap.size ≤ q2 by have := K0.out.size; omega)
          clear hz1 hk1 hq2 hw1
          apply Wg.wpAnyP_one (i := 0) (fuel := 5) (by kernel_rfl) rfl rfl
          go_simp
          refine ⟨trivial, ?_⟩
          have hz2 := zint_alloc W1
          have hk2 : Keeps (fun _ => False) W1 (W1.alloc (.cells #[.bool false, .slice none 0 0] 81)) := (Keeps.refl _ _).alloc _
          obtain ⟨q1, hq1⟩ : ∃ q, W1.heap.size = q := ⟨_, rfl⟩
          rw [hq1] at hz2 ⊢
          generalize hw2 : W1.alloc (.cells #[.bool false, .slice none 0 0] 81) = W2 at *
          have K2 := Lib.hid (K1.out.trans hk2 fun _ h => .inl h)
          have Z1_2 := Lib.hid hz2
          have Q1 := Lib.hid (show w.heap.size ≤ q1 by have := K1.out.size; omega)
          have N12 := Lib.hid (show q1 ≠ q2 by have := zint_lt Z2_1.out; omega)
          have Z2_2 := Lib.hid (zint_later Z2_1.out hk2)
          clear hz2 hk2 hq1 hw2
          apply Wg.wpAnyP_one (i := 6) (fuel := 4) (by kernel_rfl) rfl rfl
          go_simp
          refine Wg.plain_call (imul_new Z1_2.out (Ixa.out.later K2.out) (Iyb.out.later K2.out) Lxa.out Lyb.out) ?_
          rintro e W3 ⟨rfl, hb3, hk3⟩
          refine ⟨_, rfl, trivial, ?_⟩
          have Z2_3 := Lib.hid (zint_other Z2_2.out hk3 (by first | exact N21.out | exact N12.out.symm))
          have K3 := Lib.hid (K2.out.fresh hk3 Q1.out)
          have B1_3 := Lib.hid hb3
          clear hb3 hk3
          apply Wg.wpAnyP_one (i := 12) (fuel := 3) (by kernel_rfl) rfl rfl
          go_simp
          refine Wg.plain_call (den_any (Rx.out.later K3.out) Px.out) ?_
          rintro e w' ⟨rfl, hw'⟩
          rw [hw']
          clear hw' w'
          refine ⟨_, rfl, trivial, ?_⟩
          apply Wg.wpAnyP_one (i := 13) (fuel := 2) (by kernel_rfl) rfl rfl
          go_simp
          refine Wg.plain_call (imul_new Z2_3.out (Iya.out.later K3.out) (Ixb.out.later K3.out) Lya.out Lxb.out) ?_
          rintro e W4 ⟨rfl, hb4, hk4⟩
          refine ⟨_, rfl, trivial, ?_⟩
          have B1_4 := Lib.hid (BInt.other B1_3.out Z2_3.out (by decide) hk4 (by first | exact N12.out | exact N21.out.symm))
          have K4 := Lib.hid (K3.out.fresh hk4 Q2.out)
          have B2_4 := Lib.hid hb4
          clear hb4 hk4
          apply Wg.wpAnyP_one (i := 14) (fuel := 1) (by kernel_rfl) rfl rfl
          go_simp
          refine Wg.plain_call (icmp_any B1_4.out.at_ B2_4.out.at_ (Nat.le_trans LN.out (by omega))) ?_
          rintro e W5 ⟨rfl, q9, hw9⟩
          refine ⟨_, rfl, trivial, ?_⟩
          have HN5 := Lib.hid (show Keeps (fun _ => False) w W5 from hw9 ▸ K4.out.drewN q9)
          clear hw9
          apply Wg.wpAnyP_one (i := 15) (fuel := 0) (by kernel_rfl) rfl rfl
          go_simp
          refine ⟨trivial, by kernel_rfl, ?_⟩
          go_simp
          go_wp2_with fail
          go_ret
          exact ⟨rfl, HN5.out⟩
      · skip
        go_simp
        refine ⟨trivial, ?_⟩
        have hz1 := zint_alloc W
        have hk1 : Keeps (fun _ => False) W (W.alloc (.cells #[.bool false, .slice none 0 0] 81)) := (Keeps.refl _ _).alloc _
        obtain ⟨q2, hq2⟩ : ∃ q, W.heap.size = q := ⟨_, rfl⟩
        rw [hq2] at hz1 ⊢
        generalize hw1 : W.alloc (.cells #[.bool false, .slice none 0 0] 81) = W1 at *
        have K1 := Lib.hid (K0.out.trans hk1 fun _ h => .inl h)
        have Z2_1 := Lib.hid hz1
        have Q2 := Lib.hid (show w.heap.size ≤ q2 by have := K0.out.size; omega)
        clear hz1 hk1 hq2 hw1
        apply Wg.wpAnyP_two (i := 0) (k := 5) (fuel := 6) (by kernel_rfl) rfl rfl rfl rfl
        · skip
          go_simp
          refine ⟨trivial, ?_⟩
          have hz2 := zint_alloc W1
          have hk2 : Keeps (fun _ => False) W1 (W1.alloc (.cells #[.bool false, .slice none 0 0] 81)) := (Keeps.refl _ _).alloc _
          obtain ⟨q1, hq1⟩ : ∃ q, W1.heap.size = q := ⟨_, rfl⟩
          rw [hq1] at hz2 ⊢
          generalize hw2 : W1.alloc (.cells #[.bool false, .slice none 0 0] 81) = W2 at *
          have K2 := Lib.hid (K1.out.trans hk2 fun _ h => .inl h)
          have Z1_2 := Lib.hid hz2
          have Q1 := Lib.hid (show w.heap.size ≤ q1 by have := K1.out.size; omega)
          have N12 := Lib.hid (show q1 ≠ q2 by have := zint_lt Z2_1.out; omega)
          have Z2_2 := Lib.hid (zint_later Z2_1.out hk2)
          clear hz2 hk2 hq1 hw2
          apply Wg.wpAnyP_one (i := 5) (fuel := 5) (by kernel_rfl) rfl rfl
          go_simp
          refine Wg.plain_call (den_any (Ry.out.later K2.out) Py.out) ?_
          rintro e w' ⟨rfl, hw'⟩
          rw [hw']
          clear hw' w'
          refine ⟨_, rfl, trivial, ?_⟩
          apply Wg.wpAnyP_one (i := 6) (fuel := 4) (by kernel_rfl) rfl rfl
          go_simp
          refine Wg.plain_call (imul_new Z1_2.out (Ixa.out.later K2.out) (Iyb.out.later K2.out) Lxa.out Lyb.out) ?_
          rintro e W3 ⟨rfl, hb3, hk3⟩
          refine ⟨_, rfl, trivial, ?_⟩
          have Z2_3 := Lib.hid (zint_other Z2_2.out hk3 (by first | exact N21.out | exact N12.out.symm))
          have K3 := Lib.hid (K2.out.fresh hk3 Q1.out)
          have B1_3 := Lib.hid hb3
          clear hb3 hk3
          apply Wg.wpAnyP_one (i := 12) (fuel := 3) (by kernel_rfl) rfl rfl
          go_simp
          refine Wg.plain_call (den_any (Rx.out.later K3.out) Px.out) ?_
          rintro e w' ⟨rfl, hw'⟩
          rw [hw']
          clear hw' w'
          refine ⟨_, rfl, trivial, ?_⟩
          apply Wg.wpAnyP_one (i := 13) (fuel := 2) (by kernel_rfl) rfl rfl
          go_simp
          refine Wg.plain_call (imul_new Z2_3.out (Iya.out.later K3.out) (Ixb.out.later K3.out) Lya.out Lxb.out) ?_
          rintro e W4 ⟨rfl, hb4, hk4⟩
          refine ⟨_, rfl, trivial, ?_⟩
          have B1_4 := Lib.hid (BInt.other B1_3.out Z2_3.out (by decide) hk4 (by first | exact N12.out | exact N21.out.symm))
          have K4 := Lib.hid (K3.out.fresh hk4 Q2.out)
          have B2_4 := Lib.hid hb4
          clear hb4 hk4
          apply Wg.wpAnyP_one (i := 14) (fuel := 1) (by kernel_rfl) rfl rfl
          go_simp
          refine Wg.plain_call (icmp_any B1_4.out.at_ B2_4.out.at_ (Nat.le_trans LN.out (by omega))) ?_
          rintro e W5 ⟨rfl, q9, hw9⟩
          refine ⟨_, rfl, trivial, ?_⟩
          have HN5 := Lib.hid (show Keeps (fun _ => False) w W5 from hw9 ▸ K4.out.drewN q9)
          clear hw9
          apply Wg.wpAnyP_one (i := 15) (fuel := 0) (by kernel_rfl) rfl rfl
          go_simp
          refine ⟨trivial, by kernel_rfl, ?_⟩
          go_simp
          go_wp2_with fail
          go_ret
          exact ⟨rfl, HN5.out⟩
        · skip
          go_simp
          refine Wg.plain_call (den_any (Ry.out.later K1.out) Py.out) ?_
          rintro e w' ⟨rfl, hw'⟩
          rw [hw']
          clear hw' w'
          refine ⟨_, rfl, trivial, ?_⟩
          apply Wg.wpAnyP_one (i := 0) (fuel := 5) (by kernel_rfl) rfl rfl
          go_simp
          refine ⟨trivial, ?_⟩
          have hz2 := zint_alloc W1
          have hk2 : Keeps (fun _ => False) W1 (W1.alloc (.cells #[.bool false, .slice none 0 0] 81)) := (Keeps.refl _ _).alloc _
          obtain ⟨q1, hq1⟩ : ∃ q, W1.heap.size = q := ⟨_, rfl⟩
          rw [hq1] at hz2 ⊢
          generalize hw2 : W1.alloc (.cells #[.bool false, .slice none 0 0] 81) = W2 at *
          have K2 := Lib.hid (K1.out.trans hk2 fun _ h => .inl h)
          have Z1_2 := Lib.hid hz2
          have Q1 := Lib.hid (show w.heap.size ≤ q1 by have := K1.out.size; omega)
          have N12 := Lib.hid (show q1 ≠ q2 by have := zint_lt Z2_1.out; omega)
          have Z2_2 := Lib.hid (zint_later Z2_1.out hk2)
          clear hz2 hk2 hq1 hw2
          apply Wg.wpAnyP_one (i := 6) (fuel := 4) (by kernel_rfl) rfl rfl
          go_simp
          refine Wg.plain_call (imul_new Z1_2.out (Ixa.out.later K2.out) (Iyb.out.later K2.out) Lxa.out Lyb.out) ?_
          rintro e W3 ⟨rfl, hb3, hk3⟩
          refine ⟨_, rfl, trivial, ?_⟩
          have Z2_3 := Lib.hid (zint_other Z2_2.out hk3 (by first | exact N21.out | exact N12.out.symm))
          have K3 := Lib.hid (K2.out.fresh hk3 Q1.out)
          have B1_3 := Lib.hid hb3
          clear hb3 hk3
          apply Wg.wpAnyP_one (i := 12) (fuel := 3) (by kernel_rfl) rfl rfl
          go_simp
          refine Wg.plain_call (den_any (Rx.out.later K3.out) Px.out) ?_
          rintro e w' ⟨rfl, hw'⟩
          rw [hw']
          clear hw' w'
          refine ⟨_, rfl, trivial, ?_⟩
          apply Wg.wpAnyP_one (i := 13) (fuel := 2) (by kernel_rfl) rfl rfl
          go_simp
          refine Wg.plain_call (imul_new Z2_3.out (Iya.out.later K3.out) (Ixb.out.later K3.out) Lya.out Lxb.out) ?_
          rintro e W4 ⟨rfl, hb4, hk4⟩
          refine ⟨_, rfl, trivial, ?_⟩
          have B1_4 := Lib.hid (BInt.other B1_3.out Z2_3.out (by decide) hk4 (by first | exact N12.out | exact N21.out.symm))
          have K4 := Lib.hid (K3.out.fresh hk4 Q2.out)
          have B2_4 := Lib.hid hb4
          clear hb4 hk4
          apply Wg.wpAnyP_one (i := 14) (fuel := 1) (by kernel_rfl) rfl rfl
          go_simp
          refine Wg.plain_call (icmp_any B1_4.out.at_ B2_4.out.at_ (Nat.le_trans LN.out (by omega))) ?_
          rintro e W5 ⟨rfl, q9, hw9⟩
          refine ⟨_, rfl, trivial, ?_⟩
          have HN5 := Lib.hid (show Keeps (fun _ => False) w W5 from hw9 ▸ K4.out.drewN q9)
          clear hw9
          apply Wg.wpAnyP_one (i := 15) (fuel := 0) (by kernel_rfl) rfl rfl
          go_simp
          refine ⟨trivial, by kernel_rfl, ?_⟩
          go_simp
          go_wp2_with fail
          go_ret
          exact ⟨rfl, HN5.out⟩

end Go.Proofs.YtnihfhfakadepaaGreatDoor
