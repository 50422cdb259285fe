/- Package verdictbig: the product of two fractions. -/
import Derived.Test.YtnihfhfakadepaaGreatDoorXBigC
namespace Go.Proofs.YtnihfhfakadepaaGreatDoor
open Go.RowKit

/-- A new whole number, not yet given. -/
def ZInt (w : World) (q : Nat) : Prop := w.heap[q]? = some (.cells #[.bool false, .slice none 0 0] 81 (0, 0))
theorem zint_alloc (w : World) : ZInt (w.alloc (.cells #[.bool false, .slice none 0 0] 81)) w.heap.size := heap_alloc_new _ _
theorem zint_later {w w' : World} {q : Nat} (h : ZInt w q) (hk : Keeps (fun _ => False) w w') : ZInt w' q := hk.blk h
theorem zint_other {w w' : World} {q r : Nat} (h : ZInt w q) (hk : Keeps (fun k => k = r) w w') (hne : q ≠ r) : ZInt w' q := (hk.block q (row_lt h) hne).trans h
theorem zint_lt {w : World} {q : Nat} (h : ZInt w q) : q < w.heap.size := row_lt h

theorem imul_new {w : World} {q b1 o1 b2 o2 : Nat} {x y : Int} (hz : ZInt w q) (h1 : IntAt w b1 o1 x) (h2 : IntAt w b2 o2 y) (hl : (digs 4294967296 x.natAbs).length ≤ 400) (hl2 : (digs 4294967296 y.natAbs).length ≤ 400) :
    Calls Tryz.prog 58 #[.pointer (some ⟨q, 0, none⟩), .pointer (some ⟨b1, o1, none⟩), .pointer (some ⟨b2, o2, none⟩)] w fun e w' => e = .returned (.pointer (some ⟨q, 0, none⟩)) ∧ BInt w' q (x * y) ∧ Keeps (fun k => k = q) w w' := by
  refine (imul_any h1 h2 hl hl2 (slot_of hz (o := 0) (by simp)) (slot_of hz (o := 0 + 1) (by simp))).mono ?_
  rintro e w' ⟨rfl, hg⟩
  exact ⟨rfl, hg.bint hz⟩

theorem normed_trans {w w1 w2 : World} {p : Nat} {a b : Int} (hk : Keeps (fun _ => False) w w1) (h : Normed w1 p a b w2) : Normed w p a b w2 := by
  obtain ⟨a', b', h1, h2, h3, h4, h5, h6⟩ := h
  exact ⟨a', b', h1, h2, h3, h4, h5, (hk.mono (S' := fun k => k = p) fun _ h => h.elim).trans h6 fun _ h => .inl h⟩

set_option maxRecDepth 100000 in
set_option maxHeartbeats 8000000 in
theorem rmul_any (hdiv : DivSays) {w : World} {p p1 p2 : Nat} {a b c d : Int} {u0 u1 u2 u3 : Value} (hz : w.heap[p]? = some (.cells #[u0, u1, u2, u3] 83 (0, 0))) (hx : BRat w p1 a b) (hy : BRat w p2 c d) (hb : 0 < b) (hd : 0 < d)
    (la : (digs 4294967296 a.natAbs).length ≤ 400) (lb : (digs 4294967296 b.natAbs).length ≤ 400) (lc : (digs 4294967296 c.natAbs).length ≤ 400) (ld : (digs 4294967296 d.natAbs).length ≤ 400)
    (hn : (digs 4294967296 (a * c).natAbs).length ≤ 390) (hm : (digs 4294967296 (b * d).natAbs).length ≤ 390) (hs : (a * c).natAbs < 18446744073709551616 ∨ (b * d).natAbs < 18446744073709551616) :
    Calls Tryz.prog 53 #[.pointer (some ⟨p, 0, none⟩), .pointer (some ⟨p1, 0, none⟩), .pointer (some ⟨p2, 0, none⟩)] w fun e w' => e = .returned (.pointer (some ⟨p, 0, none⟩)) ∧ Normed w p (a * c) (b * d) w' := by
  have HZ := Lib.hid hz; have Rx := Lib.hid hx; have Ry := Lib.hid hy; have Px := Lib.hid hb; have Py := Lib.hid hd
  have Lxa := Lib.hid la; have Lxb := Lib.hid lb; have Lya := Lib.hid lc; have Lyb := Lib.hid ld
  have LN := Lib.hid hn; have LD := Lib.hid hm; have SM := Lib.hid hs; have PM := Lib.hid (Int.mul_pos hb hd)
  have Ixa := Lib.hid hx.a; have Ixb := Lib.hid hx.b; have Iya := Lib.hid hy.a; have Iyb := Lib.hid hy.b
  clear hz hx hy hb hd la lb lc ld hn hm hs
  go_enter Tryz.func53, Tryz.ntmps53
  go_wp2_with fail
  refine Wg.wp_region_first (C := fun _ => True) (by kernel_rfl) 16 ?_
  have K0 := Lib.hid (show Keeps (fun _ => False) w { w with drawn := w.drawn + 1 } from (Keeps.refl _ w).drew)
  generalize { w with drawn := w.drawn + 1 } = W at *
  apply Wg.wpAnyP_stays (by kernel_rfl) [0, 2, 3, 4, 5, 6, 7, 10, 12] _ _ _ 8 _ trivial (by kernel_rfl) ?hs ?hr
  case hs =>
    repeat (apply Wg.wpStays_step rfl rfl; (intro w' hw'; clear hw'; go_simp; exact ⟨rfl, rfl⟩); go_simp)
    exact rfl
  case hr =>
    apply Wg.wpAnyP_two (i := 1) (k := 9) (fuel := 7) (by kernel_rfl) rfl rfl rfl rfl
    · skip
      go_simp
      refine ⟨trivial, ?_⟩
      have hz1 := zint_alloc W
      have hk1 : Keeps (fun _ => False) W (W.alloc (.cells #[.bool false, .slice none 0 0] 81)) := (Keeps.refl _ _).alloc _
      obtain ⟨q1, hq1⟩ : ∃ q, W.heap.size = q := ⟨_, rfl⟩
      rw [hq1] at hz1 ⊢
      generalize hw1 : W.alloc (.cells #[.bool false, .slice none 0 0] 81) = W1 at *
      have K1 := Lib.hid (K0.out.trans hk1 fun _ h => .inl h)
      have Z1_1 := Lib.hid hz1
      have Q1 := Lib.hid (show w.heap.size ≤ q1 by have := K0.out.size; omega)
      clear hz1 hk1 hq1 hw1
      apply Wg.wpAnyP_two (i := 8) (k := 9) (fuel := 6) (by kernel_rfl) rfl rfl rfl rfl
      · skip
        go_simp
        refine Wg.plain_call (imul_new Z1_1.out (Ixa.out.later K1.out) (Iya.out.later K1.out) Lxa.out Lya.out) ?_
        rintro e W2 ⟨rfl, hb2, hk2⟩
        refine ⟨_, rfl, trivial, ?_⟩
        have K2 := Lib.hid (K1.out.fresh hk2 Q1.out)
        have B1_2 := Lib.hid hb2
        clear hb2 hk2
        apply Wg.wpAnyP_two (i := 9) (k := 11) (fuel := 5) (by kernel_rfl) rfl rfl rfl rfl
        · skip
          go_simp
          refine ⟨trivial, ?_⟩
          have hz3 := zint_alloc W2
          have hk3 : Keeps (fun _ => False) W2 (W2.alloc (.cells #[.bool false, .slice none 0 0] 81)) := (Keeps.refl _ _).alloc _
          obtain ⟨q2, hq2⟩ : ∃ q, W2.heap.size = q := ⟨_, rfl⟩
          rw [hq2] at hz3 ⊢
          generalize hw3 : W2.alloc (.cells #[.bool false, .slice none 0 0] 81) = W3 at *
          have K3 := Lib.hid (K2.out.trans hk3 fun _ h => .inl h)
          have Z2_3 := Lib.hid hz3
          have Q2 := Lib.hid (show w.heap.size ≤ q2 by have := K2.out.size; omega)
          have N21 := Lib.hid (show q2 ≠ q1 by have := BInt.lt B1_2.out; omega)
          have B1_3 := Lib.hid (BInt.later B1_2.out hk3)
          clear hz3 hk3 hq2 hw3
          apply Wg.wpAnyP_one (i := 11) (fuel := 4) (by kernel_rfl) rfl rfl
          go_simp
          refine Wg.plain_call (den_any (Rx.out.later K3.out) Px.out) ?_
          rintro e w' ⟨rfl, hw'⟩
          rw [hw']
          clear hw' w'
          refine ⟨_, rfl, trivial, ?_⟩
          apply Wg.wpAnyP_one (i := 13) (fuel := 3) (by kernel_rfl) rfl rfl
          go_simp
          refine Wg.plain_call (den_any (Ry.out.later K3.out) Py.out) ?_
          rintro e w' ⟨rfl, hw'⟩
          rw [hw']
          clear hw' w'
          refine ⟨_, rfl, trivial, ?_⟩
          apply Wg.wpAnyP_one (i := 14) (fuel := 2) (by kernel_rfl) rfl rfl
          go_simp
          refine Wg.plain_call (imul_new Z2_3.out (Ixb.out.later K3.out) (Iyb.out.later K3.out) Lxb.out Lyb.out) ?_
          rintro e W4 ⟨rfl, hb4, hk4⟩
          refine ⟨_, rfl, trivial, ?_⟩
          have B1_4 := Lib.hid (BInt.other B1_3.out Z2_3.out (by decide) hk4 (by first | exact N12.out | exact N21.out.symm))
          have K4 := Lib.hid (K3.out.fresh hk4 Q2.out)
          have B2_4 := Lib.hid hb4
          clear hb4 hk4
          apply Wg.wpAnyP_one (i := 15) (fuel := 1) (by kernel_rfl) rfl rfl
          go_simp
          refine Wg.plain_call (setFrac_any hdiv (K4.out.blk HZ.out) B1_4.out.at_ B2_4.out.at_ PM.out LN.out LD.out SM.out) ?_
          rintro e W5 ⟨rfl, hn5⟩
          refine ⟨_, rfl, trivial, ?_⟩
          have HN5 := Lib.hid (normed_trans K4.out hn5)
          clear hn5
          apply Wg.wpAnyP_one (i := 16) (fuel := 0) (by kernel_rfl) rfl rfl
          go_simp
          refine ⟨trivial, by kernel_rfl, ?_⟩
          go_simp
          go_wp2_with fail
          go_ret
          exact ⟨rfl, HN5.out⟩
        · skip
          go_simp
          refine Wg.plain_call (den_any (Rx.out.later K2.out) Px.out) ?_
          rintro e w' ⟨rfl, hw'⟩
          rw [hw']
          clear hw' w'
          refine ⟨_, rfl, trivial, ?_⟩
          apply Wg.wpAnyP_two (i := 9) (k := 13) (fuel := 4) (by kernel_rfl) rfl rfl rfl rfl
          · skip
            go_simp
            refine ⟨trivial, ?_⟩
            have hz3 := zint_alloc W2
            have hk3 : Keeps (fun _ => False) W2 (W2.alloc (.cells #[.bool false, .slice none 0 0] 81)) := (Keeps.refl _ _).alloc _
            obtain ⟨q2, hq2⟩ : ∃ q, W2.heap.size = q := ⟨_, rfl⟩
            rw [hq2] at hz3 ⊢
            generalize hw3 : W2.alloc (.cells #[.bool false, .slice none 0 0] 81) = W3 at *
            have K3 := Lib.hid (K2.out.trans hk3 fun _ h => .inl h)
            have Z2_3 := Lib.hid hz3
            have Q2 := Lib.hid (show w.heap.size ≤ q2 by have := K2.out.size; omega)
            have N21 := Lib.hid (show q2 ≠ q1 by have := BInt.lt B1_2.out; omega)
            have B1_3 := Lib.hid (BInt.later B1_2.out hk3)
            clear hz3 hk3 hq2 hw3
            apply Wg.wpAnyP_one (i := 13) (fuel := 3) (by kernel_rfl) rfl rfl
            go_simp
            refine Wg.plain_call (den_any (Ry.out.later K3.out) Py.out) ?_
            rintro e w' ⟨rfl, hw'⟩
            rw [hw']
            clear hw' w'
            refine ⟨_, rfl, trivial, ?_⟩
            apply Wg.wpAnyP_one (i := 14) (fuel := 2) (by kernel_rfl) rfl rfl
            go_simp
            refine Wg.plain_call (imul_new Z2_3.out (Ixb.out.later K3.out) (Iyb.out.later K3.out) Lxb.out Lyb.out) ?_
            rintro e W4 ⟨rfl, hb4, hk4⟩
            refine ⟨_, rfl, trivial, ?_⟩
            have B1_4 := Lib.hid (BInt.other B1_3.out Z2_3.out (by decide) hk4 (by first | exact N12.out | exact N21.out.symm))
            have K4 := Lib.hid (K3.out.fresh hk4 Q2.out)
            have B2_4 := Lib.hid hb4
            clear hb4 hk4
            apply Wg.wpAnyP_one (i := 15) (fuel := 1) (by kernel_rfl) rfl rfl
            go_simp
            refine Wg.plain_call (setFrac_any hdiv (K4.out.blk HZ.out) B1_4.out.at_ B2_4.out.at_ PM.out LN.out LD.out SM.out) ?_
            rintro e W5 ⟨rfl, hn5⟩
            refine ⟨_, rfl, trivial, ?_⟩
            have HN5 := Lib.hid (normed_trans K4.out hn5)
            clear hn5
            apply Wg.wpAnyP_one (i := 16) (fuel := 0) (by kernel_rfl) rfl rfl
            go_simp
            refine ⟨trivial, by kernel_rfl, ?_⟩
            go_simp
            go_wp2_with fail
            go_ret
            exact ⟨rfl, HN5.out⟩
          · skip
            go_simp
            refine Wg.plain_call (den_any (Ry.out.later K2.out) Py.out) ?_
            rintro e w' ⟨rfl, hw'⟩
            rw [hw']
            clear hw' w'
            refine ⟨_, rfl, trivial, ?_⟩
            apply Wg.wpAnyP_one (i := 9) (fuel := 3) (by kernel_rfl) rfl rfl
            go_simp
            refine ⟨trivial, ?_⟩
            have hz3 := zint_alloc W2
            have hk3 : Keeps (fun _ => False) W2 (W2.alloc (.cells #[.bool false, .slice none 0 0] 81)) := (Keeps.refl _ _).alloc _
            obtain ⟨q2, hq2⟩ : ∃ q, W2.heap.size = q := ⟨_, rfl⟩
            rw [hq2] at hz3 ⊢
            generalize hw3 : W2.alloc (.cells #[.bool false, .slice none 0 0] 81) = W3 at *
            have K3 := Lib.hid (K2.out.trans hk3 fun _ h => .inl h)
            have Z2_3 := Lib.hid hz3
            have Q2 := Lib.hid (show w.heap.size ≤ q2 by have := K2.out.size; omega)
            have N21 := Lib.hid (show q2 ≠ q1 by have := BInt.lt B1_2.out; omega)
            have B1_3 := Lib.hid (BInt.later B1_2.out hk3)
            clear hz3 hk3 hq2 hw3
            apply Wg.wpAnyP_one (i := 14) (fuel := 2) (by kernel_rfl) rfl rfl
            go_simp
            refine Wg.plain_call (imul_new Z2_3.out (Ixb.out.later K3.out) (Iyb.out.later K3.out) Lxb.out Lyb.out) ?_
            rintro e W4 ⟨rfl, hb4, hk4⟩
            refine ⟨_, rfl, trivial, ?_⟩
            have B1_4 := Lib.hid (BInt.other B1_3.out Z2_3.out (by decide) hk4 (by first | exact N12.out | exact N21.out.symm))
            have K4 := Lib.hid (K3.out.fresh hk4 Q2.out)
            have B2_4 := Lib.hid hb4
            clear hb4 hk4
            apply Wg.wpAnyP_one (i := 15) (fuel := 1) (by kernel_rfl) rfl rfl
            go_simp
            refine Wg.plain_call (setFrac_any hdiv (K4.out.blk HZ.out) B1_4.out.at_ B2_4.out.at_ PM.out LN.out LD.out SM.out) ?_
            rintro e W5 ⟨rfl, hn5⟩
            refine ⟨_, rfl, trivial, ?_⟩
            have HN5 := Lib.hid (normed_trans K4.out hn5)
            clear hn5
            apply Wg.wpAnyP_one (i := 16) (fuel := 0) (by kernel_rfl) rfl rfl
            go_simp
            refine ⟨trivial, by kernel_rfl, ?_⟩
            go_simp
            go_wp2_with fail
            go_ret
            exact ⟨rfl, HN5.out⟩
      · skip
        go_simp
        refine ⟨trivial, ?_⟩
        have hz2 := zint_alloc W1
        have hk2 : Keeps (fun _ => False) W1 (W1.alloc (.cells #[.bool false, .slice none 0 0] 81)) := (Keeps.refl _ _).alloc _
        obtain ⟨q2, hq2⟩ : ∃ q, W1.heap.size = q := ⟨_, rfl⟩
        rw [hq2] at hz2 ⊢
        generalize hw2 : W1.alloc (.cells #[.bool false, .slice none 0 0] 81) = W2 at *
        have K2 := Lib.hid (K1.out.trans hk2 fun _ h => .inl h)
        have Z2_2 := Lib.hid hz2
        have Q2 := Lib.hid (show w.heap.size ≤ q2 by have := K1.out.size; omega)
        have N21 := Lib.hid (show q2 ≠ q1 by have := zint_lt Z1_1.out; omega)
        have Z1_2 := Lib.hid (zint_later Z1_1.out hk2)
        clear hz2 hk2 hq2 hw2
        apply Wg.wpAnyP_one (i := 8) (fuel := 5) (by kernel_rfl) rfl rfl
        go_simp
        refine Wg.plain_call (imul_new Z1_2.out (Ixa.out.later K2.out) (Iya.out.later K2.out) Lxa.out Lya.out) ?_
        rintro e W3 ⟨rfl, hb3, hk3⟩
        refine ⟨_, rfl, trivial, ?_⟩
        have Z2_3 := Lib.hid (zint_other Z2_2.out hk3 (by first | exact N21.out | exact N12.out.symm))
        have K3 := Lib.hid (K2.out.fresh hk3 Q1.out)
        have B1_3 := Lib.hid hb3
        clear hb3 hk3
        apply Wg.wpAnyP_one (i := 11) (fuel := 4) (by kernel_rfl) rfl rfl
        go_simp
        refine Wg.plain_call (den_any (Rx.out.later K3.out) Px.out) ?_
        rintro e w' ⟨rfl, hw'⟩
        rw [hw']
        clear hw' w'
        refine ⟨_, rfl, trivial, ?_⟩
        apply Wg.wpAnyP_one (i := 13) (fuel := 3) (by kernel_rfl) rfl rfl
        go_simp
        refine Wg.plain_call (den_any (Ry.out.later K3.out) Py.out) ?_
        rintro e w' ⟨rfl, hw'⟩
        rw [hw']
        clear hw' w'
        refine ⟨_, rfl, trivial, ?_⟩
        apply Wg.wpAnyP_one (i := 14) (fuel := 2) (by kernel_rfl) rfl rfl
        go_simp
        refine Wg.plain_call (imul_new Z2_3.out (Ixb.out.later K3.out) (Iyb.out.later K3.out) Lxb.out Lyb.out) ?_
        rintro e W4 ⟨rfl, hb4, hk4⟩
        refine ⟨_, rfl, trivial, ?_⟩
        have B1_4 := Lib.hid (BInt.other B1_3.out Z2_3.out (by decide) hk4 (by first | exact N12.out | exact N21.out.symm))
        have K4 := Lib.hid (K3.out.fresh hk4 Q2.out)
        have B2_4 := Lib.hid hb4
        clear hb4 hk4
        apply Wg.wpAnyP_one (i := 15) (fuel := 1) (by kernel_rfl) rfl rfl
        go_simp
        refine Wg.plain_call (setFrac_any hdiv (K4.out.blk HZ.out) B1_4.out.at_ B2_4.out.at_ PM.out LN.out LD.out SM.out) ?_
        rintro e W5 ⟨rfl, hn5⟩
        refine ⟨_, rfl, trivial, ?_⟩
        have HN5 := Lib.hid (normed_trans K4.out hn5)
        clear hn5
        apply Wg.wpAnyP_one (i := 16) (fuel := 0) (by kernel_rfl) rfl rfl
        go_simp
        refine ⟨trivial, by kernel_rfl, ?_⟩
        go_simp
        go_wp2_with fail
        go_ret
        exact ⟨rfl, HN5.out⟩
    · skip
      go_simp
      refine ⟨trivial, ?_⟩
      have hz1 := zint_alloc W
      have hk1 : Keeps (fun _ => False) W (W.alloc (.cells #[.bool false, .slice none 0 0] 81)) := (Keeps.refl _ _).alloc _
      obtain ⟨q2, hq2⟩ : ∃ q, W.heap.size = q := ⟨_, rfl⟩
      rw [hq2] at hz1 ⊢
      generalize hw1 : W.alloc (.cells #[.bool false, .slice none 0 0] 81) = W1 at *
      have K1 := Lib.hid (K0.out.trans hk1 fun _ h => .inl h)
      have Z2_1 := Lib.hid hz1
      have Q2 := Lib.hid (show w.heap.size ≤ q2 by have := K0.out.size; omega)
      clear hz1 hk1 hq2 hw1
      apply Wg.wpAnyP_one (i := 1) (fuel := 6) (by kernel_rfl) rfl rfl
      go_simp
      refine ⟨trivial, ?_⟩
      have hz2 := zint_alloc W1
      have hk2 : Keeps (fun _ => False) W1 (W1.alloc (.cells #[.bool false, .slice none 0 0] 81)) := (Keeps.refl _ _).alloc _
      obtain ⟨q1, hq1⟩ : ∃ q, W1.heap.size = q := ⟨_, rfl⟩
      rw [hq1] at hz2 ⊢
      generalize hw2 : W1.alloc (.cells #[.bool false, .slice none 0 0] 81) = W2 at *
      have K2 := Lib.hid (K1.out.trans hk2 fun _ h => .inl h)
      have Z1_2 := Lib.hid hz2
      have Q1 := Lib.hid (show w.heap.size ≤ q1 by have := K1.out.size; omega)
      have N12 := Lib.hid (show q1 ≠ q2 by have := zint_lt Z2_1.out; omega)
      have Z2_2 := Lib.hid (zint_later Z2_1.out hk2)
      clear hz2 hk2 hq1 hw2
      apply Wg.wpAnyP_one (i := 8) (fuel := 5) (by kernel_rfl) rfl rfl
      go_simp
      refine Wg.plain_call (imul_new Z1_2.out (Ixa.out.later K2.out) (Iya.out.later K2.out) Lxa.out Lya.out) ?_
      rintro e W3 ⟨rfl, hb3, hk3⟩
      refine ⟨_, rfl, trivial, ?_⟩
      have Z2_3 := Lib.hid (zint_other Z2_2.out hk3 (by first | exact N21.out | exact N12.out.symm))
      have K3 := Lib.hid (K2.out.fresh hk3 Q1.out)
      have B1_3 := Lib.hid hb3
      clear hb3 hk3
      apply Wg.wpAnyP_one (i := 11) (fuel := 4) (by kernel_rfl) rfl rfl
      go_simp
      refine Wg.plain_call (den_any (Rx.out.later K3.out) Px.out) ?_
      rintro e w' ⟨rfl, hw'⟩
      rw [hw']
      clear hw' w'
      refine ⟨_, rfl, trivial, ?_⟩
      apply Wg.wpAnyP_one (i := 13) (fuel := 3) (by kernel_rfl) rfl rfl
      go_simp
      refine Wg.plain_call (den_any (Ry.out.later K3.out) Py.out) ?_
      rintro e w' ⟨rfl, hw'⟩
      rw [hw']
      clear hw' w'
      refine ⟨_, rfl, trivial, ?_⟩
      apply Wg.wpAnyP_one (i := 14) (fuel := 2) (by kernel_rfl) rfl rfl
      go_simp
      refine Wg.plain_call (imul_new Z2_3.out (Ixb.out.later K3.out) (Iyb.out.later K3.out) Lxb.out Lyb.out) ?_
      rintro e W4 ⟨rfl, hb4, hk4⟩
      refine ⟨_, rfl, trivial, ?_⟩
      have B1_4 := Lib.hid (BInt.other B1_3.out Z2_3.out (by decide) hk4 (by first | exact N12.out | exact N21.out.symm))
      have K4 := Lib.hid (K3.out.fresh hk4 Q2.out)
      have B2_4 := Lib.hid hb4
      clear hb4 hk4
      apply Wg.wpAnyP_one (i := 15) (fuel := 1) (by kernel_rfl) rfl rfl
      go_simp
      refine Wg.plain_call (setFrac_any hdiv (K4.out.blk HZ.out) B1_4.out.at_ B2_4.out.at_ PM.out LN.out LD.out SM.out) ?_
      rintro e W5 ⟨rfl, hn5⟩
      refine ⟨_, rfl, trivial, ?_⟩
      have HN5 := Lib.hid (normed_trans K4.out hn5)
      clear hn5
      apply Wg.wpAnyP_one (i := 16) (fuel := 0) (by kernel_rfl) rfl rfl
      go_simp
      refine ⟨trivial, by kernel_rfl, ?_⟩
      go_simp
      go_wp2_with fail
      go_ret
      exact ⟨rfl, HN5.out⟩

end Go.Proofs.YtnihfhfakadepaaGreatDoor
