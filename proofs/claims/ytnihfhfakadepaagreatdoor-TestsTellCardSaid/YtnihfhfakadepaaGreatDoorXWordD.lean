/- Package math/big: two lists of words compared; two whole numbers compared. Package math/big: a product of two whole numbers, from the product of their lists of words. Package math/big: a number of one word or none, times a number. Package dec: how many units of a power of ten a number has. Package dec: what is wrong with two numbers; which is less. -/
import Derived.Test.YtnihfhfakadepaaGreatDoorXWordC
import Derived.Test.YtnihfhfakadepaaGreatDoorXBigA
import Derived.Test.YtnihfhfakadepaaGreatDoorXPlainA
import Derived.Test.YtnihfhfakadepaaGreatDoorXRefA
import Derived.LaidEqlPtr
namespace Go.Proofs.YtnihfhfakadepaaGreatDoor
open Go.RowKit

theorem Buf.word {w : World} {A : Option Addr} {n c : Nat} {l : List Nat} (h : Buf w (.slice A n c) l) (hn : 0 < l.length) :
    ∃ g, A = some ⟨g, 0, none⟩ ∧ ∀ j (hj : j < l.length), w.cell? ⟨g, j, none⟩ = some (.int .u64 (l[j] : Int)) := by
  obtain ⟨g, L, e, hb, ht, hl⟩ := h.blk hn
  injection e with e1 e2 e3
  subst e1
  refine ⟨g, rfl, fun j hj => ?_⟩
  rw [hb.cell (j := j) (by omega)]
  have h1 : l[j]? = (L.take l.length)[j]? := by rw [ht]
  rw [List.getElem?_take, if_pos hj, List.getElem?_eq_getElem hj, List.getElem?_eq_getElem (by omega)] at h1
  injection h1 with h1
  rw [h1]

set_option maxRecDepth 100000 in
set_option maxHeartbeats 2000000 in
theorem gcmpw_any {w : World} {v1 v2 : Value} {n m : Nat} (h1 : BN w v1 n) (h2 : BN w v2 m) (hl : (digs 18446744073709551616 n).length ≤ 1000) :
    Calls Tryz.prog 69 #[v1, v2] w fun e w' => e = .returned (.int .i64 (cmpN n m)) ∧ ∃ q, w' = w.drewN q := by
  obtain ⟨A, c, rfl⟩ := h1.slice
  obtain ⟨A2, c2, rfl⟩ := h2.slice
  by_cases hlt : (digs 18446744073709551616 n).length < (digs 18446744073709551616 m).length
  · rw [cmpN_lt (digs_len_lt (by omega) hlt)]
    clear h1 h2
    generalize (digs 18446744073709551616 n).length = x at *
    generalize (digs 18446744073709551616 m).length = y at *
    have hne : ((x : Int) != (y : Int)) = true := by simp; omega
    go_enter Tryz.func69, Tryz.ntmps69
    go_wp2
    go_ret
    exact ⟨rfl, 0, rfl⟩
  by_cases hgt : (digs 18446744073709551616 m).length < (digs 18446744073709551616 n).length
  · rw [cmpN_gt (digs_len_lt (by omega) hgt)]
    clear h1 h2
    generalize (digs 18446744073709551616 n).length = x at *
    generalize (digs 18446744073709551616 m).length = y at *
    have hne : ((x : Int) != (y : Int)) = true := by simp; omega
    go_enter Tryz.func69, Tryz.ntmps69
    go_wp2
    go_ret
    exact ⟨rfl, 0, rfl⟩
  have hN := Lib.hid (dval_digs (B := 18446744073709551616) (by omega) n)
  have hM := Lib.hid (dval_digs (B := 18446744073709551616) (by omega) m)
  have hA := Lib.hid (digs_lt (B := 18446744073709551616) (by omega) n)
  have hB := Lib.hid (digs_lt (B := 18446744073709551616) (by omega) m)
  unfold BN at h1 h2
  generalize digs 18446744073709551616 n = a at *
  generalize digs 18446744073709551616 m = b at *
  obtain ⟨L, hL⟩ : ∃ L, a.length = L := ⟨_, rfl⟩
  have hL2 : b.length = L := by omega
  rw [hL] at hl
  rw [hL, hL2]
  have HL := Lib.hid hL; have HL2 := Lib.hid hL2
  have H1 := Lib.hid h1; have H2 := Lib.hid h2
  clear hL hL2 hlt hgt h1 h2
  rcases Nat.eq_zero_or_pos L with rfl | hL0
  · have hz : cmpN n m = 0 := by
      have ea : a = [] := List.length_eq_zero_iff.1 HL.out
      have eb : b = [] := List.length_eq_zero_iff.1 HL2.out
      rw [← hN.out, ← hM.out, ea, eb, cmpN_eq]
    rw [hz]
    clear hz H1 H2
    go_enter Tryz.func69, Tryz.ntmps69
    go_wp2
    go_ret
    exact ⟨rfl, 0, rfl⟩
  obtain ⟨g, rfl, hcell⟩ := H1.out.word (by rw [HL.out]; exact hL0)
  obtain ⟨g2, rfl, hcell2⟩ := H2.out.word (by rw [HL2.out]; exact hL0)
  have HC1 := Lib.hid hcell; have HC2 := Lib.hid hcell2
  have b0 : ((L : Int) == 0) = false := by rw [beq_eq_false_iff_ne]; omega
  clear hcell hcell2 H1 H2
  go_enter Tryz.func69, Tryz.ntmps69
  go_wp2
  go_loopw [7] (fun i wr => ∃ (k : Nat) (q : Nat), k < L ∧ i = .int .i64 (k : Int) ∧ wr = w.drewN q ∧ Hid (a.drop (k + 1) = b.drop (k + 1))) (fun i _ => (intOf i).toNat)
  case atStart => exact ⟨L - 1, 0, by omega, by go_num, rfl, Lib.hid (by rw [List.drop_of_length_le (by have := HL.out; omega), List.drop_of_length_le (by have := HL2.out; omega)])⟩
  case round =>
    obtain ⟨j, q, hk, rfl, rfl, he⟩ := hrel
    have hja : j < a.length := by have := HL.out; omega
    have hjb : j < b.length := by have := HL2.out; omega
    have d1 := HC1.out j hja
    have d2 := HC2.out j hjb
    have ga : a[j]? = some a[j] := List.getElem?_eq_getElem hja
    have gb : b[j]? = some b[j] := List.getElem?_eq_getElem hjb
    have ka := List.drop_eq_getElem_cons hja
    have kb := List.drop_eq_getElem_cons hjb
    generalize a[j] = x at *
    generalize b[j] = y at *
    have hst : Hid (x = y → a.drop j = b.drop j) := Lib.hid fun e => by rw [ka, kb, he.out, e]
    have hlt : Hid (x < y → cmpN n m = -1) := Lib.hid fun e => by rw [← hN.out, ← hM.out]; exact cmpN_lt (dval_less (by omega) hA.out ga gb he.out e)
    have hgt : Hid (y < x → cmpN n m = 1) := Lib.hid fun e => by rw [← hN.out, ← hM.out]; exact cmpN_gt (dval_less (by omega) hB.out gb ga he.out.symm e)
    clear ga gb ka kb he hja hjb
    rcases Nat.eq_zero_or_pos j with rfl | hj0
    · have hz : Hid (x = y → cmpN n m = 0) := Lib.hid fun e => by
        have e := hst.out e
        simp only [List.drop_zero] at e
        rw [← hN.out, ← hM.out, e, cmpN_eq]
      have g0 : decide ((0 : Int) > 0) = false := rfl
      clear hst
      rcases Nat.lt_trichotomy x y with h | h | h
      · go_upto_region 9 with fail
        go_quiet (fail)
        go_upto_region 11 with fail
        go_quiet (fail)
        go_wp2_with fail
        go_ret
        exact ⟨ret_int (hlt.out h).symm, _, by repeat rw [World.drewN_drewN]⟩
      · subst h
        go_upto_region 9 with fail
        go_quiet (fail)
        go_upto_region 11 with fail
        go_quiet (fail)
        go_upto_region 13 with fail
        go_quiet (fail)
        go_wp2_with fail
        go_ret
        exact ⟨ret_int (hz.out trivial).symm, _, by (repeat rw [World.drewN_drewN]); rfl⟩
      · go_upto_region 9 with fail
        go_quiet (fail)
        go_upto_region 11 with fail
        go_quiet (fail)
        go_upto_region 13 with fail
        go_quiet (fail)
        go_wp2_with fail
        go_ret
        exact ⟨ret_int (hgt.out h).symm, _, by repeat rw [World.drewN_drewN]⟩
    · have g0 : decide ((j : Int) > 0) = true := decide_eq_true (by omega)
      rcases Nat.lt_trichotomy x y with h | h | h
      · have b1 : ((x : Int) == (y : Int)) = false := by rw [beq_eq_false_iff_ne]; omega
        clear hst
        go_upto_region 9 with fail
        go_quiet (fail)
        go_upto_region 11 with fail
        go_quiet (fail)
        go_wp2_with fail
        go_ret
        exact ⟨ret_int (hlt.out h).symm, _, by repeat rw [World.drewN_drewN]⟩
      · subst h
        have HS := Lib.hid (hst.out rfl)
        clear hst hlt hgt
        go_upto_region 9 with fail
        go_quiet (fail)
        go_wp2_with fail
        go_roundw
        case measure => simp [intOf]; omega
        case rel => exact ⟨j - 1, _, by omega, by go_num, rfl, by rw [show j - 1 + 1 = j by omega]; exact HS⟩
      · have b1 : ((x : Int) == (y : Int)) = false := by rw [beq_eq_false_iff_ne]; omega
        clear hst
        go_upto_region 9 with fail
        go_quiet (fail)
        go_upto_region 11 with fail
        go_quiet (fail)
        go_upto_region 13 with fail
        go_quiet (fail)
        go_wp2_with fail
        go_ret
        exact ⟨ret_int (hgt.out h).symm, _, by repeat rw [World.drewN_drewN]⟩

set_option maxRecDepth 100000 in
set_option maxHeartbeats 2000000 in
theorem gCmp_any {w : World} {p1 p2 : Nat} {x y : Int} (h1 : GInt w p1 x) (h2 : GInt w p2 y) (hne : p1 ≠ p2) (hl : (digs 18446744073709551616 x.natAbs).length ≤ 1000) :
    Calls Tryz.prog 47 #[.pointer (some ⟨p1, 0, none⟩), .pointer (some ⟨p2, 0, none⟩)] w fun e w' => e = .returned (.int .i64 (cmpI x y)) ∧ ∃ q, w' = w.drewN q := by
  obtain ⟨v1, hb1, hv1⟩ := h1
  obtain ⟨v2, hb2, hv2⟩ := h2
  have heq : (binOp .eql 76 (.pointer (some ⟨p1, 0, none⟩)) (.pointer (some ⟨p2, 0, none⟩))).run Tryz.prog w = .ok (.bool false) w :=
    run_eql_ptr_other w Tryz.underlying76 (by kernel_rfl : Tryz.prog.info? 105 = some Tryz.t105) (by decide) (fun e => hne (congrArg Addr.block e)) hb1 hb2
  have a1 := cell_of_row w p1 0 _ _ _ hb1
  have c1 := cell_of_row w p1 1 _ _ _ hb1
  have a2 := cell_of_row w p2 0 _ _ _ hb2
  have c2 := cell_of_row w p2 1 _ _ _ hb2
  simp only [List.getElem?_toArray, List.getElem?_cons_zero, List.getElem?_cons_succ] at a1 a2 c1 c2
  have HC := Lib.hid (fun q => gcmpw_any (w := w.drewN q) (v1 := v1) (v2 := v2) (n := x.natAbs) (m := y.natAbs) hv1 hv2 hl)
  clear hb1 hb2 hv1 hv2 hl hne
  by_cases n1 : x < 0
  · by_cases n2 : y < 0
    · skip
      have HR := Lib.hid (cmpI_neg n1 n2)
      have hb := cmpN_bd x.natAbs y.natAbs
      generalize cmpN x.natAbs y.natAbs = c at *
      rw [decide_eq_true n1] at a1
      rw [decide_eq_true n2] at a2
      clear n1 n2
      go_enter Tryz.func47, Tryz.ntmps47
      go_upto_region 3 with fail
      go_quiet (fail)
      go_upto_region 4 with fail
      go_quiet ((go_at_call 69; exact quiet_add (HC.out _)))
      go_wp2_with fail
      go_ret
      exact ⟨ret_int HR.out.symm, _, by first | rfl | ((repeat rw [World.drewN_drewN]); rfl)⟩
    · skip
      have HR := Lib.hid (cmpI_neg_pos n1 n2)
      rw [decide_eq_true n1] at a1
      rw [decide_eq_false n2] at a2
      clear n1 n2
      go_enter Tryz.func47, Tryz.ntmps47
      go_upto_region 3 with fail
      go_quiet (fail)
      go_wp2_with fail
      go_ret
      exact ⟨ret_int HR.out.symm, _, by first | rfl | ((repeat rw [World.drewN_drewN]); rfl)⟩
  · by_cases n2 : y < 0
    · skip
      have HR := Lib.hid (cmpI_pos_neg n1 n2)
      rw [decide_eq_false n1] at a1
      rw [decide_eq_true n2] at a2
      clear n1 n2
      go_enter Tryz.func47, Tryz.ntmps47
      go_upto_region 3 with fail
      go_quiet (fail)
      go_wp2_with fail
      go_ret
      exact ⟨ret_int HR.out.symm, _, by first | rfl | ((repeat rw [World.drewN_drewN]); rfl)⟩
    · skip
      have HR := Lib.hid (cmpI_pos n1 n2)
      have hb := cmpN_bd x.natAbs y.natAbs
      generalize cmpN x.natAbs y.natAbs = c at *
      rw [decide_eq_false n1] at a1
      rw [decide_eq_false n2] at a2
      clear n1 n2
      go_enter Tryz.func47, Tryz.ntmps47
      go_upto_region 3 with fail
      go_quiet (fail)
      go_upto_region 4 with fail
      go_quiet ((go_at_call 69; exact quiet_add (HC.out _)))
      go_wp2_with fail
      go_ret
      exact ⟨ret_int HR.out.symm, _, by first | rfl | ((repeat rw [World.drewN_drewN]); rfl)⟩

end Go.Proofs.YtnihfhfakadepaaGreatDoor
namespace Go.Proofs.YtnihfhfakadepaaGreatDoor
open Go.RowKit

theorem sign_mul {a b : Int} (h : 0 < a.natAbs * b.natAbs) : (!decide (a < 0) == decide (b < 0)) = decide (a * b < 0) := by
  have ha : a ≠ 0 := by intro e; subst e; simp at h
  have hb : b ≠ 0 := by intro e; subst e; simp at h
  rcases Int.lt_or_gt_of_ne ha with h1 | h1 <;> rcases Int.lt_or_gt_of_ne hb with h2 | h2
  · have := Int.mul_pos_of_neg_of_neg h1 h2
    rw [decide_eq_true h1, decide_eq_true h2, decide_eq_false (by omega)]; rfl
  · have := Int.mul_neg_of_neg_of_pos h1 h2
    rw [decide_eq_true h1, decide_eq_false (by omega), decide_eq_true this]; rfl
  · have := Int.mul_neg_of_pos_of_neg h1 h2
    rw [decide_eq_false (by omega), decide_eq_true h2, decide_eq_true this]; rfl
  · have := Int.mul_pos h1 h2
    rw [decide_eq_false (by omega), decide_eq_false (by omega), decide_eq_false (by omega)]; rfl
theorem prod_pos_of_len {k n : Nat} (h : (digs 18446744073709551616 k).length = n) (hn : 0 < n) : 0 < k := by
  rcases Nat.eq_zero_or_pos k with rfl | h0
  · rw [digs_zero] at h; simp at h; omega
  · exact h0
theorem prod_zero_of_len {k n : Nat} (h : (digs 18446744073709551616 k).length = n) (hn : ¬ 0 < n) : k = 0 := by
  rcases Nat.eq_zero_or_pos k with h0 | h0
  · exact h0
  · rw [digs_pos (by omega) h0] at h; simp at h; omega

set_option maxRecDepth 100000 in
set_option maxHeartbeats 4000000 in
theorem gmul_any {w : World} {pz px py : Nat} {a b : Int} (hz : GZero w pz) (hx : GInt w px a) (hy : GInt w py b) (hne : px ≠ py) (hxz : px ≠ pz) (hyz : py ≠ pz) 
    (HM : ∀ (W : World) (vx vy : Value), Keeps (fun _ => False) w W → BN W vx a.natAbs → BN W vy b.natAbs → Calls Tryz.prog 85 #[.slice none 0 0, .pointer none, vx, vy] W fun e w' => NewN W (a.natAbs * b.natAbs) e w') :
    Calls Tryz.prog 77 #[.pointer (some ⟨pz, 0, none⟩), .pointer none, .pointer (some ⟨px, 0, none⟩), .pointer (some ⟨py, 0, none⟩)] w fun e w' => e = .returned (.tuple #[]) ∧ GInt w' pz (a * b) ∧ Keeps (fun k => k = pz) w w' := by
  obtain ⟨vx, hbx, hnx⟩ := hx
  obtain ⟨vy, hby, hny⟩ := hy
  have heq : (binOp .eql 76 (.pointer (some ⟨px, 0, none⟩)) (.pointer (some ⟨py, 0, none⟩))).run Tryz.prog w = .ok (.bool false) w :=
    run_eql_ptr_other w Tryz.underlying76 (by kernel_rfl : Tryz.prog.info? 105 = some Tryz.t105) (by decide) (fun e => hne (congrArg Addr.block e)) hbx hby
  unfold GZero at hz
  have HC := Lib.hid (fun (W : World) (hk : Keeps (fun _ => False) w W) => (⟨cell_of_row W pz 1 _ _ _ (hk.blk hz), cell_of_row W px 1 _ _ _ (hk.blk hbx), cell_of_row W py 1 _ _ _ (hk.blk hby)⟩ : W.cell? ⟨pz, 1, none⟩ = some (.slice none 0 0) ∧ W.cell? ⟨px, 1, none⟩ = some vx ∧ W.cell? ⟨py, 1, none⟩ = some vy))
  have HMM := Lib.hid (fun (W : World) (hk : Keeps (fun _ => False) w W) => HM W vx vy hk (hnx.later hk) (hny.later hk))
  go_enter Tryz.func77, Tryz.ntmps77
  go_upto_region 3 with fail
  refine Wg.wp_region_first (C := fun w' => Keeps (fun _ => False) w w') (by kernel_rfl) 15 ?_
  have K0 := Lib.hid (show Keeps (fun _ => False) w { w with drawn := w.drawn + 1 } from (Keeps.refl _ w).drew)
  generalize { w with drawn := w.drawn + 1 } = W at *
  apply Wg.wpAnyP_stays (by kernel_rfl) [0, 1, 2, 3, 4, 5, 6, 7, 8, 9, 10, 11, 12, 13] _ _ _ 4 _ K0.out (by kernel_rfl) ?hs ?hr
  case hs =>
    repeat (apply Wg.wpStays_step rfl rfl; (intro w' hw'; obtain ⟨d0, d1, d2⟩ := HC.out w' hw'; clear hw'; go_simp; exact ⟨rfl, rfl⟩); go_simp)
    exact rfl
  case hr =>
    apply Wg.wpAnyP_one (i := 14) (fuel := 3) (by kernel_rfl) rfl rfl
    go_simp
    refine Wg.plain_call (HMM.out W K0.out) ?_
    rintro e W2 ⟨v, rfl, hbn, hk, hf⟩
    obtain ⟨A, c, rfl⟩ := hbn.slice
    have K2 := Lib.hid (K0.out.trans hk fun _ h => .inl h)
    have HBN := Lib.hid hbn; have HF := Lib.hid hf
    have HZ2 := Lib.hid (K2.out.blk hz)
    obtain ⟨d0, d1, d2⟩ := HC.out W2 K2.out
    have zf := frozen_of_row W2 pz 1 _ _ HZ2.out
    have zl := row_lt HZ2.out
    clear hbn hk hf
    refine ⟨_, rfl, K2.out, ?_⟩
    apply Wg.wpAnyP_one (i := 15) (fuel := 2) (by kernel_rfl) rfl rfl
    go_simp
    refine ⟨trivial, ?_⟩
    apply Wg.wpAnyP_one (i := 16) (fuel := 1) (by kernel_rfl) rfl rfl
    go_simp
    refine ⟨trivial, ?_⟩
    apply Wg.wpAnyP_one (i := 17) (fuel := 0) (by kernel_rfl) rfl rfl
    go_simp
    refine ⟨trivial, by kernel_rfl, ?_⟩
    go_simp
    have hb3 := setCell_blk (k := 1) (u := .slice A (digs 18446744073709551616 (a.natAbs * b.natAbs)).length c) HZ2.out
    obtain ⟨w3, hw3⟩ : ∃ w3, W2.setCell ⟨pz, 1, none⟩ (.slice A (digs 18446744073709551616 (a.natAbs * b.natAbs)).length c) = w3 := ⟨_, rfl⟩
    rw [hw3] at hb3
    have hkz : Keeps (fun k => k = pz) w w3 := by rw [← hw3]; exact (K2.out.mono (S' := fun k => k = pz) fun _ h => h.elim).setCell (p := ⟨pz, 1, none⟩) (.inl rfl) _
    have hx3 := (hkz.block px (row_lt hbx) hxz).trans hbx
    have hy3 := (hkz.block py (row_lt hby) hyz).trans hby
    rw [hw3]
    have HC4 := Lib.hid (fun (W : World) (hk : Keeps (fun _ => False) w3 W) => (⟨cell_of_row W pz 0 _ _ _ (hk.blk hb3), cell_of_row W pz 1 _ _ _ (hk.blk hb3), cell_of_row W px 0 _ _ _ (hk.blk hx3), cell_of_row W py 0 _ _ _ (hk.blk hy3)⟩ : W.cell? ⟨pz, 0, none⟩ = some (.bool false) ∧ W.cell? ⟨pz, 1, none⟩ = some (.slice A (digs 18446744073709551616 (a.natAbs * b.natAbs)).length c) ∧ W.cell? ⟨px, 0, none⟩ = some (.bool (decide (a < 0))) ∧ W.cell? ⟨py, 0, none⟩ = some (.bool (decide (b < 0)))))
    have HBN3 := Lib.hid (show BN w3 (.slice A (digs 18446744073709551616 (a.natAbs * b.natAbs)).length c) (a.natAbs * b.natAbs) by
      rw [← hw3]
      exact Buf.kept HBN.out ((Keeps.refl (fun k => k = pz) W2).setCell (p := ⟨pz, 1, none⟩) (.inl rfl) _) fun g hg hh => by
        have := HF.out g hg
        have := K0.out.size
        have := row_lt hz
        omega)
    clear hw3
    generalize hlen : (digs 18446744073709551616 (a.natAbs * b.natAbs)).length = n at *
    go_wp2_with fail
    have K30 := Lib.hid (show Keeps (fun _ => False) w3 { w3 with drawn := w3.drawn + 1 } from (Keeps.refl _ w3).drew)
    by_cases hn0 : 0 < n
    · have g0 : decide ((0 : Int) < (n : Int)) = true := decide_eq_true (by omega)
      refine Wg.wp_region_first (C := fun w' => Keeps (fun _ => False) w3 w') (by kernel_rfl) 20 ?_
      generalize { w3 with drawn := w3.drawn + 1 } = V at *
      apply Wg.wpAnyP_stays (by kernel_rfl) [0, 1, 2, 3, 4, 5, 6, 7, 8, 9, 10, 11, 12, 13, 14, 15, 16, 17, 18, 19] _ _ _ 1 _ K30.out (by kernel_rfl) ?hs ?hr
      case hs =>
        repeat ((first | apply Wg.wpStays_step rfl rfl | apply Wg.wpStays_wanted rfl (by first | rfl | (go_simp; done))); (intro w' hw'; obtain ⟨d0, d1, d2, d3⟩ := HC4.out w' hw'; clear hw'; go_simp; exact ⟨rfl, rfl⟩); go_simp)
        exact rfl
      case hr =>
        have HZ4 := Lib.hid (K30.out.blk hb3)
        obtain ⟨d0, d1, d2, d3⟩ := HC4.out V K30.out
        have zf4 := frozen_of_row V pz 0 _ _ HZ4.out
        have zl4 := row_lt HZ4.out
        apply Wg.wpAnyP_one (i := 20) (fuel := 0) (by kernel_rfl) rfl rfl
        go_simp
        refine ⟨trivial, by kernel_rfl, ?_⟩
        go_simp
        go_wp2_with fail
        go_end0
        have hk9 : Keeps (fun k => k = pz) w3 (V.setCell ⟨pz, 0, none⟩ (.bool (!decide (a < 0) == decide (b < 0)))) := (K30.out.mono (S' := fun k => k = pz) fun _ h => h.elim).setCell (p := ⟨pz, 0, none⟩) (.inl rfl) _
        refine ⟨rfl, ⟨.slice A n c, ?_, ?_⟩, hkz.trans hk9 fun _ h => .inl h⟩
        · rw [setCell_blk HZ4.out, sign_mul (prod_pos_of_len hlen hn0)]; rfl
        · rw [Int.natAbs_mul]
          exact Buf.kept HBN3.out hk9 fun g hg hh => by
            have := HF.out g hg
            have := K0.out.size
            have := row_lt hz
            omega
    · have g0 : decide ((0 : Int) < (n : Int)) = false := decide_eq_false (by omega)
      refine Wg.wp_region_first (C := fun w' => Keeps (fun _ => False) w3 w') (by kernel_rfl) 20 ?_
      generalize { w3 with drawn := w3.drawn + 1 } = V at *
      apply Wg.wpAnyP_stays (by kernel_rfl) [0, 1, 2, 3, 4, 5, 6, 7, 8, 9, 10, 11, 12, 13, 14, 15, 16, 17, 18, 19] _ _ _ 1 _ K30.out (by kernel_rfl) ?hs ?hr
      case hs =>
        iterate 8 (apply Wg.wpStays_step rfl rfl; (intro w' hw'; obtain ⟨d0, d1, d2, d3⟩ := HC4.out w' hw'; clear hw'; go_simp; exact ⟨rfl, rfl⟩); go_simp)
        iterate 9 (apply Wg.wpStays_skip rfl; (first | rfl | (go_simp; done)); go_simp)
        iterate 3 (apply Wg.wpStays_step rfl rfl; (intro w' hw'; obtain ⟨d0, d1, d2, d3⟩ := HC4.out w' hw'; clear hw'; go_simp; exact ⟨rfl, rfl⟩); go_simp)
        exact rfl
      case hr =>
        have HZ4 := Lib.hid (K30.out.blk hb3)
        obtain ⟨d0, d1, d2, d3⟩ := HC4.out V K30.out
        have zf4 := frozen_of_row V pz 0 _ _ HZ4.out
        have zl4 := row_lt HZ4.out
        apply Wg.wpAnyP_one (i := 20) (fuel := 0) (by kernel_rfl) rfl rfl
        go_simp
        refine ⟨trivial, by kernel_rfl, ?_⟩
        go_simp
        go_wp2_with fail
        go_end0
        have hk9 : Keeps (fun k => k = pz) w3 (V.setCell ⟨pz, 0, none⟩ (.bool false)) := (K30.out.mono (S' := fun k => k = pz) fun _ h => h.elim).setCell (p := ⟨pz, 0, none⟩) (.inl rfl) _
        refine ⟨rfl, ⟨.slice A n c, ?_, ?_⟩, hkz.trans hk9 fun _ h => .inl h⟩
        · rw [setCell_blk HZ4.out, decide_eq_false (by have h0 := prod_zero_of_len hlen hn0; rw [← Int.natAbs_mul, Int.natAbs_eq_zero] at h0; omega)]; rfl
        · rw [Int.natAbs_mul]
          exact Buf.kept HBN3.out hk9 fun g hg hh => by
            have := HF.out g hg
            have := K0.out.size
            have := row_lt hz
            omega

end Go.Proofs.YtnihfhfakadepaaGreatDoor
namespace Go.Proofs.YtnihfhfakadepaaGreatDoor
open Go.RowKit

set_option maxRecDepth 100000 in
set_option maxHeartbeats 2000000 in
theorem mulNil_any {w : World} {vs vx : Value} {n c0 : Nat} {A0 : Option Addr} (hx : BN w vx n) (hn : 0 < n) :
    Calls Tryz.prog 85 #[.slice none 0 0, vs, .slice A0 0 c0, vx] w fun e w' => e = .returned (.slice none 0 0) ∧ w' = w := by
  have hp : 0 < (digs 18446744073709551616 n).length := by rw [digs_pos (by omega) hn]; simp
  unfold BN at hx
  obtain ⟨gx, Lx, rfl, hbx, htx, hlx⟩ := hx.blk hp
  generalize (digs 18446744073709551616 n).length = m at *
  generalize hcx : Lx.length = cx at *
  have h2 : (0 : Int) < (m : Int) := by omega
  have h1 : ((m : Int) == 0) = false := by rw [beq_eq_false_iff_ne]; omega
  have h3 : ¬ (m : Int) < 0 := by omega
  clear hcx hx hbx htx hlx hp
  have HI : Hid (Calls Tryz.prog 85 #[.slice none 0 0, vs, .slice (some ⟨gx, 0, none⟩) m cx, .slice A0 0 c0] w fun e w' => e = .returned (.slice none 0 0) ∧ w' = w) := by
    refine Lib.hid ?_
    go_enter Tryz.func85, Tryz.ntmps85
    go_wp2_with fail
    go_ret
    exact ⟨rfl, rfl⟩
  go_enter Tryz.func85, Tryz.ntmps85
  go_wp2_with (go_at_call 85; ((with_reducible refine HI.out.mono ?_); rintro e w2 ⟨rfl, rfl⟩))
  go_ret
  exact ⟨rfl, rfl⟩

/-- A product, in new words. -/
theorem mul_new {w : World} {vs vx vy : Value} {a n : Nat} (hx : BN w vx a) (ha : a < 18446744073709551616) (hy : BN w vy n) (hn : 0 < n) (hl : (digs 18446744073709551616 n).length ≤ 90) :
    Calls Tryz.prog 85 #[.slice none 0 0, vs, vx, vy] w fun e w' => NewN w (a * n) e w' := by
  rcases Nat.eq_zero_or_pos a with rfl | h0
  · obtain ⟨A, c, rfl⟩ := hx.slice
    rw [digs_zero]
    refine (mulNil_any hy hn).mono ?_
    rintro e w' ⟨rfl, rfl⟩
    exact ⟨_, rfl, .inl ⟨rfl, by rw [Nat.zero_mul, digs_zero]⟩, Keeps.refl _ _, fun _ h => by cases h⟩
  · refine (mulSwap_any hy hn hl hx h0 ha).mono ?_
    rintro e w' ⟨v, rfl, h1, h2, h3⟩
    exact ⟨v, rfl, h1, h2.mono (fun k h => by cases h), fun g hg => (h3 g hg).resolve_left (fun h => by cases h)⟩

set_option maxRecDepth 100000 in
set_option maxHeartbeats 2000000 in
theorem gMul_any {w : World} {pz px py : Nat} {a b : Int} (hz : GZero w pz) (hx : GInt w px a) (hy : GInt w py b) (hne : px ≠ py) (hxz : px ≠ pz) (hyz : py ≠ pz) (ha : a.natAbs < 18446744073709551616) (hb : 0 < b.natAbs) (hl : (digs 18446744073709551616 b.natAbs).length ≤ 90) :
    Calls Tryz.prog 60 #[.pointer (some ⟨pz, 0, none⟩), .pointer (some ⟨px, 0, none⟩), .pointer (some ⟨py, 0, none⟩)] w fun e w' => e = .returned (.pointer (some ⟨pz, 0, none⟩)) ∧ GInt w' pz (a * b) ∧ Keeps (fun k => k = pz) w w' := by
  have H := Lib.hid (gmul_any hz hx hy hne hxz hyz fun W vx vy _ h1 h2 => mul_new h1 ha h2 hb hl)
  clear hz hx hy hne hxz hyz ha hb hl
  go_enter Tryz.func60, Tryz.ntmps60
  go_wp2_with (go_at_call 77; ((with_reducible refine H.out.mono ?_); rintro e w2 ⟨rfl, h2, h3⟩; have H2 := Lib.hid h2; have H3 := Lib.hid h3; clear h2 h3))
  go_ret
  exact ⟨rfl, H2.out, H3.out⟩

end Go.Proofs.YtnihfhfakadepaaGreatDoor
namespace Go.Proofs.YtnihfhfakadepaaGreatDoor
open Go.RowKit

theorem gint_lt {w : World} {p : Nat} {n : Int} (h : GInt w p n) : p < w.heap.size := by
  obtain ⟨v, h1, _⟩ := h
  exact row_lt h1
theorem gzero_lt {w : World} {p : Nat} (h : GZero w p) : p < w.heap.size := row_lt h

set_option maxRecDepth 100000 in
set_option maxHeartbeats 4000000 in
theorem units_any {w : World} (ht : Thr w) (d : DecV) (e : Int) (n : Nat) (h1 : -9223372036854775808 < d.coef) (h2 : d.coef < 9223372036854775808) (he : d.exp - e = n) (hn : n < 128) :
    Calls Tryz.prog 46 #[.agg #[.int .i64 d.coef, .int .i64 d.exp], .int .i64 e] w fun e' w' => ∃ p, e' = .returned (.pointer (some ⟨p, 0, none⟩)) ∧ GInt w' p (unitsD d e) ∧ Keeps (fun _ => False) w w' ∧ w.heap.size ≤ p := by
  have hu : unitsD d e = d.coef * ((10 ^ n : Nat) : Int) := by
    unfold unitsD
    rw [he, Int.toNat_natCast, Int.natCast_pow]
    rfl
  rw [hu]
  obtain ⟨c, x⟩ := d
  simp only at h1 h2 he ⊢
  have hwn : IntKind.i64.wrap (n : Int) = (n : Int) := by simp only [IntKind.wrap_i64]; omega
  have hlen : (digs 18446744073709551616 (((10 ^ n : Nat) : Int)).natAbs).length ≤ 90 := by
    rw [Int.natAbs_natCast]
    exact ten_lenV (n := 127) (by omega) (by decide)
  have hpos : 0 < (((10 ^ n : Nat) : Int)).natAbs := by rw [Int.natAbs_natCast]; exact Nat.pow_pos (by omega)
  obtain ⟨w1, hw1⟩ : ∃ w1, w.alloc (.cells #[.int .i64 c, .int .i64 x] 23) = w1 := ⟨_, rfl⟩
  obtain ⟨pa, hpa⟩ : ∃ pa, w.heap.size = pa := ⟨_, rfl⟩
  have ha1 : w1.heap[pa]? = some (.cells #[.int .i64 c, .int .i64 x] 23 (0, 0)) := by rw [← hw1, ← hpa]; exact heap_alloc_new _ _
  have HK1 := Lib.hid (show Keeps (fun _ => False) w w1 by rw [← hw1]; exact (Keeps.refl _ _).alloc _)
  have HC := Lib.hid (fun (W : World) (hk : Keeps (fun _ => False) w1 W) => (⟨cell_of_row W pa 0 _ _ _ (hk.blk ha1), cell_of_row W pa 1 _ _ _ (hk.blk ha1)⟩ : W.cell? ⟨pa, 0, none⟩ = some (.int .i64 c) ∧ W.cell? ⟨pa, 1, none⟩ = some (.int .i64 x)))
  have HN := Lib.hid (fun (W : World) (_ : Keeps (fun _ => False) w W) => gNewInt_any (w := W) c h1 h2)
  have HT := Lib.hid (fun (W : World) (hk : Keeps (fun _ => False) w W) => dten_any (w := W) (e := n) (ht.later hk) hn)
  have HM := Lib.hid (fun (W : World) (pz px py : Nat) (hz : GZero W pz) (hx : GInt W px c) (hy : GInt W py ((10 ^ n : Nat) : Int)) (hne : px ≠ py) (hxz : px ≠ pz) (hyz : py ≠ pz) => gMul_any hz hx hy hne hxz hyz (by omega) hpos hlen)
  have HPA := Lib.hid hpa; have HW1 := Lib.hid hw1
  generalize ((10 ^ n : Nat) : Int) = N at *
  clear hu hlen hpos ht ha1
  obtain ⟨d0, d1⟩ := HC.out w1 (Keeps.refl _ _)
  go_enter Tryz.func46, Tryz.ntmps46
  go_upto_region 1 with fail
  have KW0 := Lib.hid (show Keeps (fun _ => False) w1 { w1 with drawn := w1.drawn + 1 } from (Keeps.refl _ w1).drew)
  refine Wg.wp_region_first (C := fun w' => Keeps (fun _ => False) w1 w') (by kernel_rfl) 9 ?_
  generalize { w1 with drawn := w1.drawn + 1 } = W at *
  have KW := Lib.hid KW0.out
  apply Wg.wpAnyP_stays (by kernel_rfl) [1, 2, 4, 5, 6, 7] _ _ _ 5 _ KW.out (by kernel_rfl) ?hs ?hr
  case hs =>
    repeat (apply Wg.wpStays_step rfl rfl; (intro w' hw'; obtain ⟨d0, d1⟩ := HC.out w' hw'; clear hw'; go_simp; exact ⟨rfl, rfl⟩); go_simp)
    exact rfl
  case hr =>
    apply Wg.wpAnyP_two (i := 0) (k := 3) (fuel := 4) (by kernel_rfl) rfl rfl rfl rfl
    · skip
      go_simp
      refine ⟨KW.out.alloc _, ?_⟩
      have hz : GZero (W.alloc (.cells #[.bool false, .slice none 0 0] 105)) W.heap.size := heap_alloc_new _ _
      have hk : Keeps (fun _ => False) W (W.alloc (.cells #[.bool false, .slice none 0 0] 105)) := (Keeps.refl _ _).alloc _
      obtain ⟨pz, hpz⟩ : ∃ q, W.heap.size = q := ⟨_, rfl⟩
      rw [hpz] at hz ⊢
      generalize hw9 : W.alloc (.cells #[.bool false, .slice none 0 0] 105) = V1 at *
      have K1 := Lib.hid (KW.out.trans hk fun _ h => .inl h)
      have ZF := Lib.hid (show w1.heap.size ≤ pz by have := KW.out.size; omega)
      have HZ1 := Lib.hid hz
      clear hz hk hpz hw9
      apply Wg.wpAnyP_one (i := 3) (fuel := 3) (by kernel_rfl) rfl rfl
      go_simp
      refine Wg.plain_call (HN.out V1 (HK1.out.trans K1.out fun _ h => .inl h)) ?_
      rintro e9 V2 ⟨px, rfl, hx, hk, hf⟩
      have K2 := Lib.hid (K1.out.trans hk fun _ h => .inl h)
      have XF := Lib.hid (show w1.heap.size ≤ px by have := K1.out.size; omega)
      have HX2 := Lib.hid hx
      have XL := Lib.hid (show px < V2.heap.size from gint_lt hx)
      have NZX := Lib.hid (show px ≠ pz by have := gzero_lt HZ1.out; omega)
      have HZ2 := Lib.hid (show GZero V2 pz from hk.blk HZ1.out)
      refine ⟨_, rfl, K2.out, ?_⟩
      clear hx hk hf
      apply Wg.wpAnyP_one (i := 8) (fuel := 2) (by kernel_rfl) rfl rfl
      go_simp
      refine Wg.plain_call (HT.out V2 (HK1.out.trans K2.out fun _ h => .inl h)) ?_
      rintro e9 V3 ⟨py, rfl, hx, hk, hf⟩
      have K3 := Lib.hid (K2.out.trans hk fun _ h => .inl h)
      have YF := Lib.hid (show w1.heap.size ≤ py by have := K2.out.size; omega)
      have HY3 := Lib.hid hx
      have YL := Lib.hid (show py < V3.heap.size from gint_lt hx)
      have NZY := Lib.hid (show py ≠ pz by have := gzero_lt HZ2.out; omega)
      have HZ3 := Lib.hid (show GZero V3 pz from hk.blk HZ2.out)
      have NXY := Lib.hid (show px ≠ py by have := XL.out; omega)
      have HX3 := Lib.hid (HX2.out.later hk)
      have XL2 := XL.out
      clear XL
      have XL := Lib.hid (show px < V3.heap.size by have := hk.size; omega)
      clear XL2
      refine ⟨_, rfl, K3.out, ?_⟩
      clear hx hk hf
      apply Wg.wpAnyP_one (i := 9) (fuel := 1) (by kernel_rfl) rfl rfl
      go_simp
      refine Wg.plain_call (HM.out V3 pz px py HZ3.out HX3.out HY3.out NXY.out NZX.out NZY.out) ?_
      rintro e9 V4 ⟨rfl, hx, hk⟩
      have K4 := Lib.hid (K3.out.trans hk fun k e => .inr (by have := ZF.out; omega))
      have HG := Lib.hid hx
      refine ⟨_, rfl, trivial, ?_⟩
      clear hx hk
      apply Wg.wpAnyP_one (i := 10) (fuel := 0) (by kernel_rfl) rfl rfl
      go_simp
      refine ⟨trivial, by kernel_rfl, ?_⟩
      go_simp
      go_wp2_with fail
      go_ret
      exact ⟨pz, rfl, HG.out, HK1.out.trans K4.out fun _ h => .inl h, by have := ZF.out; have := HK1.out.size; omega⟩
    · skip
      go_simp
      refine Wg.plain_call (HN.out W (HK1.out.trans KW.out fun _ h => .inl h)) ?_
      rintro e9 V1 ⟨px, rfl, hx, hk, hf⟩
      have K1 := Lib.hid (KW.out.trans hk fun _ h => .inl h)
      have XF := Lib.hid (show w1.heap.size ≤ px by have := KW.out.size; omega)
      have HX1 := Lib.hid hx
      have XL := Lib.hid (show px < V1.heap.size from gint_lt hx)
      refine ⟨_, rfl, K1.out, ?_⟩
      clear hx hk hf
      apply Wg.wpAnyP_two (i := 0) (k := 8) (fuel := 3) (by kernel_rfl) rfl rfl rfl rfl
      · skip
        go_simp
        refine ⟨K1.out.alloc _, ?_⟩
        have hz : GZero (V1.alloc (.cells #[.bool false, .slice none 0 0] 105)) V1.heap.size := heap_alloc_new _ _
        have hk : Keeps (fun _ => False) V1 (V1.alloc (.cells #[.bool false, .slice none 0 0] 105)) := (Keeps.refl _ _).alloc _
        obtain ⟨pz, hpz⟩ : ∃ q, V1.heap.size = q := ⟨_, rfl⟩
        rw [hpz] at hz ⊢
        generalize hw9 : V1.alloc (.cells #[.bool false, .slice none 0 0] 105) = V2 at *
        have K2 := Lib.hid (K1.out.trans hk fun _ h => .inl h)
        have ZF := Lib.hid (show w1.heap.size ≤ pz by have := K1.out.size; omega)
        have HZ2 := Lib.hid hz
        have HX2 := Lib.hid (HX1.out.later hk)
        have NZX := Lib.hid (show px ≠ pz by have := XL.out; omega)
        have XL2 := XL.out
        clear XL
        have XL := Lib.hid (show px < V2.heap.size by have := hk.size; omega)
        clear XL2
        clear hz hk hpz hw9
        apply Wg.wpAnyP_one (i := 8) (fuel := 2) (by kernel_rfl) rfl rfl
        go_simp
        refine Wg.plain_call (HT.out V2 (HK1.out.trans K2.out fun _ h => .inl h)) ?_
        rintro e9 V3 ⟨py, rfl, hx, hk, hf⟩
        have K3 := Lib.hid (K2.out.trans hk fun _ h => .inl h)
        have YF := Lib.hid (show w1.heap.size ≤ py by have := K2.out.size; omega)
        have HY3 := Lib.hid hx
        have YL := Lib.hid (show py < V3.heap.size from gint_lt hx)
        have NZY := Lib.hid (show py ≠ pz by have := gzero_lt HZ2.out; omega)
        have HZ3 := Lib.hid (show GZero V3 pz from hk.blk HZ2.out)
        have NXY := Lib.hid (show px ≠ py by have := XL.out; omega)
        have HX3 := Lib.hid (HX2.out.later hk)
        have XL2 := XL.out
        clear XL
        have XL := Lib.hid (show px < V3.heap.size by have := hk.size; omega)
        clear XL2
        refine ⟨_, rfl, K3.out, ?_⟩
        clear hx hk hf
        apply Wg.wpAnyP_one (i := 9) (fuel := 1) (by kernel_rfl) rfl rfl
        go_simp
        refine Wg.plain_call (HM.out V3 pz px py HZ3.out HX3.out HY3.out NXY.out NZX.out NZY.out) ?_
        rintro e9 V4 ⟨rfl, hx, hk⟩
        have K4 := Lib.hid (K3.out.trans hk fun k e => .inr (by have := ZF.out; omega))
        have HG := Lib.hid hx
        refine ⟨_, rfl, trivial, ?_⟩
        clear hx hk
        apply Wg.wpAnyP_one (i := 10) (fuel := 0) (by kernel_rfl) rfl rfl
        go_simp
        refine ⟨trivial, by kernel_rfl, ?_⟩
        go_simp
        go_wp2_with fail
        go_ret
        exact ⟨pz, rfl, HG.out, HK1.out.trans K4.out fun _ h => .inl h, by have := ZF.out; have := HK1.out.size; omega⟩
      · skip
        go_simp
        refine Wg.plain_call (HT.out V1 (HK1.out.trans K1.out fun _ h => .inl h)) ?_
        rintro e9 V2 ⟨py, rfl, hx, hk, hf⟩
        have K2 := Lib.hid (K1.out.trans hk fun _ h => .inl h)
        have YF := Lib.hid (show w1.heap.size ≤ py by have := K1.out.size; omega)
        have HY2 := Lib.hid hx
        have YL := Lib.hid (show py < V2.heap.size from gint_lt hx)
        have NXY := Lib.hid (show px ≠ py by have := XL.out; omega)
        have HX2 := Lib.hid (HX1.out.later hk)
        have XL2 := XL.out
        clear XL
        have XL := Lib.hid (show px < V2.heap.size by have := hk.size; omega)
        clear XL2
        refine ⟨_, rfl, K2.out, ?_⟩
        clear hx hk hf
        apply Wg.wpAnyP_one (i := 0) (fuel := 2) (by kernel_rfl) rfl rfl
        go_simp
        refine ⟨K2.out.alloc _, ?_⟩
        have hz : GZero (V2.alloc (.cells #[.bool false, .slice none 0 0] 105)) V2.heap.size := heap_alloc_new _ _
        have hk : Keeps (fun _ => False) V2 (V2.alloc (.cells #[.bool false, .slice none 0 0] 105)) := (Keeps.refl _ _).alloc _
        obtain ⟨pz, hpz⟩ : ∃ q, V2.heap.size = q := ⟨_, rfl⟩
        rw [hpz] at hz ⊢
        generalize hw9 : V2.alloc (.cells #[.bool false, .slice none 0 0] 105) = V3 at *
        have K3 := Lib.hid (K2.out.trans hk fun _ h => .inl h)
        have ZF := Lib.hid (show w1.heap.size ≤ pz by have := K2.out.size; omega)
        have HZ3 := Lib.hid hz
        have HX3 := Lib.hid (HX2.out.later hk)
        have NZX := Lib.hid (show px ≠ pz by have := XL.out; omega)
        have XL2 := XL.out
        clear XL
        have XL := Lib.hid (show px < V3.heap.size by have := hk.size; omega)
        clear XL2
        have HY3 := Lib.hid (HY2.out.later hk)
        have NZY := Lib.hid (show py ≠ pz by have := YL.out; omega)
        have YL2 := YL.out
        clear YL
        have YL := Lib.hid (show py < V3.heap.size by have := hk.size; omega)
        clear YL2
        clear hz hk hpz hw9
        apply Wg.wpAnyP_one (i := 9) (fuel := 1) (by kernel_rfl) rfl rfl
        go_simp
        refine Wg.plain_call (HM.out V3 pz px py HZ3.out HX3.out HY3.out NXY.out NZX.out NZY.out) ?_
        rintro e9 V4 ⟨rfl, hx, hk⟩
        have K4 := Lib.hid (K3.out.trans hk fun k e => .inr (by have := ZF.out; omega))
        have HG := Lib.hid hx
        refine ⟨_, rfl, trivial, ?_⟩
        clear hx hk
        apply Wg.wpAnyP_one (i := 10) (fuel := 0) (by kernel_rfl) rfl rfl
        go_simp
        refine ⟨trivial, by kernel_rfl, ?_⟩
        go_simp
        go_wp2_with fail
        go_ret
        exact ⟨pz, rfl, HG.out, HK1.out.trans K4.out fun _ h => .inl h, by have := ZF.out; have := HK1.out.size; omega⟩

end Go.Proofs.YtnihfhfakadepaaGreatDoor
namespace Go.Proofs.YtnihfhfakadepaaGreatDoor
open Go.RowKit

def rightW (a b : DecV) : Int := if wrongD a ≠ 0 then wrongD a else wrongD b

set_option maxRecDepth 100000 in
set_option maxHeartbeats 4000000 in
theorem dright_any {w : World} {g : Nat} (a b : DecV) (hb : w.heap[g]? = some (.cells #[.int .i64 a.coef, .int .i64 a.exp, .int .i64 b.coef, .int .i64 b.exp] 23 (0, 0))) :
    Calls Tryz.prog 45 #[.slice (some ⟨g, 0, none⟩) 2 2] w fun e w' => e = .returned (.int .i64 (rightW a b)) ∧ Keeps (fun _ => False) w w' := by
  have HC := Lib.hid (fun (W : World) (hk : Keeps (fun _ => False) w W) => (⟨cell_of_row W g 0 _ _ _ (hk.blk hb), cell_of_row W g 1 _ _ _ (hk.blk hb), cell_of_row W g 2 _ _ _ (hk.blk hb), cell_of_row W g 3 _ _ _ (hk.blk hb)⟩ : W.cell? ⟨g, 0, none⟩ = some (.int .i64 a.coef) ∧ W.cell? ⟨g, 1, none⟩ = some (.int .i64 a.exp) ∧ W.cell? ⟨g, 2, none⟩ = some (.int .i64 b.coef) ∧ W.cell? ⟨g, 3, none⟩ = some (.int .i64 b.exp)))
  have HW1 := Lib.hid (fun W : World => decWrong_any (w := W) a)
  have HW2 := Lib.hid (fun W : World => decWrong_any (w := W) b)
  clear hb
  go_enter Tryz.func45, Tryz.ntmps45
  go_wp2_with fail
  go_loopw [8] (fun i wr => ∃ (k : Nat), k ≤ 2 ∧ i = .int .i64 (k : Int) ∧ Hid (1 ≤ k → wrongD a = 0) ∧ Hid (2 ≤ k → wrongD b = 0) ∧ Hid (Keeps (fun _ => False) w wr)) (fun i _ => (2 - intOf i).toNat)
  case atStart => exact ⟨0, by omega, rfl, Lib.hid (by omega), Lib.hid (by omega), Lib.hid (Keeps.refl _ _)⟩
  case round =>
    obtain ⟨k, hk, rfl, ha, hb, hkk⟩ := hrel
    rcases (show k = 0 ∨ k = 1 ∨ k = 2 by omega) with rfl | rfl | rfl
    · obtain ⟨d0, d1, d2, d3⟩ := HC.out _ hkk.out
      by_cases hwa : wrongD a = 0
      · rw [hwa] at HW1
        go_wp2_with (go_at_call 40; ((with_reducible refine (HW1.out _).mono ?_); rintro e w2 ⟨rfl, hk2⟩; have HK2 := Lib.hid hk2; clear hk2))
        go_roundw
        case measure => simp [intOf]
        case rel => exact ⟨1, by omega, by go_num, Lib.hid fun _ => hwa, Lib.hid (by omega), Lib.hid ((hkk.out.alloc _).trans HK2.out fun _ h => .inl h)⟩
      · have hr : rightW a b = wrongD a := if_pos hwa
        have hne : (wrongD a != 0) = true := by simp [hwa]
        go_wp2_with (go_at_call 40; ((with_reducible refine (HW1.out _).mono ?_); rintro e w2 ⟨rfl, hk2⟩; have HK2 := Lib.hid hk2; clear hk2))
        go_ret
        exact ⟨ret_int hr.symm, (hkk.out.alloc _).trans HK2.out fun _ h => .inl h⟩
    · obtain ⟨d0, d1, d2, d3⟩ := HC.out _ hkk.out
      have hwa := ha.out (by omega)
      by_cases hwb : wrongD b = 0
      · rw [hwb] at HW2
        go_wp2_with (go_at_call 40; ((with_reducible refine (HW2.out _).mono ?_); rintro e w2 ⟨rfl, hk2⟩; have HK2 := Lib.hid hk2; clear hk2))
        go_roundw
        case measure => simp [intOf]
        case rel => exact ⟨2, by omega, by go_num, Lib.hid fun _ => hwa, Lib.hid fun _ => hwb, Lib.hid ((hkk.out.alloc _).trans HK2.out fun _ h => .inl h)⟩
      · have hr : rightW a b = wrongD b := if_neg (by simpa using hwa)
        have hne : (wrongD b != 0) = true := by simp [hwb]
        go_wp2_with (go_at_call 40; ((with_reducible refine (HW2.out _).mono ?_); rintro e w2 ⟨rfl, hk2⟩; have HK2 := Lib.hid hk2; clear hk2))
        go_ret
        exact ⟨ret_int hr.symm, (hkk.out.alloc _).trans HK2.out fun _ h => .inl h⟩
    · have hwa := ha.out (by omega)
      have hwb := hb.out (by omega)
      have hr : rightW a b = 0 := by unfold rightW; rw [if_neg (by simpa using hwa), hwb]
      go_wp2_with fail
      go_ret
      exact ⟨ret_int hr.symm, hkk.out⟩

theorem units_len (d : DecV) (e : Int) (h : wrongD d = 0) (n : Nat) (he : d.exp - e = n) (hn : n ≤ 80) : (digs 18446744073709551616 (unitsD d e).natAbs).length ≤ 1000 := by
  have hc : d.coef.natAbs ≤ 999999999999999999 := by have := wrongD_zero h; omega
  refine Nat.le_trans (digs_length_le (by omega) 6 _ ?_) (by omega)
  unfold unitsD
  rw [he, Int.toNat_natCast, Int.natAbs_mul, Int.natAbs_pow]
  refine Nat.lt_of_le_of_lt (Nat.mul_le_mul hc (Nat.pow_le_pow_right (by decide) hn)) (by decide)

set_option maxRecDepth 100000 in
set_option maxHeartbeats 4000000 in
theorem decCmp_any {w : World} (ht : Thr w) (a b : DecV) :
    Calls Tryz.prog 34 #[.agg #[.int .i64 a.coef, .int .i64 a.exp], .agg #[.int .i64 b.coef, .int .i64 b.exp]] w fun e w' => e = .returned (.tuple #[.int .i64 (cmpE a b).1, .int .i64 (cmpE a b).2]) ∧ Keeps (fun _ => False) w w' := by
  obtain ⟨w1, hw1⟩ : ∃ w1, w.alloc (.cells #[.int .i64 a.coef, .int .i64 a.exp] 23) = w1 := ⟨_, rfl⟩
  obtain ⟨pa, hpa⟩ : ∃ pa, w.heap.size = pa := ⟨_, rfl⟩
  have ha1 : w1.heap[pa]? = some (.cells #[.int .i64 a.coef, .int .i64 a.exp] 23 (0, 0)) := by rw [← hw1, ← hpa]; exact heap_alloc_new _ _
  have hk1 : Keeps (fun _ => False) w w1 := by rw [← hw1]; exact (Keeps.refl _ _).alloc _
  obtain ⟨w2, hw2⟩ : ∃ w2, w1.alloc (.cells #[.int .i64 b.coef, .int .i64 b.exp] 23) = w2 := ⟨_, rfl⟩
  obtain ⟨pb, hpb⟩ : ∃ pb, w1.heap.size = pb := ⟨_, rfl⟩
  have hb2 : w2.heap[pb]? = some (.cells #[.int .i64 b.coef, .int .i64 b.exp] 23 (0, 0)) := by rw [← hw2, ← hpb]; exact heap_alloc_new _ _
  have hk2 : Keeps (fun _ => False) w1 w2 := by rw [← hw2]; exact (Keeps.refl _ _).alloc _
  have ha2 := hk2.blk ha1
  obtain ⟨w3, hw3⟩ : ∃ w3, w2.alloc (.cells #[.int .i64 a.coef, .int .i64 a.exp, .int .i64 b.coef, .int .i64 b.exp] 23) = w3 := ⟨_, rfl⟩
  obtain ⟨pc, hpc⟩ : ∃ pc, w2.heap.size = pc := ⟨_, rfl⟩
  have hc3 : w3.heap[pc]? = some (.cells #[.int .i64 a.coef, .int .i64 a.exp, .int .i64 b.coef, .int .i64 b.exp] 23 (0, 0)) := by rw [← hw3, ← hpc]; exact heap_alloc_new _ _
  have hk3 : Keeps (fun _ => False) w2 w3 := by rw [← hw3]; exact (Keeps.refl _ _).alloc _
  have HK := Lib.hid ((hk1.trans hk2 fun _ h => .inl h).trans hk3 fun _ h => .inl h)
  have ht3 := ht.later HK.out
  have hk23 : ∀ {W : World}, Keeps (fun _ => False) w3 W → Keeps (fun _ => False) w2 W := fun hk => hk3.trans hk fun _ h => .inl h
  have HC := Lib.hid (fun (W : World) (hk : Keeps (fun _ => False) w2 W) => (⟨cell_of_row W pa 0 _ _ _ (hk.blk ha2), cell_of_row W pa 1 _ _ _ (hk.blk ha2), cell_of_row W pb 0 _ _ _ (hk.blk hb2), cell_of_row W pb 1 _ _ _ (hk.blk hb2)⟩ : W.cell? ⟨pa, 0, none⟩ = some (.int .i64 a.coef) ∧ W.cell? ⟨pa, 1, none⟩ = some (.int .i64 a.exp) ∧ W.cell? ⟨pb, 0, none⟩ = some (.int .i64 b.coef) ∧ W.cell? ⟨pb, 1, none⟩ = some (.int .i64 b.exp)))
  have HR := Lib.hid (dright_any a b hc3)
  have HT := Lib.hid (fun (W : World) (hk : Keeps (fun _ => False) w3 W) => ht3.later hk)
  have HK3 := Lib.hid hk3
  obtain ⟨d0, d1, d2, d3⟩ := HC.out w2 (Keeps.refl _ _)
  have HPA := Lib.hid hpa; have HPB := Lib.hid hpb; have HHW1 := Lib.hid hw1; have HHW2 := Lib.hid hw2; have HHW3 := Lib.hid hw3; have HPC := Lib.hid hpc
  clear ha1 hk1 hb2 hk2 ha2 hc3 hk3 ht3 hk23 ht
  by_cases hwr : rightW a b = 0
  · have hwa : wrongD a = 0 := by
      rcases Decidable.em (wrongD a = 0) with h | h
      · exact h
      · unfold rightW at hwr; rw [if_pos h] at hwr; exact hwr
    have hwb : wrongD b = 0 := by
      unfold rightW at hwr; rw [if_neg (by simpa using hwa)] at hwr; exact hwr
    have he : cmpE a b = (cmpD a b, 0) := by unfold cmpE; rw [if_neg (by simpa using hwa), if_neg (by simpa using hwb)]
    have ha0 := wrongD_zero hwa
    have hb0 := wrongD_zero hwb
    rw [he]
    obtain ⟨m, hm⟩ : ∃ m, min a.exp b.exp = m := ⟨_, rfl⟩
    obtain ⟨n1, hn1⟩ : ∃ n1 : Nat, a.exp - m = n1 := ⟨(a.exp - m).toNat, by omega⟩
    obtain ⟨n2, hn2⟩ : ∃ n2 : Nat, b.exp - m = n2 := ⟨(b.exp - m).toNat, by omega⟩
    have HL := Lib.hid (units_len a m hwa n1 hn1 (by omega))
    have HU1 := Lib.hid (fun (W : World) (hk : Keeps (fun _ => False) w3 W) => units_any (HT.out W hk) a m n1 (by omega) (by omega) hn1 (by omega))
    have HU2 := Lib.hid (fun (W : World) (hk : Keeps (fun _ => False) w3 W) => units_any (HT.out W hk) b m n2 (by omega) (by omega) hn2 (by omega))
    have hcd : cmpD a b = cmpI (unitsD a m) (unitsD b m) := by rw [← hm]; rfl
    rw [hcd]
    rw [hwr] at HR
    have HM := Lib.hid hm
    clear he hwa hwb hwr hcd ha0 hb0 hn1 hn2 HT
    go_enter Tryz.func34, Tryz.ntmps34
    go_upto_region 5 with (go_at_call 45; ((with_reducible refine HR.out.mono ?_); rintro e w4 ⟨rfl, hk4⟩; have HK4 := Lib.hid hk4; clear d0 d1 d2 d3; obtain ⟨d0, d1, d2, d3⟩ := HC.out w4 (HK3.out.trans hk4 fun _ h => .inl h); clear hk4))
    have K4 := Lib.hid (show Keeps (fun _ => False) w3 { w4 with drawn := w4.drawn + 1 } from HK4.out.drew)
    refine Wg.wp_region_first (C := fun w' => Keeps (fun _ => False) w3 w') (by kernel_rfl) 6 ?_
    generalize { w4 with drawn := w4.drawn + 1 } = W at *
    apply Wg.wpAnyP_stays (by kernel_rfl) [0, 1, 3, 4] _ _ _ 5 _ K4.out (by kernel_rfl) ?hs ?hr
    case hs =>
      repeat (apply Wg.wpStays_step rfl rfl; (intro w' hw'; obtain ⟨d0, d1, d2, d3⟩ := HC.out w' (HK3.out.trans hw' fun _ h => .inl h); clear hw'; go_simp; exact ⟨rfl, rfl⟩); go_simp)
      exact rfl
    case hr =>
      apply Wg.wpAnyP_one (i := 2) (fuel := 4) (by kernel_rfl) rfl rfl
      go_simp
      refine Wg.plain_call (HU1.out W K4.out) ?_
      rintro e W1 ⟨p1, rfl, hg1, hk1, _⟩
      have A1 := Lib.hid (K4.out.trans hk1 fun _ h => .inl h)
      have G1 := Lib.hid hg1
      refine ⟨_, rfl, A1.out, ?_⟩
      clear hk1 hg1
      apply Wg.wpAnyP_one (i := 5) (fuel := 3) (by kernel_rfl) rfl rfl
      go_simp
      refine Wg.plain_call (HU2.out W1 A1.out) ?_
      rintro e W2 ⟨p2, rfl, hg2, hk2, hf2⟩
      have A2 := Lib.hid (A1.out.trans hk2 fun _ h => .inl h)
      have G2 := Lib.hid hg2
      have G3 := Lib.hid (G1.out.later hk2)
      have NE := Lib.hid (show p1 ≠ p2 by have := gint_lt G1.out; omega)
      refine ⟨_, rfl, A2.out, ?_⟩
      clear hk2 hg2 hf2
      apply Wg.wpAnyP_one (i := 6) (fuel := 2) (by kernel_rfl) rfl rfl
      go_simp
      refine Wg.plain_call (gCmp_any G3.out G2.out NE.out HL.out) ?_
      rintro e W3 ⟨rfl, q, rfl⟩
      have K9 := Lib.hid (A2.out.drewN q)
      refine ⟨_, rfl, trivial, ?_⟩
      apply Wg.wpAnyP_one (i := 7) (fuel := 1) (by kernel_rfl) rfl rfl
      go_simp
      refine ⟨trivial, ?_⟩
      apply Wg.wpAnyP_one (i := 8) (fuel := 0) (by kernel_rfl) rfl rfl
      go_simp
      refine ⟨trivial, by kernel_rfl, ?_⟩
      go_simp
      go_wp2_with fail
      go_ret2
      exact ⟨rfl, HK.out.trans K9.out fun _ h => .inl h⟩
  · have he : cmpE a b = (0, rightW a b) := by
      unfold cmpE rightW at *
      split
      · rfl
      · rename_i h
        rw [if_neg h] at hwr
        rw [if_pos hwr]
    rw [he]
    have hne : (rightW a b != 0) = true := by simp [hwr]
    clear he
    go_enter Tryz.func34, Tryz.ntmps34
    go_wp2_with (go_at_call 45; ((with_reducible refine HR.out.mono ?_); rintro e w4 ⟨rfl, hk4⟩; have HK4 := Lib.hid hk4; clear hk4))
    go_ret2
    exact ⟨rfl, HK.out.trans HK4.out fun _ h => .inl h⟩

end Go.Proofs.YtnihfhfakadepaaGreatDoor
