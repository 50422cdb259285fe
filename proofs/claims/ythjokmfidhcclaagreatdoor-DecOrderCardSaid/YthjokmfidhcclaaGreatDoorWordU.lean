/- Package math/big: two lists of words compared; two whole numbers compared. -/
import Derived.Test.YthjokmfidhcclaaGreatDoorWordQ
import Derived.Test.YthjokmfidhcclaaGreatDoorMin
import Derived.LaidEqlPtr
namespace Go.Proofs.YthjokmfidhcclaaGreatDoor
open Go.RowKit

theorem Buf.word {w : World} {A : Option Addr} {n c : Nat} {l : List Nat} (h : Buf w (.slice A n c) l) (hn : 0 < l.length) :
    ∃ g, A = some ⟨g, 0, none⟩ ∧ ∀ j (hj : j < l.length), w.cell? ⟨g, j, none⟩ = some (.int .u64 (l[j] : Int)) := by
  obtain ⟨g, L, e, hb, ht, hl⟩ := h.blk hn
  injection e with e1 e2 e3
  subst e1
  refine ⟨g, rfl, fun j hj => ?_⟩
  rw [hb.cell (j := j) (by omega)]
  have h1 : l[j]? = (L.take l.length)[j]? := by rw [ht]
  rw [List.getElem?_take, if_pos hj, List.getElem?_eq_getElem hj, List.getElem?_eq_getElem (by omega)] at h1
  injection h1 with h1
  rw [h1]

set_option maxRecDepth 100000 in
set_option maxHeartbeats 2000000 in
theorem gcmpw_any {w : World} {v1 v2 : Value} {n m : Nat} (h1 : BN w v1 n) (h2 : BN w v2 m) (hl : (digs 18446744073709551616 n).length ≤ 1000) :
    Calls Tryz.prog 22 #[v1, v2] w fun e w' => e = .returned (.int .i64 (cmpN n m)) ∧ ∃ q, w' = w.drewN q := by
  obtain ⟨A, c, rfl⟩ := h1.slice
  obtain ⟨A2, c2, rfl⟩ := h2.slice
  by_cases hlt : (digs 18446744073709551616 n).length < (digs 18446744073709551616 m).length
  · rw [cmpN_lt (digs_len_lt (by omega) hlt)]
    clear h1 h2
    generalize (digs 18446744073709551616 n).length = x at *
    generalize (digs 18446744073709551616 m).length = y at *
    have hne : ((x : Int) != (y : Int)) = true := by simp; omega
    go_enter Tryz.func22, Tryz.ntmps22
    go_wp2
    go_ret
    exact ⟨rfl, 0, rfl⟩
  by_cases hgt : (digs 18446744073709551616 m).length < (digs 18446744073709551616 n).length
  · rw [cmpN_gt (digs_len_lt (by omega) hgt)]
    clear h1 h2
    generalize (digs 18446744073709551616 n).length = x at *
    generalize (digs 18446744073709551616 m).length = y at *
    have hne : ((x : Int) != (y : Int)) = true := by simp; omega
    go_enter Tryz.func22, Tryz.ntmps22
    go_wp2
    go_ret
    exact ⟨rfl, 0, rfl⟩
  have hN := Lib.hid (dval_digs (B := 18446744073709551616) (by omega) n)
  have hM := Lib.hid (dval_digs (B := 18446744073709551616) (by omega) m)
  have hA := Lib.hid (digs_lt (B := 18446744073709551616) (by omega) n)
  have hB := Lib.hid (digs_lt (B := 18446744073709551616) (by omega) m)
  unfold BN at h1 h2
  generalize digs 18446744073709551616 n = a at *
  generalize digs 18446744073709551616 m = b at *
  obtain ⟨L, hL⟩ : ∃ L, a.length = L := ⟨_, rfl⟩
  have hL2 : b.length = L := by omega
  rw [hL] at hl
  rw [hL, hL2]
  have HL := Lib.hid hL; have HL2 := Lib.hid hL2
  have H1 := Lib.hid h1; have H2 := Lib.hid h2
  clear hL hL2 hlt hgt h1 h2
  rcases Nat.eq_zero_or_pos L with rfl | hL0
  · have hz : cmpN n m = 0 := by
      have ea : a = [] := List.length_eq_zero_iff.1 HL.out
      have eb : b = [] := List.length_eq_zero_iff.1 HL2.out
      rw [← hN.out, ← hM.out, ea, eb, cmpN_eq]
    rw [hz]
    clear hz H1 H2
    go_enter Tryz.func22, Tryz.ntmps22
    go_wp2
    go_ret
    exact ⟨rfl, 0, rfl⟩
  obtain ⟨g, rfl, hcell⟩ := H1.out.word (by rw [HL.out]; exact hL0)
  obtain ⟨g2, rfl, hcell2⟩ := H2.out.word (by rw [HL2.out]; exact hL0)
  have HC1 := Lib.hid hcell; have HC2 := Lib.hid hcell2
  have b0 : ((L : Int) == 0) = false := by rw [beq_eq_false_iff_ne]; omega
  clear hcell hcell2 H1 H2
  go_enter Tryz.func22, Tryz.ntmps22
  go_wp2
  go_loopw [7] (fun i wr => ∃ (k : Nat) (q : Nat), k < L ∧ i = .int .i64 (k : Int) ∧ wr = w.drewN q ∧ Hid (a.drop (k + 1) = b.drop (k + 1))) (fun i _ => (intOf i).toNat)
  case atStart => exact ⟨L - 1, 0, by omega, by go_num, rfl, Lib.hid (by rw [List.drop_of_length_le (by have := HL.out; omega), List.drop_of_length_le (by have := HL2.out; omega)])⟩
  case round =>
    obtain ⟨j, q, hk, rfl, rfl, he⟩ := hrel
    have hja : j < a.length := by have := HL.out; omega
    have hjb : j < b.length := by have := HL2.out; omega
    have d1 := HC1.out j hja
    have d2 := HC2.out j hjb
    have ga : a[j]? = some a[j] := List.getElem?_eq_getElem hja
    have gb : b[j]? = some b[j] := List.getElem?_eq_getElem hjb
    have ka := List.drop_eq_getElem_cons hja
    have kb := List.drop_eq_getElem_cons hjb
    generalize a[j] = x at *
    generalize b[j] = y at *
    have hst : Hid (x = y → a.drop j = b.drop j) := Lib.hid fun e => by rw [ka, kb, he.out, e]
    have hlt : Hid (x < y → cmpN n m = -1) := Lib.hid fun e => by rw [← hN.out, ← hM.out]; exact cmpN_lt (dval_less (by omega) hA.out ga gb he.out e)
    have hgt : Hid (y < x → cmpN n m = 1) := Lib.hid fun e => by rw [← hN.out, ← hM.out]; exact cmpN_gt (dval_less (by omega) hB.out gb ga he.out.symm e)
    clear ga gb ka kb he hja hjb
    rcases Nat.eq_zero_or_pos j with rfl | hj0
    · have hz : Hid (x = y → cmpN n m = 0) := Lib.hid fun e => by
        have e := hst.out e
        simp only [List.drop_zero] at e
        rw [← hN.out, ← hM.out, e, cmpN_eq]
      have g0 : decide ((0 : Int) > 0) = false := rfl
      clear hst
      rcases Nat.lt_trichotomy x y with h | h | h
      · go_upto_region 9 with fail
        go_quiet (fail)
        go_upto_region 11 with fail
        go_quiet (fail)
        go_wp2_with fail
        go_ret
        exact ⟨ret_int (hlt.out h).symm, _, by repeat rw [World.drewN_drewN]⟩
      · subst h
        go_upto_region 9 with fail
        go_quiet (fail)
        go_upto_region 11 with fail
        go_quiet (fail)
        go_upto_region 13 with fail
        go_quiet (fail)
        go_wp2_with fail
        go_ret
        exact ⟨ret_int (hz.out trivial).symm, _, by (repeat rw [World.drewN_drewN]); rfl⟩
      · go_upto_region 9 with fail
        go_quiet (fail)
        go_upto_region 11 with fail
        go_quiet (fail)
        go_upto_region 13 with fail
        go_quiet (fail)
        go_wp2_with fail
        go_ret
        exact ⟨ret_int (hgt.out h).symm, _, by repeat rw [World.drewN_drewN]⟩
    · have g0 : decide ((j : Int) > 0) = true := decide_eq_true (by omega)
      rcases Nat.lt_trichotomy x y with h | h | h
      · have b1 : ((x : Int) == (y : Int)) = false := by rw [beq_eq_false_iff_ne]; omega
        clear hst
        go_upto_region 9 with fail
        go_quiet (fail)
        go_upto_region 11 with fail
        go_quiet (fail)
        go_wp2_with fail
        go_ret
        exact ⟨ret_int (hlt.out h).symm, _, by repeat rw [World.drewN_drewN]⟩
      · subst h
        have HS := Lib.hid (hst.out rfl)
        clear hst hlt hgt
        go_upto_region 9 with fail
        go_quiet (fail)
        go_wp2_with fail
        go_roundw
        case measure => simp [intOf]; omega
        case rel => exact ⟨j - 1, _, by omega, by go_num, rfl, by rw [show j - 1 + 1 = j by omega]; exact HS⟩
      · have b1 : ((x : Int) == (y : Int)) = false := by rw [beq_eq_false_iff_ne]; omega
        clear hst
        go_upto_region 9 with fail
        go_quiet (fail)
        go_upto_region 11 with fail
        go_quiet (fail)
        go_upto_region 13 with fail
        go_quiet (fail)
        go_wp2_with fail
        go_ret
        exact ⟨ret_int (hgt.out h).symm, _, by repeat rw [World.drewN_drewN]⟩

set_option maxRecDepth 100000 in
set_option maxHeartbeats 2000000 in
theorem gCmp_any {w : World} {p1 p2 : Nat} {x y : Int} (h1 : GInt w p1 x) (h2 : GInt w p2 y) (hne : p1 ≠ p2) (hl : (digs 18446744073709551616 x.natAbs).length ≤ 1000) :
    Calls Tryz.prog 10 #[.pointer (some ⟨p1, 0, none⟩), .pointer (some ⟨p2, 0, none⟩)] w fun e w' => e = .returned (.int .i64 (cmpI x y)) ∧ ∃ q, w' = w.drewN q := by
  obtain ⟨v1, hb1, hv1⟩ := h1
  obtain ⟨v2, hb2, hv2⟩ := h2
  have heq : (binOp .eql 33 (.pointer (some ⟨p1, 0, none⟩)) (.pointer (some ⟨p2, 0, none⟩))).run Tryz.prog w = .ok (.bool false) w :=
    run_eql_ptr_other w Tryz.underlying33 (by kernel_rfl : Tryz.prog.info? 40 = some Tryz.t40) (by decide) (fun e => hne (congrArg Addr.block e)) hb1 hb2
  have a1 := cell_of_row w p1 0 _ _ _ hb1
  have c1 := cell_of_row w p1 1 _ _ _ hb1
  have a2 := cell_of_row w p2 0 _ _ _ hb2
  have c2 := cell_of_row w p2 1 _ _ _ hb2
  simp only [List.getElem?_toArray, List.getElem?_cons_zero, List.getElem?_cons_succ] at a1 a2 c1 c2
  have HC := Lib.hid (fun q => gcmpw_any (w := w.drewN q) (v1 := v1) (v2 := v2) (n := x.natAbs) (m := y.natAbs) hv1 hv2 hl)
  clear hb1 hb2 hv1 hv2 hl hne
  by_cases n1 : x < 0
  · by_cases n2 : y < 0
    · skip
      have HR := Lib.hid (cmpI_neg n1 n2)
      have hb := cmpN_bd x.natAbs y.natAbs
      generalize cmpN x.natAbs y.natAbs = c at *
      rw [decide_eq_true n1] at a1
      rw [decide_eq_true n2] at a2
      clear n1 n2
      go_enter Tryz.func10, Tryz.ntmps10
      go_upto_region 3 with fail
      go_quiet (fail)
      go_upto_region 4 with fail
      go_quiet ((go_at_call 22; exact quiet_add (HC.out _)))
      go_wp2_with fail
      go_ret
      exact ⟨ret_int HR.out.symm, _, by first | rfl | ((repeat rw [World.drewN_drewN]); rfl)⟩
    · skip
      have HR := Lib.hid (cmpI_neg_pos n1 n2)
      rw [decide_eq_true n1] at a1
      rw [decide_eq_false n2] at a2
      clear n1 n2
      go_enter Tryz.func10, Tryz.ntmps10
      go_upto_region 3 with fail
      go_quiet (fail)
      go_wp2_with fail
      go_ret
      exact ⟨ret_int HR.out.symm, _, by first | rfl | ((repeat rw [World.drewN_drewN]); rfl)⟩
  · by_cases n2 : y < 0
    · skip
      have HR := Lib.hid (cmpI_pos_neg n1 n2)
      rw [decide_eq_false n1] at a1
      rw [decide_eq_true n2] at a2
      clear n1 n2
      go_enter Tryz.func10, Tryz.ntmps10
      go_upto_region 3 with fail
      go_quiet (fail)
      go_wp2_with fail
      go_ret
      exact ⟨ret_int HR.out.symm, _, by first | rfl | ((repeat rw [World.drewN_drewN]); rfl)⟩
    · skip
      have HR := Lib.hid (cmpI_pos n1 n2)
      have hb := cmpN_bd x.natAbs y.natAbs
      generalize cmpN x.natAbs y.natAbs = c at *
      rw [decide_eq_false n1] at a1
      rw [decide_eq_false n2] at a2
      clear n1 n2
      go_enter Tryz.func10, Tryz.ntmps10
      go_upto_region 3 with fail
      go_quiet (fail)
      go_upto_region 4 with fail
      go_quiet ((go_at_call 22; exact quiet_add (HC.out _)))
      go_wp2_with fail
      go_ret
      exact ⟨ret_int HR.out.symm, _, by first | rfl | ((repeat rw [World.drewN_drewN]); rfl)⟩

end Go.Proofs.YthjokmfidhcclaaGreatDoor
