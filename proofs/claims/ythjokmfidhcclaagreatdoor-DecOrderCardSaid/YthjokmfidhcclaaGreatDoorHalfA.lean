/- Package math/big: a whole number set, made not less than nought, shifted where it is nought. -/
import Derived.Test.YthjokmfidhcclaaGreatDoorDivB
import Derived.LaidEqlPtr
namespace Go.Proofs.YthjokmfidhcclaaGreatDoor
open Go.RowKit

theorem run_neq_ptr_same {P : Program} (w : World) {tp te : TypeId} {j : TypeInfo} (a : Addr) (hp : P.underlying tp = some (.pointer te)) (hte : P.info? te = some j) :
    (binOp .neq tp (.pointer (some a)) (.pointer (some a))).run P w = .ok (.bool false) w := by
  have h : ∀ d : Nat, (Op.equalIn (d + 1) tp (.pointer (some a)) (.pointer (some a))).run P w = .ok true w := fun d => by
    simp [Op.equalIn, run_underlying hp, sizeOf, typeInfo, hte, run_sameAddr_same]
  simp only [binOp]
  simp [Op.equal, Op.maxDepth, h 9999]

theorem run_neq_ptr_other {P : Program} (w : World) {tp te : TypeId} {j : TypeInfo} {a b : Addr} {ca cb : Array Value} {ta tb : TypeId} (hp : P.underlying tp = some (.pointer te)) (hte : P.info? te = some j) (hsz : j.size ≠ 0)
    (hne : a ≠ b) (ha : w.heap[a.block]? = some (.cells ca ta (0, 0))) (hb : w.heap[b.block]? = some (.cells cb tb (0, 0))) :
    (binOp .neq tp (.pointer (some a)) (.pointer (some b))).run P w = .ok (.bool true) w := by
  have h : ∀ d : Nat, (Op.equalIn (d + 1) tp (.pointer (some a)) (.pointer (some b))).run P w = .ok false w := fun d => by
    simp [Op.equalIn, run_underlying hp, sizeOf, typeInfo, hte, hsz, run_sameAddr_other w hne ha hb]
  simp only [binOp]
  simp [Op.equal, Op.maxDepth, h 9999]

/-- A list of words is not in a whole number's block. -/
theorem BN.ne {w : World} {v : Value} {n p : Nat} {cs : Array Value} (h : BN w v n) (hb : w.heap[p]? = some (.cells cs 40 (0, 0))) : ∀ g, v.ownBlock = some g → g ≠ p := by
  intro g hg e
  subst e
  rcases h with ⟨rfl, _⟩ | ⟨g', L, rfl, hb', _⟩
  · cases hg
  · injection hg with hg
    subst hg
    rw [hb'.1] at hb
    injection hb with hb
    injection hb with _ ht
    exact absurd ht (by decide)

set_option maxRecDepth 100000 in
set_option maxHeartbeats 2000000 in
theorem gSet_self {w : World} {p : Nat} : Calls Tryz.prog 51 #[.pointer (some ⟨p, 0, none⟩), .pointer (some ⟨p, 0, none⟩)] w fun e w' => e = .returned (.pointer (some ⟨p, 0, none⟩)) ∧ w' = w := by
  have heq := run_neq_ptr_same w (⟨p, 0, none⟩ : Addr) Tryz.underlying33 (by kernel_rfl : Tryz.prog.info? 40 = some Tryz.t40)
  go_enter Tryz.func51, Tryz.ntmps51
  go_wp2
  go_ret
  exact ⟨rfl, rfl⟩

set_option maxRecDepth 100000 in
set_option maxHeartbeats 2000000 in
theorem gAbs_self {w : World} {p : Nat} (h : GZero w p) : Calls Tryz.prog 33 #[.pointer (some ⟨p, 0, none⟩), .pointer (some ⟨p, 0, none⟩)] w fun e w' => e = .returned (.pointer (some ⟨p, 0, none⟩)) ∧ GZero w' p ∧ Keeps (fun k => k = p) w w' := by
  unfold GZero at h
  have HS := Lib.hid (gSet_self (w := w) (p := p))
  have H := Lib.hid h
  have d0 : w.cell? ⟨p, 0, none⟩ = some (.bool false) := cell_of_row w p 0 _ _ _ h
  have zf := frozen_of_row w p 0 _ _ h
  have zl := row_lt h
  clear h
  go_enter Tryz.func33, Tryz.ntmps33
  go_wp2_with (go_at_call 51; ((with_reducible refine HS.out.mono ?_); rintro e w1 ⟨rfl, rfl⟩))
  go_ret
  exact ⟨rfl, setCell_blk (k := 0) (u := .bool false) H.out, (Keeps.refl (fun k => k = p) _).setCell (p := ⟨p, 0, none⟩) (.inl rfl) _⟩

set_option maxRecDepth 100000 in
set_option maxHeartbeats 4000000 in
theorem gSet_new {w : World} {pz px n : Nat} (hz : GZero w pz) (hx : GInt w px (n : Int)) (hn : 0 < n) (hl : (digs 18446744073709551616 n).length ≤ 100) (hxz : px ≠ pz) :
    Calls Tryz.prog 51 #[.pointer (some ⟨pz, 0, none⟩), .pointer (some ⟨px, 0, none⟩)] w fun e w' => e = .returned (.pointer (some ⟨pz, 0, none⟩)) ∧ GInt w' pz (n : Int) ∧ Keeps (fun k => k = pz) w w' := by
  obtain ⟨vx, hbx, hnx⟩ := hx
  rw [Int.natAbs_natCast] at hnx
  rw [decide_eq_false (by omega)] at hbx
  unfold GZero at hz
  have heq := run_neq_ptr_other w Tryz.underlying33 (by kernel_rfl : Tryz.prog.info? 40 = some Tryz.t40) (by decide) (fun e => hxz (congrArg Addr.block e).symm : (⟨pz, 0, none⟩ : Addr) ≠ ⟨px, 0, none⟩) hz hbx
  have HZ := Lib.hid hz; have HX := Lib.hid hbx
  have HC := Lib.hid (fun (W : World) (hk : Keeps (fun _ => False) w W) => (⟨cell_of_row W pz 1 _ _ _ (hk.blk hz), cell_of_row W px 1 _ _ _ (hk.blk hbx)⟩ : W.cell? ⟨pz, 1, none⟩ = some (.slice none 0 0) ∧ W.cell? ⟨px, 1, none⟩ = some vx))
  have HS := Lib.hid (fun (W : World) (hk : Keeps (fun _ => False) w W) => set_new (hnx.later hk) hn hl)
  clear hz hbx hnx hn hl
  go_enter Tryz.func51, Tryz.ntmps51
  go_upto_region 2 with fail
  refine Wg.wp_region_first (C := fun w' => Keeps (fun _ => False) w w') (by kernel_rfl) 10 ?_
  have K0 := Lib.hid (show Keeps (fun _ => False) w { w with drawn := w.drawn + 1 } from (Keeps.refl _ w).drew)
  generalize { w with drawn := w.drawn + 1 } = W at *
  apply Wg.wpAnyP_stays (by kernel_rfl) [0, 1, 2, 3, 4, 5, 6, 7, 8] _ _ _ 4 _ K0.out (by kernel_rfl) ?hs ?hr
  case hs =>
    repeat (apply Wg.wpStays_step rfl rfl; (intro w' hw'; obtain ⟨d0, d1⟩ := HC.out w' hw'; clear hw'; go_simp; exact ⟨rfl, rfl⟩); go_simp)
    exact rfl
  case hr =>
    apply Wg.wpAnyP_one (i := 9) (fuel := 3) (by kernel_rfl) rfl rfl
    go_simp
    refine Wg.plain_call (HS.out W K0.out) ?_
    rintro e W2 ⟨v, rfl, hbn, hk, hf⟩
    obtain ⟨A, c, rfl⟩ := hbn.slice
    have K2 := Lib.hid (K0.out.trans hk fun _ h => .inl h)
    have HBN := Lib.hid hbn
    have HF := Lib.hid (fun g hg => Nat.le_trans K0.out.size (hf g hg))
    have HZ2 := Lib.hid (K2.out.blk HZ.out)
    have HX2 := Lib.hid (K2.out.blk HX.out)
    have d9 : W2.cell? ⟨pz, 1, none⟩ = some (.slice none 0 0) := cell_of_row W2 pz 1 _ _ _ HZ2.out
    have d8 : W2.cell? ⟨pz, 0, none⟩ = some (.bool false) := cell_of_row W2 pz 0 _ _ _ HZ2.out
    have d7 : W2.cell? ⟨px, 0, none⟩ = some (.bool false) := cell_of_row W2 px 0 _ _ _ HX2.out
    have zf := frozen_of_row W2 pz 1 _ _ HZ2.out
    have zf0 := frozen_of_row W2 pz 0 _ _ HZ2.out
    have zl := row_lt HZ2.out
    clear hbn hk hf HS heq
    refine ⟨_, rfl, K2.out, ?_⟩
    apply Wg.wpAnyP_one (i := 10) (fuel := 2) (by kernel_rfl) rfl rfl
    go_simp
    refine ⟨trivial, ?_⟩
    apply Wg.wpAnyP_one (i := 11) (fuel := 1) (by kernel_rfl) rfl rfl
    go_simp
    refine ⟨trivial, ?_⟩
    apply Wg.wpAnyP_one (i := 12) (fuel := 0) (by kernel_rfl) rfl rfl
    go_simp
    refine ⟨trivial, by kernel_rfl, ?_⟩
    go_simp
    go_wp2_with fail
    go_ret
    have hk9 : Keeps (fun k => k = pz) W2 ((W2.setCell ⟨pz, 1, none⟩ (.slice A (digs 18446744073709551616 n).length c)).setCell ⟨pz, 0, none⟩ (.bool false)) := ((Keeps.refl (fun k => k = pz) W2).setCell (p := ⟨pz, 1, none⟩) (.inl rfl) _).setCell (p := ⟨pz, 0, none⟩) (.inl rfl) _
    have hb1 := setCell_blk (k := 1) (u := .slice A (digs 18446744073709551616 n).length c) HZ2.out
    have hb2 := setCell_blk (k := 0) (u := .bool false) hb1
    refine ⟨rfl, ⟨.slice A (digs 18446744073709551616 n).length c, ?_, ?_⟩, (K2.out.mono (S' := fun k => k = pz) fun _ h => h.elim).trans hk9 fun _ h => .inl h⟩
    · rw [hb2, decide_eq_false (Int.not_lt.2 (Int.natCast_nonneg _))]; rfl
    · rw [Int.natAbs_natCast]
      exact Buf.kept HBN.out hk9 fun g hg hh => by
        have := HF.out g hg
        have := row_lt HZ.out
        omega

set_option maxRecDepth 100000 in
set_option maxHeartbeats 2000000 in
theorem gAbs_new {w : World} {pz px n : Nat} (hz : GZero w pz) (hx : GInt w px (n : Int)) (hn : 0 < n) (hl : (digs 18446744073709551616 n).length ≤ 100) (hxz : px ≠ pz) :
    Calls Tryz.prog 33 #[.pointer (some ⟨pz, 0, none⟩), .pointer (some ⟨px, 0, none⟩)] w fun e w' => e = .returned (.pointer (some ⟨pz, 0, none⟩)) ∧ GInt w' pz (n : Int) ∧ Keeps (fun k => k = pz) w w' := by
  have HS := Lib.hid (gSet_new hz hx hn hl hxz)
  clear hz hx hn hl hxz
  go_enter Tryz.func33, Tryz.ntmps33
  go_wp2_with (go_at_call 51; ((with_reducible refine HS.out.mono ?_); rintro e w1 ⟨rfl, ⟨v, h1, h2⟩, hk⟩; rw [decide_eq_false (by omega)] at h1; have H1 := Lib.hid h1; have H2 := Lib.hid h2; have HK := Lib.hid hk; have d0 : w1.cell? ⟨pz, 0, none⟩ = some (.bool false) := cell_of_row w1 pz 0 _ _ _ h1; have zf := frozen_of_row w1 pz 0 _ _ h1; have zl := row_lt h1; clear h1 h2 hk))
  go_ret
  have hk9 : Keeps (fun k => k = pz) w1 (w1.setCell ⟨pz, 0, none⟩ (.bool false)) := (Keeps.refl (fun k => k = pz) _).setCell (p := ⟨pz, 0, none⟩) (.inl rfl) _
  refine ⟨rfl, ⟨v, ?_, Buf.kept H2.out hk9 fun g hg hh => BN.ne H2.out H1.out g hg hh⟩, HK.out.trans hk9 fun _ h => .inl h⟩
  rw [setCell_blk (k := 0) (u := .bool false) H1.out, decide_eq_false (Int.not_lt.2 (Int.natCast_nonneg _))]; rfl

set_option maxRecDepth 100000 in
set_option maxHeartbeats 2000000 in
theorem nlsh_zero {w : World} : Calls Tryz.prog 50 #[.slice none 0 0, .slice none 0 0, .int .u64 1] w fun e w' => e = .returned (.slice none 0 0) ∧ w' = w := by
  go_enter Tryz.func50, Tryz.ntmps50
  go_wp2
  go_ret
  exact ⟨rfl, rfl⟩

set_option maxRecDepth 100000 in
set_option maxHeartbeats 4000000 in
theorem gLsh_self {w : World} {p : Nat} (h : GZero w p) : Calls Tryz.prog 32 #[.pointer (some ⟨p, 0, none⟩), .pointer (some ⟨p, 0, none⟩), .int .u64 1] w fun e w' => e = .returned (.pointer (some ⟨p, 0, none⟩)) ∧ GZero w' p ∧ Keeps (fun k => k = p) w w' := by
  unfold GZero at h
  have HZ := Lib.hid h
  have HS := Lib.hid (fun W : World => nlsh_zero (w := W))
  have HC := Lib.hid (fun (W : World) (hk : Keeps (fun _ => False) w W) => (cell_of_row W p 1 _ _ _ (hk.blk h) : W.cell? ⟨p, 1, none⟩ = some (.slice none 0 0)))
  clear h
  go_enter Tryz.func32, Tryz.ntmps32
  go_upto_region 1 with fail
  refine Wg.wp_region_first (C := fun w' => Keeps (fun _ => False) w w') (by kernel_rfl) 11 ?_
  have K0 := Lib.hid (show Keeps (fun _ => False) w { w with drawn := w.drawn + 1 } from (Keeps.refl _ w).drew)
  generalize { w with drawn := w.drawn + 1 } = W at *
  apply Wg.wpAnyP_stays (by kernel_rfl) [0, 1, 2, 3, 4, 5, 6, 7, 8, 9] _ _ _ 4 _ K0.out (by kernel_rfl) ?hs ?hr
  case hs =>
    repeat (apply Wg.wpStays_step rfl rfl; (intro w' hw'; have d0 := HC.out w' hw'; clear hw'; go_simp; exact ⟨rfl, rfl⟩); go_simp)
    exact rfl
  case hr =>
    apply Wg.wpAnyP_one (i := 10) (fuel := 3) (by kernel_rfl) rfl rfl
    go_simp
    refine Wg.plain_call (HS.out W) ?_
    rintro e W2 ⟨rfl, rfl⟩
    have HZ2 := Lib.hid (K0.out.blk HZ.out)
    have d9 : W2.cell? ⟨p, 1, none⟩ = some (.slice none 0 0) := cell_of_row W2 p 1 _ _ _ HZ2.out
    have d8 : W2.cell? ⟨p, 0, none⟩ = some (.bool false) := cell_of_row W2 p 0 _ _ _ HZ2.out
    have zf := frozen_of_row W2 p 1 _ _ HZ2.out
    have zf0 := frozen_of_row W2 p 0 _ _ HZ2.out
    have zl := row_lt HZ2.out
    refine ⟨_, rfl, K0.out, ?_⟩
    apply Wg.wpAnyP_one (i := 11) (fuel := 2) (by kernel_rfl) rfl rfl
    go_simp
    refine ⟨trivial, ?_⟩
    apply Wg.wpAnyP_one (i := 12) (fuel := 1) (by kernel_rfl) rfl rfl
    go_simp
    refine ⟨trivial, ?_⟩
    apply Wg.wpAnyP_one (i := 13) (fuel := 0) (by kernel_rfl) rfl rfl
    go_simp
    refine ⟨trivial, by kernel_rfl, ?_⟩
    go_simp
    go_wp2_with fail
    go_ret
    have hk9 : Keeps (fun k => k = p) W2 ((W2.setCell ⟨p, 1, none⟩ (.slice none 0 0)).setCell ⟨p, 0, none⟩ (.bool false)) := ((Keeps.refl (fun k => k = p) W2).setCell (p := ⟨p, 1, none⟩) (.inl rfl) _).setCell (p := ⟨p, 0, none⟩) (.inl rfl) _
    have hb1 := setCell_blk (k := 1) (u := .slice none 0 0) HZ2.out
    have hb2 := setCell_blk (k := 0) (u := .bool false) hb1
    exact ⟨rfl, hb2, (K0.out.mono (S' := fun k => k = p) fun _ h => h.elim).trans hk9 fun _ h => .inl h⟩

end Go.Proofs.YthjokmfidhcclaaGreatDoor
