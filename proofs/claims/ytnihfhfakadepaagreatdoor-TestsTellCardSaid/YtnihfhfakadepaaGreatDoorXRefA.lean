/- What is wrong with a decimal: by the program, and by the document's answer. Package verdictref1: powers of ten. Package verdictref1: fractions of whole numbers, and a power of ten as a fraction. Package verdictref1: a decimal as a fraction. Package verdictref1: which of two decimals is less. -/
import Derived.Test.YtnihfhfakadepaaGreatDoorXKitA
import Derived.Test.YtnihfhfakadepaaGreatDoorXPlainA
import Derived.Test.YtnihfhfakadepaaGreatDoorXBigP
import Derived.Test.YtnihfhfakadepaaGreatDoorXBigQ
namespace Go.Proofs.YtnihfhfakadepaaGreatDoor
open Go.RowKit

theorem wrongD_3 {c x : Int} (h : c > 999999999999999999 ∨ c < -999999999999999999 ∨ x > 40 ∨ x < -40) : wrongD ⟨c, x⟩ = 3 := if_pos h
theorem wrongD_2 {c x : Int} (h : ¬ (c > 999999999999999999 ∨ c < -999999999999999999 ∨ x > 40 ∨ x < -40)) (h2 : (c = 0 ∧ x ≠ 0) ∨ (c ≠ 0 ∧ c.tmod 10 = 0)) : wrongD ⟨c, x⟩ = 2 := by
  unfold wrongD
  rw [if_neg h, if_pos h2]
theorem wrongD_0 {c x : Int} (h : ¬ (c > 999999999999999999 ∨ c < -999999999999999999 ∨ x > 40 ∨ x < -40)) (h2 : ¬ ((c = 0 ∧ x ≠ 0) ∨ (c ≠ 0 ∧ c.tmod 10 = 0))) : wrongD ⟨c, x⟩ = 0 := by
  unfold wrongD
  rw [if_neg h, if_neg h2]

set_option maxRecDepth 100000 in
set_option maxHeartbeats 4000000 in
theorem decWrong_any {w : World} (d : DecV) :
    Calls Tryz.prog 40 #[.agg #[.int .i64 d.coef, .int .i64 d.exp]] w fun e w' => e = .returned (.int .i64 (wrongD d)) ∧ Keeps (fun _ => False) w w' := by
  obtain ⟨c, x⟩ := d
  show Calls Tryz.prog 40 #[.agg #[.int .i64 c, .int .i64 x]] w _
  go_enter Tryz.func40, Tryz.ntmps40
  go_wp2
  all_goals
    go_ret
    refine ⟨ret_int ?_, (Keeps.refl _ w).alloc _⟩
    first | (refine (wrongD_3 ?_).symm; omega; done) | (refine (wrongD_2 ?_ ?_).symm; (omega); (simp_all; done)) | (refine (wrongD_0 ?_ ?_).symm; (omega); first | (simp_all; done) | (rename_i hm; rintro (⟨h, _⟩ | ⟨_, h⟩); exact hm (by rw [h]; rfl); exact hm h))

set_option maxRecDepth 100000 in
set_option maxHeartbeats 4000000 in
theorem refWrong_any {w : World} (d : DecV) :
    Calls Tryz.prog 31 #[.agg #[.int .i64 d.coef, .int .i64 d.exp]] w fun e w' => e = .returned (.int .i64 (wrongD d)) ∧ Keeps (fun _ => False) w w' := by
  obtain ⟨c, x⟩ := d
  show Calls Tryz.prog 31 #[.agg #[.int .i64 c, .int .i64 x]] w _
  go_enter Tryz.func31, Tryz.ntmps31
  go_wp2
  all_goals
    go_ret
    refine ⟨ret_int ?_, (Keeps.refl _ w).alloc _⟩
    first | (refine (wrongD_3 ?_).symm; omega; done) | (refine (wrongD_2 ?_ ?_).symm; (omega); (simp_all; done)) | (refine (wrongD_0 ?_ ?_).symm; (omega); first | (simp_all; done) | (rename_i hm; rintro (⟨h, _⟩ | ⟨_, h⟩); exact hm (by rw [h]; rfl); exact hm h))

end Go.Proofs.YtnihfhfakadepaaGreatDoor
namespace Go.Proofs.YtnihfhfakadepaaGreatDoor
open Go.RowKit

theorem ten_lt {k : Nat} (h : k ≤ 40) : 10 ^ k < 4294967296 ^ 5 := by
  have : (10 : Nat) ^ k ≤ 10 ^ 40 := Nat.pow_le_pow_right (by omega) h
  have h2 : (10 : Nat) ^ 40 < 4294967296 ^ 5 := by decide
  omega
theorem ten_len {k : Nat} (h : k ≤ 40) : (digs 4294967296 ((10 : Int) ^ k).natAbs).length ≤ 5 := by
  rw [show ((10 : Int) ^ k).natAbs = 10 ^ k by rw [Int.natAbs_pow]; rfl]
  exact digs_length_le (by omega) _ _ (ten_lt h)

set_option maxRecDepth 100000 in
set_option maxHeartbeats 4000000 in
theorem tenR_any {w : World} (n : Int) (hn : n ≤ 40) :
    Calls Tryz.prog 50 #[.int .i64 n] w fun e w' => ∃ p, e = .returned (.pointer (some ⟨p, 0, none⟩)) ∧ BInt w' p (10 ^ n.toNat) ∧ Keeps (fun _ => False) w w' ∧ w.heap.size ≤ p := by
  have H1 := Lib.hid (newInt_any (w := w) 1 (by omega) (by omega))
  have H10 := Lib.hid (fun w' : World => newInt_any (w := w') 10 (by omega) (by omega))
  go_enter Tryz.func50, Tryz.ntmps50
  go_wp2_with (go_at_call 52; ((with_reducible refine H1.out.mono ?_); rintro e w1 ⟨p, rfl, hb, hk, hp⟩; have HB := Lib.hid hb; have HK := Lib.hid hk; have HP := Lib.hid hp; clear hb hk hp))
  go_loopw [0] (fun m wr => ∃ k : Nat, (n ≤ 0 ∧ k = 0 ∨ (k : Int) ≤ n) ∧ m = .int .i64 (n - k) ∧ Hid (BInt wr p (10 ^ k)) ∧ Hid (Keeps (fun _ => False) w wr)) (fun m _ => (intOf m).toNat)
  case atStart => exact ⟨0, by omega, by simp, HB, HK⟩
  case round =>
    obtain ⟨k, hk, rfl, hb, hkp⟩ := hrel
    by_cases hlt : (k : Int) < n
    · have HS := Lib.hid (fun (w2 : World) (p2 : Nat) (hb2 : BInt w2 p (10 ^ k)) (h10 : BInt w2 p2 10) => by
        obtain ⟨s0, s1⟩ := Slot.of_int hb2.at_
        exact imul_any hb2.at_ h10.at_ (Nat.le_trans (ten_len (show k ≤ 40 by omega)) (by omega)) (Nat.le_trans (digs_length_le (by omega) 1 _ (by decide)) (by omega)) s0 s1)
      go_wp2_with (first | (go_at_call 52; ((with_reducible refine (H10.out _).mono ?_); rintro e w2 ⟨p2, rfl, hb2, hk2, hp2⟩; have HB2 := Lib.hid hb2; have HK2 := Lib.hid hk2; have HBL := Lib.hid (hb.out.later hk2); have HS2 := Lib.hid (HS.out w2 p2 (hb.out.later hk2) hb2); clear hb2 hk2 hp2)) | (go_at_call 58; ((with_reducible refine HS2.out.mono ?_); rintro e w3 ⟨rfl, hg⟩; have HG := Lib.hid hg; clear hg)))
      have hnk : n - ((k : Int) + 1) = n - (k : Int) - 1 := by omega
      have HN := Lib.hid hnk
      clear hnk
      go_roundw
      case measure => simp [intOf]; omega
      case rel =>
        obtain ⟨v, hv1, _⟩ := HBL.out
        obtain ⟨h1, h2⟩ := HG.out.bint hv1
        refine ⟨k + 1, .inr (by omega), by rw [Int.natCast_add]; exact congrArg (Value.int .i64) HN.out.symm, Lib.hid (by rw [Int.pow_succ]; exact h1), Lib.hid ((hkp.out.trans HK2.out fun _ h => .inl h).fresh h2 HP.out)⟩
    · have e : n.toNat = k := by omega
      have HE := Lib.hid e
      clear e
      go_wp2_with fail
      go_ret
      exact ⟨p, rfl, by rw [HE.out]; exact hb.out, hkp.out, HP.out⟩

end Go.Proofs.YtnihfhfakadepaaGreatDoor
namespace Go.Proofs.YtnihfhfakadepaaGreatDoor
open Go.RowKit

/-- A new fraction, not yet given. -/
def ZRat (w : World) (q : Nat) : Prop := w.heap[q]? = some (.cells #[.bool false, .slice none 0 0, .bool false, .slice none 0 0] 83 (0, 0))
theorem zrat_alloc (w : World) : ZRat (w.alloc (.cells #[.bool false, .slice none 0 0, .bool false, .slice none 0 0] 83)) w.heap.size := heap_alloc_new _ _
theorem zrat_later {w w' : World} {q : Nat} (h : ZRat w q) (hk : Keeps (fun _ => False) w w') : ZRat w' q := hk.blk h

theorem normed_one {w w' : World} {p : Nat} {a : Int} (h : Normed w p a 1 w') : BRat w' p a 1 ∧ Keeps (fun k => k = p) w w' := by
  obtain ⟨a', b', h1, h2, h3, h4, h5, h6⟩ := h
  have : b' = 1 := by omega
  subst this
  rw [Int.mul_one, Int.mul_one] at h3
  subst h3
  exact ⟨h1, h6⟩

theorem small_len {n : Nat} (h : n < 18446744073709551616) : (digs 4294967296 n).length ≤ 390 := Nat.le_trans (digs_le_two h) (by omega)

set_option maxRecDepth 100000 in
set_option maxHeartbeats 4000000 in
theorem setInt64R_any (hdiv : DivSays) {w : World} {p : Nat} (hz : ZRat w p) (x : Int) (hx : -9223372036854775808 ≤ x) (hx2 : x ≤ 9223372036854775807) :
    Calls Tryz.prog 48 #[.pointer (some ⟨p, 0, none⟩), .int .i64 x] w fun e w' => e = .returned (.pointer (some ⟨p, 0, none⟩)) ∧ BRat w' p x 1 ∧ Keeps (fun k => k = p) w w' := by
  have HX := Lib.hid (newInt_any (w := w) x hx hx2)
  have H1 := Lib.hid (fun w' : World => newInt_any (w := w') 1 (by omega) (by omega))
  have HS := Lib.hid (fun (w2 : World) (p1 p2 : Nat) (hk : Keeps (fun _ => False) w w2) (h1 : BInt w2 p1 x) (h2 : BInt w2 p2 1) => setFrac_any hdiv (hk.blk hz) h1.at_ h2.at_ (by omega) (small_len (by omega)) (small_len (by decide)) (.inr (by decide)))
  clear hz
  go_enter Tryz.func48, Tryz.ntmps48
  go_wp2_with (first | (go_at_call 52; ((with_reducible refine HX.out.mono ?_); rintro e w1 ⟨p1, rfl, hb, hk, hp⟩; have HB1 := Lib.hid hb; have HK1 := Lib.hid hk; clear hb hk hp)) | (go_at_call 52; ((with_reducible refine (H1.out _).mono ?_); rintro e w2 ⟨p2, rfl, hb, hk, hp⟩; have HK2 := Lib.hid (HK1.out.trans hk fun _ h => .inl h); have HF := Lib.hid (HS.out _ _ _ HK2.out (HB1.out.later hk) hb); clear hb hk hp)) | (go_at_call 51; ((with_reducible refine HF.out.mono ?_); rintro e w3 ⟨rfl, hn⟩; have HN := Lib.hid (normed_one (normed_trans HK2.out hn)); clear hn)))
  go_ret
  exact ⟨rfl, HN.out.1, HN.out.2⟩

set_option maxRecDepth 100000 in
set_option maxHeartbeats 4000000 in
theorem setIntR_any (hdiv : DivSays) {w : World} {p q : Nat} {x : Int} (hz : ZRat w p) (hq : BInt w q x) (hl : (digs 4294967296 x.natAbs).length ≤ 390) :
    Calls Tryz.prog 49 #[.pointer (some ⟨p, 0, none⟩), .pointer (some ⟨q, 0, none⟩)] w fun e w' => e = .returned (.pointer (some ⟨p, 0, none⟩)) ∧ BRat w' p x 1 ∧ Keeps (fun k => k = p) w w' := by
  have H1 := Lib.hid (newInt_any (w := w) 1 (by omega) (by omega))
  have HS := Lib.hid (fun (w2 : World) (p2 : Nat) (hk : Keeps (fun _ => False) w w2) (h2 : BInt w2 p2 1) => setFrac_any hdiv (hk.blk hz) (hq.later hk).at_ h2.at_ (by omega) hl (small_len (by decide)) (.inr (by decide)))
  clear hz hq
  go_enter Tryz.func49, Tryz.ntmps49
  go_wp2_with (first | (go_at_call 52; ((with_reducible refine H1.out.mono ?_); rintro e w2 ⟨p2, rfl, hb, hk, hp⟩; have HK2 := Lib.hid hk; have HF := Lib.hid (HS.out _ _ HK2.out hb); clear hb hk hp)) | (go_at_call 51; ((with_reducible refine HF.out.mono ?_); rintro e w3 ⟨rfl, hn⟩; have HN := Lib.hid (normed_one (normed_trans HK2.out hn)); clear hn)))
  go_ret
  exact ⟨rfl, HN.out.1, HN.out.2⟩

set_option maxRecDepth 100000 in
set_option maxHeartbeats 4000000 in
theorem rat2_any (hdiv : DivSays) {w : World} (n : Int) (h0 : 0 ≤ n) (hn : n ≤ 40) :
    Calls Tryz.prog 39 #[.int .i64 n] w fun e w' => ∃ p, e = .returned (.pointer (some ⟨p, 0, none⟩)) ∧ BRat w' p (10 ^ n.toNat) 1 ∧ Keeps (fun _ => False) w w' := by
  obtain ⟨w1, hw1⟩ : ∃ w1, w.alloc (.cells #[.bool false, .slice none 0 0, .bool false, .slice none 0 0] 83) = w1 := ⟨_, rfl⟩
  obtain ⟨p, hp⟩ : ∃ p, w.heap.size = p := ⟨_, rfl⟩
  have hz : ZRat w1 p := by rw [← hw1, ← hp]; exact zrat_alloc w
  have hk : Keeps (fun _ => False) w w1 := by rw [← hw1]; exact (Keeps.refl _ _).alloc _
  have HT := Lib.hid (tenR_any (w := w1) n hn)
  have HS := Lib.hid (fun (w2 : World) (q : Nat) (hk2 : Keeps (fun _ => False) w1 w2) (hb : BInt w2 q (10 ^ n.toNat)) => setIntR_any hdiv (zrat_later hz hk2) hb (Nat.le_trans (ten_len (show n.toNat ≤ 40 by omega)) (by omega)))
  have HK := Lib.hid hk; have HP := Lib.hid hp
  clear hz hk
  go_enter Tryz.func39, Tryz.ntmps39
  go_wp2_with (first | (go_at_call 50; ((with_reducible refine HT.out.mono ?_); rintro e w2 ⟨q, rfl, hb, hk2, hp2⟩; have HK2 := Lib.hid hk2; have HF := Lib.hid (HS.out _ _ hk2 hb); clear hb hk2 hp2)) | (go_at_call 49; ((with_reducible refine HF.out.mono ?_); rintro e w3 ⟨rfl, hb, hk3⟩; have HB := Lib.hid hb; have HK3 := Lib.hid hk3; clear hb hk3)))
  go_ret
  exact ⟨p, rfl, HB.out, (HK.out.trans HK2.out fun _ h => .inl h).fresh HK3.out (by have := HP.out; omega)⟩

end Go.Proofs.YtnihfhfakadepaaGreatDoor
namespace Go.Proofs.YtnihfhfakadepaaGreatDoor
open Go.RowKit

/-- The fraction of a decimal, at a block. -/
def RatOf (w : World) (d : DecV) (p : Nat) (w' : World) : Prop :=
  ∃ P Q : Int, BRat w' p P Q ∧ IsRat d P Q ∧ P.natAbs < 4294967296 ^ 7 ∧ Q.natAbs < 4294967296 ^ 5 ∧ Keeps (fun _ => False) w w' ∧ (P.natAbs < 18446744073709551616 ∨ Q.natAbs < 18446744073709551616) ∧ w.heap.size ≤ p

theorem coef_ten {c : Int} {k : Nat} (h1 : -999999999999999999 ≤ c) (h2 : c ≤ 999999999999999999) (hk : k ≤ 40) : (c * 10 ^ k).natAbs < 4294967296 ^ 7 := by
  rw [Int.natAbs_mul, Int.natAbs_pow]
  have a1 : c.natAbs ≤ 10 ^ 18 := by omega
  have a2 : (Int.natAbs 10) ^ k ≤ 10 ^ 40 := Nat.pow_le_pow_right (by decide) hk
  have a3 := Nat.mul_le_mul a1 a2
  have a4 : (10 : Nat) ^ 18 * 10 ^ 40 < 4294967296 ^ 7 := by decide
  omega

theorem rat_up {w wf w9 : World} {d : DecV} {pr : Nat} {k : Nat} (he : d.exp = (k : Int)) (h1 : -999999999999999999 ≤ d.coef) (h2 : d.coef ≤ 999999999999999999) (hk : k ≤ 40) (hkw : Keeps (fun _ => False) w wf) (hpr : w.heap.size ≤ pr) (hn : Normed wf pr (d.coef * 10 ^ k) (1 * 1) w9) :
    ∃ p, Ending.returned (.pointer (some ⟨pr, 0, none⟩)) = .returned (.pointer (some ⟨p, 0, none⟩)) ∧ RatOf w d p w9 := by
  rw [Int.mul_one] at hn
  obtain ⟨hb, hk2⟩ := normed_one hn
  refine ⟨pr, rfl, _, _, hb, ⟨by omega, fun _ => by rw [he, Int.mul_one]; rfl, fun h => by omega⟩, coef_ten h1 h2 hk, by decide, hkw.fresh hk2 hpr, .inr (by decide), hpr⟩

theorem rat_down {w wf w9 : World} {d : DecV} {pr : Nat} {k : Nat} (he : d.exp = -(k : Int) ∧ 0 < k ∧ k ≤ 40) (h1 : -999999999999999999 ≤ d.coef) (h2 : d.coef ≤ 999999999999999999) (hkw : Keeps (fun _ => False) w wf) (hpr : w.heap.size ≤ pr) (hn : Normed wf pr (d.coef * 1) (1 * 10 ^ k) w9) :
    ∃ p, Ending.returned (.pointer (some ⟨pr, 0, none⟩)) = .returned (.pointer (some ⟨p, 0, none⟩)) ∧ RatOf w d p w9 := by
  rw [Int.mul_one, Int.one_mul] at hn
  obtain ⟨a', b', hb, h3, h4, h5, h6, hk2⟩ := hn
  refine ⟨pr, rfl, a', b', hb, ⟨h3, fun h => by omega, fun _ => ?_⟩, ?_, ?_, hkw.fresh hk2 hpr, .inl (by omega), hpr⟩
  · rw [he.1, show (-(-(k : Int))).toNat = k by omega]; exact h4.symm
  · have : (10 : Nat) ^ 18 < 4294967296 ^ 7 := by decide
    omega
  · have e1 : (10 : Int) ^ k = ((10 ^ k : Nat) : Int) := by rw [Int.natCast_pow]; rfl
    have := ten_lt he.2.2
    omega

theorem normed_ten {w w' : World} {p k : Nat} (h : Normed w p 1 (10 ^ k) w') : BRat w' p 1 (10 ^ k) ∧ Keeps (fun k => k = p) w w' := by
  obtain ⟨a', b', h1, h2, h3, h4, h5, h6⟩ := h
  have ht := ten_pos k
  have ha : a' = 1 := by
    rcases (show a' = 0 ∨ a' = 1 ∨ a' = -1 by omega) with h | h | h
    · rw [h] at h3; omega
    · exact h
    · rw [h] at h3; omega
  subst ha
  have : b' = 10 ^ k := by omega
  subst this
  exact ⟨h1, h6⟩

set_option maxRecDepth 100000 in
set_option maxHeartbeats 8000000 in
theorem ratR_any (hdiv : DivSays) {w : World} (d : DecV) (hd : wrongD d = 0) :
    Calls Tryz.prog 36 #[.agg #[.int .i64 d.coef, .int .i64 d.exp]] w fun e w' => ∃ p, e = .returned (.pointer (some ⟨p, 0, none⟩)) ∧ RatOf w d p w' := by
  obtain ⟨b1, b2, b3, b4⟩ := wrongD_zero hd
  have HC1 := Lib.hid b1; have HC2 := Lib.hid b2
  clear hd
  -- the box
  obtain ⟨w0, hw0⟩ : ∃ w0, w.alloc (.cells #[.int .i64 d.coef, .int .i64 d.exp] 23) = w0 := ⟨_, rfl⟩
  obtain ⟨pb, hpb⟩ : ∃ pb, w.heap.size = pb := ⟨_, rfl⟩
  have hbox : w0.heap[pb]? = some (.cells #[.int .i64 d.coef, .int .i64 d.exp] 23 (0, 0)) := by rw [← hw0, ← hpb]; exact heap_alloc_new _ _
  have hk0 : Keeps (fun _ => False) w w0 := by rw [← hw0]; exact (Keeps.refl _ _).alloc _
  -- the first fraction
  obtain ⟨w1, hw1⟩ : ∃ w1, w0.alloc (.cells #[.bool false, .slice none 0 0, .bool false, .slice none 0 0] 83) = w1 := ⟨_, rfl⟩
  obtain ⟨pr, hpr⟩ : ∃ pr, w0.heap.size = pr := ⟨_, rfl⟩
  have hz1 : ZRat w1 pr := by rw [← hw1, ← hpr]; exact zrat_alloc w0
  have hk1 : Keeps (fun _ => False) w0 w1 := by rw [← hw1]; exact (Keeps.refl _ _).alloc _
  have HS1 := Lib.hid (setInt64R_any hdiv hz1 d.coef (by omega) (by omega))
  have HPR := Lib.hid (show w.heap.size ≤ pr by have := hk0.size; omega)
  have hbox1 := hk1.blk hbox
  have x0 := cell_of_row w1 pb 0 _ _ _ hbox1
  have x1 := cell_of_row w1 pb 1 _ _ _ hbox1
  simp at x0 x1
  have HB1 := Lib.hid hbox1; have HK1 := Lib.hid (hk0.trans hk1 fun _ h => .inl h); have HPP := Lib.hid hpr
  have HPB := Lib.hid hpb; have HK0 := Lib.hid hk0
  have hbl := row_lt hbox
  clear hbox hk0 hk1 hz1 hbox1
  go_enter Tryz.func36, Tryz.ntmps36
  go_wp2_with (go_at_call 48; ((with_reducible refine HS1.out.mono ?_); rintro e w2 ⟨rfl, hb, hk⟩; have HR2 := Lib.hid hb; have HK2 := Lib.hid hk; have HB2 := Lib.hid ((hk.block pb (row_lt HB1.out) (by omega)).trans HB1.out); clear hb hk x0 x1; have x1 := cell_of_row w2 pb 1 _ _ _ HB2.out; have hbl2 := row_lt HB2.out; simp at x1))
  -- the power of ten, as a fraction
  obtain ⟨pp, hpp⟩ : ∃ pp, w2.heap.size = pp := ⟨_, rfl⟩
  obtain ⟨w3, hw3⟩ : ∃ w3, w2.alloc (.cells #[.bool false, .slice none 0 0, .bool false, .slice none 0 0] 83) = w3 := ⟨_, rfl⟩
  have hz3 : ZRat w3 pp := by rw [← hw3, ← hpp]; exact zrat_alloc w2
  have hk3 : Keeps (fun _ => False) w2 w3 := by rw [← hw3]; exact (Keeps.refl _ _).alloc _
  rw [hpp, hw3]
  have HT := Lib.hid (tenR_any (w := w3) d.exp b4)
  have HSI := Lib.hid (fun (W : World) (q : Nat) (hk : Keeps (fun _ => False) w3 W) (hb : BInt W q (10 ^ d.exp.toNat)) => setIntR_any hdiv (zrat_later hz3 hk) hb (Nat.le_trans (ten_len (show d.exp.toNat ≤ 40 by omega)) (by omega)))
  have HK3 := Lib.hid hk3; have HP2 := Lib.hid (show w.heap.size ≤ pp by have := HK1.out.size; have := HK2.out.size; omega)
  have HPL := Lib.hid (show w2.heap.size ≤ pp by omega)
  have HPNE := Lib.hid (show pr ≠ pp by have := HR2.out.lt; omega)
  have HBNE := Lib.hid (show pb ≠ pp by omega)
  clear hz3 hk3 HS1 hpp hw3 x1 hbl2 hw0 hw1 hpr hpb
  with_reducible refine HT.out.mono ?_
  rintro e w4 ⟨q4, rfl, hb4, hk4, _⟩
  have HK4 := Lib.hid hk4
  have HS4 := Lib.hid (HSI.out w4 q4 hk4 hb4)
  clear hb4 hk4 HT HSI
  go_wp2_with (go_at_call 49; ((with_reducible refine HS4.out.mono ?_); rintro e w5 ⟨rfl, hb5, hk5⟩; have HB5 := Lib.hid hb5; have HK25 := Lib.hid ((HK3.out.trans HK4.out fun _ h => .inl h).fresh hk5 HPL.out); have HBX := Lib.hid (HK25.out.blk HB2.out); have x1 := cell_of_row w5 pb 1 _ _ _ HBX.out; have hbl5 := row_lt HBX.out; simp at x1; clear hb5 hk5))
  all_goals
    have HR5 := Lib.hid (HR2.out.later HK25.out)
    have HKW := Lib.hid ((HK1.out.fresh HK2.out HPR.out).trans HK25.out fun _ h => .inl h)
    clear HS4 HK3 HK4 HB2 HR2
  · -- below nought
    have hneg : d.exp < 0 := by assumption
    obtain ⟨k, hk⟩ : ∃ k : Nat, d.exp = -(k : Int) := ⟨(-d.exp).toNat, by omega⟩
    have HDE := Lib.hid (show d.exp = -(k : Int) ∧ 0 < k ∧ k ≤ 40 by omega)
    have hwn : IntKind.i64.wrap (-d.exp) = (k : Int) := by rw [hk]; simp only [IntKind.wrap_i64]; omega
    have HN1 := Lib.hid (fun W : World => newInt_any (w := W) 1 (by omega) (by omega))
    have HT2 := Lib.hid (fun W : World => tenR_any (w := W) (k : Int) (by omega))
    simp only [Int.toNat_natCast] at HT2
    have hkl : k ≤ 40 := by omega
    have HFR := Lib.hid (fun (W : World) (qz q1 q2 : Nat) (hz : ZRat W qz) (h1 : BInt W q1 1) (h2 : BInt W q2 (10 ^ k)) => (setFrac_any hdiv hz h1.at_ h2.at_ (ten_pos k) (small_len (by decide)) (Nat.le_trans (ten_len hkl) (by omega)) (.inl (by decide))).mono fun e w' hh => (⟨hh.1, (normed_ten hh.2).1, (normed_ten hh.2).2⟩ : e = .returned (.pointer (some ⟨qz, 0, none⟩)) ∧ BRat w' qz 1 (10 ^ k) ∧ Keeps (fun k => k = qz) W w'))
    have HMUL := Lib.hid (fun (W : World) (qz : Nat) (hkk : Keeps (fun _ => False) w5 W) (h2 : BRat W qz 1 (10 ^ k)) => by
      obtain ⟨u0, u1, u2, u3, hblk⟩ := (HR5.out.later hkk).blk
      exact rmul_any hdiv hblk (HR5.out.later hkk) h2 (by omega) (ten_pos k) (Nat.le_trans (small_len (by omega)) (by omega)) (Nat.le_trans (small_len (by decide)) (by omega)) (Nat.le_trans (small_len (by decide)) (by omega)) (Nat.le_trans (ten_len hkl) (by omega))
        (by rw [Int.mul_one]; exact small_len (by omega)) (by rw [Int.one_mul]; exact Nat.le_trans (ten_len hkl) (by omega)) (.inl (by rw [Int.mul_one]; omega)))
    have HBC := Lib.hid (fun (w' : World) (hkk : Keeps (fun _ => False) w5 w') => hkk.cell (fun h => h) x1)
    clear hk hneg x1 hbl5 HR5
    refine Wg.wp_region_first (C := fun w' => Keeps (fun _ => False) w5 w') (by kernel_rfl) 6 ?_
    have K0 := Lib.hid (show Keeps (fun _ => False) w5 { w5 with drawn := w5.drawn + 1 } from (Keeps.refl _ w5).drew)
    generalize { w5 with drawn := w5.drawn + 1 } = W at *
    apply Wg.wpAnyP_stays (by kernel_rfl) [2, 3, 4] _ _ _ 5 _ K0.out (by kernel_rfl) ?hs ?hr
    case hs =>
      repeat (apply Wg.wpStays_step rfl rfl; (intro w' hw'; have d0 := HBC.out w' hw'; clear hw'; go_simp; exact ⟨rfl, rfl⟩); go_simp)
      exact rfl
    case hr =>
      apply Wg.wpAnyP_two (i := 0) (k := 1) (fuel := 4) (by kernel_rfl) rfl rfl rfl rfl
      · skip
        go_simp
        refine ⟨(K0.out.alloc _), ?_⟩
        have hz1 := zrat_alloc W
        have hk1 : Keeps (fun _ => False) W (W.alloc (.cells #[.bool false, .slice none 0 0, .bool false, .slice none 0 0] 83)) := (Keeps.refl _ _).alloc _
        obtain ⟨qz, hqz⟩ : ∃ q, W.heap.size = q := ⟨_, rfl⟩
        rw [hqz] at hz1 ⊢
        generalize hw1 : W.alloc (.cells #[.bool false, .slice none 0 0, .bool false, .slice none 0 0] 83) = W1 at *
        have K1 := Lib.hid (K0.out.trans hk1 fun _ h => .inl h)
        have Z1 := Lib.hid hz1
        have QZ := Lib.hid (show w5.heap.size ≤ qz by have := K0.out.size; omega)
        clear hz1 hk1 hqz hw1
        apply Wg.wpAnyP_one (i := 1) (fuel := 3) (by kernel_rfl) rfl rfl
        go_simp
        refine Wg.plain_call (HN1.out W1) ?_
        rintro e W2 ⟨q1, rfl, hb2, hk2, _⟩
        have K2 := Lib.hid (K1.out.trans hk2 fun _ h => .inl h)
        refine ⟨_, rfl, K2.out, ?_⟩
        have Z2 := Lib.hid (zrat_later Z1.out hk2)
        have B1_2 := Lib.hid hb2
        clear hb2 hk2
        apply Wg.wpAnyP_one (i := 5) (fuel := 2) (by kernel_rfl) rfl rfl
        go_simp
        refine Wg.plain_call (HT2.out W2) ?_
        rintro e W3 ⟨q2, rfl, hb3, hk3, _⟩
        have K3 := Lib.hid (K2.out.trans hk3 fun _ h => .inl h)
        refine ⟨_, rfl, K3.out, ?_⟩
        have Z3 := Lib.hid (zrat_later Z2.out hk3)
        have B1_3 := Lib.hid (BInt.later B1_2.out hk3)
        have B2_3 := Lib.hid hb3
        clear hb3 hk3
        apply Wg.wpAnyP_one (i := 6) (fuel := 1) (by kernel_rfl) rfl rfl
        go_simp
        refine Wg.plain_call (HFR.out W3 qz q1 q2 Z3.out B1_3.out B2_3.out) ?_
        rintro e W4 ⟨rfl, hb4, hk4⟩
        have K4 := Lib.hid (K3.out.fresh hk4 QZ.out)
        refine ⟨_, rfl, trivial, ?_⟩
        have BF := Lib.hid hb4
        clear hb4 hk4
        apply Wg.wpAnyP_one (i := 7) (fuel := 0) (by kernel_rfl) rfl rfl
        go_simp
        refine ⟨trivial, by kernel_rfl, ?_⟩
        go_simp
        have HM := Lib.hid (HMUL.out _ qz K4.out BF.out)
        have HKF := Lib.hid (HKW.out.trans K4.out fun _ h => .inl h)
        clear K0 HN1 HT2 HFR HMUL
        go_wp2_with (go_at_call 53; ((with_reducible refine HM.out.mono ?_); rintro e w9 ⟨rfl, hn⟩; have HNM := Lib.hid hn; clear hn))
        go_ret
        exact rat_down HDE.out HC1.out HC2.out HKF.out HPR.out HNM.out
        
      · skip
        go_simp
        refine Wg.plain_call (HN1.out W) ?_
        rintro e W1 ⟨q1, rfl, hb1, hk1, _⟩
        have K1 := Lib.hid (K0.out.trans hk1 fun _ h => .inl h)
        refine ⟨_, rfl, K1.out, ?_⟩
        have B1_1 := Lib.hid hb1
        clear hb1 hk1
        apply Wg.wpAnyP_two (i := 0) (k := 5) (fuel := 3) (by kernel_rfl) rfl rfl rfl rfl
        · skip
          go_simp
          refine ⟨(K1.out.alloc _), ?_⟩
          have hz2 := zrat_alloc W1
          have hk2 : Keeps (fun _ => False) W1 (W1.alloc (.cells #[.bool false, .slice none 0 0, .bool false, .slice none 0 0] 83)) := (Keeps.refl _ _).alloc _
          obtain ⟨qz, hqz⟩ : ∃ q, W1.heap.size = q := ⟨_, rfl⟩
          rw [hqz] at hz2 ⊢
          generalize hw2 : W1.alloc (.cells #[.bool false, .slice none 0 0, .bool false, .slice none 0 0] 83) = W2 at *
          have K2 := Lib.hid (K1.out.trans hk2 fun _ h => .inl h)
          have Z2 := Lib.hid hz2
          have QZ := Lib.hid (show w5.heap.size ≤ qz by have := K1.out.size; omega)
          have B1_2 := Lib.hid (BInt.later B1_1.out hk2)
          clear hz2 hk2 hqz hw2
          apply Wg.wpAnyP_one (i := 5) (fuel := 2) (by kernel_rfl) rfl rfl
          go_simp
          refine Wg.plain_call (HT2.out W2) ?_
          rintro e W3 ⟨q2, rfl, hb3, hk3, _⟩
          have K3 := Lib.hid (K2.out.trans hk3 fun _ h => .inl h)
          refine ⟨_, rfl, K3.out, ?_⟩
          have Z3 := Lib.hid (zrat_later Z2.out hk3)
          have B1_3 := Lib.hid (BInt.later B1_2.out hk3)
          have B2_3 := Lib.hid hb3
          clear hb3 hk3
          apply Wg.wpAnyP_one (i := 6) (fuel := 1) (by kernel_rfl) rfl rfl
          go_simp
          refine Wg.plain_call (HFR.out W3 qz q1 q2 Z3.out B1_3.out B2_3.out) ?_
          rintro e W4 ⟨rfl, hb4, hk4⟩
          have K4 := Lib.hid (K3.out.fresh hk4 QZ.out)
          refine ⟨_, rfl, trivial, ?_⟩
          have BF := Lib.hid hb4
          clear hb4 hk4
          apply Wg.wpAnyP_one (i := 7) (fuel := 0) (by kernel_rfl) rfl rfl
          go_simp
          refine ⟨trivial, by kernel_rfl, ?_⟩
          go_simp
          have HM := Lib.hid (HMUL.out _ qz K4.out BF.out)
          have HKF := Lib.hid (HKW.out.trans K4.out fun _ h => .inl h)
          clear K0 HN1 HT2 HFR HMUL
          go_wp2_with (go_at_call 53; ((with_reducible refine HM.out.mono ?_); rintro e w9 ⟨rfl, hn⟩; have HNM := Lib.hid hn; clear hn))
          go_ret
          exact rat_down HDE.out HC1.out HC2.out HKF.out HPR.out HNM.out
          
        · skip
          go_simp
          refine Wg.plain_call (HT2.out W1) ?_
          rintro e W2 ⟨q2, rfl, hb2, hk2, _⟩
          have K2 := Lib.hid (K1.out.trans hk2 fun _ h => .inl h)
          refine ⟨_, rfl, K2.out, ?_⟩
          have B1_2 := Lib.hid (BInt.later B1_1.out hk2)
          have B2_2 := Lib.hid hb2
          clear hb2 hk2
          apply Wg.wpAnyP_one (i := 0) (fuel := 2) (by kernel_rfl) rfl rfl
          go_simp
          refine ⟨(K2.out.alloc _), ?_⟩
          have hz3 := zrat_alloc W2
          have hk3 : Keeps (fun _ => False) W2 (W2.alloc (.cells #[.bool false, .slice none 0 0, .bool false, .slice none 0 0] 83)) := (Keeps.refl _ _).alloc _
          obtain ⟨qz, hqz⟩ : ∃ q, W2.heap.size = q := ⟨_, rfl⟩
          rw [hqz] at hz3 ⊢
          generalize hw3 : W2.alloc (.cells #[.bool false, .slice none 0 0, .bool false, .slice none 0 0] 83) = W3 at *
          have K3 := Lib.hid (K2.out.trans hk3 fun _ h => .inl h)
          have Z3 := Lib.hid hz3
          have QZ := Lib.hid (show w5.heap.size ≤ qz by have := K2.out.size; omega)
          have B1_3 := Lib.hid (BInt.later B1_2.out hk3)
          have B2_3 := Lib.hid (BInt.later B2_2.out hk3)
          clear hz3 hk3 hqz hw3
          apply Wg.wpAnyP_one (i := 6) (fuel := 1) (by kernel_rfl) rfl rfl
          go_simp
          refine Wg.plain_call (HFR.out W3 qz q1 q2 Z3.out B1_3.out B2_3.out) ?_
          rintro e W4 ⟨rfl, hb4, hk4⟩
          have K4 := Lib.hid (K3.out.fresh hk4 QZ.out)
          refine ⟨_, rfl, trivial, ?_⟩
          have BF := Lib.hid hb4
          clear hb4 hk4
          apply Wg.wpAnyP_one (i := 7) (fuel := 0) (by kernel_rfl) rfl rfl
          go_simp
          refine ⟨trivial, by kernel_rfl, ?_⟩
          go_simp
          have HM := Lib.hid (HMUL.out _ qz K4.out BF.out)
          have HKF := Lib.hid (HKW.out.trans K4.out fun _ h => .inl h)
          clear K0 HN1 HT2 HFR HMUL
          go_wp2_with (go_at_call 53; ((with_reducible refine HM.out.mono ?_); rintro e w9 ⟨rfl, hn⟩; have HNM := Lib.hid hn; clear hn))
          go_ret
          exact rat_down HDE.out HC1.out HC2.out HKF.out HPR.out HNM.out
          
  · have hge : ¬ d.exp < 0 := by omega
    obtain ⟨k, hk⟩ : ∃ k : Nat, d.exp = (k : Int) := ⟨d.exp.toNat, by omega⟩
    have hkl : k ≤ 40 := by omega
    have HKE := Lib.hid hk
    have e10 : d.exp.toNat = k := by omega
    rw [e10] at HB5
    obtain ⟨u0, u1, u2, u3, hblk⟩ := HR5.out.blk
    have hcl : (digs 4294967296 (d.coef * 10 ^ k).natAbs).length ≤ 390 := Nat.le_trans (digs_length_le (by omega) 7 _ (coef_ten b1 b2 hkl)) (by omega)
    have HM := Lib.hid (rmul_any hdiv hblk HR5.out HB5.out (by omega) (by omega) (Nat.le_trans (small_len (by omega)) (by omega)) (Nat.le_trans (small_len (by decide)) (by omega)) (Nat.le_trans (ten_len hkl) (by omega)) (Nat.le_trans (small_len (by decide)) (by omega)) hcl (small_len (by decide)) (.inr (by decide)))
    clear hk e10 hblk x1 hbl5 hcl
    go_wp2_with (go_at_call 53; ((with_reducible refine HM.out.mono ?_); rintro e w9 ⟨rfl, hn⟩; have HNM := Lib.hid hn; clear hn))
    go_ret
    exact rat_up HKE.out HC1.out HC2.out hkl HKW.out HPR.out HNM.out

end Go.Proofs.YtnihfhfakadepaaGreatDoor
namespace Go.Proofs.YtnihfhfakadepaaGreatDoor
open Go.RowKit

/-- What a comparison hands back: the order, and what is wrong. -/
def cmpE (a b : DecV) : Int × Int := if wrongD a ≠ 0 then (0, wrongD a) else if wrongD b ≠ 0 then (0, wrongD b) else (cmpD a b, 0)

theorem cmpR_dec {a b : DecV} {p q r s : Int} (h1 : IsRat a p q) (h2 : IsRat b r s) (ha : -40 ≤ a.exp) (hb : -40 ≤ b.exp) : cmpR p q r s = cmpD a b := by
  unfold cmpR
  split
  · rename_i e
    subst e
    exact cmp_rats_same h1 h2 ha hb
  · exact cmp_rats h1 h2 ha hb

theorem len_of_lt {n k m : Nat} (h : n < 4294967296 ^ k) (hk : k ≤ m) : (digs 4294967296 n).length ≤ m := Nat.le_trans (digs_length_le (by omega) k n h) hk

theorem rcmp_dec {w : World} {p1 p2 : Nat} {a b : DecV} {P Q R S : Int} (hx : BRat w p1 P Q) (hy : BRat w p2 R S) (h1 : IsRat a P Q) (h2 : IsRat b R S) (l1 : P.natAbs < 4294967296 ^ 7) (l2 : Q.natAbs < 4294967296 ^ 5) (l3 : R.natAbs < 4294967296 ^ 7) (l4 : S.natAbs < 4294967296 ^ 5) (ha : -40 ≤ a.exp) (hb : -40 ≤ b.exp) :
    Calls Tryz.prog 38 #[.pointer (some ⟨p1, 0, none⟩), .pointer (some ⟨p2, 0, none⟩)] w fun e w' => e = .returned (.int .i64 (cmpD a b)) ∧ Keeps (fun _ => False) w w' := by
  rw [← cmpR_dec h1 h2 ha hb]
  refine rcmp_any hx hy h1.pos h2.pos (len_of_lt l1 (by omega)) (len_of_lt l2 (by omega)) (len_of_lt l3 (by omega)) (len_of_lt l4 (by omega)) ?_
  refine len_of_lt (k := 12) ?_ (by omega)
  rw [Int.natAbs_mul, show 12 = 7 + 5 from rfl, Nat.pow_add]
  exact Nat.mul_lt_mul'' l1 l4

set_option maxRecDepth 100000 in
set_option maxHeartbeats 4000000 in
theorem refCmp_any (hdiv : DivSays) {w : World} (a b : DecV) :
    Calls Tryz.prog 33 #[.agg #[.int .i64 a.coef, .int .i64 a.exp], .agg #[.int .i64 b.coef, .int .i64 b.exp]] w fun e w' => e = .returned (.tuple #[.int .i64 (cmpE a b).1, .int .i64 (cmpE a b).2]) ∧ Keeps (fun _ => False) w w' := by
  obtain ⟨w1, hw1⟩ : ∃ w1, w.alloc (.cells #[.int .i64 a.coef, .int .i64 a.exp] 23) = w1 := ⟨_, rfl⟩
  obtain ⟨pa, hpa⟩ : ∃ pa, w.heap.size = pa := ⟨_, rfl⟩
  have ha1 : w1.heap[pa]? = some (.cells #[.int .i64 a.coef, .int .i64 a.exp] 23 (0, 0)) := by rw [← hw1, ← hpa]; exact heap_alloc_new _ _
  have hk1 : Keeps (fun _ => False) w w1 := by rw [← hw1]; exact (Keeps.refl _ _).alloc _
  obtain ⟨w2, hw2⟩ : ∃ w2, w1.alloc (.cells #[.int .i64 b.coef, .int .i64 b.exp] 23) = w2 := ⟨_, rfl⟩
  obtain ⟨pb, hpb⟩ : ∃ pb, w1.heap.size = pb := ⟨_, rfl⟩
  have hb2 : w2.heap[pb]? = some (.cells #[.int .i64 b.coef, .int .i64 b.exp] 23 (0, 0)) := by rw [← hw2, ← hpb]; exact heap_alloc_new _ _
  have hk2 : Keeps (fun _ => False) w1 w2 := by rw [← hw2]; exact (Keeps.refl _ _).alloc _
  have ha2 := hk2.blk ha1
  have HK := Lib.hid (hk1.trans hk2 fun _ h => .inl h)
  have HC := Lib.hid (fun (W : World) (hk : Keeps (fun _ => False) w2 W) => (⟨cell_of_row W pa 0 _ _ _ (hk.blk ha2), cell_of_row W pa 1 _ _ _ (hk.blk ha2), cell_of_row W pb 0 _ _ _ (hk.blk hb2), cell_of_row W pb 1 _ _ _ (hk.blk hb2)⟩ : W.cell? ⟨pa, 0, none⟩ = some (.int .i64 a.coef) ∧ W.cell? ⟨pa, 1, none⟩ = some (.int .i64 a.exp) ∧ W.cell? ⟨pb, 0, none⟩ = some (.int .i64 b.coef) ∧ W.cell? ⟨pb, 1, none⟩ = some (.int .i64 b.exp)))
  have HW1 := Lib.hid (fun W : World => refWrong_any (w := W) a)
  have HW2 := Lib.hid (fun W : World => refWrong_any (w := W) b)
  obtain ⟨d0, d1, d2, d3⟩ := HC.out w2 (Keeps.refl _ _)
  have HPA := Lib.hid hpa; have HPB := Lib.hid hpb; have HHW1 := Lib.hid hw1; have HHW2 := Lib.hid hw2
  clear ha1 hk1 hb2 hk2 ha2
  by_cases hwa : wrongD a = 0
  · by_cases hwb : wrongD b = 0
    · have he : cmpE a b = (cmpD a b, 0) := by unfold cmpE; rw [if_neg (by simpa using hwa), if_neg (by simpa using hwb)]
      rw [he]
      have HR1 := Lib.hid (fun W : World => ratR_any hdiv (w := W) a hwa)
      have HR2 := Lib.hid (fun W : World => ratR_any hdiv (w := W) b hwb)
      have HB := Lib.hid (And.intro (wrongD_zero hwa) (wrongD_zero hwb))
      rw [hwa] at HW1
      rw [hwb] at HW2
      clear he hwa hwb
      go_enter Tryz.func33, Tryz.ntmps33
      go_wp2_with (first | (go_at_call 31; ((with_reducible refine (HW1.out _).mono ?_); rintro e w3 ⟨rfl, hk3⟩; have HK3 := Lib.hid hk3; clear d0 d1 d2 d3; obtain ⟨d0, d1, d2, d3⟩ := HC.out w3 hk3; clear hk3)) | (go_at_call 31; ((with_reducible refine (HW2.out _).mono ?_); rintro e w4 ⟨rfl, hk4⟩; have HK4 := Lib.hid (HK3.out.trans hk4 fun _ h => .inl h); clear hk4 d0 d1 d2 d3)))
      have K4 := Lib.hid (show Keeps (fun _ => False) w2 { w4 with drawn := w4.drawn + 1 } from HK4.out.drew)
      clear HW1 HW2
      refine Wg.wp_region_first (C := fun w' => Keeps (fun _ => False) w2 w') (by kernel_rfl) 5 ?_
      generalize { w4 with drawn := w4.drawn + 1 } = W at *
      apply Wg.wpAnyP_stays (by kernel_rfl) [0, 2] _ _ _ 5 _ K4.out (by kernel_rfl) ?hs ?hr
      case hs =>
        repeat (apply Wg.wpStays_step rfl rfl; (intro w' hw'; obtain ⟨d0, d1, d2, d3⟩ := HC.out w' hw'; clear hw'; go_simp; exact ⟨rfl, rfl⟩); go_simp)
        exact rfl
      case hr =>
        apply Wg.wpAnyP_one (i := 1) (fuel := 4) (by kernel_rfl) rfl rfl
        go_simp
        refine Wg.plain_call (HR1.out W) ?_
        rintro e W1 ⟨p1, rfl, P, Q, hb1, hr1, l1, l2, hk1, _⟩
        refine ⟨_, rfl, (K4.out.trans hk1 fun _ h => .inl h), ?_⟩
        have A1 := Lib.hid (And.intro hb1 (And.intro hr1 (And.intro l1 (And.intro l2 (K4.out.trans hk1 fun _ h => .inl h)))))
        clear hb1 hr1 l1 l2 hk1
        apply Wg.wpAnyP_one (i := 3) (fuel := 3) (by kernel_rfl) rfl rfl
        go_simp
        refine Wg.plain_call (HR2.out W1) ?_
        rintro e W2 ⟨p2, rfl, R, S, hb2, hr2, l3, l4, hk2, _⟩
        have A2 := Lib.hid (And.intro hb2 (And.intro hr2 (And.intro l3 (And.intro l4 (A1.out.2.2.2.2.trans hk2 fun _ h => .inl h)))))
        have A3 := Lib.hid (A1.out.1.later hk2)
        refine ⟨_, rfl, A2.out.2.2.2.2, ?_⟩
        clear hb2 hr2 l3 l4 hk2
        have HX := Lib.hid (rcmp_dec A3.out A2.out.1 A1.out.2.1 A2.out.2.1 A1.out.2.2.1 A1.out.2.2.2.1 A2.out.2.2.1 A2.out.2.2.2.1 (by have := HB.out.1; omega) (by have := HB.out.2; omega))
        apply Wg.wpAnyP_one (i := 4) (fuel := 2) (by kernel_rfl) rfl rfl
        go_simp
        refine Wg.plain_call HX.out ?_
        rintro e W3 ⟨rfl, hk3⟩
        have K9 := Lib.hid (A2.out.2.2.2.2.trans hk3 fun _ h => .inl h)
        refine ⟨_, rfl, K9.out, ?_⟩
        clear hk3
        apply Wg.wpAnyP_one (i := 5) (fuel := 1) (by kernel_rfl) rfl rfl
        go_simp
        refine ⟨trivial, ?_⟩
        apply Wg.wpAnyP_one (i := 6) (fuel := 0) (by kernel_rfl) rfl rfl
        go_simp
        refine ⟨trivial, by kernel_rfl, ?_⟩
        go_simp
        go_wp2_with fail
        go_ret2
        exact ⟨rfl, HK.out.trans K9.out fun _ h => .inl h⟩
    · have he : cmpE a b = (0, wrongD b) := by unfold cmpE; rw [if_neg (by simpa using hwa), if_pos hwb]
      rw [he]
      rw [hwa] at HW1
      clear he
      go_enter Tryz.func33, Tryz.ntmps33
      go_wp2_with (first | (go_at_call 31; ((with_reducible refine (HW1.out _).mono ?_); rintro e w3 ⟨rfl, hk3⟩; have HK3 := Lib.hid hk3; clear d0 d1 d2 d3; obtain ⟨d0, d1, d2, d3⟩ := HC.out w3 hk3; clear hk3)) | (go_at_call 31; ((with_reducible refine (HW2.out _).mono ?_); rintro e w4 ⟨rfl, hk4⟩; have HK4 := Lib.hid (HK3.out.trans hk4 fun _ h => .inl h); clear hk4 d0 d1 d2 d3)))
      go_ret2
      exact ⟨rfl, HK.out.trans HK4.out fun _ h => .inl h⟩
  · have he : cmpE a b = (0, wrongD a) := by unfold cmpE; rw [if_pos hwa]
    rw [he]
    clear he
    go_enter Tryz.func33, Tryz.ntmps33
    go_wp2_with (first | (go_at_call 31; ((with_reducible refine (HW1.out _).mono ?_); rintro e w3 ⟨rfl, hk3⟩; have HK3 := Lib.hid hk3; clear d0 d1 d2 d3; obtain ⟨d0, d1, d2, d3⟩ := HC.out w3 hk3; clear hk3)))
    go_ret2
    exact ⟨rfl, HK.out.trans HK3.out fun _ h => .inl h⟩

end Go.Proofs.YtnihfhfakadepaaGreatDoor
