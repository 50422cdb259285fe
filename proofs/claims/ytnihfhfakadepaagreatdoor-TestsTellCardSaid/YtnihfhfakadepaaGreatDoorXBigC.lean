/- Package verdictbig: the greatest common divisor. Package verdictbig: a fraction brought to its lowest terms. Package verdictbig: fractions made of whole numbers. Package verdictbig: long division by two words. Plain: a digit's multiple taken from three words, as the loop's slots hold each number. No program is here. -/
import Derived.Test.YtnihfhfakadepaaGreatDoorXBigB
import Derived.Test.YtnihfhfakadepaaGreatDoorXPlainA
import Derived.LoopN
import Derived.Deep.CutBlock
import Derived.Deep.DeepCutAuto
import Derived.Deep.QuietTactic
import Derived.BigQuiet
import Derived.Laws.CopyOwn
import Derived.Outline
namespace Go.Proofs.YtnihfhfakadepaaGreatDoor
open Go.RowKit

def DivSays : Prop := ∀ {w : World} {v1 v2 : Value} {a b : Nat}, N32 w v1 a → N32 w v2 b → (digs 4294967296 a).length ≤ 390 → 0 < b → (a < b ∨ b < 18446744073709551616) → Calls Tryz.prog 81 #[v1, v2] w (Divided w a b)

/-- The two numbers of Euclid's steps, as two slots hold them. -/
def GcdAt (g : Nat) (x y : Value) : Prop := ∃ n m : Nat, x = .int .u64 n ∧ y = .int .u64 m ∧ n < 18446744073709551616 ∧ m < 18446744073709551616 ∧ Nat.gcd n m = g

theorem N32.len {w : World} {v : Value} {n : Nat} (h : N32 w v n) : ∃ A c, v = .slice A (digs 4294967296 n).length c := by
  obtain ⟨A, c, h, _⟩ := h.slice
  exact ⟨A, c, h⟩

set_option maxRecDepth 100000 in
set_option maxHeartbeats 4000000 in
theorem common_one {w : World} {v1 v2 : Value} {a b : Nat} (h1 : N32 w v1 a) (h2 : N32 w v2 b) (ha : a < 18446744073709551616) (hb : b < 18446744073709551616) (hb0 : 0 < b) :
    Calls Tryz.prog 80 #[v1, v2] w fun e w' => ∃ v', e = .returned v' ∧ N32 w' v' (Nat.gcd a b) ∧ Keeps (fun _ => False) w w' := by
  have HP1 := Lib.hid (plain_any h1 ha)
  have HP2 := Lib.hid (plain_any h2 hb)
  have l1 := digs_le_two ha
  have l2 := digs_le_two hb
  have l3 := digs_len_pos hb0
  obtain ⟨A1, c1, rfl⟩ := h1.len
  obtain ⟨A2, c2, rfl⟩ := h2.len
  obtain ⟨g, hg⟩ : ∃ g, Nat.gcd a b = g := ⟨_, rfl⟩
  have HG := Lib.hid (show GcdAt g (.int .u64 (a : Int)) (.int .u64 (b : Int)) from ⟨a, b, rfl, rfl, ha, hb, hg⟩)
  rw [hg]
  clear h1 h2 hg
  generalize (digs 4294967296 a).length = n at *
  generalize (digs 4294967296 b).length = m at *
  have hne : ((m : Int) == 0) = false := by rw [beq_eq_false_iff_ne]; omega
  go_enter Tryz.func80, Tryz.ntmps80
  go_wp2_with fail
  refine wp_loop_rounds 1 ?_
  rw [rounds_succ]
  go_wp2_with (first | (go_at_call 87; ((with_reducible refine HP1.out.mono ?_); rintro e w2 ⟨rfl, hw2⟩; rw [hw2]; clear hw2 w2)) | (go_at_call 87; ((with_reducible refine HP2.out.mono ?_); rintro e w2 ⟨rfl, hw2⟩; rw [hw2]; clear hw2 w2)))
  go_loopw [9, 10] (fun x y wr => GcdAt g x y ∧ Hid (Keeps (fun _ => False) w wr)) (fun _ y _ => (intOf y).toNat)
  case atStart => exact ⟨HG.out, Lib.hid (Keeps.refl _ _)⟩
  case round =>
    obtain ⟨⟨x, y, rfl, rfl, hx, hy, hxy⟩, hk⟩ := hrel
    rcases Nat.eq_zero_or_pos y with rfl | hy0
    · rw [Nat.gcd_zero_right] at hxy
      have HW := Lib.hid (fun W : World => words_any (w := W) x hx)
      rw [hxy] at HW
      have HX := Lib.hid hxy
      clear hxy HG
      go_wp2_with (go_at_call 82; rw [HX.out]; ((with_reducible refine (HW.out _).mono ?_); rintro e w3 ⟨v', rfl, hn, hk3⟩; have HN := Lib.hid hn; have HK3 := Lib.hid hk3; clear hn hk3))
      go_ret
      exact ⟨_, rfl, HN.out, hk.out.trans HK3.out fun _ h => .inl h⟩
    · have hyz : ¬ y = 0 := by omega
      have hyb : (1 : Int) ≤ (y : Int) := by omega
      obtain ⟨R, hR⟩ : ∃ R, x % y = R := ⟨_, rfl⟩
      have hRl : R < y := by rw [← hR]; exact Nat.mod_lt _ hy0
      have hmt : (x : Int).tmod (y : Int) = (R : Int) := by rw [← hR]; rfl
      have hmd : (x : Int) % (y : Int) = (R : Int) := by rw [← hR]; rfl
      have HG2 := Lib.hid (show GcdAt g (.int .u64 (y : Int)) (.int .u64 (R : Int)) from ⟨y, R, rfl, rfl, hy, by omega, by rw [← hR, Nat.gcd_comm, ← Nat.gcd_rec, Nat.gcd_comm]; exact hxy⟩)
      clear hxy hR HG
      go_upto_region 11 with fail
      go_quiet (fail)
      go_wp2_with fail
      go_roundw
      case measure => simp [intOf]; omega
      case rel => exact ⟨HG2.out, Lib.hid (hk.out.drewN _)⟩
theorem gcd_step (a b : Nat) : Nat.gcd b (a % b) = Nat.gcd a b := by rw [Nat.gcd_comm b, ← Nat.gcd_rec, Nat.gcd_comm]

set_option maxRecDepth 100000 in
set_option maxHeartbeats 4000000 in
theorem common_left (hdiv : DivSays) {w : World} {v1 v2 : Value} {a b : Nat} (h1 : N32 w v1 a) (h2 : N32 w v2 b) (hl : (digs 4294967296 a).length ≤ 390) (ha : 18446744073709551616 ≤ a) (hb : b < 18446744073709551616) (hb0 : 0 < b) :
    Calls Tryz.prog 80 #[v1, v2] w fun e w' => ∃ v', e = .returned v' ∧ N32 w' v' (Nat.gcd a b) ∧ Keeps (fun _ => False) w w' := by
  have HD := Lib.hid (hdiv h1 h2 hl hb0 (.inr hb))
  have HP1 := Lib.hid (fun (W : World) (hk : Keeps (fun _ => False) w W) => plain_any (h2.later hk) hb)
  have HP2 := Lib.hid (fun (W : World) (v : Value) (hv : N32 W v (a % b)) => plain_any hv (Nat.lt_trans (Nat.mod_lt a hb0) hb))
  have HM := Lib.hid (digs_le_two (Nat.lt_trans (Nat.mod_lt a hb0) hb))
  have l1 := digs_ge_three ha
  have l2 := digs_le_two hb
  have l3 := digs_len_pos hb0
  obtain ⟨A1, c1, rfl⟩ := h1.len
  obtain ⟨A2, c2, rfl⟩ := h2.len
  obtain ⟨g, hg⟩ : ∃ g, Nat.gcd a b = g := ⟨_, rfl⟩
  have HG := Lib.hid (show GcdAt g (.int .u64 (b : Int)) (.int .u64 ((a % b : Nat) : Int)) from ⟨b, a % b, rfl, rfl, hb, Nat.lt_trans (Nat.mod_lt a hb0) hb, by rw [gcd_step, hg]⟩)
  rw [hg]
  clear h1 h2 hg
  generalize (digs 4294967296 a).length = n at *
  generalize (digs 4294967296 b).length = m at *
  obtain ⟨R, hR⟩ : ∃ R, a % b = R := ⟨_, rfl⟩
  rw [hR] at HG HP2 HM
  have HRE := Lib.hid hR
  clear hR
  have hne : ((m : Int) == 0) = false := by rw [beq_eq_false_iff_ne]; omega
  go_enter Tryz.func80, Tryz.ntmps80
  go_wp2_with fail
  refine wp_loop_rounds 1 ?_
  rw [rounds_succ]
  go_wp2_with (first | (go_at_call 81; ((with_reducible refine HD.out.mono ?_); rintro e w2 ⟨vq, vr, rfl, _, hr, hk2⟩; rw [HRE.out] at hr; (obtain ⟨A3, c3, rfl⟩ := hr.len); have HPR := Lib.hid (HP2.out _ _ hr); have HPB := Lib.hid (HP1.out _ hk2); have HK2 := Lib.hid hk2; have hlr := HM.out; clear hr hk2; (generalize (digs 4294967296 R).length = k3 at *))) | (go_at_call 87; ((with_reducible refine HPB.out.mono ?_); rintro e w3 ⟨rfl, hw3⟩; rw [hw3]; clear hw3 w3)) | (go_at_call 87; ((with_reducible refine HPR.out.mono ?_); rintro e w3 ⟨rfl, hw3⟩; rw [hw3]; clear hw3 w3)))
  go_loopw [9, 10] (fun x y wr => GcdAt g x y ∧ Hid (Keeps (fun _ => False) w wr)) (fun _ y _ => (intOf y).toNat)
  case atStart => exact ⟨HG.out, HK2⟩
  case round =>
    obtain ⟨⟨x, y, rfl, rfl, hx, hy, hxy⟩, hk⟩ := hrel
    rcases Nat.eq_zero_or_pos y with rfl | hy0
    · rw [Nat.gcd_zero_right] at hxy
      have HW := Lib.hid (fun W : World => words_any (w := W) x hx)
      rw [hxy] at HW
      have HX := Lib.hid hxy
      clear hxy HG HK2
      go_wp2_with (go_at_call 82; rw [HX.out]; ((with_reducible refine (HW.out _).mono ?_); rintro e w3 ⟨v', rfl, hn, hk3⟩; have HN := Lib.hid hn; have HK3 := Lib.hid hk3; clear hn hk3))
      go_ret
      exact ⟨_, rfl, HN.out, hk.out.trans HK3.out fun _ h => .inl h⟩
    · have hyz : ¬ y = 0 := by omega
      have hyb : (1 : Int) ≤ (y : Int) := by omega
      obtain ⟨R, hR⟩ : ∃ R, x % y = R := ⟨_, rfl⟩
      have hRl : R < y := by rw [← hR]; exact Nat.mod_lt _ hy0
      have hmt : (x : Int).tmod (y : Int) = (R : Int) := by rw [← hR]; rfl
      have hmd : (x : Int) % (y : Int) = (R : Int) := by rw [← hR]; rfl
      have HG2 := Lib.hid (show GcdAt g (.int .u64 (y : Int)) (.int .u64 (R : Int)) from ⟨y, R, rfl, rfl, hy, by omega, by rw [← hR, Nat.gcd_comm, ← Nat.gcd_rec, Nat.gcd_comm]; exact hxy⟩)
      clear hxy hR HG HK2
      go_upto_region 11 with fail
      go_quiet (fail)
      go_wp2_with fail
      go_roundw
      case measure => simp [intOf]; omega
      case rel => exact ⟨HG2.out, Lib.hid (hk.out.drewN _)⟩
set_option maxRecDepth 100000 in
set_option maxHeartbeats 4000000 in
theorem common_right (hdiv : DivSays) {w : World} {v1 v2 : Value} {a b : Nat} (h1 : N32 w v1 a) (h2 : N32 w v2 b) (hl : (digs 4294967296 b).length ≤ 390) (ha : a < 18446744073709551616) (hb : 18446744073709551616 ≤ b) (ha0 : 0 < a) :
    Calls Tryz.prog 80 #[v1, v2] w fun e w' => ∃ v', e = .returned v' ∧ N32 w' v' (Nat.gcd a b) ∧ Keeps (fun _ => False) w w' := by
  have l2 := digs_le_two ha
  have HD := Lib.hid (hdiv h1 h2 (by omega) (by omega) (.inl (by omega)))
  have HD2 := Lib.hid (fun (W : World) (v : Value) (hk : Keeps (fun _ => False) w W) (hv : N32 W v a) => hdiv (h2.later hk) hv hl ha0 (.inr ha))
  have HP1 := Lib.hid (fun (W : World) (v : Value) (hv : N32 W v a) => plain_any hv ha)
  have HP2 := Lib.hid (fun (W : World) (v : Value) (hv : N32 W v (b % a)) => plain_any hv (Nat.lt_trans (Nat.mod_lt b ha0) ha))
  have HM := Lib.hid (digs_le_two (Nat.lt_trans (Nat.mod_lt b ha0) ha))
  have l1 := digs_ge_three hb
  have l3 := digs_len_pos ha0
  obtain ⟨A1, c1, rfl⟩ := h1.len
  obtain ⟨A2, c2, rfl⟩ := h2.len
  obtain ⟨g, hg⟩ : ∃ g, Nat.gcd a b = g := ⟨_, rfl⟩
  have HG := Lib.hid (show GcdAt g (.int .u64 (a : Int)) (.int .u64 ((b % a : Nat) : Int)) from ⟨a, b % a, rfl, rfl, ha, Nat.lt_trans (Nat.mod_lt b ha0) ha, by rw [gcd_step, Nat.gcd_comm, hg]⟩)
  rw [hg]
  have HE := Lib.hid (show a % b = a from Nat.mod_eq_of_lt (by omega))
  clear h1 h2 hg
  have HLA := Lib.hid (rfl : (digs 4294967296 a).length = (digs 4294967296 a).length)
  obtain ⟨n, hn⟩ : ∃ n, (digs 4294967296 a).length = n := ⟨_, rfl⟩
  have HN := Lib.hid hn
  rw [hn] at l2 l3 HD ⊢
  clear hn HLA
  generalize (digs 4294967296 b).length = m at *
  obtain ⟨R, hR⟩ : ∃ R, b % a = R := ⟨_, rfl⟩
  rw [hR] at HG HP2 HM
  have HRE := Lib.hid hR
  clear hR
  have hne : ((n : Int) == 0) = false := by rw [beq_eq_false_iff_ne]; omega
  go_enter Tryz.func80, Tryz.ntmps80
  go_wp2_with fail
  refine wp_loop_rounds 2 ?_
  rw [rounds_succ]
  go_wp2_with (go_at_call 81; ((with_reducible refine HD.out.mono ?_); rintro e w2 ⟨vq, vr, rfl, _, hr, hk2⟩; rw [HE.out] at hr; have HR := Lib.hid hr; (obtain ⟨A3, c3, rfl⟩ := hr.len); rw [HN.out] at HR ⊢; have HK2 := Lib.hid hk2; clear hr hk2))
  have HD3 := Lib.hid (HD2.out _ _ HK2.out HR.out)
  clear HD2 HD
  rw [rounds_succ]
  go_wp2_with (first | (go_at_call 81; ((with_reducible refine HD3.out.mono ?_); rintro e w4 ⟨vq2, vr2, rfl, _, hr2, hk4⟩; rw [HRE.out] at hr2; (obtain ⟨A4, c4, rfl⟩ := hr2.len); have HPR := Lib.hid (HP2.out _ _ hr2); have HPB := Lib.hid (HP1.out _ _ (N32.later HR.out hk4)); have HK4 := Lib.hid (HK2.out.trans hk4 fun _ h => .inl h); have hlr := HM.out; clear hr2 hk4; (generalize (digs 4294967296 R).length = k3 at *))) | (go_at_call 87; ((with_reducible refine HPB.out.mono ?_); rintro e w3 ⟨rfl, hw3⟩; rw [hw3]; clear hw3 w3)) | (go_at_call 87; ((with_reducible refine HPR.out.mono ?_); rintro e w3 ⟨rfl, hw3⟩; rw [hw3]; clear hw3 w3)))
  go_loopw [9, 10] (fun x y wr => GcdAt g x y ∧ Hid (Keeps (fun _ => False) w wr)) (fun _ y _ => (intOf y).toNat)
  case atStart => exact ⟨HG.out, HK4⟩
  case round =>
    obtain ⟨⟨x, y, rfl, rfl, hx, hy, hxy⟩, hk⟩ := hrel
    rcases Nat.eq_zero_or_pos y with rfl | hy0
    · rw [Nat.gcd_zero_right] at hxy
      have HW := Lib.hid (fun W : World => words_any (w := W) x hx)
      rw [hxy] at HW
      have HX := Lib.hid hxy
      clear hxy HG HK2 HK4
      go_wp2_with (go_at_call 82; rw [HX.out]; ((with_reducible refine (HW.out _).mono ?_); rintro e w3 ⟨v', rfl, hn, hk3⟩; have HN := Lib.hid hn; have HK3 := Lib.hid hk3; clear hn hk3))
      go_ret
      exact ⟨_, rfl, HN.out, hk.out.trans HK3.out fun _ h => .inl h⟩
    · have hyz : ¬ y = 0 := by omega
      have hyb : (1 : Int) ≤ (y : Int) := by omega
      obtain ⟨R, hR⟩ : ∃ R, x % y = R := ⟨_, rfl⟩
      have hRl : R < y := by rw [← hR]; exact Nat.mod_lt _ hy0
      have hmt : (x : Int).tmod (y : Int) = (R : Int) := by rw [← hR]; rfl
      have hmd : (x : Int) % (y : Int) = (R : Int) := by rw [← hR]; rfl
      have HG2 := Lib.hid (show GcdAt g (.int .u64 (y : Int)) (.int .u64 (R : Int)) from ⟨y, R, rfl, rfl, hy, by omega, by rw [← hR, Nat.gcd_comm, ← Nat.gcd_rec, Nat.gcd_comm]; exact hxy⟩)
      clear hxy hR HG HK2 HK4
      go_upto_region 11 with fail
      go_quiet (fail)
      go_wp2_with fail
      go_roundw
      case measure => simp [intOf]; omega
      case rel => exact ⟨HG2.out, Lib.hid (hk.out.drewN _)⟩


theorem common_any (hdiv : DivSays) {w : World} {v1 v2 : Value} {a b : Nat} (h1 : N32 w v1 a) (h2 : N32 w v2 b) (hl : (digs 4294967296 a).length ≤ 390) (hl2 : (digs 4294967296 b).length ≤ 390) (ha : 0 < a) (hb : 0 < b) (hs : a < 18446744073709551616 ∨ b < 18446744073709551616) :
    Calls Tryz.prog 80 #[v1, v2] w fun e w' => ∃ v', e = .returned v' ∧ N32 w' v' (Nat.gcd a b) ∧ Keeps (fun _ => False) w w' := by
  by_cases h : a < 18446744073709551616
  · by_cases h' : b < 18446744073709551616
    · exact common_one h1 h2 h h' hb
    · exact common_right hdiv h1 h2 hl2 h (by omega) ha
  · exact common_left hdiv h1 h2 hl (by omega) (by omega) hb

end Go.Proofs.YtnihfhfakadepaaGreatDoor
namespace Go.Proofs.YtnihfhfakadepaaGreatDoor
open Go.RowKit

/-- What norm leaves: the same fraction, no greater in either part. -/
def Normed (w : World) (p : Nat) (a b : Int) (w' : World) : Prop :=
  ∃ a' b' : Int, BRat w' p a' b' ∧ 0 < b' ∧ a * b' = a' * b ∧ a'.natAbs ≤ a.natAbs ∧ b' ≤ b ∧ Keeps (fun k => k = p) w w'

theorem digs_one : digs 4294967296 1 = [1] := by rw [digs_pos (by omega) (by omega)]; simp [digs_zero]
theorem digs_small {n : Nat} (h0 : 0 < n) (h : n < 4294967296) : digs 4294967296 n = [n] := by rw [digs_pos (by omega) h0, Nat.div_eq_of_lt h, digs_zero, Nat.mod_eq_of_lt h]
theorem digs_len_ge_two {n : Nat} (h : 4294967296 ≤ n) : 2 ≤ (digs 4294967296 n).length := by
  rcases Nat.lt_or_ge (digs 4294967296 n).length 2 with h1 | h1
  · have h2 := digs_lt_pow (B := 4294967296) (by omega) n
    have h3 : 4294967296 ^ (digs 4294967296 n).length ≤ 4294967296 ^ 1 := Nat.pow_le_pow_right (by omega) (by omega)
    omega
  · exact h1

set_option maxRecDepth 100000 in
set_option maxHeartbeats 4000000 in
theorem norm_zero {w : World} {p : Nat} {b : Int} (h : BRat w p 0 b) (hb : 0 < b) :
    Calls Tryz.prog 71 #[.pointer (some ⟨p, 0, none⟩)] w fun e w' => e = .returned (.pointer (some ⟨p, 0, none⟩)) ∧ Normed w p 0 b w' := by
  obtain ⟨va, vb, hblk, hva, hvb⟩ := h
  have e0 := cell_of_row w p 0 _ _ _ hblk
  have e1 := cell_of_row w p 1 _ _ _ hblk
  have e2 := cell_of_row w p 2 _ _ _ hblk
  have e3 := cell_of_row w p 3 _ _ _ hblk
  have HS := Lib.hid (setInt64_any (w := w) 1 (by omega) (by omega) (slot_of hblk (o := 2) (by simp)) (slot_of hblk (o := 2 + 1) (by simp)))
  have HB := Lib.hid hblk; have HVA := Lib.hid hva
  obtain ⟨A1, c1, rfl⟩ := hva.len
  obtain ⟨A2, c2, rfl⟩ := hvb.len
  have l0 : (digs 4294967296 (Int.natAbs 0)).length = 0 := by rw [show Int.natAbs 0 = 0 from rfl, digs_zero]; rfl
  have hp := digs_len_pos (show 0 < b.natAbs by omega)
  rw [l0] at e1
  simp at e0 e1 e2 e3
  rw [decide_eq_false (show ¬ b < 0 by omega)] at e2
  clear hva hvb hblk l0
  generalize (digs 4294967296 b.natAbs).length = m at *
  have hne : ((m : Int) == 0) = false := by rw [beq_eq_false_iff_ne]; omega
  go_enter Tryz.func71, Tryz.ntmps71
  go_wp2_with (go_at_call 72; ((with_reducible refine HS.out.mono ?_); rintro e w2 ⟨rfl, hg⟩; have HG := Lib.hid hg; clear hg))
  go_ret
  refine ⟨rfl, 0, 1, ?_, by omega, by omega, by omega, by omega, ?_⟩
  · obtain ⟨v, h1, h2, h3⟩ := HG.out.block HB.out (by decide)
    exact ⟨_, v, h1, HVA.out.keepS HB.out (by decide) h3, h2⟩
  · obtain ⟨v, h1, h2, h3⟩ := HG.out.block HB.out (by decide)
    exact h3

theorem Normed.same {w w' : World} {p : Nat} {a b : Int} (h : BRat w p a b) (hb : 0 < b) (hk : Keeps (fun _ => False) w w') : Normed w p a b w' :=
  ⟨a, b, h.later hk, hb, rfl, by omega, by omega, hk.mono fun _ h => h.elim⟩

set_option maxRecDepth 100000 in
set_option maxHeartbeats 4000000 in
theorem norm_one {w : World} {p : Nat} {a : Int} (h : BRat w p a 1) (ha : a ≠ 0) :
    Calls Tryz.prog 71 #[.pointer (some ⟨p, 0, none⟩)] w fun e w' => e = .returned (.pointer (some ⟨p, 0, none⟩)) ∧ Normed w p a 1 w' := by
  have HR := Lib.hid (Normed.same h (by omega) (Keeps.refl _ w))
  obtain ⟨va, vb, hblk, hva, hvb⟩ := h
  have e0 := cell_of_row w p 0 _ _ _ hblk
  have e1 := cell_of_row w p 1 _ _ _ hblk
  have e2 := cell_of_row w p 2 _ _ _ hblk
  have e3 := cell_of_row w p 3 _ _ _ hblk
  obtain ⟨A1, c1, rfl⟩ := hva.len
  obtain ⟨A2, c2, rfl⟩ := hvb.len
  have d1 : digs 4294967296 (Int.natAbs 1) = [1] := digs_one
  obtain ⟨g, rfl, hcell, _, _⟩ := hvb.cell (by rw [d1]; simp)
  have c0 := hcell 0 (by rw [d1]; simp)
  simp only [d1] at c0
  rw [d1] at e3
  have hp := digs_len_pos (show 0 < a.natAbs by omega)
  simp at e0 e1 e2 e3 c0
  clear hva hvb hblk hcell d1
  generalize (digs 4294967296 a.natAbs).length = m at *
  generalize decide (a < 0) = sg at *
  have hne : ((m : Int) == 0) = false := by rw [beq_eq_false_iff_ne]; omega
  go_enter Tryz.func71, Tryz.ntmps71
  go_wp2_with fail
  go_ret
  exact ⟨rfl, HR.out⟩

theorem normed_of {w w3 : World} {p G : Nat} {a b : Int} {sg : Bool} {va vb vp vq : Value} (hsg : decide (a < 0) = sg) (hb : 1 < b) (hG : G ∣ a.natAbs ∧ G ∣ b.natAbs) (hGp : 0 < G) (hblk : w3.heap[p]? = some (.cells #[.bool sg, va, .bool (decide (b < 0)), vb] 83 (0, 0)))
    (h1 : N32 w3 vp (a.natAbs / G)) (h2 : N32 w3 vq (b.natAbs / G)) (hk : Keeps (fun _ => False) w w3) : Normed w p a b ((w3.setCell ⟨p, 1, none⟩ vp).setCell ⟨p, 3, none⟩ vq) := by
  subst hsg
  obtain ⟨x, hx⟩ := hG.1
  obtain ⟨y, hy⟩ := hG.2
  rw [hx, Nat.mul_div_cancel_left _ hGp] at h1
  rw [hy, Nat.mul_div_cancel_left _ hGp] at h2
  have hy0 : 0 < y := by
    rcases Nat.eq_zero_or_pos y with h | h
    · rw [h] at hy; simp at hy; omega
    · exact h
  have hk2 : Keeps (fun k => k = p) w3 ((w3.setCell ⟨p, 1, none⟩ vp).setCell ⟨p, 3, none⟩ vq) := ((Keeps.refl (fun k => k = p) w3).setCell (p := ⟨p, 1, none⟩) (.inl rfl) _).setCell (p := ⟨p, 3, none⟩) (.inl rfl) _
  have hbe : b = (G : Int) * (y : Int) := by
    have : ((b.natAbs : Nat) : Int) = ((G * y : Nat) : Int) := by rw [hy]
    rw [Int.natCast_mul] at this
    omega
  have hxle : x ≤ a.natAbs := by rw [hx]; exact Nat.le_mul_of_pos_left x hGp
  have hyle : y ≤ b.natAbs := by rw [hy]; exact Nat.le_mul_of_pos_left y hGp
  have hae : a = (if a < 0 then -(x : Int) else (x : Int)) * (G : Int) := by
    have h3 : ((a.natAbs : Nat) : Int) = (x : Int) * (G : Int) := by rw [hx, Int.natCast_mul, Int.mul_comm]
    split
    · rw [Int.neg_mul]; omega
    · omega
  have hxa : x = 0 → a = 0 := fun h => by rw [h] at hx; simp at hx; exact hx
  refine ⟨if a < 0 then -(x : Int) else (x : Int), y, ⟨vp, vq, ?_, ?_, ?_⟩, by omega, ?_, ?_, by omega, (hk.mono (S' := fun k => k = p) fun _ h => h.elim).trans hk2 fun _ h => .inl h⟩
  · rw [setCell_blk (setCell_blk hblk)]
    have d1 : decide ((if a < 0 then -(x : Int) else (x : Int)) < 0) = decide (a < 0) := by
      apply Bool.eq_iff_iff.2
      simp only [decide_eq_true_eq]
      split
      · constructor
        · intro _; assumption
        · intro _; have := hxa; omega
      · omega
    have d2 : decide (((y : Nat) : Int) < 0) = decide (b < 0) := by
      apply Bool.eq_iff_iff.2
      simp only [decide_eq_true_eq]
      omega
    rw [d1, d2]
    rfl
  · have : (if a < 0 then -(x : Int) else (x : Int)).natAbs = x := by split <;> omega
    rw [this]
    exact h1.keepS hblk (by decide) hk2
  · exact h2.keepS hblk (by decide) hk2
  · generalize (if a < 0 then -(x : Int) else (x : Int)) = c at *
    rw [hbe]
    conv => lhs; rw [hae]
    rw [Int.mul_assoc]
  · split <;> omega

set_option maxRecDepth 100000 in
set_option maxHeartbeats 4000000 in
theorem norm_big (hdiv : DivSays) {w : World} {p : Nat} {a b : Int} (h : BRat w p a b) (ha : a ≠ 0) (hb : 1 < b) (hl : (digs 4294967296 a.natAbs).length ≤ 390) (hl2 : (digs 4294967296 b.natAbs).length ≤ 390) (hs : a.natAbs < 18446744073709551616 ∨ b.natAbs < 18446744073709551616) :
    Calls Tryz.prog 71 #[.pointer (some ⟨p, 0, none⟩)] w fun e w' => e = .returned (.pointer (some ⟨p, 0, none⟩)) ∧ Normed w p a b w' := by
  have HRAT := Lib.hid h
  obtain ⟨va, vb, hblk, hva, hvb⟩ := h
  have HB := Lib.hid hblk
  have e0 := cell_of_row w p 0 _ _ _ hblk
  have e1 := cell_of_row w p 1 _ _ _ hblk
  have e2 := cell_of_row w p 2 _ _ _ hblk
  have e3 := cell_of_row w p 3 _ _ _ hblk
  have HC := Lib.hid (fun (W : World) (hk : Keeps (fun _ => False) w W) => common_any hdiv (hva.later hk) (hvb.later hk) hl hl2 (by omega) (by omega) hs)
  have HVA := Lib.hid hva; have HVB := Lib.hid hvb
  obtain ⟨A1, c1, rfl⟩ := hva.len
  obtain ⟨A2, c2, rfl⟩ := hvb.len
  have hp := digs_len_pos (show 0 < a.natAbs by omega)
  have hq := digs_len_pos (show 0 < b.natAbs by omega)
  simp at e0 e1 e2 e3
  rw [decide_eq_false (show ¬ b < 0 by omega)] at e2
  obtain ⟨n, hn⟩ : ∃ n, (digs 4294967296 a.natAbs).length = n := ⟨_, rfl⟩
  obtain ⟨m, hm⟩ : ∃ m, (digs 4294967296 b.natAbs).length = m := ⟨_, rfl⟩
  have HN := Lib.hid hn; have HM := Lib.hid hm
  rw [hn] at e1 HC HVA hp hl
  rw [hm] at e3 HC HVB hq hl2
  have hne : ((n : Int) == 0) = false := by rw [beq_eq_false_iff_ne]; omega
  have hme : ((m : Int) == 0) = false := by rw [beq_eq_false_iff_ne]; omega
  have H9 : (m = 1 ∧ ∃ g2 : Nat, A2 = some ⟨g2, 0, none⟩ ∧ w.cell? ⟨g2, 0, none⟩ = some (.int .u32 (b.natAbs : Int)) ∧ ((b.natAbs : Int) == 1) = false) ∨ ((m : Int) == 1) = false := by
    by_cases hsm : b < 4294967296
    · have d1 : digs 4294967296 b.natAbs = [b.natAbs] := digs_small (by omega) (by omega)
      obtain ⟨g2, hg2, hcell, _, _⟩ := HVB.out.cell (by omega)
      have c0 := hcell 0 (by omega)
      simp only [d1] at c0 hm
      exact .inl ⟨by simpa using hm.symm, g2, hg2, by simpa using c0, by rw [beq_eq_false_iff_ne]; omega⟩
    · have hm2 := digs_len_ge_two (show 4294967296 ≤ b.natAbs by omega)
      exact .inr (by rw [beq_eq_false_iff_ne]; omega)
  have H9 := Lib.hid H9
  obtain ⟨G, hG⟩ : ∃ G, Nat.gcd a.natAbs b.natAbs = G := ⟨_, rfl⟩
  rw [hG] at HC
  have HGE := Lib.hid hG
  obtain ⟨sg, hsg⟩ : ∃ sg, decide (a < 0) = sg := ⟨_, rfl⟩
  have HSG := Lib.hid hsg
  rw [hsg] at e0 HB
  clear hva hvb hblk hn hm hG hsg
  go_enter Tryz.func71, Tryz.ntmps71
  go_upto_region 9 with fail
  go_cut [66] (fun s wx => s = .bool false ∧ wx = w)
  case first =>
    rcases H9.out with ⟨rfl, g2, rfl, c0, hb1⟩ | hm1
    · generalize ((b.natAbs : Nat) : Int) = bb at *
      clear hme HN HM
      go_wp2_with fail
      go_meet
      exact ⟨rfl, rfl⟩
    · clear HN HM
      go_wp2_with fail
      go_meet
      exact ⟨rfl, rfl⟩
  case rest =>
    obtain ⟨rfl, hwc⟩ := hcut
    rw [hwc]
    clear H9 hwc wc
    go_upto_region 11 with fail
    have HCL := Lib.hid (fun (w' : World) (hk : Keeps (fun _ => False) w w') => (⟨hk.cell (fun h => h) e1, hk.cell (fun h => h) e3⟩ : w'.cell? ⟨p, 1, none⟩ = some (.slice A1 n c1) ∧ w'.cell? ⟨p, 3, none⟩ = some (.slice A2 m c2)))
    refine Wg.wp_region_first (C := fun w' => Keeps (fun _ => False) w w') (by kernel_rfl) 11 ?_
    have hk0 : Keeps (fun _ => False) w { w with drawn := w.drawn + 1 } := (Keeps.refl _ w).drew
    generalize { w with drawn := w.drawn + 1 } = W at *
    apply Wg.wpAnyP_stays (by kernel_rfl) [0, 1, 2, 3, 4, 5, 6, 7, 8, 9] _ _ _ 2 _ hk0 (by kernel_rfl) ?hs ?hr
    case hs =>
      repeat (apply Wg.wpStays_step rfl rfl; (intro w' hw'; obtain ⟨d0, d1⟩ := HCL.out w' hw'; clear hw'; go_simp; exact ⟨rfl, rfl⟩); go_simp)
      exact rfl
    case hr =>
      apply Wg.wpAnyP_one (i := 10) (fuel := 1) (by kernel_rfl) rfl rfl
      have hcc := HC.out _ hk0
      go_simp
      refine Wg.plain_call hcc ?_
      rintro e w1 ⟨vg, rfl, hg1, hk1⟩
      have hk2 := hk0.trans hk1 (fun _ h => .inl h)
      refine ⟨_, rfl, hk2, ?_⟩
      apply Wg.wpAnyP_one (i := 11) (fuel := 0) (by kernel_rfl) rfl rfl
      go_simp
      refine ⟨trivial, by kernel_rfl, ?_⟩
      go_simp
      have HG1 := Lib.hid hg1; have HK2 := Lib.hid hk2
      clear hcc hk0 hk1 hk2 hg1
      have a1 := (HK2.out.cell (fun h => h) e1)
      have a3 := (HK2.out.cell (fun h => h) e3)
      have hGp : 0 < G := by rw [← HGE.out]; exact Nat.gcd_pos_of_pos_left _ (by omega)
      have hGa : G ∣ a.natAbs := by rw [← HGE.out]; exact Nat.gcd_dvd_left _ _
      have hGb : G ∣ b.natAbs := by rw [← HGE.out]; exact Nat.gcd_dvd_right _ _
      have hGla := Nat.le_of_dvd (by omega) hGa
      have hGlb := Nat.le_of_dvd (by omega) hGb
      have HDA := Lib.hid (hdiv (N32.later HVA.out HK2.out) HG1.out (by rw [HN.out]; exact hl) hGp (.inr (by omega)))
      have HDB := Lib.hid (fun (W' : World) (hk : Keeps (fun _ => False) w1 W') => hdiv (N32.later (N32.later HVB.out HK2.out) hk) (HG1.out.later hk) (by rw [HM.out]; exact hl2) hGp (.inr (by omega)))
      have HDI := Lib.hid (And.intro hGa hGb)
      obtain ⟨Ag, cg, rfl⟩ := HG1.out.len
      clear e1 e3 HC HVA HVB hGa hGb
      by_cases hone : G = 1
      · subst hone
        rw [digs_one] at HG1 ⊢
        obtain ⟨g3, rfl, hcg, _, _⟩ := HG1.out.cell (by simp [digs_one])
        have c0 := hcg 0 (by simp [digs_one])
        simp only [digs_one] at c0
        simp at c0
        simp only [List.length_cons, List.length_nil, Nat.zero_add] at HG1 ⊢
        have HRES := Lib.hid (Normed.same HRAT.out (by omega) HK2.out)
        clear hcg HDA HDB
        go_wp2_with fail
        go_ret
        exact ⟨rfl, HRES.out⟩
      · obtain ⟨k, hk⟩ : ∃ k, (digs 4294967296 G).length = k := ⟨_, rfl⟩
        have HKE := Lib.hid hk
        rw [hk] at HG1 HDA HDB ⊢
        clear hk
        go_upto_region 12 with fail
        go_cut [87] (fun s wx => s = .bool false ∧ wx = w1)
        case first =>
          by_cases hsm : G < 4294967296
          · have d1 := digs_small hGp hsm
            have hk1 := HKE.out
            rw [d1] at hk1
            simp at hk1
            subst hk1
            obtain ⟨g3, rfl, hcg, _, _⟩ := HG1.out.cell (by rw [d1]; simp)
            have c0 := hcg 0 (by rw [d1]; simp)
            simp only [d1] at c0
            simp at c0
            have hb1 : ((G : Int) == 1) = false := by rw [beq_eq_false_iff_ne]; omega
            clear hcg d1 HDA HDB
            go_wp2_with fail
            go_meet
            exact ⟨rfl, rfl⟩
          · have d1 := digs_len_ge_two (show 4294967296 ≤ G by omega)
            rw [HKE.out] at d1
            have hb1 : ((k : Int) == 1) = false := by rw [beq_eq_false_iff_ne]; omega
            clear HDA HDB
            go_wp2_with fail
            go_meet
            exact ⟨rfl, rfl⟩
        case rest =>
          obtain ⟨rfl, hwc⟩ := hcut
          rw [hwc]
          clear hwc wc
          go_wp2_with (first | (go_at_call 81; ((with_reducible refine HDA.out.mono ?_); rintro e w2 ⟨vp, vp2, rfl, hp1, _, hk3⟩; (obtain ⟨Ap, cp, rfl⟩ := hp1.len); have HP := Lib.hid hp1; have HK3 := Lib.hid hk3; (have a3 := hk3.cell (fun h => h) a3); (have HBLK := Lib.hid (hk3.blk (HK2.out.blk HB.out))); clear hp1 hk3)) | (go_at_call 81; ((with_reducible refine (HDB.out _ HK3.out).mono ?_); rintro e w3 ⟨vq, vq2, rfl, hq1, _, hk4⟩; (obtain ⟨Aq, cq, rfl⟩ := hq1.len); have HQ := Lib.hid hq1; have HK4 := Lib.hid hk4; (have HBLK4 := Lib.hid (hk4.blk HBLK.out)); (have s1 := slot_of HBLK4.out (o := 1) (by simp)); (have s3 := slot_of HBLK4.out (o := 3) (by simp)); (obtain ⟨⟨_, s1c⟩, s1f⟩ := s1); (obtain ⟨⟨_, s3c⟩, s3f⟩ := s3); clear hq1 hk4)))
          go_ret
          have KK := HK2.out.trans (HK3.out.trans HK4.out fun _ h => .inl h) fun _ h => .inl h
          exact ⟨rfl, normed_of HSG.out hb HDI.out hGp HBLK4.out (HP.out.later HK4.out) HQ.out KK⟩


theorem norm_any (hdiv : DivSays) {w : World} {p : Nat} {a b : Int} (h : BRat w p a b) (hb : 0 < b) (hl : (digs 4294967296 a.natAbs).length ≤ 390) (hl2 : (digs 4294967296 b.natAbs).length ≤ 390) (hs : a.natAbs < 18446744073709551616 ∨ b.natAbs < 18446744073709551616) :
    Calls Tryz.prog 71 #[.pointer (some ⟨p, 0, none⟩)] w fun e w' => e = .returned (.pointer (some ⟨p, 0, none⟩)) ∧ Normed w p a b w' := by
  by_cases h0 : a = 0
  · subst h0
    exact norm_zero h hb
  · by_cases h1 : b = 1
    · subst h1
      exact norm_one h h0
    · exact norm_big hdiv h h0 (by omega) hl hl2 hs

end Go.Proofs.YtnihfhfakadepaaGreatDoor
namespace Go.Proofs.YtnihfhfakadepaaGreatDoor
open Go.RowKit

set_option maxRecDepth 100000 in
set_option maxHeartbeats 4000000 in
theorem den_any {w : World} {p : Nat} {a b : Int} (h : BRat w p a b) (hb : 0 < b) :
    Calls Tryz.prog 56 #[.pointer (some ⟨p, 0, none⟩)] w fun e w' => e = .returned (.pointer (some ⟨p, 2, none⟩)) ∧ w' = w := by
  obtain ⟨va, vb, hblk, hva, hvb⟩ := h
  have e3 := cell_of_row w p 3 _ _ _ hblk
  obtain ⟨A2, c2, rfl⟩ := hvb.len
  have hq := digs_len_pos (show 0 < b.natAbs by omega)
  simp at e3
  clear hva hvb hblk
  generalize (digs 4294967296 b.natAbs).length = m at *
  have hne : ((m : Int) == 0) = false := by rw [beq_eq_false_iff_ne]; omega
  go_enter Tryz.func56, Tryz.ntmps56
  go_wp2_with fail
  go_ret
  exact ⟨rfl, rfl⟩

set_option maxRecDepth 100000 in
set_option maxHeartbeats 4000000 in
theorem setFrac_any (hdiv : DivSays) {w : World} {p b1 o1 b2 o2 : Nat} {a b : Int} {u0 u1 u2 u3 : Value} (hz : w.heap[p]? = some (.cells #[u0, u1, u2, u3] 83 (0, 0))) (h1 : IntAt w b1 o1 a) (h2 : IntAt w b2 o2 b) (hb : 0 < b)
    (hl : (digs 4294967296 a.natAbs).length ≤ 390) (hl2 : (digs 4294967296 b.natAbs).length ≤ 390) (hs : a.natAbs < 18446744073709551616 ∨ b.natAbs < 18446744073709551616) :
    Calls Tryz.prog 51 #[.pointer (some ⟨p, 0, none⟩), .pointer (some ⟨b1, o1, none⟩), .pointer (some ⟨b2, o2, none⟩)] w fun e w' => e = .returned (.pointer (some ⟨p, 0, none⟩)) ∧ Normed w p a b w' := by
  obtain ⟨vb, cb, hvb⟩ := h2.abs
  obtain ⟨A2, c2, rfl⟩ := hvb.len
  have hq := digs_len_pos (show 0 < b.natAbs by omega)
  have HZ := Lib.hid hz; have H1 := Lib.hid h1; have H2 := Lib.hid h2; have HL := Lib.hid hl; have HL2 := Lib.hid hl2
  clear hvb h1 h2 hz hl hl2
  obtain ⟨m, hm⟩ : ∃ m, (digs 4294967296 b.natAbs).length = m := ⟨_, rfl⟩
  rw [hm] at cb hq
  clear hm
  have hne : ((m : Int) == 0) = false := by rw [beq_eq_false_iff_ne]; omega
  obtain ⟨p1, hp1⟩ : ∃ p1, w.heap.size = p1 := ⟨_, rfl⟩
  obtain ⟨w1, hw1⟩ : ∃ w1, w.alloc (.cells #[.bool false, .slice none 0 0] 81) = w1 := ⟨_, rfl⟩
  have hblk1 : w1.heap[p1]? = some (.cells #[.bool false, .slice none 0 0] 81 (0, 0)) := by rw [← hw1, ← hp1]; exact heap_alloc_new _ _
  have hk1 : Keeps (fun _ => False) w w1 := by rw [← hw1]; exact (Keeps.refl _ _).alloc _
  have HK1 := Lib.hid hk1; have HB1 := Lib.hid hblk1; have HP1 := Lib.hid hp1
  have HS1 := Lib.hid (set_any (H1.out.later hk1) (Nat.le_trans HL.out (by omega)) (slot_of hblk1 (o := 0) (by simp)) (slot_of hblk1 (o := 0 + 1) (by simp)))
  clear hk1 hblk1
  go_enter Tryz.func51, Tryz.ntmps51
  go_wp2_with (go_at_call 70; ((with_reducible refine HS1.out.mono ?_); rintro e w2 ⟨rfl, hg⟩; have HG1 := Lib.hid (hg.bint HB1.out); clear hg))
  have hk2 : Keeps (fun _ => False) w w2 := HK1.out.fresh HG1.out.2 (by have := HP1.out; omega)
  obtain ⟨p2, hp2⟩ : ∃ p2, w2.heap.size = p2 := ⟨_, rfl⟩
  obtain ⟨w3, hw3⟩ : ∃ w3, w2.alloc (.cells #[.bool false, .slice none 0 0] 81) = w3 := ⟨_, rfl⟩
  have hblk2 : w3.heap[p2]? = some (.cells #[.bool false, .slice none 0 0] 81 (0, 0)) := by rw [← hw3, ← hp2]; exact heap_alloc_new _ _
  have hk3 : Keeps (fun _ => False) w2 w3 := by rw [← hw3]; exact (Keeps.refl _ _).alloc _
  have HK2 := Lib.hid hk2; have HK3 := Lib.hid hk3; have HB2 := Lib.hid hblk2; have HP2 := Lib.hid hp2
  have HS2 := Lib.hid (set_any (H2.out.later (hk2.trans hk3 fun _ h => .inl h)) (Nat.le_trans HL2.out (by omega)) (slot_of hblk2 (o := 0) (by simp)) (slot_of hblk2 (o := 0 + 1) (by simp)))
  clear hk2 hk3 hblk2 HS1
  rw [hp2, hw3]
  with_reducible refine HS2.out.mono ?_
  rintro e w4 ⟨rfl, hg⟩
  have hg2 := hg.bint HB2.out
  have hk4 : Keeps (fun _ => False) w2 w4 := HK3.out.fresh hg2.2 (by have := HP2.out; omega)
  have i1 := HG1.out.1.later hk4
  have i2 := hg2.1
  have hz4 := (HK2.out.trans hk4 fun _ h => .inl h).blk HZ.out
  have HK4 := Lib.hid (HK2.out.trans hk4 fun _ h => .inl h)
  obtain ⟨va, ha1, hva⟩ := i1
  obtain ⟨vb, hb1, hvb⟩ := i2
  obtain ⟨A3, c3, rfl⟩ := hva.len
  obtain ⟨A4, c4, rfl⟩ := hvb.len
  have HVA := Lib.hid hva; have HVB := Lib.hid hvb; have HZ4 := Lib.hid hz4
  have x0 := cell_of_row w4 p1 0 _ _ _ ha1
  have x1 := cell_of_row w4 p1 1 _ _ _ ha1
  have y0 := cell_of_row w4 p2 0 _ _ _ hb1
  have y1 := cell_of_row w4 p2 1 _ _ _ hb1
  have z0 := cell_of_row w4 p 0 _ _ _ hz4
  have z1 := cell_of_row w4 p 1 _ _ _ hz4
  have z2 := cell_of_row w4 p 2 _ _ _ hz4
  have z3 := cell_of_row w4 p 3 _ _ _ hz4
  have f0 := frozen_of_row w4 p 0 _ _ hz4
  have f1 := frozen_of_row w4 p 1 _ _ hz4
  have f2 := frozen_of_row w4 p 2 _ _ hz4
  have f3 := frozen_of_row w4 p 3 _ _ hz4
  simp at x0 x1 y0 y1 z0 z1 z2 z3
  have hpz := row_lt HZ.out
  have n1 : ¬ p1 = p := by omega
  have n2 : ¬ p2 = p := by have := HK2.out.size; omega
  clear hg hg2 hk4 ha1 hb1 hz4 hva hvb HS2 HB1 HB2 HG1 hp1 hp2 hw1 hw3
  go_wp2_with fail
  have hk5 : Keeps (fun k => k = p) w4 ((((w4.setCell ⟨p, 0, none⟩ (.bool (decide (a < 0)))).setCell ⟨p, 1, none⟩ (.slice A3 (digs 4294967296 a.natAbs).length c3)).setCell ⟨p, 2, none⟩ (.bool (decide (b < 0)))).setCell ⟨p, 3, none⟩ (.slice A4 (digs 4294967296 b.natAbs).length c4)) :=
    ((((Keeps.refl (fun k => k = p) w4).setCell (p := ⟨p, 0, none⟩) (.inl rfl) _).setCell (p := ⟨p, 1, none⟩) (.inl rfl) _).setCell (p := ⟨p, 2, none⟩) (.inl rfl) _).setCell (p := ⟨p, 3, none⟩) (.inl rfl) _
  have hr : BRat ((((w4.setCell ⟨p, 0, none⟩ (.bool (decide (a < 0)))).setCell ⟨p, 1, none⟩ (.slice A3 (digs 4294967296 a.natAbs).length c3)).setCell ⟨p, 2, none⟩ (.bool (decide (b < 0)))).setCell ⟨p, 3, none⟩ (.slice A4 (digs 4294967296 b.natAbs).length c4)) p a b :=
    ⟨_, _, setCell_blk (setCell_blk (setCell_blk (setCell_blk HZ4.out))), HVA.out.keepS HZ4.out (by decide) hk5, HVB.out.keepS HZ4.out (by decide) hk5⟩
  have HN := Lib.hid (norm_any hdiv hr hb HL.out HL2.out hs)
  have HK5 := Lib.hid hk5
  clear hk5 hr
  refine HN.out.mono ?_
  rintro e w6 ⟨rfl, hnm⟩
  have HR := Lib.hid hnm
  clear hnm
  go_wp2_with fail
  go_ret
  refine ⟨rfl, ?_⟩
  obtain ⟨a', b', h1, h2, h3, h4, h5, h6⟩ := HR.out
  exact ⟨a', b', h1, h2, h3, h4, h5, ((HK4.out.mono (S' := fun k => k = p) fun _ h => h.elim).trans HK5.out fun _ h => .inl h).trans h6 fun _ h => .inl h⟩

end Go.Proofs.YtnihfhfakadepaaGreatDoor
namespace Go.Proofs.YtnihfhfakadepaaGreatDoor
open Go.RowKit

/-- A row known whole. -/
theorem Arr.block {k : IntKind} {t : TypeId} {w : World} {g n : Nat} {l : List Nat} (h : Arr k t w (.slice (some ⟨g, 0, none⟩) n n) l) : w.heap[g]? = some (.cells (wcs k l).toArray t (0, 0)) := by
  have e : n = l.length := by
    obtain ⟨A', c', e, _⟩ := h.slice
    injection e
  subst e
  rcases h.2 with ⟨e, _⟩ | ⟨g', cap, cur, e, _, hh, _, _, hs, ht⟩
  · injection e with e _ _; cases e
  · injection e with e1 _ e3
    injection e1 with e1
    injection e1 with e1
    subst e1 e3
    rw [hh, ← ht]
    rw [List.take_of_length_le (by simp [hs])]
theorem Arr.of_block {k : IntKind} {t : TypeId} {w : World} {g n : Nat} {l : List Nat} (h : w.heap[g]? = some (.cells (wcs k l).toArray t (0, 0))) (hn : l.length = n) (hm : n ≤ maxLen) : Arr k t w (.slice (some ⟨g, 0, none⟩) n n) l := by
  subst hn
  refine ⟨by rw [wcs_length, Nat.mul_one], .inr ⟨g, l.length, _, rfl, Nat.zero_le _, h, Nat.le_refl _, hm, by simp [wcs_length], ?_⟩⟩
  rw [List.take_of_length_le (by simp [wcs_length])]

theorem norm_bits {b k : Nat} (h1 : 1 ≤ k) (h2 : k ≤ 32) (h3 : 2 ^ (k - 1) ≤ b / 4294967296) (h4 : b / 4294967296 < 2 ^ k) :
    9223372036854775808 ≤ b * 2 ^ (32 - k) ∧ b * 2 ^ (32 - k) < 18446744073709551616 := by
  have e1 : (2 : Nat) ^ (k - 1) * 2 ^ (32 - k) = 2147483648 := by rw [← Nat.pow_add, show k - 1 + (32 - k) = 31 by omega]
  have e2 : (2 : Nat) ^ k * 2 ^ (32 - k) = 4294967296 := by rw [← Nat.pow_add, show k + (32 - k) = 32 by omega]
  have b1 : 2 ^ (k - 1) * 4294967296 ≤ b := (Nat.le_div_iff_mul_le (by omega)).1 h3
  have b2 : b < 2 ^ k * 4294967296 := by
    have := Nat.mul_le_mul_right 4294967296 (show b / 4294967296 + 1 ≤ 2 ^ k from h4)
    have := Nat.lt_mul_div_succ b (show 0 < 4294967296 by omega)
    omega
  constructor
  · have := Nat.mul_le_mul_right (2 ^ (32 - k)) b1
    rw [Nat.mul_right_comm, e1] at this
    omega
  · have := Nat.mul_lt_mul_of_pos_right b2 (Nat.pow_pos (n := 32 - k) (show 0 < 2 by omega))
    rw [Nat.mul_right_comm, e2] at this
    omega

theorem digs_two_of {V : Nat} (h1 : 4294967296 ≤ V) (h2 : V < 18446744073709551616) : digs 4294967296 V = [V % 4294967296, V / 4294967296] := by
  rw [digs_pos (by omega) (by omega), digs_pos (by omega) (Nat.div_pos h1 (by omega)), Nat.div_eq_of_lt (by omega : V / 4294967296 < 4294967296), digs_zero, Nat.mod_eq_of_lt (by omega : V / 4294967296 < 4294967296)]

/-- The words of the dividend, moved up, with noughts behind them. -/
theorem dividend {a s la : Nat} (hs : s < 32) (hla : (digs 4294967296 a).length = la) :
    ∃ c, (digs 4294967296 (a * 2 ^ s)).length + c = la + 2 ∧ 1 ≤ c ∧
      dval 4294967296 (digs 4294967296 (a * 2 ^ s) ++ List.replicate c 0) = a * 2 ^ s ∧ dval 4294967296 ((digs 4294967296 (a * 2 ^ s) ++ List.replicate c 0).drop la) < 2 ^ s := by
  have h1 := digs_lt_pow (B := 4294967296) (by omega) a
  rw [hla] at h1
  have hS : (2 : Nat) ^ s < 4294967296 := Nat.lt_of_lt_of_le (Nat.pow_lt_pow_right (by omega) hs) (by decide)
  have h2 : a * 2 ^ s < 4294967296 ^ la * 2 ^ s := Nat.mul_lt_mul_of_pos_right h1 (Nat.pow_pos (by omega))
  have h3 : (digs 4294967296 (a * 2 ^ s)).length ≤ la + 1 := digs_length_le (by omega) _ _ (by
    rw [Nat.pow_succ]
    have := Nat.mul_le_mul_left (4294967296 ^ la) (Nat.le_of_lt hS)
    omega)
  refine ⟨la + 2 - (digs 4294967296 (a * 2 ^ s)).length, by omega, by omega, ?_, ?_⟩
  · rw [dval_append, dval_zeros, dval_digs (by omega)]; simp
  · generalize hx : (digs 4294967296 (a * 2 ^ s) ++ List.replicate (la + 2 - (digs 4294967296 (a * 2 ^ s)).length) 0) = x
    have hv : dval 4294967296 x = a * 2 ^ s := by rw [← hx, dval_append, dval_zeros, dval_digs (by omega)]; simp
    have hxl : x.length = la + 2 := by rw [← hx, List.length_append, List.length_replicate]; omega
    have hlt : ∀ y ∈ x, y < 4294967296 := by
      rw [← hx]
      intro y hy
      rcases List.mem_append.1 hy with h | h
      · exact digs_lt (by omega) _ y h
      · rw [List.eq_of_mem_replicate h]; omega
    rw [← dval_drop_div (by omega) hlt la (by omega), hv]
    exact Nat.div_lt_of_lt_mul h2

/-- Ahead of the loop over the digits: what memory holds. -/
structure LongAt (w wr : World) (gu gq gv cv V N k la : Nat) (qs us : List Nat) : Prop where
  u : A32 wr (.slice (some ⟨gu, 0, none⟩) (la + 2) (la + 2)) us
  q : A32 wr (.slice (some ⟨gq, 0, none⟩) la la) qs
  v : A32 wr (.slice (some ⟨gv, 0, none⟩) 2 cv) [V % 4294967296, V / 4294967296]
  d : DivAt V N k qs us
  k : Keeps (fun _ => False) w wr
  nu : w.heap.size ≤ gu
  nq : w.heap.size ≤ gq
  uq : gu ≠ gq
  vu : gv ≠ gu
  vq : gv ≠ gq
  ql : qs.length = la
end Go.Proofs.YtnihfhfakadepaaGreatDoor
namespace Go.Proofs.YtnihfhfakadepaaGreatDoor
open Go.RowKit

structure SubW (G V0 VT u0 u1 u2 P0 P1 L0 K0 T0 X0 D0 C1 L1 K1 S1 T1 X1 D1 S2 T2 X2 : Nat) : Prop where
  p0 : IntKind.u64.wrap ((G : Int) * (V0 : Int)) = (P0 : Int)
  p1 : IntKind.u64.wrap ((G : Int) * (VT : Int)) = (P1 : Int)
  l0 : (P0 : Int) % 4294967296 = (L0 : Int)
  k0 : (P0 : Int) / 4294967296 = (K0 : Int)
  t0 : IntKind.u64.wrap ((u0 : Int) - (L0 : Int)) = (T0 : Int)
  x0 : (T0 : Int) % 4294967296 = (X0 : Int)
  d0 : (T0 : Int) / 9223372036854775808 = (D0 : Int)
  c1 : IntKind.u64.wrap ((K0 : Int) + (P1 : Int)) = (C1 : Int)
  l1 : (C1 : Int) % 4294967296 = (L1 : Int)
  k1 : (C1 : Int) / 4294967296 = (K1 : Int)
  s1 : IntKind.u64.wrap ((u1 : Int) - (L1 : Int)) = (S1 : Int)
  t1 : IntKind.u64.wrap ((S1 : Int) - (D0 : Int)) = (T1 : Int)
  x1 : (T1 : Int) % 4294967296 = (X1 : Int)
  d1 : (T1 : Int) / 9223372036854775808 = (D1 : Int)
  s2 : IntKind.u64.wrap ((u2 : Int) - (K1 : Int)) = (S2 : Int)
  t2 : IntKind.u64.wrap ((S2 : Int) - (D1 : Int)) = (T2 : Int)
  x2 : (T2 : Int) % 4294967296 = (X2 : Int)
  d2 : (T2 : Int) / 9223372036854775808 = 0
  b0 : P0 < 18446744073709551616
  b1 : C1 < 18446744073709551616
  b2 : T0 < 18446744073709551616
  b3 : T1 < 18446744073709551616
  b4 : T2 < 18446744073709551616
  sum : X0 + X1 * 4294967296 + X2 * 18446744073709551616 + G * (VT * 4294967296 + V0) = u2 * 18446744073709551616 + u1 * 4294967296 + u0

theorem nat_wrap (a : Int) : ∃ X : Nat, IntKind.u64.wrap a = (X : Int) ∧ X < 18446744073709551616 ∧ a % 18446744073709551616 = (X : Int) := by
  refine ⟨(a % 18446744073709551616).toNat, ?_, by omega, by omega⟩
  rw [IntKind.wrap_u64]
  omega
theorem nat_mod (a : Nat) : ∃ X : Nat, (a : Int) % 4294967296 = (X : Int) ∧ X < 4294967296 := ⟨a % 4294967296, rfl, Nat.mod_lt _ (by omega)⟩
theorem nat_div (a : Nat) : ∃ X : Nat, (a : Int) / 4294967296 = (X : Int) ∧ X = a / 4294967296 := ⟨a / 4294967296, rfl, rfl⟩
theorem nat_top (a : Nat) : ∃ X : Nat, (a : Int) / 9223372036854775808 = (X : Int) := ⟨a / 9223372036854775808, rfl⟩

theorem sub_words {G V0 VT u0 u1 u2 h : Nat} (bG : G < 4294967296) (bV : V0 < 4294967296) (bT : VT < 4294967296) (a0 : u0 < 4294967296) (a1 : u1 < 4294967296) (a2 : u2 < 4294967296)
    (hh : u2 * 4294967296 + u1 = h) (hle : G * (VT * 4294967296 + V0) ≤ h * 4294967296 + u0) :
    ∃ P0 P1 L0 K0 T0 X0 D0 C1 L1 K1 S1 T1 X1 D1 S2 T2 X2 : Nat, SubW G V0 VT u0 u1 u2 P0 P1 L0 K0 T0 X0 D0 C1 L1 K1 S1 T1 X1 D1 S2 T2 X2 := by
  obtain ⟨P0, hP0⟩ : ∃ P0, G * V0 = P0 := ⟨_, rfl⟩
  obtain ⟨P1, hP1⟩ : ∃ P1, G * VT = P1 := ⟨_, rfl⟩
  have l0 : P0 ≤ 18446744065119617025 := by
    have := Nat.mul_le_mul (show G ≤ 4294967295 by omega) (show V0 ≤ 4294967295 by omega)
    omega
  have l1 : P1 ≤ 18446744065119617025 := by
    have := Nat.mul_le_mul (show G ≤ 4294967295 by omega) (show VT ≤ 4294967295 by omega)
    omega
  have hGV : G * (VT * 4294967296 + V0) = P1 * 4294967296 + P0 := by rw [Nat.mul_add, ← Nat.mul_assoc, hP1, hP0]
  have e0 : (G : Int) * (V0 : Int) = (P0 : Int) := by rw [← hP0]; exact (Int.natCast_mul G V0).symm
  have e1 : (G : Int) * (VT : Int) = (P1 : Int) := by rw [← hP1]; exact (Int.natCast_mul G VT).symm
  rw [hGV] at hle
  obtain ⟨hs0, hs1⟩ := lft_sum (u0 := u0) (u1 := u1) (u2 := u2) (p0 := P0) (p1 := P1) (by omega) (by omega) (by omega) (by omega) (by omega) (by omega) (by omega) (by omega) (by omega) (by omega) (by omega)
  obtain ⟨L0, hL0, bL0⟩ := nat_mod P0
  obtain ⟨K0, hK0, bK0⟩ := nat_div P0
  obtain ⟨T0, hT0, bT0, mT0⟩ := nat_wrap ((u0 : Int) - (L0 : Int))
  obtain ⟨X0, hX0, bX0⟩ := nat_mod T0
  obtain ⟨D0, hD0⟩ := nat_top T0
  obtain ⟨C1, hC1⟩ : ∃ C1, K0 + P1 = C1 := ⟨_, rfl⟩
  have bC1 : C1 < 18446744073709551616 := by omega
  obtain ⟨L1, hL1, bL1⟩ := nat_mod C1
  obtain ⟨K1, hK1, bK1⟩ := nat_div C1
  obtain ⟨S1, hS1, bS1, mS1⟩ := nat_wrap ((u1 : Int) - (L1 : Int))
  obtain ⟨T1, hT1, bT1, mT1⟩ := nat_wrap ((S1 : Int) - (D0 : Int))
  obtain ⟨X1, hX1, bX1⟩ := nat_mod T1
  obtain ⟨D1, hD1⟩ := nat_top T1
  obtain ⟨S2, hS2, bS2, mS2⟩ := nat_wrap ((u2 : Int) - (K1 : Int))
  obtain ⟨T2, hT2, bT2, mT2⟩ := nat_wrap ((S2 : Int) - (D1 : Int))
  obtain ⟨X2, hX2, bX2⟩ := nat_mod T2
  have eC : (P1 : Int) + (P0 : Int) / 4294967296 = (C1 : Int) := by rw [hK0]; omega
  have f0 : lft0 u0 P0 = (T0 : Int) := by unfold lft0; rw [hL0, mT0]
  have f1 : lft1 u0 u1 P0 P1 = (T1 : Int) := by unfold lft1; rw [f0, hD0, eC, hL1, mS1, mT1]
  have f2 : lft2 u0 u1 u2 P0 P1 = (T2 : Int) := by unfold lft2; rw [f1, hD1, eC, hK1, mS2, mT2]
  rw [f2] at hs0
  rw [f0, f1, f2, hX0, hX1, hX2] at hs1
  refine ⟨P0, P1, L0, K0, T0, X0, D0, C1, L1, K1, S1, T1, X1, D1, S2, T2, X2,
    { p0 := by rw [e0]; exact wrap_nat (by omega), p1 := by rw [e1]; exact wrap_nat (by omega), l0 := hL0, k0 := hK0, t0 := hT0, x0 := hX0, d0 := hD0, c1 := by rw [← Int.natCast_add, hC1]; exact wrap_nat bC1, l1 := hL1, k1 := hK1, s1 := hS1, t1 := hT1, x1 := hX1, d1 := hD1,
      s2 := hS2, t2 := hT2, x2 := hX2, d2 := hs0, b0 := by omega, b1 := bC1, b2 := bT0, b3 := bT1, b4 := bT2, sum := ?_ }⟩
  rw [hGV]
  clear hle hGV e0 e1 hL0 hK0 hT0 mT0 hX0 hD0 hL1 hK1 hS1 mS1 hT1 mT1 hX1 hD1 hS2 mS2 hT2 mT2 hX2 hs0 eC f0 f1 f2 bK0 bK1
  omega

end Go.Proofs.YtnihfhfakadepaaGreatDoor
