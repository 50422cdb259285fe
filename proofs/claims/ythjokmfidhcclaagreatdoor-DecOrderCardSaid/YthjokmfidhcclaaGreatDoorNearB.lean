/- Package dec: the number of eighteen digits nearest to a whole number times a power of ten, where it is told exactly. -/
import Derived.Test.YthjokmfidhcclaaGreatDoorNearA
namespace Go.Proofs.YthjokmfidhcclaaGreatDoor
open Go.RowKit

theorem near_len {m d : Nat} (hm : m < 9223372036854775808) (hd : d ≤ 80) : (digs 18446744073709551616 (m * 10 ^ d)).length ≤ 100 := by
  refine Nat.le_trans (digs_length_le (by omega) 6 _ ?_) (by omega)
  have h1 : 10 ^ d ≤ 10 ^ 80 := Nat.pow_le_pow_right (by omega) hd
  have h2 : m * 10 ^ d ≤ 9223372036854775808 * 10 ^ 80 := Nat.mul_le_mul (by omega) h1
  refine Nat.lt_of_le_of_lt h2 ?_
  decide

theorem cmpN_le {a b : Nat} (h : a ≤ b) : decide (cmpN a b ≤ 0) = true := by
  unfold cmpN; split <;> (try split) <;> simp <;> omega
theorem cmpN_more {a b : Nat} (h : b < a) : decide (cmpN a b ≤ 0) = false := by
  unfold cmpN; split <;> (try split) <;> simp <;> omega

set_option maxRecDepth 100000 in
set_option maxHeartbeats 4000000 in
theorem near_one {w : World} {pn pd m J c k : Nat} {x : Int} (ht : Thr w) (hx : GInt w pn (m : Int)) (hy : GInt w pd 1) (hm : 0 < m) (hm2 : m < 9223372036854775808) (hx1 : x ≤ 40) (hJ : -40 + (J : Int) < x)
    (hbig : ∀ j : Nat, j < J → 999999999999999999 < m * 10 ^ (x + 40 - j).toNat) (hfit : m * 10 ^ (x + 40 - J).toNat = c * 10 ^ k) (hc : c % 10 ≠ 0) (hle : c * 10 ^ k ≤ 999999999999999999) (hk : -40 + (J : Int) + k ≤ 40) :
    Calls Tryz.prog 11 #[.pointer (some ⟨pn, 0, none⟩), .pointer (some ⟨pd, 0, none⟩), .int .i64 x] w fun e w' => e = .returned (.tuple #[.agg #[.int .i64 c, .int .i64 (-40 + (J : Int) + k)], .int .i64 0]) ∧ Keeps (fun _ => False) w w' := by
  obtain ⟨w1, hw1⟩ : ∃ w1, w.alloc (.cells #[.int .i64 0, .int .i64 0] 23) = w1 := ⟨_, rfl⟩
  obtain ⟨pa, hpa⟩ : ∃ pa, w.heap.size = pa := ⟨_, rfl⟩
  have hk1 : Keeps (fun _ => False) w w1 := by rw [← hw1]; exact (Keeps.refl _ _).alloc _
  have h1 : w1.heap[pa]? = some (.cells #[.int .i64 0, .int .i64 0] 23 (0, 0)) := by rw [← hw1, ← hpa]; exact heap_alloc_new _ _
  have HN := Lib.hid (show Calls Tryz.prog 13 #[.int .i64 999999999999999999] w1 (fun e w' => ∃ p, e = .returned (.pointer (some ⟨p, 0, none⟩)) ∧ GInt w' p 999999999999999999 ∧ Keeps (fun _ => False) w1 w' ∧ w1.heap.size ≤ p) from gNewInt_any (w := w1) 999999999999999999 (by omega) (by omega))
  have HK1 := Lib.hid hk1; have H1 := Lib.hid h1; have HX := Lib.hid (hx.later hk1); have HY := Lib.hid (hy.later hk1); have HT := Lib.hid (ht.later hk1)
  have HPA := Lib.hid hpa
  have HB := Lib.hid hbig; have HFit := Lib.hid hfit; have HCm := Lib.hid hc; have HLe := Lib.hid hle; have HM := Lib.hid hm; have HM2 := Lib.hid hm2
  have HKK := Lib.hid hk
  clear hk1 h1 hx hy ht hbig hfit hc hle hm hm2 hk
  go_enter Tryz.func11, Tryz.ntmps11
  go_wp2_with (go_at_call 13; ((with_reducible refine HN.out.mono ?_); rintro e w2 ⟨pm, rfl, hm2, hk2, hf2⟩; have HM3 := Lib.hid hm2; have HK2 := Lib.hid hk2; clear hm2 hk2 hf2))
  clear hw1 hpa
  have HX2 := Lib.hid (HX.out.later HK2.out); have HY2 := Lib.hid (HY.out.later HK2.out); have HT2 := Lib.hid (HT.out.later HK2.out)
  have HR2 := Lib.hid (HK2.out.blk H1.out)
  go_loopw [9] (fun i wr => ∃ j : Nat, j ≤ J ∧ i = .int .i64 (-40 + (j : Int)) ∧ Hid (Keeps (fun _ => False) w2 wr)) (fun i _ => J - (intOf i + 40).toNat)
  case atStart => exact ⟨0, Nat.zero_le _, rfl, Lib.hid (Keeps.refl _ _)⟩
  case round =>
    obtain ⟨j, hj, rfl, hkr⟩ := hrel
    obtain ⟨d, hd⟩ : ∃ d : Nat, x + 40 - (j : Int) = d := ⟨(x + 40 - (j : Int)).toNat, by omega⟩
    have hgt : decide (x > -40 + (j : Int)) = true := decide_eq_true (by omega)
    have hle : decide (-40 + (j : Int) ≤ 80) = true := decide_eq_true (by omega)
    have hd80 : d ≤ 80 := by omega
    have hdn : (x + 40 - (j : Int)).toNat = d := by omega
    obtain ⟨w3, hw3⟩ : ∃ w3, wr.alloc (.cells #[.bool false, .slice none 0 0] 40) = w3 := ⟨_, rfl⟩
    obtain ⟨pz, hpz⟩ : ∃ pz, wr.heap.size = pz := ⟨_, rfl⟩
    have hk3 : Keeps (fun _ => False) wr w3 := by rw [← hw3]; exact (Keeps.refl _ _).alloc _
    have hz3 : GZero w3 pz := by rw [← hw3, ← hpz]; exact gzero_alloc _
    have HK3 := Lib.hid (hkr.out.trans hk3 fun _ h => .inl h)
    have HTen := Lib.hid (show Calls Tryz.prog 15 #[.int .i64 (x - (-40 + (j : Int)))] w3 (fun e' w' => ∃ p, e' = .returned (.pointer (some ⟨p, 0, none⟩)) ∧ GInt w' p ((10 ^ d : Nat) : Int) ∧ Keeps (fun _ => False) w3 w' ∧ w3.heap.size ≤ p) by
      rw [show x - (-40 + (j : Int)) = (d : Int) by omega]
      exact dten_any (w := w3) (e := d) (HT2.out.later HK3.out) (by omega))
    have HZ3 := Lib.hid hz3
    have HPZ := Lib.hid (show w2.heap.size ≤ pz by have := hkr.out.size; omega)
    have LN := Lib.hid (gint_lt HX2.out)
    have HMul := Lib.hid (fun (W : World) (py : Nat) (hk : Keeps (fun _ => False) w3 W) (hy : GInt W py ((10 ^ d : Nat) : Int)) (hf : w3.heap.size ≤ py) => gMul_any (HZ3.out.later hk) ((HX2.out.later HK3.out).later hk) hy (by have := LN.out; have := HK3.out.size; omega) (by have := LN.out; have := HPZ.out; omega) (by have := gzero_lt HZ3.out; omega) (by rw [Int.natAbs_natCast]; have := HM2.out; omega) (by rw [Int.natAbs_natCast]; exact Nat.pow_pos (by omega)) (by rw [Int.natAbs_natCast]; exact Nat.le_trans (ten_lenV (n := 80) (j := 7) hd80 (by decide)) (by omega)))
    have hcast : (m : Int) * ((10 ^ d : Nat) : Int) = ((m * 10 ^ d : Nat) : Int) := (Int.natCast_mul _ _).symm
    rw [hcast] at HMul
    have HLen := Lib.hid (near_len (d := d) HM2.out hd80)
    have HPos := Lib.hid (Nat.mul_pos HM.out (Nat.pow_pos (n := d) (show 0 < 10 by omega)))
    clear hk3 hz3
    have HFj := Lib.hid (show j = J → m * 10 ^ d = c * 10 ^ k from fun e => by rw [← HFit.out, ← e, hdn])
    have HBj := Lib.hid (show j < J → 999999999999999999 < m * 10 ^ d from fun e => by have := HB.out j e; rwa [hdn] at this)
    clear hcast hdn hd
    generalize m * 10 ^ d = N at *
    have HHE := Lib.hid (fun (W : World) (hk : Keeps (fun _ => False) w2 W) (h : GInt W pz (N : Int)) => halfEven_one h (HY2.out.later hk) HPos.out HLen.out)
    have HCA := Lib.hid (fun (W : World) (p : Nat) (hk : Keeps (fun _ => False) w2 W) (h : GInt W p (N : Int)) => (show Calls Tryz.prog 24 #[.pointer (some ⟨p, 0, none⟩), .pointer (some ⟨pm, 0, none⟩)] W (fun e w' => e = .returned (.int .i64 (cmpN N 999999999999999999)) ∧ ∃ q, w' = W.drewN q) from gCmpAbs_any h (HM3.out.later hk) (by have := HLen.out; simp only [Int.natAbs_natCast]; omega)))
    by_cases hjJ : j = J
    · subst hjJ
      have hle2 : decide (cmpN N 999999999999999999 ≤ 0) = true := cmpN_le (by have := HFj.out rfl; have := HLe.out; omega)
      have HI := Lib.hid (fun (W : World) (p : Nat) (h : GInt W p (N : Int)) => gInt64_pos h HPos.out (by have := HFj.out rfl; have := HLe.out; omega))
      have HNo := Lib.hid (fun W : World => (show Calls Tryz.prog 25 #[.int .i64 (N : Int), .int .i64 (-40 + (j : Int))] W (fun e w' => e = .returned (.tuple #[.agg #[.int .i64 c, .int .i64 (-40 + (j : Int) + k)], .int .i64 0]) ∧ Keeps (fun _ => False) W w') by
        rw [HFj.out rfl]
        exact normal_any c k _ HCm.out (by have := HLe.out; omega) (by omega) HKK.out))
      go_wp2_with (first
        | (go_at_call 15; ((with_reducible refine HTen.out.mono ?_); rintro e w4 ⟨py, rfl, hy4, hk4, hf4⟩; have HY4 := Lib.hid hy4; have HK4 := Lib.hid hk4; have HF4 := Lib.hid hf4; clear hy4 hk4 hf4))
        | (go_at_call 14; ((with_reducible refine (HMul.out w4 py HK4.out HY4.out HF4.out).mono ?_); rintro e w5 ⟨rfl, hn5, hk5⟩; have HN5 := Lib.hid hn5; have HK5 := Lib.hid ((HK3.out.trans HK4.out fun _ h => .inl h).trans hk5 fun k h => .inr (by have := HPZ.out; omega)); clear hn5 hk5))
        | (go_at_call 23; ((with_reducible refine (HHE.out w5 HK5.out HN5.out).mono ?_); rintro e w6 ⟨pq, rfl, hq6, hk6, _⟩; have HQ6 := Lib.hid hq6; have HK6 := Lib.hid (HK5.out.trans hk6 fun _ h => .inl h); clear hq6 hk6))
        | (go_at_call 24; ((with_reducible refine (HCA.out w6 pq HK6.out HQ6.out).mono ?_); rintro e w7 ⟨rfl, q, rfl⟩))
        | (go_at_call 26; ((with_reducible refine (HI.out (w6.drewN q) pq (HQ6.out.later ((Keeps.refl _ _).drewN q))).mono ?_); rintro e w8 ⟨rfl, rfl⟩))
        | (go_at_call 25; ((with_reducible refine (HNo.out (w6.drewN q)).mono ?_); rintro e w9 ⟨rfl, hk9⟩; have HK9 := Lib.hid ((HK6.out.drewN q).trans hk9 fun _ h => .inl h); have hr9 := HK9.out.blk HR2.out; have d0 : w9.cell? ⟨pa, 0, none⟩ = some (.int .i64 0) := cell_of_row w9 pa 0 _ _ _ hr9; have d1 : w9.cell? ⟨pa, 1, none⟩ = some (.int .i64 0) := cell_of_row w9 pa 1 _ _ _ hr9; have zf0 := frozen_of_row w9 pa 0 _ _ hr9; have zf1 := frozen_of_row w9 pa 1 _ _ hr9; have zl := row_lt hr9; have HR9 := Lib.hid hr9; clear hr9 hk9)))
      obtain ⟨q0, q1⟩ := dec_cells (c := c) (x := -40 + (j : Int) + k) HR9.out
      refine bodyPost_ret (v := .tuple #[.agg #[.int .i64 c, .int .i64 (-40 + (j : Int) + k)], .int .i64 0]) (by simp [results, Tryz.results11, go_sem, q0, q1]) rfl ?_
      have hb : w.heap.size ≤ pa := by have := HPA.out; omega
      exact ⟨rfl, (((HK1.out.trans HK2.out fun _ h => .inl h).trans HK9.out fun _ h => .inl h).setNew hb _).setNew hb _⟩
    · have hlt : j < J := by omega
      have hle2 : decide (cmpN N 999999999999999999 ≤ 0) = false := cmpN_more (HBj.out hlt)
      go_wp2_with (first
        | (go_at_call 15; ((with_reducible refine HTen.out.mono ?_); rintro e w4 ⟨py, rfl, hy4, hk4, hf4⟩; have HY4 := Lib.hid hy4; have HK4 := Lib.hid hk4; have HF4 := Lib.hid hf4; clear hy4 hk4 hf4))
        | (go_at_call 14; ((with_reducible refine (HMul.out w4 py HK4.out HY4.out HF4.out).mono ?_); rintro e w5 ⟨rfl, hn5, hk5⟩; have HN5 := Lib.hid hn5; have HK5 := Lib.hid ((HK3.out.trans HK4.out fun _ h => .inl h).trans hk5 fun k h => .inr (by have := HPZ.out; omega)); clear hn5 hk5))
        | (go_at_call 23; ((with_reducible refine (HHE.out w5 HK5.out HN5.out).mono ?_); rintro e w6 ⟨pq, rfl, hq6, hk6, _⟩; have HQ6 := Lib.hid hq6; have HK6 := Lib.hid (HK5.out.trans hk6 fun _ h => .inl h); clear hq6 hk6))
        | (go_at_call 24; ((with_reducible refine (HCA.out w6 pq HK6.out HQ6.out).mono ?_); rintro e w7 ⟨rfl, q, rfl⟩)))
      go_roundw
      case rel => exact ⟨j + 1, by omega, by go_num, Lib.hid (HK6.out.drewN q)⟩
      case measure => simp [intOf]; omega

end Go.Proofs.YthjokmfidhcclaaGreatDoor
