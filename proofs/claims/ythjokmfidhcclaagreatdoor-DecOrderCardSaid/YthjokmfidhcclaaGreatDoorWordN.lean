/- Package math/big: a power of ten, its exponent of one small word (nat.expNN). -/
import Derived.Test.YthjokmfidhcclaaGreatDoorWordM
import Derived.LoopN
namespace Go.Proofs.YthjokmfidhcclaaGreatDoor
open Go.RowKit

theorem bitLen_spec {e : Nat} (h : 2 ≤ e) (h2 : e < 128) : 2 ≤ Lib.bitLen e ∧ Lib.bitLen e ≤ 7 ∧ e / 2 ^ (Lib.bitLen e - 1) = 1 := by
  have : ∀ e : Fin 128, 2 ≤ e.val → 2 ≤ Lib.bitLen e.val ∧ Lib.bitLen e.val ≤ 7 ∧ e.val / 2 ^ (Lib.bitLen e.val - 1) = 1 := by decide +kernel
  exact this ⟨e, h2⟩ h

theorem pair_blk {w1 wr : World} {vz vzz : Value} {e : Nat} (h : Pair w1 wr vz (10 ^ e) vzz) : ∃ g L, vz = .slice (some ⟨g, 0, none⟩) (digs 18446744073709551616 (10 ^ e)).length L.length ∧ Blk wr g L ∧ L.take (digs 18446744073709551616 (10 ^ e)).length = digs 18446744073709551616 (10 ^ e) ∧ (digs 18446744073709551616 (10 ^ e)).length ≤ L.length := by
  have := h.bz
  unfold BN at this
  exact this.blk (by rw [digs_pos (by omega) (Nat.pow_pos (by omega))]; simp)

theorem norm_pow {w1 wr : World} {vz vzz : Value} {g e : Nat} {L : List Nat} (hb : Blk wr g L) (ht : L.take (digs 18446744073709551616 (10 ^ e)).length = digs 18446744073709551616 (10 ^ e)) (hl : (digs 18446744073709551616 (10 ^ e)).length ≤ L.length) (h : Pair w1 wr vz (10 ^ e) vzz) (hv : vz = .slice (some ⟨g, 0, none⟩) (digs 18446744073709551616 (10 ^ e)).length L.length) :
    Calls Tryz.prog 41 #[.slice (some ⟨g, 0, none⟩) (digs 18446744073709551616 (10 ^ e)).length L.length] wr fun e' w' => ∃ k, e' = .returned (.slice (some ⟨g, 0, none⟩) k L.length) ∧ BN wr (.slice (some ⟨g, 0, none⟩) k L.length) (10 ^ e) ∧ w1.heap.size ≤ g ∧ Keeps (fun _ => False) w1 wr ∧ w' = wr := by
  have h1 := norm64_any hb hl (by rw [ht]; exact digs_lt (by omega) _)
  rw [ht, dval_digs (by omega)] at h1
  exact h1.mono fun e' w' ⟨k, h1, h2, h3⟩ => ⟨k, h1, h2, h.fz g (by rw [hv]; rfl), h.keep, h3⟩

theorem pair_start {w1 w2 : World} {vz : Value} (h : BN w2 vz 10) (hk : Keeps (fun _ => False) w1 w2) (hf : ∀ g, vz.ownBlock = some g → w1.heap.size ≤ g) : Pair w1 w2 vz 10 (.slice none 0 0) :=
  ⟨h, ⟨[], Buf.nil _⟩, hf, (fun _ h => nomatch h), (fun _ h => nomatch h), hk⟩

set_option maxRecDepth 100000 in
set_option maxHeartbeats 8000000 in
theorem expNN_big {w : World} {vx vy : Value} {e : Nat} (ht : Thr w) (hx : BN w vx 10) (hy : BN w vy e) (he : 2 ≤ e) (he2 : e < 128) :
    Calls Tryz.prog 72 #[.slice none 0 0, .pointer none, vx, vy, .slice none 0 0, .bool false] w fun e' w' => NewN w (10 ^ e) e' w' := by
  have HT := Lib.hid ht; have HXB := Lib.hid hx
  unfold BN at hx hy
  rw [digs_oneV (by omega) (by omega)] at hx hy
  obtain ⟨gx, Lx, rfl, hbx, htx, hlx⟩ := hx.blk (by simp)
  obtain ⟨gy, Ly, rfl, hby, hty, hly⟩ := hy.blk (by simp)
  have cx0 : w.cell? ⟨gx, 0, none⟩ = some (.int .u64 ((10 : Nat) : Int)) := hx.cells 0 _ (by simp [wcs])
  have cy0 : w.cell? ⟨gy, 0, none⟩ = some (.int .u64 (e : Int)) := hy.cells 0 _ (by simp [wcs])
  simp only [List.length_cons, List.length_nil, Nat.zero_add] at *
  obtain ⟨s1, s2, s3⟩ := bitLen_spec he he2
  have hn := fun W : World => nlz_small (w := W) (e : Int) (by omega) (by omega)
  simp only [Int.toNat_natCast] at hn
  obtain ⟨b, hb⟩ : ∃ b, Lib.bitLen e = b := ⟨_, rfl⟩
  rw [hb] at hn s1 s2 s3
  have HN := Lib.hid hn
  have HS := Lib.hid s3
  have HAX := Lib.hid (fun W : World => alias_nil (w := W) (v := .slice (some ⟨gx, 0, none⟩) 1 Lx.length) ⟨_, _, _, rfl⟩)
  have HAY := Lib.hid (fun W : World => alias_nil (w := W) (v := .slice (some ⟨gy, 0, none⟩) 1 Ly.length) ⟨_, _, _, rfl⟩)
  have HSET := Lib.hid (fun (W : World) (hk : Keeps (fun _ => False) w W) => set_new (w := W) (HXB.out.later hk) (by omega) (by rw [digs_oneV (by omega) (by omega)]; simp))
  have hge : w.heap.size = w.heap.size := rfl
  have HCX := Lib.hid cx0; have HCY := Lib.hid cy0
  clear hx hy hbx htx hby hty ht hn hb
  obtain ⟨k0, hk0⟩ : ∃ k0, b - 1 = k0 := ⟨_, rfl⟩
  obtain ⟨v0, hv0⟩ : ∃ v0, e * 2 ^ (64 - b + 1) % 18446744073709551616 = v0 := ⟨_, rfl⟩
  have hwv : IntKind.u64.wrap ((e : Int) * 2 ^ (64 - b + 1)) = (v0 : Int) := by
    have : ((e * 2 ^ (64 - b + 1) : Nat) : Int) = (e : Int) * 2 ^ (64 - b + 1) := by rw [Int.natCast_mul, Int.natCast_pow]; rfl
    rw [← this, ← hv0, IntKind.wrap_u64]; omega
  have HWV := Lib.hid hwv
  clear hwv
  have hwk : (64 : Int) - (64 - (b : Int) + 1) = (k0 : Int) := by omega
  have hk06 : k0 ≤ 6 := by omega
  have HP0 := Lib.hid (show PowR 10 e k0 10 v0 from ⟨by rw [← hk0, s3], by rw [← hv0, show 64 - k0 = 64 - b + 1 by omega]⟩)
  clear hk0 hv0 s3
  have e1 : ((e : Int) == 1) = false := by rw [beq_eq_false_iff_ne]; omega
  go_enter_defers Tryz.func72, Tryz.ntmps72
  go_wp2_with (first
    | (go_at_call 58; ((with_reducible refine (HAX.out _).mono ?_); rintro e' w1 ⟨rfl, q1, rfl⟩; have c1 := (Keeps.refl (fun _ => False) w).drewN q1))
    | (go_at_call 58; ((with_reducible refine (HAY.out _).mono ?_); rintro e' w2 ⟨rfl, q2, rfl⟩; have HK0 := Lib.hid (((Keeps.refl (fun _ => False) w).drewN q1).drewN q2); generalize hw0 : (w.drewN q1).drewN q2 = W0 at *; have cx0 := HK0.out.cell (fun h => h) HCX.out; have cy0 := HK0.out.cell (fun h => h) HCY.out))
    | (go_at_call 60; ((with_reducible refine (getStack_any (w := W0)).mono ?_); rintro e' w1 ⟨rfl, hw1⟩; have HW1 := Lib.hid hw1; have HK1 := Lib.hid (show Keeps (fun _ => False) w w1 from hw1 ▸ HK0.out.alloc _); have cx0 := HK1.out.cell (fun h => h) HCX.out; have cy0 := HK1.out.cell (fun h => h) HCY.out; clear hw1))
    | (go_at_call 37; ((with_reducible refine (HSET.out w1 HK1.out).mono ?_); rintro e' w2 ⟨vz, rfl, hbz, hkz, hfz⟩; have HZ := Lib.hid hbz; have HKZ := Lib.hid hkz; have HFZ := Lib.hid hfz; have cx0 := (HK1.out.trans hkz fun _ h => .inl h).cell (fun h => h) HCX.out; have cy0 := (HK1.out.trans hkz fun _ h => .inl h).cell (fun h => h) HCY.out; clear hbz hkz hfz))
    | (go_at_call 99; ((with_reducible refine (HN.out _).mono ?_); rintro e' w3 ⟨rfl, rfl⟩)))
  have HPZ := Lib.hid (pair_start HZ.out HKZ.out HFZ.out)
  have HSTK := Lib.hid (show w1.cell? ⟨W0.heap.size, 0, none⟩ = some (.pointer none) by rw [HW1.out]; rw [cell_of_row _ _ 0 _ _ _ (heap_alloc_new _ _)]; rfl)
  clear HZ HKZ HFZ cx0 cy0
  go_loopw [0, 15, 19, 21] (fun zv vv zzv jv wr => ∃ (j k z v : Nat), j + k = k0 ∧ jv = .int .i64 j ∧ vv = .int .u64 v ∧ Hid (PowR 10 e k z v) ∧ Hid (Pair w1 wr zv z zzv)) (fun _ _ _ jv _ => k0 - (intOf jv).toNat)
  case atStart => exact ⟨0, k0, 10, v0, by omega, rfl, congrArg (Value.int .u64) HWV.out, HP0, HPZ⟩
  case round =>
    obtain ⟨j, k, z, v, hjk, rfl, rfl, hp, hpr⟩ := hrel
    rcases Nat.eq_zero_or_pos k with hk | hk
    · subst hk
      have hz : z = 10 ^ e := by rw [hp.out.zed]; simp
      subst hz
      obtain rfl : j = k0 := by omega
      obtain ⟨g, L, hvz, hbk, htk, hlL⟩ := pair_blk hpr.out
      have HF := Lib.hid (norm_pow hbk htk hlL hpr.out hvz)
      subst hvz
      clear hbk htk hlL hp
      have HPR := Lib.hid hpr.out.keep
      go_wp2_with fail
      refine wp_loop_rounds 1 ?_
      rw [rounds_succ]
      go_wp2_with (go_at_call 41; ((with_reducible refine HF.out.mono ?_); rintro e' w9 ⟨k2, rfl, hbn, hgg, hkk, rfl⟩; have HBN := Lib.hid hbn; have HGG := Lib.hid hgg; clear hbn hgg hkk))
      refine leaves_cons (f := 61) (args := #[.pointer (some ⟨W0.heap.size, 0, none⟩)]) (by simp) (by simp [go_sem]) ?_
      refine (free_d .returning (HPR.out.cell (fun h => h) HSTK.out)).mono ?_
      rintro e' u' w'' ⟨rfl, rfl, rfl⟩
      refine ⟨_, results_tmp rfl _ _ _, ?_⟩
      refine ⟨_, rfl, HBN.out, HK1.out.trans HPR.out fun _ h => .inl h, fun g2 h2 => ?_⟩
      have hg2 : g2 = g := by cases h2; rfl
      have := HK1.out.size
      have := HGG.out
      omega
    · obtain ⟨q, rfl⟩ : ∃ q, k = q + 1 := ⟨k - 1, by omega⟩
      have hjk2 : j < k0 := by omega
      have hz0 : 0 < z := by rw [hp.out.zed]; exact Nat.pow_pos (by omega)
      have hed : e / 2 ^ (q + 1) ≤ 127 := Nat.le_trans (Nat.div_le_self _ _) (by omega)
      have hlz : (digs 18446744073709551616 z).length ≤ 11 := by
        rw [hp.out.zed]; exact Nat.le_trans (ten_lenV (n := 127) (j := 7) hed (by decide)) (by omega)
      have hlzz : (digs 18446744073709551616 (z * z)).length ≤ 90 := by
        rw [hp.out.zed, ← Nat.pow_add]; exact Nat.le_trans (ten_lenV (n := 254) (j := 14) (by omega) (by decide)) (by omega)
      obtain ⟨lzz, hbzz⟩ := hpr.out.bzz
      have HSQ := Lib.hid ((sqr_any (vs := .pointer (some ⟨W0.heap.size, 0, none⟩)) (HT.out.later (HK1.out.trans hpr.out.keep fun _ h => .inl h)) hbzz hpr.out.bz hz0 hlz hpr.out.ne).mono fun e' w' h => hpr.out.next h)
      have hvl : v < 18446744073709551616 := by rw [hp.out.vee]; exact Nat.mod_lt _ (by omega)
      have hnx := hp.out.next (by omega)
      have hand := bits_and_u64_nat v 9223372036854775808 hvl (by omega)
      rw [top_bit v hvl] at hand
      obtain ⟨v2, hv2⟩ : ∃ v2, v * 2 % 18446744073709551616 = v2 := ⟨_, rfl⟩
      rw [hv2] at hnx
      have hsh : IntKind.u64.wrap ((v : Int) * 2) = (v2 : Int) := by simp only [IntKind.wrap_u64]; omega
      clear hp hbzz hv2
      by_cases hb : 9223372036854775808 ≤ v
      · have HPN := Lib.hid (hnx.1 hb)
        rw [if_pos hb] at hand
        have hand2 : bits .and .u64 (v : Int) 9223372036854775808 = 9223372036854775808 := hand
        clear hnx hand hb
        have HMU := Lib.hid (fun (W : World) (vz2 vzz2 : Value) (h : Pair w1 W vz2 (z * z) vzz2) => by
          obtain ⟨lz2, hbz2⟩ := h.bzz
          exact (mulOne_any (vs := .pointer (some ⟨W0.heap.size, 0, none⟩)) hbz2 h.bz (Nat.mul_pos hz0 hz0) hlzz h.ne (HXB.out.later (HK1.out.trans h.keep fun _ h => .inl h)) (by omega) (by omega)).mono fun e' w' hh => h.next hh)
        go_wp2_with (first
          | (go_at_call 46; ((with_reducible refine HSQ.out.mono ?_); rintro e' w4 ⟨v4, rfl, hp4⟩; have HP4 := Lib.hid hp4; have HM4 := Lib.hid (HMU.out _ _ _ hp4); clear hp4))
          | (go_at_call 47; ((with_reducible refine HM4.out.mono ?_); rintro e' w5 ⟨v5, rfl, hp5⟩; have HP5 := Lib.hid hp5; clear hp5)))
        go_roundw
        case measure => simp [intOf]; omega
        case rel => exact ⟨j + 1, q, z * z * 10, v2, by omega, by go_num, rfl, HPN, HP5⟩
      · have HPN := Lib.hid (hnx.2 hb)
        rw [if_neg hb] at hand
        have hand2 : bits .and .u64 (v : Int) 9223372036854775808 = 0 := hand
        clear hnx hand hb
        go_wp2_with (go_at_call 46; ((with_reducible refine HSQ.out.mono ?_); rintro e' w4 ⟨v4, rfl, hp4⟩; have HP4 := Lib.hid hp4; clear hp4))
        go_roundw
        case measure => simp [intOf]; omega
        case rel => exact ⟨j + 1, q, z * z, v2, by omega, by go_num, rfl, HPN, HP4⟩

end Go.Proofs.YthjokmfidhcclaaGreatDoor
