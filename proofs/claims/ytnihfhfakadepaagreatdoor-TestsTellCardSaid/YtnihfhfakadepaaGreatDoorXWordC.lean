/- How many noughts a small word begins with. Package math/big: the stack that is asked for and given back; the plain law of powers. Package math/big: a power, its exponent of one small word. Package math/big: a power of ten, its exponent of one small word (nat.expNN). Package math/big: a power of ten, its exponent nought or one (nat.expNN). Package math/big: a whole number made of a machine's number. Package math/big: a power of ten. Package dec: a power of ten. -/
import Derived.Test.YtnihfhfakadepaaGreatDoorXKitA
import Derived.Test.YtnihfhfakadepaaGreatDoorXWordB
import Derived.Lib.Strings
import Derived.Lib.Slices
import Derived.Lib.Small
import Derived.Lib.Walk
import Derived.Lib.BitFns
import Derived.Defers
import Derived.LoopN
namespace Go.Proofs.YtnihfhfakadepaaGreatDoor
open Go.RowKit

theorem len8_at (y : Int) (h : y.toNat < Lib.len8tab.size) : ((Lib.len8tab[y.toNat]'h).toNat : Int) = Lib.len8 y := by
  unfold Lib.len8
  rw [getElem?_pos Lib.len8tab y.toNat h]
  rfl

set_option maxRecDepth 100000 in
set_option maxHeartbeats 2000000 in
theorem len64_small {w : World} (x : Int) (h0 : 0 ≤ x) (h : x < 256) :
    Calls Tryz.prog 218 #[.int .u64 x] w fun e w' => e = .returned (.int .i64 (Lib.bitLen x.toNat)) ∧ w' = w := by
  have c1 : ¬ 4294967296 ≤ x := by omega
  have c2 : ¬ 65536 ≤ x := by omega
  have c3 : ¬ 256 ≤ x := by omega
  go_enter Tryz.func218, Tryz.ntmps218
  go_wp2
  have l := Lib.bitLen_le8' x (by omega) (by omega)
  go_ret
  refine ⟨congrArg Ending.returned (congrArg (Value.int IntKind.i64) ?_), rfl⟩
  rw [len8_at, Lib.len8_of x (by omega) (by omega)]
  simp only [wrap64]
  omega

set_option maxRecDepth 100000 in
set_option maxHeartbeats 2000000 in
theorem nlz_small {w : World} (x : Int) (h0 : 0 ≤ x) (h : x < 256) :
    Calls Tryz.prog 140 #[.int .u64 x] w fun e w' => e = .returned (.int .u64 (64 - (Lib.bitLen x.toNat : Int))) ∧ w' = w := by
  have l := Lib.bitLen_le8' x (by omega) (by omega)
  have H := fun W : World => len64_small (w := W) x h0 h
  obtain ⟨b, hb⟩ : ∃ b, Lib.bitLen x.toNat = b := ⟨_, rfl⟩
  rw [hb] at H l ⊢
  have HH := Lib.hid H
  have w1 : IntKind.i64.wrap (64 - (b : Int)) = 64 - (b : Int) := by simp only [IntKind.wrap_i64]; omega
  have w2 : IntKind.u64.wrap (64 - (b : Int)) = 64 - (b : Int) := by simp only [IntKind.wrap_u64]; omega
  clear hb H
  have HL : Hid (∀ W : World, Calls Tryz.prog 202 #[.int .u64 x] W fun e w' => e = .returned (.int .i64 (b : Int)) ∧ w' = W) := by
    refine Lib.hid fun W => ?_
    go_enter Tryz.func202, Tryz.ntmps202
    go_wp2_with (go_at_call 218; ((with_reducible refine (HH.out _).mono ?_); rintro e w2 ⟨rfl, rfl⟩))
    go_ret
    exact ⟨rfl, rfl⟩
  have HZ : Hid (∀ W : World, Calls Tryz.prog 173 #[.int .u64 x] W fun e w' => e = .returned (.int .i64 (64 - (b : Int))) ∧ w' = W) := by
    refine Lib.hid fun W => ?_
    go_enter Tryz.func173, Tryz.ntmps173
    go_wp2_with (go_at_call 202; ((with_reducible refine (HL.out _).mono ?_); rintro e w2 ⟨rfl, rfl⟩))
    go_ret
    exact ⟨rfl, rfl⟩
  go_enter Tryz.func140, Tryz.ntmps140
  go_wp2_with (go_at_call 173; ((with_reducible refine (HZ.out _).mono ?_); rintro e w2 ⟨rfl, rfl⟩))
  go_ret
  exact ⟨rfl, rfl⟩

end Go.Proofs.YtnihfhfakadepaaGreatDoor
namespace Go.Proofs.YtnihfhfakadepaaGreatDoor
open Go.RowKit

set_option maxRecDepth 100000 in
set_option maxHeartbeats 2000000 in
theorem getStack_any {w : World} :
    Calls Tryz.prog 97 #[] w fun e w' => e = .returned (.pointer (some ⟨w.heap.size, 0, none⟩)) ∧ w' = w.alloc (.cells #[.pointer none] 156) := by
  go_enter Tryz.func97, Tryz.ntmps97
  go_wp2
  go_ret
  exact ⟨rfl, rfl⟩

set_option maxRecDepth 100000 in
set_option maxHeartbeats 2000000 in
theorem free_any {w : World} {p : Nat} (h : w.cell? ⟨p, 0, none⟩ = some (.pointer none)) :
    Calls Tryz.prog 98 #[.pointer (some ⟨p, 0, none⟩)] w fun e w' => e = .returned (.tuple #[]) ∧ w' = w := by
  go_enter Tryz.func98, Tryz.ntmps98
  go_wp2
  go_end0
  exact ⟨rfl, rfl⟩

/-- The bits of the exponent, round by round: k bits are left. -/
structure PowR (b e k z v : Nat) : Prop where
  zed : z = b ^ (e / 2 ^ k)
  vee : v = e * 2 ^ (64 - k) % 18446744073709551616

theorem top_bit (v : Nat) (hv : v < 18446744073709551616) : v &&& 9223372036854775808 = if 9223372036854775808 ≤ v then 9223372036854775808 else 0 := by
  have ht : v.testBit 63 = decide (9223372036854775808 ≤ v) := by
    rw [Nat.testBit_eq_decide_div_mod_eq, show (2 : Nat) ^ 63 = 9223372036854775808 by decide]
    by_cases h1 : 9223372036854775808 ≤ v
    · simp only [h1, decide_true]; simp; omega
    · simp only [h1, decide_false]; simp; omega
  apply Nat.eq_of_testBit_eq
  intro i
  rw [Nat.testBit_and, show 9223372036854775808 = 2 ^ 63 by decide, Nat.testBit_two_pow]
  by_cases hi : 63 = i
  · subst hi
    rw [ht]
    by_cases h1 : 9223372036854775808 ≤ v
    · simp only [h1, decide_true, Bool.and_self, show (2 : Nat) ^ 63 = 9223372036854775808 by decide, if_pos]; decide
    · simp [h1, show (2 : Nat) ^ 63 = 9223372036854775808 by decide]
  · by_cases h1 : 9223372036854775808 ≤ v
    · rw [show (2 : Nat) ^ 63 = 9223372036854775808 by decide, if_pos h1, show 9223372036854775808 = 2 ^ 63 by decide, Nat.testBit_two_pow]; simp [hi]
    · rw [show (2 : Nat) ^ 63 = 9223372036854775808 by decide, if_neg h1]; simp [hi]

theorem PowR.next {b e k z v : Nat} (h : PowR b e (k + 1) z v) (hk : k < 60) :
    (9223372036854775808 ≤ v → PowR b e k (z * z * b) (v * 2 % 18446744073709551616)) ∧ (¬ 9223372036854775808 ≤ v → PowR b e k (z * z) (v * 2 % 18446744073709551616)) := by
  have hv2 : v * 2 % 18446744073709551616 = e * 2 ^ (64 - k) % 18446744073709551616 := by
    rw [h.vee, show 64 - k = (64 - (k + 1)) + 1 by omega, Nat.pow_succ, ← Nat.mul_assoc, Nat.mod_mul_mod]
  have hd : e / 2 ^ (k + 1) = e / 2 ^ k / 2 := by rw [Nat.pow_succ, Nat.div_div_eq_div_mul]
  have hbit : (9223372036854775808 ≤ v) ↔ e / 2 ^ k % 2 = 1 := by
    have hp : (2 : Nat) ^ (64 - (k + 1)) * 2 ^ (k + 1) = 18446744073709551616 := by
      rw [← Nat.pow_add, show 64 - (k + 1) + (k + 1) = 64 by omega]
    have hp2 : (2 : Nat) ^ (64 - (k + 1)) * 2 ^ k = 9223372036854775808 := by
      rw [← Nat.pow_add, show 64 - (k + 1) + k = 63 by omega]
    have hpos : 0 < (2 : Nat) ^ (64 - (k + 1)) := Nat.two_pow_pos _
    have hpk : 0 < (2 : Nat) ^ k := Nat.two_pow_pos _
    have e1 : v = 2 ^ (64 - (k + 1)) * (e % 2 ^ (k + 1)) := by
      rw [h.vee, ← hp, Nat.mul_comm e, Nat.mul_mod_mul_left]
    have e2 : e % 2 ^ (k + 1) = e % 2 ^ k + 2 ^ k * (e / 2 ^ k % 2) := by rw [Nat.pow_succ, Nat.mod_mul]
    rw [e1, ← hp2, Nat.mul_le_mul_left_iff hpos, e2]
    have hr : e % 2 ^ k < 2 ^ k := Nat.mod_lt _ hpk
    rcases Nat.mod_two_eq_zero_or_one (e / 2 ^ k) with h0 | h0
    · rw [h0]; simp; omega
    · rw [h0]; simp
  have hz : z * z = b ^ (e / 2 ^ (k + 1) * 2) := by rw [h.zed, ← Nat.pow_add, Nat.mul_two]
  constructor
  · intro hle
    refine ⟨?_, hv2⟩
    rw [hz, hd, ← Nat.pow_succ]
    congr 1
    have := hbit.1 hle
    omega
  · intro hle
    refine ⟨?_, hv2⟩
    rw [hz, hd]
    congr 1
    have : ¬ e / 2 ^ k % 2 = 1 := fun h => hle (hbit.2 h)
    omega

end Go.Proofs.YtnihfhfakadepaaGreatDoor
namespace Go.Proofs.YtnihfhfakadepaaGreatDoor
open Go.RowKit

set_option maxRecDepth 100000 in
set_option maxHeartbeats 2000000 in
theorem free_d {w : World} {p : Nat} (u : FrameMode) (h : w.cell? ⟨p, 0, none⟩ = some (.pointer none)) :
    CallsD Tryz.prog 98 #[.pointer (some ⟨p, 0, none⟩)] u w fun e u' w' => u' = u ∧ (e = .returned (.tuple #[]) ∧ w' = w) := by
  go_enter_d Tryz.func98, Tryz.ntmps98
  go_wp2
  go_end0
  exact ⟨rfl, rfl⟩

/-- Two lists of words that change places: z is held, zz is room. -/
structure Pair (w1 wr : World) (vz : Value) (z : Nat) (vzz : Value) : Prop where
  bz : BN wr vz z
  bzz : ∃ l, Buf wr vzz l
  fz : ∀ g, vz.ownBlock = some g → w1.heap.size ≤ g
  fzz : ∀ g, vzz.ownBlock = some g → w1.heap.size ≤ g
  ne : ∀ g, vzz.ownBlock = some g → vz.ownBlock ≠ some g
  keep : Keeps (fun _ => False) w1 wr

theorem Pair.next {w1 wr w' : World} {vz vzz : Value} {z n : Nat} {e : Ending} (h : Pair w1 wr vz z vzz) (ht : Times wr vzz n e w') : ∃ v, e = .returned v ∧ Pair w1 w' v n vz := by
  obtain ⟨v, he, hb, hk, ho⟩ := ht
  have hsz := h.keep.size
  refine ⟨v, he, hb, ⟨_, h.bz.kept hk fun g hg hh => h.ne g hh hg⟩, fun g hg => ?_, h.fz, fun g hg hh => ?_, h.keep.trans hk fun k hk => .inr (h.fzz k hk)⟩
  · rcases ho g hg with h1 | h1
    · exact h.fzz g h1
    · omega
  · rcases ho g hh with h1 | h1
    · exact h.ne g h1 hg
    · have := h.bz.lt hg
      omega

theorem ten_lenV {k n j : Nat} (hk : k ≤ n) (hj : 10 ^ n < 18446744073709551616 ^ j) : (digs 18446744073709551616 (10 ^ k)).length ≤ j :=
  digs_length_le (by omega) _ _ (Nat.lt_of_le_of_lt (Nat.pow_le_pow_right (by omega) hk) hj)

end Go.Proofs.YtnihfhfakadepaaGreatDoor
namespace Go.Proofs.YtnihfhfakadepaaGreatDoor
open Go.RowKit

theorem bitLen_spec {e : Nat} (h : 2 ≤ e) (h2 : e < 128) : 2 ≤ Lib.bitLen e ∧ Lib.bitLen e ≤ 7 ∧ e / 2 ^ (Lib.bitLen e - 1) = 1 := by
  have : ∀ e : Fin 128, 2 ≤ e.val → 2 ≤ Lib.bitLen e.val ∧ Lib.bitLen e.val ≤ 7 ∧ e.val / 2 ^ (Lib.bitLen e.val - 1) = 1 := by decide +kernel
  exact this ⟨e, h2⟩ h

theorem pair_blk {w1 wr : World} {vz vzz : Value} {e : Nat} (h : Pair w1 wr vz (10 ^ e) vzz) : ∃ g L, vz = .slice (some ⟨g, 0, none⟩) (digs 18446744073709551616 (10 ^ e)).length L.length ∧ Blk wr g L ∧ L.take (digs 18446744073709551616 (10 ^ e)).length = digs 18446744073709551616 (10 ^ e) ∧ (digs 18446744073709551616 (10 ^ e)).length ≤ L.length := by
  have := h.bz
  unfold BN at this
  exact this.blk (by rw [digs_pos (by omega) (Nat.pow_pos (by omega))]; simp)

theorem norm_pow {w1 wr : World} {vz vzz : Value} {g e : Nat} {L : List Nat} (hb : Blk wr g L) (ht : L.take (digs 18446744073709551616 (10 ^ e)).length = digs 18446744073709551616 (10 ^ e)) (hl : (digs 18446744073709551616 (10 ^ e)).length ≤ L.length) (h : Pair w1 wr vz (10 ^ e) vzz) (hv : vz = .slice (some ⟨g, 0, none⟩) (digs 18446744073709551616 (10 ^ e)).length L.length) :
    Calls Tryz.prog 94 #[.slice (some ⟨g, 0, none⟩) (digs 18446744073709551616 (10 ^ e)).length L.length] wr fun e' w' => ∃ k, e' = .returned (.slice (some ⟨g, 0, none⟩) k L.length) ∧ BN wr (.slice (some ⟨g, 0, none⟩) k L.length) (10 ^ e) ∧ w1.heap.size ≤ g ∧ Keeps (fun _ => False) w1 wr ∧ w' = wr := by
  have h1 := norm64_any hb hl (by rw [ht]; exact digs_lt (by omega) _)
  rw [ht, dval_digs (by omega)] at h1
  exact h1.mono fun e' w' ⟨k, h1, h2, h3⟩ => ⟨k, h1, h2, h.fz g (by rw [hv]; rfl), h.keep, h3⟩

theorem pair_start {w1 w2 : World} {vz : Value} (h : BN w2 vz 10) (hk : Keeps (fun _ => False) w1 w2) (hf : ∀ g, vz.ownBlock = some g → w1.heap.size ≤ g) : Pair w1 w2 vz 10 (.slice none 0 0) :=
  ⟨h, ⟨[], Buf.nil _⟩, hf, (fun _ h => nomatch h), (fun _ h => nomatch h), hk⟩

set_option maxRecDepth 100000 in
set_option maxHeartbeats 8000000 in
theorem expNN_big {w : World} {vx vy : Value} {e : Nat} (ht : Thr w) (hx : BN w vx 10) (hy : BN w vy e) (he : 2 ≤ e) (he2 : e < 128) :
    Calls Tryz.prog 110 #[.slice none 0 0, .pointer none, vx, vy, .slice none 0 0, .bool false] w fun e' w' => NewN w (10 ^ e) e' w' := by
  have HT := Lib.hid ht; have HXB := Lib.hid hx
  unfold BN at hx hy
  rw [digs_oneV (by omega) (by omega)] at hx hy
  obtain ⟨gx, Lx, rfl, hbx, htx, hlx⟩ := hx.blk (by simp)
  obtain ⟨gy, Ly, rfl, hby, hty, hly⟩ := hy.blk (by simp)
  have cx0 : w.cell? ⟨gx, 0, none⟩ = some (.int .u64 ((10 : Nat) : Int)) := hx.cells 0 _ (by simp [wcs])
  have cy0 : w.cell? ⟨gy, 0, none⟩ = some (.int .u64 (e : Int)) := hy.cells 0 _ (by simp [wcs])
  simp only [List.length_cons, List.length_nil, Nat.zero_add] at *
  obtain ⟨s1, s2, s3⟩ := bitLen_spec he he2
  have hn := fun W : World => nlz_small (w := W) (e : Int) (by omega) (by omega)
  simp only [Int.toNat_natCast] at hn
  obtain ⟨b, hb⟩ : ∃ b, Lib.bitLen e = b := ⟨_, rfl⟩
  rw [hb] at hn s1 s2 s3
  have HN := Lib.hid hn
  have HS := Lib.hid s3
  have HAX := Lib.hid (fun W : World => alias_nil (w := W) (v := .slice (some ⟨gx, 0, none⟩) 1 Lx.length) ⟨_, _, _, rfl⟩)
  have HAY := Lib.hid (fun W : World => alias_nil (w := W) (v := .slice (some ⟨gy, 0, none⟩) 1 Ly.length) ⟨_, _, _, rfl⟩)
  have HSET := Lib.hid (fun (W : World) (hk : Keeps (fun _ => False) w W) => set_new (w := W) (HXB.out.later hk) (by omega) (by rw [digs_oneV (by omega) (by omega)]; simp))
  have hge : w.heap.size = w.heap.size := rfl
  have HCX := Lib.hid cx0; have HCY := Lib.hid cy0
  clear hx hy hbx htx hby hty ht hn hb
  obtain ⟨k0, hk0⟩ : ∃ k0, b - 1 = k0 := ⟨_, rfl⟩
  obtain ⟨v0, hv0⟩ : ∃ v0, e * 2 ^ (64 - b + 1) % 18446744073709551616 = v0 := ⟨_, rfl⟩
  have hwv : IntKind.u64.wrap ((e : Int) * 2 ^ (64 - b + 1)) = (v0 : Int) := by
    have : ((e * 2 ^ (64 - b + 1) : Nat) : Int) = (e : Int) * 2 ^ (64 - b + 1) := by rw [Int.natCast_mul, Int.natCast_pow]; rfl
    rw [← this, ← hv0, IntKind.wrap_u64]; omega
  have HWV := Lib.hid hwv
  clear hwv
  have hwk : (64 : Int) - (64 - (b : Int) + 1) = (k0 : Int) := by omega
  have hk06 : k0 ≤ 6 := by omega
  have HP0 := Lib.hid (show PowR 10 e k0 10 v0 from ⟨by rw [← hk0, s3], by rw [← hv0, show 64 - k0 = 64 - b + 1 by omega]⟩)
  clear hk0 hv0 s3
  have e1 : ((e : Int) == 1) = false := by rw [beq_eq_false_iff_ne]; omega
  go_enter_defers Tryz.func110, Tryz.ntmps110
  go_wp2_with (first
    | (go_at_call 95; ((with_reducible refine (HAX.out _).mono ?_); rintro e' w1 ⟨rfl, q1, rfl⟩; have c1 := (Keeps.refl (fun _ => False) w).drewN q1))
    | (go_at_call 95; ((with_reducible refine (HAY.out _).mono ?_); rintro e' w2 ⟨rfl, q2, rfl⟩; have HK0 := Lib.hid (((Keeps.refl (fun _ => False) w).drewN q1).drewN q2); generalize hw0 : (w.drewN q1).drewN q2 = W0 at *; have cx0 := HK0.out.cell (fun h => h) HCX.out; have cy0 := HK0.out.cell (fun h => h) HCY.out))
    | (go_at_call 97; ((with_reducible refine (getStack_any (w := W0)).mono ?_); rintro e' w1 ⟨rfl, hw1⟩; have HW1 := Lib.hid hw1; have HK1 := Lib.hid (show Keeps (fun _ => False) w w1 from hw1 ▸ HK0.out.alloc _); have cx0 := HK1.out.cell (fun h => h) HCX.out; have cy0 := HK1.out.cell (fun h => h) HCY.out; clear hw1))
    | (go_at_call 134; ((with_reducible refine (HSET.out w1 HK1.out).mono ?_); rintro e' w2 ⟨vz, rfl, hbz, hkz, hfz⟩; have HZ := Lib.hid hbz; have HKZ := Lib.hid hkz; have HFZ := Lib.hid hfz; have cx0 := (HK1.out.trans hkz fun _ h => .inl h).cell (fun h => h) HCX.out; have cy0 := (HK1.out.trans hkz fun _ h => .inl h).cell (fun h => h) HCY.out; clear hbz hkz hfz))
    | (go_at_call 140; ((with_reducible refine (HN.out _).mono ?_); rintro e' w3 ⟨rfl, rfl⟩)))
  have HPZ := Lib.hid (pair_start HZ.out HKZ.out HFZ.out)
  have HSTK := Lib.hid (show w1.cell? ⟨W0.heap.size, 0, none⟩ = some (.pointer none) by rw [HW1.out]; rw [cell_of_row _ _ 0 _ _ _ (heap_alloc_new _ _)]; rfl)
  clear HZ HKZ HFZ cx0 cy0
  go_loopw [0, 15, 19, 21] (fun zv vv zzv jv wr => ∃ (j k z v : Nat), j + k = k0 ∧ jv = .int .i64 j ∧ vv = .int .u64 v ∧ Hid (PowR 10 e k z v) ∧ Hid (Pair w1 wr zv z zzv)) (fun _ _ _ jv _ => k0 - (intOf jv).toNat)
  case atStart => exact ⟨0, k0, 10, v0, by omega, rfl, congrArg (Value.int .u64) HWV.out, HP0, HPZ⟩
  case round =>
    obtain ⟨j, k, z, v, hjk, rfl, rfl, hp, hpr⟩ := hrel
    rcases Nat.eq_zero_or_pos k with hk | hk
    · subst hk
      have hz : z = 10 ^ e := by rw [hp.out.zed]; simp
      subst hz
      obtain rfl : j = k0 := by omega
      obtain ⟨g, L, hvz, hbk, htk, hlL⟩ := pair_blk hpr.out
      have HF := Lib.hid (norm_pow hbk htk hlL hpr.out hvz)
      subst hvz
      clear hbk htk hlL hp
      have HPR := Lib.hid hpr.out.keep
      go_wp2_with fail
      refine wp_loop_rounds 1 ?_
      rw [rounds_succ]
      go_wp2_with (go_at_call 94; ((with_reducible refine HF.out.mono ?_); rintro e' w9 ⟨k2, rfl, hbn, hgg, hkk, rfl⟩; have HBN := Lib.hid hbn; have HGG := Lib.hid hgg; clear hbn hgg hkk))
      refine leaves_cons (f := 98) (args := #[.pointer (some ⟨W0.heap.size, 0, none⟩)]) (by simp) (by simp [go_sem]) ?_
      refine (free_d .returning (HPR.out.cell (fun h => h) HSTK.out)).mono ?_
      rintro e' u' w'' ⟨rfl, rfl, rfl⟩
      refine ⟨_, results_tmp rfl _ _ _, ?_⟩
      refine ⟨_, rfl, HBN.out, HK1.out.trans HPR.out fun _ h => .inl h, fun g2 h2 => ?_⟩
      have hg2 : g2 = g := by cases h2; rfl
      have := HK1.out.size
      have := HGG.out
      omega
    · obtain ⟨q, rfl⟩ : ∃ q, k = q + 1 := ⟨k - 1, by omega⟩
      have hjk2 : j < k0 := by omega
      have hz0 : 0 < z := by rw [hp.out.zed]; exact Nat.pow_pos (by omega)
      have hed : e / 2 ^ (q + 1) ≤ 127 := Nat.le_trans (Nat.div_le_self _ _) (by omega)
      have hlz : (digs 18446744073709551616 z).length ≤ 11 := by
        rw [hp.out.zed]; exact Nat.le_trans (ten_lenV (n := 127) (j := 7) hed (by decide)) (by omega)
      have hlzz : (digs 18446744073709551616 (z * z)).length ≤ 90 := by
        rw [hp.out.zed, ← Nat.pow_add]; exact Nat.le_trans (ten_lenV (n := 254) (j := 14) (by omega) (by decide)) (by omega)
      obtain ⟨lzz, hbzz⟩ := hpr.out.bzz
      have HSQ := Lib.hid ((sqr_any (vs := .pointer (some ⟨W0.heap.size, 0, none⟩)) (HT.out.later (HK1.out.trans hpr.out.keep fun _ h => .inl h)) hbzz hpr.out.bz hz0 hlz hpr.out.ne).mono fun e' w' h => hpr.out.next h)
      have hvl : v < 18446744073709551616 := by rw [hp.out.vee]; exact Nat.mod_lt _ (by omega)
      have hnx := hp.out.next (by omega)
      have hand := bits_and_u64_nat v 9223372036854775808 hvl (by omega)
      rw [top_bit v hvl] at hand
      obtain ⟨v2, hv2⟩ : ∃ v2, v * 2 % 18446744073709551616 = v2 := ⟨_, rfl⟩
      rw [hv2] at hnx
      have hsh : IntKind.u64.wrap ((v : Int) * 2) = (v2 : Int) := by simp only [IntKind.wrap_u64]; omega
      clear hp hbzz hv2
      by_cases hb : 9223372036854775808 ≤ v
      · have HPN := Lib.hid (hnx.1 hb)
        rw [if_pos hb] at hand
        have hand2 : bits .and .u64 (v : Int) 9223372036854775808 = 9223372036854775808 := hand
        clear hnx hand hb
        have HMU := Lib.hid (fun (W : World) (vz2 vzz2 : Value) (h : Pair w1 W vz2 (z * z) vzz2) => by
          obtain ⟨lz2, hbz2⟩ := h.bzz
          exact (mulOne_any (vs := .pointer (some ⟨W0.heap.size, 0, none⟩)) hbz2 h.bz (Nat.mul_pos hz0 hz0) hlzz h.ne (HXB.out.later (HK1.out.trans h.keep fun _ h => .inl h)) (by omega) (by omega)).mono fun e' w' hh => h.next hh)
        go_wp2_with (first
          | (go_at_call 84; ((with_reducible refine HSQ.out.mono ?_); rintro e' w4 ⟨v4, rfl, hp4⟩; have HP4 := Lib.hid hp4; have HM4 := Lib.hid (HMU.out _ _ _ hp4); clear hp4))
          | (go_at_call 85; ((with_reducible refine HM4.out.mono ?_); rintro e' w5 ⟨v5, rfl, hp5⟩; have HP5 := Lib.hid hp5; clear hp5)))
        go_roundw
        case measure => simp [intOf]; omega
        case rel => exact ⟨j + 1, q, z * z * 10, v2, by omega, by go_num, rfl, HPN, HP5⟩
      · have HPN := Lib.hid (hnx.2 hb)
        rw [if_neg hb] at hand
        have hand2 : bits .and .u64 (v : Int) 9223372036854775808 = 0 := hand
        clear hnx hand hb
        go_wp2_with (go_at_call 84; ((with_reducible refine HSQ.out.mono ?_); rintro e' w4 ⟨v4, rfl, hp4⟩; have HP4 := Lib.hid hp4; clear hp4))
        go_roundw
        case measure => simp [intOf]; omega
        case rel => exact ⟨j + 1, q, z * z, v2, by omega, by go_num, rfl, HPN, HP4⟩

end Go.Proofs.YtnihfhfakadepaaGreatDoor
namespace Go.Proofs.YtnihfhfakadepaaGreatDoor
open Go.RowKit

set_option maxRecDepth 100000 in
set_option maxHeartbeats 8000000 in
theorem expNN_one {w : World} {vx vy : Value} (hx : BN w vx 10) (hy : BN w vy 1) :
    Calls Tryz.prog 110 #[.slice none 0 0, .pointer none, vx, vy, .slice none 0 0, .bool false] w fun e' w' => NewN w (10 ^ 1) e' w' := by
  have HXB := Lib.hid hx
  unfold BN at hx hy
  rw [digs_oneV (by omega) (by omega)] at hx hy
  obtain ⟨gx, Lx, rfl, hbx, htx, hlx⟩ := hx.blk (by simp)
  obtain ⟨gy, Ly, rfl, hby, hty, hly⟩ := hy.blk (by simp)
  have cx0 : w.cell? ⟨gx, 0, none⟩ = some (.int .u64 ((10 : Nat) : Int)) := hx.cells 0 _ (by simp [wcs])
  have cy0 : w.cell? ⟨gy, 0, none⟩ = some (.int .u64 ((1 : Nat) : Int)) := hy.cells 0 _ (by simp [wcs])
  simp only [List.length_cons, List.length_nil, Nat.zero_add] at *
  have HAX := Lib.hid (fun W : World => alias_nil (w := W) (v := .slice (some ⟨gx, 0, none⟩) 1 Lx.length) ⟨_, _, _, rfl⟩)
  have HAY := Lib.hid (fun W : World => alias_nil (w := W) (v := .slice (some ⟨gy, 0, none⟩) 1 Ly.length) ⟨_, _, _, rfl⟩)
  have HSET := Lib.hid (fun (W : World) (hk : Keeps (fun _ => False) w W) => set_new (w := W) (HXB.out.later hk) (by omega) (by rw [digs_oneV (by omega) (by omega)]; simp))
  have HCX := Lib.hid cx0; have HCY := Lib.hid cy0
  clear hx hy hbx htx hby hty
  go_enter_defers Tryz.func110, Tryz.ntmps110
  go_wp2_with (first
    | (go_at_call 95; ((with_reducible refine (HAX.out _).mono ?_); rintro e' w1 ⟨rfl, q1, rfl⟩; have c1 := (Keeps.refl (fun _ => False) w).drewN q1))
    | (go_at_call 95; ((with_reducible refine (HAY.out _).mono ?_); rintro e' w2 ⟨rfl, q2, rfl⟩; have HK0 := Lib.hid (((Keeps.refl (fun _ => False) w).drewN q1).drewN q2); generalize hw0 : (w.drewN q1).drewN q2 = W0 at *; have cx0 := HK0.out.cell (fun h => h) HCX.out; have cy0 := HK0.out.cell (fun h => h) HCY.out))
    | (go_at_call 134; ((with_reducible refine (HSET.out W0 HK0.out).mono ?_); rintro e' w2 ⟨vz, rfl, hbz, hkz, hfz⟩; have HZ := Lib.hid hbz; have HKZ := Lib.hid hkz; have HFZ := Lib.hid hfz; clear hbz hkz hfz)))
  refine ⟨_, results_tmp rfl _ _ _, ?_⟩
  refine ⟨_, rfl, HZ.out, HK0.out.trans HKZ.out fun _ h => .inl h, fun g hg => ?_⟩
  have := HFZ.out g hg
  have := HK0.out.size
  omega

set_option maxRecDepth 100000 in
set_option maxHeartbeats 8000000 in
theorem expNN_zero {w : World} {vx : Value} {A : Option Addr} {c : Nat} (hx : BN w vx 10) :
    Calls Tryz.prog 110 #[.slice none 0 0, .pointer none, vx, .slice A 0 c, .slice none 0 0, .bool false] w fun e' w' => NewN w (10 ^ 0) e' w' := by
  unfold BN at hx
  rw [digs_oneV (by omega) (by omega)] at hx
  obtain ⟨gx, Lx, rfl, hbx, htx, hlx⟩ := hx.blk (by simp)
  simp only [List.length_cons, List.length_nil, Nat.zero_add] at *
  have HAX := Lib.hid (fun W : World => alias_nil (w := W) (v := .slice (some ⟨gx, 0, none⟩) 1 Lx.length) ⟨_, _, _, rfl⟩)
  have HAY := Lib.hid (fun W : World => alias_nil (w := W) (v := .slice A 0 c) ⟨_, _, _, rfl⟩)
  have HSET := Lib.hid (fun (W : World) => (show Calls Tryz.prog 123 #[.slice none 0 0, .int .u64 1] W (fun e' w' => NewN W 1 e' w') from setWord_new (w := W) 1 (by omega) (by omega)))
  clear hx hbx htx
  go_enter_defers Tryz.func110, Tryz.ntmps110
  go_wp2_with (first
    | (go_at_call 95; ((with_reducible refine (HAX.out _).mono ?_); rintro e' w1 ⟨rfl, q1, rfl⟩))
    | (go_at_call 95; ((with_reducible refine (HAY.out _).mono ?_); rintro e' w2 ⟨rfl, q2, rfl⟩; have HK0 := Lib.hid (((Keeps.refl (fun _ => False) w).drewN q1).drewN q2); generalize hw0 : (w.drewN q1).drewN q2 = W0 at *))
    | (go_at_call 123; ((with_reducible refine (HSET.out W0).mono ?_); rintro e' w2 ⟨vz, rfl, hbz, hkz, hfz⟩; have HZ := Lib.hid hbz; have HKZ := Lib.hid hkz; have HFZ := Lib.hid hfz; clear hbz hkz hfz)))
  refine ⟨_, results_tmp rfl _ _ _, ?_⟩
  refine ⟨_, rfl, HZ.out, HK0.out.trans HKZ.out fun _ h => .inl h, fun g hg => ?_⟩
  have := HFZ.out g hg
  have := HK0.out.size
  omega

theorem expNN_any {w : World} {vx vy : Value} {e : Nat} (ht : Thr w) (hx : BN w vx 10) (hy : BN w vy e) (he : e < 128) :
    Calls Tryz.prog 110 #[.slice none 0 0, .pointer none, vx, vy, .slice none 0 0, .bool false] w fun e' w' => NewN w (10 ^ e) e' w' := by
  rcases (show e = 0 ∨ e = 1 ∨ 2 ≤ e by omega) with h | h | h
  · subst h
    unfold BN at hy
    rw [digs_zero] at hy
    rcases hy with ⟨rfl, _⟩ | ⟨g, L, rfl, _⟩
    · exact expNN_zero hx
    · exact expNN_zero hx
  · subst h; exact expNN_one hx hy
  · exact expNN_big ht hx hy h he

end Go.Proofs.YtnihfhfakadepaaGreatDoor
namespace Go.Proofs.YtnihfhfakadepaaGreatDoor
open Go.RowKit

/-- A whole number of math/big at block p. -/
def GInt (w : World) (p : Nat) (n : Int) : Prop := ∃ v, w.heap[p]? = some (.cells #[.bool (decide (n < 0)), v] 105 (0, 0)) ∧ BN w v n.natAbs

set_option maxRecDepth 100000 in
set_option maxHeartbeats 2000000 in
theorem gNewInt_zero {w : World} : Calls Tryz.prog 61 #[.int .i64 0] w fun e w' => ∃ p, e = .returned (.pointer (some ⟨p, 0, none⟩)) ∧ GInt w' p 0 ∧ Keeps (fun _ => False) w w' ∧ w.heap.size ≤ p := by
  go_enter Tryz.func61, Tryz.ntmps61
  go_wp2
  go_ret
  refine ⟨_, rfl, ⟨.slice none 0 0, ?_, ?_⟩, (Keeps.refl _ _).alloc _, Nat.le_refl _⟩
  · exact heap_alloc_new _ _
  · exact .inl ⟨rfl, digs_zero _⟩

theorem gint_made {w : World} {n : Nat} {z : Int} (h : 0 < n) (h2 : n < 18446744073709551616) (hz : z.natAbs = n) :
    GInt ((w.alloc (.cells #[.int .u64 (n : Int)] 117)).alloc (.cells #[.bool (decide (z < 0)), .slice (some ⟨w.heap.size, 0, none⟩) 1 1] 105)) (w.heap.size + 1) z := by
  refine ⟨.slice (some ⟨w.heap.size, 0, none⟩) 1 1, heap_alloc2 _ _ _, ?_⟩
  unfold BN
  rw [hz, digs_oneV h h2]
  have hb : Blk (w.alloc (.cells #[.int .u64 (n : Int)] 117)) w.heap.size [n] := ⟨heap_alloc_new _ _, by simp⟩
  exact Buf.take (m := 1) (hb.later ((Keeps.refl _ _).alloc _)) (by simp)

set_option maxRecDepth 100000 in
set_option maxHeartbeats 2000000 in
theorem gNewInt_pos {w : World} (n : Nat) (h : 0 < n) (h2 : n < 9223372036854775808) : Calls Tryz.prog 61 #[.int .i64 n] w fun e w' => ∃ p, e = .returned (.pointer (some ⟨p, 0, none⟩)) ∧ GInt w' p n ∧ Keeps (fun _ => False) w w' ∧ w.heap.size ≤ p := by
  have w1 : IntKind.u64.wrap (n : Int) = (n : Int) := by simp only [IntKind.wrap_u64]; omega
  have c1 : ¬ (n : Int) < 0 := by omega
  have c2 : ((n : Int) == 0) = false := by rw [beq_eq_false_iff_ne]; omega
  have HG := Lib.hid (gint_made (w := w) (z := (n : Int)) h (by omega) (by omega))
  rw [decide_eq_false c1] at HG
  go_enter Tryz.func61, Tryz.ntmps61
  go_wp2
  go_ret
  exact ⟨_, rfl, HG.out, ((Keeps.refl _ _).alloc _).alloc _, by omega⟩

set_option maxRecDepth 100000 in
set_option maxHeartbeats 2000000 in
theorem gNewInt_neg {w : World} (n : Nat) (h : 0 < n) (h2 : n < 9223372036854775808) : Calls Tryz.prog 61 #[.int .i64 (-(n : Int))] w fun e w' => ∃ p, e = .returned (.pointer (some ⟨p, 0, none⟩)) ∧ GInt w' p (-(n : Int)) ∧ Keeps (fun _ => False) w w' ∧ w.heap.size ≤ p := by
  obtain ⟨z, hz⟩ : ∃ z : Int, -(n : Int) = z := ⟨_, rfl⟩
  rw [hz]
  obtain ⟨m, hm⟩ : ∃ m : Nat, IntKind.u64.wrap z = (m : Int) := ⟨(IntKind.u64.wrap z).toNat, by simp only [IntKind.wrap_u64]; omega⟩
  have w2 : IntKind.u64.wrap (-(m : Int)) = (n : Int) := by rw [← hm]; simp only [IntKind.wrap_u64]; omega
  have c1 : z < 0 := by omega
  have c2 : (z == 0) = false := by rw [beq_eq_false_iff_ne]; omega
  have HG := Lib.hid (gint_made (w := w) (n := n) (z := z) h (by omega) (by omega))
  rw [decide_eq_true c1] at HG
  clear hz
  go_enter Tryz.func61, Tryz.ntmps61
  go_wp2
  go_ret
  exact ⟨_, rfl, HG.out, ((Keeps.refl _ _).alloc _).alloc _, by omega⟩

theorem gNewInt_any {w : World} (z : Int) (h1 : -9223372036854775808 < z) (h2 : z < 9223372036854775808) : Calls Tryz.prog 61 #[.int .i64 z] w fun e w' => ∃ p, e = .returned (.pointer (some ⟨p, 0, none⟩)) ∧ GInt w' p z ∧ Keeps (fun _ => False) w w' ∧ w.heap.size ≤ p := by
  rcases (show z = 0 ∨ 0 < z ∨ z < 0 by omega) with h | h | h
  · subst h; exact gNewInt_zero
  · obtain ⟨n, rfl⟩ : ∃ n : Nat, z = n := ⟨z.toNat, by omega⟩
    exact gNewInt_pos n (by omega) (by omega)
  · obtain ⟨n, rfl⟩ : ∃ n : Nat, z = -(n : Int) := ⟨(-z).toNat, by omega⟩
    exact gNewInt_neg n (by omega) (by omega)

end Go.Proofs.YtnihfhfakadepaaGreatDoor
namespace Go.Proofs.YtnihfhfakadepaaGreatDoor
open Go.RowKit

/-- A whole number of math/big that is nought and has no room. -/
def GZero (w : World) (p : Nat) : Prop := w.heap[p]? = some (.cells #[.bool false, .slice none 0 0] 105 (0, 0))

theorem GInt.later {w w' : World} {p : Nat} {n : Int} (h : GInt w p n) (hk : Keeps (fun _ => False) w w') : GInt w' p n := by
  obtain ⟨v, h1, h2⟩ := h
  exact ⟨v, hk.blk h1, h2.later hk⟩

theorem digs_ten_pos (e : Nat) : (0 : Int) < ((digs 18446744073709551616 (10 ^ e)).length : Int) := by
  have : 0 < (digs 18446744073709551616 (10 ^ e)).length := by rw [digs_pos (by omega) (Nat.pow_pos (by omega))]; simp
  omega

theorem BN.slice {w : World} {v : Value} {n : Nat} (h : BN w v n) : ∃ A c, v = .slice A (digs 18446744073709551616 n).length c := by
  rcases h with ⟨h1, h2⟩ | ⟨g, L, h1, _⟩
  · rw [h2]; exact ⟨none, 0, h1⟩
  · exact ⟨_, _, h1⟩

set_option maxRecDepth 100000 in
set_option maxHeartbeats 4000000 in
theorem gexp_any {w : World} {pz px py e : Nat} (ht : Thr w) (hz : GZero w pz) (hx : GInt w px 10) (hy : GInt w py e) (he : e < 128) :
    Calls Tryz.prog 86 #[.pointer (some ⟨pz, 0, none⟩), .pointer (some ⟨px, 0, none⟩), .pointer (some ⟨py, 0, none⟩), .pointer none, .bool false] w fun e' w' => e' = .returned (.pointer (some ⟨pz, 0, none⟩)) ∧ GInt w' pz ((10 ^ e : Nat) : Int) ∧ Keeps (fun k => k = pz) w w' := by
  obtain ⟨vx, hbx, hnx⟩ := hx
  obtain ⟨vy, hby, hny⟩ := hy
  simp only [Int.natAbs_natCast] at hny
  have hnx' : BN w vx 10 := hnx
  have HE := Lib.hid (expNN_any ht hnx' hny he)
  have dx : decide ((10 : Int) < 0) = false := rfl
  have dy : decide ((e : Int) < 0) = false := decide_eq_false (by omega)
  rw [dx] at hbx
  rw [dy] at hby
  unfold GZero at hz
  have z0 := cell_of_row w pz 0 _ _ _ hz
  have z1 := cell_of_row w pz 1 _ _ _ hz
  have x0 := cell_of_row w px 0 _ _ _ hbx
  have x1 := cell_of_row w px 1 _ _ _ hbx
  have y0 := cell_of_row w py 0 _ _ _ hby
  have y1 := cell_of_row w py 1 _ _ _ hby
  simp at z0 z1 x0 x1 y0 y1
  have HZ := Lib.hid hz; have HBX := Lib.hid hbx
  clear hz hbx hby hnx hnx' hny ht dx dy
  go_enter Tryz.func86, Tryz.ntmps86
  go_wp2_with (go_at_call 110; ((with_reducible refine HE.out.mono ?_); rintro e' w2 ⟨v, rfl, hbn, hk, hf⟩; (obtain ⟨A, c, rfl⟩ := hbn.slice); have hp0 := digs_ten_pos e; have HBN := Lib.hid hbn; have HK := Lib.hid hk; have HF := Lib.hid hf; have HZ2 := Lib.hid (hk.blk HZ.out); have z0 := hk.cell (fun h => h) z0; have z1 := hk.cell (fun h => h) z1; have x0 := hk.cell (fun h => h) x0; have zf0 := frozen_of_row w2 pz 0 _ _ HZ2.out; have zf1 := frozen_of_row w2 pz 1 _ _ HZ2.out; have zl := row_lt HZ2.out; clear hbn hk hf))
  go_ret
  have hk9 : Keeps (fun k => k = pz) w2 ((w2.setCell ⟨pz, 1, none⟩ (.slice A (digs 18446744073709551616 (10 ^ e)).length c)).setCell ⟨pz, 0, none⟩ (.bool false)) := ((Keeps.refl (fun k => k = pz) w2).setCell (p := ⟨pz, 1, none⟩) (.inl rfl) _).setCell (p := ⟨pz, 0, none⟩) (.inl rfl) _
  have hb1 := setCell_blk (k := 1) (u := .slice A (digs 18446744073709551616 (10 ^ e)).length c) HZ2.out
  have hb2 := setCell_blk (k := 0) (u := .bool false) hb1
  refine ⟨rfl, ⟨.slice A (digs 18446744073709551616 (10 ^ e)).length c, ?_, ?_⟩, (HK.out.mono (S' := fun k => k = pz) fun _ h => h.elim).trans hk9 fun _ h => .inl h⟩
  · rw [hb2, decide_eq_false (Int.not_lt.2 (Int.natCast_nonneg _))]; rfl
  · rw [Int.natAbs_natCast]
    exact Buf.kept HBN.out hk9 fun g hg hh => by
      have := HF.out g hg
      have := row_lt HZ.out
      omega

set_option maxRecDepth 100000 in
set_option maxHeartbeats 4000000 in
theorem gExp_any {w : World} {pz px py e : Nat} (ht : Thr w) (hz : GZero w pz) (hx : GInt w px 10) (hy : GInt w py e) (he : e < 128) :
    Calls Tryz.prog 78 #[.pointer (some ⟨pz, 0, none⟩), .pointer (some ⟨px, 0, none⟩), .pointer (some ⟨py, 0, none⟩), .pointer none] w fun e' w' => e' = .returned (.pointer (some ⟨pz, 0, none⟩)) ∧ GInt w' pz ((10 ^ e : Nat) : Int) ∧ Keeps (fun k => k = pz) w w' := by
  have H := Lib.hid (gexp_any ht hz hx hy he)
  clear ht hz hx hy
  go_enter Tryz.func78, Tryz.ntmps78
  go_wp2_with (go_at_call 86; ((with_reducible refine H.out.mono ?_); rintro e' w2 ⟨rfl, h2, h3⟩; have H2 := Lib.hid h2; have H3 := Lib.hid h3; clear h2 h3))
  go_ret
  exact ⟨rfl, H2.out, H3.out⟩

end Go.Proofs.YtnihfhfakadepaaGreatDoor
namespace Go.Proofs.YtnihfhfakadepaaGreatDoor
open Go.RowKit

set_option maxRecDepth 100000 in
set_option maxHeartbeats 4000000 in
theorem dten_any {w : World} {e : Nat} (ht : Thr w) (he : e < 128) :
    Calls Tryz.prog 62 #[.int .i64 e] w fun e' w' => ∃ p, e' = .returned (.pointer (some ⟨p, 0, none⟩)) ∧ GInt w' p ((10 ^ e : Nat) : Int) ∧ Keeps (fun _ => False) w w' ∧ w.heap.size ≤ p := by
  obtain ⟨w1, hw1⟩ : ∃ w1, w.alloc (.cells #[.bool false, .slice none 0 0] 105) = w1 := ⟨_, rfl⟩
  have hz : GZero w1 w.heap.size := by rw [← hw1]; exact heap_alloc_new _ _
  have hk1 : Keeps (fun _ => False) w w1 := by rw [← hw1]; exact (Keeps.refl _ _).alloc _
  have HN1 := Lib.hid (gNewInt_any (w := w1) 10 (by omega) (by omega))
  have HN2 := Lib.hid (fun W : World => gNewInt_any (w := W) (e : Int) (by omega) (by omega))
  have HE := Lib.hid (fun (W : World) (px py : Nat) (hk : Keeps (fun _ => False) w1 W) (hx : GInt W px 10) (hy : GInt W py e) => gExp_any (ht.later (hk1.trans hk fun _ h => .inl h)) (show GZero W w.heap.size from hk.blk hz) hx hy he)
  have HK1 := Lib.hid hk1
  clear hz hk1 ht
  go_enter Tryz.func62, Tryz.ntmps62
  go_wp2_with (first
    | (go_at_call 61; ((with_reducible refine HN1.out.mono ?_); rintro e' w2 ⟨px, rfl, hx, hk2, _⟩; have HX := Lib.hid hx; have HK2 := Lib.hid hk2; clear hx hk2))
    | (go_at_call 61; ((with_reducible refine (HN2.out w2).mono ?_); rintro e' w3 ⟨py, rfl, hy, hk3, _⟩; have HY := Lib.hid hy; have HX3 := Lib.hid (HX.out.later hk3); have HK3 := Lib.hid (HK2.out.trans hk3 fun _ h => .inl h); clear hy hk3))
    | (go_at_call 78; ((with_reducible refine (HE.out w3 px py HK3.out HX3.out HY.out).mono ?_); rintro e' w4 ⟨rfl, h4, hk4⟩; have H4 := Lib.hid h4; have HK4 := Lib.hid hk4; clear h4 hk4)))
  go_ret
  exact ⟨_, rfl, H4.out, (HK1.out.trans HK3.out fun _ h => .inl h).trans HK4.out fun k hk => .inr (by omega), Nat.le_refl _⟩

end Go.Proofs.YtnihfhfakadepaaGreatDoor
