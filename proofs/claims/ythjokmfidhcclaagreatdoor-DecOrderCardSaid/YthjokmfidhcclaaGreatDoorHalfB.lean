/- Package dec: a whole number divided by one, rounded: it is itself. -/
import Derived.Test.YthjokmfidhcclaaGreatDoorHalfA
import Derived.Test.YthjokmfidhcclaaGreatDoorWordW
namespace Go.Proofs.YthjokmfidhcclaaGreatDoor
open Go.RowKit

theorem gzero_int {w : World} {p : Nat} (h : GZero w p) : GInt w p 0 := ⟨.slice none 0 0, h, .inl ⟨rfl, digs_zero _⟩⟩
theorem GZero.later {w w' : World} {p : Nat} (h : GZero w p) (hk : Keeps (fun _ => False) w w') : GZero w' p := hk.blk h
theorem GInt.other {w w' : World} {p q : Nat} {n : Int} (h : GInt w p n) (hq : GZero w q) (hk : Keeps (fun k => k = q) w w') (hne : p ≠ q) : GInt w' p n := by
  obtain ⟨v, h1, h2⟩ := h
  exact ⟨v, (hk.block p (row_lt h1) hne).trans h1, Buf.kept h2 hk fun g hg hh => BN.ne h2 hq g hg hh⟩
theorem GInt.other2 {w w' : World} {p q r : Nat} {n : Int} (h : GInt w p n) (hq : GZero w q) (hr : GZero w r) (hk : Keeps (fun k => k = q ∨ k = r) w w') (hne : p ≠ q) (hne2 : p ≠ r) : GInt w' p n := by
  obtain ⟨v, h1, h2⟩ := h
  exact ⟨v, (hk.block p (row_lt h1) (by rintro (h | h); exact hne h; exact hne2 h)).trans h1, Buf.kept h2 hk fun g hg hh => by rcases hh with hh | hh; exact BN.ne h2 hq g hg hh; exact BN.ne h2 hr g hg hh⟩
theorem gzero_alloc (w : World) : GZero (w.alloc (.cells #[.bool false, .slice none 0 0] 40)) w.heap.size := heap_alloc_new _ _

set_option maxRecDepth 100000 in
set_option maxHeartbeats 4000000 in
theorem halfEven_one {w : World} {pn pd n : Nat} (hx : GInt w pn (n : Int)) (hy : GInt w pd 1) (hn : 0 < n) (hl : (digs 18446744073709551616 n).length ≤ 100) :
    Calls Tryz.prog 23 #[.pointer (some ⟨pn, 0, none⟩), .pointer (some ⟨pd, 0, none⟩)] w fun e w' => ∃ p, e = .returned (.pointer (some ⟨p, 0, none⟩)) ∧ GInt w' p (n : Int) ∧ Keeps (fun _ => False) w w' ∧ w.heap.size ≤ p := by
  obtain ⟨w1, hw1⟩ : ∃ w1, w.alloc (.cells #[.bool false, .slice none 0 0] 40) = w1 := ⟨_, rfl⟩
  obtain ⟨pz, hpz⟩ : ∃ pz, w.heap.size = pz := ⟨_, rfl⟩
  have hk1 : Keeps (fun _ => False) w w1 := by rw [← hw1]; exact (Keeps.refl _ _).alloc _
  have hz1 : GZero w1 pz := by rw [← hw1, ← hpz]; exact gzero_alloc _
  obtain ⟨w2, hw2⟩ : ∃ w2, w1.alloc (.cells #[.bool false, .slice none 0 0] 40) = w2 := ⟨_, rfl⟩
  obtain ⟨pr, hpr⟩ : ∃ pr, w1.heap.size = pr := ⟨_, rfl⟩
  have hk2 : Keeps (fun _ => False) w1 w2 := by rw [← hw2]; exact (Keeps.refl _ _).alloc _
  have hr2 : GZero w2 pr := by rw [← hw2, ← hpr]; exact gzero_alloc _
  have hz2 := hz1.later hk2
  have hx2 := (hx.later hk1).later hk2
  have hy2 := (hy.later hk1).later hk2
  have lx := gint_lt hx
  have ly := gint_lt hy
  have lz := gzero_lt hz1
  have HQ := Lib.hid (gQuoRem_one hz2 hr2 hx2 hy2 hn hl (by omega) (by omega) (by omega) (by omega) (by omega))
  have HL := Lib.hid (⟨by omega, by omega, by omega, by omega⟩ : pn ≠ pz ∧ pd ≠ pz ∧ pd ≠ pr ∧ pz ≠ pr)
  have HF := Lib.hid (show pd < w2.heap.size ∧ pz < w2.heap.size ∧ pr < w2.heap.size from ⟨gint_lt hy2, gzero_lt hz2, gzero_lt hr2⟩)
  have HK2 := Lib.hid (hk1.trans hk2 fun _ h => .inl h)
  have HY2 := Lib.hid hy2
  have HPZ := Lib.hid hpz; have HPR := Lib.hid hpr; have HK1 := Lib.hid hk1
  have HZ2 := Lib.hid hz2; have HR2 := Lib.hid hr2
  clear hk1 hz1 hk2 hr2 hz2 hx2 hy2 lx ly lz hx hy hn hl
  go_enter Tryz.func23, Tryz.ntmps23
  go_upto_region 2 with (go_at_call 31; ((with_reducible refine HQ.out.mono ?_); rintro e w3 ⟨rfl, hz3, hr3, hk3⟩; have HZ3 := Lib.hid hz3; have HR3 := Lib.hid hr3; have HK3 := Lib.hid hk3; clear hz3 hr3 hk3))
  have hy3 := HY2.out.other2 HZ2.out HR2.out HK3.out HL.out.2.1 HL.out.2.2.1
  have HY3 := Lib.hid hy3
  have HA := Lib.hid (gAbs_self HR3.out)
  have HS := Lib.hid (fun (W : World) (h : GZero W pr) => gLsh_self h)
  have HN := Lib.hid (fun (W : World) (h : GInt W pd 1) => (show Calls Tryz.prog 33 #[.pointer (some ⟨W.heap.size, 0, none⟩), .pointer (some ⟨pd, 0, none⟩)] (W.alloc (.cells #[.bool false, .slice none 0 0] 40)) (fun e w' => e = .returned (.pointer (some ⟨W.heap.size, 0, none⟩)) ∧ GInt w' W.heap.size 1 ∧ Keeps (fun k => k = W.heap.size) (W.alloc (.cells #[.bool false, .slice none 0 0] 40)) w') from gAbs_new (n := 1) (gzero_alloc W) (h.later ((Keeps.refl _ _).alloc _)) (by omega) (by rw [digs_one (by omega) (by omega)]; simp) (by have := gint_lt h; omega)))
  have HC := Lib.hid (fun (W : World) (p : Nat) (h : GZero W pr) (h1 : GInt W p 1) (hne : pr ≠ p) => gCmp_any (gzero_int h) h1 hne (by rw [show (0 : Int).natAbs = 0 from rfl, digs_zero]; simp))
  have hcm : cmpI 0 1 = -1 := by decide
  clear hw1 hw2 hpz hpr hy3
  go_upto_region 3 with (first
    | (go_at_call 33; ((with_reducible refine HA.out.mono ?_); rintro e w4 ⟨rfl, hr4, hk4⟩; have HZ4 := Lib.hid (HZ3.out.other HR3.out hk4 HL.out.2.2.2); have HY4 := Lib.hid (HY3.out.other HR3.out hk4 HL.out.2.2.1); have HR4 := Lib.hid hr4; have HK4 := Lib.hid hk4; clear hr4 hk4 HA))
    | (go_at_call 32; ((with_reducible refine (HS.out w4 HR4.out).mono ?_); rintro e w5 ⟨rfl, hr5, hk5⟩; have HZ5 := Lib.hid (HZ4.out.other HR4.out hk5 HL.out.2.2.2); have HY5 := Lib.hid (HY4.out.other HR4.out hk5 HL.out.2.2.1); have HR5 := Lib.hid hr5; have HK5 := Lib.hid hk5; clear hr5 hk5))
    | (go_at_call 33; ((with_reducible refine (HN.out w5 HY5.out).mono ?_); rintro e w6 ⟨rfl, hn6, hk6⟩; have HN6 := Lib.hid hn6; have HK6 := Lib.hid (((Keeps.refl (fun _ => False) w5).alloc (.cells #[.bool false, .slice none 0 0] 40)).trans hk6 fun k hk => .inr (by omega)); clear hn6 hk6))
    | (go_at_call 10; ((with_reducible refine (HC.out w6 w5.heap.size (HR5.out.later HK6.out) HN6.out (by have := gzero_lt HR5.out; omega)).mono ?_); rintro e w7 ⟨rfl, q, rfl⟩; rw [hcm])))
  go_wp2_with fail
  go_ret
  have s1 := HK1.out.size
  have kA : Keeps (fun k => k = pz ∨ k = pr) w2 w5 := (HK3.out.trans HK4.out fun _ h => .inl (.inr h)).trans HK5.out fun _ h => .inl (.inr h)
  have kB : Keeps (fun _ => False) w w5 := HK2.out.trans kA fun k h => .inr (by have := HPZ.out; have := HPR.out; omega)
  exact ⟨pz, rfl, (HZ5.out.later HK6.out).later ((Keeps.refl _ _).drewN q), (kB.trans HK6.out fun _ h => .inl h).drewN q, by have := HPZ.out; omega⟩

end Go.Proofs.YthjokmfidhcclaaGreatDoor
