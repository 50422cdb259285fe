/- Package logic: is a value the same as another one? -/
import Derived.Test.YtnihfhfakadepaaGreatDoorXLessA
namespace Go.Proofs.YtnihfhfakadepaaGreatDoor
open Go.RowKit

set_option maxRecDepth 100000 in
set_option maxHeartbeats 8000000 in
theorem equal_any {w : World} (a b : Val) (ha : ∃ A n c, a.lv = .slice A n c) (hb : ∃ A n c, b.lv = .slice A n c) (h1 : 1 ≤ b.kind) (h4 : b.kind ≤ 4) :
    Hands 25 #[.agg a.cells.toArray, .agg b.cells.toArray] w (hC (eqH a b)) := by
  unfold Hands
  obtain ⟨ka, ya, da, ta, la, ea⟩ := a
  obtain ⟨kb, yb, db, tb, lb, eb⟩ := b
  obtain ⟨Aa, na, ca, hla⟩ := ha
  obtain ⟨Ab, nb, cb, hlb⟩ := hb
  simp only [Val.lv] at hla hlb
  subst hla hlb
  have HR := Lib.hid (show eqH (.mk ka ya da ta (.slice Aa na ca) ea) (.mk kb yb db tb (.slice Ab nb cb) eb) = if ka ≠ kb then (if ka = 1 ∨ kb = 1 then 0 else 1) else if ka = 2 then (if ya = yb then 2 else 0) else if ka = 3 then (if da.coef = db.coef ∧ da.exp = db.exp then 2 else 0) else if ka = 4 then (if ta.toList = tb.toList then 2 else 0) else 2 from rfl)
  generalize eqH (.mk ka ya da ta (.slice Aa na ca) ea) (.mk kb yb db tb (.slice Ab nb cb) eb) = R at *
  simp only [Val.kind] at h1 h4
  simp only [Val.cells]
  obtain ⟨w2, pa, pb, p, e2, epa, epb, ep, k2, ba, bb, bp⟩ := three_boxes w #[.int .i64 ka, .bool ya, .int .i64 da.coef, .int .i64 da.exp, .string ta, .slice Aa na ca] #[.int .i64 kb, .bool yb, .int .i64 db.coef, .int .i64 db.exp, .string tb, .slice Ab nb cb]
  have HN := Lib.hid (fun W : World => null_lit (w := W))
  have HB := Lib.hid (fun (W : World) (b : Bool) => bool_lit (w := W) b)
  have K2 := Lib.hid k2; have BP := Lib.hid bp; have HPL := Lib.hid (show w.heap.size ≤ p by omega)
  have HEP := Lib.hid (And.intro e2 (And.intro epa (And.intro epb ep)))
  obtain ⟨y0, y1, y2, y3, y4, y5, yf⟩ := cells6 ba
  obtain ⟨x0, x1, x2, x3, x4, x5, xf⟩ := cells6 bb
  clear k2 ba bb bp yf xf
  have NY := Lib.hid (show R = 1 → Ending.returned (.agg #[.int .i64 1, .bool false, .int .i64 0, .int .i64 0, .string ⟨#[]⟩, .slice none 0 0]) = .returned (.agg (hC R)) from fun h => by rw [h]; rfl)
  have BY := Lib.hid (show ∀ b : Bool, R = (if b = true then 2 else 0) → Ending.returned (.agg #[.int .i64 2, .bool b, .int .i64 0, .int .i64 0, .string ⟨#[]⟩, .slice none 0 0]) = .returned (.agg (hC R)) from fun b h => by rw [h, half_bool])
  by_cases hkk : ka = kb
  · subst hkk
    have HR1 := Lib.hid (HR.out.trans (if_neg (by simp)))
    clear HR
    rcases (show ka = 1 ∨ ka = 2 ∨ ka = 3 ∨ ka = 4 by omega) with rfl | rfl | rfl | rfl
    · skip
      have HY := Lib.hid (BY.out true (HR1.out))
      clear BY NY HR1
      go_enter Tryz.func25, Tryz.ntmps25
      go_wp2_with (go_at_call 29; ((with_reducible refine (HB.out _ _).mono ?_); rintro e w4 ⟨rfl, hk⟩; have K4 := Lib.hid ((Keeps.refl (fun _ => False) w2).trans hk fun _ h => .inl h); clear hk; have hb9 := K4.out.blk BP.out; (obtain ⟨z0, z1, z2, z3, z4, z5, zf⟩ := cells6 hb9); have zl := row_lt hb9; (obtain ⟨wf, hwf, hfb, hfk⟩ := put6 (v0 := .int .i64 2) (v1 := .bool true) (v2 := .int .i64 0) (v3 := .int .i64 0) (v4 := .string ⟨#[]⟩) (v5 := .slice none 0 0) hb9); (obtain ⟨q0, q1, q2, q3, q4, q5, qf⟩ := cells6 hfb); clear hb9))
      (try simp only [Exit.inBlock, Exit.then])
      refine bodyPost_ret (v := .agg #[.int .i64 2, .bool true, .int .i64 0, .int .i64 0, .string ⟨#[]⟩, .slice none 0 0]) (by simp [results, Tryz.results25, go_sem, q0, q1, q2, q3, q4, q5]) rfl ?_
      exact ⟨HY.out, handed K2.out K4.out hfk HPL.out⟩
    · have HR2 := Lib.hid (show R = if ya = yb then 2 else 0 from HR1.out)
      cases ya <;> cases yb
      · skip
        have HY := Lib.hid (BY.out true (HR2.out))
        clear BY NY HR2
        go_enter Tryz.func25, Tryz.ntmps25
        go_wp2_with (go_at_call 29; ((with_reducible refine (HB.out _ _).mono ?_); rintro e w4 ⟨rfl, hk⟩; have K4 := Lib.hid ((Keeps.refl (fun _ => False) w2).trans hk fun _ h => .inl h); clear hk; have hb9 := K4.out.blk BP.out; (obtain ⟨z0, z1, z2, z3, z4, z5, zf⟩ := cells6 hb9); have zl := row_lt hb9; (obtain ⟨wf, hwf, hfb, hfk⟩ := put6 (v0 := .int .i64 2) (v1 := .bool true) (v2 := .int .i64 0) (v3 := .int .i64 0) (v4 := .string ⟨#[]⟩) (v5 := .slice none 0 0) hb9); (obtain ⟨q0, q1, q2, q3, q4, q5, qf⟩ := cells6 hfb); clear hb9))
        (try simp only [Exit.inBlock, Exit.then])
        refine bodyPost_ret (v := .agg #[.int .i64 2, .bool true, .int .i64 0, .int .i64 0, .string ⟨#[]⟩, .slice none 0 0]) (by simp [results, Tryz.results25, go_sem, q0, q1, q2, q3, q4, q5]) rfl ?_
        exact ⟨HY.out, handed K2.out K4.out hfk HPL.out⟩
      · skip
        have HY := Lib.hid (BY.out false (HR2.out))
        clear BY NY HR2
        go_enter Tryz.func25, Tryz.ntmps25
        go_wp2_with (go_at_call 29; ((with_reducible refine (HB.out _ _).mono ?_); rintro e w4 ⟨rfl, hk⟩; have K4 := Lib.hid ((Keeps.refl (fun _ => False) w2).trans hk fun _ h => .inl h); clear hk; have hb9 := K4.out.blk BP.out; (obtain ⟨z0, z1, z2, z3, z4, z5, zf⟩ := cells6 hb9); have zl := row_lt hb9; (obtain ⟨wf, hwf, hfb, hfk⟩ := put6 (v0 := .int .i64 2) (v1 := .bool false) (v2 := .int .i64 0) (v3 := .int .i64 0) (v4 := .string ⟨#[]⟩) (v5 := .slice none 0 0) hb9); (obtain ⟨q0, q1, q2, q3, q4, q5, qf⟩ := cells6 hfb); clear hb9))
        (try simp only [Exit.inBlock, Exit.then])
        refine bodyPost_ret (v := .agg #[.int .i64 2, .bool false, .int .i64 0, .int .i64 0, .string ⟨#[]⟩, .slice none 0 0]) (by simp [results, Tryz.results25, go_sem, q0, q1, q2, q3, q4, q5]) rfl ?_
        exact ⟨HY.out, handed K2.out K4.out hfk HPL.out⟩
      · skip
        have HY := Lib.hid (BY.out false (HR2.out))
        clear BY NY HR2
        go_enter Tryz.func25, Tryz.ntmps25
        go_wp2_with (go_at_call 29; ((with_reducible refine (HB.out _ _).mono ?_); rintro e w4 ⟨rfl, hk⟩; have K4 := Lib.hid ((Keeps.refl (fun _ => False) w2).trans hk fun _ h => .inl h); clear hk; have hb9 := K4.out.blk BP.out; (obtain ⟨z0, z1, z2, z3, z4, z5, zf⟩ := cells6 hb9); have zl := row_lt hb9; (obtain ⟨wf, hwf, hfb, hfk⟩ := put6 (v0 := .int .i64 2) (v1 := .bool false) (v2 := .int .i64 0) (v3 := .int .i64 0) (v4 := .string ⟨#[]⟩) (v5 := .slice none 0 0) hb9); (obtain ⟨q0, q1, q2, q3, q4, q5, qf⟩ := cells6 hfb); clear hb9))
        (try simp only [Exit.inBlock, Exit.then])
        refine bodyPost_ret (v := .agg #[.int .i64 2, .bool false, .int .i64 0, .int .i64 0, .string ⟨#[]⟩, .slice none 0 0]) (by simp [results, Tryz.results25, go_sem, q0, q1, q2, q3, q4, q5]) rfl ?_
        exact ⟨HY.out, handed K2.out K4.out hfk HPL.out⟩
      · skip
        have HY := Lib.hid (BY.out true (HR2.out))
        clear BY NY HR2
        go_enter Tryz.func25, Tryz.ntmps25
        go_wp2_with (go_at_call 29; ((with_reducible refine (HB.out _ _).mono ?_); rintro e w4 ⟨rfl, hk⟩; have K4 := Lib.hid ((Keeps.refl (fun _ => False) w2).trans hk fun _ h => .inl h); clear hk; have hb9 := K4.out.blk BP.out; (obtain ⟨z0, z1, z2, z3, z4, z5, zf⟩ := cells6 hb9); have zl := row_lt hb9; (obtain ⟨wf, hwf, hfb, hfk⟩ := put6 (v0 := .int .i64 2) (v1 := .bool true) (v2 := .int .i64 0) (v3 := .int .i64 0) (v4 := .string ⟨#[]⟩) (v5 := .slice none 0 0) hb9); (obtain ⟨q0, q1, q2, q3, q4, q5, qf⟩ := cells6 hfb); clear hb9))
        (try simp only [Exit.inBlock, Exit.then])
        refine bodyPost_ret (v := .agg #[.int .i64 2, .bool true, .int .i64 0, .int .i64 0, .string ⟨#[]⟩, .slice none 0 0]) (by simp [results, Tryz.results25, go_sem, q0, q1, q2, q3, q4, q5]) rfl ?_
        exact ⟨HY.out, handed K2.out K4.out hfk HPL.out⟩
    · have HR2 := Lib.hid (show R = if da.coef = db.coef ∧ da.exp = db.exp then 2 else 0 from HR1.out)
      obtain ⟨ca1, xa1⟩ := da
      obtain ⟨cb1, xb1⟩ := db
      simp only at HR2 y2 y3 x2 x3 e2
      by_cases hc : ca1 = cb1
      · subst hc
        by_cases hx : xa1 = xb1
        · subst hx
          have HY := Lib.hid (BY.out true (HR2.out.trans (if_pos ⟨rfl, rfl⟩)))
          clear BY NY HR2
          go_enter Tryz.func25, Tryz.ntmps25
          go_wp2_with (go_at_call 29; ((with_reducible refine (HB.out _ _).mono ?_); rintro e w4 ⟨rfl, hk⟩; have K4 := Lib.hid ((Keeps.refl (fun _ => False) w2).trans hk fun _ h => .inl h); clear hk; have hb9 := K4.out.blk BP.out; (obtain ⟨z0, z1, z2, z3, z4, z5, zf⟩ := cells6 hb9); have zl := row_lt hb9; (obtain ⟨wf, hwf, hfb, hfk⟩ := put6 (v0 := .int .i64 2) (v1 := .bool true) (v2 := .int .i64 0) (v3 := .int .i64 0) (v4 := .string ⟨#[]⟩) (v5 := .slice none 0 0) hb9); (obtain ⟨q0, q1, q2, q3, q4, q5, qf⟩ := cells6 hfb); clear hb9))
          (try simp only [Exit.inBlock, Exit.then])
          refine bodyPost_ret (v := .agg #[.int .i64 2, .bool true, .int .i64 0, .int .i64 0, .string ⟨#[]⟩, .slice none 0 0]) (by simp [results, Tryz.results25, go_sem, q0, q1, q2, q3, q4, q5]) rfl ?_
          exact ⟨HY.out, handed K2.out K4.out hfk HPL.out⟩
        · skip
          have HY := Lib.hid (BY.out false (HR2.out.trans (if_neg (fun h => hx h.2))))
          clear BY NY HR2
          go_enter Tryz.func25, Tryz.ntmps25
          go_wp2_with (go_at_call 29; ((with_reducible refine (HB.out _ _).mono ?_); rintro e w4 ⟨rfl, hk⟩; have K4 := Lib.hid ((Keeps.refl (fun _ => False) w2).trans hk fun _ h => .inl h); clear hk; have hb9 := K4.out.blk BP.out; (obtain ⟨z0, z1, z2, z3, z4, z5, zf⟩ := cells6 hb9); have zl := row_lt hb9; (obtain ⟨wf, hwf, hfb, hfk⟩ := put6 (v0 := .int .i64 2) (v1 := .bool false) (v2 := .int .i64 0) (v3 := .int .i64 0) (v4 := .string ⟨#[]⟩) (v5 := .slice none 0 0) hb9); (obtain ⟨q0, q1, q2, q3, q4, q5, qf⟩ := cells6 hfb); clear hb9))
          (try simp only [Exit.inBlock, Exit.then])
          refine bodyPost_ret (v := .agg #[.int .i64 2, .bool false, .int .i64 0, .int .i64 0, .string ⟨#[]⟩, .slice none 0 0]) (by simp [results, Tryz.results25, go_sem, q0, q1, q2, q3, q4, q5]) rfl ?_
          exact ⟨HY.out, handed K2.out K4.out hfk HPL.out⟩
      · skip
        have HY := Lib.hid (BY.out false (HR2.out.trans (if_neg (fun h => hc h.1))))
        clear BY NY HR2
        go_enter Tryz.func25, Tryz.ntmps25
        go_wp2_with (go_at_call 29; ((with_reducible refine (HB.out _ _).mono ?_); rintro e w4 ⟨rfl, hk⟩; have K4 := Lib.hid ((Keeps.refl (fun _ => False) w2).trans hk fun _ h => .inl h); clear hk; have hb9 := K4.out.blk BP.out; (obtain ⟨z0, z1, z2, z3, z4, z5, zf⟩ := cells6 hb9); have zl := row_lt hb9; (obtain ⟨wf, hwf, hfb, hfk⟩ := put6 (v0 := .int .i64 2) (v1 := .bool false) (v2 := .int .i64 0) (v3 := .int .i64 0) (v4 := .string ⟨#[]⟩) (v5 := .slice none 0 0) hb9); (obtain ⟨q0, q1, q2, q3, q4, q5, qf⟩ := cells6 hfb); clear hb9))
        (try simp only [Exit.inBlock, Exit.then])
        refine bodyPost_ret (v := .agg #[.int .i64 2, .bool false, .int .i64 0, .int .i64 0, .string ⟨#[]⟩, .slice none 0 0]) (by simp [results, Tryz.results25, go_sem, q0, q1, q2, q3, q4, q5]) rfl ?_
        exact ⟨HY.out, handed K2.out K4.out hfk HPL.out⟩
    · have HR2 := Lib.hid (show R = if ta.toList = tb.toList then 2 else 0 from HR1.out)
      by_cases hc : ta.toList = tb.toList
      · have hbe : (ta.toList == tb.toList) = true := by simpa using hc
        have HY := Lib.hid (BY.out true (HR2.out.trans (if_pos hc)))
        clear BY NY HR2 hc
        go_enter Tryz.func25, Tryz.ntmps25
        go_wp2_with (go_at_call 29; ((with_reducible refine (HB.out _ _).mono ?_); rintro e w4 ⟨rfl, hk⟩; have K4 := Lib.hid ((Keeps.refl (fun _ => False) w2).trans hk fun _ h => .inl h); clear hk; have hb9 := K4.out.blk BP.out; (obtain ⟨z0, z1, z2, z3, z4, z5, zf⟩ := cells6 hb9); have zl := row_lt hb9; (obtain ⟨wf, hwf, hfb, hfk⟩ := put6 (v0 := .int .i64 2) (v1 := .bool true) (v2 := .int .i64 0) (v3 := .int .i64 0) (v4 := .string ⟨#[]⟩) (v5 := .slice none 0 0) hb9); (obtain ⟨q0, q1, q2, q3, q4, q5, qf⟩ := cells6 hfb); clear hb9))
        (try simp only [Exit.inBlock, Exit.then])
        refine bodyPost_ret (v := .agg #[.int .i64 2, .bool true, .int .i64 0, .int .i64 0, .string ⟨#[]⟩, .slice none 0 0]) (by simp [results, Tryz.results25, go_sem, q0, q1, q2, q3, q4, q5]) rfl ?_
        exact ⟨HY.out, handed K2.out K4.out hfk HPL.out⟩
      · have hbe : (ta.toList == tb.toList) = false := by simpa using hc
        have HY := Lib.hid (BY.out false (HR2.out.trans (if_neg hc)))
        clear BY NY HR2 hc
        go_enter Tryz.func25, Tryz.ntmps25
        go_wp2_with (go_at_call 29; ((with_reducible refine (HB.out _ _).mono ?_); rintro e w4 ⟨rfl, hk⟩; have K4 := Lib.hid ((Keeps.refl (fun _ => False) w2).trans hk fun _ h => .inl h); clear hk; have hb9 := K4.out.blk BP.out; (obtain ⟨z0, z1, z2, z3, z4, z5, zf⟩ := cells6 hb9); have zl := row_lt hb9; (obtain ⟨wf, hwf, hfb, hfk⟩ := put6 (v0 := .int .i64 2) (v1 := .bool false) (v2 := .int .i64 0) (v3 := .int .i64 0) (v4 := .string ⟨#[]⟩) (v5 := .slice none 0 0) hb9); (obtain ⟨q0, q1, q2, q3, q4, q5, qf⟩ := cells6 hfb); clear hb9))
        (try simp only [Exit.inBlock, Exit.then])
        refine bodyPost_ret (v := .agg #[.int .i64 2, .bool false, .int .i64 0, .int .i64 0, .string ⟨#[]⟩, .slice none 0 0]) (by simp [results, Tryz.results25, go_sem, q0, q1, q2, q3, q4, q5]) rfl ?_
        exact ⟨HY.out, handed K2.out K4.out hfk HPL.out⟩
  · have HR1 := Lib.hid (HR.out.trans (if_pos hkk))
    have e5 : (ka != kb) = true := by simpa using hkk
    clear HR
    by_cases h1a : ka = 1
    · subst h1a
      have HY := Lib.hid (BY.out false (HR1.out.trans (if_pos (.inl rfl))))
      clear BY NY HR1 hkk
      go_enter Tryz.func25, Tryz.ntmps25
      go_wp2_with (go_at_call 29; ((with_reducible refine (HB.out _ _).mono ?_); rintro e w4 ⟨rfl, hk⟩; have K4 := Lib.hid ((Keeps.refl (fun _ => False) w2).trans hk fun _ h => .inl h); clear hk; have hb9 := K4.out.blk BP.out; (obtain ⟨z0, z1, z2, z3, z4, z5, zf⟩ := cells6 hb9); have zl := row_lt hb9; (obtain ⟨wf, hwf, hfb, hfk⟩ := put6 (v0 := .int .i64 2) (v1 := .bool false) (v2 := .int .i64 0) (v3 := .int .i64 0) (v4 := .string ⟨#[]⟩) (v5 := .slice none 0 0) hb9); (obtain ⟨q0, q1, q2, q3, q4, q5, qf⟩ := cells6 hfb); clear hb9))
      (try simp only [Exit.inBlock, Exit.then])
      refine bodyPost_ret (v := .agg #[.int .i64 2, .bool false, .int .i64 0, .int .i64 0, .string ⟨#[]⟩, .slice none 0 0]) (by simp [results, Tryz.results25, go_sem, q0, q1, q2, q3, q4, q5]) rfl ?_
      exact ⟨HY.out, handed K2.out K4.out hfk HPL.out⟩
    · have e7 : (ka == 1) = false := by simpa using h1a
      by_cases h1b : kb = 1
      · subst h1b
        have HY := Lib.hid (BY.out false (HR1.out.trans (if_pos (.inr rfl))))
        clear BY NY HR1 hkk h1a
        go_enter Tryz.func25, Tryz.ntmps25
        go_wp2_with (go_at_call 29; ((with_reducible refine (HB.out _ _).mono ?_); rintro e w4 ⟨rfl, hk⟩; have K4 := Lib.hid ((Keeps.refl (fun _ => False) w2).trans hk fun _ h => .inl h); clear hk; have hb9 := K4.out.blk BP.out; (obtain ⟨z0, z1, z2, z3, z4, z5, zf⟩ := cells6 hb9); have zl := row_lt hb9; (obtain ⟨wf, hwf, hfb, hfk⟩ := put6 (v0 := .int .i64 2) (v1 := .bool false) (v2 := .int .i64 0) (v3 := .int .i64 0) (v4 := .string ⟨#[]⟩) (v5 := .slice none 0 0) hb9); (obtain ⟨q0, q1, q2, q3, q4, q5, qf⟩ := cells6 hfb); clear hb9))
        (try simp only [Exit.inBlock, Exit.then])
        refine bodyPost_ret (v := .agg #[.int .i64 2, .bool false, .int .i64 0, .int .i64 0, .string ⟨#[]⟩, .slice none 0 0]) (by simp [results, Tryz.results25, go_sem, q0, q1, q2, q3, q4, q5]) rfl ?_
        exact ⟨HY.out, handed K2.out K4.out hfk HPL.out⟩
      · have e8 : (kb == 1) = false := by simpa using h1b
        have HY := Lib.hid (NY.out (HR1.out.trans (if_neg (by omega))))
        clear BY NY HR1 hkk h1a h1b
        go_enter Tryz.func25, Tryz.ntmps25
        go_wp2_with (go_at_call 42; ((with_reducible refine (HN.out _).mono ?_); rintro e w4 ⟨rfl, hk⟩; have K4 := Lib.hid ((Keeps.refl (fun _ => False) w2).trans hk fun _ h => .inl h); clear hk; have hb9 := K4.out.blk BP.out; (obtain ⟨z0, z1, z2, z3, z4, z5, zf⟩ := cells6 hb9); have zl := row_lt hb9; (obtain ⟨wf, hwf, hfb, hfk⟩ := put6 (v0 := .int .i64 1) (v1 := .bool false) (v2 := .int .i64 0) (v3 := .int .i64 0) (v4 := .string ⟨#[]⟩) (v5 := .slice none 0 0) hb9); (obtain ⟨q0, q1, q2, q3, q4, q5, qf⟩ := cells6 hfb); clear hb9))
        (try simp only [Exit.inBlock, Exit.then])
        refine bodyPost_ret (v := .agg #[.int .i64 1, .bool false, .int .i64 0, .int .i64 0, .string ⟨#[]⟩, .slice none 0 0]) (by simp [results, Tryz.results25, go_sem, q0, q1, q2, q3, q4, q5]) rfl ?_
        exact ⟨HY.out, handed K2.out K4.out hfk HPL.out⟩

end Go.Proofs.YtnihfhfakadepaaGreatDoor
