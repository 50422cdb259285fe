/- Package logic: is a value less than another one? -/
import Derived.Test.YtnihfhfakadepaaGreatDoorXLogA
import Derived.Test.YtnihfhfakadepaaGreatDoorXDoesP
namespace Go.Proofs.YtnihfhfakadepaaGreatDoor
open Go.RowKit

theorem bool_lit {w : World} (b : Bool) : Calls Tryz.prog 29 #[.bool b] w fun e w' => e = .returned (.agg #[.int .i64 2, .bool b, .int .i64 0, .int .i64 0, .string ⟨#[]⟩, .slice none 0 0]) ∧ Keeps (fun _ => False) w w' := by
  have := bool_any (w := w) b
  rw [half_bool] at this
  exact this
theorem null_lit {w : World} : Calls Tryz.prog 42 #[] w fun e w' => e = .returned (.agg #[.int .i64 1, .bool false, .int .i64 0, .int .i64 0, .string ⟨#[]⟩, .slice none 0 0]) ∧ Keeps (fun _ => False) w w' := null_any

/-- Three boxes: two arguments and a result. -/
theorem three_boxes (w : World) (ca cb : Array Value) : ∃ w2 pa pb p, (((w.alloc (.cells ca 26)).alloc (.cells cb 26)).alloc (.cells zero6 26)) = w2 ∧ w.heap.size = pa ∧ pa + 1 = pb ∧ pb + 1 = p ∧ Keeps (fun _ => False) w w2 ∧ w2.heap[pa]? = some (.cells ca 26 (0, 0)) ∧ w2.heap[pb]? = some (.cells cb 26 (0, 0)) ∧ w2.heap[p]? = some (.cells zero6 26 (0, 0)) := by
  have k1 : Keeps (fun _ => False) w (w.alloc (.cells ca 26)) := (Keeps.refl _ _).alloc _
  have k2 : Keeps (fun _ => False) (w.alloc (.cells ca 26)) ((w.alloc (.cells ca 26)).alloc (.cells cb 26)) := (Keeps.refl _ _).alloc _
  have k3 : Keeps (fun _ => False) ((w.alloc (.cells ca 26)).alloc (.cells cb 26)) (((w.alloc (.cells ca 26)).alloc (.cells cb 26)).alloc (.cells zero6 26)) := (Keeps.refl _ _).alloc _
  have a := heap_alloc_new w (.cells ca 26)
  have b := heap_alloc_new (w.alloc (.cells ca 26)) (.cells cb 26)
  have c := heap_alloc_new ((w.alloc (.cells ca 26)).alloc (.cells cb 26)) (.cells zero6 26)
  have s1 : (w.alloc (.cells ca 26)).heap.size = w.heap.size + 1 := by simp
  have s2 : ((w.alloc (.cells ca 26)).alloc (.cells cb 26)).heap.size = w.heap.size + 1 + 1 := by simp
  rw [s1] at b
  rw [s2] at c
  exact ⟨_, _, _, _, rfl, rfl, rfl, rfl, (k1.trans k2 fun _ h => .inl h).trans k3 fun _ h => .inl h, k3.blk (k2.blk a), k3.blk b, c⟩

/-- What is stored in a result's box, and handed back. -/
theorem handed {w w2 w3 wf : World} {p : Nat} (k2 : Keeps (fun _ => False) w w2) (k3 : Keeps (fun _ => False) w2 w3) (hfk : Keeps (fun k => k = p) w3 wf) (hp : w.heap.size ≤ p) : Keeps (fun _ => False) w wf :=
  (k2.trans k3 fun _ h => .inl h).trans hfk fun k e => .inr (by omega)

set_option maxRecDepth 100000 in
set_option maxHeartbeats 8000000 in
theorem less_any {w : World} (ht : Thr w) (a b : Val) (ha : ∃ A n c, a.lv = .slice A n c) (hb : ∃ A n c, b.lv = .slice A n c) :
    Hands 26 #[.agg a.cells.toArray, .agg b.cells.toArray] w (hC (lessH a b)) := by
  unfold Hands
  obtain ⟨ka, ya, da, ta, la, ea⟩ := a
  obtain ⟨kb, yb, db, tb, lb, eb⟩ := b
  obtain ⟨Aa, na, ca, hla⟩ := ha
  obtain ⟨Ab, nb, cb, hlb⟩ := hb
  simp only [Val.lv] at hla hlb
  subst hla hlb
  have HR := Lib.hid (show lessH (.mk ka ya da ta (.slice Aa na ca) ea) (.mk kb yb db tb (.slice Ab nb cb) eb) = if ka = 3 ∧ kb = 3 then (if (cmpE da db).2 ≠ 0 then 1 else if (cmpE da db).1 < 0 then 2 else 0) else if ka = 4 ∧ kb = 4 then (if Op.bytesLess ta.toList tb.toList = true then 2 else 0) else 1 from rfl)
  generalize lessH (.mk ka ya da ta (.slice Aa na ca) ea) (.mk kb yb db tb (.slice Ab nb cb) eb) = R at *
  simp only [Val.cells]
  obtain ⟨w2, pa, pb, p, e2, epa, epb, ep, k2, ba, bb, bp⟩ := three_boxes w #[.int .i64 ka, .bool ya, .int .i64 da.coef, .int .i64 da.exp, .string ta, .slice Aa na ca] #[.int .i64 kb, .bool yb, .int .i64 db.coef, .int .i64 db.exp, .string tb, .slice Ab nb cb]
  have HC := Lib.hid (fun (W : World) (hk : Keeps (fun _ => False) w2 W) => decCmp_any (w := W) ((ht.later k2).later hk) da db)
  have HN := Lib.hid (fun W : World => null_lit (w := W))
  have HB := Lib.hid (fun (W : World) (b : Bool) => bool_lit (w := W) b)
  have K2 := Lib.hid k2; have BP := Lib.hid bp; have HPL := Lib.hid (show w.heap.size ≤ p by omega)
  have HEP := Lib.hid (And.intro e2 (And.intro epa (And.intro epb ep)))
  obtain ⟨y0, y1, y2, y3, y4, y5, yf⟩ := cells6 ba
  obtain ⟨x0, x1, x2, x3, x4, x5, xf⟩ := cells6 bb
  clear k2 ba bb bp ht yf xf
  have NY := Lib.hid (show R = 1 → Ending.returned (.agg #[.int .i64 1, .bool false, .int .i64 0, .int .i64 0, .string ⟨#[]⟩, .slice none 0 0]) = .returned (.agg (hC R)) from fun h => by rw [h]; rfl)
  have BY := Lib.hid (show ∀ b : Bool, R = (if b = true then 2 else 0) → Ending.returned (.agg #[.int .i64 2, .bool b, .int .i64 0, .int .i64 0, .string ⟨#[]⟩, .slice none 0 0]) = .returned (.agg (hC R)) from fun b h => by rw [h, half_bool])
  rcases (show ka = 3 ∨ ka = 4 ∨ (ka ≠ 3 ∧ ka ≠ 4) by omega) with rfl | rfl | ⟨k3, k4⟩
  · rcases (show kb = 3 ∨ kb ≠ 3 by omega) with rfl | h3
    · have HR1 := Lib.hid (HR.out.trans (if_pos ⟨rfl, rfl⟩))
      generalize hcc : cmpE da db = cc at *
      clear hcc HR
      obtain ⟨c1, c2⟩ := cc
      simp only at HR1 HC
      by_cases hc2 : c2 = 0
      · subst hc2
        have HY := Lib.hid (BY.out (decide (c1 < 0)) (by rw [HR1.out, if_neg (by simp)]; simp))
        clear HR1 BY NY
        generalize hbb : decide (c1 < 0) = bb at *
        go_enter Tryz.func26, Tryz.ntmps26
        go_wp2_with (first | (go_at_call 34; ((with_reducible refine (HC.out _ (Keeps.refl _ _)).mono ?_); rintro e w3 ⟨rfl, hk⟩; have K3 := Lib.hid hk; clear hk y0 y1 y2 y3 y4 y5 x0 x1 x2 x3 x4 x5)) | (go_at_call 29; ((with_reducible refine (HB.out _ _).mono ?_); rintro e w4 ⟨rfl, hk⟩; have K4 := Lib.hid (K3.out.trans hk fun _ h => .inl h); clear hk; have hb9 := K4.out.blk BP.out; (obtain ⟨z0, z1, z2, z3, z4, z5, zf⟩ := cells6 hb9); have zl := row_lt hb9; (obtain ⟨wf, hwf, hfb, hfk⟩ := put6 (v0 := .int .i64 2) (v1 := .bool bb) (v2 := .int .i64 0) (v3 := .int .i64 0) (v4 := .string ⟨#[]⟩) (v5 := .slice none 0 0) hb9); (obtain ⟨q0, q1, q2, q3, q4, q5, qf⟩ := cells6 hfb); clear hb9)))
        (try simp only [Exit.inBlock, Exit.then])
        refine bodyPost_ret (v := .agg #[.int .i64 2, .bool bb, .int .i64 0, .int .i64 0, .string ⟨#[]⟩, .slice none 0 0]) (by simp [results, Tryz.results26, go_sem, q0, q1, q2, q3, q4, q5]) rfl ?_
        exact ⟨HY.out, handed K2.out K4.out hfk HPL.out⟩
      · have hne : (c2 != 0) = true := by simpa using hc2
        have HY := Lib.hid (NY.out (HR1.out.trans (if_pos hc2)))
        clear HR1 BY NY
        go_enter Tryz.func26, Tryz.ntmps26
        go_wp2_with (first | (go_at_call 34; ((with_reducible refine (HC.out _ (Keeps.refl _ _)).mono ?_); rintro e w3 ⟨rfl, hk⟩; have K3 := Lib.hid hk; clear hk y0 y1 y2 y3 y4 y5 x0 x1 x2 x3 x4 x5)) | (go_at_call 42; ((with_reducible refine (HN.out _).mono ?_); rintro e w4 ⟨rfl, hk⟩; have K4 := Lib.hid (K3.out.trans hk fun _ h => .inl h); clear hk; have hb9 := K4.out.blk BP.out; (obtain ⟨z0, z1, z2, z3, z4, z5, zf⟩ := cells6 hb9); have zl := row_lt hb9; (obtain ⟨wf, hwf, hfb, hfk⟩ := put6 (v0 := .int .i64 1) (v1 := .bool false) (v2 := .int .i64 0) (v3 := .int .i64 0) (v4 := .string ⟨#[]⟩) (v5 := .slice none 0 0) hb9); (obtain ⟨q0, q1, q2, q3, q4, q5, qf⟩ := cells6 hfb); clear hb9)))
        (try simp only [Exit.inBlock, Exit.then])
        refine bodyPost_ret (v := .agg #[.int .i64 1, .bool false, .int .i64 0, .int .i64 0, .string ⟨#[]⟩, .slice none 0 0]) (by simp [results, Tryz.results26, go_sem, q0, q1, q2, q3, q4, q5]) rfl ?_
        exact ⟨HY.out, handed K2.out K4.out hfk HPL.out⟩
    · have e3 : (kb == 3) = false := by simpa using h3
      have HY := Lib.hid (NY.out (HR.out.trans (by rw [if_neg (fun h => h3 h.2), if_neg (fun h => by have := h.1; omega)])))
      clear HR BY NY h3
      go_enter Tryz.func26, Tryz.ntmps26
      go_wp2_with (go_at_call 42; ((with_reducible refine (HN.out _).mono ?_); rintro e w4 ⟨rfl, hk⟩; have K4 := Lib.hid ((Keeps.refl (fun _ => False) w2).trans hk fun _ h => .inl h); clear hk; have hb9 := K4.out.blk BP.out; (obtain ⟨z0, z1, z2, z3, z4, z5, zf⟩ := cells6 hb9); have zl := row_lt hb9; (obtain ⟨wf, hwf, hfb, hfk⟩ := put6 (v0 := .int .i64 1) (v1 := .bool false) (v2 := .int .i64 0) (v3 := .int .i64 0) (v4 := .string ⟨#[]⟩) (v5 := .slice none 0 0) hb9); (obtain ⟨q0, q1, q2, q3, q4, q5, qf⟩ := cells6 hfb); clear hb9))
      (try simp only [Exit.inBlock, Exit.then])
      refine bodyPost_ret (v := .agg #[.int .i64 1, .bool false, .int .i64 0, .int .i64 0, .string ⟨#[]⟩, .slice none 0 0]) (by simp [results, Tryz.results26, go_sem, q0, q1, q2, q3, q4, q5]) rfl ?_
      exact ⟨HY.out, handed K2.out K4.out hfk HPL.out⟩
  · rcases (show kb = 4 ∨ kb ≠ 4 by omega) with rfl | h4
    · have HY := Lib.hid (BY.out (Op.bytesLess ta.toList tb.toList) (HR.out.trans (by rw [if_neg (fun h => by have := h.1; omega), if_pos ⟨rfl, rfl⟩])))
      clear HR BY NY
      generalize hbb : Op.bytesLess ta.toList tb.toList = bb at *
      go_enter Tryz.func26, Tryz.ntmps26
      go_wp2_with (go_at_call 29; ((with_reducible refine (HB.out _ _).mono ?_); rintro e w4 ⟨rfl, hk⟩; have K4 := Lib.hid ((Keeps.refl (fun _ => False) w2).trans hk fun _ h => .inl h); clear hk; have hb9 := K4.out.blk BP.out; (obtain ⟨z0, z1, z2, z3, z4, z5, zf⟩ := cells6 hb9); have zl := row_lt hb9; (obtain ⟨wf, hwf, hfb, hfk⟩ := put6 (v0 := .int .i64 2) (v1 := .bool bb) (v2 := .int .i64 0) (v3 := .int .i64 0) (v4 := .string ⟨#[]⟩) (v5 := .slice none 0 0) hb9); (obtain ⟨q0, q1, q2, q3, q4, q5, qf⟩ := cells6 hfb); clear hb9))
      (try simp only [Exit.inBlock, Exit.then])
      refine bodyPost_ret (v := .agg #[.int .i64 2, .bool bb, .int .i64 0, .int .i64 0, .string ⟨#[]⟩, .slice none 0 0]) (by simp [results, Tryz.results26, go_sem, q0, q1, q2, q3, q4, q5]) rfl ?_
      exact ⟨HY.out, handed K2.out K4.out hfk HPL.out⟩
    · have e4 : (kb == 4) = false := by simpa using h4
      have HY := Lib.hid (NY.out (HR.out.trans (by rw [if_neg (fun h => by have := h.1; omega), if_neg (fun h => h4 h.2)])))
      clear HR BY NY h4
      go_enter Tryz.func26, Tryz.ntmps26
      go_wp2_with (go_at_call 42; ((with_reducible refine (HN.out _).mono ?_); rintro e w4 ⟨rfl, hk⟩; have K4 := Lib.hid ((Keeps.refl (fun _ => False) w2).trans hk fun _ h => .inl h); clear hk; have hb9 := K4.out.blk BP.out; (obtain ⟨z0, z1, z2, z3, z4, z5, zf⟩ := cells6 hb9); have zl := row_lt hb9; (obtain ⟨wf, hwf, hfb, hfk⟩ := put6 (v0 := .int .i64 1) (v1 := .bool false) (v2 := .int .i64 0) (v3 := .int .i64 0) (v4 := .string ⟨#[]⟩) (v5 := .slice none 0 0) hb9); (obtain ⟨q0, q1, q2, q3, q4, q5, qf⟩ := cells6 hfb); clear hb9))
      (try simp only [Exit.inBlock, Exit.then])
      refine bodyPost_ret (v := .agg #[.int .i64 1, .bool false, .int .i64 0, .int .i64 0, .string ⟨#[]⟩, .slice none 0 0]) (by simp [results, Tryz.results26, go_sem, q0, q1, q2, q3, q4, q5]) rfl ?_
      exact ⟨HY.out, handed K2.out K4.out hfk HPL.out⟩
  · have e3 : (ka == 3) = false := by simpa using k3
    have e4 : (ka == 4) = false := by simpa using k4
    have HY := Lib.hid (NY.out (HR.out.trans (by rw [if_neg (fun h => k3 h.1), if_neg (fun h => k4 h.1)])))
    clear HR BY NY k3 k4
    go_enter Tryz.func26, Tryz.ntmps26
    go_wp2_with (go_at_call 42; ((with_reducible refine (HN.out _).mono ?_); rintro e w4 ⟨rfl, hk⟩; have K4 := Lib.hid ((Keeps.refl (fun _ => False) w2).trans hk fun _ h => .inl h); clear hk; have hb9 := K4.out.blk BP.out; (obtain ⟨z0, z1, z2, z3, z4, z5, zf⟩ := cells6 hb9); have zl := row_lt hb9; (obtain ⟨wf, hwf, hfb, hfk⟩ := put6 (v0 := .int .i64 1) (v1 := .bool false) (v2 := .int .i64 0) (v3 := .int .i64 0) (v4 := .string ⟨#[]⟩) (v5 := .slice none 0 0) hb9); (obtain ⟨q0, q1, q2, q3, q4, q5, qf⟩ := cells6 hfb); clear hb9))
    (try simp only [Exit.inBlock, Exit.then])
    refine bodyPost_ret (v := .agg #[.int .i64 1, .bool false, .int .i64 0, .int .i64 0, .string ⟨#[]⟩, .slice none 0 0]) (by simp [results, Tryz.results26, go_sem, q0, q1, q2, q3, q4, q5]) rfl ?_
    exact ⟨HY.out, handed K2.out K4.out hfk HPL.out⟩

end Go.Proofs.YtnihfhfakadepaaGreatDoor
