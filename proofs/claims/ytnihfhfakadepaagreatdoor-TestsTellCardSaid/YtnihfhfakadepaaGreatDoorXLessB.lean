/- Package verdictref2: is a value less than another one, is it the same? Package verdictref2: a truth is the same as itself. -/
import Derived.Test.YtnihfhfakadepaaGreatDoorXLogA
import Derived.Test.YtnihfhfakadepaaGreatDoorXDoesP
namespace Go.Proofs.YtnihfhfakadepaaGreatDoor
open Go.RowKit

/-- Two boxes. -/
theorem two_boxes (w : World) (ca cb : Array Value) : ∃ w2 pa pb, ((w.alloc (.cells ca 26)).alloc (.cells cb 26)) = w2 ∧ w.heap.size = pa ∧ pa + 1 = pb ∧ Keeps (fun _ => False) w w2 ∧ w2.heap[pa]? = some (.cells ca 26 (0, 0)) ∧ w2.heap[pb]? = some (.cells cb 26 (0, 0)) := by
  have k1 : Keeps (fun _ => False) w (w.alloc (.cells ca 26)) := (Keeps.refl _ _).alloc _
  have k2 : Keeps (fun _ => False) (w.alloc (.cells ca 26)) ((w.alloc (.cells ca 26)).alloc (.cells cb 26)) := (Keeps.refl _ _).alloc _
  have a := heap_alloc_new w (.cells ca 26)
  have b := heap_alloc_new (w.alloc (.cells ca 26)) (.cells cb 26)
  have s1 : (w.alloc (.cells ca 26)).heap.size = w.heap.size + 1 := by simp
  rw [s1] at b
  exact ⟨_, _, _, rfl, rfl, rfl, k1.trans k2 fun _ h => .inl h, k2.blk a, b⟩

set_option maxRecDepth 100000 in
set_option maxHeartbeats 8000000 in
theorem rless_any (hdiv : DivSays) {w : World} (a b : Val) (ha : ∃ A n c, a.lv = .slice A n c) (hb : ∃ A n c, b.lv = .slice A n c) :
    Says 18 #[.agg a.cells.toArray, .agg b.cells.toArray] w (lessH a b) := by
  unfold Says
  obtain ⟨ka, ya, da, ta, la, ea⟩ := a
  obtain ⟨kb, yb, db, tb, lb, eb⟩ := b
  obtain ⟨Aa, na, ca, hla⟩ := ha
  obtain ⟨Ab, nb, cb, hlb⟩ := hb
  simp only [Val.lv] at hla hlb
  subst hla hlb
  have HR := Lib.hid (show lessH (.mk ka ya da ta (.slice Aa na ca) ea) (.mk kb yb db tb (.slice Ab nb cb) eb) = if ka = 3 ∧ kb = 3 then (if (cmpE da db).2 ≠ 0 then 1 else if (cmpE da db).1 < 0 then 2 else 0) else if ka = 4 ∧ kb = 4 then (if Op.bytesLess ta.toList tb.toList = true then 2 else 0) else 1 from rfl)
  generalize lessH (.mk ka ya da ta (.slice Aa na ca) ea) (.mk kb yb db tb (.slice Ab nb cb) eb) = R at *
  have HC := Lib.hid (fun (W : World) => refCmp_any hdiv (w := W) da db)
  simp only [Val.cells]
  obtain ⟨w2, pa, pb, e2, epa, epb, k2, ba, bb⟩ := two_boxes w #[.int .i64 ka, .bool ya, .int .i64 da.coef, .int .i64 da.exp, .string ta, .slice Aa na ca] #[.int .i64 kb, .bool yb, .int .i64 db.coef, .int .i64 db.exp, .string tb, .slice Ab nb cb]
  have K2 := Lib.hid k2
  have HEP := Lib.hid (And.intro e2 (And.intro epa epb))
  obtain ⟨y0, y1, y2, y3, y4, y5, yf⟩ := cells6 ba
  obtain ⟨x0, x1, x2, x3, x4, x5, xf⟩ := cells6 bb
  clear k2 ba bb yf xf
  rcases (show ka = 3 ∨ ka = 4 ∨ (ka ≠ 3 ∧ ka ≠ 4) by omega) with rfl | rfl | ⟨k3, k4⟩
  · rcases (show kb = 3 ∨ kb ≠ 3 by omega) with rfl | h3
    · have HR1 := Lib.hid (HR.out.trans (if_pos ⟨rfl, rfl⟩))
      generalize hcc : cmpE da db = cc at *
      clear hcc HR
      obtain ⟨c1, c2⟩ := cc
      simp only at HR1 HC
      generalize hbl : Op.bytesLess ta.toList tb.toList = bl at *
      by_cases hc2 : c2 = 0
      · subst hc2
        have HR2 := Lib.hid (HR1.out.trans (if_neg (by simp)))
        by_cases hc1 : c1 < 0
        · have HY := Lib.hid (show R = 2 from HR2.out.trans (if_pos hc1))
          go_enter Tryz.func18, Tryz.ntmps18
          go_wp2_with (go_at_call 33; ((with_reducible refine (HC.out _).mono ?_); rintro e w3 ⟨rfl, hk⟩; have K3 := Lib.hid (K2.out.trans hk fun _ h => .inl h); clear hk y0 y1 y2 y3 y4 y5 x0 x1 x2 x3 x4 x5))
          go_ret
          exact ⟨ret_int HY.out.symm, K3.out⟩
        · have HY := Lib.hid (show R = 0 from HR2.out.trans (if_neg hc1))
          go_enter Tryz.func18, Tryz.ntmps18
          go_wp2_with (go_at_call 33; ((with_reducible refine (HC.out _).mono ?_); rintro e w3 ⟨rfl, hk⟩; have K3 := Lib.hid (K2.out.trans hk fun _ h => .inl h); clear hk y0 y1 y2 y3 y4 y5 x0 x1 x2 x3 x4 x5))
          go_ret
          exact ⟨ret_int HY.out.symm, K3.out⟩
      · have hne : (c2 != 0) = true := by simpa using hc2
        have HY := Lib.hid (show R = 1 from HR1.out.trans (if_pos hc2))
        go_enter Tryz.func18, Tryz.ntmps18
        go_wp2_with (go_at_call 33; ((with_reducible refine (HC.out _).mono ?_); rintro e w3 ⟨rfl, hk⟩; have K3 := Lib.hid (K2.out.trans hk fun _ h => .inl h); clear hk y0 y1 y2 y3 y4 y5 x0 x1 x2 x3 x4 x5))
        go_ret
        exact ⟨ret_int HY.out.symm, K3.out⟩
    · have e3 : ((3 : Int) != kb) = true := by simp; omega
      have HY := Lib.hid (show R = 1 from HR.out.trans (by rw [if_neg (fun h => h3 h.2), if_neg (fun h => by have := h.1; omega)]))
      clear h3
      go_enter Tryz.func18, Tryz.ntmps18
      go_wp2_with fail
      go_ret
      exact ⟨ret_int HY.out.symm, K2.out⟩
  · rcases (show kb = 4 ∨ kb ≠ 4 by omega) with rfl | h4
    · have HR1 := Lib.hid (HR.out.trans (by rw [if_neg (fun h => by have := h.1; omega), if_pos ⟨rfl, rfl⟩]))
      generalize hbl : Op.bytesLess ta.toList tb.toList = bl at *
      cases bl
      · have HY := Lib.hid (show R = 0 from HR1.out.trans (if_neg (by simp)))
        go_enter Tryz.func18, Tryz.ntmps18
        go_wp2_with fail
        go_ret
        exact ⟨ret_int HY.out.symm, K2.out⟩
      · have HY := Lib.hid (show R = 2 from HR1.out.trans (if_pos rfl))
        go_enter Tryz.func18, Tryz.ntmps18
        go_wp2_with fail
        go_ret
        exact ⟨ret_int HY.out.symm, K2.out⟩
    · have e4 : ((4 : Int) != kb) = true := by simp; omega
      have HY := Lib.hid (show R = 1 from HR.out.trans (by rw [if_neg (fun h => by have := h.1; omega), if_neg (fun h => h4 h.2)]))
      clear h4
      go_enter Tryz.func18, Tryz.ntmps18
      go_wp2_with fail
      go_ret
      exact ⟨ret_int HY.out.symm, K2.out⟩
  · have HY := Lib.hid (show R = 1 from HR.out.trans (by rw [if_neg (fun h => k3 h.1), if_neg (fun h => k4 h.1)]))
    have e3 : (ka != 3) = true := by simpa using k3
    have e4 : (ka != 4) = true := by simpa using k4
    clear k3 k4
    by_cases hkk : ka = kb
    · subst hkk
      go_enter Tryz.func18, Tryz.ntmps18
      go_wp2_with fail
      go_ret
      exact ⟨ret_int HY.out.symm, K2.out⟩
    · have e5 : (ka != kb) = true := by simpa using hkk
      clear hkk
      go_enter Tryz.func18, Tryz.ntmps18
      go_wp2_with fail
      go_ret
      exact ⟨ret_int HY.out.symm, K2.out⟩

set_option maxRecDepth 100000 in
set_option maxHeartbeats 8000000 in
theorem requal_any {w : World} (a b : Val) (ha : ∃ A n c, a.lv = .slice A n c) (hb : ∃ A n c, b.lv = .slice A n c) (h1 : 1 ≤ b.kind) (h4 : b.kind ≤ 4) :
    Says 20 #[.agg a.cells.toArray, .agg b.cells.toArray] w (eqH a b) := by
  unfold Says
  obtain ⟨ka, ya, da, ta, la, ea⟩ := a
  obtain ⟨kb, yb, db, tb, lb, eb⟩ := b
  obtain ⟨Aa, na, ca, hla⟩ := ha
  obtain ⟨Ab, nb, cb, hlb⟩ := hb
  simp only [Val.lv] at hla hlb
  subst hla hlb
  have HR := Lib.hid (show eqH (.mk ka ya da ta (.slice Aa na ca) ea) (.mk kb yb db tb (.slice Ab nb cb) eb) = if ka ≠ kb then (if ka = 1 ∨ kb = 1 then 0 else 1) else if ka = 2 then (if ya = yb then 2 else 0) else if ka = 3 then (if da.coef = db.coef ∧ da.exp = db.exp then 2 else 0) else if ka = 4 then (if ta.toList = tb.toList then 2 else 0) else 2 from rfl)
  generalize eqH (.mk ka ya da ta (.slice Aa na ca) ea) (.mk kb yb db tb (.slice Ab nb cb) eb) = R at *
  simp only [Val.kind] at h1 h4
  simp only [Val.cells]
  obtain ⟨w2, pa, pb, e2, epa, epb, k2, ba, bb⟩ := two_boxes w #[.int .i64 ka, .bool ya, .int .i64 da.coef, .int .i64 da.exp, .string ta, .slice Aa na ca] #[.int .i64 kb, .bool yb, .int .i64 db.coef, .int .i64 db.exp, .string tb, .slice Ab nb cb]
  have K2 := Lib.hid k2
  have HEP := Lib.hid (And.intro e2 (And.intro epa epb))
  obtain ⟨y0, y1, y2, y3, y4, y5, yf⟩ := cells6 ba
  obtain ⟨x0, x1, x2, x3, x4, x5, xf⟩ := cells6 bb
  clear k2 ba bb yf xf
  by_cases hkk : ka = kb
  · subst hkk
    have HR1 := Lib.hid (HR.out.trans (if_neg (by simp)))
    clear HR
    rcases (show ka = 1 ∨ ka = 2 ∨ ka = 3 ∨ ka = 4 by omega) with rfl | rfl | rfl | rfl
    · have HY := Lib.hid (show R = 2 from HR1.out)
      go_enter Tryz.func20, Tryz.ntmps20
      go_wp2_with fail
      go_ret
      exact ⟨ret_int HY.out.symm, K2.out⟩
    · have HR2 := Lib.hid (show R = if ya = yb then 2 else 0 from HR1.out)
      cases ya <;> cases yb
      · have HY := Lib.hid (show R = 2 from HR2.out)
        go_enter Tryz.func20, Tryz.ntmps20
        go_wp2_with fail
        go_ret
        exact ⟨ret_int HY.out.symm, K2.out⟩
      · have HY := Lib.hid (show R = 0 from HR2.out)
        go_enter Tryz.func20, Tryz.ntmps20
        go_wp2_with fail
        go_ret
        exact ⟨ret_int HY.out.symm, K2.out⟩
      · have HY := Lib.hid (show R = 0 from HR2.out)
        go_enter Tryz.func20, Tryz.ntmps20
        go_wp2_with fail
        go_ret
        exact ⟨ret_int HY.out.symm, K2.out⟩
      · have HY := Lib.hid (show R = 2 from HR2.out)
        go_enter Tryz.func20, Tryz.ntmps20
        go_wp2_with fail
        go_ret
        exact ⟨ret_int HY.out.symm, K2.out⟩
    · have HR2 := Lib.hid (show R = if da.coef = db.coef ∧ da.exp = db.exp then 2 else 0 from HR1.out)
      obtain ⟨ca1, xa1⟩ := da
      obtain ⟨cb1, xb1⟩ := db
      simp only at HR2 y2 y3 x2 x3 e2
      by_cases hc : ca1 = cb1
      · subst hc
        by_cases hx : xa1 = xb1
        · subst hx
          have HY := Lib.hid (show R = 2 from HR2.out.trans (if_pos ⟨rfl, rfl⟩))
          go_enter Tryz.func20, Tryz.ntmps20
          go_wp2_with fail
          go_ret
          exact ⟨ret_int HY.out.symm, K2.out⟩
        · have HY := Lib.hid (show R = 0 from HR2.out.trans (if_neg (fun h => hx h.2)))
          go_enter Tryz.func20, Tryz.ntmps20
          go_wp2_with fail
          go_ret
          exact ⟨ret_int HY.out.symm, K2.out⟩
      · have HY := Lib.hid (show R = 0 from HR2.out.trans (if_neg (fun h => hc h.1)))
        go_enter Tryz.func20, Tryz.ntmps20
        go_wp2_with fail
        go_ret
        exact ⟨ret_int HY.out.symm, K2.out⟩
    · have HR2 := Lib.hid (show R = if ta.toList = tb.toList then 2 else 0 from HR1.out)
      by_cases hc : ta.toList = tb.toList
      · have HY := Lib.hid (show R = 2 from HR2.out.trans (if_pos hc))
        have hbe : (ta.toList == tb.toList) = true := by simpa using hc
        clear hc
        go_enter Tryz.func20, Tryz.ntmps20
        go_wp2_with fail
        go_ret
        exact ⟨ret_int HY.out.symm, K2.out⟩
      · have HY := Lib.hid (show R = 0 from HR2.out.trans (if_neg hc))
        have hbe : (ta.toList == tb.toList) = false := by simpa using hc
        clear hc
        go_enter Tryz.func20, Tryz.ntmps20
        go_wp2_with fail
        go_ret
        exact ⟨ret_int HY.out.symm, K2.out⟩
  · have HR1 := Lib.hid (HR.out.trans (if_pos hkk))
    have e5 : (ka != kb) = true := by simpa using hkk
    have e6 : (ka == kb) = false := by simpa using hkk
    clear HR
    by_cases h1a : ka = 1
    · subst h1a
      have HY := Lib.hid (show R = 0 from HR1.out.trans (if_pos (.inl rfl)))
      clear hkk
      go_enter Tryz.func20, Tryz.ntmps20
      go_wp2_with fail
      go_ret
      exact ⟨ret_int HY.out.symm, K2.out⟩
    · by_cases h1b : kb = 1
      · subst h1b
        have HY := Lib.hid (show R = 0 from HR1.out.trans (if_pos (.inr rfl)))
        have e7 : (ka == 1) = false := by simpa using h1a
        clear hkk h1a
        go_enter Tryz.func20, Tryz.ntmps20
        go_wp2_with fail
        go_ret
        exact ⟨ret_int HY.out.symm, K2.out⟩
      · have HY := Lib.hid (show R = 1 from HR1.out.trans (if_neg (by omega)))
        have e7 : (ka == 1) = false := by simpa using h1a
        have e8 : (kb == 1) = false := by simpa using h1b
        clear hkk h1a h1b
        go_enter Tryz.func20, Tryz.ntmps20
        go_wp2_with fail
        go_ret
        exact ⟨ret_int HY.out.symm, K2.out⟩

end Go.Proofs.YtnihfhfakadepaaGreatDoor
namespace Go.Proofs.YtnihfhfakadepaaGreatDoor
open Go.RowKit

set_option maxRecDepth 100000 in
set_option maxHeartbeats 4000000 in
theorem sameK_any {w : World} (x : Int) (y : Bool) : Calls Tryz.prog 8 #[.agg #[.int .i64 x, .bool y, .int .i64 0, .int .i64 0, .string ⟨#[]⟩, .slice none 0 0], .agg #[.int .i64 x, .bool y, .int .i64 0, .int .i64 0, .string ⟨#[]⟩, .slice none 0 0]] w fun e w' => e = .returned (.bool true) ∧ Keeps (fun _ => False) w w' := by
  obtain ⟨w2, pa, pb, e2, epa, epb, k2, ba, bb⟩ := two_boxes w #[.int .i64 x, .bool y, .int .i64 0, .int .i64 0, .string ⟨#[]⟩, .slice none 0 0] #[.int .i64 x, .bool y, .int .i64 0, .int .i64 0, .string ⟨#[]⟩, .slice none 0 0]
  have K2 := Lib.hid k2
  obtain ⟨y0, y1, y2, y3, y4, y5, yf⟩ := cells6 ba
  obtain ⟨x0, x1, x2, x3, x4, x5, xf⟩ := cells6 bb
  clear k2 ba bb yf xf
  go_enter Tryz.func8, Tryz.ntmps8
  go_wp2_with fail
  refine wp_loop_rounds 1 ?_
  rw [rounds_succ]
  go_wp2_with fail
  go_ret
  exact ⟨rfl, K2.out⟩

end Go.Proofs.YtnihfhfakadepaaGreatDoor
