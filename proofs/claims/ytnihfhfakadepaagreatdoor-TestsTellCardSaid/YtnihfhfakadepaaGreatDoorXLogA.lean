/- Package logic: truth in halves (0 no, 1 not known, 2 yes). -/
import Derived.Test.YtnihfhfakadepaaGreatDoorXTstA
namespace Go.Proofs.YtnihfhfakadepaaGreatDoor
open Go.RowKit

/-- A truth, by halves. -/
def hV (h : Int) : Val := .mk (if h = 1 then 1 else 2) (decide (h = 2)) ⟨0, 0⟩ ⟨#[]⟩ (.slice none 0 0) []
/-- Its cells. -/
def hC (h : Int) : Array Value := #[.int .i64 (if h = 1 then 1 else 2), .bool (decide (h = 2)), .int .i64 0, .int .i64 0, .string ⟨#[]⟩, .slice none 0 0]
theorem hV_cells (h : Int) : (hV h).cells.toArray = hC h := rfl
abbrev zero6 : Array Value := #[.int .i64 0, .bool false, .int .i64 0, .int .i64 0, .string ⟨#[]⟩, .slice none 0 0]

def truthV (v : Val) : Int := if v.kind = 2 then (if v.yes then 1 else -1) else 0
theorem truth_hV {h : Int} (h0 : 0 ≤ h) (h2 : h ≤ 2) : truthV (hV h) = h - 1 := by
  rcases (show h = 0 ∨ h = 1 ∨ h = 2 by omega) with rfl | rfl | rfl <;> decide

theorem cells6 {w : World} {b : Nat} {t : TypeId} {v0 v1 v2 v3 v4 v5 : Value} (h : w.heap[b]? = some (.cells #[v0, v1, v2, v3, v4, v5] t (0, 0))) :
    w.cell? ⟨b, 0, none⟩ = some v0 ∧ w.cell? ⟨b, 1, none⟩ = some v1 ∧ w.cell? ⟨b, 2, none⟩ = some v2 ∧ w.cell? ⟨b, 3, none⟩ = some v3 ∧ w.cell? ⟨b, 4, none⟩ = some v4 ∧ w.cell? ⟨b, 5, none⟩ = some v5 ∧ ∀ k, w.frozen? ⟨b, k, none⟩ = false := by
  refine ⟨?_, ?_, ?_, ?_, ?_, ?_, fun k => frozen_of_row w b k _ t h⟩ <;> (rw [cell_of_row w b _ _ t (0, 0) h]; rfl)

theorem put6 {w : World} {r t : Nat} {u0 u1 u2 u3 u4 u5 v0 v1 v2 v3 v4 v5 : Value} (h : w.heap[r]? = some (.cells #[u0, u1, u2, u3, u4, u5] t (0, 0))) :
    ∃ w', (((((w.setCell ⟨r, 0, none⟩ v0).setCell ⟨r, 1, none⟩ v1).setCell ⟨r, 2, none⟩ v2).setCell ⟨r, 3, none⟩ v3).setCell ⟨r, 4, none⟩ v4).setCell ⟨r, 5, none⟩ v5 = w' ∧ w'.heap[r]? = some (.cells #[v0, v1, v2, v3, v4, v5] t (0, 0)) ∧ Keeps (fun k => k = r) w w' := by
  have k1 : ∀ (W : World) (k : Nat) (v : Value), Keeps (fun k => k = r) w W → Keeps (fun k => k = r) w (W.setCell ⟨r, k, none⟩ v) := fun W k v hk => hk.setCell (p := ⟨r, k, none⟩) (.inl rfl) v
  refine ⟨_, rfl, ?_, k1 _ _ _ (k1 _ _ _ (k1 _ _ _ (k1 _ _ _ (k1 _ _ _ (k1 _ _ _ (Keeps.refl _ w))))))⟩
  exact setCell_blk (setCell_blk (setCell_blk (setCell_blk (setCell_blk (setCell_blk h)))))

/-- A struct is handed back, and new memory alone is written. -/
def Hands (f : Nat) (args : Array Value) (w : World) (r : Array Value) : Prop :=
  Calls Tryz.prog f args w fun e w' => e = .returned (.agg r) ∧ Keeps (fun _ => False) w w'

set_option maxRecDepth 100000 in
set_option maxHeartbeats 4000000 in
theorem truth_any {w : World} (v : Val) : Says 44 #[.agg v.cells.toArray] w (truthV v) := by
  obtain ⟨kd, ys, d, t, lv, l⟩ := v
  unfold Says
  simp only [Val.cells]
  by_cases h3 : kd = 2
  · subst h3
    cases ys
    · go_enter Tryz.func44, Tryz.ntmps44
      go_wp2
      go_ret
      exact ⟨rfl, (Keeps.refl _ _).alloc _⟩
    · go_enter Tryz.func44, Tryz.ntmps44
      go_wp2
      go_ret
      exact ⟨rfl, (Keeps.refl _ _).alloc _⟩
  · have e3 : (kd != 2) = true := by simpa using h3
    have hr : truthV (.mk kd ys d t lv l) = 0 := if_neg h3
    rw [hr]
    clear h3
    go_enter Tryz.func44, Tryz.ntmps44
    go_wp2
    go_ret
    exact ⟨rfl, (Keeps.refl _ _).alloc _⟩

set_option maxRecDepth 100000 in
set_option maxHeartbeats 4000000 in
theorem null_any {w : World} : Hands 42 #[] w (hC 1) := by
  unfold Hands
  go_enter Tryz.func42, Tryz.ntmps42
  go_wp2
  (try simp only [Exit.inBlock, Exit.then])
  refine bodyPost_ret (v := .agg (hC 1)) (by simp [results, Tryz.results42, go_sem, hC]) rfl ?_
  exact ⟨rfl, (Keeps.refl _ _).alloc _⟩

theorem half_bool (b : Bool) : hC (if b then 2 else 0) = #[.int .i64 2, .bool b, .int .i64 0, .int .i64 0, .string ⟨#[]⟩, .slice none 0 0] := by cases b <;> rfl

set_option maxRecDepth 100000 in
set_option maxHeartbeats 4000000 in
theorem bool_any {w : World} (b : Bool) : Hands 29 #[.bool b] w (hC (if b then 2 else 0)) := by
  rw [half_bool]
  unfold Hands
  go_enter Tryz.func29, Tryz.ntmps29
  go_wp2
  (try simp only [Exit.inBlock, Exit.then])
  refine bodyPost_ret (v := .agg #[.int .i64 2, .bool b, .int .i64 0, .int .i64 0, .string ⟨#[]⟩, .slice none 0 0]) (by simp [results, Tryz.results29, go_sem]) rfl ?_
  exact ⟨rfl, (Keeps.refl _ _).alloc _⟩

set_option maxRecDepth 100000 in
set_option maxHeartbeats 4000000 in
theorem of_any {w : World} (h : Int) (h0 : 0 ≤ h) (h2 : h ≤ 2) : Hands 9 #[.int .i64 h] w (hC h) := by
  unfold Hands
  rcases (show h = 0 ∨ h = 1 ∨ h = 2 by omega) with rfl | rfl | rfl
  · go_enter Tryz.func9, Tryz.ntmps9
    go_wp2
    (try simp only [Exit.inBlock, Exit.then])
    refine bodyPost_ret (v := .agg (hC 0)) (by simp [results, Tryz.results9, go_sem, hC]) rfl ?_
    exact ⟨rfl, (Keeps.refl _ _).alloc _⟩
  · go_enter Tryz.func9, Tryz.ntmps9
    go_wp2
    (try simp only [Exit.inBlock, Exit.then])
    refine bodyPost_ret (v := .agg (hC 1)) (by simp [results, Tryz.results9, go_sem, hC]) rfl ?_
    exact ⟨rfl, (Keeps.refl _ _).alloc _⟩
  · go_enter Tryz.func9, Tryz.ntmps9
    go_wp2
    (try simp only [Exit.inBlock, Exit.then])
    refine bodyPost_ret (v := .agg (hC 2)) (by simp [results, Tryz.results9, go_sem, hC]) rfl ?_
    exact ⟨rfl, (Keeps.refl _ _).alloc _⟩


theorem Hands.lit {f : Nat} {args : Array Value} {w : World} {r : Array Value} (h : Hands f args w r) : Calls Tryz.prog f args w fun e w' => e = .returned (.agg r) ∧ Keeps (fun _ => False) w w' := h

set_option maxRecDepth 100000 in
set_option maxHeartbeats 4000000 in
theorem told_any {w : World} (n : Int) (h0 : -1 ≤ n) (h2 : n ≤ 1) : Hands 43 #[.int .i64 n] w (hC (n + 1)) := by
  unfold Hands
  obtain ⟨p, hp⟩ : ∃ p, w.heap.size = p := ⟨_, rfl⟩
  have hb := heap_alloc_new w (.cells zero6 26)
  have hk1 : Keeps (fun _ => False) w (w.alloc (.cells zero6 26)) := (Keeps.refl _ _).alloc _
  rw [hp] at hb
  obtain ⟨w1, h1⟩ : ∃ w1, w.alloc (.cells zero6 26) = w1 := ⟨_, rfl⟩
  rw [h1] at hb hk1
  have HB := Lib.hid hb; have HK1 := Lib.hid hk1
  have HN := Lib.hid (show Calls Tryz.prog 42 #[] w1 fun e w' => e = .returned (.agg #[.int .i64 1, .bool false, .int .i64 0, .int .i64 0, .string ⟨#[]⟩, .slice none 0 0]) ∧ Keeps (fun _ => False) w1 w' from null_any)
  have HT := Lib.hid (show Calls Tryz.prog 29 #[.bool true] w1 fun e w' => e = .returned (.agg #[.int .i64 2, .bool true, .int .i64 0, .int .i64 0, .string ⟨#[]⟩, .slice none 0 0]) ∧ Keeps (fun _ => False) w1 w' from bool_any true)
  have HF := Lib.hid (show Calls Tryz.prog 29 #[.bool false] w1 fun e w' => e = .returned (.agg #[.int .i64 2, .bool false, .int .i64 0, .int .i64 0, .string ⟨#[]⟩, .slice none 0 0]) ∧ Keeps (fun _ => False) w1 w' from bool_any false)
  have HP := Lib.hid hp
  clear hb hk1
  rcases (show n = -1 ∨ n = 0 ∨ n = 1 by omega) with rfl | rfl | rfl
  · show Calls Tryz.prog 43 #[.int .i64 (-1)] w fun e w' => e = .returned (.agg #[.int .i64 2, .bool false, .int .i64 0, .int .i64 0, .string ⟨#[]⟩, .slice none 0 0]) ∧ Keeps (fun _ => False) w w'
    go_enter Tryz.func43, Tryz.ntmps43
    go_wp2_with (go_at_call 29; ((with_reducible refine HF.out.mono ?_); rintro e w2 ⟨rfl, hk⟩; have hb2 := hk.blk HB.out; have HK2 := Lib.hid (HK1.out.trans hk fun _ h => .inl h); clear hk; (obtain ⟨z0, z1, z2, z3, z4, z5, zf⟩ := cells6 hb2); have zl := row_lt hb2; (obtain ⟨wf, hwf, hfb, hfk⟩ := put6 (v0 := .int .i64 2) (v1 := .bool false) (v2 := .int .i64 0) (v3 := .int .i64 0) (v4 := .string ⟨#[]⟩) (v5 := .slice none 0 0) hb2); (obtain ⟨q0, q1, q2, q3, q4, q5, qf⟩ := cells6 hfb)))
    (try simp only [Exit.inBlock, Exit.then])
    refine bodyPost_ret (v := .agg #[.int .i64 2, .bool false, .int .i64 0, .int .i64 0, .string ⟨#[]⟩, .slice none 0 0]) (by simp [results, Tryz.results43, go_sem, q0, q1, q2, q3, q4, q5]) rfl ?_
    exact ⟨rfl, HK2.out.trans hfk fun k e => .inr (by have := HP.out; omega)⟩
  · show Calls Tryz.prog 43 #[.int .i64 (0)] w fun e w' => e = .returned (.agg #[.int .i64 1, .bool false, .int .i64 0, .int .i64 0, .string ⟨#[]⟩, .slice none 0 0]) ∧ Keeps (fun _ => False) w w'
    go_enter Tryz.func43, Tryz.ntmps43
    go_wp2_with (go_at_call 42; ((with_reducible refine HN.out.mono ?_); rintro e w2 ⟨rfl, hk⟩; have hb2 := hk.blk HB.out; have HK2 := Lib.hid (HK1.out.trans hk fun _ h => .inl h); clear hk; (obtain ⟨z0, z1, z2, z3, z4, z5, zf⟩ := cells6 hb2); have zl := row_lt hb2; (obtain ⟨wf, hwf, hfb, hfk⟩ := put6 (v0 := .int .i64 1) (v1 := .bool false) (v2 := .int .i64 0) (v3 := .int .i64 0) (v4 := .string ⟨#[]⟩) (v5 := .slice none 0 0) hb2); (obtain ⟨q0, q1, q2, q3, q4, q5, qf⟩ := cells6 hfb)))
    (try simp only [Exit.inBlock, Exit.then])
    refine bodyPost_ret (v := .agg #[.int .i64 1, .bool false, .int .i64 0, .int .i64 0, .string ⟨#[]⟩, .slice none 0 0]) (by simp [results, Tryz.results43, go_sem, q0, q1, q2, q3, q4, q5]) rfl ?_
    exact ⟨rfl, HK2.out.trans hfk fun k e => .inr (by have := HP.out; omega)⟩
  · show Calls Tryz.prog 43 #[.int .i64 (1)] w fun e w' => e = .returned (.agg #[.int .i64 2, .bool true, .int .i64 0, .int .i64 0, .string ⟨#[]⟩, .slice none 0 0]) ∧ Keeps (fun _ => False) w w'
    go_enter Tryz.func43, Tryz.ntmps43
    go_wp2_with (go_at_call 29; ((with_reducible refine HT.out.mono ?_); rintro e w2 ⟨rfl, hk⟩; have hb2 := hk.blk HB.out; have HK2 := Lib.hid (HK1.out.trans hk fun _ h => .inl h); clear hk; (obtain ⟨z0, z1, z2, z3, z4, z5, zf⟩ := cells6 hb2); have zl := row_lt hb2; (obtain ⟨wf, hwf, hfb, hfk⟩ := put6 (v0 := .int .i64 2) (v1 := .bool true) (v2 := .int .i64 0) (v3 := .int .i64 0) (v4 := .string ⟨#[]⟩) (v5 := .slice none 0 0) hb2); (obtain ⟨q0, q1, q2, q3, q4, q5, qf⟩ := cells6 hfb)))
    (try simp only [Exit.inBlock, Exit.then])
    refine bodyPost_ret (v := .agg #[.int .i64 2, .bool true, .int .i64 0, .int .i64 0, .string ⟨#[]⟩, .slice none 0 0]) (by simp [results, Tryz.results43, go_sem, q0, q1, q2, q3, q4, q5]) rfl ?_
    exact ⟨rfl, HK2.out.trans hfk fun k e => .inr (by have := HP.out; omega)⟩

set_option maxRecDepth 100000 in
set_option maxHeartbeats 4000000 in
theorem not_any {w : World} (h : Int) (h0 : 0 ≤ h) (h2 : h ≤ 2) : Hands 27 #[.agg (hC h)] w (hC (2 - h)) := by
  unfold Hands
  obtain ⟨w0, h0'⟩ : ∃ w0, w.alloc (.cells (hC h) 26) = w0 := ⟨_, rfl⟩
  have hk0 : Keeps (fun _ => False) w w0 := by rw [← h0']; exact (Keeps.refl _ _).alloc _
  obtain ⟨p, hp⟩ : ∃ p, w0.heap.size = p := ⟨_, rfl⟩
  have hb := heap_alloc_new w0 (.cells zero6 26)
  have hk1 : Keeps (fun _ => False) w0 (w0.alloc (.cells zero6 26)) := (Keeps.refl _ _).alloc _
  rw [hp] at hb
  have hb0 : w0.heap[w.heap.size]? = some (.cells (hC h) 26 (0, 0)) := by rw [← h0']; exact heap_alloc_new _ _
  obtain ⟨w1, h1⟩ : ∃ w1, w0.alloc (.cells zero6 26) = w1 := ⟨_, rfl⟩
  rw [h1] at hb hk1
  have hb01 := hk1.blk hb0
  obtain ⟨pa, hpa⟩ : ∃ p, w.heap.size = p := ⟨_, rfl⟩
  rw [hpa] at hb01
  have HB := Lib.hid hb; have HK1 := Lib.hid (hk0.trans hk1 fun _ h => .inl h)
  have HPL := Lib.hid (show w.heap.size ≤ p by have := hk0.size; omega)
  have HT := Lib.hid (fun W : World => truth_any (w := W) (hV h))
  rw [truth_hV h0 h2] at HT
  have HO := Lib.hid (fun W : World => told_any (w := W) (1 - h) (by omega) (by omega))
  clear hb hk1 hk0 hb0
  rcases (show h = 0 ∨ h = 1 ∨ h = 2 by omega) with rfl | rfl | rfl
  · show Calls Tryz.prog 27 #[.agg #[.int .i64 2, .bool false, .int .i64 0, .int .i64 0, .string ⟨#[]⟩, .slice none 0 0]] w fun e w' => e = .returned (.agg #[.int .i64 2, .bool true, .int .i64 0, .int .i64 0, .string ⟨#[]⟩, .slice none 0 0]) ∧ Keeps (fun _ => False) w w'
    have HT := Lib.hid (fun W : World => (show Calls Tryz.prog 44 #[.agg #[.int .i64 2, .bool false, .int .i64 0, .int .i64 0, .string ⟨#[]⟩, .slice none 0 0]] W fun e w' => e = .returned (.int .i64 (-1)) ∧ Keeps (fun _ => False) W w' from HT.out W))
    have HO := Lib.hid (fun W : World => (show Calls Tryz.prog 43 #[.int .i64 (1)] W fun e w' => e = .returned (.agg #[.int .i64 2, .bool true, .int .i64 0, .int .i64 0, .string ⟨#[]⟩, .slice none 0 0]) ∧ Keeps (fun _ => False) W w' from HO.out W))
    replace h0' : w.alloc (.cells #[.int .i64 2, .bool false, .int .i64 0, .int .i64 0, .string ⟨#[]⟩, .slice none 0 0] 26) = w0 := h0'
    replace hb01 : w1.heap[pa]? = some (.cells #[.int .i64 2, .bool false, .int .i64 0, .int .i64 0, .string ⟨#[]⟩, .slice none 0 0] 26 (0, 0)) := hb01
    obtain ⟨y0, y1, y2, y3, y4, y5, _⟩ := cells6 hb01
    clear hb01
    go_enter Tryz.func27, Tryz.ntmps27
    go_wp2_with (first
      | (go_at_call 44; ((with_reducible refine (HT.out _).mono ?_); rintro e w2 ⟨rfl, hk⟩; have hb2 := hk.blk HB.out; have HK2 := Lib.hid (HK1.out.trans hk fun _ h => .inl h); clear hk y0 y1 y2 y3 y4 y5))
      | (go_at_call 43; ((with_reducible refine (HO.out _).mono ?_); rintro e w3 ⟨rfl, hk⟩; have hb3 := hk.blk hb2; have HK3 := Lib.hid (HK2.out.trans hk fun _ h => .inl h); clear hk; (obtain ⟨z0, z1, z2, z3, z4, z5, zf⟩ := cells6 hb3); have zl := row_lt hb3; (obtain ⟨wf, hwf, hfb, hfk⟩ := put6 (v0 := .int .i64 2) (v1 := .bool true) (v2 := .int .i64 0) (v3 := .int .i64 0) (v4 := .string ⟨#[]⟩) (v5 := .slice none 0 0) hb3); (obtain ⟨q0, q1, q2, q3, q4, q5, qf⟩ := cells6 hfb))))
    (try simp only [Exit.inBlock, Exit.then])
    refine bodyPost_ret (v := .agg #[.int .i64 2, .bool true, .int .i64 0, .int .i64 0, .string ⟨#[]⟩, .slice none 0 0]) (by simp [results, Tryz.results27, go_sem, q0, q1, q2, q3, q4, q5]) rfl ?_
    exact ⟨rfl, HK3.out.trans hfk fun k e => .inr (by have := HPL.out; omega)⟩
  · show Calls Tryz.prog 27 #[.agg #[.int .i64 1, .bool false, .int .i64 0, .int .i64 0, .string ⟨#[]⟩, .slice none 0 0]] w fun e w' => e = .returned (.agg #[.int .i64 1, .bool false, .int .i64 0, .int .i64 0, .string ⟨#[]⟩, .slice none 0 0]) ∧ Keeps (fun _ => False) w w'
    have HT := Lib.hid (fun W : World => (show Calls Tryz.prog 44 #[.agg #[.int .i64 1, .bool false, .int .i64 0, .int .i64 0, .string ⟨#[]⟩, .slice none 0 0]] W fun e w' => e = .returned (.int .i64 (0)) ∧ Keeps (fun _ => False) W w' from HT.out W))
    have HO := Lib.hid (fun W : World => (show Calls Tryz.prog 43 #[.int .i64 (0)] W fun e w' => e = .returned (.agg #[.int .i64 1, .bool false, .int .i64 0, .int .i64 0, .string ⟨#[]⟩, .slice none 0 0]) ∧ Keeps (fun _ => False) W w' from HO.out W))
    replace h0' : w.alloc (.cells #[.int .i64 1, .bool false, .int .i64 0, .int .i64 0, .string ⟨#[]⟩, .slice none 0 0] 26) = w0 := h0'
    replace hb01 : w1.heap[pa]? = some (.cells #[.int .i64 1, .bool false, .int .i64 0, .int .i64 0, .string ⟨#[]⟩, .slice none 0 0] 26 (0, 0)) := hb01
    obtain ⟨y0, y1, y2, y3, y4, y5, _⟩ := cells6 hb01
    clear hb01
    go_enter Tryz.func27, Tryz.ntmps27
    go_wp2_with (first
      | (go_at_call 44; ((with_reducible refine (HT.out _).mono ?_); rintro e w2 ⟨rfl, hk⟩; have hb2 := hk.blk HB.out; have HK2 := Lib.hid (HK1.out.trans hk fun _ h => .inl h); clear hk y0 y1 y2 y3 y4 y5))
      | (go_at_call 43; ((with_reducible refine (HO.out _).mono ?_); rintro e w3 ⟨rfl, hk⟩; have hb3 := hk.blk hb2; have HK3 := Lib.hid (HK2.out.trans hk fun _ h => .inl h); clear hk; (obtain ⟨z0, z1, z2, z3, z4, z5, zf⟩ := cells6 hb3); have zl := row_lt hb3; (obtain ⟨wf, hwf, hfb, hfk⟩ := put6 (v0 := .int .i64 1) (v1 := .bool false) (v2 := .int .i64 0) (v3 := .int .i64 0) (v4 := .string ⟨#[]⟩) (v5 := .slice none 0 0) hb3); (obtain ⟨q0, q1, q2, q3, q4, q5, qf⟩ := cells6 hfb))))
    (try simp only [Exit.inBlock, Exit.then])
    refine bodyPost_ret (v := .agg #[.int .i64 1, .bool false, .int .i64 0, .int .i64 0, .string ⟨#[]⟩, .slice none 0 0]) (by simp [results, Tryz.results27, go_sem, q0, q1, q2, q3, q4, q5]) rfl ?_
    exact ⟨rfl, HK3.out.trans hfk fun k e => .inr (by have := HPL.out; omega)⟩
  · show Calls Tryz.prog 27 #[.agg #[.int .i64 2, .bool true, .int .i64 0, .int .i64 0, .string ⟨#[]⟩, .slice none 0 0]] w fun e w' => e = .returned (.agg #[.int .i64 2, .bool false, .int .i64 0, .int .i64 0, .string ⟨#[]⟩, .slice none 0 0]) ∧ Keeps (fun _ => False) w w'
    have HT := Lib.hid (fun W : World => (show Calls Tryz.prog 44 #[.agg #[.int .i64 2, .bool true, .int .i64 0, .int .i64 0, .string ⟨#[]⟩, .slice none 0 0]] W fun e w' => e = .returned (.int .i64 (1)) ∧ Keeps (fun _ => False) W w' from HT.out W))
    have HO := Lib.hid (fun W : World => (show Calls Tryz.prog 43 #[.int .i64 (-1)] W fun e w' => e = .returned (.agg #[.int .i64 2, .bool false, .int .i64 0, .int .i64 0, .string ⟨#[]⟩, .slice none 0 0]) ∧ Keeps (fun _ => False) W w' from HO.out W))
    replace h0' : w.alloc (.cells #[.int .i64 2, .bool true, .int .i64 0, .int .i64 0, .string ⟨#[]⟩, .slice none 0 0] 26) = w0 := h0'
    replace hb01 : w1.heap[pa]? = some (.cells #[.int .i64 2, .bool true, .int .i64 0, .int .i64 0, .string ⟨#[]⟩, .slice none 0 0] 26 (0, 0)) := hb01
    obtain ⟨y0, y1, y2, y3, y4, y5, _⟩ := cells6 hb01
    clear hb01
    go_enter Tryz.func27, Tryz.ntmps27
    go_wp2_with (first
      | (go_at_call 44; ((with_reducible refine (HT.out _).mono ?_); rintro e w2 ⟨rfl, hk⟩; have hb2 := hk.blk HB.out; have HK2 := Lib.hid (HK1.out.trans hk fun _ h => .inl h); clear hk y0 y1 y2 y3 y4 y5))
      | (go_at_call 43; ((with_reducible refine (HO.out _).mono ?_); rintro e w3 ⟨rfl, hk⟩; have hb3 := hk.blk hb2; have HK3 := Lib.hid (HK2.out.trans hk fun _ h => .inl h); clear hk; (obtain ⟨z0, z1, z2, z3, z4, z5, zf⟩ := cells6 hb3); have zl := row_lt hb3; (obtain ⟨wf, hwf, hfb, hfk⟩ := put6 (v0 := .int .i64 2) (v1 := .bool false) (v2 := .int .i64 0) (v3 := .int .i64 0) (v4 := .string ⟨#[]⟩) (v5 := .slice none 0 0) hb3); (obtain ⟨q0, q1, q2, q3, q4, q5, qf⟩ := cells6 hfb))))
    (try simp only [Exit.inBlock, Exit.then])
    refine bodyPost_ret (v := .agg #[.int .i64 2, .bool false, .int .i64 0, .int .i64 0, .string ⟨#[]⟩, .slice none 0 0]) (by simp [results, Tryz.results27, go_sem, q0, q1, q2, q3, q4, q5]) rfl ?_
    exact ⟨rfl, HK3.out.trans hfk fun k e => .inr (by have := HPL.out; omega)⟩

end Go.Proofs.YtnihfhfakadepaaGreatDoor
