/- Package math/big: a power of ten. -/
import Derived.Test.YthjokmfidhcclaaGreatDoorWordP
namespace Go.Proofs.YthjokmfidhcclaaGreatDoor
open Go.RowKit

/-- A whole number of math/big that is nought and has no room. -/
def GZero (w : World) (p : Nat) : Prop := w.heap[p]? = some (.cells #[.bool false, .slice none 0 0] 40 (0, 0))

theorem GInt.later {w w' : World} {p : Nat} {n : Int} (h : GInt w p n) (hk : Keeps (fun _ => False) w w') : GInt w' p n := by
  obtain ⟨v, h1, h2⟩ := h
  exact ⟨v, hk.blk h1, h2.later hk⟩

theorem digs_ten_pos (e : Nat) : (0 : Int) < ((digs 18446744073709551616 (10 ^ e)).length : Int) := by
  have : 0 < (digs 18446744073709551616 (10 ^ e)).length := by rw [digs_pos (by omega) (Nat.pow_pos (by omega))]; simp
  omega

theorem BN.slice {w : World} {v : Value} {n : Nat} (h : BN w v n) : ∃ A c, v = .slice A (digs 18446744073709551616 n).length c := by
  rcases h with ⟨h1, h2⟩ | ⟨g, L, h1, _⟩
  · rw [h2]; exact ⟨none, 0, h1⟩
  · exact ⟨_, _, h1⟩

set_option maxRecDepth 100000 in
set_option maxHeartbeats 4000000 in
theorem gexp_any {w : World} {pz px py e : Nat} (ht : Thr w) (hz : GZero w pz) (hx : GInt w px 10) (hy : GInt w py e) (he : e < 128) :
    Calls Tryz.prog 48 #[.pointer (some ⟨pz, 0, none⟩), .pointer (some ⟨px, 0, none⟩), .pointer (some ⟨py, 0, none⟩), .pointer none, .bool false] w fun e' w' => e' = .returned (.pointer (some ⟨pz, 0, none⟩)) ∧ GInt w' pz ((10 ^ e : Nat) : Int) ∧ Keeps (fun k => k = pz) w w' := by
  obtain ⟨vx, hbx, hnx⟩ := hx
  obtain ⟨vy, hby, hny⟩ := hy
  simp only [Int.natAbs_natCast] at hny
  have hnx' : BN w vx 10 := hnx
  have HE := Lib.hid (expNN_any ht hnx' hny he)
  have dx : decide ((10 : Int) < 0) = false := rfl
  have dy : decide ((e : Int) < 0) = false := decide_eq_false (by omega)
  rw [dx] at hbx
  rw [dy] at hby
  unfold GZero at hz
  have z0 := cell_of_row w pz 0 _ _ _ hz
  have z1 := cell_of_row w pz 1 _ _ _ hz
  have x0 := cell_of_row w px 0 _ _ _ hbx
  have x1 := cell_of_row w px 1 _ _ _ hbx
  have y0 := cell_of_row w py 0 _ _ _ hby
  have y1 := cell_of_row w py 1 _ _ _ hby
  simp at z0 z1 x0 x1 y0 y1
  have HZ := Lib.hid hz; have HBX := Lib.hid hbx
  clear hz hbx hby hnx hnx' hny ht dx dy
  go_enter Tryz.func48, Tryz.ntmps48
  go_wp2_with (go_at_call 72; ((with_reducible refine HE.out.mono ?_); rintro e' w2 ⟨v, rfl, hbn, hk, hf⟩; (obtain ⟨A, c, rfl⟩ := hbn.slice); have hp0 := digs_ten_pos e; have HBN := Lib.hid hbn; have HK := Lib.hid hk; have HF := Lib.hid hf; have HZ2 := Lib.hid (hk.blk HZ.out); have z0 := hk.cell (fun h => h) z0; have z1 := hk.cell (fun h => h) z1; have x0 := hk.cell (fun h => h) x0; have zf0 := frozen_of_row w2 pz 0 _ _ HZ2.out; have zf1 := frozen_of_row w2 pz 1 _ _ HZ2.out; have zl := row_lt HZ2.out; clear hbn hk hf))
  go_ret
  have hk9 : Keeps (fun k => k = pz) w2 ((w2.setCell ⟨pz, 1, none⟩ (.slice A (digs 18446744073709551616 (10 ^ e)).length c)).setCell ⟨pz, 0, none⟩ (.bool false)) := ((Keeps.refl (fun k => k = pz) w2).setCell (p := ⟨pz, 1, none⟩) (.inl rfl) _).setCell (p := ⟨pz, 0, none⟩) (.inl rfl) _
  have hb1 := setCell_blk (k := 1) (u := .slice A (digs 18446744073709551616 (10 ^ e)).length c) HZ2.out
  have hb2 := setCell_blk (k := 0) (u := .bool false) hb1
  refine ⟨rfl, ⟨.slice A (digs 18446744073709551616 (10 ^ e)).length c, ?_, ?_⟩, (HK.out.mono (S' := fun k => k = pz) fun _ h => h.elim).trans hk9 fun _ h => .inl h⟩
  · rw [hb2, decide_eq_false (Int.not_lt.2 (Int.natCast_nonneg _))]; rfl
  · rw [Int.natAbs_natCast]
    exact Buf.kept HBN.out hk9 fun g hg hh => by
      have := HF.out g hg
      have := row_lt HZ.out
      omega

set_option maxRecDepth 100000 in
set_option maxHeartbeats 4000000 in
theorem gExp_any {w : World} {pz px py e : Nat} (ht : Thr w) (hz : GZero w pz) (hx : GInt w px 10) (hy : GInt w py e) (he : e < 128) :
    Calls Tryz.prog 30 #[.pointer (some ⟨pz, 0, none⟩), .pointer (some ⟨px, 0, none⟩), .pointer (some ⟨py, 0, none⟩), .pointer none] w fun e' w' => e' = .returned (.pointer (some ⟨pz, 0, none⟩)) ∧ GInt w' pz ((10 ^ e : Nat) : Int) ∧ Keeps (fun k => k = pz) w w' := by
  have H := Lib.hid (gexp_any ht hz hx hy he)
  clear ht hz hx hy
  go_enter Tryz.func30, Tryz.ntmps30
  go_wp2_with (go_at_call 48; ((with_reducible refine H.out.mono ?_); rintro e' w2 ⟨rfl, h2, h3⟩; have H2 := Lib.hid h2; have H3 := Lib.hid h3; clear h2 h3))
  go_ret
  exact ⟨rfl, H2.out, H3.out⟩

end Go.Proofs.YthjokmfidhcclaaGreatDoor
