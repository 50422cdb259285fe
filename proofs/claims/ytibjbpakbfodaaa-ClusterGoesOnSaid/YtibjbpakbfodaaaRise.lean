/- rising: do the terms of a log rise, from one on and up to a given one? -/
import Derived.Test.YtibjbpakbfodaaaAppA
import Derived.Deep.LoopGhost
namespace Go.Proofs.Ytibjbpakbfodaaa
open Go.RowKit

theorem Sl.item' {w : World} {S : Nat → Prop} {A : Option Addr} {n c : Nat} {l : List Itm} (h : Sl w S (.slice A n c) 2 (itemCells l)) {j : Nat} (hj : j < l.length) : ∃ b off, A = some ⟨b, off, none⟩ ∧ ¬ S b ∧ w.cell? ⟨b, off + j * 2, none⟩ = some (.int .i64 l[j].term) ∧ w.cell? ⟨b, off + j * 2 + 1, none⟩ = some (.int .i64 l[j].cmd) := by
  obtain ⟨A', n', c', e, hl, _, _, hc⟩ := h
  injection e with e1 e2 e3
  subst e1
  obtain ⟨b, off, rfl, hb, hcell⟩ := hc (by rw [itemCells_length]; omega)
  have g0 := flat_get (fun x : Itm => [Value.int .i64 x.term, Value.int .i64 x.cmd]) 2 (fun _ => rfl) l j l[j] 0 (List.getElem?_eq_getElem hj) (by omega)
  have g1 := flat_get (fun x : Itm => [Value.int .i64 x.term, Value.int .i64 x.cmd]) 2 (fun _ => rfl) l j l[j] 1 (List.getElem?_eq_getElem hj) (by omega)
  exact ⟨b, off, rfl, hb, hcell _ _ g0, by rw [Nat.add_assoc]; exact hcell _ _ g1⟩

set_option maxRecDepth 100000 in
set_option maxHeartbeats 2000000 in
theorem rising_any {w : World} {S : Nat → Prop} {lv : Value} {l : List Itm} (h : Sl w S lv 2 (itemCells l)) (hl : l.length ≤ 1000000) (most : Int) :
    Calls Try.prog 54 #[lv, .int .i64 most] w fun e w' => e = .returned (.bool (rising l most)) ∧ Keeps (fun _ => False) w w' := by
  obtain ⟨A, n, c, rfl, hn, hc1, hc2, hcell⟩ := h
  have hnl : n = l.length := by rw [itemCells_length] at hn; omega
  subst hnl
  have H := Lib.hid (show Sl w S (.slice A l.length c) 2 (itemCells l) from ⟨A, l.length, c, rfl, hn, hc1, hc2, hcell⟩)
  clear hcell hn hc2
  go_enter Try.func54, Try.ntmps54
  go_wp2_with fail
  go_loopw [5, 10] (fun a i wr => ∃ (j : Nat) (last : Int), j ≤ l.length ∧ i = .int .i64 j ∧ a = .int .i64 last ∧ riseTo 1 l = riseTo last (l.drop j) ∧ Keeps (fun _ => False) w wr) (fun a i _ => match i with | .int _ j => l.length - j.toNat | _ => 0)
  case atStart => exact ⟨0, 1, by omega, rfl, rfl, rfl, Keeps.refl _ _⟩
  case round =>
    obtain ⟨j, last, hj, rfl, rfl, hr, hk⟩ := hrel
    have HR := Lib.hid hr; have HK := Lib.hid hk
    have hsl := (H.out.keep hk (fun _ _ h => h.elim))
    clear hr hk
    by_cases hlt : j < l.length
    · obtain ⟨b, off, rfl, hbS, i1, i2⟩ := hsl.item' hlt
      have hbl := cell_lt i1
      have hdr : l.drop j = l[j] :: l.drop (j + 1) := List.drop_eq_getElem_cons hlt
      have HDR := Lib.hid hdr
      clear hdr hsl
      generalize l[j] = it at *
      obtain ⟨tt, tc⟩ := it
      simp only at i1 i2
      have K1 := Lib.hid ((Keeps.refl (fun _ => False) wr).alloc (.cells #[.int .i64 tt, .int .i64 tc] 44))
      by_cases h1 : tt < last
      · have hres : rising l most = false := by unfold rising; rw [HR.out, HDR.out]; simp only [riseTo, if_pos h1]
        have HRES := Lib.hid hres
        clear hres
        go_wp2_with fail
        go_ret
        exact ⟨ret_bool HRES.out.symm, HK.out.trans K1.out (fun _ h => .inl h)⟩
      · go_wp2_with fail
        go_roundw
        case measure => simp only; omega
        case rel => exact ⟨j + 1, tt, by omega, by go_num, rfl, by rw [HR.out, HDR.out]; simp only [riseTo, if_neg h1], HK.out.trans K1.out (fun _ h => .inl h)⟩
    · have hj' : j = l.length := by omega
      subst hj'
      have hres : rising l most = decide (last ≤ max 1 most) := by unfold rising; rw [HR.out, List.drop_length]; rfl
      have HRES := Lib.hid hres
      clear hres hsl
      by_cases h1 : 1 < most
      · by_cases h2 : last ≤ most
        · go_wp2
          go_ret
          exact ⟨by rw [HRES.out]; simp; omega, HK.out⟩
        · go_wp2
          go_ret
          exact ⟨by rw [HRES.out]; simp; omega, HK.out⟩
      · by_cases h2 : last ≤ 1
        · go_wp2
          go_ret
          exact ⟨by rw [HRES.out]; simp; omega, HK.out⟩
        · go_wp2
          go_ret
          exact ⟨by rw [HRES.out]; simp; omega, HK.out⟩
end Go.Proofs.Ytibjbpakbfodaaa
