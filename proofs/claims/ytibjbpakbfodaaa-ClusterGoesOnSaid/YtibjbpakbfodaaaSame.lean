/- SameItems, of two slices that hold the same items: true. -/
import Derived.Test.YtibjbpakbfodaaaRise
import Derived.Deep.LoopGhost
namespace Go.Proofs.Ytibjbpakbfodaaa
open Go.RowKit

set_option maxRecDepth 100000 in
set_option maxHeartbeats 2000000 in
theorem same_any {w : World} {S : Nat → Prop} {v1 v2 : Value} {l : List Itm} (h1 : Sl w S v1 2 (itemCells l)) (h2 : Sl w S v2 2 (itemCells l)) (hl : l.length ≤ 1000000) :
    Calls Try.prog 34 #[v1, v2] w fun e w' => e = .returned (.bool true) ∧ Keeps (fun _ => False) w w' := by
  obtain ⟨A, n, c, rfl, hn, hc1, hc2, hcell⟩ := h1
  obtain ⟨A2, n2, c', rfl, hn2, hc12, hc22, hcell2⟩ := h2
  obtain rfl : n = l.length := by rw [itemCells_length] at hn; omega
  obtain rfl : n2 = l.length := by rw [itemCells_length] at hn2; omega
  have H := Lib.hid (show Sl w S (.slice A l.length c) 2 (itemCells l) from ⟨A, l.length, c, rfl, hn, hc1, hc2, hcell⟩)
  have H2 := Lib.hid (show Sl w S (.slice A2 l.length c') 2 (itemCells l) from ⟨A2, l.length, c', rfl, hn2, hc12, hc22, hcell2⟩)
  clear hcell hcell2 hn hn2 hc2 hc22 hc1 hc12
  go_enter Try.func34, Try.ntmps34
  go_wp2_with fail
  go_loopw [13] (fun i wr => ∃ (j : Nat), j ≤ l.length ∧ i = .int .i64 j ∧ Keeps (fun _ => False) w wr) (fun i _ => match i with | .int _ j => l.length - j.toNat | _ => 0)
  case atStart => exact ⟨0, by omega, rfl, Keeps.refl _ _⟩
  case round =>
    obtain ⟨j, hj, rfl, hk⟩ := hrel
    have HK := Lib.hid hk
    have hsl := (H.out.keep hk (fun _ _ h => h.elim))
    have hsl2 := (H2.out.keep hk (fun _ _ h => h.elim))
    clear hk
    by_cases hlt : j < l.length
    · obtain ⟨b, off, rfl, hbS, i1, i2⟩ := hsl.item' hlt
      obtain ⟨b2, off2, rfl, hbS2, k1, k2⟩ := hsl2.item' hlt
      clear hsl hsl2 hbS hbS2
      generalize l[j] = it at *
      obtain ⟨tt, tc⟩ := it
      simp only at i1 i2 k1 k2
      go_upto_region 6 with fail
      go_quiet (fail)
      go_wp2_with fail
      go_roundw
      case measure => simp only; omega
      case rel => exact ⟨j + 1, by omega, by go_num, HK.out.trans ((Keeps.refl _ _).drewN _) (fun _ h => .inl h)⟩
    · have hj' : j = l.length := by omega
      subst hj'
      clear hsl hsl2
      go_wp2
      go_ret
      exact ⟨rfl, HK.out⟩
end Go.Proofs.Ytibjbpakbfodaaa
