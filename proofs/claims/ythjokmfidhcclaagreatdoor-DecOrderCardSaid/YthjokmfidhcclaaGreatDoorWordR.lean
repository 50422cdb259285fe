/- Package dec: a power of ten. -/
import Derived.Test.YthjokmfidhcclaaGreatDoorWordQ
namespace Go.Proofs.YthjokmfidhcclaaGreatDoor
open Go.RowKit

set_option maxRecDepth 100000 in
set_option maxHeartbeats 4000000 in
theorem dten_any {w : World} {e : Nat} (ht : Thr w) (he : e < 128) :
    Calls Tryz.prog 15 #[.int .i64 e] w fun e' w' => ∃ p, e' = .returned (.pointer (some ⟨p, 0, none⟩)) ∧ GInt w' p ((10 ^ e : Nat) : Int) ∧ Keeps (fun _ => False) w w' ∧ w.heap.size ≤ p := by
  obtain ⟨w1, hw1⟩ : ∃ w1, w.alloc (.cells #[.bool false, .slice none 0 0] 40) = w1 := ⟨_, rfl⟩
  have hz : GZero w1 w.heap.size := by rw [← hw1]; exact heap_alloc_new _ _
  have hk1 : Keeps (fun _ => False) w w1 := by rw [← hw1]; exact (Keeps.refl _ _).alloc _
  have HN1 := Lib.hid (gNewInt_any (w := w1) 10 (by omega) (by omega))
  have HN2 := Lib.hid (fun W : World => gNewInt_any (w := W) (e : Int) (by omega) (by omega))
  have HE := Lib.hid (fun (W : World) (px py : Nat) (hk : Keeps (fun _ => False) w1 W) (hx : GInt W px 10) (hy : GInt W py e) => gExp_any (ht.later (hk1.trans hk fun _ h => .inl h)) (show GZero W w.heap.size from hk.blk hz) hx hy he)
  have HK1 := Lib.hid hk1
  clear hz hk1 ht
  go_enter Tryz.func15, Tryz.ntmps15
  go_wp2_with (first
    | (go_at_call 13; ((with_reducible refine HN1.out.mono ?_); rintro e' w2 ⟨px, rfl, hx, hk2, _⟩; have HX := Lib.hid hx; have HK2 := Lib.hid hk2; clear hx hk2))
    | (go_at_call 13; ((with_reducible refine (HN2.out w2).mono ?_); rintro e' w3 ⟨py, rfl, hy, hk3, _⟩; have HY := Lib.hid hy; have HX3 := Lib.hid (HX.out.later hk3); have HK3 := Lib.hid (HK2.out.trans hk3 fun _ h => .inl h); clear hy hk3))
    | (go_at_call 30; ((with_reducible refine (HE.out w3 px py HK3.out HX3.out HY.out).mono ?_); rintro e' w4 ⟨rfl, h4, hk4⟩; have H4 := Lib.hid h4; have HK4 := Lib.hid hk4; clear h4 hk4)))
  go_ret
  exact ⟨_, rfl, H4.out, (HK1.out.trans HK3.out fun _ h => .inl h).trans HK4.out fun k hk => .inr (by omega), Nat.le_refl _⟩

end Go.Proofs.YthjokmfidhcclaaGreatDoor
