/- Package math/big: a whole number made of a machine's number. -/
import Derived.Test.YthjokmfidhcclaaGreatDoorWordO
namespace Go.Proofs.YthjokmfidhcclaaGreatDoor
open Go.RowKit

/-- A whole number of math/big at block p. -/
def GInt (w : World) (p : Nat) (n : Int) : Prop := ∃ v, w.heap[p]? = some (.cells #[.bool (decide (n < 0)), v] 40 (0, 0)) ∧ BN w v n.natAbs

set_option maxRecDepth 100000 in
set_option maxHeartbeats 2000000 in
theorem gNewInt_zero {w : World} : Calls Tryz.prog 13 #[.int .i64 0] w fun e w' => ∃ p, e = .returned (.pointer (some ⟨p, 0, none⟩)) ∧ GInt w' p 0 ∧ Keeps (fun _ => False) w w' ∧ w.heap.size ≤ p := by
  go_enter Tryz.func13, Tryz.ntmps13
  go_wp2
  go_ret
  refine ⟨_, rfl, ⟨.slice none 0 0, ?_, ?_⟩, (Keeps.refl _ _).alloc _, Nat.le_refl _⟩
  · exact heap_alloc_new _ _
  · exact .inl ⟨rfl, digs_zero _⟩

theorem gint_made {w : World} {n : Nat} {z : Int} (h : 0 < n) (h2 : n < 18446744073709551616) (hz : z.natAbs = n) :
    GInt ((w.alloc (.cells #[.int .u64 (n : Int)] 51)).alloc (.cells #[.bool (decide (z < 0)), .slice (some ⟨w.heap.size, 0, none⟩) 1 1] 40)) (w.heap.size + 1) z := by
  refine ⟨.slice (some ⟨w.heap.size, 0, none⟩) 1 1, heap_alloc2 _ _ _, ?_⟩
  unfold BN
  rw [hz, digs_oneV h h2]
  have hb : Blk (w.alloc (.cells #[.int .u64 (n : Int)] 51)) w.heap.size [n] := ⟨heap_alloc_new _ _, by simp⟩
  exact Buf.take (m := 1) (hb.later ((Keeps.refl _ _).alloc _)) (by simp)

set_option maxRecDepth 100000 in
set_option maxHeartbeats 2000000 in
theorem gNewInt_pos {w : World} (n : Nat) (h : 0 < n) (h2 : n < 9223372036854775808) : Calls Tryz.prog 13 #[.int .i64 n] w fun e w' => ∃ p, e = .returned (.pointer (some ⟨p, 0, none⟩)) ∧ GInt w' p n ∧ Keeps (fun _ => False) w w' ∧ w.heap.size ≤ p := by
  have w1 : IntKind.u64.wrap (n : Int) = (n : Int) := by simp only [IntKind.wrap_u64]; omega
  have c1 : ¬ (n : Int) < 0 := by omega
  have c2 : ((n : Int) == 0) = false := by rw [beq_eq_false_iff_ne]; omega
  have HG := Lib.hid (gint_made (w := w) (z := (n : Int)) h (by omega) (by omega))
  rw [decide_eq_false c1] at HG
  go_enter Tryz.func13, Tryz.ntmps13
  go_wp2
  go_ret
  exact ⟨_, rfl, HG.out, ((Keeps.refl _ _).alloc _).alloc _, by omega⟩

set_option maxRecDepth 100000 in
set_option maxHeartbeats 2000000 in
theorem gNewInt_neg {w : World} (n : Nat) (h : 0 < n) (h2 : n < 9223372036854775808) : Calls Tryz.prog 13 #[.int .i64 (-(n : Int))] w fun e w' => ∃ p, e = .returned (.pointer (some ⟨p, 0, none⟩)) ∧ GInt w' p (-(n : Int)) ∧ Keeps (fun _ => False) w w' ∧ w.heap.size ≤ p := by
  obtain ⟨z, hz⟩ : ∃ z : Int, -(n : Int) = z := ⟨_, rfl⟩
  rw [hz]
  obtain ⟨m, hm⟩ : ∃ m : Nat, IntKind.u64.wrap z = (m : Int) := ⟨(IntKind.u64.wrap z).toNat, by simp only [IntKind.wrap_u64]; omega⟩
  have w2 : IntKind.u64.wrap (-(m : Int)) = (n : Int) := by rw [← hm]; simp only [IntKind.wrap_u64]; omega
  have c1 : z < 0 := by omega
  have c2 : (z == 0) = false := by rw [beq_eq_false_iff_ne]; omega
  have HG := Lib.hid (gint_made (w := w) (n := n) (z := z) h (by omega) (by omega))
  rw [decide_eq_true c1] at HG
  clear hz
  go_enter Tryz.func13, Tryz.ntmps13
  go_wp2
  go_ret
  exact ⟨_, rfl, HG.out, ((Keeps.refl _ _).alloc _).alloc _, by omega⟩

theorem gNewInt_any {w : World} (z : Int) (h1 : -9223372036854775808 < z) (h2 : z < 9223372036854775808) : Calls Tryz.prog 13 #[.int .i64 z] w fun e w' => ∃ p, e = .returned (.pointer (some ⟨p, 0, none⟩)) ∧ GInt w' p z ∧ Keeps (fun _ => False) w w' ∧ w.heap.size ≤ p := by
  rcases (show z = 0 ∨ 0 < z ∨ z < 0 by omega) with h | h | h
  · subst h; exact gNewInt_zero
  · obtain ⟨n, rfl⟩ : ∃ n : Nat, z = n := ⟨z.toNat, by omega⟩
    exact gNewInt_pos n (by omega) (by omega)
  · obtain ⟨n, rfl⟩ : ∃ n : Nat, z = -(n : Int) := ⟨(-z).toNat, by omega⟩
    exact gNewInt_neg n (by omega) (by omega)

end Go.Proofs.YthjokmfidhcclaaGreatDoor
