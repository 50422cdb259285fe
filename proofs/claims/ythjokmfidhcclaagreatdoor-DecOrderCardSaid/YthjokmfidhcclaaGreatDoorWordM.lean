/- Package math/big: a power, its exponent of one small word. -/
import Derived.Test.YthjokmfidhcclaaGreatDoorWordL
import Derived.Defers
namespace Go.Proofs.YthjokmfidhcclaaGreatDoor
open Go.RowKit

set_option maxRecDepth 100000 in
set_option maxHeartbeats 2000000 in
theorem free_d {w : World} {p : Nat} (u : FrameMode) (h : w.cell? ⟨p, 0, none⟩ = some (.pointer none)) :
    CallsD Tryz.prog 61 #[.pointer (some ⟨p, 0, none⟩)] u w fun e u' w' => u' = u ∧ (e = .returned (.tuple #[]) ∧ w' = w) := by
  go_enter_d Tryz.func61, Tryz.ntmps61
  go_wp2
  go_end0
  exact ⟨rfl, rfl⟩

/-- Two lists of words that change places: z is held, zz is room. -/
structure Pair (w1 wr : World) (vz : Value) (z : Nat) (vzz : Value) : Prop where
  bz : BN wr vz z
  bzz : ∃ l, Buf wr vzz l
  fz : ∀ g, vz.ownBlock = some g → w1.heap.size ≤ g
  fzz : ∀ g, vzz.ownBlock = some g → w1.heap.size ≤ g
  ne : ∀ g, vzz.ownBlock = some g → vz.ownBlock ≠ some g
  keep : Keeps (fun _ => False) w1 wr

theorem Pair.next {w1 wr w' : World} {vz vzz : Value} {z n : Nat} {e : Ending} (h : Pair w1 wr vz z vzz) (ht : Times wr vzz n e w') : ∃ v, e = .returned v ∧ Pair w1 w' v n vz := by
  obtain ⟨v, he, hb, hk, ho⟩ := ht
  have hsz := h.keep.size
  refine ⟨v, he, hb, ⟨_, h.bz.kept hk fun g hg hh => h.ne g hh hg⟩, fun g hg => ?_, h.fz, fun g hg hh => ?_, h.keep.trans hk fun k hk => .inr (h.fzz k hk)⟩
  · rcases ho g hg with h1 | h1
    · exact h.fzz g h1
    · omega
  · rcases ho g hh with h1 | h1
    · exact h.ne g h1 hg
    · have := h.bz.lt hg
      omega

theorem ten_lenV {k n j : Nat} (hk : k ≤ n) (hj : 10 ^ n < 18446744073709551616 ^ j) : (digs 18446744073709551616 (10 ^ k)).length ≤ j :=
  digs_length_le (by omega) _ _ (Nat.lt_of_le_of_lt (Nat.pow_le_pow_right (by omega) hk) hj)

end Go.Proofs.YthjokmfidhcclaaGreatDoor
