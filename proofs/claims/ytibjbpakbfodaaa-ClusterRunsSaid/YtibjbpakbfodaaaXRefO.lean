/- RaftReceives, walked: what the package makes of any message, and what the document's answer does, is one. -/
import Derived.Test.YtibjbpakbfodaaaXRefNa
import Derived.Test.YtibjbpakbfodaaaXRefNb
import Derived.Test.YtibjbpakbfodaaaXRefNc
import Derived.Test.YtibjbpakbfodaaaXRefNd
import Derived.Test.YtibjbpakbfodaaaXExpb
namespace Go.Proofs.Ytibjbpakbfodaaa
open Go.RowKit

theorem receiveR_any {w : World} {Q : Nat → Prop} {x : NodV} {m : MesV} (h : NodeOk w Q x) (hQ : ∀ k, Q k → k < w.heap.size) (hs : Sized x.n) (hm : MesOk w Free m) (hi : m.m.items.length ≤ 2000000) :
    Calls Try.prog 31 #[.agg (nodCells x).toArray, .agg (mesCells m).toArray] w (HandsR w Q (receive x.n m.m).1 (receive x.n m.m).2) := by
  by_cases h1 : m.m.kind = 1
  · exact receiveR_k1 h hQ hs hm hi h1
  by_cases h2 : m.m.kind = 2
  · exact receiveR_k2 h hQ hs hm hi h2
  by_cases h3 : m.m.kind = 3
  · exact receiveR_k3 h hQ hs hm hi h3
  · exact receiveR_k4 h hQ hs hm hi ⟨h1, h2, h3⟩

theorem receive_few (x : Nod) (m : Mes) : (receive x m).2.length ≤ 10 := by
  by_cases h : wrong x ≠ 0 ∨ lost x m = true
  · unfold receive; rw [if_pos h]; simp
  · have hw : wrong x = 0 := by omega
    have hl : lost x m = false := by cases hl : lost x m; rfl; exact absurd (.inr hl) h
    rw [receive_turned hw hl]
    obtain ⟨hg, _⟩ := received_fits (good_of_wrong hw) hl
    generalize (if x.term < m.term then follow x m.term 0 else x) = y at hg
    have := hg.n5
    unfold turned
    split
    · simp [asked]
    split
    · unfold voted
      split
      · simp
      · have := leadSays_len { y with votes := insertB m.src y.votes }
        simp only at this ⊢
        omega
    split
    · unfold appended
      split
      · simp
      · simp only
        split <;> simp
    · unfold told
      split
      · simp
      split
      · simp only
        split <;> simp
      · simp
theorem receive_sized {x : Nod} (m : Mes) (h : Sized x) : Sized (receive x m).1 := by
  by_cases hw : wrong x = 0
  · exact sized_good (received_good (good_of_wrong hw))
  · have : receive x m = (x, []) := by unfold receive; rw [if_pos (.inl hw)]
    rw [this]; exact h

end Go.Proofs.Ytibjbpakbfodaaa
