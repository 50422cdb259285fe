/- The listed variables give the walk its tables; one input that fits. -/
import Derived.Test.YthjokmfidhcclaaGreatDoorCards
import Derived.Test.YthjokmfidhcclaaGreatDoorOpenO
import Derived.Test.YthjokmfidhcclaaGreatDoorOrdA
import Derived.Lib.LaidU8T
import Derived.PinnedBridge
import Derived.Lay
import Derived.LaidMore
import Derived.WalkKit
import Derived.ProofKit
import Derived.OpenShut
import Derived.Below
import Derived.SevenTiedAt
import Derived.Stop.Joined
namespace Go.Proofs.YthjokmfidhcclaaGreatDoor
open Go.ChangeShapes Go.WideShapes Go.ChangeAt Go.RowKit Go.Lib
theorem own : ownKnob Tryz.prog.godebug = none := by kernel_rfl
theorem laidOut : laidOutB Tryz.prog = true := by kernel_rfl

/-- A listed number lies in its variable's cell. -/
theorem int_reads {w : World} {n : String} {z : Int} {g : Nat} (h : VarReads Tryz.prog w n (.lit (.int .i64 z))) (hg : Tryz.prog.globalNamed n = some g) (hy : (Tryz.prog.globals[g]?).map (·.type) = some 3) : w.cell? ⟨g, 0, none⟩ = some (.int .i64 z) := by
  obtain ⟨g', t, cs, fuel, p, hg', hty, hvar, hd⟩ := h
  obtain rfl := Option.some.inj (hg.symm.trans hg')
  obtain rfl := Option.some.inj (hy.symm.trans hty)
  obtain ⟨z', e1, e2, _⟩ := DataW.trod_int Tryz.underlying3 hd
  have hz : z' = z := by
    have := congrArg Prod.fst e2
    simpa using this.symm
  subst hz
  rw [World.var?_cell hg' hvar 0, ← Array.getElem?_toList, e1]
  rfl

set_option maxRecDepth 100000 in
/-- What the listed variables give the walk. -/
theorem thr_of_laid {W : World} (h : laidMetH Tryz.prog Rows.decOrderRow.laid W) : Thr W := by
  rw [MakeChecks.laidMetH_plain _ _ _ (by kernel_rfl)] at h
  have hm : ∀ n d, (n, d) ∈ Rows.decOrderRow.laid → VarReads Tryz.prog W n d := fun n d hm => Lib.laidMet.reads h hm
  exact ⟨int_reads (hm "math/big.basicSqrThreshold" _ (by simp only [Rows.decOrderRow]; exact .tail _ (.tail _ (.tail _ (.tail _ (.tail _ (.head _))))))) (by kernel_rfl) (by kernel_rfl),
    int_reads (hm "math/big.karatsubaSqrThreshold" _ (by simp only [Rows.decOrderRow]; exact .tail _ (.tail _ (.tail _ (.tail _ (.tail _ (.tail _ (.head _)))))))) (by kernel_rfl) (by kernel_rfl),
    int_reads (hm "math/big.karatsubaThreshold" _ (by simp only [Rows.decOrderRow]; exact .tail _ (.tail _ (.tail _ (.tail _ (.head _)))))) (by kernel_rfl) (by kernel_rfl)⟩

set_option maxRecDepth 100000 in
/-- One input that fits. -/
theorem decOrder_witness (os : Os) (H : Type) (enc : TypeId × Value → H) :
    ∃ (w : World) (tape : Tape) (i : Input), w.os = os ∧ (w.forCall tape i).Shaped Tryz.checked.prog ∧ i.vars = [] ∧ Input.okWide Tryz.checked.prog (w.forCall tape i) .any w.heap.size 3 i ∧
      ((Rows.decOrderSpec.pre enc Tryz.checked.prog Tryz.f3 Rows.decOrderRow.domain false (w.forCall tape i).memory i.args ∧ laidMetH Tryz.prog Rows.decOrderRow.laid (w.forCall tape i).memory) ∧ sizedMet enc Tryz.checked.prog Tryz.f3 (OpenSpec.ofChange Rows.decOrderSpec) false (w.forCall tape i).memory i.args) ∧ ({ modest := false } : Assume).holds Tryz.checked.prog (lone (Frame.enter Tryz.checked.prog 3 i.args .normal) [] (w.forCall tape i)) :=
  ChangeSpec.witness_shaped (enc := enc) (C := Tryz.checked) (os := os) (X := fun w _ => laidMetH Tryz.prog Rows.decOrderRow.laid w) false (World.laidAll Tryz.prog os Rows.decOrderRow.laid)
      #[.agg #[.int .i64 0, .int .i64 0], .agg #[.int .i64 0, .int .i64 0], .agg #[.int .i64 0, .int .i64 0]] 8 (World.laidAll_os _ _ _)
      (World.shaped_of_ZipB (by kernel_rfl) (by kernel_rfl)) (by kernel_rfl) (by kernel_rfl) (by kernel_rfl)
      (by rw [MakeChecks.laidMetH_plain _ _ _ (by kernel_rfl)]; exact laidMet_laidAll _ (by kernel_rfl) (by kernel_rfl))

end Go.Proofs.YthjokmfidhcclaaGreatDoor
