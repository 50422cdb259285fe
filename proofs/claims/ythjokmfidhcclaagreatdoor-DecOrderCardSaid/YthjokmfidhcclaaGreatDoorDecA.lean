/- What is wrong with a decimal. -/
import Derived.Test.YthjokmfidhcclaaGreatDoorKeep
import Derived.Test.YthjokmfidhcclaaGreatDoorDec
namespace Go.Proofs.YthjokmfidhcclaaGreatDoor
open Go.RowKit

theorem wrongD_3 {c x : Int} (h : c > 999999999999999999 ∨ c < -999999999999999999 ∨ x > 40 ∨ x < -40) : wrongD ⟨c, x⟩ = 3 := if_pos h
theorem wrongD_2 {c x : Int} (h : ¬ (c > 999999999999999999 ∨ c < -999999999999999999 ∨ x > 40 ∨ x < -40)) (h2 : (c = 0 ∧ x ≠ 0) ∨ (c ≠ 0 ∧ c.tmod 10 = 0)) : wrongD ⟨c, x⟩ = 2 := by
  unfold wrongD
  rw [if_neg h, if_pos h2]
theorem wrongD_0 {c x : Int} (h : ¬ (c > 999999999999999999 ∨ c < -999999999999999999 ∨ x > 40 ∨ x < -40)) (h2 : ¬ ((c = 0 ∧ x ≠ 0) ∨ (c ≠ 0 ∧ c.tmod 10 = 0))) : wrongD ⟨c, x⟩ = 0 := by
  unfold wrongD
  rw [if_neg h, if_neg h2]

set_option maxRecDepth 100000 in
set_option maxHeartbeats 4000000 in
theorem decWrong_any {w : World} (d : DecV) :
    Calls Tryz.prog 5 #[.agg #[.int .i64 d.coef, .int .i64 d.exp]] w fun e w' => e = .returned (.int .i64 (wrongD d)) ∧ Keeps (fun _ => False) w w' := by
  obtain ⟨c, x⟩ := d
  show Calls Tryz.prog 5 #[.agg #[.int .i64 c, .int .i64 x]] w _
  go_enter Tryz.func5, Tryz.ntmps5
  go_wp2
  all_goals
    go_ret
    refine ⟨ret_int ?_, (Keeps.refl _ w).alloc _⟩
    first | (refine (wrongD_3 ?_).symm; omega; done) | (refine (wrongD_2 ?_ ?_).symm; (omega); (simp_all; done)) | (refine (wrongD_0 ?_ ?_).symm; (omega); first | (simp_all; done) | (rename_i hm; rintro (⟨h, _⟩ | ⟨_, h⟩); exact hm (by rw [h]; rfl); exact hm h))

end Go.Proofs.YthjokmfidhcclaaGreatDoor
