/- Package verdictbig: long division, all that is met; the greatest common divisor. The law TestsTell, walked: whatever the test, the value and the type, it answers yes. -/
import Derived.Test.YtnihfhfakadepaaGreatDoorXBigK
import Derived.Test.YtnihfhfakadepaaGreatDoorXLawB
import Derived.Test.YtnihfhfakadepaaGreatDoorXLawC
import Derived.Test.YtnihfhfakadepaaGreatDoorXFitsA
import Derived.Test.YtnihfhfakadepaaGreatDoorXDoesA
import Derived.Test.YtnihfhfakadepaaGreatDoorXDoesB
import Derived.Test.YtnihfhfakadepaaGreatDoorXTstB
namespace Go.Proofs.YtnihfhfakadepaaGreatDoor
open Go.RowKit

theorem div_any {w : World} {v1 v2 : Value} {a b : Nat} (h1 : N32 w v1 a) (h2 : N32 w v2 b) (hl : (digs 4294967296 a).length ≤ 390) (hb : 0 < b) (hs : a < b ∨ b < 18446744073709551616) :
    Calls Tryz.prog 81 #[v1, v2] w (Divided w a b) := by
  by_cases h : a < b
  · exact div_less h1 h2 (by omega) h
  · by_cases ha : a < 18446744073709551616
    · exact div_plain h1 h2 ha hb (by omega)
    · by_cases hb2 : b < 4294967296
      · exact div_one h1 h2 (by omega) (by omega) hb hb2
      · exact div_two h1 h2 hl (by omega) (by omega) (by omega)

end Go.Proofs.YtnihfhfakadepaaGreatDoor
namespace Go.Proofs.YtnihfhfakadepaaGreatDoor
open Go.RowKit

theorem testsTell_walk {w : World} {t : Tst} {v : Val} (hto : TOk w t) (hv : VOk w (fun _ => False) v) (ht : Tabs w) (ty : Int) (Ay : Option Addr) (ny cy : Nat) :
    Calls Tryz.prog 3 #[.agg t.cells.toArray, .agg v.cells.toArray, .agg #[.int .i64 ty, .slice Ay ny cy]] w fun e w' => e = .returned (.bool true) ∧ Keeps (fun _ => False) w w' := by
  have hdiv : DivSays := fun h1 h2 hl hb hs => div_any h1 h2 hl hb hs
  have hvs : ∃ A n c, v.lv = .slice A n c := by obtain ⟨_, _, _, _, lv, _⟩ := v; exact hv.slice
  have hW : ∀ W, Keeps (fun _ => False) w W → Says 4 #[.agg t.cells.toArray] W (wrongT t 1) := fun W hk => tWrong_any (TOk.later hk _ hto) (ht.later hk)
  have hR5 : ∀ W, Keeps (fun _ => False) w W → Says 5 #[.agg t.cells.toArray] W (wrongT t 1) := fun W hk => rTWrong_any hdiv (TOk.later hk _ hto) (ht.later hk)
  have hD := fun (W : World) (hk : Keeps (fun _ => False) w W) => does_any (TOk.later hk _ hto) (hv.later hk) (ht.later hk)
  have hR7 := fun (W : World) (hk : Keeps (fun _ => False) w W) => rwrong_any (hv.later hk) (ht.later hk)
  have hR10 := fun (h : wrongT t 1 = 0) (W : World) (hk : Keeps (fun _ => False) w W) => rdoes_any hdiv (SizeOf.sizeOf t + 1) t (by omega) W v (TOk.later hk _ hto) (good_of_right t 1 h) hvs
  have hF11 := fun (h : wrongT t 1 = 0) (W : World) (hk : Keeps (fun _ => False) w W) => fits_any (SizeOf.sizeOf t + 1) t (by omega) W ty Ay ny cy (TOk.later hk _ hto) (good_of_right t 1 h) (fit_of_right t 1 h)
  have hF12 := fun (h : wrongT t 1 = 0) (W : World) (hk : Keeps (fun _ => False) w W) => rfits_any (SizeOf.sizeOf t + 1) t (by omega) W ty Ay ny cy (TOk.later hk _ hto) (good_of_right t 1 h)
  have hb := doesT_bd t v
  by_cases hT : wrongT t 1 = 0
  · by_cases hV : wrongV v = 0
    · exact law_c hto hv _ (wrongV v) _ ty _ Ay ny cy hb.1 hb.2 hW hR5 hD hR7 hR10 hF11 hF12 ⟨hT, hV⟩
    · exact law_b hto hv _ (wrongV v) _ ty _ Ay ny cy hb.1 hb.2 hW hR5 hD hR7 hR10 hF11 hF12 ⟨hT, hV⟩
  · exact law_a hto hv _ (wrongV v) _ ty _ Ay ny cy hb.1 hb.2 hW hR5 hD hR7 hR10 hF11 hF12 hT

end Go.Proofs.YtnihfhfakadepaaGreatDoor
