/- Small lemmas: what is quiet, what is fresh; signs of comparisons; what a comparison hands back. No walk is here. -/
import Derived.Test.YthjokmfidhcclaaGreatDoorFirstg
import Derived.Test.YthjokmfidhcclaaGreatDoorMulp
import Derived.Test.YthjokmfidhcclaaGreatDoorDec
import Derived.Laws.BitsAllLaws
import Derived.Laws.AppendOwnNone
import Derived.Deep.QuietTactic
import Derived.BigQuiet
import Derived.Deep.CutBlock
import Derived.Deep.DeepCutAuto
namespace Go.Proofs.YthjokmfidhcclaaGreatDoor
open Go.RowKit

theorem quiet_add {P : Program} {f : FuncId} {args : Array Value} {w : World} {a n : Nat} {v : Value}
    (h : Calls P f args (w.drewN (a + n)) fun e w' => e = .returned v ∧ ∃ m, w' = (w.drewN (a + n)).drewN m) :
    Calls P f args (w.drewN (a + n)) fun e w'' => e = .returned v ∧ ∃ m, w'' = w.drewN (a + m) :=
  h.mono fun _ _ ⟨he, m, hm⟩ => ⟨he, n + m, by rw [hm, World.drewN_drewN, Nat.add_assoc]⟩

theorem cmpN_bd (n m : Nat) : -1 ≤ cmpN n m ∧ cmpN n m ≤ 1 := by unfold cmpN; split <;> (try split) <;> omega
theorem cmpI_neg_pos {x y : Int} (h : x < 0) (h2 : ¬ y < 0) : cmpI x y = -1 := by unfold cmpI; rw [if_pos (by omega)]
theorem cmpI_pos_neg {x y : Int} (h : ¬ x < 0) (h2 : y < 0) : cmpI x y = 1 := by unfold cmpI; rw [if_neg (by omega), if_neg (by omega)]
theorem cmpI_pos {x y : Int} (h : ¬ x < 0) (h2 : ¬ y < 0) : cmpI x y = cmpN x.natAbs y.natAbs := by
  unfold cmpI cmpN
  split <;> split <;> (try split) <;> (try split) <;> omega
theorem cmpI_neg {x y : Int} (h : x < 0) (h2 : y < 0) : cmpI x y = - cmpN x.natAbs y.natAbs := by
  unfold cmpI cmpN
  split <;> split <;> (try split) <;> (try split) <;> omega

theorem row_lt {w : World} {b : Nat} {o : Obj} (h : w.heap[b]? = some o) : b < w.heap.size := (Array.getElem?_eq_some_iff.1 h).1

theorem Keeps.fresh {w w1 w' : World} {p : Nat} (h1 : Keeps (fun _ => False) w w1) (h : Keeps (fun k => k = p) w1 w') (hp : w.heap.size ≤ p) : Keeps (fun _ => False) w w' :=
  h1.trans h fun _ hk => .inr (hk ▸ hp)

/-- What a comparison hands back: the order, and what is wrong. -/
def cmpE (a b : DecV) : Int × Int := if wrongD a ≠ 0 then (0, wrongD a) else if wrongD b ≠ 0 then (0, wrongD b) else (cmpD a b, 0)

end Go.Proofs.YthjokmfidhcclaaGreatDoor
