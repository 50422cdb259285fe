/- What a test says of a value, in halves (0 no, 1 not known, 2 yes); of which types it may be asked. No walk is here. -/
import Derived.Test.YtnihfhfakadepaaGreatDoorXTreeA
import Derived.Test.YtnihfhfakadepaaGreatDoorXRefA
namespace Go.Proofs.YtnihfhfakadepaaGreatDoor
open Go.RowKit

/-- Whether two values are the same (the second one no list). -/
def eqH (a b : Val) : Int :=
  if a.kind ≠ b.kind then (if a.kind = 1 ∨ b.kind = 1 then 0 else 1)
  else if a.kind = 2 then (if a.yes = b.yes then 2 else 0)
  else if a.kind = 3 then (if a.num.coef = b.num.coef ∧ a.num.exp = b.num.exp then 2 else 0)
  else if a.kind = 4 then (if a.text.toList = b.text.toList then 2 else 0)
  else 2

def lessH (a b : Val) : Int :=
  if a.kind = 3 ∧ b.kind = 3 then (if (cmpE a.num b.num).2 ≠ 0 then 1 else if (cmpE a.num b.num).1 < 0 then 2 else 0)
  else if a.kind = 4 ∧ b.kind = 4 then (if Op.bytesLess a.text.toList b.text.toList = true then 2 else 0)
  else 1

mutual
def doesT : Tst → Val → Int
  | .mk k a b oa ob _ kids, v =>
    if k = 2 then eqH v a
    else if k = 3 then lessH v a
    else if k = 4 then 2 - lessH a v
    else if k = 5 then lessH a v
    else if k = 6 then 2 - lessH v a
    else if k = 7 then min (if oa then lessH a v else 2 - lessH v a) (if ob then lessH v b else 2 - lessH b v)
    else if k = 8 then doesL kids v 0
    else if k = 9 then 2 - doesL kids v 0
    else 2
def doesL : List Tst → Val → Int → Int
  | [], _, n => n
  | t :: l, v, n => doesL l v (max n (doesT t v))
end

mutual
def fitsT : Tst → Int → Bool
  | .mk k a _ _ _ _ kids, ty =>
    if k = 1 then true
    else if k = 8 ∨ k = 9 then fitsL kids ty
    else if ty = 6 ∨ a.kind = 1 then true
    else if (a.kind = 2 ∧ ty = 2) ∨ (a.kind = 3 ∧ ty = 3) ∨ (a.kind = 4 ∧ ty = 4) then true else false
def fitsL : List Tst → Int → Bool
  | [], _ => true
  | t :: l, ty => if fitsT t ty then fitsL l ty else false
end

theorem eqH_bd (a b : Val) : 0 ≤ eqH a b ∧ eqH a b ≤ 2 := by
  unfold eqH
  repeat' split
  all_goals omega
theorem lessH_bd (a b : Val) : 0 ≤ lessH a b ∧ lessH a b ≤ 2 := by
  unfold lessH
  repeat' split
  all_goals omega
mutual
theorem doesT_bd : ∀ (t : Tst) (v : Val), 0 ≤ doesT t v ∧ doesT t v ≤ 2
  | .mk k a b oa ob kv kids, v => by
    have h1 := eqH_bd v a
    have h2 := lessH_bd v a
    have h3 := lessH_bd a v
    have h4 := lessH_bd v b
    have h5 := lessH_bd b v
    have h6 := doesL_bd kids v 0 (by omega) (by omega)
    unfold doesT
    repeat' split
    all_goals omega
theorem doesL_bd : ∀ (l : List Tst) (v : Val) (n : Int), 0 ≤ n → n ≤ 2 → 0 ≤ doesL l v n ∧ doesL l v n ≤ 2
  | [], _, n, h0, h2 => by unfold doesL; exact ⟨h0, h2⟩
  | t :: l, v, n, h0, h2 => by
    have h := doesT_bd t v
    unfold doesL
    exact doesL_bd l v _ (by omega) (by omega)
end

end Go.Proofs.YtnihfhfakadepaaGreatDoor
