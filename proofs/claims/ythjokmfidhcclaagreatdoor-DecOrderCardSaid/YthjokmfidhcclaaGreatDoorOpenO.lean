/- The arguments of the law, read: three decimals, whatever lies in them. -/
import Derived.Test.YthjokmfidhcclaaGreatDoorKeep
import Derived.Test.YthjokmfidhcclaaGreatDoorDec
import Derived.Deep.Slices
import Derived.Deep.Fields
import Derived.ChangeSame
import Derived.OpenShut
namespace Go.Proofs.YthjokmfidhcclaaGreatDoor
open Go.RowKit Go.ChangeShapes Go.WideShapes Go.Deep

set_option maxRecDepth 100000 in
theorem dec_arg {H : Type} {enc : TypeId × Value → H} {w : World} {spare : Nat → Bool} {held : Bool} {r : Reach} {b0 : Nat} {v : Value} {d : DataW H} {p : List MemPlace} (hv : Value.okWide Tryz.prog w r b0 23 v) (h : DataW.Trod enc Tryz.prog w 0 spare held 23 v d p) : ∃ a : DecV, v = .agg #[.int .i64 a.coef, .int .i64 a.exp] := by
  obtain ⟨cs, rfl, hsz⟩ := okWide_struct Tryz.underlying23 hv
  obtain ⟨fuel, hf⟩ := h
  obtain ⟨l⟩ := cs
  obtain ⟨xs, n1, rfl, _, hcl, hlen, hf⟩ := DataW.trod_struct Tryz.underlying23 hf
  have hcl6 : l.length = 2 := hsz.trans (by kernel_rfl)
  have hlen : xs.length = 2 := hlen
  match l, hcl6 with
  | [c0, c1], _ =>
    have g0 : DataW.trod enc Tryz.prog w 0 spare held n1 2 (([c0, c1].drop 0).take (Tryz.prog.cellsOf 2)) = some _ := (hf 0 _ rfl).trans (List.getElem?_eq_getElem (by omega))
    have g1 : DataW.trod enc Tryz.prog w 0 spare held n1 3 (([c0, c1].drop 1).take (Tryz.prog.cellsOf 3)) = some _ := (hf 1 _ rfl).trans (List.getElem?_eq_getElem (by omega))
    simp only [show Tryz.prog.cellsOf 3 = 1 by kernel_rfl, show Tryz.prog.cellsOf 2 = 1 by kernel_rfl, List.drop_succ_cons, List.drop_zero, List.take_succ_cons, List.take_zero] at g0 g1
    obtain ⟨k, e0, _, _⟩ := DataW.trod_int Tryz.underlying2 g0
    simp only [List.cons.injEq, and_true] at e0
    subst e0
    obtain ⟨j, e1, _, _⟩ := DataW.trod_int Tryz.underlying3 g1
    simp only [List.cons.injEq, and_true] at e1
    subst e1
    exact ⟨⟨k, j⟩, rfl⟩

end Go.Proofs.YthjokmfidhcclaaGreatDoor
