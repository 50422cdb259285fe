/- The closed fact 'alive', walked. -/
import Derived.Test.YtibjbpakbfodaaaExpc
namespace Go.Proofs.Ytibjbpakbfodaaa
open Go.RowKit
theorem timeout_start : timeout (start 1 3) = (⟨1, 3, 1, 1, [], 0, 2, 0, [1], [], []⟩, [⟨1, 1, 2, 1, 0, 0, 0, [], false⟩, ⟨1, 1, 3, 1, 0, 0, 0, [], false⟩]) := by
  rfl

set_option maxRecDepth 100000 in
set_option maxHeartbeats 8000000 in
theorem alive_any (w : World) : Calls Try.prog 33 #[] w fun e w' => e = .returned (.bool true) ∧ Keeps Free w w' := by
  have hto : ∀ w1, Calls Try.prog 20 #[.agg #[.int .i64 1, .int .i64 3, .int .i64 0, .int .i64 0, .slice none 0 0, .int .i64 0, .int .i64 1, .int .i64 0, .slice none 0 0, .slice none 0 0, .slice none 0 0]] w1 (Hands w1 (timeout (start 1 3)).1 (timeout (start 1 3)).2) := fun w1 => timeout_any (started_ok w1 1 3)
  have HTO := Lib.hid hto
  clear hto
  go_enter Try.func33, Try.ntmps33
  go_wp2_with fail
  refine (start_any w 1 3).mono ?_
  rintro e w1 ⟨rfl, hk1⟩
  simp only [nodCells, start]
  go_wp2_with fail
  refine (HTO.out w1).mono ?_
  rintro e w2 ⟨x, ov, out, rfl, hx, hso, hn, hm, hk2⟩
  have HK := Lib.hid (hk1.trans hk2 (fun _ h => .inl h))
  rw [timeout_start] at hx hso
  obtain ⟨n, lv, vv, nv, mv⟩ := x
  have hx : n = ⟨1, 3, 1, 1, [], 0, 2, 0, [1], [], []⟩ := hx
  subst hx
  obtain ⟨⟨XA, XL, XC, rfl, -⟩, ⟨VA', VL', VC', rfl, -⟩, ⟨NA', NL', NC', rfl, -⟩, ⟨MA', ML', MC', rfl, -⟩⟩ := hn
  have hlen : out.length = 2 := by have := congrArg List.length hso; simpa [said] using this
  obtain ⟨s1, s2, rfl⟩ : ∃ s1 s2, out = [s1, s2] := by
    match out, hlen with
    | [a, b], _ => exact ⟨a, b, rfl⟩
  have hs2 : s2.m.dst = 3 := by
    simp only [said, List.map_cons, List.map_nil, List.cons.injEq] at hso
    rw [hso.2.1]
  obtain ⟨OA, OL, OC, rfl, hol, -, -, hcell⟩ := hm.cells
  obtain rfl : OL = 2 := by simp [mesCells] at hol; omega
  obtain ⟨ob, oo, rfl, -, hc⟩ := hcell (by simp [mesCells])
  have d11 := hc 11 (.int .i64 3) (by rw [← hs2]; rfl)
  clear hcell hc hs2 hso hm hol hlen hk1 hk2
  have ka := Lib.hid ((Keeps.refl (fun _ => False) w2).alloc (.cells #[.int .i64 1, .int .i64 3, .int .i64 1, .int .i64 1, .slice XA XL XC, .int .i64 0, .int .i64 2, .int .i64 0, .slice VA' VL' VC', .slice NA' NL' NC', .slice MA' ML' MC'] 25))
  have hbi := heap_alloc_new w2 (.cells #[.int .i64 1, .int .i64 3, .int .i64 1, .int .i64 1, .slice XA XL XC, .int .i64 0, .int .i64 2, .int .i64 0, .slice VA' VL' VC', .slice NA' NL' NC', .slice MA' ML' MC'] 25)
  have d11' := ka.out.cell (fun h => h) d11
  obtain ⟨w3, hal⟩ : ∃ w3, w2.alloc (.cells #[.int .i64 1, .int .i64 3, .int .i64 1, .int .i64 1, .slice XA XL XC, .int .i64 0, .int .i64 2, .int .i64 0, .slice VA' VL' VC', .slice NA' NL' NC', .slice MA' ML' MC'] 25) = w3 := ⟨_, rfl⟩
  obtain ⟨B2, hB2⟩ : ∃ B2, w2.heap.size = B2 := ⟨_, rfl⟩
  rw [hal] at ka hbi d11'
  rw [hB2] at hbi
  obtain ⟨b0, b1, b2, b3, b4, b5, b6, b7, b8, b9, b10, bf⟩ := cells11 hbi
  clear b0 b1 b3 b4 b5 b7 b8 b9 b10 bf hbi d11
  simp only [nodCells]
  go_wp2_with fail
  go_ret
  exact ⟨rfl, HK.out.trans ka.out (fun _ h => .inl h)⟩
end Go.Proofs.Ytibjbpakbfodaaa
