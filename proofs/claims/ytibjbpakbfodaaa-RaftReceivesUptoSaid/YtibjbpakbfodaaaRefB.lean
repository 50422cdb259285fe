/- The document's answer, chapter 15: a node that follows. -/
import Derived.Test.YtibjbpakbfodaaaRefA
import Derived.Test.YtibjbpakbfodaaaExpa
namespace Go.Proofs.Ytibjbpakbfodaaa
open Go.RowKit

set_option maxRecDepth 100000 in
set_option maxHeartbeats 2000000 in
theorem follower_any {w : World} {S : Nat → Prop} {x : NodV} (h : NodeOk w S x) (boss : Int) :
    Calls Try.prog 70 #[.agg (nodCells x).toArray, .int .i64 boss] w fun e w' => ∃ x' : NodV, e = .returned (.agg (nodCells x').toArray) ∧ x'.n = { x.n with role := 1, boss := boss, votes := [], next := [], mtch := [] } ∧ NodeOk w' S x' ∧ Keeps Free w w' := by
  have H := Lib.hid h
  obtain ⟨n, lv, vv, nv, mv⟩ := x
  obtain ⟨⟨LA, LL, LC, rfl, _⟩, ⟨VA, VL, VC, rfl, _⟩, ⟨NA, NL, NC, rfl, _⟩, ⟨MA, ML, MC, rfl, _⟩⟩ := h
  simp only [nodCells]
  go_enter Try.func70, Try.ntmps70
  go_wp2_with fail
  obtain ⟨k0, k1, k2⟩ := two_boxes w (.cells #[.int .i64 n.id, .int .i64 n.n, .int .i64 n.term, .int .i64 n.vote, .slice LA LL LC, .int .i64 n.commit, .int .i64 1, .int .i64 boss, .slice none 0 0, .slice none 0 0, .slice none 0 0] 25) (.cells #[.int .i64 n.id, .int .i64 n.n, .int .i64 n.term, .int .i64 n.vote, .slice LA LL LC, .int .i64 n.commit, .int .i64 1, .int .i64 boss, .slice none 0 0, .slice none 0 0, .slice none 0 0] 25)
  obtain ⟨q0, q1, q2, q3, q4, q5, q6, q7, q8, q9, q10, qf⟩ := cells11 k2
  refine bodyPost_ret (v := .agg #[.int .i64 n.id, .int .i64 n.n, .int .i64 n.term, .int .i64 n.vote, .slice LA LL LC, .int .i64 n.commit, .int .i64 1, .int .i64 boss, .slice none 0 0, .slice none 0 0, .slice none 0 0]) (by simp [results, Try.results70, go_sem, q0, q1, q2, q3, q4, q5, q6, q7, q8, q9, q10]) rfl ?_
  refine ⟨⟨_, .slice LA LL LC, .slice none 0 0, .slice none 0 0, .slice none 0 0⟩, rfl, rfl, ⟨(H.out.log).keep k0 (fun _ _ h => h.elim), ?_, ?_, ?_⟩, k0⟩
  all_goals exact ⟨none, 0, 0, rfl, rfl, Nat.le_refl _, by simp [maxLen], fun h => by simp [intCells] at h⟩
end Go.Proofs.Ytibjbpakbfodaaa
