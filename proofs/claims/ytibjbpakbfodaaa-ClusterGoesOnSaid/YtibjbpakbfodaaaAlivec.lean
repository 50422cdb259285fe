/- verdictlaw16.alive, walked: true. -/
import Derived.Test.YtibjbpakbfodaaaRunw
namespace Go.Proofs.Ytibjbpakbfodaaa
open Go.RowKit

/-- The cells of one node of a slice of nodes. -/
theorem Sl.node {w : World} {S : Nat → Prop} {A : Option Addr} {len c : Nat} {l : List NodV} (h : Sl w S (.slice A len c) 11 (l.flatMap nodCells)) {j : Nat} (hj : j < l.length) :
    ∃ b off, A = some ⟨b, off, none⟩ ∧ ∀ i u, i < 11 → (nodCells l[j])[i]? = some u → w.cell? ⟨b, off + j * 11 + i, none⟩ = some u := by
  obtain ⟨A', len', c', e, hl, _, _, hc⟩ := h
  injection e with e1 e2 e3
  subst e1
  obtain ⟨b, off, rfl, _, hcell⟩ := hc (by rw [nods_len]; omega)
  refine ⟨b, off, rfl, fun i u hi hu => ?_⟩
  rw [Nat.add_assoc]
  exact hcell _ _ ((flat_get nodCells 11 (fun _ => rfl) l j l[j] i (List.getElem?_eq_getElem hj) hi).trans hu)

def aliveEvts : List Evt := [⟨1, 1, 0⟩, ⟨3, 1, 7⟩]

theorem alive_ran : (ran 1 aliveEvts).nodes.length = 1 ∧ ∀ x ∈ (ran 1 aliveEvts).nodes, x.role = 3 ∧ x.commit = 2 ∧ x.log.length = 2 := by
  have e : (ran 1 aliveEvts).nodes.map (fun x => (x.role, x.commit, x.log.length)) = [(3, 2, 2)] := by decide +kernel
  have hl : (ran 1 aliveEvts).nodes.length = 1 := by have := congrArg List.length e; simpa using this
  refine ⟨hl, fun x hx => ?_⟩
  have := List.mem_map_of_mem (f := fun x : Nod => (x.role, x.commit, x.log.length)) hx
  rw [e] at this
  simp at this
  exact ⟨this.1, this.2.1, this.2.2⟩

set_option maxRecDepth 100000 in
set_option maxHeartbeats 8000000 in
theorem alive16_any (hstp : StepSays) (w : World) : Calls Try.prog 36 #[] w fun e w' => e = .returned (.bool true) ∧ Keeps Free w w' := by
  obtain ⟨wz, hal⟩ : ∃ wz, w.alloc (.cells #[.int .i64 1, .int .i64 1, .int .i64 0, .int .i64 3, .int .i64 1, .int .i64 7] 63) = wz := ⟨_, rfl⟩
  obtain ⟨B, hB⟩ : ∃ B, w.heap.size = B := ⟨_, rfl⟩
  have hb : wz.heap[B]? = some (.cells #[.int .i64 1, .int .i64 1, .int .i64 0, .int .i64 3, .int .i64 1, .int .i64 7] 63 (0, 0)) := by rw [← hal, ← hB]; exact heap_alloc_new _ _
  have hk : Keeps Free w wz := by rw [← hal]; exact (Keeps.refl _ w).alloc _
  have hev : Sl wz Free (.slice (some ⟨B, 0, none⟩) 2 2) 3 (aliveEvts.flatMap evtCells) :=
    ⟨_, 2, 2, rfl, rfl, Nat.le_refl _, by simp [maxLen], fun _ => ⟨B, 0, rfl, fun h => h, fun j u hj => by rw [Nat.zero_add, cell_of_row wz B j _ _ _ hb]; simpa [aliveEvts, evtCells] using hj⟩⟩
  have hrun := clRun_any (Q := Free) hstp hev (fun _ h => h.elim) (by decide) (n := 1) (by decide)
  have HRUN := Lib.hid hrun; have HK := Lib.hid hk
  clear hstp hb hk hev hrun
  go_enter Try.func36, Try.ntmps36
  go_wp2_with fail
  refine HRUN.out.mono ?_
  rintro e w2 ⟨W, rfl, hW, hok, k2⟩
  obtain ⟨nodes, net, nv, ov⟩ := W
  obtain ⟨NA, NC, en1⟩ := hok.cells.form (nods_len nodes) (by decide)
  obtain ⟨OA, OC, en2⟩ := hok.msgs.cells.form (mess_len net) (by decide)
  simp only at en1 en2
  subst en1 en2
  obtain ⟨hl, hx⟩ := alive_ran
  have hwn : nodes.map NodV.n = (ran 1 aliveEvts).nodes := congrArg Wld.nodes hW
  rw [← hwn] at hl hx
  have hl1 : nodes.length = 1 := by simpa using hl
  obtain ⟨x, rfl⟩ : ∃ x, nodes = [x] := List.length_eq_one_iff.1 hl1
  have hx1 := hx x.n (by simp)
  have hxo := hok.each x (by simp)
  obtain ⟨b, off, hA, hcell⟩ := hok.cells.node (j := 0) (by simp)
  subst hA
  obtain ⟨xn, lv, vv, nv', mv⟩ := x
  obtain ⟨⟨LA, LL, LC, rfl, hll, -⟩, -, -, -⟩ := hxo
  obtain rfl : LL = xn.log.length := by rw [itemCells_length] at hll; simp only at hll; omega
  have c4 : w2.cell? ⟨b, off + 4, none⟩ = some (.slice LA xn.log.length LC) := by have := hcell 4 _ (by decide) rfl; simpa using this
  have c5 : w2.cell? ⟨b, off + 5, none⟩ = some (.int .i64 xn.commit) := by have := hcell 5 _ (by decide) rfl; simpa using this
  have c6 : w2.cell? ⟨b, off + 6, none⟩ = some (.int .i64 xn.role) := by have := hcell 6 _ (by decide) rfl; simpa using this
  obtain ⟨q1, q2, q3⟩ := hx1
  simp only at q1 q2 q3
  rw [q1] at c6
  rw [q2] at c5
  rw [q3] at c4
  have HK2 := Lib.hid k2
  clear hW hok hl hx hwn hl1 hcell hll q1 q2 q3 k2
  simp only [List.length_singleton]
  obtain ⟨B2, hB2⟩ : ∃ B2, w2.heap.size = B2 := ⟨_, rfl⟩
  obtain ⟨w3, hal3⟩ : ∃ w3, w2.alloc (.cells #[.slice (some ⟨b, off, none⟩) 1 NC, .slice OA net.length OC] 55) = w3 := ⟨_, rfl⟩
  have hk3 : Keeps Free w2 w3 := by rw [← hal3]; exact (Keeps.refl _ w2).alloc _
  have hb3 : w3.heap[B2]? = some (.cells #[.slice (some ⟨b, off, none⟩) 1 NC, .slice OA net.length OC] 55 (0, 0)) := by rw [← hal3, ← hB2]; exact heap_alloc_new _ _
  obtain ⟨d0, d1, df⟩ := cells2 hb3
  have e4 := hk3.cell (fun h => h) c4
  have e5 := hk3.cell (fun h => h) c5
  have e6 := hk3.cell (fun h => h) c6
  have HK3 := Lib.hid hk3
  clear hk3 hb3 c4 c5 c6
  go_wp2_with fail
  go_ret
  exact ⟨rfl, (HK.out.trans HK2.out fun _ h => .inl h).trans HK3.out fun _ h => .inl h⟩
end Go.Proofs.Ytibjbpakbfodaaa
