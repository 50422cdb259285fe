/- What is seen of a world in memory: a node of it, a part of a log. -/
import Derived.Test.YtibjbpakbfodaaaAlivec
import Derived.Test.YtibjbpakbfodaaaXLive
import Derived.Test.YtibjbpakbfodaaaSame
namespace Go.Proofs.Ytibjbpakbfodaaa
open Go.RowKit

theorem Sl.head {w : World} {S : Nat → Prop} {A : Option Addr} {n c : Nat} {l : List Itm} (h : Sl w S (.slice A n c) 2 (itemCells l)) {k : Nat} (hk : k ≤ l.length) : Sl w S (.slice A k c) 2 (itemCells (l.take k)) := by
  obtain ⟨A', n', c', e, hl, h1, h2, hc⟩ := h
  injection e with e1 e2 e3
  subst e1 e2 e3
  rw [itemCells_length] at hl
  refine ⟨A, k, c, rfl, by rw [itemCells_length, List.length_take]; omega, by omega, h2, fun hp => ?_⟩
  rw [itemCells_length, List.length_take] at hp
  obtain ⟨b, off, rfl, hb, hcell⟩ := hc (by rw [itemCells_length]; omega)
  refine ⟨b, off, rfl, hb, fun j u hj => hcell j u ?_⟩
  have e : (itemCells l).take (k * 2) = itemCells (l.take k) := flat_take _ 2 (fun _ => rfl) l k hk
  rw [← e, List.getElem?_take] at hj
  split at hj
  · exact hj
  · cases hj

/-- A node of a world: its cells in the row. -/
theorem WldOk.node {w wr : World} {S : Nat → Prop} {nodes : List NodV} {net : List MesV} {NA : Option Addr} {NC : Nat} {ov : Value} (h : WldOk w S ⟨nodes, net, .slice NA nodes.length NC, ov⟩) (hk : Keeps Free w wr) {k : Nat} (hlt : k < nodes.length) :
    ∃ b off x LA LC VA VL VC MA ML MC PA PL PC, NA = some ⟨b, off, none⟩ ∧ nodes[k] = ⟨x, .slice LA x.log.length LC, .slice VA VL VC, .slice MA ML MC, .slice PA PL PC⟩ ∧
      NodeOk wr S ⟨x, .slice LA x.log.length LC, .slice VA VL VC, .slice MA ML MC, .slice PA PL PC⟩ ∧
      wr.cell? ⟨b, off + k * 11, none⟩ = some (.int .i64 x.id) ∧ wr.cell? ⟨b, off + k * 11 + 1, none⟩ = some (.int .i64 x.n) ∧ wr.cell? ⟨b, off + k * 11 + 2, none⟩ = some (.int .i64 x.term) ∧ wr.cell? ⟨b, off + k * 11 + 3, none⟩ = some (.int .i64 x.vote) ∧
      wr.cell? ⟨b, off + k * 11 + 4, none⟩ = some (.slice LA x.log.length LC) ∧ wr.cell? ⟨b, off + k * 11 + 5, none⟩ = some (.int .i64 x.commit) ∧ wr.cell? ⟨b, off + k * 11 + 6, none⟩ = some (.int .i64 x.role) ∧ wr.cell? ⟨b, off + k * 11 + 7, none⟩ = some (.int .i64 x.boss) ∧
      wr.cell? ⟨b, off + k * 11 + 8, none⟩ = some (.slice VA VL VC) ∧ wr.cell? ⟨b, off + k * 11 + 9, none⟩ = some (.slice MA ML MC) ∧ wr.cell? ⟨b, off + k * 11 + 10, none⟩ = some (.slice PA PL PC) := by
  obtain ⟨b, off, rfl, hcell⟩ := (h.cells.into (S' := S) hk (fun _ _ h => h.elim) fun _ _ h => h).node (j := k) hlt
  have hxo := (h.each _ (List.getElem_mem hlt)).into (S' := S) hk (fun _ _ h => h.elim) fun _ _ h => h
  simp only at hcell
  have e := rfl (a := nodes[k])
  generalize hx : nodes[k] = xx at *
  obtain ⟨x, lv, vv, nv, mv⟩ := xx
  have hxo2 := hxo
  obtain ⟨⟨LA, LL, LC, rfl, hll, -⟩, ⟨VA, VL, VC, rfl, -⟩, ⟨MA, ML, MC, rfl, -⟩, ⟨PA, PL, PC, rfl, -⟩⟩ := hxo
  obtain rfl : LL = x.log.length := by rw [itemCells_length] at hll; simp only at hll; omega
  exact ⟨b, off, x, LA, LC, VA, VL, VC, MA, ML, MC, PA, PL, PC, rfl, rfl, hxo2, hcell 0 _ (by decide) rfl, hcell 1 _ (by decide) rfl, hcell 2 _ (by decide) rfl, hcell 3 _ (by decide) rfl, hcell 4 _ (by decide) rfl, hcell 5 _ (by decide) rfl,
    hcell 6 _ (by decide) rfl, hcell 7 _ (by decide) rfl, hcell 8 _ (by decide) rfl, hcell 9 _ (by decide) rfl, hcell 10 _ (by decide) rfl⟩

/-- A box with the cells of a node, laid. -/
theorem box11 (w : World) (v0 v1 v2 v3 v4 v5 v6 v7 v8 v9 v10 : Value) : ∃ w' b, w.alloc (.cells #[v0, v1, v2, v3, v4, v5, v6, v7, v8, v9, v10] 25) = w' ∧ w.heap.size = b ∧ Keeps Free w w' ∧ w'.heap[b]? = some (.cells #[v0, v1, v2, v3, v4, v5, v6, v7, v8, v9, v10] 25 (0, 0)) :=
  ⟨_, _, rfl, rfl, (Keeps.refl _ w).alloc _, heap_alloc_new w _⟩
/-- A box with a world, laid. -/
theorem box2 (w : World) (v0 v1 : Value) : ∃ w' b, w.alloc (.cells #[v0, v1] 55) = w' ∧ w.heap.size = b ∧ Keeps Free w w' ∧ w'.heap[b]? = some (.cells #[v0, v1] 55 (0, 0)) :=
  ⟨_, _, rfl, rfl, (Keeps.refl _ w).alloc _, heap_alloc_new w _⟩
end Go.Proofs.Ytibjbpakbfodaaa
