/- A node in a box, as the document's answer has it at work: what is kept, what is set. Lemmas on memory, no walk. -/
import Derived.Test.YtibjbpakbfodaaaRefD
import Derived.Test.YtibjbpakbfodaaaFirstf
namespace Go.Proofs.Ytibjbpakbfodaaa
open Go.RowKit

/-- A node in block B; a result in block r; no list of the node in a block from B to r. -/
structure Boxed (w : World) (Q : Nat → Prop) (B r : Nat) (x : NodV) (wx : World) : Prop where
  keeps : Keeps Free w wx
  le : w.heap.size ≤ B
  lt : B < r
  old : ∀ k, Q k → k < w.heap.size
  blk : wx.heap[B]? = some (.cells (nodCells x).toArray 25 (0, 0))
  res : wx.heap[r]? = some (.cells zero11 25 (0, 0))
  ok : NodeOk wx (fun k => Q k ∨ (B ≤ k ∧ k ≤ r)) x

theorem NodeOk.weak {w : World} {S S' : Nat → Prop} {x : NodV} (h : NodeOk w S x) (hs : ∀ k, k < w.heap.size → S' k → S k) : NodeOk w S' x := h.into (Keeps.refl Free w) (fun _ _ h => h.elim) hs
theorem Sl.weak {w : World} {S S' : Nat → Prop} {v : Value} {size : Nat} {xs : List Value} (h : Sl w S v size xs) (hs : ∀ k, k < w.heap.size → S' k → S k) : Sl w S' v size xs := h.into (Keeps.refl Free w) (fun _ _ h => h.elim) hs
theorem MsgsOk.weak {w : World} {S S' : Nat → Prop} {v : Value} {l : List MesV} (h : MsgsOk w S v l) (hs : ∀ k, k < w.heap.size → S' k → S k) : MsgsOk w S' v l := h.into (Keeps.refl Free w) (fun _ _ h => h.elim) hs

theorem Boxed.start {w wx : World} {Q : Nat → Prop} {x : NodV} {r : Nat} (h : NodeOk w Q x) (hQ : ∀ k, Q k → k < w.heap.size) (hk : Keeps Free w wx) (hlt : w.heap.size < r) (hb : wx.heap[w.heap.size]? = some (.cells (nodCells x).toArray 25 (0, 0)))
    (hr : wx.heap[r]? = some (.cells zero11 25 (0, 0))) : Boxed w Q w.heap.size r x wx :=
  ⟨hk, Nat.le_refl _, hlt, hQ, hb, hr, h.into hk (fun _ _ h => h.elim) fun k hk' h => h.elim id fun h => by omega⟩

theorem Boxed.later {w wx wy : World} {Q : Nat → Prop} {B r : Nat} {x : NodV} (h : Boxed w Q B r x wx) (hk : Keeps Free wx wy) : Boxed w Q B r x wy :=
  ⟨h.keeps.trans hk (fun _ h => .inl h), h.le, h.lt, h.old, hk.blk h.blk, hk.blk h.res, h.ok.into hk (fun _ _ h => h.elim) (fun _ _ h => h)⟩

theorem Boxed.free {w wx : World} {Q : Nat → Prop} {B r : Nat} {x : NodV} (h : Boxed w Q B r x wx) : NodeOk wx Free x := h.ok.weak fun _ _ h => h.elim

theorem Boxed.rlt {w wx : World} {Q : Nat → Prop} {B r : Nat} {x : NodV} (h : Boxed w Q B r x wx) : r < wx.heap.size := laid_lt h.res

/-- The node's own block alone has been written. -/
theorem Boxed.put {w wx wy : World} {Q : Nat → Prop} {B r : Nat} {x y : NodV} (h : Boxed w Q B r x wx) (hk : Keeps (fun k => k = B) wx wy) (hb : wy.heap[B]? = some (.cells (nodCells y).toArray 25 (0, 0)))
    (hy : NodeOk wx (fun k => Q k ∨ (B ≤ k ∧ k ≤ r)) y) : Boxed w Q B r y wy :=
  ⟨h.keeps.trans hk (fun k e => .inr (by rw [e]; exact h.le)), h.le, h.lt, h.old, hb, (hk.block r h.rlt (fun e => by have := h.lt; omega)).trans h.res, hy.into hk (fun k _ e => .inr ⟨by omega, by have := h.lt; omega⟩) (fun _ _ h => h)⟩

/-- One field of it has been set. -/
theorem Boxed.set {w wx : World} {Q : Nat → Prop} {B r : Nat} {x : NodV} (h : Boxed w Q B r x wx) (k : Nat) (u : Value) (y : NodV) (hc : (nodCells y).toArray = (nodCells x).toArray.setIfInBounds k u)
    (hy : NodeOk wx (fun k => Q k ∨ (B ≤ k ∧ k ≤ r)) y) : Boxed w Q B r y (wx.setCell ⟨B, k, none⟩ u) :=
  h.put ((Keeps.refl (fun j => j = B) wx).setCell (p := ⟨B, k, none⟩) (.inl rfl) u) (by rw [setCell_blk h.blk, hc]) hy

/-- The result's block alone has been written. -/
theorem Boxed.done {w wx wy : World} {Q : Nat → Prop} {B r : Nat} {x : NodV} (h : Boxed w Q B r x wx) (hk : Keeps (fun k => k = r) wx wy) : NodeOk wy Q x ∧ Keeps Free w wy :=
  ⟨h.ok.into hk (fun k _ e => .inr ⟨by have := h.lt; omega, by omega⟩) (fun k _ h => .inl h), h.keeps.trans hk (fun k e => .inr (by have := h.lt; have := h.le; omega))⟩

theorem MesOk.weak {w : World} {S S' : Nat → Prop} {m : MesV} (h : MesOk w S m) (hs : ∀ k, k < w.heap.size → S' k → S k) : MesOk w S' m := Sl.weak h hs

set_option maxRecDepth 100000 in
/-- What a row's append comes to, in a world where the row is new. -/
theorem app_row {t ty e size bytes : Nat} {i0 : TypeInfo} {z : Value} (ht : Try.prog.underlying t = some (.slice e)) (hi : Try.prog.info? e = some i0) (hz : i0.zero = some z) (hsz : i0.size = size) (hby : i0.bytes = bytes) (hzs : z.cells.size = size) (hs0 : 0 < size) (hbb : bytes ≤ 1000)
    {base : Nat} {w : World} (hB : base ≤ w.heap.size) {v : Value} {n : Nat} {xs : List Value} (hown : w.ownsRow base e size v n xs) {A : Option Addr} {m c : Nat} {news : List Value}
    (hs : Sl w Free (.slice A m c) size news) (h1 : ∀ u ∈ news, u.oneCell' = true) (hnm : n + m ≤ 1000000) :
    ∃ v' w', (Builtin.append_ #[t, t] ty #[v, .slice A m c]).run Try.prog w = .ok v' w' ∧ w'.ownsRow base e size v' (n + m) (xs ++ news) ∧ Keeps (fun k => v.ownBlock = some k) w w' ∧ (v'.ownBlock = v.ownBlock ∨ v'.ownBlock = some w.heap.size) := by
  obtain ⟨A', m', c', e', hl, _, _, hc⟩ := hs
  injection e' with e1 e2 e3
  subst e1 e2 e3
  cases A with
  | none =>
    have hm0 : m = 0 := by
      rcases Nat.eq_zero_or_pos m with h0 | h0
      · exact h0
      · have : 0 < m * size := Nat.mul_pos h0 hs0
        obtain ⟨b, off, e, _⟩ := hc (by omega)
        cases e
    subst hm0
    obtain rfl : news = [] := List.eq_nil_of_length_eq_zero (by rw [hl, Nat.zero_mul])
    refine ⟨v, w, ?_, by simpa using hown, Keeps.refl _ _, .inl rfl⟩
    rcases hown.2 with ⟨rfl, rfl⟩ | ⟨g, cap, cur, rfl, _, _, hnc, _⟩
    · simp [Builtin.append_, run_underlying ht, sizeOf, typeInfo, hi, Builtin.lenOf, Builtin.firstCells]
    · simp [Builtin.append_, run_underlying ht, sizeOf, typeInfo, hi, Builtin.lenOf, Builtin.firstCells, hnc, storeCells]
  | some ad =>
    have hcell : ∀ j u, news[j]? = some u → w.cell? (ad.add j) = some u := fun j u hj => by
      have hp : 0 < news.length := Nat.lt_of_le_of_lt (Nat.zero_le _) (List.getElem?_eq_some_iff.1 hj).1
      obtain ⟨b, off, e, _, hcell⟩ := hc hp
      injection e with e
      subst e
      rw [Go.WideShapes.add_plain]
      exact hcell j u hj
    have hb : (n + m) * bytes ≤ 1000000 * 1000 := Nat.mul_le_mul (by omega) hbb
    obtain ⟨v', w', hr, h2, h3, _, h5⟩ := run_append_own_at (P := Try.prog) (w := w) base t ty e i0 _ size bytes ht hi hz hsz hby hzs hs0 v n xs hown ad m c news hl hcell h1 (by simp [maxLen]; omega) (Nat.le_trans hb (by decide)) hB
    exact ⟨v', w', hr, h2, ⟨h3.os, h3.tape, h3.output, h3.size, fun k hk' hne => h3.block k hk' (fun e => hne e.symm)⟩, h5⟩

theorem plainf_append {C : World → Prop} {o : Oper} {a : Act} {K : Act → World → Prop} {w w' : World} {s x : Operand} {v v' : Value} {A : Option Addr} {m c t : Nat}
    (hop : o.op = .call { callee := .builtin .append, args := #[s, x], argTypes := #[t, t] }) (hs : a.eval s = v) (hx : a.eval x = .slice A m c) (hr : (Builtin.append_ #[t, t] o.type #[v, .slice A m c]).run Try.prog w = .ok v' w')
    (h : C w' ∧ K (a.put o.dst v') w') : Wf.plainUpon Try.prog C o a K ((execOp a.eval o).run Try.prog w) := by
  have : (execOp a.eval o).run Try.prog w = .ok (.value v') w' := by simp [execOp, hop, resolve, invoke, builtin, hs, hx, hr, Result.andThen]
  rw [this]
  exact h
end Go.Proofs.Ytibjbpakbfodaaa
