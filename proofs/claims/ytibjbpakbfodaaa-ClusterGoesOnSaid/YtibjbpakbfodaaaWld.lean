/- A world of nodes and messages in memory: what reads as it. -/
import Derived.Test.YtibjbpakbfodaaaDel
import Derived.Test.YtibjbpakbfodaaaExpc
namespace Go.Proofs.Ytibjbpakbfodaaa
open Go.RowKit

/-- The nodes and the messages of a world, and the two values that stand for them. -/
structure WldV where
  nodes : List NodV
  net : List MesV
  nv : Value
  ov : Value

def WldV.w (W : WldV) : Wld := ⟨W.nodes.map NodV.n, said W.net⟩

structure WldOk (w : World) (S : Nat → Prop) (W : WldV) : Prop where
  cells : Sl w S W.nv 11 (W.nodes.flatMap nodCells)
  each : ∀ x ∈ W.nodes, NodeOk w S x
  msgs : MsgsOk w S W.ov W.net

theorem WldOk.into {w w' : World} {S S' S1 : Nat → Prop} {W : WldV} (h : WldOk w S W) (hk : Keeps S1 w w') (h1 : ∀ k, k < w.heap.size → S1 k → S k) (h2 : ∀ k, k < w.heap.size → S' k → S k) : WldOk w' S' W :=
  ⟨h.cells.into hk h1 h2, fun x hx => (h.each x hx).into hk h1 h2, h.msgs.into hk h1 h2⟩

theorem Sl.form {w : World} {S : Nat → Prop} {v : Value} {size : Nat} {xs : List Value} (h : Sl w S v size xs) {n : Nat} (hn : xs.length = n * size) (hs : 0 < size) : ∃ A c, v = .slice A n c := by
  obtain ⟨A, len, cap, hv, hl, _⟩ := h
  have : len = n := Nat.eq_of_mul_eq_mul_right hs (hl.symm.trans hn)
  subst this
  exact ⟨A, cap, hv⟩

theorem nods_len (l : List NodV) : (l.flatMap nodCells).length = l.length * 11 := flat_length _ 11 (fun _ => rfl) l
theorem mess_len (l : List MesV) : (l.flatMap mesCells).length = l.length * 9 := flat_length _ 9 (fun _ => rfl) l

theorem nods_one {w : World} {S : Nat → Prop} {l : List NodV} (h : ∀ x ∈ l, NodeOk w S x) : ∀ u ∈ l.flatMap nodCells, u.oneCell' = true := by
  intro u hu
  rw [List.mem_flatMap] at hu
  obtain ⟨x, hx, hu⟩ := hu
  obtain ⟨⟨A1, L1, C1, e1, _⟩, ⟨A2, L2, C2, e2, _⟩, ⟨A3, L3, C3, e3, _⟩, ⟨A4, L4, C4, e4, _⟩⟩ := h x hx
  simp only [nodCells, List.mem_cons, List.not_mem_nil, or_false] at hu
  rcases hu with h | h | h | h | h | h | h | h | h | h | h <;> subst h <;> first | rfl | (rw [e1]; rfl) | (rw [e2]; rfl) | (rw [e3]; rfl) | (rw [e4]; rfl)
theorem mess_one {w : World} {S : Nat → Prop} {l : List MesV} (h : ∀ m ∈ l, MesOk w S m) : ∀ u ∈ l.flatMap mesCells, u.oneCell' = true := by
  intro u hu
  rw [List.mem_flatMap] at hu
  obtain ⟨m, hm, hu⟩ := hu
  obtain ⟨A, L, C, e, _⟩ := h m hm
  simp only [mesCells, List.mem_cons, List.not_mem_nil, or_false] at hu
  rcases hu with h | h | h | h | h | h | h | h | h <;> subst h <;> first | rfl | (rw [e]; rfl)

/-- A step at work: block b holds the two rows, each its own; what they lead to lies in none of the blocks that are being written (old ones set apart, and those from B to C). -/
def Apart (Q : Nat → Prop) (B C : Nat) : Nat → Prop := fun k => Q k ∨ (B ≤ k ∧ k < C)

structure Stage (w : World) (Q : Nat → Prop) (B C b : Nat) (W : WldV) : Prop where
  blk : w.heap[b]? = some (.cells #[W.nv, W.ov] 55 (0, 0))
  nodes : w.ownsRow 0 25 11 W.nv W.nodes.length (W.nodes.flatMap nodCells)
  net : w.ownsRow 0 38 9 W.ov W.net.length (W.net.flatMap mesCells)
  each : ∀ x ∈ W.nodes, NodeOk w (Apart Q B C) x
  items : ∀ m ∈ W.net, MesOk w (Apart Q B C) m
  bB : B ≤ b
  bC : b < C
  nB : ∀ g, W.nv.ownBlock = some g → B ≤ g ∧ g < C
  oB : ∀ g, W.ov.ownBlock = some g → B ≤ g ∧ g < C
  Clt : C ≤ w.heap.size
  Bl : ∀ k, Q k → k < B

theorem Stage.ok {w : World} {Q : Nat → Prop} {B C b : Nat} {W : WldV} (h : Stage w Q B C b W) : WldOk w Q W :=
  ⟨Sl.of_own h.nodes fun g hg hq => by have := (h.nB g hg).1; have := h.Bl g hq; omega, fun x hx => (h.each x hx).into (Keeps.refl Free w) (fun _ _ h => h.elim) fun _ _ h => .inl h,
    Sl.of_own h.net fun g hg hq => by have := (h.oB g hg).1; have := h.Bl g hq; omega, fun m hm => Sl.into (h.items m hm) (Keeps.refl Free w) (fun _ _ h => h.elim) fun _ _ h => .inl h⟩

theorem Stage.later {w w' : World} {Q : Nat → Prop} {B C b : Nat} {W : WldV} (h : Stage w Q B C b W) (hk : Keeps Free w w') : Stage w' Q B C b W :=
  { blk := hk.blk h.blk, nodes := own_later h.nodes hk, net := own_later h.net hk, each := fun x hx => (h.each x hx).into hk (fun _ _ h => h.elim) fun _ _ h => h, items := fun m hm => Sl.into (h.items m hm) hk (fun _ _ h => h.elim) fun _ _ h => h,
    bB := h.bB, bC := h.bC, nB := h.nB, oB := h.oB, Clt := Nat.le_trans h.Clt hk.size, Bl := h.Bl }

/-- Two cells. -/
theorem cells2 {w : World} {b : Nat} {t : TypeId} {v0 v1 : Value} (h : w.heap[b]? = some (.cells #[v0, v1] t (0, 0))) : w.cell? ⟨b, 0, none⟩ = some v0 ∧ w.cell? ⟨b, 1, none⟩ = some v1 ∧ ∀ k, w.frozen? ⟨b, k, none⟩ = false :=
  ⟨cell_of_row w b 0 _ _ _ h, cell_of_row w b 1 _ _ _ h, fun k => frozen_of_row w b k _ _ h⟩
theorem cells3 {w : World} {b : Nat} {t : TypeId} {v0 v1 v2 : Value} (h : w.heap[b]? = some (.cells #[v0, v1, v2] t (0, 0))) : w.cell? ⟨b, 0, none⟩ = some v0 ∧ w.cell? ⟨b, 1, none⟩ = some v1 ∧ w.cell? ⟨b, 2, none⟩ = some v2 ∧ ∀ k, w.frozen? ⟨b, k, none⟩ = false :=
  ⟨cell_of_row w b 0 _ _ _ h, cell_of_row w b 1 _ _ _ h, cell_of_row w b 2 _ _ _ h, fun k => frozen_of_row w b k _ _ h⟩

theorem Stage.keep {w w' : World} {Q S : Nat → Prop} {B C b : Nat} {W : WldV} (h : Stage w Q B C b W) (hk : Keeps S w w') (hS : ∀ k, S k → B ≤ k ∧ k < C ∧ k ≠ b ∧ W.nv.ownBlock ≠ some k ∧ W.ov.ownBlock ≠ some k) : Stage w' Q B C b W :=
  { blk := (hk.block b (Nat.lt_of_lt_of_le h.bC h.Clt) fun hs => (hS b hs).2.2.1 rfl).trans h.blk,
    nodes := own_keep h.nodes fun g hg => hk.block g (own_lt h.nodes hg) fun hs => (hS g hs).2.2.2.1 hg, net := own_keep h.net fun g hg => hk.block g (own_lt h.net hg) fun hs => (hS g hs).2.2.2.2 hg,
    each := fun x hx => (h.each x hx).into hk (fun k _ hs => .inr ⟨(hS k hs).1, (hS k hs).2.1⟩) fun _ _ h => h, items := fun m hm => Sl.into (h.items m hm) hk (fun k _ hs => .inr ⟨(hS k hs).1, (hS k hs).2.1⟩) fun _ _ h => h,
    bB := h.bB, bC := h.bC, nB := h.nB, oB := h.oB, Clt := Nat.le_trans h.Clt hk.size, Bl := h.Bl }

/-- A row of nodes, one of them set. -/
theorem own_setRow {α : Type} {w : World} {e s : Nat} {v : Value} {l : List α} {f : α → List Value} (hf : ∀ x, (f x).length = s) (h : w.ownsRow 0 e s v l.length (l.flatMap f)) {g i : Nat} (hg : v.ownBlock = some g) (hi : i < l.length) (x : α) :
    (w.setCells g (i * s) (f x)).ownsRow 0 e s v (l.set i x).length ((l.set i x).flatMap f) ∧ Keeps (fun k => k = g) w (w.setCells g (i * s) (f x)) := by
  rcases h.2 with ⟨rfl, h0⟩ | ⟨g', cap, cur, rfl, _, hb, h1, h2, h3, h4⟩
  · simp [Value.ownBlock] at hg
  · simp [Value.ownBlock] at hg
    subst hg
    have hle : i * s + s ≤ l.length * s := by
      have := Nat.mul_le_mul_right s (show i + 1 ≤ l.length from hi)
      rw [Nat.add_mul] at this; omega
    have hcap : l.length * s ≤ cap * s := Nat.mul_le_mul_right s h1
    obtain ⟨r1, r2⟩ := setCells_row g' e (f x) w (i * s) cur hb (by rw [hf]; omega)
    refine ⟨⟨flat_length f s hf _, .inr ⟨g', cap, _, by rw [List.length_set], Nat.zero_le _, r1, by rw [List.length_set]; exact h1, h2, ?_, ?_⟩⟩, r2⟩
    · simp only [List.size_toArray, List.length_append, List.length_take, List.length_drop, hf, Array.length_toList]
      omega
    · rw [List.length_set]
      have e1 : l.set i x = l.take i ++ x :: l.drop (i + 1) := List.set_eq_take_append_cons_drop.trans (if_pos hi)
      rw [e1, List.flatMap_append, List.flatMap_cons, hf, ← flat_take f s hf l i (by omega), ← flat_drop f s hf l (i + 1) hi, ← h4, List.take_take, Nat.min_eq_left (by omega), Nat.add_mul, Nat.one_mul, ← List.append_assoc]
      rw [List.take_append, List.take_of_length_le (by simp [hf]; omega)]
      congr 1
      rw [List.drop_take]
      congr 1
      simp [hf]
      omega

theorem Stage.setNode {w : World} {Q : Nat → Prop} {B C b : Nat} {W : WldV} (h : Stage w Q B C b W) {g i : Nat} (hg : W.nv.ownBlock = some g) (hi : i < W.nodes.length) {x : NodV} (hx : NodeOk w (Apart Q B C) x) :
    Stage (w.setCells g (i * 11) (nodCells x)) Q B C b { W with nodes := W.nodes.set i x } ∧ Keeps (fun k => k = g) w (w.setCells g (i * 11) (nodCells x)) := by
  obtain ⟨r1, r2⟩ := own_setRow (f := nodCells) (s := 11) (fun _ => rfl) h.nodes hg hi x
  have hgb := h.nB g hg
  have into : ∀ y, NodeOk w (Apart Q B C) y → NodeOk (w.setCells g (i * 11) (nodCells x)) (Apart Q B C) y := fun y hy => hy.into r2 (fun k _ e => .inr (by omega)) fun _ _ h => h
  refine ⟨{ blk := (r2.block b (Nat.lt_of_lt_of_le h.bC h.Clt) fun e => own_ne_blk h.nodes h.blk (by decide) hg e.symm).trans h.blk, nodes := r1, net := own_keep h.net fun k hk => r2.block k (own_lt h.net hk) fun e => own_ne h.nodes h.net (by decide) hg (e ▸ hk), each := fun y hy => ?_, items := fun m hm => Sl.into (h.items m hm) r2 (fun k _ e => .inr (by omega)) fun _ _ h => h, bB := h.bB, bC := h.bC, nB := h.nB, oB := h.oB, Clt := Nat.le_trans h.Clt r2.size, Bl := h.Bl }, r2⟩
  rcases List.mem_or_eq_of_mem_set hy with hy | rfl
  · exact into y (h.each y hy)
  · exact into _ hx
end Go.Proofs.Ytibjbpakbfodaaa
