/- What memory holds: slices, nodes and messages as the plain model has them, and the node at work (a peer) with what it owns. Lemmas on frames. No walk is here. -/
import Derived.Test.YtibjbpakbfodaaaRows
import Derived.Test.YtibjbpakbfodaaaPure
import Derived.WalkKit
import Derived.Deep.AppendLies
import Derived.Deep.Draws
namespace Go.Proofs.Ytibjbpakbfodaaa
open Go.RowKit

def itemCells (l : List Itm) : List Value := l.flatMap fun x => [.int .i64 x.term, .int .i64 x.cmd]
def intCells (l : List Int) : List Value := l.map (Value.int .i64)

/-- A node, and the values that stand in its four lists' places. -/
structure NodV where
  n : Nod
  lv : Value
  vv : Value
  nv : Value
  mv : Value

structure MesV where
  m : Mes
  iv : Value

def nodCells (x : NodV) : List Value :=
  [.int .i64 x.n.id, .int .i64 x.n.n, .int .i64 x.n.term, .int .i64 x.n.vote, x.lv, .int .i64 x.n.commit, .int .i64 x.n.role, .int .i64 x.n.boss, x.vv, x.nv, x.mv]
def mesCells (m : MesV) : List Value :=
  [.int .i64 m.m.kind, .int .i64 m.m.src, .int .i64 m.m.dst, .int .i64 m.m.term, .int .i64 m.m.index, .int .i64 m.m.logTerm, .int .i64 m.m.commit, m.iv, .bool m.m.yes]

theorem flat_get {α : Type} (f : α → List Value) (s : Nat) (hf : ∀ x, (f x).length = s) : ∀ (l : List α) (i : Nat) (x : α) (j : Nat), l[i]? = some x → j < s → (l.flatMap f)[i * s + j]? = (f x)[j]?
  | [], i, x, j, h, _ => by simp at h
  | y :: t, 0, x, j, h, hj => by
    have : y = x := by simpa using h
    subst this
    simp [List.getElem?_append, hf, hj]
  | y :: t, i + 1, x, j, h, hj => by
    have ih := flat_get f s hf t i x j (by simpa using h) hj
    rw [List.flatMap_cons, List.getElem?_append_right (by rw [hf, Nat.add_mul]; omega), hf, ← ih]
    congr 1
    rw [Nat.add_mul]; omega

theorem flat_length {α : Type} (f : α → List Value) (s : Nat) (hf : ∀ x, (f x).length = s) : ∀ (l : List α), (l.flatMap f).length = l.length * s
  | [] => by simp
  | y :: t => by rw [List.flatMap_cons, List.length_append, hf, flat_length f s hf t, List.length_cons, Nat.add_mul]; omega

theorem itemCells_length (l : List Itm) : (itemCells l).length = l.length * 2 := flat_length _ 2 (fun _ => rfl) l
theorem intCells_length (l : List Int) : (intCells l).length = l.length * 1 := by simp [intCells]

/-- A slice that reads as these cells, none of them in a block of S. -/
def Sl (w : World) (S : Nat → Prop) (v : Value) (size : Nat) (xs : List Value) : Prop :=
  ∃ A len cap, v = .slice A len cap ∧ xs.length = len * size ∧ len ≤ cap ∧ cap ≤ maxLen ∧
    (0 < xs.length → ∃ b off, A = some ⟨b, off, none⟩ ∧ ¬ S b ∧ ∀ j u, xs[j]? = some u → w.cell? ⟨b, off + j, none⟩ = some u)

theorem cell_lt {w : World} {b o : Nat} {s : Option Nat} {u : Value} (h : w.cell? ⟨b, o, s⟩ = some u) : b < w.heap.size := by
  rcases Nat.lt_or_ge b w.heap.size with hlt | hge
  · exact hlt
  · simp [World.cell?, Array.getElem?_eq_none hge] at h

/-- Blocks that were there, but those of S, are as they were. -/
structure Keeps (S : Nat → Prop) (w w' : World) : Prop where
  os : w'.os = w.os
  tape : w'.tape = w.tape
  output : w'.output = w.output
  size : w.heap.size ≤ w'.heap.size
  block : ∀ k, k < w.heap.size → ¬ S k → w'.heap[k]? = w.heap[k]?

theorem Keeps.refl (S : Nat → Prop) (w : World) : Keeps S w w := ⟨rfl, rfl, rfl, Nat.le_refl _, fun _ _ _ => rfl⟩
theorem Keeps.trans {S S' : Nat → Prop} {w w1 w2 : World} (h : Keeps S w w1) (h' : Keeps S' w1 w2) (hs : ∀ k, S' k → S k ∨ w.heap.size ≤ k) : Keeps S w w2 :=
  ⟨h'.os.trans h.os, h'.tape.trans h.tape, h'.output.trans h.output, Nat.le_trans h.size h'.size, fun k hk hS =>
    (h'.block k (Nat.lt_of_lt_of_le hk h.size) (fun h1 => (hs k h1).elim hS (fun h2 => by omega))).trans (h.block k hk hS)⟩
theorem Keeps.mono {S S' : Nat → Prop} {w w' : World} (h : Keeps S w w') (hs : ∀ k, S k → S' k ∨ w.heap.size ≤ k) : Keeps S' w w' :=
  ⟨h.os, h.tape, h.output, h.size, fun k hk hS => h.block k hk (fun h1 => (hs k h1).elim hS (fun h2 => by omega))⟩
theorem Keeps.below {S : Nat → Prop} {w w' : World} {B : Nat} (h : Keeps S w w') (hB : B ≤ w.heap.size) (hs : ∀ k, S k → B ≤ k) : Below B w w' :=
  ⟨h.os, h.tape, h.output, h.size, fun k hk => h.block k (by omega) (fun h1 => by have := hs k h1; omega)⟩
theorem Keeps.of_below {S : Nat → Prop} {w w' : World} (h : Below w.heap.size w w') : Keeps S w w' := ⟨h.os, h.tape, h.output, h.size, fun k hk _ => h.block k hk⟩
theorem Keeps.of_grown {S : Nat → Prop} {w w' : World} {row : Option Nat} (h : w.grownBy w' row) (hs : ∀ k, row = some k → S k ∨ w.heap.size ≤ k) : Keeps S w w' :=
  ⟨h.os, h.tape, h.output, h.size, fun k hk hS => h.block k hk (fun e => (hs k e.symm).elim hS (fun h2 => by omega))⟩
theorem Keeps.alloc {S : Nat → Prop} {w w' : World} (h : Keeps S w w') (o : Obj) : Keeps S w (w'.alloc o) :=
  h.trans (S' := S) ⟨rfl, rfl, rfl, by simp, fun k hk _ => Below.heap_alloc _ _ _ hk⟩ fun _ h => .inl h
theorem Keeps.drew {S : Nat → Prop} {w w' : World} (h : Keeps S w w') : Keeps S w w'.drew := ⟨h.os, h.tape, h.output, h.size, h.block⟩
theorem Keeps.drewN {S : Nat → Prop} {w w' : World} (h : Keeps S w w') (n : Nat) : Keeps S w (w'.drewN n) := ⟨h.os, h.tape, h.output, h.size, h.block⟩
theorem Keeps.setCell {S : Nat → Prop} {w w' : World} (h : Keeps S w w') {p : Addr} (hp : S p.block ∨ w.heap.size ≤ p.block) (u : Value) : Keeps S w (w'.setCell p u) :=
  h.trans (S' := fun k => k = p.block) ⟨rfl, rfl, rfl, by simp [World.setCell], fun k _ hk => Below.heap_setCell _ _ _ _ hk⟩ fun _ e => by subst e; exact hp
theorem Keeps.cell {S : Nat → Prop} {w w' : World} (h : Keeps S w w') {b o : Nat} {u : Value} (hS : ¬ S b) (hc : w.cell? ⟨b, o, none⟩ = some u) : w'.cell? ⟨b, o, none⟩ = some u :=
  (World.cell?_of_block (a := ⟨b, o, none⟩) (h.block b (cell_lt hc) hS)).trans hc

/-- The same, whatever the address. -/
theorem Keeps.cellA {S : Nat → Prop} {w w' : World} (h : Keeps S w w') {a : Addr} {u : Value} (hS : ¬ S a.block) (hc : w.cell? a = some u) : w'.cell? a = some u :=
  (World.cell?_of_block (a := a) (h.block a.block (by obtain ⟨b, o, s⟩ := a; exact cell_lt hc) hS)).trans hc

/-- Kept, and said of another set of blocks. -/
theorem Sl.into {w w' : World} {S S' S1 : Nat → Prop} {v : Value} {size : Nat} {xs : List Value} (h : Sl w S v size xs) (hk : Keeps S1 w w') (h1 : ∀ k, k < w.heap.size → S1 k → S k) (h2 : ∀ k, k < w.heap.size → S' k → S k) : Sl w' S' v size xs := by
  obtain ⟨A, len, cap, rfl, hl, a1, a2, h3⟩ := h
  refine ⟨A, len, cap, rfl, hl, a1, a2, fun hn => ?_⟩
  obtain ⟨b, off, rfl, hb, hc⟩ := h3 hn
  have hlt : b < w.heap.size := cell_lt (hc 0 _ (List.getElem?_eq_getElem hn))
  exact ⟨b, off, rfl, fun h' => hb (h2 b hlt h'), fun j u hj => hk.cell (fun h' => hb (h1 b hlt h')) (hc j u hj)⟩

theorem Sl.keep {w w' : World} {S S1 : Nat → Prop} {v : Value} {size : Nat} {xs : List Value} (h : Sl w S v size xs) (hk : Keeps S1 w w') (h1 : ∀ k, k < w.heap.size → S1 k → S k) : Sl w' S v size xs :=
  h.into hk h1 fun _ _ h => h

/-- A row that the call owns, as a slice that reads. -/
theorem Sl.of_own {w : World} {S : Nat → Prop} {base : Nat} {e size : Nat} {v : Value} {n : Nat} {xs : List Value} (h : w.ownsRow base e size v n xs) (hS : ∀ g, v.ownBlock = some g → ¬ S g) : Sl w S v size xs := by
  have hl := h.1
  have hc := fun g => h.cells (g := g)
  rcases h.2 with ⟨rfl, rfl⟩ | ⟨g, cap, cur, rfl, _, _, h1, h2, _⟩
  · exact ⟨none, 0, 0, rfl, hl, Nat.le_refl _, by simp [maxLen], fun hn => by omega⟩
  · exact ⟨some ⟨g, 0, none⟩, n, cap, rfl, hl, h1, h2, fun _ => ⟨g, 0, rfl, hS g rfl, fun j u hj => by
      have := hc g rfl j u hj
      rw [Addr.add_lit] at this
      exact this⟩⟩

/-- What a slice looks like that reads as n items. -/
structure NodeOk (w : World) (S : Nat → Prop) (x : NodV) : Prop where
  log : Sl w S x.lv 2 (itemCells x.n.log)
  votes : Sl w S x.vv 1 (intCells x.n.votes)
  next : Sl w S x.nv 1 (intCells x.n.next)
  mtch : Sl w S x.mv 1 (intCells x.n.mtch)

def MesOk (w : World) (S : Nat → Prop) (m : MesV) : Prop := Sl w S m.iv 2 (itemCells m.m.items)

structure MsgsOk (w : World) (S : Nat → Prop) (v : Value) (l : List MesV) : Prop where
  cells : Sl w S v 9 (l.flatMap mesCells)
  each : ∀ m ∈ l, MesOk w S m

theorem NodeOk.into {w w' : World} {S S' S1 : Nat → Prop} {x : NodV} (h : NodeOk w S x) (hk : Keeps S1 w w') (h1 : ∀ k, k < w.heap.size → S1 k → S k) (h2 : ∀ k, k < w.heap.size → S' k → S k) : NodeOk w' S' x :=
  ⟨h.log.into hk h1 h2, h.votes.into hk h1 h2, h.next.into hk h1 h2, h.mtch.into hk h1 h2⟩
theorem MsgsOk.into {w w' : World} {S S' S1 : Nat → Prop} {v : Value} {l : List MesV} (h : MsgsOk w S v l) (hk : Keeps S1 w w') (h1 : ∀ k, k < w.heap.size → S1 k → S k) (h2 : ∀ k, k < w.heap.size → S' k → S k) : MsgsOk w' S' v l :=
  ⟨h.cells.into hk h1 h2, fun m hm => (h.each m hm).into hk h1 h2⟩

/-- The node at work, in block p, with the rows that it owns: all of them in blocks of S, each in one of its own. -/
structure Peer (w : World) (S : Nat → Prop) (p : Nat) (x : NodV) (ov : Value) (out : List MesV) : Prop where
  blk : w.heap[p]? = some (.cells (nodCells x ++ [ov]).toArray 79 (0, 0))
  log : w.ownsRow 0 44 2 x.lv x.n.log.length (itemCells x.n.log)
  votes : w.ownsRow 0 3 1 x.vv x.n.votes.length (intCells x.n.votes)
  next : w.ownsRow 0 3 1 x.nv x.n.next.length (intCells x.n.next)
  mtch : w.ownsRow 0 3 1 x.mv x.n.mtch.length (intCells x.n.mtch)
  outs : w.ownsRow 0 38 9 ov out.length (out.flatMap mesCells)
  items : ∀ m ∈ out, MesOk w S m
  late : ∀ m ∈ out, ∀ g, m.iv.ownBlock = some g → p ≤ g
  pS : S p
  lS : ∀ g, x.lv.ownBlock = some g → S g
  vS : ∀ g, x.vv.ownBlock = some g → S g
  nS : ∀ g, x.nv.ownBlock = some g → S g
  mS : ∀ g, x.mv.ownBlock = some g → S g
  oS : ∀ g, ov.ownBlock = some g → S g
  vn : ∀ g, x.vv.ownBlock = some g → x.nv.ownBlock ≠ some g
  vm : ∀ g, x.vv.ownBlock = some g → x.mv.ownBlock ≠ some g
  nm : ∀ g, x.nv.ownBlock = some g → x.mv.ownBlock ≠ some g
  lt : ∀ k, S k → k < w.heap.size

theorem own_heap {w : World} {base e size : Nat} {v : Value} {n : Nat} {xs : List Value} (h : w.ownsRow base e size v n xs) {g : Nat} (hg : v.ownBlock = some g) : ∃ cur, w.heap[g]? = some (.cells cur e (0, 0)) := by
  rcases h.2 with ⟨rfl, _⟩ | ⟨g', cap, cur, rfl, _, hh, _⟩
  · simp [Value.ownBlock] at hg
  · simp [Value.ownBlock] at hg
    subst hg
    exact ⟨cur, hh⟩

/-- Rows of two element types are not one block. -/
theorem own_ne {w : World} {base e size : Nat} {v : Value} {n : Nat} {xs : List Value} {base' e' size' : Nat} {v' : Value} {n' : Nat} {xs' : List Value} (h : w.ownsRow base e size v n xs) (h' : w.ownsRow base' e' size' v' n' xs') (he : e ≠ e') {g : Nat} (hg : v.ownBlock = some g) : v'.ownBlock ≠ some g := by
  intro hg'
  obtain ⟨c, hc⟩ := own_heap h hg
  obtain ⟨c', hc'⟩ := own_heap h' hg'
  rw [hc] at hc'
  injection hc' with hc'
  injection hc' with _ ht
  exact he ht
theorem own_ne_blk {w : World} {base e size : Nat} {v : Value} {n : Nat} {xs : List Value} {p : Nat} {cs : Array Value} {t : TypeId} (h : w.ownsRow base e size v n xs) (h' : w.heap[p]? = some (.cells cs t (0, 0))) (he : e ≠ t) {g : Nat} (hg : v.ownBlock = some g) : g ≠ p := by
  intro hp
  subst hp
  obtain ⟨c, hc⟩ := own_heap h hg
  rw [hc] at h'
  injection h' with h'
  injection h' with _ ht
  exact he ht

theorem own_keep {w w' : World} {base e size : Nat} {v : Value} {n : Nat} {xs : List Value} (h : w.ownsRow base e size v n xs) (hb : ∀ g, v.ownBlock = some g → w'.heap[g]? = w.heap[g]?) : w'.ownsRow base e size v n xs := by
  refine ⟨h.1, ?_⟩
  rcases h.2 with hn | ⟨g, cap, cur, rfl, h1, hh, h2⟩
  · exact .inl hn
  · exact .inr ⟨g, cap, cur, rfl, h1, (hb g rfl).trans hh, h2⟩

theorem own_lt {w : World} {base e size : Nat} {v : Value} {n : Nat} {xs : List Value} (h : w.ownsRow base e size v n xs) {g : Nat} (hg : v.ownBlock = some g) : g < w.heap.size := (h.lt g hg).2

/-- A world in which all that was there stands as it stood. -/
theorem Peer.later {w w' : World} {S : Nat → Prop} {p : Nat} {x : NodV} {ov : Value} {out : List MesV} (h : Peer w S p x ov out) (hk : Keeps (fun _ => False) w w') : Peer w' S p x ov out := by
  have hb : ∀ k, k < w.heap.size → w'.heap[k]? = w.heap[k]? := fun k hk' => hk.block k hk' (fun h => h)
  have hlt : ∀ g, S g → w'.heap[g]? = w.heap[g]? := fun g hg => hb g (h.lt g hg)
  exact { blk := (hlt p h.pS).trans h.blk, log := own_keep h.log fun g hg => hlt g (h.lS g hg), votes := own_keep h.votes fun g hg => hlt g (h.vS g hg),
          next := own_keep h.next fun g hg => hlt g (h.nS g hg), mtch := own_keep h.mtch fun g hg => hlt g (h.mS g hg), outs := own_keep h.outs fun g hg => hlt g (h.oS g hg),
          items := fun m hm => (h.items m hm).keep hk (fun _ _ h => h.elim), late := h.late, pS := h.pS, lS := h.lS, vS := h.vS, nS := h.nS, mS := h.mS, oS := h.oS, vn := h.vn, vm := h.vm, nm := h.nm,
          lt := fun k hk' => Nat.lt_of_lt_of_le (h.lt k hk') hk.size }

theorem Peer.cell {w : World} {S : Nat → Prop} {p : Nat} {x : NodV} {ov : Value} {out : List MesV} (h : Peer w S p x ov out) (k : Nat) : w.cell? ⟨p, k, none⟩ = (nodCells x ++ [ov])[k]? := by
  rw [cell_of_row w p k _ _ _ h.blk]; simp
theorem Peer.frozen {w : World} {S : Nat → Prop} {p : Nat} {x : NodV} {ov : Value} {out : List MesV} (h : Peer w S p x ov out) (k : Nat) : w.frozen? ⟨p, k, none⟩ = false :=
  frozen_of_row w p k _ _ h.blk

theorem own_slice {w : World} {base e size : Nat} {v : Value} {n : Nat} {xs : List Value} (h : w.ownsRow base e size v n xs) : ∃ A c, v = .slice A n c ∧ n ≤ c ∧ c ≤ maxLen := by
  rcases h.2 with ⟨rfl, rfl⟩ | ⟨g', cap, cur, rfl, _, _, h1, h2, _⟩
  · exact ⟨none, 0, rfl, Nat.le_refl _, by simp [maxLen]⟩
  · exact ⟨_, _, rfl, h1, h2⟩

theorem own_cell {w : World} {base e size : Nat} {A : Option Addr} {n c : Nat} {xs : List Value} (h : w.ownsRow base e size (.slice A n c) n xs) (hn : 0 < n) : ∃ g, A = some ⟨g, 0, none⟩ ∧ (∀ j, j < n * size → w.cell? ⟨g, j, none⟩ = xs[j]?) ∧ ∀ j, w.frozen? ⟨g, j, none⟩ = false := by
  obtain ⟨g, cap, hv, _, _⟩ := h.form hn
  injection hv with h1 h2 h3
  subst h1
  subst h3
  exact ⟨g, rfl, fun j hj => h.cellAt j hj, fun j => h.frozenAt j⟩

/-- All that a walk wants of a node at work. -/
theorem Peer.open_ {w : World} {S : Nat → Prop} {p : Nat} {x : NodV} {ov : Value} {out : List MesV} (h : Peer w S p x ov out) :
    ∃ LA LC VA VC NA NC MA MC OA OC, x.lv = .slice LA x.n.log.length LC ∧ x.vv = .slice VA x.n.votes.length VC ∧ x.nv = .slice NA x.n.next.length NC ∧ x.mv = .slice MA x.n.mtch.length MC ∧ ov = .slice OA out.length OC ∧
      w.cell? ⟨p, 0, none⟩ = some (.int .i64 x.n.id) ∧ w.cell? ⟨p, 1, none⟩ = some (.int .i64 x.n.n) ∧ w.cell? ⟨p, 2, none⟩ = some (.int .i64 x.n.term) ∧ w.cell? ⟨p, 3, none⟩ = some (.int .i64 x.n.vote) ∧
      w.cell? ⟨p, 4, none⟩ = some (.slice LA x.n.log.length LC) ∧ w.cell? ⟨p, 5, none⟩ = some (.int .i64 x.n.commit) ∧ w.cell? ⟨p, 6, none⟩ = some (.int .i64 x.n.role) ∧ w.cell? ⟨p, 7, none⟩ = some (.int .i64 x.n.boss) ∧
      w.cell? ⟨p, 8, none⟩ = some (.slice VA x.n.votes.length VC) ∧ w.cell? ⟨p, 9, none⟩ = some (.slice NA x.n.next.length NC) ∧ w.cell? ⟨p, 10, none⟩ = some (.slice MA x.n.mtch.length MC) ∧ w.cell? ⟨p, 11, none⟩ = some (.slice OA out.length OC) ∧
      (∀ k, w.frozen? ⟨p, k, none⟩ = false) ∧ p < w.heap.size := by
  obtain ⟨LA, LC, h1, _⟩ := own_slice h.log
  obtain ⟨VA, VC, h2, _⟩ := own_slice h.votes
  obtain ⟨NA, NC, h3, _⟩ := own_slice h.next
  obtain ⟨MA, MC, h4, _⟩ := own_slice h.mtch
  obtain ⟨OA, OC, h5, _⟩ := own_slice h.outs
  refine ⟨LA, LC, VA, VC, NA, NC, MA, MC, OA, OC, h1, h2, h3, h4, h5, h.cell 0, h.cell 1, h.cell 2, h.cell 3, ?_, h.cell 5, h.cell 6, h.cell 7, ?_, ?_, ?_, ?_, h.frozen, h.lt p h.pS⟩
  · rw [← h1]; exact h.cell 4
  · rw [← h2]; exact h.cell 8
  · rw [← h3]; exact h.cell 9
  · rw [← h4]; exact h.cell 10
  · rw [← h5]; exact h.cell 11

theorem heap_alloc2 (w : World) (a b : Obj) : ((w.alloc a).alloc b).heap[w.heap.size + 1]? = some b := by
  have := heap_alloc_new (w.alloc a) b
  simpa using this

/-- A cell behind an append: of a block that was there, and is not the row's own. -/
theorem cell_grown {w w2 w1 : World} {row : Option Nat} (hk : Keeps (fun _ => False) w w2) (hg : w2.grownBy w1 row) {p o : Nat} {u : Value} (hc : w.cell? ⟨p, o, none⟩ = some u) (hne : row ≠ some p) : w1.cell? ⟨p, o, none⟩ = some u := by
  have hlt : p < w2.heap.size := Nat.lt_of_lt_of_le (cell_lt hc) hk.size
  rw [hg.cell_far ⟨p, o, none⟩ hlt (fun e => hne e.symm)]
  exact hk.cell (fun h => h) hc
theorem frozen_grown {w w2 w1 : World} {row : Option Nat} (hk : Keeps (fun _ => False) w w2) (hg : w2.grownBy w1 row) {p o : Nat} (hp : p < w.heap.size) (hc : w.frozen? ⟨p, o, none⟩ = false) (hne : row ≠ some p) : w1.frozen? ⟨p, o, none⟩ = false := by
  have hlt : p < w2.heap.size := Nat.lt_of_lt_of_le hp hk.size
  rw [hg.frozen_far ⟨p, o, none⟩ hlt (fun e => hne e.symm)]
  exact (World.frozen?_of_block (a := ⟨p, o, none⟩) (hk.block p hp (fun h => h))).trans hc

theorem Peer.out_ne {w : World} {S : Nat → Prop} {p : Nat} {x : NodV} {ov : Value} {out : List MesV} (h : Peer w S p x ov out) : ov.ownBlock ≠ some p := fun e => own_ne_blk h.outs h.blk (by decide) e rfl
theorem Peer.log_ne {w : World} {S : Nat → Prop} {p : Nat} {x : NodV} {ov : Value} {out : List MesV} (h : Peer w S p x ov out) : x.lv.ownBlock ≠ some p := fun e => own_ne_blk h.log h.blk (by decide) e rfl
theorem Peer.votes_ne {w : World} {S : Nat → Prop} {p : Nat} {x : NodV} {ov : Value} {out : List MesV} (h : Peer w S p x ov out) : x.vv.ownBlock ≠ some p := fun e => own_ne_blk h.votes h.blk (by decide) e rfl
theorem Peer.next_ne {w : World} {S : Nat → Prop} {p : Nat} {x : NodV} {ov : Value} {out : List MesV} (h : Peer w S p x ov out) : x.nv.ownBlock ≠ some p := fun e => own_ne_blk h.next h.blk (by decide) e rfl
theorem Peer.mtch_ne {w : World} {S : Nat → Prop} {p : Nat} {x : NodV} {ov : Value} {out : List MesV} (h : Peer w S p x ov out) : x.mv.ownBlock ≠ some p := fun e => own_ne_blk h.mtch h.blk (by decide) e rfl

theorem setCell_blk {w : World} {p k : Nat} {cs : Array Value} {t : TypeId} {u : Value} (h : w.heap[p]? = some (.cells cs t (0, 0))) : (w.setCell ⟨p, k, none⟩ u).heap[p]? = some (.cells (cs.setIfInBounds k u) t (0, 0)) := heap_setCell_same w p k cs t u h

/-- A message has been said: 'out' has grown, in its own row or a new one, and stands in its field again. -/
theorem Peer.said {w w2 w1 : World} {S : Nat → Prop} {p : Nat} {x : NodV} {ov : Value} {out : List MesV} (h : Peer w S p x ov out) (hk : Keeps (fun _ => False) w w2) {gg n cap : Nat} {m : MesV}
    (hown : w1.ownsRow 0 38 9 (.slice (some ⟨gg, 0, none⟩) n cap) n (out.flatMap mesCells ++ mesCells m)) (hn : n = out.length + 1) (hgrow : w2.grownBy w1 ov.ownBlock) (hat : ov.ownBlock = some gg ∨ w.heap.size ≤ gg) (hm : MesOk w S m) (hlate : ∀ g, m.iv.ownBlock = some g → p ≤ g) :
    Peer (w1.setCell ⟨p, 11, none⟩ (.slice (some ⟨gg, 0, none⟩) n cap)) (fun k => S k ∨ k = gg) p x (.slice (some ⟨gg, 0, none⟩) n cap) (out ++ [m]) ∧
      Keeps S w (w1.setCell ⟨p, 11, none⟩ (.slice (some ⟨gg, 0, none⟩) n cap)) ∧ ∀ k, (S k ∨ k = gg) → S k ∨ w.heap.size ≤ k := by
  have hsub : ∀ k, (S k ∨ k = gg) → S k ∨ w.heap.size ≤ k := fun k hk' => by
    rcases hk' with h1 | rfl
    · exact .inl h1
    · rcases hat with h2 | h2
      · exact .inl (h.oS _ h2)
      · exact .inr h2
  have hw1 : ∀ k, k < w.heap.size → some k ≠ ov.ownBlock → w1.heap[k]? = w.heap[k]? := fun k hlt hne =>
    (hgrow.block k (Nat.lt_of_lt_of_le hlt hk.size) hne).trans (hk.block k hlt (fun h => h))
  have hb : ∀ k, k < w.heap.size → some k ≠ ov.ownBlock → k ≠ p → (w1.setCell ⟨p, 11, none⟩ (.slice (some ⟨gg, 0, none⟩) n cap)).heap[k]? = w.heap[k]? := fun k hlt hne hp =>
    (Below.heap_setCell _ _ _ _ hp).trans (hw1 k hlt hne)
  have hkeep1 : Keeps S w w1 := (hk.mono (S' := S) (fun _ h => h.elim)).trans (S' := fun k => some k = ov.ownBlock) ⟨hgrow.os, hgrow.tape, hgrow.output, hgrow.size, fun k hk' hne => hgrow.block k hk' hne⟩
    (fun k hk' => .inl (h.oS k hk'.symm))
  have hkeep : Keeps S w (w1.setCell ⟨p, 11, none⟩ (.slice (some ⟨gg, 0, none⟩) n cap)) := hkeep1.setCell (.inl h.pS) _
  have hgp : gg ≠ p := by
    rcases hat with h2 | h2
    · exact own_ne_blk h.outs h.blk (by decide) h2
    · have := h.lt p h.pS; omega
  subst hn
  have hrow' : ∀ (v : Value) (base e size n' : Nat) (xs : List Value), w.ownsRow base e size v n' xs → e ≠ 38 → e ≠ 79 → (w1.setCell ⟨p, 11, none⟩ (.slice (some ⟨gg, 0, none⟩) (out.length + 1) cap)).ownsRow base e size v n' xs := fun v base e size n' xs hr he1 he2 =>
    own_keep hr fun g hg => (Below.heap_setCell _ _ _ _ (own_ne_blk hr h.blk he2 hg)).trans (hw1 g (own_lt hr hg) (fun e' => own_ne hr h.outs he1 hg e'.symm))
  refine ⟨{ blk := ?_, log := hrow' _ _ _ _ _ _ h.log (by decide) (by decide), votes := hrow' _ _ _ _ _ _ h.votes (by decide) (by decide), next := hrow' _ _ _ _ _ _ h.next (by decide) (by decide),
            mtch := hrow' _ _ _ _ _ _ h.mtch (by decide) (by decide), outs := ?_, items := ?_, late := fun m' hm' => (List.mem_append.1 hm').elim (h.late m') fun h1 => (by simp at h1; subst h1; exact hlate), pS := .inl h.pS, lS := fun g hg => .inl (h.lS g hg), vS := fun g hg => .inl (h.vS g hg),
            nS := fun g hg => .inl (h.nS g hg), mS := fun g hg => .inl (h.mS g hg), oS := ?_, vn := h.vn, vm := h.vm, nm := h.nm, lt := ?_ }, hkeep, hsub⟩
  · rw [setCell_blk ((hw1 p (h.lt p h.pS) (fun e => h.out_ne e.symm)).trans h.blk)]
    rfl
  · rw [List.length_append, List.flatMap_append]
    have := own_keep (w' := w1.setCell ⟨p, 11, none⟩ (.slice (some ⟨gg, 0, none⟩) (out.length + 1) cap)) hown fun g hg => by
      have : gg = g := by simpa [Value.ownBlock] using hg
      subst this
      exact Below.heap_setCell _ _ _ _ hgp
    simpa using this
  · intro m' hm'
    have h' : MesOk w S m' := by
      rcases List.mem_append.1 hm' with h1 | h1
      · exact h.items m' h1
      · simp at h1; subst h1; exact hm
    refine h'.into hkeep (fun _ _ h => h) fun k hlt hk' => ?_
    rcases hsub k hk' with h1 | h1
    · exact h1
    · omega
  · intro g hg
    have : gg = g := by simpa [Value.ownBlock] using hg
    exact .inr this.symm
  · intro k hk'
    have hsz : w1.heap.size = (w1.setCell ⟨p, 11, none⟩ (.slice (some ⟨gg, 0, none⟩) (out.length + 1) cap)).heap.size := by simp [World.setCell]
    rw [← hsz]
    rcases hk' with h1 | rfl
    · exact Nat.lt_of_lt_of_le (h.lt k h1) hkeep1.size
    · exact own_lt hown rfl

theorem own_later {w w' : World} {base e size : Nat} {v : Value} {n : Nat} {xs : List Value} (h : w.ownsRow base e size v n xs) (hk : Keeps (fun _ => False) w w') : w'.ownsRow base e size v n xs :=
  own_keep h fun g hg => hk.block g (own_lt h hg) fun h => h
theorem own_set {w : World} {base e size : Nat} {v : Value} {n : Nat} {xs : List Value} (h : w.ownsRow base e size v n xs) {p k : Nat} (u : Value) (hne : v.ownBlock ≠ some p) : (w.setCell ⟨p, k, none⟩ u).ownsRow base e size v n xs :=
  own_keep h fun g hg => Below.heap_setCell _ _ _ _ fun e => hne (by rw [hg, e])
theorem Keeps.setNew {w w' : World} (h : Keeps (fun _ => False) w w') {p k : Nat} (hp : w.heap.size ≤ p) (u : Value) : Keeps (fun _ => False) w (w'.setCell ⟨p, k, none⟩ u) := h.setCell (.inr hp) u
theorem Keeps.blk {w w' : World} (h : Keeps (fun _ => False) w w') {b : Nat} {o : Obj} (hb : w.heap[b]? = some o) : w'.heap[b]? = some o :=
  (h.block b (by rcases Nat.lt_or_ge b w.heap.size with hlt | hge; exact hlt; rw [Array.getElem?_eq_none hge] at hb; cases hb) fun h => h).trans hb
theorem setCell_size (w : World) (a : Addr) (u : Value) : (w.setCell a u).heap.size = w.heap.size := by simp [World.setCell]

end Go.Proofs.Ytibjbpakbfodaaa
