/- What memory holds: lists of words, whole numbers and fractions; lemmas on what is kept. No walk is here. -/
import Derived.Test.YthjokmfidhcclaaGreatDoorRows
import Derived.Test.YthjokmfidhcclaaGreatDoorDig
import Derived.WalkKit
import Derived.Deep.AppendLies
import Derived.Deep.Draws
import Derived.Lib.Hide
import Derived.OwnWalk
namespace Go.Proofs.YthjokmfidhcclaaGreatDoor
open Go.RowKit

/-- A slice that reads as these cells, none of them in a block of S. -/
def Sl (w : World) (S : Nat → Prop) (v : Value) (size : Nat) (xs : List Value) : Prop :=
  ∃ A len cap, v = .slice A len cap ∧ xs.length = len * size ∧ len ≤ cap ∧ cap ≤ maxLen ∧
    (0 < xs.length → ∃ b off, A = some ⟨b, off, none⟩ ∧ ¬ S b ∧ ∀ j u, xs[j]? = some u → w.cell? ⟨b, off + j, none⟩ = some u)

theorem cell_lt {w : World} {b o : Nat} {s : Option Nat} {u : Value} (h : w.cell? ⟨b, o, s⟩ = some u) : b < w.heap.size := by
  rcases Nat.lt_or_ge b w.heap.size with hlt | hge
  · exact hlt
  · simp [World.cell?, Array.getElem?_eq_none hge] at h

/-- Blocks that were there, but those of S, are as they were. -/
structure Keeps (S : Nat → Prop) (w w' : World) : Prop where
  os : w'.os = w.os
  tape : w'.tape = w.tape
  output : w'.output = w.output
  size : w.heap.size ≤ w'.heap.size
  block : ∀ k, k < w.heap.size → ¬ S k → w'.heap[k]? = w.heap[k]?

theorem Keeps.refl (S : Nat → Prop) (w : World) : Keeps S w w := ⟨rfl, rfl, rfl, Nat.le_refl _, fun _ _ _ => rfl⟩
theorem Keeps.trans {S S' : Nat → Prop} {w w1 w2 : World} (h : Keeps S w w1) (h' : Keeps S' w1 w2) (hs : ∀ k, S' k → S k ∨ w.heap.size ≤ k) : Keeps S w w2 :=
  ⟨h'.os.trans h.os, h'.tape.trans h.tape, h'.output.trans h.output, Nat.le_trans h.size h'.size, fun k hk hS =>
    (h'.block k (Nat.lt_of_lt_of_le hk h.size) (fun h1 => (hs k h1).elim hS (fun h2 => by omega))).trans (h.block k hk hS)⟩
theorem Keeps.mono {S S' : Nat → Prop} {w w' : World} (h : Keeps S w w') (hs : ∀ k, S k → S' k ∨ w.heap.size ≤ k) : Keeps S' w w' :=
  ⟨h.os, h.tape, h.output, h.size, fun k hk hS => h.block k hk (fun h1 => (hs k h1).elim hS (fun h2 => by omega))⟩
theorem Keeps.below {S : Nat → Prop} {w w' : World} {B : Nat} (h : Keeps S w w') (hB : B ≤ w.heap.size) (hs : ∀ k, S k → B ≤ k) : Below B w w' :=
  ⟨h.os, h.tape, h.output, h.size, fun k hk => h.block k (by omega) (fun h1 => by have := hs k h1; omega)⟩
theorem Keeps.of_below {S : Nat → Prop} {w w' : World} (h : Below w.heap.size w w') : Keeps S w w' := ⟨h.os, h.tape, h.output, h.size, fun k hk _ => h.block k hk⟩
theorem Keeps.of_grown {S : Nat → Prop} {w w' : World} {row : Option Nat} (h : w.grownBy w' row) (hs : ∀ k, row = some k → S k ∨ w.heap.size ≤ k) : Keeps S w w' :=
  ⟨h.os, h.tape, h.output, h.size, fun k hk hS => h.block k hk (fun e => (hs k e.symm).elim hS (fun h2 => by omega))⟩
theorem Keeps.alloc {S : Nat → Prop} {w w' : World} (h : Keeps S w w') (o : Obj) : Keeps S w (w'.alloc o) :=
  h.trans (S' := S) ⟨rfl, rfl, rfl, by simp, fun k hk _ => Below.heap_alloc _ _ _ hk⟩ fun _ h => .inl h
theorem Keeps.drew {S : Nat → Prop} {w w' : World} (h : Keeps S w w') : Keeps S w w'.drew := ⟨h.os, h.tape, h.output, h.size, h.block⟩
theorem Keeps.drewN {S : Nat → Prop} {w w' : World} (h : Keeps S w w') (n : Nat) : Keeps S w (w'.drewN n) := ⟨h.os, h.tape, h.output, h.size, h.block⟩
theorem Keeps.setCell {S : Nat → Prop} {w w' : World} (h : Keeps S w w') {p : Addr} (hp : S p.block ∨ w.heap.size ≤ p.block) (u : Value) : Keeps S w (w'.setCell p u) :=
  h.trans (S' := fun k => k = p.block) ⟨rfl, rfl, rfl, by simp [World.setCell], fun k _ hk => Below.heap_setCell _ _ _ _ hk⟩ fun _ e => by subst e; exact hp
theorem Keeps.cell {S : Nat → Prop} {w w' : World} (h : Keeps S w w') {b o : Nat} {u : Value} (hS : ¬ S b) (hc : w.cell? ⟨b, o, none⟩ = some u) : w'.cell? ⟨b, o, none⟩ = some u :=
  (World.cell?_of_block (a := ⟨b, o, none⟩) (h.block b (cell_lt hc) hS)).trans hc

/-- The same, whatever the address. -/
theorem Keeps.cellA {S : Nat → Prop} {w w' : World} (h : Keeps S w w') {a : Addr} {u : Value} (hS : ¬ S a.block) (hc : w.cell? a = some u) : w'.cell? a = some u :=
  (World.cell?_of_block (a := a) (h.block a.block (by obtain ⟨b, o, s⟩ := a; exact cell_lt hc) hS)).trans hc

/-- Kept, and said of another set of blocks. -/
theorem Sl.into {w w' : World} {S S' S1 : Nat → Prop} {v : Value} {size : Nat} {xs : List Value} (h : Sl w S v size xs) (hk : Keeps S1 w w') (h1 : ∀ k, k < w.heap.size → S1 k → S k) (h2 : ∀ k, k < w.heap.size → S' k → S k) : Sl w' S' v size xs := by
  obtain ⟨A, len, cap, rfl, hl, a1, a2, h3⟩ := h
  refine ⟨A, len, cap, rfl, hl, a1, a2, fun hn => ?_⟩
  obtain ⟨b, off, rfl, hb, hc⟩ := h3 hn
  have hlt : b < w.heap.size := cell_lt (hc 0 _ (List.getElem?_eq_getElem hn))
  exact ⟨b, off, rfl, fun h' => hb (h2 b hlt h'), fun j u hj => hk.cell (fun h' => hb (h1 b hlt h')) (hc j u hj)⟩

theorem Sl.keep {w w' : World} {S S1 : Nat → Prop} {v : Value} {size : Nat} {xs : List Value} (h : Sl w S v size xs) (hk : Keeps S1 w w') (h1 : ∀ k, k < w.heap.size → S1 k → S k) : Sl w' S v size xs :=
  h.into hk h1 fun _ _ h => h

/-- A row that the call owns, as a slice that reads. -/
theorem Sl.of_own {w : World} {S : Nat → Prop} {base : Nat} {e size : Nat} {v : Value} {n : Nat} {xs : List Value} (h : w.ownsRow base e size v n xs) (hS : ∀ g, v.ownBlock = some g → ¬ S g) : Sl w S v size xs := by
  have hl := h.1
  have hc := fun g => h.cells (g := g)
  rcases h.2 with ⟨rfl, rfl⟩ | ⟨g, cap, cur, rfl, _, _, h1, h2, _⟩
  · exact ⟨none, 0, 0, rfl, hl, Nat.le_refl _, by simp [maxLen], fun hn => by omega⟩
  · exact ⟨some ⟨g, 0, none⟩, n, cap, rfl, hl, h1, h2, fun _ => ⟨g, 0, rfl, hS g rfl, fun j u hj => by
      have := hc g rfl j u hj
      rw [Addr.add_lit] at this
      exact this⟩⟩

theorem own_heap {w : World} {base e size : Nat} {v : Value} {n : Nat} {xs : List Value} (h : w.ownsRow base e size v n xs) {g : Nat} (hg : v.ownBlock = some g) : ∃ cur, w.heap[g]? = some (.cells cur e (0, 0)) := by
  rcases h.2 with ⟨rfl, _⟩ | ⟨g', cap, cur, rfl, _, hh, _⟩
  · simp [Value.ownBlock] at hg
  · simp [Value.ownBlock] at hg
    subst hg
    exact ⟨cur, hh⟩

/-- Rows of two element types are not one block. -/
theorem own_ne {w : World} {base e size : Nat} {v : Value} {n : Nat} {xs : List Value} {base' e' size' : Nat} {v' : Value} {n' : Nat} {xs' : List Value} (h : w.ownsRow base e size v n xs) (h' : w.ownsRow base' e' size' v' n' xs') (he : e ≠ e') {g : Nat} (hg : v.ownBlock = some g) : v'.ownBlock ≠ some g := by
  intro hg'
  obtain ⟨c, hc⟩ := own_heap h hg
  obtain ⟨c', hc'⟩ := own_heap h' hg'
  rw [hc] at hc'
  injection hc' with hc'
  injection hc' with _ ht
  exact he ht
theorem own_ne_blk {w : World} {base e size : Nat} {v : Value} {n : Nat} {xs : List Value} {p : Nat} {cs : Array Value} {t : TypeId} (h : w.ownsRow base e size v n xs) (h' : w.heap[p]? = some (.cells cs t (0, 0))) (he : e ≠ t) {g : Nat} (hg : v.ownBlock = some g) : g ≠ p := by
  intro hp
  subst hp
  obtain ⟨c, hc⟩ := own_heap h hg
  rw [hc] at h'
  injection h' with h'
  injection h' with _ ht
  exact he ht

theorem own_keep {w w' : World} {base e size : Nat} {v : Value} {n : Nat} {xs : List Value} (h : w.ownsRow base e size v n xs) (hb : ∀ g, v.ownBlock = some g → w'.heap[g]? = w.heap[g]?) : w'.ownsRow base e size v n xs := by
  refine ⟨h.1, ?_⟩
  rcases h.2 with hn | ⟨g, cap, cur, rfl, h1, hh, h2⟩
  · exact .inl hn
  · exact .inr ⟨g, cap, cur, rfl, h1, (hb g rfl).trans hh, h2⟩

theorem own_lt {w : World} {base e size : Nat} {v : Value} {n : Nat} {xs : List Value} (h : w.ownsRow base e size v n xs) {g : Nat} (hg : v.ownBlock = some g) : g < w.heap.size := (h.lt g hg).2

theorem own_slice {w : World} {base e size : Nat} {v : Value} {n : Nat} {xs : List Value} (h : w.ownsRow base e size v n xs) : ∃ A c, v = .slice A n c ∧ n ≤ c ∧ c ≤ maxLen := by
  rcases h.2 with ⟨rfl, rfl⟩ | ⟨g', cap, cur, rfl, _, _, h1, h2, _⟩
  · exact ⟨none, 0, rfl, Nat.le_refl _, by simp [maxLen]⟩
  · exact ⟨_, _, rfl, h1, h2⟩

theorem own_cell {w : World} {base e size : Nat} {A : Option Addr} {n c : Nat} {xs : List Value} (h : w.ownsRow base e size (.slice A n c) n xs) (hn : 0 < n) : ∃ g, A = some ⟨g, 0, none⟩ ∧ (∀ j, j < n * size → w.cell? ⟨g, j, none⟩ = xs[j]?) ∧ ∀ j, w.frozen? ⟨g, j, none⟩ = false := by
  obtain ⟨g, cap, hv, _, _⟩ := h.form hn
  injection hv with h1 h2 h3
  subst h1
  subst h3
  exact ⟨g, rfl, fun j hj => h.cellAt j hj, fun j => h.frozenAt j⟩

theorem heap_alloc2 (w : World) (a b : Obj) : ((w.alloc a).alloc b).heap[w.heap.size + 1]? = some b := by
  have := heap_alloc_new (w.alloc a) b
  simpa using this

theorem setCell_blk {w : World} {p k : Nat} {cs : Array Value} {t : TypeId} {u : Value} (h : w.heap[p]? = some (.cells cs t (0, 0))) : (w.setCell ⟨p, k, none⟩ u).heap[p]? = some (.cells (cs.setIfInBounds k u) t (0, 0)) := heap_setCell_same w p k cs t u h

theorem own_later {w w' : World} {base e size : Nat} {v : Value} {n : Nat} {xs : List Value} (h : w.ownsRow base e size v n xs) (hk : Keeps (fun _ => False) w w') : w'.ownsRow base e size v n xs :=
  own_keep h fun g hg => hk.block g (own_lt h hg) fun h => h
theorem own_set {w : World} {base e size : Nat} {v : Value} {n : Nat} {xs : List Value} (h : w.ownsRow base e size v n xs) {p k : Nat} (u : Value) (hne : v.ownBlock ≠ some p) : (w.setCell ⟨p, k, none⟩ u).ownsRow base e size v n xs :=
  own_keep h fun g hg => Below.heap_setCell _ _ _ _ fun e => hne (by rw [hg, e])
theorem Keeps.setNew {w w' : World} (h : Keeps (fun _ => False) w w') {p k : Nat} (hp : w.heap.size ≤ p) (u : Value) : Keeps (fun _ => False) w (w'.setCell ⟨p, k, none⟩ u) := h.setCell (.inr hp) u
theorem Keeps.blk {w w' : World} (h : Keeps (fun _ => False) w w') {b : Nat} {o : Obj} (hb : w.heap[b]? = some o) : w'.heap[b]? = some o :=
  (h.block b (by rcases Nat.lt_or_ge b w.heap.size with hlt | hge; exact hlt; rw [Array.getElem?_eq_none hge] at hb; cases hb) fun h => h).trans hb
theorem setCell_size (w : World) (a : Addr) (u : Value) : (w.setCell a u).heap.size = w.heap.size := by simp [World.setCell]

theorem ret_int {k : IntKind} {a b : Int} (h : a = b) : Ending.returned (.int k a) = .returned (.int k b) := by rw [h]
theorem ret_bool {a b : Bool} (h : a = b) : Ending.returned (.bool a) = .returned (.bool b) := by rw [h]

/-- Words as cells. -/
def wcs (k : IntKind) (l : List Nat) : List Value := l.map fun (x : Nat) => Value.int k (x : Int)
theorem wcs_length (k : IntKind) (l : List Nat) : (wcs k l).length = l.length := by simp [wcs]
theorem wcs_get {k : IntKind} {l : List Nat} {j : Nat} (h : j < l.length) : (wcs k l)[j]? = some (.int k (l[j] : Int)) := by simp [wcs, List.getElem?_eq_getElem h]
theorem wcs_append (k : IntKind) (l m : List Nat) : wcs k (l ++ m) = wcs k l ++ wcs k m := by simp [wcs]
theorem wcs_set (k : IntKind) (l : List Nat) (j x : Nat) : wcs k (l.set j x) = (wcs k l).set j (.int k (x : Int)) := by simp [wcs]
theorem wcs_one (k : IntKind) (l : List Nat) : ∀ u ∈ wcs k l, u.oneCell' = true := by
  intro u hu
  simp only [wcs, List.mem_map] at hu
  obtain ⟨z, _, rfl⟩ := hu
  rfl
theorem wcs_take (k : IntKind) (l : List Nat) (n : Nat) : wcs k (l.take n) = (wcs k l).take n := by simp [wcs, List.map_take]

/-- A slice of words, at the head of a row of its own. -/
def Arr (k : IntKind) (t : TypeId) (w : World) (v : Value) (l : List Nat) : Prop := w.ownsRow 0 t 1 v l.length (wcs k l)
abbrev A32 := Arr .u32 119
abbrev A64 := Arr .u64 51

theorem Arr.slice {k : IntKind} {t : TypeId} {w : World} {v : Value} {l : List Nat} (h : Arr k t w v l) : ∃ A c, v = .slice A l.length c ∧ l.length ≤ c ∧ c ≤ maxLen := own_slice h

theorem Arr.cell {k : IntKind} {t : TypeId} {w : World} {A : Option Addr} {n c : Nat} {l : List Nat} (h : Arr k t w (.slice A n c) l) (hn : 0 < l.length) :
    ∃ g, A = some ⟨g, 0, none⟩ ∧ (∀ j (hj : j < l.length), w.cell? ⟨g, j, none⟩ = some (.int k (l[j] : Int))) ∧ (∀ j, w.frozen? ⟨g, j, none⟩ = false) ∧ g < w.heap.size := by
  have e : n = l.length := by
    obtain ⟨A', c', e, _⟩ := h.slice
    injection e
  subst e
  obtain ⟨g, rfl, hc, hf⟩ := own_cell h hn
  refine ⟨g, rfl, fun j hj => ?_, hf, ?_⟩
  · rw [hc j (by omega), wcs_get hj]
  · have := hc 0 (by omega)
    rw [wcs_get hn] at this
    exact cell_lt this

theorem Arr.nil (k : IntKind) (t : TypeId) (w : World) : Arr k t w (.slice none 0 0) [] := World.ownsRow_nil _ _ _ _

/-- Its first words. -/
theorem Arr.take {k : IntKind} {t : TypeId} {w : World} {A : Option Addr} {n c : Nat} {l : List Nat} (h : Arr k t w (.slice A n c) l) (m : Nat) (hm : m ≤ l.length) : Arr k t w (.slice A m c) (l.take m) := by
  have hl : (l.take m).length = m := by rw [List.length_take]; omega
  unfold Arr World.ownsRow
  rw [hl]
  refine ⟨by rw [wcs_length, hl, Nat.mul_one], ?_⟩
  rcases h.2 with ⟨e, e2⟩ | ⟨g, cap, cur, e, hb, hh, h1, h2, h3, h4⟩
  · injection e with e1 _ e3
    subst e1 e3
    have : m = 0 := by omega
    subst this
    exact .inl ⟨rfl, rfl⟩
  · injection e with e1 _ e3
    subst e1 e3
    refine .inr ⟨g, c, cur, rfl, hb, hh, by omega, h2, h3, ?_⟩
    rw [wcs_take, ← h4, Nat.mul_one, List.take_take, Nat.mul_one, Nat.min_eq_left hm]

theorem Arr.kept {k : IntKind} {t : TypeId} {w w' : World} {v : Value} {l : List Nat} (h : Arr k t w v l) (hb : ∀ g, v.ownBlock = some g → w'.heap[g]? = w.heap[g]?) : Arr k t w' v l := own_keep h hb
theorem Arr.later {k : IntKind} {t : TypeId} {w w' : World} {v : Value} {l : List Nat} (h : Arr k t w v l) (hk : Keeps (fun _ => False) w w') : Arr k t w' v l := own_later h hk
theorem Arr.lt {k : IntKind} {t : TypeId} {w : World} {v : Value} {l : List Nat} (h : Arr k t w v l) {g : Nat} (hg : v.ownBlock = some g) : g < w.heap.size := own_lt h hg
theorem Arr.of_own {k : IntKind} {t : TypeId} {w : World} {base : Nat} {v : Value} {n : Nat} {l : List Nat} {xs : List Value} (h : w.ownsRow base t 1 v n xs) (hn : n = l.length) (hx : xs = wcs k l) : Arr k t w v l := by
  subst hn hx
  refine ⟨h.1, ?_⟩
  rcases h.2 with hn | ⟨g, cap, cur, rfl, _, h2⟩
  · exact .inl hn
  · exact .inr ⟨g, cap, cur, rfl, Nat.zero_le _, h2⟩

/-- One word is set. -/
theorem Arr.set {k : IntKind} {t : TypeId} {w : World} {g n c : Nat} {l : List Nat} (h : Arr k t w (.slice (some ⟨g, 0, none⟩) n c) l) (j x : Nat) : Arr k t (w.setCell ⟨g, j, none⟩ (.int k (x : Int))) (.slice (some ⟨g, 0, none⟩) n c) (l.set j x) := by
  have e : n = l.length := by
    obtain ⟨A', c', e, _⟩ := h.slice
    injection e
  subst e
  have h1 := (World.ownsRow.stored h j (.int k (x : Int))).1
  rw [← wcs_set] at h1
  unfold Arr
  rw [List.length_set]
  exact h1
theorem Arr.setOther {k : IntKind} {t : TypeId} {w : World} {v : Value} {l : List Nat} (h : Arr k t w v l) {g : Nat} (hg : v.ownBlock ≠ some g) (j : Nat) (u : Value) : Arr k t (w.setCell ⟨g, j, none⟩ u) v l := own_set h u hg
theorem Arr.of_zeros {k : IntKind} {t : TypeId} {w : World} {p n c : Nat} (h : w.ownsRow 0 t 1 (.slice (some ⟨p, 0, none⟩) n c) n (madeCells (Value.int k 0).cells (n * 1)).toList) : Arr k t w (.slice (some ⟨p, 0, none⟩) n c) (List.replicate n 0) := by
  refine Arr.of_own h (by simp) ?_
  rw [show (Value.int k 0).cells = #[.int k 0] from rfl, toList_madeCells_one]
  simp [wcs]

/-- The digits of a number, as a slice. -/
abbrev B32 : Nat := 4294967296
def N32 (w : World) (v : Value) (n : Nat) : Prop := A32 w v (digs 4294967296 n)
def N64 (w : World) (v : Value) (n : Nat) : Prop := A64 w v (digs 18446744073709551616 n)

end Go.Proofs.YthjokmfidhcclaaGreatDoor
