/- What memory holds: lists of words, whole numbers and fractions; lemmas on what is kept. No walk is here. A region that draws its order: operations that only read may be taken first, whatever the others write or call, where all worlds that come up ahead of the last operations (from a given one on) are of one class. -/
import Derived.Test.YtnihfhfakadepaaGreatDoorRows
import Derived.Test.YtnihfhfakadepaaGreatDoorXPlainA
import Derived.WalkKit
import Derived.Deep.AppendLies
import Derived.Deep.Draws
import Derived.Lib.Hide
import Derived.OwnWalk
import Derived.StillTail
import Derived.Deep.Quiet
import Derived.Deep.DeepBigQuietO
namespace Go.Proofs.YtnihfhfakadepaaGreatDoor
open Go.RowKit

/-- A slice that reads as these cells, none of them in a block of S. -/
def Sl (w : World) (S : Nat → Prop) (v : Value) (size : Nat) (xs : List Value) : Prop :=
  ∃ A len cap, v = .slice A len cap ∧ xs.length = len * size ∧ len ≤ cap ∧ cap ≤ maxLen ∧
    (0 < xs.length → ∃ b off, A = some ⟨b, off, none⟩ ∧ ¬ S b ∧ ∀ j u, xs[j]? = some u → w.cell? ⟨b, off + j, none⟩ = some u)

theorem cell_lt {w : World} {b o : Nat} {s : Option Nat} {u : Value} (h : w.cell? ⟨b, o, s⟩ = some u) : b < w.heap.size := by
  rcases Nat.lt_or_ge b w.heap.size with hlt | hge
  · exact hlt
  · simp [World.cell?, Array.getElem?_eq_none hge] at h

/-- Blocks that were there, but those of S, are as they were. -/
structure Keeps (S : Nat → Prop) (w w' : World) : Prop where
  os : w'.os = w.os
  tape : w'.tape = w.tape
  output : w'.output = w.output
  size : w.heap.size ≤ w'.heap.size
  block : ∀ k, k < w.heap.size → ¬ S k → w'.heap[k]? = w.heap[k]?

theorem Keeps.refl (S : Nat → Prop) (w : World) : Keeps S w w := ⟨rfl, rfl, rfl, Nat.le_refl _, fun _ _ _ => rfl⟩
theorem Keeps.trans {S S' : Nat → Prop} {w w1 w2 : World} (h : Keeps S w w1) (h' : Keeps S' w1 w2) (hs : ∀ k, S' k → S k ∨ w.heap.size ≤ k) : Keeps S w w2 :=
  ⟨h'.os.trans h.os, h'.tape.trans h.tape, h'.output.trans h.output, Nat.le_trans h.size h'.size, fun k hk hS =>
    (h'.block k (Nat.lt_of_lt_of_le hk h.size) (fun h1 => (hs k h1).elim hS (fun h2 => by omega))).trans (h.block k hk hS)⟩
theorem Keeps.mono {S S' : Nat → Prop} {w w' : World} (h : Keeps S w w') (hs : ∀ k, S k → S' k ∨ w.heap.size ≤ k) : Keeps S' w w' :=
  ⟨h.os, h.tape, h.output, h.size, fun k hk hS => h.block k hk (fun h1 => (hs k h1).elim hS (fun h2 => by omega))⟩
theorem Keeps.below {S : Nat → Prop} {w w' : World} {B : Nat} (h : Keeps S w w') (hB : B ≤ w.heap.size) (hs : ∀ k, S k → B ≤ k) : Below B w w' :=
  ⟨h.os, h.tape, h.output, h.size, fun k hk => h.block k (by omega) (fun h1 => by have := hs k h1; omega)⟩
theorem Keeps.of_below {S : Nat → Prop} {w w' : World} (h : Below w.heap.size w w') : Keeps S w w' := ⟨h.os, h.tape, h.output, h.size, fun k hk _ => h.block k hk⟩
theorem Keeps.of_grown {S : Nat → Prop} {w w' : World} {row : Option Nat} (h : w.grownBy w' row) (hs : ∀ k, row = some k → S k ∨ w.heap.size ≤ k) : Keeps S w w' :=
  ⟨h.os, h.tape, h.output, h.size, fun k hk hS => h.block k hk (fun e => (hs k e.symm).elim hS (fun h2 => by omega))⟩
theorem Keeps.alloc {S : Nat → Prop} {w w' : World} (h : Keeps S w w') (o : Obj) : Keeps S w (w'.alloc o) :=
  h.trans (S' := S) ⟨rfl, rfl, rfl, by simp, fun k hk _ => Below.heap_alloc _ _ _ hk⟩ fun _ h => .inl h
theorem Keeps.drew {S : Nat → Prop} {w w' : World} (h : Keeps S w w') : Keeps S w w'.drew := ⟨h.os, h.tape, h.output, h.size, h.block⟩
theorem Keeps.drewN {S : Nat → Prop} {w w' : World} (h : Keeps S w w') (n : Nat) : Keeps S w (w'.drewN n) := ⟨h.os, h.tape, h.output, h.size, h.block⟩
theorem Keeps.setCell {S : Nat → Prop} {w w' : World} (h : Keeps S w w') {p : Addr} (hp : S p.block ∨ w.heap.size ≤ p.block) (u : Value) : Keeps S w (w'.setCell p u) :=
  h.trans (S' := fun k => k = p.block) ⟨rfl, rfl, rfl, by simp [World.setCell], fun k _ hk => Below.heap_setCell _ _ _ _ hk⟩ fun _ e => by subst e; exact hp
theorem Keeps.cell {S : Nat → Prop} {w w' : World} (h : Keeps S w w') {b o : Nat} {u : Value} (hS : ¬ S b) (hc : w.cell? ⟨b, o, none⟩ = some u) : w'.cell? ⟨b, o, none⟩ = some u :=
  (World.cell?_of_block (a := ⟨b, o, none⟩) (h.block b (cell_lt hc) hS)).trans hc

/-- The same, whatever the address. -/
theorem Keeps.cellA {S : Nat → Prop} {w w' : World} (h : Keeps S w w') {a : Addr} {u : Value} (hS : ¬ S a.block) (hc : w.cell? a = some u) : w'.cell? a = some u :=
  (World.cell?_of_block (a := a) (h.block a.block (by obtain ⟨b, o, s⟩ := a; exact cell_lt hc) hS)).trans hc

/-- Kept, and said of another set of blocks. -/
theorem Sl.into {w w' : World} {S S' S1 : Nat → Prop} {v : Value} {size : Nat} {xs : List Value} (h : Sl w S v size xs) (hk : Keeps S1 w w') (h1 : ∀ k, k < w.heap.size → S1 k → S k) (h2 : ∀ k, k < w.heap.size → S' k → S k) : Sl w' S' v size xs := by
  obtain ⟨A, len, cap, rfl, hl, a1, a2, h3⟩ := h
  refine ⟨A, len, cap, rfl, hl, a1, a2, fun hn => ?_⟩
  obtain ⟨b, off, rfl, hb, hc⟩ := h3 hn
  have hlt : b < w.heap.size := cell_lt (hc 0 _ (List.getElem?_eq_getElem hn))
  exact ⟨b, off, rfl, fun h' => hb (h2 b hlt h'), fun j u hj => hk.cell (fun h' => hb (h1 b hlt h')) (hc j u hj)⟩

theorem Sl.keep {w w' : World} {S S1 : Nat → Prop} {v : Value} {size : Nat} {xs : List Value} (h : Sl w S v size xs) (hk : Keeps S1 w w') (h1 : ∀ k, k < w.heap.size → S1 k → S k) : Sl w' S v size xs :=
  h.into hk h1 fun _ _ h => h

/-- A row that the call owns, as a slice that reads. -/
theorem Sl.of_own {w : World} {S : Nat → Prop} {base : Nat} {e size : Nat} {v : Value} {n : Nat} {xs : List Value} (h : w.ownsRow base e size v n xs) (hS : ∀ g, v.ownBlock = some g → ¬ S g) : Sl w S v size xs := by
  have hl := h.1
  have hc := fun g => h.cells (g := g)
  rcases h.2 with ⟨rfl, rfl⟩ | ⟨g, cap, cur, rfl, _, _, h1, h2, _⟩
  · exact ⟨none, 0, 0, rfl, hl, Nat.le_refl _, by simp [maxLen], fun hn => by omega⟩
  · exact ⟨some ⟨g, 0, none⟩, n, cap, rfl, hl, h1, h2, fun _ => ⟨g, 0, rfl, hS g rfl, fun j u hj => by
      have := hc g rfl j u hj
      rw [Addr.add_lit] at this
      exact this⟩⟩

theorem own_heap {w : World} {base e size : Nat} {v : Value} {n : Nat} {xs : List Value} (h : w.ownsRow base e size v n xs) {g : Nat} (hg : v.ownBlock = some g) : ∃ cur, w.heap[g]? = some (.cells cur e (0, 0)) := by
  rcases h.2 with ⟨rfl, _⟩ | ⟨g', cap, cur, rfl, _, hh, _⟩
  · simp [Value.ownBlock] at hg
  · simp [Value.ownBlock] at hg
    subst hg
    exact ⟨cur, hh⟩

/-- Rows of two element types are not one block. -/
theorem own_ne {w : World} {base e size : Nat} {v : Value} {n : Nat} {xs : List Value} {base' e' size' : Nat} {v' : Value} {n' : Nat} {xs' : List Value} (h : w.ownsRow base e size v n xs) (h' : w.ownsRow base' e' size' v' n' xs') (he : e ≠ e') {g : Nat} (hg : v.ownBlock = some g) : v'.ownBlock ≠ some g := by
  intro hg'
  obtain ⟨c, hc⟩ := own_heap h hg
  obtain ⟨c', hc'⟩ := own_heap h' hg'
  rw [hc] at hc'
  injection hc' with hc'
  injection hc' with _ ht
  exact he ht
theorem own_ne_blk {w : World} {base e size : Nat} {v : Value} {n : Nat} {xs : List Value} {p : Nat} {cs : Array Value} {t : TypeId} (h : w.ownsRow base e size v n xs) (h' : w.heap[p]? = some (.cells cs t (0, 0))) (he : e ≠ t) {g : Nat} (hg : v.ownBlock = some g) : g ≠ p := by
  intro hp
  subst hp
  obtain ⟨c, hc⟩ := own_heap h hg
  rw [hc] at h'
  injection h' with h'
  injection h' with _ ht
  exact he ht

theorem own_keep {w w' : World} {base e size : Nat} {v : Value} {n : Nat} {xs : List Value} (h : w.ownsRow base e size v n xs) (hb : ∀ g, v.ownBlock = some g → w'.heap[g]? = w.heap[g]?) : w'.ownsRow base e size v n xs := by
  refine ⟨h.1, ?_⟩
  rcases h.2 with hn | ⟨g, cap, cur, rfl, h1, hh, h2⟩
  · exact .inl hn
  · exact .inr ⟨g, cap, cur, rfl, h1, (hb g rfl).trans hh, h2⟩

theorem own_lt {w : World} {base e size : Nat} {v : Value} {n : Nat} {xs : List Value} (h : w.ownsRow base e size v n xs) {g : Nat} (hg : v.ownBlock = some g) : g < w.heap.size := (h.lt g hg).2

theorem own_slice {w : World} {base e size : Nat} {v : Value} {n : Nat} {xs : List Value} (h : w.ownsRow base e size v n xs) : ∃ A c, v = .slice A n c ∧ n ≤ c ∧ c ≤ maxLen := by
  rcases h.2 with ⟨rfl, rfl⟩ | ⟨g', cap, cur, rfl, _, _, h1, h2, _⟩
  · exact ⟨none, 0, rfl, Nat.le_refl _, by simp [maxLen]⟩
  · exact ⟨_, _, rfl, h1, h2⟩

theorem own_cell {w : World} {base e size : Nat} {A : Option Addr} {n c : Nat} {xs : List Value} (h : w.ownsRow base e size (.slice A n c) n xs) (hn : 0 < n) : ∃ g, A = some ⟨g, 0, none⟩ ∧ (∀ j, j < n * size → w.cell? ⟨g, j, none⟩ = xs[j]?) ∧ ∀ j, w.frozen? ⟨g, j, none⟩ = false := by
  obtain ⟨g, cap, hv, _, _⟩ := h.form hn
  injection hv with h1 h2 h3
  subst h1
  subst h3
  exact ⟨g, rfl, fun j hj => h.cellAt j hj, fun j => h.frozenAt j⟩

theorem heap_alloc2 (w : World) (a b : Obj) : ((w.alloc a).alloc b).heap[w.heap.size + 1]? = some b := by
  have := heap_alloc_new (w.alloc a) b
  simpa using this

theorem setCell_blk {w : World} {p k : Nat} {cs : Array Value} {t : TypeId} {u : Value} (h : w.heap[p]? = some (.cells cs t (0, 0))) : (w.setCell ⟨p, k, none⟩ u).heap[p]? = some (.cells (cs.setIfInBounds k u) t (0, 0)) := heap_setCell_same w p k cs t u h

theorem own_later {w w' : World} {base e size : Nat} {v : Value} {n : Nat} {xs : List Value} (h : w.ownsRow base e size v n xs) (hk : Keeps (fun _ => False) w w') : w'.ownsRow base e size v n xs :=
  own_keep h fun g hg => hk.block g (own_lt h hg) fun h => h
theorem own_set {w : World} {base e size : Nat} {v : Value} {n : Nat} {xs : List Value} (h : w.ownsRow base e size v n xs) {p k : Nat} (u : Value) (hne : v.ownBlock ≠ some p) : (w.setCell ⟨p, k, none⟩ u).ownsRow base e size v n xs :=
  own_keep h fun g hg => Below.heap_setCell _ _ _ _ fun e => hne (by rw [hg, e])
theorem Keeps.setNew {w w' : World} (h : Keeps (fun _ => False) w w') {p k : Nat} (hp : w.heap.size ≤ p) (u : Value) : Keeps (fun _ => False) w (w'.setCell ⟨p, k, none⟩ u) := h.setCell (.inr hp) u
theorem Keeps.blk {w w' : World} (h : Keeps (fun _ => False) w w') {b : Nat} {o : Obj} (hb : w.heap[b]? = some o) : w'.heap[b]? = some o :=
  (h.block b (by rcases Nat.lt_or_ge b w.heap.size with hlt | hge; exact hlt; rw [Array.getElem?_eq_none hge] at hb; cases hb) fun h => h).trans hb
theorem setCell_size (w : World) (a : Addr) (u : Value) : (w.setCell a u).heap.size = w.heap.size := by simp [World.setCell]

theorem ret_int {k : IntKind} {a b : Int} (h : a = b) : Ending.returned (.int k a) = .returned (.int k b) := by rw [h]
theorem ret_bool {a b : Bool} (h : a = b) : Ending.returned (.bool a) = .returned (.bool b) := by rw [h]

/-- Words as cells. -/
def wcs (k : IntKind) (l : List Nat) : List Value := l.map fun (x : Nat) => Value.int k (x : Int)
theorem wcs_length (k : IntKind) (l : List Nat) : (wcs k l).length = l.length := by simp [wcs]
theorem wcs_get {k : IntKind} {l : List Nat} {j : Nat} (h : j < l.length) : (wcs k l)[j]? = some (.int k (l[j] : Int)) := by simp [wcs, List.getElem?_eq_getElem h]
theorem wcs_append (k : IntKind) (l m : List Nat) : wcs k (l ++ m) = wcs k l ++ wcs k m := by simp [wcs]
theorem wcs_set (k : IntKind) (l : List Nat) (j x : Nat) : wcs k (l.set j x) = (wcs k l).set j (.int k (x : Int)) := by simp [wcs]
theorem wcs_one (k : IntKind) (l : List Nat) : ∀ u ∈ wcs k l, u.oneCell' = true := by
  intro u hu
  simp only [wcs, List.mem_map] at hu
  obtain ⟨z, _, rfl⟩ := hu
  rfl
theorem wcs_take (k : IntKind) (l : List Nat) (n : Nat) : wcs k (l.take n) = (wcs k l).take n := by simp [wcs, List.map_take]

/-- A slice of words, at the head of a row of its own. -/
def Arr (k : IntKind) (t : TypeId) (w : World) (v : Value) (l : List Nat) : Prop := w.ownsRow 0 t 1 v l.length (wcs k l)
abbrev A32 := Arr .u32 119
abbrev A64 := Arr .u64 117

theorem Arr.slice {k : IntKind} {t : TypeId} {w : World} {v : Value} {l : List Nat} (h : Arr k t w v l) : ∃ A c, v = .slice A l.length c ∧ l.length ≤ c ∧ c ≤ maxLen := own_slice h

theorem Arr.cell {k : IntKind} {t : TypeId} {w : World} {A : Option Addr} {n c : Nat} {l : List Nat} (h : Arr k t w (.slice A n c) l) (hn : 0 < l.length) :
    ∃ g, A = some ⟨g, 0, none⟩ ∧ (∀ j (hj : j < l.length), w.cell? ⟨g, j, none⟩ = some (.int k (l[j] : Int))) ∧ (∀ j, w.frozen? ⟨g, j, none⟩ = false) ∧ g < w.heap.size := by
  have e : n = l.length := by
    obtain ⟨A', c', e, _⟩ := h.slice
    injection e
  subst e
  obtain ⟨g, rfl, hc, hf⟩ := own_cell h hn
  refine ⟨g, rfl, fun j hj => ?_, hf, ?_⟩
  · rw [hc j (by omega), wcs_get hj]
  · have := hc 0 (by omega)
    rw [wcs_get hn] at this
    exact cell_lt this

theorem Arr.nil (k : IntKind) (t : TypeId) (w : World) : Arr k t w (.slice none 0 0) [] := World.ownsRow_nil _ _ _ _

/-- Its first words. -/
theorem Arr.take {k : IntKind} {t : TypeId} {w : World} {A : Option Addr} {n c : Nat} {l : List Nat} (h : Arr k t w (.slice A n c) l) (m : Nat) (hm : m ≤ l.length) : Arr k t w (.slice A m c) (l.take m) := by
  have hl : (l.take m).length = m := by rw [List.length_take]; omega
  unfold Arr World.ownsRow
  rw [hl]
  refine ⟨by rw [wcs_length, hl, Nat.mul_one], ?_⟩
  rcases h.2 with ⟨e, e2⟩ | ⟨g, cap, cur, e, hb, hh, h1, h2, h3, h4⟩
  · injection e with e1 _ e3
    subst e1 e3
    have : m = 0 := by omega
    subst this
    exact .inl ⟨rfl, rfl⟩
  · injection e with e1 _ e3
    subst e1 e3
    refine .inr ⟨g, c, cur, rfl, hb, hh, by omega, h2, h3, ?_⟩
    rw [wcs_take, ← h4, Nat.mul_one, List.take_take, Nat.mul_one, Nat.min_eq_left hm]

theorem Arr.kept {k : IntKind} {t : TypeId} {w w' : World} {v : Value} {l : List Nat} (h : Arr k t w v l) (hb : ∀ g, v.ownBlock = some g → w'.heap[g]? = w.heap[g]?) : Arr k t w' v l := own_keep h hb
theorem Arr.later {k : IntKind} {t : TypeId} {w w' : World} {v : Value} {l : List Nat} (h : Arr k t w v l) (hk : Keeps (fun _ => False) w w') : Arr k t w' v l := own_later h hk
theorem Arr.lt {k : IntKind} {t : TypeId} {w : World} {v : Value} {l : List Nat} (h : Arr k t w v l) {g : Nat} (hg : v.ownBlock = some g) : g < w.heap.size := own_lt h hg
theorem Arr.of_own {k : IntKind} {t : TypeId} {w : World} {base : Nat} {v : Value} {n : Nat} {l : List Nat} {xs : List Value} (h : w.ownsRow base t 1 v n xs) (hn : n = l.length) (hx : xs = wcs k l) : Arr k t w v l := by
  subst hn hx
  refine ⟨h.1, ?_⟩
  rcases h.2 with hn | ⟨g, cap, cur, rfl, _, h2⟩
  · exact .inl hn
  · exact .inr ⟨g, cap, cur, rfl, Nat.zero_le _, h2⟩

/-- One word is set. -/
theorem Arr.set {k : IntKind} {t : TypeId} {w : World} {g n c : Nat} {l : List Nat} (h : Arr k t w (.slice (some ⟨g, 0, none⟩) n c) l) (j x : Nat) : Arr k t (w.setCell ⟨g, j, none⟩ (.int k (x : Int))) (.slice (some ⟨g, 0, none⟩) n c) (l.set j x) := by
  have e : n = l.length := by
    obtain ⟨A', c', e, _⟩ := h.slice
    injection e
  subst e
  have h1 := (World.ownsRow.stored h j (.int k (x : Int))).1
  rw [← wcs_set] at h1
  unfold Arr
  rw [List.length_set]
  exact h1
theorem Arr.setOther {k : IntKind} {t : TypeId} {w : World} {v : Value} {l : List Nat} (h : Arr k t w v l) {g : Nat} (hg : v.ownBlock ≠ some g) (j : Nat) (u : Value) : Arr k t (w.setCell ⟨g, j, none⟩ u) v l := own_set h u hg
theorem Arr.of_zeros {k : IntKind} {t : TypeId} {w : World} {p n c : Nat} (h : w.ownsRow 0 t 1 (.slice (some ⟨p, 0, none⟩) n c) n (madeCells (Value.int k 0).cells (n * 1)).toList) : Arr k t w (.slice (some ⟨p, 0, none⟩) n c) (List.replicate n 0) := by
  refine Arr.of_own h (by simp) ?_
  rw [show (Value.int k 0).cells = #[.int k 0] from rfl, toList_madeCells_one]
  simp [wcs]

/-- The digits of a number, as a slice. -/
abbrev B32 : Nat := 4294967296
def N32 (w : World) (v : Value) (n : Nat) : Prop := A32 w v (digs 4294967296 n)
def N64 (w : World) (v : Value) (n : Nat) : Prop := A64 w v (digs 18446744073709551616 n)

end Go.Proofs.YtnihfhfakadepaaGreatDoor
namespace Go.Proofs.YtnihfhfakadepaaGreatDoor.Wg
open Go.RowKit

section
variable {P : Program} {ops : Array Oper} {md : Region.Mode} {C : World → Prop} {f : Nat}

/-- What is left of an operation: the world is of the class. -/
def plainUpon (P : Program) (C : World → Prop) (o : Oper) (a : Act) (K : Act → World → Prop) : Result Next → Prop
  | .ok (.enter f args) w' => Calls P f args w' fun e w'' => ∃ v, e = .returned v ∧ C w'' ∧ K (a.put o.dst v) w''
  | .ok (.value v) w' => C w' ∧ K (a.put o.dst v) w'
  | .ok .skip w' => C w' ∧ K (a.put o.dst undef) w'
  | _ => False

theorem plain_call {o : Oper} {a : Act} {K : Act → World → Prop} {g : FuncId} {args : Array Value} {w' : World} {R : Ending → World → Prop} (h : Calls P g args w' R) (hr : ∀ e w'', R e w'' → ∃ v, e = .returned v ∧ C w'' ∧ K (a.put o.dst v) w'') : plainUpon P C o a K (.ok (.enter g args) w') := h.mono hr

theorem plainUpon_mono {o : Oper} {a a1 : Act} {K K' : Act → World → Prop} (h : ∀ u w', C w' → K (a.put o.dst u) w' → K' (a1.put o.dst u) w') : ∀ {r : Result Next}, plainUpon P C o a K r → plainUpon P C o a1 K' r := by
  intro r hr
  cases r with
  | ok n w' =>
    cases n <;> simp only [plainUpon] at hr ⊢
    case value v => exact ⟨hr.1, h _ _ hr.1 hr.2⟩
    case skip => exact ⟨hr.1, h _ _ hr.1 hr.2⟩
    case enter f args => exact hr.mono fun e w'' ⟨v, h1, h2, h3⟩ => ⟨v, h1, h2, h _ _ h2 h3⟩
  | halt x w' => simp only [plainUpon] at hr

def pOp (P : Program) (ops : Array Oper) (C : World → Prop) (f : Nat) (i : Nat) (K : Act → World → Prop) (a : Act) (w : World) : Prop :=
  match ops[i]? with
  | none => K a w
  | some o => if Region.wanted o (yielded ops a.tmps) then plainUpon P (fun w => f ≤ i ∨ C w) o a K ((execOp a.eval o).run P w) else K (a.put o.dst undef) w

def wpAnyP (P : Program) (md : Region.Mode) (ops : Array Oper) (C : World → Prop) (f : Nat) (Q : Act → World → Prop) : Nat → Array Bool → Act → World → Prop
  | 0, listed, a, w => Region.ready md ops listed = [] ∧ Q a w
  | fuel + 1, listed, a, w =>
    (Region.ready md ops listed = [] → Q a w) ∧ ∀ i ∈ Region.ready md ops listed, pOp P ops C f i (wpAnyP P md ops C f Q fuel (listed.setIfInBounds i true)) a w

theorem wpOp_of_pOp {i : Nat} {a : Act} {K K' : Act → World → Prop} {Q' : Exit → Act → World → Prop} {w : World} (h : ∀ a w', K a w' → K' a w') (hh : pOp P ops C f i K a w) : wpOp P ops Q' i K' a w := by
  unfold pOp at hh
  unfold wpOp
  split
  · rename_i ho; simp only [ho] at hh; exact h _ _ hh
  · rename_i o ho
    simp only [ho] at hh
    split
    · rename_i hw
      simp only [hw, if_true] at hh
      refine .inl ?_
      unfold Oper.wp
      generalize (execOp a.eval o).run P w = r at *
      cases r with
      | ok n w' =>
        cases n <;> simp only [plainUpon] at hh <;> simp only [Oper.upon]
        case value v => exact h _ _ hh.2
        case skip => exact h _ _ hh.2
        case enter f args => exact hh.mono fun e w'' ⟨v, h1, _, h3⟩ => by subst h1; exact h _ _ h3
      | halt x w' => simp only [plainUpon] at hh
    · rename_i hw; simp only [hw] at hh; exact h _ _ hh

theorem wpAny_of_plain {Q' : Exit → Act → World → Prop} : ∀ (fuel : Nat) (listed : Array Bool) (a : Act) (w : World), wpAnyP P md ops C f (fun a w => Q' .normal a w) fuel listed a w → wpAny P md ops Q' fuel listed a w
  | 0, _, _, _, h => h
  | fuel + 1, _, _, _, h => ⟨h.1, fun i hi => wpOp_of_pOp (fun a' w' => wpAny_of_plain fuel _ a' w') (h.2 i hi)⟩

def stayUpon (w : World) (v : Value) : Result Next → Prop
  | .ok (.value u) w' => w' = w ∧ u = v
  | .ok .skip w' => w' = w ∧ v = undef
  | _ => False

/-- In every world of the class the operation yields v, and leaves the world as it is. -/
def StaysIn (P : Program) (ops : Array Oper) (C : World → Prop) (o : Oper) (v : Value) (a : Act) : Prop :=
  (Region.wanted o (yielded ops a.tmps) = true ∧ ∀ w, C w → stayUpon w v ((execOp a.eval o).run P w)) ∨ (Region.wanted o (yielded ops a.tmps) = false ∧ v = undef)

theorem StaysIn.pOp {i : Nat} {o : Oper} {v : Value} {a : Act} {w : World} (hi : ops[i]? = some o) (hy : StaysIn P ops C o v a) (hC : C w) {K : Act → World → Prop} (h : K (a.put o.dst v) w) : pOp P ops C f i K a w := by
  unfold Go.Proofs.YtnihfhfakadepaaGreatDoor.Wg.pOp
  simp only [hi]
  rcases hy with ⟨hw, hv⟩ | ⟨hw, rfl⟩
  · simp only [hw, if_true]
    have h1 := hv w hC
    generalize (execOp a.eval o).run P w = r at *
    cases r with
    | ok n w' =>
      cases n <;> simp only [stayUpon] at h1 <;> simp only [plainUpon]
      case value u => obtain ⟨rfl, rfl⟩ := h1; exact ⟨.inr hC, h⟩
      case skip => obtain ⟨rfl, rfl⟩ := h1; exact ⟨.inr hC, h⟩
    | halt x w' => simp only [stayUpon] at h1
  · simp only [hw, Bool.false_eq_true, if_false]; exact h

theorem StaysIn.of_same {o : Oper} {v : Value} {a a' : Act} (hy : StaysIn P ops C o v a) (he : execOp a'.eval o = execOp a.eval o)
    (hw : Region.wanted o (yielded ops a'.tmps) = Region.wanted o (yielded ops a.tmps)) : StaysIn P ops C o v a' := by
  unfold StaysIn at *
  rw [he, hw]
  exact hy

theorem pOp_put {j : Nat} {oi oj : Oper} {v : Value} (hj : ops[j]? = some oj) (hap : oi.apart ops oj = true)
    (hsi : ∀ cs b, oi.op ≠ .select cs b) (hsj : ∀ cs b, oj.op ≠ .select cs b) {K : Act → World → Prop} {a : Act} {w : World} (hC : C w)
    (hy : StaysIn P ops C oi v a) (h : pOp P ops C f j K (a.put oi.dst v) w) :
    pOp P ops C f j (fun a' w' => (f ≤ j ∨ C w') ∧ StaysIn P ops C oi v a' ∧ K (a'.put oi.dst v) w') a w := by
  obtain ⟨h1, h2, h3⟩ := Oper.apart_spec hap
  have keep : ∀ (a : Act), StaysIn P ops C oi v a → ∀ u, StaysIn P ops C oi v (a.put oj.dst u) := fun a hy u =>
    hy.of_same (execOp_put oi hsi a oj.dst u h3) (wanted_put oi a oj.dst u h3)
  unfold pOp at *
  simp only [hj] at *
  rw [wanted_put oj a oi.dst v h1] at h
  split
  · rename_i hw
    simp only [hw, if_true] at h
    rw [execOp_put oj hsj a oi.dst v h1] at h
    exact plainUpon_mono (fun u w' hC' hK => ⟨hC', keep a hy u, by rw [← Act.put_comm a v u h2]; exact hK⟩) h
  · rename_i hw
    simp only [hw] at h
    exact ⟨.inr hC, keep a hy _, by rw [← Act.put_comm a v undef h2]; exact h⟩

theorem pOp_mono {i : Nat} {a : Act} {K K' : Act → World → Prop} {w : World} (h : ∀ a w', K a w' → K' a w') (hh : pOp P ops C f i K a w) : pOp P ops C f i K' a w := by
  unfold pOp at *
  split
  · rename_i ho; simp only [ho] at hh; exact h _ _ hh
  · rename_i o ho
    simp only [ho] at hh
    split
    · rename_i hw; simp only [hw, if_true] at hh; exact plainUpon_mono (fun u w' _ hK => h _ _ hK) hh
    · rename_i hw; simp only [hw] at hh; exact h _ _ hh

/-- What has been done had done ahead of it what it waits for. -/
def Closed (md : Region.Mode) (ops : Array Oper) (listed : Array Bool) : Prop :=
  ∀ q o, listed.getD q false = true → ops[q]? = some o → ∀ e ∈ o.after, Region.binds md e = true → listed.getD e.on false = true

theorem getD_set_other {l : Array Bool} {k q : Nat} (h : k ≠ q) : (l.setIfInBounds k true).getD q false = l.getD q false := by
  simp only [Array.getD_eq_getD_getElem?, Array.getElem?_setIfInBounds, if_neg h]
theorem getD_set_le {l : Array Bool} {k q : Nat} (h : l.getD q false = true) : (l.setIfInBounds k true).getD q false = true := by
  by_cases hk : k = q
  · subst hk
    rcases Nat.lt_or_ge k l.size with h' | h'
    · simp [h']
    · simp [Array.getElem?_eq_none h'] at h
  · rw [getD_set_other hk]; exact h

theorem Closed.step {listed : Array Bool} (h : Closed md ops listed) {j : Nat} {oj : Oper} (hj : ops[j]? = some oj) (hall : ∀ e ∈ oj.after, Region.binds md e = true → listed.getD e.on false = true) : Closed md ops (listed.setIfInBounds j true) := fun q o hq ho e he hb => by
  by_cases hk : j = q
  · subst hk
    rw [hj] at ho
    cases ho
    exact getD_set_le (hall e he hb)
  · rw [getD_set_other hk] at hq
    exact getD_set_le (h q o hq ho e he hb)

/-- Does op j wait for op k, at once or by others? -/
def reachB (md : Region.Mode) (ops : Array Oper) (k : Nat) : Nat → Nat → Bool
  | 0, _ => false
  | fuel + 1, j => match ops[j]? with
    | none => false
    | some o => o.after.any fun e => Region.binds md e && (e.on == k || reachB md ops k fuel e.on)

theorem reach_listed {listed : Array Bool} (h : Closed md ops listed) {k : Nat} : ∀ (fuel j : Nat) (o : Oper), ops[j]? = some o → (∀ e ∈ o.after, Region.binds md e = true → listed.getD e.on false = true) → reachB md ops k fuel j = true → listed.getD k false = true
  | 0, _, _, _, _, hr => by simp [reachB] at hr
  | fuel + 1, j, o, ho, hall, hr => by
    unfold reachB at hr
    rw [ho] at hr
    obtain ⟨e, he, h2⟩ := Array.any_eq_true'.1 hr
    simp only [Bool.and_eq_true, Bool.or_eq_true, beq_iff_eq] at h2
    have hl := hall e he h2.1
    rcases h2.2 with h3 | h3
    · rw [← h3]; exact hl
    · cases ho2 : ops[e.on]? with
      | none => cases fuel <;> simp [reachB, ho2] at h3
      | some o2 => exact reach_listed h fuel e.on o2 ho2 (h e.on o2 hl ho2) h3

theorem wpAnyP_first {Q : Act → World → Prop} {i : Nat} {oi : Oper} {v : Value} (hi : ops[i]? = some oi) (hsel : ∀ (j : Nat) (o : Oper) cs b, ops[j]? = some o → o.op ≠ .select cs b) (hfin : ∀ k o, f ≤ k → ops[k]? = some o → reachB md ops i 6 k = true) :
    ∀ (fuel : Nat) (listed : Array Bool) (a : Act) (w : World), C w → Closed md ops listed →
      (∀ j oj, ops[j]? = some oj → j ≠ i → listed.getD j true = false → (∀ e ∈ oj.after, Region.binds md e = true → e.on ≠ i) → oi.apart ops oj = true) →
      i ∈ Region.ready md ops listed → StaysIn P ops C oi v a →
      wpAnyP P md ops C f Q fuel (listed.setIfInBounds i true) (a.put oi.dst v) w → wpAnyP P md ops C f Q (fuel + 1) listed a w := by
  intro fuel
  induction fuel with
  | zero =>
    intro listed a w hC _ _ hr hy H
    refine ⟨fun h => (by rw [h] at hr; cases hr), fun j hj => ?_⟩
    by_cases hji : j = i
    · subst hji; exact hy.pOp hi hC H
    · have := ready_mono hj hji
      rw [H.1] at this
      cases this
  | succ fuel ih =>
    intro listed a w hC hcl hfree hr hy H
    refine ⟨fun h => (by rw [h] at hr; cases hr), fun j hj => ?_⟩
    by_cases hji : j = i
    · subst hji; exact hy.pOp hi hC H
    · have h1 := H.2 j (ready_mono hj hji)
      obtain ⟨hjun, oj, hoj, hall⟩ := mem_ready.1 hj
      have hnot : ∀ e ∈ oj.after, Region.binds md e = true → e.on ≠ i := fun e he hb heq => by
        have h1 := hall e he hb
        have h0 := (mem_ready.1 hr).1
        rw [heq] at h1
        rcases Nat.lt_or_ge i listed.size with h' | h'
        · simp [h'] at h0 h1; rw [h0] at h1; cases h1
        · simp [Array.getElem?_eq_none h'] at h1
      have h2 := pOp_put hoj (hfree j oj hoj hji hjun hnot) (fun cs b => hsel i oi cs b hi) (fun cs b => hsel j oj cs b hoj) hC hy h1
      have hfree' : ∀ k ok, ops[k]? = some ok → k ≠ i → (listed.setIfInBounds j true).getD k true = false →
          (∀ e ∈ ok.after, Region.binds md e = true → e.on ≠ i) → oi.apart ops ok = true := fun k ok hk hki hun hno => by
        refine hfree k ok hk hki ?_ hno
        by_cases hjk : j = k
        · subst hjk; exact hjun
        · rw [getD_set_ne true hjk] at hun; exact hun
      have hjf : ¬ f ≤ j := fun e => by
        have h4 := reach_listed hcl 6 j oj hoj hall (hfin j oj e hoj)
        have h0 := (mem_ready.1 hr).1
        rcases Nat.lt_or_ge i listed.size with h' | h'
        · simp [h'] at h0 h4; rw [h0] at h4; cases h4
        · simp [Array.getElem?_eq_none h'] at h4
      refine pOp_mono (fun a' w' h3 => ih (listed.setIfInBounds j true) a' w' (h3.1.resolve_left hjf) (hcl.step hoj hall) hfree' (ready_mono hr (Ne.symm hji)) h3.2.1 ?_) h2
      rw [Array.setIfInBounds_comm _ _ hji]
      exact h3.2.2

/-- Operations, by their numbers, each of which only reads: the frame behind them. -/
def wpStays (P : Program) (ops : Array Oper) (C : World → Prop) : List Nat → Act → Act → Prop
  | [], a, b => a = b
  | k :: ks, a, b => ∃ o, ops[k]? = some o ∧ ∃ v, StaysIn P ops C o v a ∧ wpStays P ops C ks (a.put o.dst v) b

theorem wanted_of_none {o : Oper} (h : o.guard = none) (y : Nat → Option Bool) : Region.wanted o y = true := by
  unfold Region.wanted
  rw [h]

theorem wpStays_step {k : Nat} {ks : List Nat} {a b : Act} {o : Oper} (ho : ops[k]? = some o) (hg : o.guard = none) (v : Value) (h : ∀ w, C w → stayUpon w v ((execOp a.eval o).run P w)) (hr : wpStays P ops C ks (a.put o.dst v) b) :
    wpStays P ops C (k :: ks) a b := ⟨o, ho, v, .inl ⟨wanted_of_none hg _, h⟩, hr⟩
theorem wpStays_wanted {k : Nat} {ks : List Nat} {a b : Act} {o : Oper} (ho : ops[k]? = some o) (hg : Region.wanted o (yielded ops a.tmps) = true) (v : Value) (h : ∀ w, C w → stayUpon w v ((execOp a.eval o).run P w)) (hr : wpStays P ops C ks (a.put o.dst v) b) :
    wpStays P ops C (k :: ks) a b := ⟨o, ho, v, .inl ⟨hg, h⟩, hr⟩
theorem wpStays_skip {k : Nat} {ks : List Nat} {a b : Act} {o : Oper} (ho : ops[k]? = some o) (hg : Region.wanted o (yielded ops a.tmps) = false) (hr : wpStays P ops C ks (a.put o.dst undef) b) :
    wpStays P ops C (k :: ks) a b := ⟨o, ho, undef, .inr ⟨hg, rfl⟩, hr⟩

/-- The last operations wait for this one. -/
def waits (md : Region.Mode) (ops : Array Oper) (f k : Nat) : Bool :=
  (List.range ops.size).all fun q => decide (q < f) || reachB md ops k 6 q

theorem waits_spec {k : Nat} (h : waits md ops f k = true) : ∀ q o, f ≤ q → ops[q]? = some o → reachB md ops k 6 q = true := fun q o hq ho => by
  unfold waits at h
  have h1 := List.all_eq_true.1 h q (List.mem_range.2 (Array.getElem?_eq_some_iff.1 ho).1)
  rw [decide_eq_false (by omega), Bool.false_or] at h1
  exact h1

/-- The same, reckoned. -/
def closedB (md : Region.Mode) (ops : Array Oper) (listed : Array Bool) : Bool :=
  (List.range ops.size).all fun q => !listed.getD q false || match ops[q]? with
    | none => true
    | some o => o.after.all fun e => !Region.binds md e || listed.getD e.on false

theorem closed_of {listed : Array Bool} (h : closedB md ops listed = true) : Closed md ops listed := fun q o hq ho e he hb => by
  unfold closedB at h
  have h1 := List.all_eq_true.1 h q (List.mem_range.2 (Array.getElem?_eq_some_iff.1 ho).1)
  rw [ho, hq] at h1
  simp only [Bool.not_true, Bool.false_or] at h1
  have h2 := Array.all_eq_true'.1 h1 e he
  rw [hb] at h2
  simpa using h2

def firstFrom (md : Region.Mode) (ops : Array Oper) (f : Nat) : List Nat → Array Bool → Bool
  | [], _ => true
  | k :: ks, listed => (Region.ready md ops listed).contains k && Region.free md ops listed k && waits md ops f k && closedB md ops listed && firstFrom md ops f ks (listed.setIfInBounds k true)

def marked (listed : Array Bool) : List Nat → Array Bool
  | [] => listed
  | k :: ks => marked (listed.setIfInBounds k true) ks

theorem wpAnyP_stays {Q : Act → World → Prop} (hs : Region.noSelect ops = true) : ∀ (qs : List Nat) (listed : Array Bool) (a b : Act) (fuel : Nat) (w : World), C w → firstFrom md ops f qs listed = true →
    wpStays P ops C qs a b → wpAnyP P md ops C f Q fuel (marked listed qs) b w → wpAnyP P md ops C f Q (fuel + qs.length) listed a w
  | [], _, a, b, fuel, w, _, _, h, H => by
    have : a = b := h
    subst this
    exact H
  | k :: ks, listed, a, b, fuel, w, hC, hB, h, H => by
    obtain ⟨o, ho, v, hv, hr⟩ := h
    simp only [firstFrom, Bool.and_eq_true] at hB
    obtain ⟨⟨⟨⟨h1, h2⟩, h4⟩, h5⟩, h3⟩ := hB
    have := wpAnyP_stays hs ks (listed.setIfInBounds k true) (a.put o.dst v) b fuel w hC h3 hr H
    exact wpAnyP_first ho (Region.noSelect_spec hs) (waits_spec h4) (fuel + ks.length) listed a w hC (closed_of h5) (Region.free_spec ho h2) (by simpa using h1) hv this

theorem wpAnyP_one {Q : Act → World → Prop} {i fuel : Nat} {o : Oper} {listed : Array Bool} {a : Act} {w : World} (hr : Region.ready md ops listed = [i]) (ho : ops[i]? = some o) (hg : o.guard = none)
    (h : plainUpon P (fun w => f ≤ i ∨ C w) o a (wpAnyP P md ops C f Q fuel (listed.setIfInBounds i true)) ((execOp a.eval o).run P w)) : wpAnyP P md ops C f Q (fuel + 1) listed a w := by
  refine ⟨fun h0 => (by rw [hr] at h0; cases h0), fun j hj => ?_⟩
  rw [hr] at hj
  obtain rfl : j = i := by simpa using hj
  unfold pOp
  simp only [ho, wanted_of_none hg, if_true]
  exact h

theorem wpAnyP_oneW {Q : Act → World → Prop} {i fuel : Nat} {o : Oper} {listed : Array Bool} {a : Act} {w : World} (hr : Region.ready md ops listed = [i]) (ho : ops[i]? = some o) (hg : Region.wanted o (yielded ops a.tmps) = true)
    (h : plainUpon P (fun w => f ≤ i ∨ C w) o a (wpAnyP P md ops C f Q fuel (listed.setIfInBounds i true)) ((execOp a.eval o).run P w)) : wpAnyP P md ops C f Q (fuel + 1) listed a w := by
  refine ⟨fun h0 => (by rw [hr] at h0; cases h0), fun j hj => ?_⟩
  rw [hr] at hj
  obtain rfl : j = i := by simpa using hj
  unfold pOp
  simp only [ho, hg, if_true]
  exact h

theorem wpAnyP_two {Q : Act → World → Prop} {i k fuel : Nat} {o o' : Oper} {listed : Array Bool} {a : Act} {w : World} (hr : Region.ready md ops listed = [i, k]) (ho : ops[i]? = some o) (hg : o.guard = none) (ho' : ops[k]? = some o') (hg' : o'.guard = none)
    (h : plainUpon P (fun w => f ≤ i ∨ C w) o a (wpAnyP P md ops C f Q fuel (listed.setIfInBounds i true)) ((execOp a.eval o).run P w))
    (h' : plainUpon P (fun w => f ≤ k ∨ C w) o' a (wpAnyP P md ops C f Q fuel (listed.setIfInBounds k true)) ((execOp a.eval o').run P w)) : wpAnyP P md ops C f Q (fuel + 1) listed a w := by
  refine ⟨fun h0 => (by rw [hr] at h0; cases h0), fun j hj => ?_⟩
  rw [hr] at hj
  unfold pOp
  rcases List.mem_cons.1 hj with rfl | hj
  · simp only [ho, wanted_of_none hg, if_true]
    exact h
  · obtain rfl : j = k := by simpa using hj
    simp only [ho', wanted_of_none hg', if_true]
    exact h'

theorem wp_region_first {id : Nat} {Q : Exit → Act → World → Prop} {a : Act} {w : World} {l : List Oper} (hm : P.follows .mixedOrders = true)
    (f : Nat) (h : wpAnyP P .any l.toArray C f (fun a w => Q .normal a w) l.length (Array.replicate l.length false) a { w with drawn := w.drawn + 1 }) : (Code.region id l.toArray true).wp P Q a w :=
  wp_region_any hm (wpAny_of_plain (C := C) (f := f) _ _ _ _ (by simpa using h))
end
end Go.Proofs.YtnihfhfakadepaaGreatDoor.Wg
