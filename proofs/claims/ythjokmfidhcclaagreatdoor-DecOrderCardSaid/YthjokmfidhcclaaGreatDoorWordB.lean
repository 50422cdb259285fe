/- Package math/big: a list of words with its room; made, cut where its noughts begin. -/
import Derived.Test.YthjokmfidhcclaaGreatDoorWordA
import Derived.Test.YthjokmfidhcclaaGreatDoorMin
import Derived.OwnWalk
import Derived.Test.YthjokmfidhcclaaGreatDoorMin
namespace Go.Proofs.YthjokmfidhcclaaGreatDoor
open Go.RowKit

/-- A block of words. -/
def Blk (w : World) (g : Nat) (L : List Nat) : Prop := w.heap[g]? = some (.cells (wcs .u64 L).toArray 51 (0, 0)) ∧ L.length ≤ 1000

theorem Blk.lt {w : World} {g : Nat} {L : List Nat} (h : Blk w g L) : g < w.heap.size := row_lt h.1
theorem Blk.later {w w' : World} {g : Nat} {L : List Nat} (h : Blk w g L) (hk : Keeps (fun _ => False) w w') : Blk w' g L := ⟨hk.blk h.1, h.2⟩
theorem Blk.kept {S : Nat → Prop} {w w' : World} {g : Nat} {L : List Nat} (h : Blk w g L) (hk : Keeps S w w') (hs : ¬ S g) : Blk w' g L := ⟨(hk.block g h.lt hs).trans h.1, h.2⟩
theorem Blk.cell {w : World} {g : Nat} {L : List Nat} (h : Blk w g L) {j : Nat} (hj : j < L.length) : w.cell? ⟨g, j, none⟩ = some (.int .u64 (L[j] : Int)) := by
  rw [cell_of_row w g j _ _ _ h.1]
  rw [List.getElem?_toArray]
  exact wcs_get hj
theorem Blk.set {w : World} {g : Nat} {L : List Nat} (h : Blk w g L) (j x : Nat) : Blk (w.setCell ⟨g, j, none⟩ (.int .u64 (x : Int))) g (L.set j x) := by
  refine ⟨?_, by rw [List.length_set]; exact h.2⟩
  rw [setCell_blk h.1, wcs_set, List.setIfInBounds_toArray]
theorem Blk.setOther {w : World} {g : Nat} {L : List Nat} (h : Blk w g L) {g' : Nat} (hg : g' ≠ g) (j : Nat) (u : Value) : Blk (w.setCell ⟨g', j, none⟩ u) g L := by
  refine ⟨?_, h.2⟩
  rw [← h.1]
  exact heap_setCell_other _ _ _ _ (Ne.symm hg)
theorem Blk.frozen {w : World} {g : Nat} {L : List Nat} (h : Blk w g L) (j : Nat) : w.frozen? ⟨g, j, none⟩ = false := by
  simp [World.frozen?, h.1]
theorem Blk.drew {w : World} {g : Nat} {L : List Nat} (h : Blk w g L) : Blk w.drew g L := h

/-- A list of words, with room. -/
def Buf (w : World) (v : Value) (l : List Nat) : Prop :=
  (v = .slice none 0 0 ∧ l = []) ∨ ∃ g L, v = .slice (some ⟨g, 0, none⟩) l.length L.length ∧ Blk w g L ∧ L.take l.length = l

theorem Buf.nil (w : World) : Buf w (.slice none 0 0) [] := .inl ⟨rfl, rfl⟩
theorem Buf.take {w : World} {g : Nat} {L : List Nat} (h : Blk w g L) {m : Nat} (hm : m ≤ L.length) : Buf w (.slice (some ⟨g, 0, none⟩) m L.length) (L.take m) := by
  have e : (L.take m).length = m := by rw [List.length_take]; omega
  exact .inr ⟨g, L, by rw [e], h, by rw [e]⟩
theorem Buf.blk {w : World} {v : Value} {l : List Nat} (h : Buf w v l) (hl : 0 < l.length) : ∃ g L, v = .slice (some ⟨g, 0, none⟩) l.length L.length ∧ Blk w g L ∧ L.take l.length = l ∧ l.length ≤ L.length := by
  rcases h with ⟨_, e⟩ | ⟨g, L, h1, h2, h3⟩
  · subst e; simp at hl
  · refine ⟨g, L, h1, h2, h3, ?_⟩
    have := congrArg List.length h3
    rw [List.length_take] at this
    omega
theorem Buf.kept {S : Nat → Prop} {w w' : World} {v : Value} {l : List Nat} (h : Buf w v l) (hk : Keeps S w w') (hs : ∀ g, v.ownBlock = some g → ¬ S g) : Buf w' v l := by
  rcases h with h | ⟨g, L, rfl, h2, h3⟩
  · exact .inl h
  · exact .inr ⟨g, L, rfl, h2.kept hk (hs g rfl), h3⟩
theorem Buf.later {w w' : World} {v : Value} {l : List Nat} (h : Buf w v l) (hk : Keeps (fun _ => False) w w') : Buf w' v l := h.kept hk fun _ _ h => h
theorem Buf.lt {w : World} {v : Value} {l : List Nat} (h : Buf w v l) {g : Nat} (hg : v.ownBlock = some g) : g < w.heap.size := by
  rcases h with ⟨rfl, _⟩ | ⟨g', L, rfl, h2, h3⟩
  · cases hg
  · injection hg with hg; subst hg; exact h2.lt

/-- A number, as a list of words with room. -/
def BN (w : World) (v : Value) (n : Nat) : Prop := Buf w v (digs 18446744073709551616 n)

/-- What is left of a list of digits where its noughts are cut is its number's own. -/
theorem digs_cutV {l : List Nat} {k : Nat} (hd : ∀ x ∈ l, x < 18446744073709551616) (hk : k ≤ l.length) (hz : ∀ j x, k ≤ j → l[j]? = some x → x = 0) (hl : ∀ x, 0 < k → l[k - 1]? = some x → x ≠ 0) :
    digs 18446744073709551616 (dval 18446744073709551616 l) = l.take k := by
  rw [← dval_take_zeros 18446744073709551616 l k hz]
  apply digs_dval (by omega) _ fun x hx => hd x (List.mem_of_mem_take hx)
  intro x hx
  rw [List.getLast?_take] at hx
  split at hx
  · cases hx
  · rename_i h0
    rw [List.getElem?_eq_getElem (by omega)] at hx
    exact hl x (by omega) (by rw [List.getElem?_eq_getElem (by omega)]; simpa using hx)

theorem Tryz.info51 : (Tryz.prog.info? 51).map (fun i => (i.zero, i.size, i.bytes)) = some (some (.int .u64 0), 1, 8) := by kernel_rfl

theorem wcs_zeros (n : Nat) : (wcs .u64 (List.replicate n 0)).toArray = madeCells (Value.int .u64 0).cells (n * 1) := by
  rw [Nat.mul_one]
  apply Array.ext'
  simp only [wcs, madeCells, Value.cells]
  apply List.ext_getElem
  · simp
  · intro i h1 h2
    simp [Nat.mod_one]

theorem wpList_make_words (w : World) {ops : Array Oper} {rest : List Oper} {o : Oper} {a : Act} {Q : Exit → Act → World → Prop}
    (hg : o.guard = none) (l c : Operand) (hop : o.op = Op.makeSlice 38 l c)
    (L C : Int) (n m : Nat) (hl : a.eval l = .int .i64 L) (hc : a.eval c = .int .i64 C) (hL : L = (n : Int)) (hC : C = (m : Int)) (hnm : n ≤ m) (hm : m ≤ 1000)
    (hK : wpList Tryz.prog ops Q rest (a.put o.dst (.slice (some ⟨w.heap.size, 0, none⟩) n m)) (w.alloc (.cells (wcs .u64 (List.replicate m 0)).toArray 51))) :
    wpList Tryz.prog ops Q (o :: rest) a w := by
  refine wpList_plain hg fun K hK' => ?_
  obtain ⟨i, hi, hz, hsz, hby⟩ := info_parts Tryz.info51
  have hrun := run_make (P := Tryz.prog) w 38 51 i _ Tryz.underlying38 hi hz .i64 .i64 (n : Int) (m : Int) (by omega) (by omega) (by rw [hby]; omega) (by omega)
  rw [hsz] at hrun
  simp only [Int.toNat_natCast] at hrun
  rw [← wcs_zeros] at hrun
  subst hL
  subst hC
  unfold Oper.wp
  simp [execOp, hop, hl, hc, hrun, Result.andThen]
  exact hK' _ _ hK

/-- Words made, or cut out of what lies there. -/
def Made (w : World) (v : Value) (n : Nat) (e : Ending) (w' : World) : Prop :=
  ∃ g L, e = .returned (.slice (some ⟨g, 0, none⟩) n L.length) ∧ Blk w' g L ∧ n ≤ L.length ∧ Keeps (fun _ => False) w w' ∧ (v.ownBlock = some g ∨ w.heap.size ≤ g)

set_option maxRecDepth 100000 in
set_option maxHeartbeats 2000000 in
theorem make_any {w : World} {v : Value} {l : List Nat} (h : Buf w v l) (n : Nat) (hn : 0 < n) (hn2 : n ≤ 100) :
    Calls Tryz.prog 38 #[v, .int .i64 n] w fun e w' => Made w v n e w' := by
  have fresh : ∀ (V : Value) (m : Nat), n ≤ m → m ≤ 1000 → Made w V n (.returned (.slice (some ⟨w.heap.size, 0, none⟩) n m)) (w.alloc (.cells (wcs .u64 (List.replicate m 0)).toArray 51)) := fun V m h1 h2 =>
    ⟨w.heap.size, List.replicate m 0, by simp, ⟨heap_alloc_new _ _, by simpa using h2⟩, by simpa using h1, (Keeps.refl _ _).alloc _, .inr (Nat.le_refl _)⟩
  have FR := Lib.hid fresh
  have slow : ∀ (V : Value) (c : Nat), c < n → n ≤ 100 → (∃ A k, V = .slice A k c) → Calls Tryz.prog 38 #[V, .int .i64 n] w fun e w' => Made w V n e w' := by
    intro V c hc hn2 ⟨A, k, hV⟩
    subst hV
    have h2 : ¬ n ≤ c := by omega
    by_cases h1 : n = 1
    · subst h1
      go_enter Tryz.func38, Tryz.ntmps38
      go_wp2_with (at_make; refine wpList_make_words _ rfl _ _ rfl 1 1 1 1 rfl rfl rfl rfl (Nat.le_refl _) (by omega) ?_)
      go_ret
      exact FR.out _ 1 (by omega) (by omega)
    · have hw4 : IntKind.i64.wrap ((n : Int) + 4) = ((n + 4 : Nat) : Int) := by simp only [IntKind.wrap_i64]; omega
      go_enter Tryz.func38, Tryz.ntmps38
      go_wp2_with (at_make; refine wpList_make_words _ rfl _ _ rfl _ _ n (n + 4) rfl rfl rfl (by first | rfl | omega | (simp only [IntKind.wrap_i64]; omega)) (by omega) (by omega) ?_)
      go_ret
      exact FR.out _ (n + 4) (by omega) (by omega)
  rcases h with ⟨rfl, _⟩ | ⟨g, L, rfl, hb, _⟩
  · exact slow _ 0 hn hn2 ⟨_, _, rfl⟩
  · by_cases hc : n ≤ L.length
    · have FD := Lib.hid (show Made w (.slice (some ⟨g, 0, none⟩) l.length L.length) n (.returned (.slice (some ⟨g, 0, none⟩) n L.length)) w from ⟨g, L, rfl, hb, hc, Keeps.refl _ _, .inl rfl⟩)
      clear hb FR slow fresh
      generalize L.length = c at *
      generalize l.length = k at *
      go_enter Tryz.func38, Tryz.ntmps38
      go_wp2
      go_ret
      exact FD.out
    · exact slow _ L.length (by omega) hn2 ⟨_, _, rfl⟩

end Go.Proofs.YthjokmfidhcclaaGreatDoor
