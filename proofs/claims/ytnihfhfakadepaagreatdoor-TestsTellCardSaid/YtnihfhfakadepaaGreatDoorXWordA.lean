/- Words of 64 bits: the product and the sum of two, whole (packages math/bits, math/big). Package math/big: a list of words with its room; made, cut where its noughts begin. Package math/big: a list of words cut where its noughts begin; one word; a copy. Package math/big: a list of words times a word. Package math/big: a number times a word, a number of its own made. -/
import Derived.Test.YtnihfhfakadepaaGreatDoorXKitA
import Derived.Test.YtnihfhfakadepaaGreatDoorXBigA
import Derived.Test.YtnihfhfakadepaaGreatDoorXPlainA
import Derived.Lib.Mul64
import Derived.Laws.Bits64b
import Derived.Laws.Externs
import Derived.WalkKit
import Derived.OwnWalk
import Derived.Laws.CopyOwn
import Derived.Laws.Twins
import Derived.IntWalk
namespace Go.Proofs.YtnihfhfakadepaaGreatDoor
open Go.RowKit Go.Lib

namespace Wd
theorem maskN (a : Nat) (ha : a < 18446744073709551616) : bits .and .u64 (a : Int) 4294967295 = ((a % 4294967296 : Nat) : Int) := by
  have h := bits_and_u64_nat a 4294967295 ha (by omega)
  have e : a &&& 4294967295 = a % 4294967296 := Nat.and_two_pow_sub_one_eq_mod a 32
  rw [e] at h
  exact h
theorem divN (a : Nat) : (a : Int) / 4294967296 = ((a / 4294967296 : Nat) : Int) := by omega
theorem mulN (a b : Nat) : (a : Int) * (b : Int) = ((a * b : Nat) : Int) := (Int.natCast_mul a b).symm
theorem addN (a b : Nat) : (a : Int) + (b : Int) = ((a + b : Nat) : Int) := (Int.natCast_add a b).symm
theorem wrapN (a : Nat) (ha : a < 18446744073709551616) : IntKind.u64.wrap (a : Int) = (a : Int) := by rw [IntKind.wrap_u64]; omega
theorem wrapM (a : Nat) : IntKind.u64.wrap (a : Int) = ((a % 18446744073709551616 : Nat) : Int) := by rw [IntKind.wrap_u64]; omega
end Wd

set_option maxRecDepth 100000 in
set_option maxHeartbeats 2000000 in
theorem mul64_any {w : World} (x y : Nat) (hx : x < 18446744073709551616) (hy : y < 18446744073709551616) :
    Calls Tryz.prog 146 #[.int .u64 x, .int .u64 y] w fun e w' => e = .returned (.tuple #[.int .u64 ((x * y / 18446744073709551616 : Nat) : Int), .int .u64 ((x * y % 18446744073709551616 : Nat) : Int)]) ∧ w' = w := by
  obtain ⟨bd, bt, bw, hhi⟩ := Lib.mul64_hi x y hx hy
  have ba := Lib.half_mul_le (a := x / 4294967296) (b := y / 4294967296) (by omega) (by omega)
  have bb := Lib.half_mul_le (a := x / 4294967296) (b := y % 4294967296) (by omega) (by omega)
  have bc := Lib.half_mul_le (a := x % 4294967296) (b := y / 4294967296) (by omega) (by omega)
  have ba' : x / 4294967296 * (y / 4294967296) < 18446744073709551616 := by omega
  have bb' : x / 4294967296 * (y % 4294967296) < 18446744073709551616 := by omega
  have bc' : x % 4294967296 * (y / 4294967296) < 18446744073709551616 := by omega
  have bh1 : x / 4294967296 * (y / 4294967296) + (x / 4294967296 * (y % 4294967296) + x % 4294967296 * (y % 4294967296) / 4294967296) / 4294967296 < 18446744073709551616 := by omega
  have bh : x / 4294967296 * (y / 4294967296) + (x / 4294967296 * (y % 4294967296) + x % 4294967296 * (y % 4294967296) / 4294967296) / 4294967296 + ((x / 4294967296 * (y % 4294967296) + x % 4294967296 * (y % 4294967296) / 4294967296) % 4294967296 + x % 4294967296 * (y / 4294967296)) / 4294967296 < 18446744073709551616 := by omega
  go_enter Tryz.func146, Tryz.ntmps146
  go_wp2
  simp only [Wd.maskN x hx, Wd.maskN y hy, Wd.divN, Wd.mulN, Wd.addN, Wd.wrapN _ bd, Wd.wrapN _ bb', Wd.wrapN _ bt, Wd.maskN _ bt, Wd.wrapN _ bc', Wd.wrapN _ bw, Wd.wrapN _ ba', Wd.wrapN _ bh1, Wd.wrapN _ bh, Wd.wrapM (x * y)]
  rw [hhi]
  go_ret2
  exact ⟨rfl, rfl⟩

set_option maxRecDepth 100000 in
set_option maxHeartbeats 2000000 in
theorem bmul_any {w : World} (x y : Nat) (hx : x < 18446744073709551616) (hy : y < 18446744073709551616) :
    Calls Tryz.prog 112 #[.int .u64 x, .int .u64 y] w fun e w' => e = .returned (.tuple #[.int .u64 ((x * y / 18446744073709551616 : Nat) : Int), .int .u64 ((x * y % 18446744073709551616 : Nat) : Int)]) ∧ w' = w := by
  have H := Lib.hid (mul64_any (w := w) x y hx hy)
  clear hx hy
  generalize ((x * y / 18446744073709551616 : Nat) : Int) = hi at *
  generalize ((x * y % 18446744073709551616 : Nat) : Int) = lo at *
  go_enter Tryz.func112, Tryz.ntmps112
  go_wp2_with (go_at_call 146; ((with_reducible refine H.out.mono ?_); rintro e w2 ⟨rfl, rfl⟩))
  go_ret2
  exact ⟨rfl, rfl⟩

set_option maxRecDepth 100000 in
set_option maxHeartbeats 2000000 in
theorem mulWW_any {w : World} (x y : Nat) (hx : x < 18446744073709551616) (hy : y < 18446744073709551616) :
    Calls Tryz.prog 93 #[.int .u64 x, .int .u64 y] w fun e w' => e = .returned (.tuple #[.int .u64 ((x * y / 18446744073709551616 : Nat) : Int), .int .u64 ((x * y % 18446744073709551616 : Nat) : Int)]) ∧ w' = w := by
  have H := Lib.hid (bmul_any (w := w) x y hx hy)
  clear hx hy
  generalize ((x * y / 18446744073709551616 : Nat) : Int) = hi at *
  generalize ((x * y % 18446744073709551616 : Nat) : Int) = lo at *
  go_enter Tryz.func93, Tryz.ntmps93
  go_wp2_with (go_at_call 112; ((with_reducible refine H.out.mono ?_); rintro e w2 ⟨rfl, rfl⟩))
  go_ret2
  exact ⟨rfl, rfl⟩

theorem add64_runs (x y : Nat) (w : World) :
    (callFunc 148 #[.int .u64 x, .int .u64 y, .int .u64 0]).run Tryz.prog w =
      .ok (.value (.tuple #[.int .u64 (((x + y) % 18446744073709551616 : Nat) : Int), .int .u64 (((x + y) / 18446744073709551616 : Nat) : Int)])) w := by
  rw [run_callFunc_extern Tryz.func148 (by kernel_rfl) (by kernel_rfl) (by kernel_rfl) (e := add64Entry) (by kernel_rfl), run_add64 x y 0 (by omega) (by omega) (by omega) (by omega)]
  simp only [Result.andThen]
  congr 5 <;> omega

set_option maxRecDepth 100000 in
set_option maxHeartbeats 2000000 in
theorem badd_any {w : World} (x y : Nat) :
    Calls Tryz.prog 115 #[.int .u64 x, .int .u64 y, .int .u64 0] w fun e w' => e = .returned (.tuple #[.int .u64 (((x + y) % 18446744073709551616 : Nat) : Int), .int .u64 (((x + y) / 18446744073709551616 : Nat) : Int)]) ∧ w' = w := by
  have hd := add64_runs x y
  generalize (((x + y) / 18446744073709551616 : Nat) : Int) = hi at *
  generalize (((x + y) % 18446744073709551616 : Nat) : Int) = lo at *
  go_enter Tryz.func115, Tryz.ntmps115
  go_wp2
  go_ret2
  exact ⟨rfl, rfl⟩

/-- The carry of a product with a word is a word. -/
theorem word_hi {x y c : Nat} (hx : x < 18446744073709551616) (hy : y < 18446744073709551616) (hc : c < 18446744073709551616) : (x * y + c) / 18446744073709551616 < 18446744073709551616 := by
  apply Nat.div_lt_of_lt_mul
  have : x * y ≤ 18446744073709551615 * 18446744073709551615 := Nat.mul_le_mul (by omega) (by omega)
  omega

set_option maxRecDepth 100000 in
set_option maxHeartbeats 2000000 in
theorem mulAddWWW_any {w : World} (x y c : Nat) (hx : x < 18446744073709551616) (hy : y < 18446744073709551616) (hc : c < 18446744073709551616) :
    Calls Tryz.prog 114 #[.int .u64 x, .int .u64 y, .int .u64 c] w fun e w' => e = .returned (.tuple #[.int .u64 (((x * y + c) / 18446744073709551616 : Nat) : Int), .int .u64 (((x * y + c) % 18446744073709551616 : Nat) : Int)]) ∧ w' = w := by
  have H := Lib.hid (bmul_any (w := w) x y hx hy)
  have HA := Lib.hid (badd_any (w := w) (x * y % 18446744073709551616) c)
  have hh := word_hi hx hy hc
  clear hx hy
  obtain ⟨p, hp⟩ : ∃ p, x * y = p := ⟨_, rfl⟩
  rw [hp] at H HA hh
  rw [hp]
  clear hp
  obtain ⟨h, hh1⟩ : ∃ h, p / 18446744073709551616 = h := ⟨_, rfl⟩
  obtain ⟨l, hl1⟩ : ∃ l, p % 18446744073709551616 = l := ⟨_, rfl⟩
  rw [hh1, hl1] at H
  rw [hl1] at HA
  obtain ⟨h2, hh2⟩ : ∃ h, (l + c) / 18446744073709551616 = h := ⟨_, rfl⟩
  obtain ⟨l2, hl2⟩ : ∃ h, (l + c) % 18446744073709551616 = h := ⟨_, rfl⟩
  rw [hh2, hl2] at HA
  have e1 : IntKind.u64.wrap ((h : Int) + (h2 : Int)) = (((p + c) / 18446744073709551616 : Nat) : Int) := by simp only [IntKind.wrap_u64]; omega
  have e2 : (p + c) % 18446744073709551616 = l2 := by omega
  rw [e2]
  generalize (((p + c) / 18446744073709551616 : Nat) : Int) = r at *
  clear hh hh1 hl1 hh2 hl2 e2
  go_enter Tryz.func114, Tryz.ntmps114
  go_wp2_with (first | (go_at_call 112; ((with_reducible refine H.out.mono ?_); rintro e w2 ⟨rfl, rfl⟩)) | (go_at_call 115; ((with_reducible refine HA.out.mono ?_); rintro e w2 ⟨rfl, rfl⟩)))
  go_ret2
  exact ⟨rfl, rfl⟩

end Go.Proofs.YtnihfhfakadepaaGreatDoor
namespace Go.Proofs.YtnihfhfakadepaaGreatDoor
open Go.RowKit

/-- A block of words. -/
def Blk (w : World) (g : Nat) (L : List Nat) : Prop := w.heap[g]? = some (.cells (wcs .u64 L).toArray 117 (0, 0)) ∧ L.length ≤ 1000

theorem Blk.lt {w : World} {g : Nat} {L : List Nat} (h : Blk w g L) : g < w.heap.size := row_lt h.1
theorem Blk.later {w w' : World} {g : Nat} {L : List Nat} (h : Blk w g L) (hk : Keeps (fun _ => False) w w') : Blk w' g L := ⟨hk.blk h.1, h.2⟩
theorem Blk.kept {S : Nat → Prop} {w w' : World} {g : Nat} {L : List Nat} (h : Blk w g L) (hk : Keeps S w w') (hs : ¬ S g) : Blk w' g L := ⟨(hk.block g h.lt hs).trans h.1, h.2⟩
theorem Blk.cell {w : World} {g : Nat} {L : List Nat} (h : Blk w g L) {j : Nat} (hj : j < L.length) : w.cell? ⟨g, j, none⟩ = some (.int .u64 (L[j] : Int)) := by
  rw [cell_of_row w g j _ _ _ h.1]
  rw [List.getElem?_toArray]
  exact wcs_get hj
theorem Blk.set {w : World} {g : Nat} {L : List Nat} (h : Blk w g L) (j x : Nat) : Blk (w.setCell ⟨g, j, none⟩ (.int .u64 (x : Int))) g (L.set j x) := by
  refine ⟨?_, by rw [List.length_set]; exact h.2⟩
  rw [setCell_blk h.1, wcs_set, List.setIfInBounds_toArray]
theorem Blk.setOther {w : World} {g : Nat} {L : List Nat} (h : Blk w g L) {g' : Nat} (hg : g' ≠ g) (j : Nat) (u : Value) : Blk (w.setCell ⟨g', j, none⟩ u) g L := by
  refine ⟨?_, h.2⟩
  rw [← h.1]
  exact heap_setCell_other _ _ _ _ (Ne.symm hg)
theorem Blk.frozen {w : World} {g : Nat} {L : List Nat} (h : Blk w g L) (j : Nat) : w.frozen? ⟨g, j, none⟩ = false := by
  simp [World.frozen?, h.1]
theorem Blk.drew {w : World} {g : Nat} {L : List Nat} (h : Blk w g L) : Blk w.drew g L := h

/-- A list of words, with room. -/
def Buf (w : World) (v : Value) (l : List Nat) : Prop :=
  (v = .slice none 0 0 ∧ l = []) ∨ ∃ g L, v = .slice (some ⟨g, 0, none⟩) l.length L.length ∧ Blk w g L ∧ L.take l.length = l

theorem Buf.nil (w : World) : Buf w (.slice none 0 0) [] := .inl ⟨rfl, rfl⟩
theorem Buf.take {w : World} {g : Nat} {L : List Nat} (h : Blk w g L) {m : Nat} (hm : m ≤ L.length) : Buf w (.slice (some ⟨g, 0, none⟩) m L.length) (L.take m) := by
  have e : (L.take m).length = m := by rw [List.length_take]; omega
  exact .inr ⟨g, L, by rw [e], h, by rw [e]⟩
theorem Buf.blk {w : World} {v : Value} {l : List Nat} (h : Buf w v l) (hl : 0 < l.length) : ∃ g L, v = .slice (some ⟨g, 0, none⟩) l.length L.length ∧ Blk w g L ∧ L.take l.length = l ∧ l.length ≤ L.length := by
  rcases h with ⟨_, e⟩ | ⟨g, L, h1, h2, h3⟩
  · subst e; simp at hl
  · refine ⟨g, L, h1, h2, h3, ?_⟩
    have := congrArg List.length h3
    rw [List.length_take] at this
    omega
theorem Buf.kept {S : Nat → Prop} {w w' : World} {v : Value} {l : List Nat} (h : Buf w v l) (hk : Keeps S w w') (hs : ∀ g, v.ownBlock = some g → ¬ S g) : Buf w' v l := by
  rcases h with h | ⟨g, L, rfl, h2, h3⟩
  · exact .inl h
  · exact .inr ⟨g, L, rfl, h2.kept hk (hs g rfl), h3⟩
theorem Buf.later {w w' : World} {v : Value} {l : List Nat} (h : Buf w v l) (hk : Keeps (fun _ => False) w w') : Buf w' v l := h.kept hk fun _ _ h => h
theorem Buf.lt {w : World} {v : Value} {l : List Nat} (h : Buf w v l) {g : Nat} (hg : v.ownBlock = some g) : g < w.heap.size := by
  rcases h with ⟨rfl, _⟩ | ⟨g', L, rfl, h2, h3⟩
  · cases hg
  · injection hg with hg; subst hg; exact h2.lt

/-- A number, as a list of words with room. -/
def BN (w : World) (v : Value) (n : Nat) : Prop := Buf w v (digs 18446744073709551616 n)

/-- What is left of a list of digits where its noughts are cut is its number's own. -/
theorem digs_cutV {l : List Nat} {k : Nat} (hd : ∀ x ∈ l, x < 18446744073709551616) (hk : k ≤ l.length) (hz : ∀ j x, k ≤ j → l[j]? = some x → x = 0) (hl : ∀ x, 0 < k → l[k - 1]? = some x → x ≠ 0) :
    digs 18446744073709551616 (dval 18446744073709551616 l) = l.take k := by
  rw [← dval_take_zeros 18446744073709551616 l k hz]
  apply digs_dval (by omega) _ fun x hx => hd x (List.mem_of_mem_take hx)
  intro x hx
  rw [List.getLast?_take] at hx
  split at hx
  · cases hx
  · rename_i h0
    rw [List.getElem?_eq_getElem (by omega)] at hx
    exact hl x (by omega) (by rw [List.getElem?_eq_getElem (by omega)]; simpa using hx)

theorem Tryz.info117 : (Tryz.prog.info? 117).map (fun i => (i.zero, i.size, i.bytes)) = some (some (.int .u64 0), 1, 8) := by kernel_rfl

theorem wcs_zeros (n : Nat) : (wcs .u64 (List.replicate n 0)).toArray = madeCells (Value.int .u64 0).cells (n * 1) := by
  rw [Nat.mul_one]
  apply Array.ext'
  simp only [wcs, madeCells, Value.cells]
  apply List.ext_getElem
  · simp
  · intro i h1 h2
    simp [Nat.mod_one]

theorem wpList_make_words (w : World) {ops : Array Oper} {rest : List Oper} {o : Oper} {a : Act} {Q : Exit → Act → World → Prop}
    (hg : o.guard = none) (l c : Operand) (hop : o.op = Op.makeSlice 103 l c)
    (L C : Int) (n m : Nat) (hl : a.eval l = .int .i64 L) (hc : a.eval c = .int .i64 C) (hL : L = (n : Int)) (hC : C = (m : Int)) (hnm : n ≤ m) (hm : m ≤ 1000)
    (hK : wpList Tryz.prog ops Q rest (a.put o.dst (.slice (some ⟨w.heap.size, 0, none⟩) n m)) (w.alloc (.cells (wcs .u64 (List.replicate m 0)).toArray 117))) :
    wpList Tryz.prog ops Q (o :: rest) a w := by
  refine wpList_plain hg fun K hK' => ?_
  obtain ⟨i, hi, hz, hsz, hby⟩ := info_parts Tryz.info117
  have hrun := run_make (P := Tryz.prog) w 103 117 i _ Tryz.underlying103 hi hz .i64 .i64 (n : Int) (m : Int) (by omega) (by omega) (by rw [hby]; omega) (by omega)
  rw [hsz] at hrun
  simp only [Int.toNat_natCast] at hrun
  rw [← wcs_zeros] at hrun
  subst hL
  subst hC
  unfold Oper.wp
  simp [execOp, hop, hl, hc, hrun, Result.andThen]
  exact hK' _ _ hK

/-- Words made, or cut out of what lies there. -/
def Made (w : World) (v : Value) (n : Nat) (e : Ending) (w' : World) : Prop :=
  ∃ g L, e = .returned (.slice (some ⟨g, 0, none⟩) n L.length) ∧ Blk w' g L ∧ n ≤ L.length ∧ Keeps (fun _ => False) w w' ∧ (v.ownBlock = some g ∨ w.heap.size ≤ g)

set_option maxRecDepth 100000 in
set_option maxHeartbeats 2000000 in
theorem make_any {w : World} {v : Value} {l : List Nat} (h : Buf w v l) (n : Nat) (hn : 0 < n) (hn2 : n ≤ 100) :
    Calls Tryz.prog 92 #[v, .int .i64 n] w fun e w' => Made w v n e w' := by
  have fresh : ∀ (V : Value) (m : Nat), n ≤ m → m ≤ 1000 → Made w V n (.returned (.slice (some ⟨w.heap.size, 0, none⟩) n m)) (w.alloc (.cells (wcs .u64 (List.replicate m 0)).toArray 117)) := fun V m h1 h2 =>
    ⟨w.heap.size, List.replicate m 0, by simp, ⟨heap_alloc_new _ _, by simpa using h2⟩, by simpa using h1, (Keeps.refl _ _).alloc _, .inr (Nat.le_refl _)⟩
  have FR := Lib.hid fresh
  have slow : ∀ (V : Value) (c : Nat), c < n → n ≤ 100 → (∃ A k, V = .slice A k c) → Calls Tryz.prog 92 #[V, .int .i64 n] w fun e w' => Made w V n e w' := by
    intro V c hc hn2 ⟨A, k, hV⟩
    subst hV
    have h2 : ¬ n ≤ c := by omega
    by_cases h1 : n = 1
    · subst h1
      go_enter Tryz.func92, Tryz.ntmps92
      go_wp2_with (at_make; refine wpList_make_words _ rfl _ _ rfl 1 1 1 1 rfl rfl rfl rfl (Nat.le_refl _) (by omega) ?_)
      go_ret
      exact FR.out _ 1 (by omega) (by omega)
    · have hw4 : IntKind.i64.wrap ((n : Int) + 4) = ((n + 4 : Nat) : Int) := by simp only [IntKind.wrap_i64]; omega
      go_enter Tryz.func92, Tryz.ntmps92
      go_wp2_with (at_make; refine wpList_make_words _ rfl _ _ rfl _ _ n (n + 4) rfl rfl rfl (by first | rfl | omega | (simp only [IntKind.wrap_i64]; omega)) (by omega) (by omega) ?_)
      go_ret
      exact FR.out _ (n + 4) (by omega) (by omega)
  rcases h with ⟨rfl, _⟩ | ⟨g, L, rfl, hb, _⟩
  · exact slow _ 0 hn hn2 ⟨_, _, rfl⟩
  · by_cases hc : n ≤ L.length
    · have FD := Lib.hid (show Made w (.slice (some ⟨g, 0, none⟩) l.length L.length) n (.returned (.slice (some ⟨g, 0, none⟩) n L.length)) w from ⟨g, L, rfl, hb, hc, Keeps.refl _ _, .inl rfl⟩)
      clear hb FR slow fresh
      generalize L.length = c at *
      generalize l.length = k at *
      go_enter Tryz.func92, Tryz.ntmps92
      go_wp2
      go_ret
      exact FD.out
    · exact slow _ L.length (by omega) hn2 ⟨_, _, rfl⟩

end Go.Proofs.YtnihfhfakadepaaGreatDoor
namespace Go.Proofs.YtnihfhfakadepaaGreatDoor
open Go.RowKit

set_option maxRecDepth 100000 in
set_option maxHeartbeats 2000000 in
theorem norm64_any {w : World} {g n : Nat} {L : List Nat} (h : Blk w g L) (hn : n ≤ L.length) (hd : ∀ x ∈ L.take n, x < 18446744073709551616) :
    Calls Tryz.prog 94 #[.slice (some ⟨g, 0, none⟩) n L.length] w fun e w' => ∃ k, e = .returned (.slice (some ⟨g, 0, none⟩) k L.length) ∧ BN w (.slice (some ⟨g, 0, none⟩) k L.length) (dval 18446744073709551616 (L.take n)) ∧ w' = w := by
  have fin : ∀ k : Nat, k ≤ n → (∀ j x, k ≤ j → (L.take n)[j]? = some x → x = 0) → (∀ x, 0 < k → (L.take n)[k - 1]? = some x → x ≠ 0) → BN w (.slice (some ⟨g, 0, none⟩) k L.length) (dval 18446744073709551616 (L.take n)) := fun k hk hz hl => by
    unfold BN
    rw [digs_cutV hd (by rw [List.length_take]; omega) hz hl, List.take_take, Nat.min_eq_left hk]
    exact Buf.take h (by omega)
  have FIN := Lib.hid fin
  have HB := Lib.hid h
  have hL := h.2
  clear hd fin h
  obtain ⟨c, hc⟩ : ∃ c, L.length = c := ⟨_, rfl⟩
  have HC := Lib.hid hc
  rw [hc] at hn hL FIN ⊢
  clear hc
  go_enter Tryz.func94, Tryz.ntmps94
  go_wp2
  go_loop [3] (fun i => ∃ k : Nat, k ≤ n ∧ i = .int .i64 k ∧ Hid (∀ (j x : Nat), k ≤ j → (L.take n)[j]? = some x → x = 0)) (fun i => (intOf i).toNat)
  case atStart => exact ⟨n, Nat.le_refl _, rfl, Lib.hid fun j x hj hx => by rw [List.getElem?_eq_none (by rw [List.length_take]; omega)] at hx; cases hx⟩
  case round =>
    obtain ⟨k, hk, rfl, hz⟩ := hrel
    rcases Nat.eq_zero_or_pos k with rfl | hk0
    · go_wp2
      go_ret
      exact ⟨0, rfl, FIN.out 0 (Nat.zero_le _) hz.out fun x h => by omega, rfl⟩
    · obtain ⟨q, rfl⟩ : ∃ q, k = q + 1 := ⟨k - 1, by omega⟩
      have hq : q < L.length := by have := HC.out; omega
      have h1 := HB.out.cell hq
      have HT := Lib.hid (show (L.take n)[q]? = some L[q] by rw [List.getElem?_take_of_lt (by omega), List.getElem?_eq_getElem hq])
      obtain ⟨x, hx⟩ : ∃ x, L[q] = x := ⟨_, rfl⟩
      rw [hx] at h1 HT
      clear hx
      cases hb : ((x : Int) == 0)
      · have hb' : x ≠ 0 := by simpa using hb
        have HF := Lib.hid (FIN.out (q + 1) hk hz.out fun y _ hy => by rw [Nat.add_sub_cancel, HT.out] at hy; injection hy with hy; rw [← hy]; exact hb')
        clear FIN hz hb'
        go_wp2
        go_ret
        exact ⟨q + 1, rfl, HF.out, rfl⟩
      · have hb' : x = 0 := by simpa using hb
        have HZ : Hid (∀ (j x : Nat), q ≤ j → (L.take n)[j]? = some x → x = 0) := Lib.hid fun j y hj hy => by
          rcases Nat.eq_or_lt_of_le hj with rfl | hlt
          · rw [HT.out] at hy
            injection hy with hy
            omega
          · exact hz.out j y hlt hy
        clear FIN hz hb'
        go_wp2
        go_round
        case rel => exact ⟨q, by omega, by go_num, HZ⟩
        case measure => simp [intOf]

/-- A new list of words. -/
def NewN (w : World) (n : Nat) (e : Ending) (w' : World) : Prop :=
  ∃ v, e = .returned v ∧ BN w' v n ∧ Keeps (fun _ => False) w w' ∧ (∀ g, v.ownBlock = some g → w.heap.size ≤ g)

set_option maxRecDepth 100000 in
set_option maxHeartbeats 2000000 in
theorem setWord_new {w : World} (x : Nat) (hx0 : 0 < x) (hx : x < 18446744073709551616) :
    Calls Tryz.prog 123 #[.slice none 0 0, .int .u64 x] w fun e w' => NewN w x e w' := by
  have HM := Lib.hid (show Calls Tryz.prog 92 #[.slice none 0 0, .int .i64 1] w (fun e w' => Made w (.slice none 0 0) 1 e w') from make_any (Buf.nil w) 1 (by omega) (by omega))
  have hb : ((x : Int) == 0) = false := by rw [beq_eq_false_iff_ne]; omega
  go_enter Tryz.func123, Tryz.ntmps123
  go_wp2_with (go_at_call 92; ((with_reducible refine HM.out.mono ?_); rintro e w1 ⟨g, L, rfl, hbk, hl, hk, hg⟩; have HB := Lib.hid hbk; have HK := Lib.hid hk; have HG := Lib.hid hg; have hcell := hbk.cell (j := 0) (by omega); have hfr := hbk.frozen 0; have hlt := hbk.lt; clear hbk hk hg))
  go_ret
  have hge : w.heap.size ≤ g := by
    rcases HG.out with h | h
    · cases h
    · exact h
  refine ⟨_, rfl, ?_, HK.out.setNew hge _, fun k hk => by cases hk; exact hge⟩
  unfold BN
  have hd : digs 18446744073709551616 x = [x] := by
    rw [digs_pos (by omega) hx0, Nat.mod_eq_of_lt hx, Nat.div_eq_of_lt hx, digs_zero]
  have h2 := HB.out.set 0 x
  have h3 := Buf.take h2 (m := 1) (by rw [List.length_set]; exact hl)
  rw [List.length_set] at h3
  rw [hd]
  obtain ⟨a, l, rfl⟩ : ∃ a l, L = a :: l := by
    cases L with
    | nil => simp at hl
    | cons a l => exact ⟨a, l, rfl⟩
  simpa using h3

theorem Buf.cells {w : World} {g n c : Nat} {l : List Nat} (h : Buf w (.slice (some ⟨g, 0, none⟩) n c) l) : ∀ j u, (wcs .u64 l)[j]? = some u → w.cell? ((⟨g, 0, none⟩ : Addr).add j) = some u := by
  rcases h with ⟨e, _⟩ | ⟨g', L, e, hb, ht⟩
  · injection e with e; cases e
  · injection e with e1 e2 e3
    injection e1 with e1
    injection e1 with e1
    subst e1
    intro j u hj
    have hjl : j < l.length := by
      have := (List.getElem?_eq_some_iff.1 hj).1
      rwa [wcs_length] at this
    rw [wcs_get hjl] at hj
    injection hj with hj
    subst hj
    have hL : L[j]? = some l[j] := by
      rw [← List.getElem?_take_of_lt (j := l.length) (by omega) , ht, List.getElem?_eq_getElem hjl]
    have hjL : j < L.length := (List.getElem?_eq_some_iff.1 hL).1
    have hc := hb.cell hjL
    rw [List.getElem?_eq_getElem hjL] at hL
    injection hL with hL
    rw [hL] at hc
    rcases Nat.eq_zero_or_pos j with rfl | h0
    · simpa [Addr.add] using hc
    · simpa [Addr.add, show ¬ j = 0 by omega] using hc

theorem Keeps.setRow {w w' : World} (h : Keeps (fun _ => False) w w') {g : Nat} (hg : w.heap.size ≤ g) (cs : Array Value) : Keeps (fun _ => False) w (w'.setRow g cs) :=
  ⟨h.os, h.tape, h.output, by rw [setRow_size]; exact h.size, fun k hk hs => by rw [setRow_other _ _ _ _ (by omega)]; exact h.block k hk hs⟩

set_option maxRecDepth 100000 in
set_option maxHeartbeats 2000000 in
theorem set_new {w : World} {vx : Value} {n : Nat} (hx : BN w vx n) (hn : 0 < n) (hl : (digs 18446744073709551616 n).length ≤ 100) :
    Calls Tryz.prog 134 #[.slice none 0 0, vx] w fun e w' => NewN w n e w' := by
  have hp : 0 < (digs 18446744073709551616 n).length := by rw [digs_pos (by omega) hn]; simp
  unfold BN at hx
  obtain ⟨gx, Lx, rfl, hbx, htx, hlx⟩ := hx.blk hp
  have HS := hx.cells
  unfold NewN BN
  generalize digs 18446744073709551616 n = l at *
  have HM := Lib.hid (make_any (Buf.nil w) l.length hp hl)
  have HSX := Lib.hid HS
  have HLX := Lib.hid (hbx.lt)
  have HBX := Lib.hid hx
  clear hbx htx HS hx
  generalize Lx.length = cx at *
  go_enter Tryz.func134, Tryz.ntmps134
  go_wp2_with (first | (go_at_call 92; ((with_reducible refine HM.out.mono ?_); rintro e w1 ⟨g, L, rfl, hbk, hlL, hk, hg⟩; have HB := Lib.hid hbk; have HB1 := Lib.hid hbk.1; have HK := Lib.hid hk; have HG := Lib.hid hg; have HSRC := Lib.hid (HBX.out.later hk).cells; clear hbk hk hg)) | ((with_reducible refine wpList_copy_own rfl _ _ 103 103 rfl 117 Tryz.underlying103 (by kernel_rfl) g 0 l.length L.length ⟨gx, 0, none⟩ l.length cx rfl rfl _ 117 HB1.out (wcs .u64 l) ?d1 HSRC.out ?d2 (wcs_one _ _) ?_); (case d1 => (rw [wcs_length]; exact (Nat.min_eq_left (by omega)).symm)); (case d2 => (simp only [wcs_length, List.size_toArray]; omega)); generalize hw6 : World.setRow w1 g _ = w6))
  have hge : w.heap.size ≤ g := by
    rcases HG.out with h | h
    · cases h
    · exact h
  go_ret
  have hblk : Blk w6 g (l ++ L.drop l.length) := by
    refine ⟨?_, by have := HB.out.2; simp; omega⟩
    rw [← hw6, setRow_heap _ _ _ _ _ _ HB.out.1]
    simp [wcs, List.map_drop]
  have hlen : (l ++ L.drop l.length).length = L.length := by simp; omega
  refine ⟨.slice (some ⟨g, 0, none⟩) l.length L.length, rfl, .inr ⟨g, _, by rw [hlen], hblk, by simp⟩, by rw [← hw6]; exact HK.out.setRow hge _, fun k hk => by cases hk; exact hge⟩

end Go.Proofs.YtnihfhfakadepaaGreatDoor
namespace Go.Proofs.YtnihfhfakadepaaGreatDoor
open Go.RowKit

/-- Ahead of step k: c is carried; y and r are the factor and what is added. -/
structure MulW (B : Nat) (l L0 : List Nat) (y r k c : Nat) (L : List Nat) : Prop where
  len : L.length = L0.length
  lt : ∀ x ∈ L.take k, x < B
  clt : c < B
  val : dval B (L.take k) + c * B ^ k = dval B (l.take k) * y + r

theorem MulW.start {B : Nat} {l L0 : List Nat} {y r : Nat} (hr : r < B) : MulW B l L0 y r 0 r L0 := ⟨rfl, by simp, hr, by simp [dval]⟩

theorem MulW.step {B : Nat} {l L0 : List Nat} {y r k c : Nat} {L : List Nat} (h : MulW B l L0 y r k c L) (hy : y < B) {x : Nat} (hx : l[k]? = some x) (hxl : x < B) (hk : k < L.length) :
    MulW B l L0 y r (k + 1) ((x * y + c) / B) (L.set k ((x * y + c) % B)) := by
  have hB : 0 < B := by omega
  have hc := carry_lt (y := 0) h.clt hxl hB hy
  rw [Nat.add_zero, Nat.add_comm c] at hc
  have ht : (L.set k ((x * y + c) % B)).take (k + 1) = L.take k ++ [(x * y + c) % B] := by
    rw [List.take_add_one, List.getElem?_set_self hk, List.take_set_of_le (Nat.le_refl _)]
    rfl
  refine ⟨by rw [List.length_set]; exact h.len, ?_, hc.2, ?_⟩
  · rw [ht]
    intro z hz
    rcases List.mem_append.1 hz with hz | hz
    · exact h.lt z hz
    · rw [List.mem_singleton.1 hz]; exact Nat.mod_lt _ hB
  · have h1 := h.val
    have h2 := dval_take_succ B l k x hx
    have h3 := Nat.mod_add_div (x * y + c) B
    rw [ht, dval_append, h2, List.length_take, Nat.min_eq_left (by omega)]
    simp only [dval, Nat.mul_zero, Nat.add_zero]
    generalize (x * y + c) % B = lo at *
    generalize (x * y + c) / B = hi at *
    generalize dval B (L.take k) = S at *
    generalize dval B (l.take k) = T at *
    rw [Nat.pow_succ]
    generalize B ^ k = P at *
    grind

set_option maxRecDepth 100000 in
set_option maxHeartbeats 2000000 in
theorem mulAddVWW_any {w : World} {g gx c cx : Nat} {L l : List Nat} {y r : Nat} (hb : Blk w g L) (hx : Buf w (.slice (some ⟨gx, 0, none⟩) l.length cx) l) (hne : gx ≠ g) (hll : l.length ≤ L.length) (hl : ∀ x ∈ l, x < 18446744073709551616) (hy : y < 18446744073709551616) (hr : r < 18446744073709551616) :
    Calls Tryz.prog 67 #[.slice (some ⟨g, 0, none⟩) l.length c, .slice (some ⟨gx, 0, none⟩) l.length cx, .int .u64 y, .int .u64 r] w fun e w' => ∃ cr L', e = .returned (.int .u64 ((cr : Nat) : Int)) ∧ Blk w' g L' ∧ MulW 18446744073709551616 l L y r l.length cr L' ∧ Keeps (fun k => k = g) w w' := by
  have HX := Lib.hid hx.cells
  have HL := Lib.hid hl
  have HB := Lib.hid hb
  have hlen : L.length ≤ 1000 := hb.2
  have HLL := Lib.hid (show ∀ (wr : World) (L' : List Nat) (k cr : Nat), Blk wr g L' → MulW 18446744073709551616 l L y r k cr L' → l.length ≤ L'.length from fun _ _ _ _ _ h => by rw [h.len]; exact hll)
  clear hb hx hl
  go_enter Tryz.func67, Tryz.ntmps67
  go_wp2_with fail
  go_loopw [8, 19] (fun cc i wr => ∃ (k cr : Nat) (L' : List Nat), k ≤ l.length ∧ i = .int .i64 k ∧ cc = .int .u64 cr ∧ Hid (Blk wr g L') ∧ Hid (MulW 18446744073709551616 l L y r k cr L') ∧ Hid (Keeps (fun j => j = g) w wr)) (fun _ i _ => l.length - (intOf i).toNat)
  case atStart => exact ⟨0, r, L, Nat.zero_le _, rfl, rfl, HB, Lib.hid (MulW.start hr), Lib.hid (Keeps.refl _ _)⟩
  case round =>
    obtain ⟨k, cr, L', hk, rfl, rfl, hbk, hm, hkp⟩ := hrel
    by_cases hlt : k < l.length
    · have hkL : k < L'.length := by have := HLL.out _ _ _ _ hbk.out hm.out; omega
      have hg : l[k]? = some l[k] := List.getElem?_eq_getElem hlt
      have hxl := HL.out _ (List.getElem_mem hlt)
      have hc0 : w.cell? ⟨gx, k, none⟩ = some (.int .u64 (l[k] : Int)) := by
        have := HX.out k _ (wcs_get hlt)
        rcases Nat.eq_zero_or_pos k with h0 | h0
        · subst h0; simpa [Addr.add] using this
        · simpa [Addr.add, show ¬ k = 0 by omega] using this
      have hc1 : wr.cell? ⟨gx, k, none⟩ = some (.int .u64 (l[k] : Int)) := hkp.out.cell hne hc0
      have hc2 := hbk.out.cell hkL
      have hfr := hbk.out.frozen k
      obtain ⟨x, hxe⟩ : ∃ x, l[k] = x := ⟨_, rfl⟩
      rw [hxe] at hg hxl hc1
      obtain ⟨u, hu⟩ : ∃ u, L'[k] = u := ⟨_, rfl⟩
      rw [hu] at hc2
      have HM := Lib.hid (mulAddWWW_any (w := wr) x y cr hxl hy hm.out.clt)
      have HST := Lib.hid (hm.out.step hy hg hxl hkL)
      obtain ⟨q, hq⟩ : ∃ q, (x * y + cr) / 18446744073709551616 = q := ⟨_, rfl⟩
      obtain ⟨d, hd⟩ : ∃ d, (x * y + cr) % 18446744073709551616 = d := ⟨_, rfl⟩
      rw [hq, hd] at HM HST
      have HBS := Lib.hid (hbk.out.set k d)
      have HKS := Lib.hid (hkp.out.setCell (p := ⟨g, k, none⟩) (.inl rfl) (.int .u64 (d : Int)))
      clear hc0 hq hd hbk hm hg hxe hu
      go_wp2_with (go_at_call 114; ((with_reducible refine HM.out.mono ?_); rintro e w2 ⟨rfl, rfl⟩))
      go_roundw
      case measure => simp [intOf]; omega
      case rel => exact ⟨k + 1, q, _, by omega, by go_num, rfl, HBS, HST, HKS⟩
    · obtain rfl : k = l.length := by omega
      go_wp2_with fail
      go_ret
      exact ⟨cr, L', rfl, hbk.out, hm.out, hkp.out⟩

theorem Tryz.mulAddVWW_enters (args : Array Value) (w : World) : (callFunc 124 args).run Tryz.prog w = .ok (.enter 67 args) w :=
  run_callFunc_twin (twin := "math/big.mulAddVWW_g") Tryz.func124 (by kernel_rfl) (by kernel_rfl) (by kernel_rfl) (by kernel_rfl) Tryz.func67 (by kernel_rfl) (by kernel_rfl) (by kernel_rfl) args w

end Go.Proofs.YtnihfhfakadepaaGreatDoor
namespace Go.Proofs.YtnihfhfakadepaaGreatDoor
open Go.RowKit

/-- A number handed back: in the room that was given, or in new. -/
def Times (w : World) (vz : Value) (n : Nat) (e : Ending) (w' : World) : Prop :=
  ∃ v, e = .returned v ∧ BN w' v n ∧ Keeps (fun g => vz.ownBlock = some g) w w' ∧ (∀ g, v.ownBlock = some g → vz.ownBlock = some g ∨ w.heap.size ≤ g)

/-- What the steps made, with the last word behind it. -/
theorem MulW.out {B : Nat} {l L0 : List Nat} {y c : Nat} {L : List Nat} (h : MulW B l L0 y 0 l.length c L) (hk : l.length < L.length) : dval B ((L.set l.length c).take (l.length + 1)) = dval B l * y ∧ (∀ x ∈ (L.set l.length c).take (l.length + 1), x < B) := by
  have ht : (L.set l.length c).take (l.length + 1) = L.take l.length ++ [c] := by
    rw [List.take_add_one, List.getElem?_set_self hk, List.take_set_of_le (Nat.le_refl _)]
    rfl
  rw [ht]
  constructor
  · rw [dval_append, List.length_take, Nat.min_eq_left (by omega)]
    have := h.val
    rw [List.take_length, Nat.add_zero] at this
    simp only [dval, Nat.mul_zero, Nat.add_zero]
    rw [← this, Nat.mul_comm c]
  · intro z hz
    rcases List.mem_append.1 hz with hz | hz
    · exact h.lt z hz
    · rw [List.mem_singleton.1 hz]; exact h.clt

theorem apart_new {w : World} {vz : Value} {gx n c g : Nat} (h : ∀ g, vz.ownBlock = some g → (Value.slice (some ⟨gx, 0, none⟩) n c).ownBlock ≠ some g) (hx : gx < w.heap.size) (hg : vz.ownBlock = some g ∨ w.heap.size ≤ g) : gx ≠ g := by
  rcases hg with hg | hg
  · intro e
    exact h g hg (by rw [e]; rfl)
  · omega

theorem norm_after {w : World} {g m1 c : Nat} {l L0 L : List Nat} {y cr m : Nat} (hb : Blk w g L) (hm : MulW 18446744073709551616 l L0 y 0 m cr L) (hll : l.length = m) (hm1 : m + 1 = m1) (hc : L0.length = c) (hmc : m1 ≤ c) :
    Calls Tryz.prog 94 #[.slice (some ⟨g, 0, none⟩) m1 c] (w.setCell ⟨g, m, none⟩ (.int .u64 (cr : Int))) fun e w' => ∃ k, e = .returned (.slice (some ⟨g, 0, none⟩) k c) ∧ BN w' (.slice (some ⟨g, 0, none⟩) k c) (dval 18446744073709551616 l * y) ∧ w' = w.setCell ⟨g, m, none⟩ (.int .u64 (cr : Int)) := by
  subst hll hm1
  have hl := hm.len
  have ho := hm.out (by omega)
  have h2 := hb.set l.length cr
  have hs : (L.set l.length cr).length = c := by rw [List.length_set]; omega
  have := norm64_any h2 (n := l.length + 1) (by omega) ho.2
  rw [hs, ho.1] at this
  exact this.mono fun e w' ⟨k, h1, h2, h3⟩ => ⟨k, h1, by rw [h3]; exact h2, h3⟩

theorem keeps_times {w w1 w2 : World} {vz : Value} {g : Nat} (hk : Keeps (fun _ => False) w w1) (hk2 : Keeps (fun k => k = g) w1 w2) (hg : vz.ownBlock = some g ∨ w.heap.size ≤ g) (j : Nat) (u : Value) : Keeps (fun k => vz.ownBlock = some k) w (w2.setCell ⟨g, j, none⟩ u) :=
  ((hk.mono (S' := fun k => vz.ownBlock = some k) fun _ h => h.elim).trans hk2 fun k e => by subst e; exact hg).setCell hg u

set_option maxRecDepth 100000 in
set_option maxHeartbeats 2000000 in
theorem mulAddWW_any {w : World} {vz vx : Value} {lz : List Nat} {n y : Nat} (hz : Buf w vz lz) (hx : BN w vx n) (hn : 0 < n) (hl : (digs 18446744073709551616 n).length ≤ 90) (hne : ∀ g, vz.ownBlock = some g → vx.ownBlock ≠ some g) (hy0 : 0 < y) (hy : y < 18446744073709551616) :
    Calls Tryz.prog 101 #[vz, vx, .int .u64 y, .int .u64 0] w fun e w' => Times w vz (n * y) e w' := by
  have hp : 0 < (digs 18446744073709551616 n).length := by rw [digs_pos (by omega) hn]; simp
  have hv := dval_digs (B := 18446744073709551616) (by omega) n
  have hlt := digs_lt (B := 18446744073709551616) (by omega) n
  unfold BN at hx
  rw [← hv]
  clear hv hn
  generalize digs 18446744073709551616 n = l at *
  obtain ⟨gx, Lx, rfl, hbx, htx, hlx⟩ := hx.blk hp
  have HM := Lib.hid (make_any hz (l.length + 1) (by omega) (by omega))
  have HMV := Lib.hid (fun (W : World) (g : Nat) (L : List Nat) (hb : Blk W g L) (hk : Keeps (fun _ => False) w W) (hgx : gx ≠ g) (hlL : l.length + 1 ≤ L.length) => show Calls Tryz.prog 67 #[.slice (some ⟨g, 0, none⟩) l.length L.length, .slice (some ⟨gx, 0, none⟩) l.length Lx.length, .int .u64 y, .int .u64 0] W (fun e w' => ∃ cr L', e = .returned (.int .u64 ((cr : Nat) : Int)) ∧ Blk w' g L' ∧ MulW 18446744073709551616 l L y 0 l.length cr L' ∧ Keeps (fun k => k = g) W w') from mulAddVWW_any (c := L.length) (y := y) (r := 0) hb (hx.later hk) hgx (by omega) hlt hy (by omega))
  have HNE := Lib.hid hne
  have HGX := Lib.hid (hbx.lt)
  obtain ⟨m1, hm1⟩ : ∃ m1, l.length + 1 = m1 := ⟨_, rfl⟩
  have hw1 : IntKind.i64.wrap ((l.length : Int) + 1) = (m1 : Int) := by simp only [IntKind.wrap_i64]; omega
  rw [hm1] at HM HMV
  have hy1 : ((y : Int) == 0) = false := by rw [beq_eq_false_iff_ne]; omega
  have hp1 : ((l.length : Int) == 0) = false := by rw [beq_eq_false_iff_ne]; omega
  have hd := Tryz.mulAddVWW_enters
  clear hne hbx htx hx hz hy hy0 hlt
  obtain ⟨m, hm⟩ : ∃ m, l.length = m := ⟨_, rfl⟩
  have HLM := Lib.hid hm
  rw [hm] at HMV hm1 hw1 hp1 hl hp hlx ⊢
  clear hm
  have hmm : m < m1 := by omega
  have HM1 := Lib.hid hm1
  clear hm1
  go_enter Tryz.func101, Tryz.ntmps101
  go_wp2_with (first
    | (go_at_call 92; ((with_reducible refine HM.out.mono ?_); rintro e w1 ⟨g, L, rfl, hbk, hlL, hk, hg⟩; have hgx := apart_new HNE.out HGX.out hg; have HB := Lib.hid hbk; have HK := Lib.hid hk; have HG := Lib.hid hg; have HV := Lib.hid (HMV.out w1 g L hbk hk hgx hlL); clear hbk hk hg HMV hgx))
    | (go_at_call 67; ((with_reducible refine HV.out.mono ?_); rintro e w2 ⟨cr, L', rfl, hb2, hm2, hk2⟩; have hL2 : L'.length = L.length := hm2.len; have hL3 : m < L'.length := (by omega); have hfr := hb2.frozen m; have hcl := hb2.cell hL3; have hbl := hb2.lt; have HB2 := Lib.hid hb2; have HM2 := Lib.hid hm2; have HK2 := Lib.hid hk2; have HN := Lib.hid (norm_after hb2 hm2 HLM.out HM1.out rfl hlL); clear hb2 hm2 hk2))
    | (go_at_call 94; ((with_reducible refine HN.out.mono ?_); rintro e w3 ⟨k, rfl, hbn, rfl⟩; have HBN := Lib.hid hbn; clear hbn)))
  go_ret
  exact ⟨_, rfl, HBN.out, keeps_times HK.out HK2.out HG.out _ _, fun k hk => by cases hk; exact HG.out⟩

end Go.Proofs.YtnihfhfakadepaaGreatDoor
