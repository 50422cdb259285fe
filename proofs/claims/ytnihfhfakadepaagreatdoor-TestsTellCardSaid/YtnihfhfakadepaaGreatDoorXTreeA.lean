/- Values and tests as trees, each list with the value that stands in its place; what is wrong with one, and what a test says of a value, in halves (0 no, 1 not known, 2 yes). No program is here. Tests as trees: where they lie in memory. No walk is here. The arguments of the law, read: a test, a value, a type, whatever lies in them. -/
import Derived.Test.YtnihfhfakadepaaGreatDoorXKitA
import Derived.Test.YtnihfhfakadepaaGreatDoorXPlainA
import Derived.Lib.ValidU
import Derived.Deep.Slices
import Derived.Deep.Fields
import Derived.ChangeSame
import Derived.OpenShut
namespace Go.Proofs.YtnihfhfakadepaaGreatDoor
open Go.RowKit

inductive Val where
  | mk (kind : Int) (yes : Bool) (num : DecV) (text : ByteArray) (lv : Value) (list : List Val)

def Val.kind : Val → Int | .mk k _ _ _ _ _ => k
def Val.yes : Val → Bool | .mk _ y _ _ _ _ => y
def Val.num : Val → DecV | .mk _ _ d _ _ _ => d
def Val.text : Val → ByteArray | .mk _ _ _ t _ _ => t
def Val.lv : Val → Value | .mk _ _ _ _ l _ => l
def Val.list : Val → List Val | .mk _ _ _ _ _ l => l

inductive Tst where
  | mk (kind : Int) (a b : Val) (openA openB : Bool) (kv : Value) (kids : List Tst)

def Tst.kind : Tst → Int | .mk k _ _ _ _ _ _ => k
def Tst.a : Tst → Val | .mk _ a _ _ _ _ _ => a
def Tst.b : Tst → Val | .mk _ _ b _ _ _ _ => b
def Tst.openA : Tst → Bool | .mk _ _ _ o _ _ _ => o
def Tst.openB : Tst → Bool | .mk _ _ _ _ o _ _ => o
def Tst.kv : Tst → Value | .mk _ _ _ _ _ v _ => v
def Tst.kids : Tst → List Tst | .mk _ _ _ _ _ _ l => l

mutual
/-- What is wrong with a value, from n nodes on, and how many there are then. -/
def lookV : Val → Nat → Nat → Int × Nat
  | .mk k _ d t _ l, depth, n =>
    if 2000 < n + 1 ∨ 20 < depth then (4, n + 1)
    else if k = 1 ∨ k = 2 then (0, n + 1)
    else if k = 3 then (wrongD d, n + 1)
    else if k = 4 then (if 1000 < t.size then 4 else if Lib.validD t.data.toList then 0 else 2, n + 1)
    else if k = 5 then (if 200 < l.length then (5, n + 1) else lookL l (depth + 1) (n + 1))
    else (1, n + 1)
def lookL : List Val → Nat → Nat → Int × Nat
  | [], _, n => (0, n)
  | v :: t, depth, n => if (lookV v depth n).1 ≠ 0 then lookV v depth n else lookL t depth (lookV v depth n).2
end

def wrongV (v : Val) : Int := (lookV v 1 0).1

/-- What is wrong with a value of a test. -/
def valW (v : Val) : Int :=
  if wrongV v ≠ 0 then wrongV v else if v.kind = 5 then 8
  else if v.kind = 3 ∧ (0 < cmpD ⟨v.num.coef.natAbs, v.num.exp⟩ ⟨1, 9⟩ ∨ v.num.exp < -6) then 3 else 0

def ordB (v : Val) : Bool := decide (v.kind = 3) || decide (v.kind = 4)

mutual
def wrongT : Tst → Nat → Int
  | .mk k a b _ _ _ kids, depth =>
    if 4 < depth then 4
    else if k = 1 then 0
    else if k = 2 then valW a
    else if 3 ≤ k ∧ k ≤ 6 then (if valW a ≠ 0 then valW a else if ordB a then 0 else 9)
    else if k = 7 then (if valW a ≠ 0 then valW a else if valW b ≠ 0 then valW b else if ordB a = true ∧ a.kind = b.kind then 0 else 9)
    else if k = 8 ∨ k = 9 then (if kids.length < 1 ∨ 20 < kids.length then 5 else wrongL kids (depth + 1))
    else 1
def wrongL : List Tst → Nat → Int
  | [], _ => 0
  | t :: l, depth => if wrongT t depth ≠ 0 then wrongT t depth else wrongL l depth
end


/-! ### memory -/
def Val.cells : Val → List Value | .mk k y d t lv _ => [.int .i64 k, .bool y, .int .i64 d.coef, .int .i64 d.exp, .string t, lv]
def vrow : List Val → List Value
  | [] => []
  | x :: l => x.cells ++ vrow l
theorem Val.cells_length (x : Val) : x.cells.length = 6 := by cases x; rfl
theorem vrow_length : ∀ l : List Val, (vrow l).length = l.length * 6
  | [] => rfl
  | x :: l => by
    rw [vrow, List.length_append, vrow_length l, Val.cells_length, List.length_cons]
    omega
theorem vrow_get : ∀ (l : List Val) (k j : Nat) (x : Val) (u : Value), l[k]? = some x → x.cells[j]? = some u → (vrow l)[k * 6 + j]? = some u
  | [], k, j, x, u, h, _ => by simp at h
  | y :: l, 0, j, x, u, h, hu => by
    simp at h
    subst h
    have hj : j < y.cells.length := (List.getElem?_eq_some_iff.1 hu).1
    rw [vrow, Nat.zero_mul, Nat.zero_add, List.getElem?_append_left hj]
    exact hu
  | y :: l, k + 1, j, x, u, h, hu => by
    rw [List.getElem?_cons_succ] at h
    rw [vrow, List.getElem?_append_right (by rw [Val.cells_length]; omega), Val.cells_length, show (k + 1) * 6 + j - 6 = k * 6 + j by omega]
    exact vrow_get l k j x u h hu

/-- Cells at a place. -/
def At (w : World) (b o : Nat) (cs : List Value) : Prop := ∀ j u, cs[j]? = some u → w.cell? ⟨b, o + j, none⟩ = some u
theorem At.keep {S : Nat → Prop} {w w' : World} {b o : Nat} {cs : List Value} (h : At w b o cs) (hk : Keeps S w w') (hb : ¬ S b) : At w' b o cs := fun j u hj => hk.cell hb (h j u hj)

mutual
/-- A value's lists lie as they read, none of them in a block of S. -/
def VOk (w : World) (S : Nat → Prop) : Val → Prop
  | .mk _ _ _ _ lv l => Sl w S lv 6 (vrow l) ∧ VOkL w S l
def VOkL (w : World) (S : Nat → Prop) : List Val → Prop
  | [] => True
  | x :: l => VOk w S x ∧ VOkL w S l
end

mutual
theorem VOk.into {w w' : World} {S S' S1 : Nat → Prop} (hk : Keeps S1 w w') (h1 : ∀ k, k < w.heap.size → S1 k → S k) (h2 : ∀ k, k < w.heap.size → S' k → S k) : ∀ v, VOk w S v → VOk w' S' v
  | .mk _ _ _ _ lv l, h => by
    unfold VOk at h ⊢
    exact ⟨h.1.into hk h1 h2, VOkL.into hk h1 h2 l h.2⟩
theorem VOkL.into {w w' : World} {S S' S1 : Nat → Prop} (hk : Keeps S1 w w') (h1 : ∀ k, k < w.heap.size → S1 k → S k) (h2 : ∀ k, k < w.heap.size → S' k → S k) : ∀ l, VOkL w S l → VOkL w' S' l
  | [], _ => trivial
  | x :: l, h => by
    unfold VOkL at h ⊢
    exact ⟨VOk.into hk h1 h2 x h.1, VOkL.into hk h1 h2 l h.2⟩
end
theorem VOk.keep {w w' : World} {S : Nat → Prop} {v : Val} (h : VOk w S v) (hk : Keeps S w w') : VOk w' S v := VOk.into hk (fun _ _ h => h) (fun _ _ h => h) v h
theorem VOk.later {w w' : World} {S : Nat → Prop} {v : Val} (h : VOk w S v) (hk : Keeps (fun _ => False) w w') : VOk w' S v := VOk.into hk (fun _ _ h => h.elim) (fun _ _ h => h) v h
theorem VOkL.get {w : World} {S : Nat → Prop} : ∀ {l : List Val}, VOkL w S l → ∀ {k : Nat} {x : Val}, l[k]? = some x → VOk w S x
  | [], _, k, x, h => by simp at h
  | y :: l, h, 0, x, hx => by
    unfold VOkL at h
    simp at hx
    subst hx
    exact h.1
  | y :: l, h, k + 1, x, hx => by
    unfold VOkL at h
    rw [List.getElem?_cons_succ] at hx
    exact VOkL.get h.2 hx
theorem VOk.row {w : World} {S : Nat → Prop} {k : Int} {y : Bool} {d : DecV} {t : ByteArray} {lv : Value} {l : List Val} (h : VOk w S (.mk k y d t lv l)) : Sl w S lv 6 (vrow l) ∧ VOkL w S l := by
  unfold VOk at h
  exact h

theorem Val.lt_of_get {k : Int} {y : Bool} {d : DecV} {t : ByteArray} {lv : Value} {l : List Val} {j : Nat} {x : Val} (h : l[j]? = some x) : SizeOf.sizeOf x < SizeOf.sizeOf (Val.mk k y d t lv l) := by
  have h1 := List.sizeOf_lt_of_mem (List.mem_of_getElem? h)
  simp only [Val.mk.sizeOf_spec]
  omega

/-- The list behind a slice, element by element. -/
theorem Sl.elem {w : World} {S : Nat → Prop} {A : Option Addr} {n c : Nat} {l : List Val} (h : Sl w S (.slice A n c) 6 (vrow l)) : n = l.length ∧ n ≤ c ∧ c ≤ maxLen ∧ ∀ k x, l[k]? = some x → ∃ b off, A = some ⟨b, off, none⟩ ∧ ¬ S b ∧ At w b (off + k * 6) x.cells := by
  obtain ⟨A', len, cap, e, hl, h1, h2, h3⟩ := h
  injection e with e1 e2 e3
  subst e1 e2 e3
  rw [vrow_length] at hl
  refine ⟨by omega, h1, h2, fun k x hx => ?_⟩
  have hk : k < l.length := (List.getElem?_eq_some_iff.1 hx).1
  obtain ⟨b, off, hA, hb, hc⟩ := h3 (by rw [vrow_length]; omega)
  refine ⟨b, off, hA, hb, fun j u hj => ?_⟩
  rw [Nat.add_assoc]
  exact hc _ _ (vrow_get l k j x u hx hj)

mutual
theorem lookV_count : ∀ (v : Val) (d n : Nat), (lookV v d n).1 = 0 → (lookV v d n).2 ≤ 2000
  | .mk k y dd t lv l, d, n, h => by
    unfold lookV at h ⊢
    split at h
    · simp at h
    · rename_i h1
      rw [if_neg h1]
      split at h
      · rename_i h2; rw [if_pos h2]; show n + 1 ≤ 2000; omega
      · rename_i h2
        rw [if_neg h2]
        split at h
        · rename_i h3; rw [if_pos h3]; show n + 1 ≤ 2000; omega
        · rename_i h3
          rw [if_neg h3]
          split at h
          · rename_i h4; rw [if_pos h4]; show n + 1 ≤ 2000; omega
          · rename_i h4
            rw [if_neg h4]
            split at h
            · rename_i h5
              rw [if_pos h5]
              split at h
              · simp at h
              · rename_i h6
                rw [if_neg h6]
                exact lookL_count l (d + 1) (n + 1) (by omega) h
            · simp at h
theorem lookL_count : ∀ (l : List Val) (d n : Nat), n ≤ 2000 → (lookL l d n).1 = 0 → (lookL l d n).2 ≤ 2000
  | [], d, n, hn, _ => by unfold lookL; exact hn
  | v :: l, d, n, hn, h => by
    unfold lookL at h ⊢
    split at h
    · rename_i h1; exact absurd h h1
    · rename_i h1
      rw [if_neg h1]
      exact lookL_count l d _ (lookV_count v d n (by simpa using h1)) h
end

end Go.Proofs.YtnihfhfakadepaaGreatDoor
namespace Go.Proofs.YtnihfhfakadepaaGreatDoor
open Go.RowKit

def Tst.cells : Tst → List Value
  | .mk k (.mk ka ya da ta la _) (.mk kb yb db tb lb _) oa ob kv _ =>
    [.int .i64 k, .int .i64 ka, .bool ya, .int .i64 da.coef, .int .i64 da.exp, .string ta, la, .int .i64 kb, .bool yb, .int .i64 db.coef, .int .i64 db.exp, .string tb, lb, .bool oa, .bool ob, kv]
def trow : List Tst → List Value
  | [] => []
  | x :: l => x.cells ++ trow l
theorem Tst.cells_length (x : Tst) : x.cells.length = 16 := by
  obtain ⟨k, a, b, oa, ob, kv, l⟩ := x
  cases a
  cases b
  rfl
theorem trow_length : ∀ l : List Tst, (trow l).length = l.length * 16
  | [] => rfl
  | x :: l => by
    rw [trow, List.length_append, trow_length l, Tst.cells_length, List.length_cons]
    omega
theorem trow_get : ∀ (l : List Tst) (k j : Nat) (x : Tst) (u : Value), l[k]? = some x → x.cells[j]? = some u → (trow l)[k * 16 + j]? = some u
  | [], k, j, x, u, h, _ => by simp at h
  | y :: l, 0, j, x, u, h, hu => by
    simp at h
    subst h
    have hj : j < y.cells.length := (List.getElem?_eq_some_iff.1 hu).1
    rw [trow, Nat.zero_mul, Nat.zero_add, List.getElem?_append_left hj]
    exact hu
  | y :: l, k + 1, j, x, u, h, hu => by
    rw [List.getElem?_cons_succ] at h
    rw [trow, List.getElem?_append_right (by rw [Tst.cells_length]; omega), Tst.cells_length, show (k + 1) * 16 + j - 16 = k * 16 + j by omega]
    exact trow_get l k j x u h hu

mutual
/-- A test's lists lie as they read. -/
def TOk (w : World) : Tst → Prop
  | .mk _ a b _ _ kv l => VOk w (fun _ => False) a ∧ VOk w (fun _ => False) b ∧ Sl w (fun _ => False) kv 16 (trow l) ∧ TOkL w l
def TOkL (w : World) : List Tst → Prop
  | [] => True
  | x :: l => TOk w x ∧ TOkL w l
end

mutual
theorem TOk.later {w w' : World} (hk : Keeps (fun _ => False) w w') : ∀ t, TOk w t → TOk w' t
  | .mk _ a b _ _ kv l, h => by
    unfold TOk at h ⊢
    exact ⟨h.1.later hk, h.2.1.later hk, h.2.2.1.into hk (fun _ _ h => h) (fun _ _ h => h), TOkL.later hk l h.2.2.2⟩
theorem TOkL.later {w w' : World} (hk : Keeps (fun _ => False) w w') : ∀ l, TOkL w l → TOkL w' l
  | [], _ => trivial
  | x :: l, h => by
    unfold TOkL at h ⊢
    exact ⟨TOk.later hk x h.1, TOkL.later hk l h.2⟩
end
theorem TOkL.get {w : World} : ∀ {l : List Tst}, TOkL w l → ∀ {k : Nat} {x : Tst}, l[k]? = some x → TOk w x
  | [], _, k, x, h => by simp at h
  | y :: l, h, 0, x, hx => by
    unfold TOkL at h
    simp at hx
    subst hx
    exact h.1
  | y :: l, h, k + 1, x, hx => by
    unfold TOkL at h
    rw [List.getElem?_cons_succ] at hx
    exact TOkL.get h.2 hx
theorem TOk.parts {w : World} {k : Int} {a b : Val} {oa ob : Bool} {kv : Value} {l : List Tst} (h : TOk w (.mk k a b oa ob kv l)) : VOk w (fun _ => False) a ∧ VOk w (fun _ => False) b ∧ Sl w (fun _ => False) kv 16 (trow l) ∧ TOkL w l := by
  unfold TOk at h
  exact h
theorem Tst.lt_of_get {k : Int} {a b : Val} {oa ob : Bool} {kv : Value} {l : List Tst} {j : Nat} {x : Tst} (h : l[j]? = some x) : SizeOf.sizeOf x < SizeOf.sizeOf (Tst.mk k a b oa ob kv l) := by
  have h1 := List.sizeOf_lt_of_mem (List.mem_of_getElem? h)
  simp only [Tst.mk.sizeOf_spec]
  omega

theorem Sl.elemT {w : World} {S : Nat → Prop} {A : Option Addr} {n c : Nat} {l : List Tst} (h : Sl w S (.slice A n c) 16 (trow l)) : n = l.length ∧ n ≤ c ∧ c ≤ maxLen ∧ ∀ k x, l[k]? = some x → ∃ b off, A = some ⟨b, off, none⟩ ∧ At w b (off + k * 16) x.cells := by
  obtain ⟨A', len, cap, e, hl, h1, h2, h3⟩ := h
  injection e with e1 e2 e3
  subst e1 e2 e3
  rw [trow_length] at hl
  refine ⟨by omega, h1, h2, fun k x hx => ?_⟩
  have hk : k < l.length := (List.getElem?_eq_some_iff.1 hx).1
  obtain ⟨b, off, hA, hb, hc⟩ := h3 (by rw [trow_length]; omega)
  refine ⟨b, off, hA, fun j u hj => ?_⟩
  rw [Nat.add_assoc]
  exact hc _ _ (trow_get l k j x u hx hj)

section
variable {w : World} {b o : Nat} {k ka kb : Int} {ya yb oa ob : Bool} {da db : DecV} {ta tb : ByteArray} {la lb kv : Value} {ea eb : List Val} {l : List Tst}
theorem At.kind (h : At w b o (Tst.mk k (.mk ka ya da ta la ea) (.mk kb yb db tb lb eb) oa ob kv l).cells) : w.cell? ⟨b, o, none⟩ = some (.int .i64 k) := h 0 _ rfl
theorem At.partA (h : At w b o (Tst.mk k (.mk ka ya da ta la ea) (.mk kb yb db tb lb eb) oa ob kv l).cells) :
    w.cell? ⟨b, o + 1, none⟩ = some (.int .i64 ka) ∧ w.cell? ⟨b, o + 2, none⟩ = some (.bool ya) ∧ w.cell? ⟨b, o + 3, none⟩ = some (.int .i64 da.coef) ∧ w.cell? ⟨b, o + 4, none⟩ = some (.int .i64 da.exp) ∧ w.cell? ⟨b, o + 5, none⟩ = some (.string ta) ∧ w.cell? ⟨b, o + 6, none⟩ = some la :=
  ⟨h 1 _ rfl, h 2 _ rfl, h 3 _ rfl, h 4 _ rfl, h 5 _ rfl, h 6 _ rfl⟩
theorem At.partB (h : At w b o (Tst.mk k (.mk ka ya da ta la ea) (.mk kb yb db tb lb eb) oa ob kv l).cells) :
    w.cell? ⟨b, o + 7, none⟩ = some (.int .i64 kb) ∧ w.cell? ⟨b, o + 8, none⟩ = some (.bool yb) ∧ w.cell? ⟨b, o + 9, none⟩ = some (.int .i64 db.coef) ∧ w.cell? ⟨b, o + 10, none⟩ = some (.int .i64 db.exp) ∧ w.cell? ⟨b, o + 11, none⟩ = some (.string tb) ∧ w.cell? ⟨b, o + 12, none⟩ = some lb :=
  ⟨h 7 _ rfl, h 8 _ rfl, h 9 _ rfl, h 10 _ rfl, h 11 _ rfl, h 12 _ rfl⟩
theorem At.rest (h : At w b o (Tst.mk k (.mk ka ya da ta la ea) (.mk kb yb db tb lb eb) oa ob kv l).cells) :
    w.cell? ⟨b, o + 13, none⟩ = some (.bool oa) ∧ w.cell? ⟨b, o + 14, none⟩ = some (.bool ob) ∧ w.cell? ⟨b, o + 15, none⟩ = some kv := ⟨h 13 _ rfl, h 14 _ rfl, h 15 _ rfl⟩
end
theorem VOk.slice {w : World} {S : Nat → Prop} {k : Int} {y : Bool} {d : DecV} {t : ByteArray} {lv : Value} {l : List Val} (h : VOk w S (.mk k y d t lv l)) : ∃ A n c, lv = .slice A n c := by
  obtain ⟨A, n, c, e, _⟩ := h.row.1
  exact ⟨A, n, c, e⟩
theorem Sl.slice {w : World} {S : Nat → Prop} {v : Value} {size : Nat} {xs : List Value} (h : Sl w S v size xs) : ∃ A n c, v = .slice A n c := by
  obtain ⟨A, n, c, e, _⟩ := h
  exact ⟨A, n, c, e⟩

end Go.Proofs.YtnihfhfakadepaaGreatDoor
namespace Go.Proofs.YtnihfhfakadepaaGreatDoor
open Go.RowKit Go.ChangeShapes Go.WideShapes Go.Deep

theorem list_build {α : Type} {P : Nat → α → Prop} : ∀ (n : Nat), (∀ i, i < n → ∃ x, P i x) → ∃ l : List α, l.length = n ∧ ∀ i x, l[i]? = some x → P i x
  | 0, _ => ⟨[], rfl, fun i x h => by simp at h⟩
  | n + 1, h => by
    obtain ⟨l, hl, hp⟩ := list_build n fun i hi => h i (by omega)
    obtain ⟨x, hx⟩ := h n (by omega)
    refine ⟨l ++ [x], by simp [hl], fun i y hy => ?_⟩
    rw [List.getElem?_append] at hy
    split at hy
    · exact hp i y hy
    · have hi : i - l.length < 1 := by have := (List.getElem?_eq_some_iff.1 hy).1; simpa using this
      obtain rfl : i = n := by omega
      rw [show i - l.length = 0 by omega] at hy
      simp at hy
      rw [← hy]
      exact hx

theorem vrow_inv : ∀ (l : List Val) (j : Nat) (u : Value), (vrow l)[j]? = some u → ∃ k r x, j = k * 6 + r ∧ l[k]? = some x ∧ x.cells[r]? = some u
  | [], j, u, h => by simp [vrow] at h
  | y :: l, j, u, h => by
    rw [vrow, List.getElem?_append, Val.cells_length] at h
    split at h
    · exact ⟨0, j, y, by omega, rfl, h⟩
    · obtain ⟨k, r, x, e, h1, h2⟩ := vrow_inv l (j - 6) u h
      exact ⟨k + 1, r, x, by omega, by rw [List.getElem?_cons_succ]; exact h1, h2⟩
theorem trow_inv : ∀ (l : List Tst) (j : Nat) (u : Value), (trow l)[j]? = some u → ∃ k r x, j = k * 16 + r ∧ l[k]? = some x ∧ x.cells[r]? = some u
  | [], j, u, h => by simp [trow] at h
  | y :: l, j, u, h => by
    rw [trow, List.getElem?_append, Tst.cells_length] at h
    split at h
    · exact ⟨0, j, y, by omega, rfl, h⟩
    · obtain ⟨k, r, x, e, h1, h2⟩ := trow_inv l (j - 16) u h
      exact ⟨k + 1, r, x, by omega, by rw [List.getElem?_cons_succ]; exact h1, h2⟩

theorem VOkL.of_all {w : World} {S : Nat → Prop} : ∀ {l : List Val}, (∀ (k : Nat) x, l[k]? = some x → VOk w S x) → VOkL w S l
  | [], _ => by unfold VOkL; trivial
  | x :: l, h => by
    unfold VOkL
    exact ⟨h 0 x rfl, VOkL.of_all fun k y hy => h (k + 1) y (by rw [List.getElem?_cons_succ]; exact hy)⟩
theorem TOkL.of_all {w : World} : ∀ {l : List Tst}, (∀ (k : Nat) x, l[k]? = some x → TOk w x) → TOkL w l
  | [], _ => by unfold TOkL; trivial
  | x :: l, h => by
    unfold TOkL
    exact ⟨h 0 x rfl, TOkL.of_all fun k y hy => h (k + 1) y (by rw [List.getElem?_cons_succ]; exact hy)⟩

theorem addr_plain {w : World} {a : Addr} {u : Value} (h : w.cell? a = some u) : a = ⟨a.block, a.off, none⟩ := by
  obtain ⟨b, o, s⟩ := a
  have := World.cell?_spot h
  simpa using this

section
variable {H : Type} {enc : TypeId × Value → H} {w : World} {spare : Nat → Bool} {held : Bool}

set_option maxRecDepth 100000 in
theorem val_read (n : Nat) : ∀ (cs : List Value) (y : DataW H × List MemPlace), DataW.trod enc Tryz.prog w 0 spare held n 26 cs = some y → ∃ v : Val, cs = v.cells ∧ VOk w (fun _ => False) v := by
  induction n using Nat.strongRecOn with
  | _ n ih =>
    intro cs y h
    obtain ⟨xs, n1, rfl, _, hcl, hlen, hf⟩ := DataW.trod_struct Tryz.underlying26 h
    have hcl6 : cs.length = 6 := hcl.trans (by kernel_rfl)
    have hlen : xs.length = 5 := hlen
    match cs, hcl6 with
    | [c0, c1, c2, c3, c4, c5], _ =>
      have g0 : DataW.trod enc Tryz.prog w 0 spare held n1 3 (([c0, c1, c2, c3, c4, c5].drop 0).take (Tryz.prog.cellsOf 3)) = some _ := (hf 0 _ rfl).trans (List.getElem?_eq_getElem (by omega))
      have g1 : DataW.trod enc Tryz.prog w 0 spare held n1 4 (([c0, c1, c2, c3, c4, c5].drop 1).take (Tryz.prog.cellsOf 4)) = some _ := (hf 1 _ rfl).trans (List.getElem?_eq_getElem (by omega))
      have g2 : DataW.trod enc Tryz.prog w 0 spare held n1 23 (([c0, c1, c2, c3, c4, c5].drop 2).take (Tryz.prog.cellsOf 23)) = some _ := (hf 2 _ rfl).trans (List.getElem?_eq_getElem (by omega))
      have g3 : DataW.trod enc Tryz.prog w 0 spare held n1 9 (([c0, c1, c2, c3, c4, c5].drop 4).take (Tryz.prog.cellsOf 9)) = some _ := (hf 3 _ rfl).trans (List.getElem?_eq_getElem (by omega))
      have g4 : DataW.trod enc Tryz.prog w 0 spare held n1 24 (([c0, c1, c2, c3, c4, c5].drop 5).take (Tryz.prog.cellsOf 24)) = some _ := (hf 4 _ rfl).trans (List.getElem?_eq_getElem (by omega))
      simp only [show Tryz.prog.cellsOf 3 = 1 by kernel_rfl, show Tryz.prog.cellsOf 4 = 1 by kernel_rfl, show Tryz.prog.cellsOf 23 = 2 by kernel_rfl, show Tryz.prog.cellsOf 9 = 1 by kernel_rfl, show Tryz.prog.cellsOf 24 = 1 by kernel_rfl, List.drop_succ_cons, List.drop_zero, List.take_succ_cons, List.take_zero] at g0 g1 g2 g3 g4
      obtain ⟨k, e0, _, _⟩ := DataW.trod_int Tryz.underlying3 g0
      obtain ⟨b, e1, _⟩ := DataW.trod_bool Tryz.underlying4 g1
      obtain ⟨t, e3, _, _⟩ := DataW.trod_string Tryz.underlying9 g3
      obtain ⟨ys, n2, _, _, _, hyl, hd⟩ := DataW.trod_struct Tryz.underlying23 g2
      have hyl : ys.length = 2 := hyl
      have d0 : DataW.trod enc Tryz.prog w 0 spare held n2 2 (([c2, c3].drop 0).take (Tryz.prog.cellsOf 2)) = some _ := (hd 0 _ rfl).trans (List.getElem?_eq_getElem (by omega))
      have d1 : DataW.trod enc Tryz.prog w 0 spare held n2 3 (([c2, c3].drop 1).take (Tryz.prog.cellsOf 3)) = some _ := (hd 1 _ rfl).trans (List.getElem?_eq_getElem (by omega))
      simp only [show Tryz.prog.cellsOf 3 = 1 by kernel_rfl, show Tryz.prog.cellsOf 2 = 1 by kernel_rfl, List.drop_succ_cons, List.drop_zero, List.take_succ_cons, List.take_zero] at d0 d1
      obtain ⟨co, e20, _, _⟩ := DataW.trod_int Tryz.underlying2 d0
      obtain ⟨ex, e21, _, _⟩ := DataW.trod_int Tryz.underlying3 d1
      simp only [List.cons.injEq, and_true] at e0 e1 e3 e20 e21
      subst e0 e1 e3 e20 e21
      rcases DataW.trod_slice Tryz.underlying24 g4 with ⟨h0, _⟩ | ⟨a, len, cap, elems, rest, n3, rfl, h0, _, _, hl, hm, hel, hgt, _, _⟩
      · simp only [List.cons.injEq, and_true] at h0
        subst h0
        exact ⟨.mk k b ⟨co, ex⟩ t (.slice none 0 0) [], rfl, by unfold VOk VOkL; exact ⟨⟨none, 0, 0, rfl, rfl, Nat.le_refl _, by simp [maxLen], fun h => by simp [vrow] at h⟩, trivial⟩⟩
      · simp only [List.cons.injEq, and_true] at h0
        subst h0
        obtain ⟨l, hll, hlp⟩ := list_build (P := fun i (x : Val) => VOk w (fun _ => False) x ∧ ∀ r u, x.cells[r]? = some u → w.cell? ((a.add (i * 6)).add r) = some u) len fun i hi => by
          have hh := hgt i hi
          rw [show Tryz.prog.cellsOf 26 = 6 by kernel_rfl, List.getElem?_eq_getElem (by omega)] at hh
          obtain ⟨cs', hc, ht⟩ := Option.bind_eq_some_iff.1 hh
          obtain ⟨x, rfl, hx⟩ := ih n3 (by omega) cs' _ ht
          obtain ⟨_, _, hat⟩ := World.cells?_some hc
          exact ⟨x, hx, fun r u hr => (hat r (by have := (List.getElem?_eq_some_iff.1 hr).1; rw [Val.cells_length] at this; exact this)).trans hr⟩
        refine ⟨.mk k b ⟨co, ex⟩ t (.slice (some a) len cap) l, rfl, ?_⟩
        unfold VOk
        refine ⟨⟨some a, len, cap, rfl, by rw [vrow_length, hll], hl, hm, fun hp => ?_⟩, VOkL.of_all fun k x hx => (hlp k x hx).1⟩
        rw [vrow_length, hll] at hp
        have h0 : 0 < l.length := by omega
        have q := (hlp 0 l[0] (List.getElem?_eq_getElem h0)).2 0 (l[0].cells[0]'(by rw [Val.cells_length]; omega)) (List.getElem?_eq_getElem _)
        have hpl := addr_plain q
        obtain ⟨bb, off, s⟩ := a
        simp [Addr.add] at hpl
        subst hpl
        refine ⟨bb, off, rfl, fun h => h, fun j u hj => ?_⟩
        obtain ⟨k, r, x, rfl, h1, h2⟩ := vrow_inv l j u hj
        have := (hlp k x h1).2 r u h2
        rw [Addr.add_lit, Addr.add_lit, Nat.add_assoc] at this
        exact this

set_option maxRecDepth 100000 in
theorem tst_read (n : Nat) : ∀ (cs : List Value) (y : DataW H × List MemPlace), DataW.trod enc Tryz.prog w 0 spare held n 29 cs = some y → ∃ t : Tst, cs = t.cells ∧ TOk w t := by
  induction n using Nat.strongRecOn with
  | _ n ih =>
    intro cs y h
    obtain ⟨xs, n1, rfl, _, hcl, hlen, hf⟩ := DataW.trod_struct Tryz.underlying29 h
    have hcl6 : cs.length = 16 := hcl.trans (by kernel_rfl)
    have hlen : xs.length = 6 := hlen
    match cs, hcl6 with
    | [c0, c1, c2, c3, c4, c5, c6, c7, c8, c9, c10, c11, c12, c13, c14, c15], _ =>
      have g0 : DataW.trod enc Tryz.prog w 0 spare held n1 3 (([c0, c1, c2, c3, c4, c5, c6, c7, c8, c9, c10, c11, c12, c13, c14, c15].drop 0).take (Tryz.prog.cellsOf 3)) = some _ := (hf 0 _ rfl).trans (List.getElem?_eq_getElem (by omega))
      have g1 : DataW.trod enc Tryz.prog w 0 spare held n1 26 (([c0, c1, c2, c3, c4, c5, c6, c7, c8, c9, c10, c11, c12, c13, c14, c15].drop 1).take (Tryz.prog.cellsOf 26)) = some _ := (hf 1 _ rfl).trans (List.getElem?_eq_getElem (by omega))
      have g2 : DataW.trod enc Tryz.prog w 0 spare held n1 26 (([c0, c1, c2, c3, c4, c5, c6, c7, c8, c9, c10, c11, c12, c13, c14, c15].drop 7).take (Tryz.prog.cellsOf 26)) = some _ := (hf 2 _ rfl).trans (List.getElem?_eq_getElem (by omega))
      have g3 : DataW.trod enc Tryz.prog w 0 spare held n1 4 (([c0, c1, c2, c3, c4, c5, c6, c7, c8, c9, c10, c11, c12, c13, c14, c15].drop 13).take (Tryz.prog.cellsOf 4)) = some _ := (hf 3 _ rfl).trans (List.getElem?_eq_getElem (by omega))
      have g4 : DataW.trod enc Tryz.prog w 0 spare held n1 4 (([c0, c1, c2, c3, c4, c5, c6, c7, c8, c9, c10, c11, c12, c13, c14, c15].drop 14).take (Tryz.prog.cellsOf 4)) = some _ := (hf 4 _ rfl).trans (List.getElem?_eq_getElem (by omega))
      have g5 : DataW.trod enc Tryz.prog w 0 spare held n1 27 (([c0, c1, c2, c3, c4, c5, c6, c7, c8, c9, c10, c11, c12, c13, c14, c15].drop 15).take (Tryz.prog.cellsOf 27)) = some _ := (hf 5 _ rfl).trans (List.getElem?_eq_getElem (by omega))
      simp only [show Tryz.prog.cellsOf 3 = 1 by kernel_rfl, show Tryz.prog.cellsOf 4 = 1 by kernel_rfl, show Tryz.prog.cellsOf 26 = 6 by kernel_rfl, show Tryz.prog.cellsOf 27 = 1 by kernel_rfl, List.drop_succ_cons, List.drop_zero, List.take_succ_cons, List.take_zero] at g0 g1 g2 g3 g4 g5
      obtain ⟨k, e0, _, _⟩ := DataW.trod_int Tryz.underlying3 g0
      obtain ⟨va, ea, hva⟩ := val_read _ _ _ g1
      obtain ⟨vb, eb, hvb⟩ := val_read _ _ _ g2
      obtain ⟨oa, e3, _⟩ := DataW.trod_bool Tryz.underlying4 g3
      obtain ⟨ob, e4, _⟩ := DataW.trod_bool Tryz.underlying4 g4
      simp only [List.cons.injEq, and_true] at e0 e3 e4
      subst e0 e3 e4
      have hcells : ∀ kv l, Tst.cells (.mk k va vb oa ob kv l) = .int .i64 k :: (va.cells ++ (vb.cells ++ [.bool oa, .bool ob, kv])) := fun kv l => by cases va; cases vb; rfl
      rcases DataW.trod_slice Tryz.underlying27 g5 with ⟨h0, _⟩ | ⟨a, len, cap, elems, rest, n3, rfl, h0, _, _, hl, hm, hel, hgt, _, _⟩
      · simp only [List.cons.injEq, and_true] at h0
        subst h0
        refine ⟨.mk k va vb oa ob (.slice none 0 0) [], by rw [hcells, ← ea, ← eb]; rfl, ?_⟩
        unfold TOk TOkL
        exact ⟨hva, hvb, ⟨none, 0, 0, rfl, rfl, Nat.le_refl _, by simp [maxLen], fun h => by simp [trow] at h⟩, trivial⟩
      · simp only [List.cons.injEq, and_true] at h0
        subst h0
        obtain ⟨l, hll, hlp⟩ := list_build (P := fun i (x : Tst) => TOk w x ∧ ∀ r u, x.cells[r]? = some u → w.cell? ((a.add (i * 16)).add r) = some u) len fun i hi => by
          have hh := hgt i hi
          rw [show Tryz.prog.cellsOf 29 = 16 by kernel_rfl, List.getElem?_eq_getElem (by omega)] at hh
          obtain ⟨cs', hc, ht⟩ := Option.bind_eq_some_iff.1 hh
          obtain ⟨x, rfl, hx⟩ := ih n3 (by omega) cs' _ ht
          obtain ⟨_, _, hat⟩ := World.cells?_some hc
          exact ⟨x, hx, fun r u hr => (hat r (by have := (List.getElem?_eq_some_iff.1 hr).1; rw [Tst.cells_length] at this; exact this)).trans hr⟩
        refine ⟨.mk k va vb oa ob (.slice (some a) len cap) l, by rw [hcells, ← ea, ← eb]; rfl, ?_⟩
        unfold TOk
        refine ⟨hva, hvb, ⟨some a, len, cap, rfl, by rw [trow_length, hll], hl, hm, fun hp => ?_⟩, TOkL.of_all fun k x hx => (hlp k x hx).1⟩
        rw [trow_length, hll] at hp
        have h0 : 0 < l.length := by omega
        have q := (hlp 0 l[0] (List.getElem?_eq_getElem h0)).2 0 (l[0].cells[0]'(by rw [Tst.cells_length]; omega)) (List.getElem?_eq_getElem _)
        have hpl := addr_plain q
        obtain ⟨bb, off, s⟩ := a
        simp [Addr.add] at hpl
        subst hpl
        refine ⟨bb, off, rfl, fun h => h, fun j u hj => ?_⟩
        obtain ⟨k, r, x, rfl, h1, h2⟩ := trow_inv l j u hj
        have := (hlp k x h1).2 r u h2
        rw [Addr.add_lit, Addr.add_lit, Nat.add_assoc] at this
        exact this

set_option maxRecDepth 100000 in
/-- A value among the arguments. -/
theorem val_arg {r : Reach} {b0 : Nat} {v : Value} {d : DataW H} {p : List MemPlace} (hv : Value.okWide Tryz.prog w r b0 26 v) (h : DataW.Trod enc Tryz.prog w 0 spare held 26 v d p) : ∃ x : Val, v = .agg x.cells.toArray ∧ VOk w (fun _ => False) x := by
  obtain ⟨cs, rfl, _⟩ := okWide_struct Tryz.underlying26 hv
  obtain ⟨fuel, hf⟩ := h
  obtain ⟨x, hx, hok⟩ := val_read _ _ _ hf
  exact ⟨x, by rw [← hx]; rfl, hok⟩
set_option maxRecDepth 100000 in
/-- A test among the arguments. -/
theorem tst_arg {r : Reach} {b0 : Nat} {v : Value} {d : DataW H} {p : List MemPlace} (hv : Value.okWide Tryz.prog w r b0 29 v) (h : DataW.Trod enc Tryz.prog w 0 spare held 29 v d p) : ∃ x : Tst, v = .agg x.cells.toArray ∧ TOk w x := by
  obtain ⟨cs, rfl, _⟩ := okWide_struct Tryz.underlying29 hv
  obtain ⟨fuel, hf⟩ := h
  obtain ⟨x, hx, hok⟩ := tst_read _ _ _ hf
  exact ⟨x, by rw [← hx]; rfl, hok⟩
set_option maxRecDepth 100000 in
/-- A type among the arguments. -/
theorem typ_arg {r : Reach} {b0 : Nat} {v : Value} {d : DataW H} {p : List MemPlace} (hv : Value.okWide Tryz.prog w r b0 32 v) (h : DataW.Trod enc Tryz.prog w 0 spare held 32 v d p) : ∃ (k : Int) (A : Option Addr) (n c : Nat), v = .agg #[.int .i64 k, .slice A n c] := by
  obtain ⟨cs, rfl, hsz⟩ := okWide_struct Tryz.underlying32 hv
  obtain ⟨fuel, hf⟩ := h
  obtain ⟨l⟩ := cs
  obtain ⟨xs, n1, rfl, _, hcl, hlen, hf⟩ := DataW.trod_struct Tryz.underlying32 hf
  have hcl6 : l.length = 2 := hsz.trans (by kernel_rfl)
  have hlen : xs.length = 2 := hlen
  match l, hcl6 with
  | [c0, c1], _ =>
    have g0 : DataW.trod enc Tryz.prog w 0 spare held n1 3 (([c0, c1].drop 0).take (Tryz.prog.cellsOf 3)) = some _ := (hf 0 _ rfl).trans (List.getElem?_eq_getElem (by omega))
    have g1 : DataW.trod enc Tryz.prog w 0 spare held n1 30 (([c0, c1].drop 1).take (Tryz.prog.cellsOf 30)) = some _ := (hf 1 _ rfl).trans (List.getElem?_eq_getElem (by omega))
    simp only [show Tryz.prog.cellsOf 3 = 1 by kernel_rfl, show Tryz.prog.cellsOf 30 = 1 by kernel_rfl, List.drop_succ_cons, List.drop_zero, List.take_succ_cons, List.take_zero] at g0 g1
    obtain ⟨k, e0, _, _⟩ := DataW.trod_int Tryz.underlying3 g0
    simp only [List.cons.injEq, and_true] at e0
    subst e0
    rcases DataW.trod_slice Tryz.underlying30 g1 with ⟨h0, _⟩ | ⟨a, len, cap, elems, rest, n3, rfl, h0, _⟩
    · simp only [List.cons.injEq, and_true] at h0
      subst h0
      exact ⟨k, _, _, _, rfl⟩
    · simp only [List.cons.injEq, and_true] at h0
      subst h0
      exact ⟨k, _, _, _, rfl⟩
end

end Go.Proofs.YtnihfhfakadepaaGreatDoor
