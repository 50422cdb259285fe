/- The arguments of a law, read: a node, a message, and the lists in them. -/
import Derived.Test.YtibjbpakbfodaaaBase
import Derived.Deep.Slices
import Derived.Deep.Fields
import Derived.ChangeSame
import Derived.OpenShut
namespace Go.Proofs.Ytibjbpakbfodaaa
open Go.RowKit Go.ChangeShapes Go.WideShapes Go.Deep

section
variable {H : Type} {enc : TypeId × Value → H} {w : World} {spare : Nat → Bool} {held : Bool}

set_option maxRecDepth 100000 in
/-- A struct by value, each field of one cell: its cells, each read. -/
theorem agg_fields {r : Reach} {b0 : Nat} {t : TypeId} {fs : Array Field} {v : Value} {d : DataW H} {p : List MemPlace} (hs : Try.prog.underlying t = some (.struct fs)) (hone : oneCellFields Try.prog fs = true) (hC : Try.prog.cellsOf t = fs.size)
    (hv : Value.okWide Try.prog w r b0 t v) (h : DataW.Trod enc Try.prog w 0 spare held t v d p) :
    ∃ (cs : List Value) (n : Nat), v = .agg cs.toArray ∧ cs.length = fs.size ∧ ∀ (i : Nat) (f : Field), fs[i]? = some f → ∃ c y, cs[i]? = some c ∧ DataW.trod enc Try.prog w 0 spare held n f.type [c] = some y := by
  obtain ⟨cs, rfl, hsz⟩ := okWide_struct hs hv
  obtain ⟨l⟩ := cs
  have hl : l.length = fs.size := by simpa using hsz.trans hC
  obtain ⟨fuel, hf⟩ := h
  obtain ⟨xs, n, _, _, _, hlen, hg⟩ := DataW.trod_struct hs hf
  refine ⟨l, n, rfl, hl, fun i f hi => ?_⟩
  obtain ⟨o, k⟩ := hone_of hone i f hi
  have hi' : i < fs.size := (Array.getElem?_eq_some_iff.1 hi).1
  have h1 := hg i f hi
  rw [o, k] at h1
  have h2 : (l.drop i).take 1 = [l[i]'(by omega)] := by
    rw [List.drop_eq_getElem_cons (by omega)]
    rfl
  simp only [Value.cells] at h1
  rw [h2] at h1
  exact ⟨l[i]'(by omega), xs[i]'(by omega), List.getElem?_eq_getElem (by omega), h1.trans (List.getElem?_eq_getElem (by omega))⟩

theorem addr_plain {a : Addr} {u : Value} (h : w.cell? a = some u) : a = ⟨a.block, a.off, none⟩ := by
  obtain ⟨b, o, s⟩ := a
  have := World.cell?_spot h
  simpa using this

set_option maxRecDepth 100000 in
theorem ints_read {n : Nat} {c : Value} {y : DataW H × List MemPlace} (h : DataW.trod enc Try.prog w 0 spare held n 23 [c] = some y) : ∃ l : List Int, Sl w (fun _ => False) c 1 (intCells l) := by
  rcases open_ints Try.underlying23 Try.underlying3 (by kernel_rfl) h with ⟨h0, _⟩ | ⟨a, len, cap, zs, h0, _, hl, hm, hz, _, hc, _⟩
  · simp only [List.cons.injEq, and_true] at h0
    subst h0
    exact ⟨[], none, 0, 0, rfl, rfl, Nat.le_refl _, by simp [maxLen], fun h => by simp [intCells] at h⟩
  · simp only [List.cons.injEq, and_true] at h0
    subst h0
    have hzl : len ≤ zs.length := by rw [hz]; split <;> omega
    refine ⟨zs.take len, some a, len, cap, rfl, by rw [intCells_length, List.length_take]; omega, hl, hm, fun hp => ?_⟩
    have hp' : 0 < len := by rw [intCells_length, List.length_take] at hp; omega
    have hpl := addr_plain (hc 0 (by omega))
    simp only [Addr.add] at hpl
    obtain ⟨b, o, s⟩ := a
    simp at hpl
    subst hpl
    refine ⟨b, o, rfl, fun h => h, fun j u hj => ?_⟩
    simp only [intCells, List.getElem?_map, Option.map_eq_some_iff] at hj
    obtain ⟨z, hz', rfl⟩ := hj
    rw [List.getElem?_take] at hz'
    split at hz'
    · have := hc j (by omega)
      rw [add_plain] at this
      rw [this]
      simp [List.getD, hz']
    · cases hz'

theorem items_build {b o : Nat} : ∀ (n : Nat) , (∀ i, i < n → ∃ t c, w.cell? ⟨b, o + i * 2, none⟩ = some (.int .i64 t) ∧ w.cell? ⟨b, o + (i * 2 + 1), none⟩ = some (.int .i64 c)) →
    ∃ l : List Itm, l.length = n ∧ ∀ j u, (itemCells l)[j]? = some u → w.cell? ⟨b, o + j, none⟩ = some u
  | 0, _ => ⟨[], rfl, fun j u h => by simp [itemCells] at h⟩
  | n + 1, h => by
    obtain ⟨l, hl, hc⟩ := items_build n fun i hi => h i (by omega)
    obtain ⟨t, c, h1, h2⟩ := h n (by omega)
    refine ⟨l ++ [⟨t, c⟩], by simp [hl], fun j u hj => ?_⟩
    have hlen : (itemCells l).length = n * 2 := by rw [itemCells_length, hl]
    have e : itemCells (l ++ [⟨t, c⟩]) = itemCells l ++ [.int .i64 t, .int .i64 c] := by simp [itemCells]
    rw [e, List.getElem?_append] at hj
    split at hj
    · exact hc j u hj
    · rw [hlen] at hj
      have hj2 : j - n * 2 < 2 := (List.getElem?_eq_some_iff.1 hj).1
      rcases Nat.lt_or_ge (j - n * 2) 1 with hlt | hge
      · obtain rfl : j = n * 2 := by omega
        simp at hj
        rw [← hj]
        exact h1
      · obtain rfl : j = n * 2 + 1 := by omega
        simp at hj
        rw [← hj]
        exact h2

set_option maxRecDepth 100000 in
theorem items_read {n : Nat} {c : Value} {y : DataW H × List MemPlace} (h : DataW.trod enc Try.prog w 0 spare held n 22 [c] = some y) : ∃ l : List Itm, Sl w (fun _ => False) c 2 (itemCells l) := by
  rcases open_slice Try.underlying22 h with ⟨h0, _⟩ | ⟨a, len, cap, m, n, D, Pl, h0, _, hl, hm, hmm, _, hi⟩
  · simp only [List.cons.injEq, and_true] at h0
    subst h0
    exact ⟨[], none, 0, 0, rfl, rfl, Nat.le_refl _, by simp [maxLen], fun h => by simp [itemCells] at h⟩
  · simp only [List.cons.injEq, and_true] at h0
    subst h0
    have hml : len ≤ m := by rw [hmm]; split <;> omega
    have key : ∀ i, i < len → ∃ t c, w.cell? (a.add (i * 2)) = some (.int .i64 t) ∧ w.cell? ((a.add (i * 2)).add 1) = some (.int .i64 c) := fun i hlt => by
      obtain ⟨cs', hc, ht⟩ := hi i (by omega)
      rw [show Try.prog.cellsOf 44 = 2 by kernel_rfl] at hc
      obtain ⟨ys, n', _, _, _, hyl, hf⟩ := DataW.trod_struct Try.underlying44 ht
      obtain ⟨_, hcl, hat⟩ := World.cells?_some hc
      have hyl : ys.length = 2 := hyl
      match cs', hcl with
      | [u0, u1], _ =>
        have g0 := (hf 0 _ rfl).trans (List.getElem?_eq_getElem (by omega))
        have g1 := (hf 1 _ rfl).trans (List.getElem?_eq_getElem (by omega))
        have a0 := hat 0 (by omega)
        have a1 := hat 1 (by omega)
        obtain ⟨t, e0, _, _⟩ := DataW.trod_int Try.underlying3 g0
        obtain ⟨c, e1, _, _⟩ := DataW.trod_int Try.underlying3 g1
        simp [show Try.prog.cellsOf 3 = 1 by kernel_rfl] at e0 e1
        subst e0
        subst e1
        exact ⟨t, c, a0, a1⟩
    rcases Nat.eq_zero_or_pos len with h0 | h0
    · subst h0
      exact ⟨[], some a, 0, cap, rfl, rfl, hl, hm, fun h => by simp [itemCells] at h⟩
    · obtain ⟨t0, c0, k0, _⟩ := key 0 h0
      have hpl := addr_plain k0
      obtain ⟨b, o, s⟩ := a
      simp [Addr.add] at hpl
      subst hpl
      obtain ⟨l, hll, hc⟩ := items_build (w := w) (b := b) (o := o) len fun i hlt => by
        obtain ⟨t, c, h1, h2⟩ := key i hlt
        simp only [add_plain, Nat.add_assoc] at h1 h2
        exact ⟨t, c, h1, h2⟩
      exact ⟨l, some ⟨b, o, none⟩, len, cap, rfl, by rw [itemCells_length, hll], hl, hm, fun _ => ⟨b, o, rfl, fun h => h, hc⟩⟩

set_option maxRecDepth 100000 in
theorem node_read {r : Reach} {b0 : Nat} {v : Value} {d : DataW H} {p : List MemPlace} (hv : Value.okWide Try.prog w r b0 25 v) (h : DataW.Trod enc Try.prog w 0 spare held 25 v d p) :
    ∃ x : NodV, v = .agg (nodCells x).toArray ∧ NodeOk w (fun _ => False) x := by
  obtain ⟨cs, n, rfl, hlen, hf⟩ := agg_fields Try.underlying25 (by kernel_rfl) (by kernel_rfl) hv h
  have hlen : cs.length = 11 := hlen
  match cs, hlen with
  | [c0, c1, c2, c3, c4, c5, c6, c7, c8, c9, c10], _ =>
    obtain ⟨_, _, e0, t0⟩ := hf 0 _ rfl
    obtain ⟨_, _, e1, t1⟩ := hf 1 _ rfl
    obtain ⟨_, _, e2, t2⟩ := hf 2 _ rfl
    obtain ⟨_, _, e3, t3⟩ := hf 3 _ rfl
    obtain ⟨_, _, e4, t4⟩ := hf 4 _ rfl
    obtain ⟨_, _, e5, t5⟩ := hf 5 _ rfl
    obtain ⟨_, _, e6, t6⟩ := hf 6 _ rfl
    obtain ⟨_, _, e7, t7⟩ := hf 7 _ rfl
    obtain ⟨_, _, e8, t8⟩ := hf 8 _ rfl
    obtain ⟨_, _, e9, t9⟩ := hf 9 _ rfl
    obtain ⟨_, _, e10, t10⟩ := hf 10 _ rfl
    cases e0; cases e1; cases e2; cases e3; cases e4; cases e5; cases e6; cases e7; cases e8; cases e9; cases e10
    obtain ⟨n0, q0, _, _⟩ := DataW.trod_int Try.underlying3 t0
    obtain ⟨n1, q1, _, _⟩ := DataW.trod_int Try.underlying3 t1
    obtain ⟨n2, q2, _, _⟩ := DataW.trod_int Try.underlying3 t2
    obtain ⟨n3, q3, _, _⟩ := DataW.trod_int Try.underlying3 t3
    obtain ⟨l4, s4⟩ := items_read t4
    obtain ⟨n5, q5, _, _⟩ := DataW.trod_int Try.underlying3 t5
    obtain ⟨n6, q6, _, _⟩ := DataW.trod_int Try.underlying3 t6
    obtain ⟨n7, q7, _, _⟩ := DataW.trod_int Try.underlying3 t7
    obtain ⟨l8, s8⟩ := ints_read t8
    obtain ⟨l9, s9⟩ := ints_read t9
    obtain ⟨l10, s10⟩ := ints_read t10
    cases q0; cases q1; cases q2; cases q3; cases q5; cases q6; cases q7
    exact ⟨⟨⟨n0, n1, n2, n3, l4, n5, n6, n7, l8, l9, l10⟩, c4, c8, c9, c10⟩, rfl, ⟨s4, s8, s9, s10⟩⟩

set_option maxRecDepth 100000 in
theorem mes_read {r : Reach} {b0 : Nat} {v : Value} {d : DataW H} {p : List MemPlace} (hv : Value.okWide Try.prog w r b0 38 v) (h : DataW.Trod enc Try.prog w 0 spare held 38 v d p) :
    ∃ m : MesV, v = .agg (mesCells m).toArray ∧ MesOk w (fun _ => False) m := by
  obtain ⟨cs, n, rfl, hlen, hf⟩ := agg_fields Try.underlying38 (by kernel_rfl) (by kernel_rfl) hv h
  have hlen : cs.length = 9 := hlen
  match cs, hlen with
  | [c0, c1, c2, c3, c4, c5, c6, c7, c8], _ =>
    obtain ⟨_, _, e0, t0⟩ := hf 0 _ rfl
    obtain ⟨_, _, e1, t1⟩ := hf 1 _ rfl
    obtain ⟨_, _, e2, t2⟩ := hf 2 _ rfl
    obtain ⟨_, _, e3, t3⟩ := hf 3 _ rfl
    obtain ⟨_, _, e4, t4⟩ := hf 4 _ rfl
    obtain ⟨_, _, e5, t5⟩ := hf 5 _ rfl
    obtain ⟨_, _, e6, t6⟩ := hf 6 _ rfl
    obtain ⟨_, _, e7, t7⟩ := hf 7 _ rfl
    obtain ⟨_, _, e8, t8⟩ := hf 8 _ rfl
    cases e0; cases e1; cases e2; cases e3; cases e4; cases e5; cases e6; cases e7; cases e8
    obtain ⟨n0, q0, _, _⟩ := DataW.trod_int Try.underlying3 t0
    obtain ⟨n1, q1, _, _⟩ := DataW.trod_int Try.underlying3 t1
    obtain ⟨n2, q2, _, _⟩ := DataW.trod_int Try.underlying3 t2
    obtain ⟨n3, q3, _, _⟩ := DataW.trod_int Try.underlying3 t3
    obtain ⟨n4, q4, _, _⟩ := DataW.trod_int Try.underlying3 t4
    obtain ⟨n5, q5, _, _⟩ := DataW.trod_int Try.underlying3 t5
    obtain ⟨n6, q6, _, _⟩ := DataW.trod_int Try.underlying3 t6
    obtain ⟨l7, s7⟩ := items_read t7
    obtain ⟨b8, q8, _⟩ := DataW.trod_bool Try.underlying4 t8
    cases q0; cases q1; cases q2; cases q3; cases q4; cases q5; cases q6; cases q8
    exact ⟨⟨⟨n0, n1, n2, n3, n4, n5, n6, l7, b8⟩, c7⟩, rfl, s7⟩
end
end Go.Proofs.Ytibjbpakbfodaaa
