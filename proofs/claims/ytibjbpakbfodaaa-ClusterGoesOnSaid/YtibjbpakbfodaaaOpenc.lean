/- The events of a law, read. -/
import Derived.Test.YtibjbpakbfodaaaOpen
import Derived.Test.YtibjbpakbfodaaaThru
namespace Go.Proofs.Ytibjbpakbfodaaa
open Go.RowKit Go.ChangeShapes Go.WideShapes Go.Deep

section
variable {H : Type} {enc : TypeId × Value → H} {w : World} {spare : Nat → Bool} {held : Bool}

theorem evts_build {b o : Nat} : ∀ (n : Nat) , (∀ i, i < n → ∃ k d p, w.cell? ⟨b, o + i * 3, none⟩ = some (.int .i64 k) ∧ w.cell? ⟨b, o + (i * 3 + 1), none⟩ = some (.int .i64 d) ∧ w.cell? ⟨b, o + (i * 3 + 2), none⟩ = some (.int .i64 p)) →
    ∃ l : List Evt, l.length = n ∧ ∀ j u, (l.flatMap evtCells)[j]? = some u → w.cell? ⟨b, o + j, none⟩ = some u
  | 0, _ => ⟨[], rfl, fun j u h => by simp at h⟩
  | n + 1, h => by
    obtain ⟨l, hl, hc⟩ := evts_build n fun i hi => h i (by omega)
    obtain ⟨k, d, p, h1, h2, h3⟩ := h n (by omega)
    refine ⟨l ++ [⟨k, d, p⟩], by simp [hl], fun j u hj => ?_⟩
    have hlen : (l.flatMap evtCells).length = n * 3 := by rw [evts_len, hl]
    have e : (l ++ [(⟨k, d, p⟩ : Evt)]).flatMap evtCells = l.flatMap evtCells ++ [.int .i64 k, .int .i64 d, .int .i64 p] := by simp [evtCells]
    rw [e, List.getElem?_append] at hj
    split at hj
    · exact hc j u hj
    · rw [hlen] at hj
      have hj2 : j - n * 3 < 3 := (List.getElem?_eq_some_iff.1 hj).1
      rcases Nat.lt_or_ge (j - n * 3) 1 with hlt | hge
      · obtain rfl : j = n * 3 := by omega
        simp at hj
        rw [← hj]
        exact h1
      rcases Nat.lt_or_ge (j - n * 3) 2 with hlt | hge
      · obtain rfl : j = n * 3 + 1 := by omega
        simp at hj
        rw [← hj]
        exact h2
      · obtain rfl : j = n * 3 + 2 := by omega
        simp at hj
        rw [← hj]
        exact h3

set_option maxRecDepth 100000 in
theorem evts_read' {n : Nat} {c : Value} {y : DataW H × List MemPlace} (h : DataW.trod enc Try.prog w 0 spare held n 51 [c] = some y) : ∃ l : List Evt, Sl w (fun _ => False) c 3 (l.flatMap evtCells) := by
  rcases open_slice Try.underlying51 h with ⟨h0, _⟩ | ⟨a, len, cap, m, n, D, Pl, h0, _, hl, hm, hmm, _, hi⟩
  · simp only [List.cons.injEq, and_true] at h0
    subst h0
    exact ⟨[], none, 0, 0, rfl, rfl, Nat.le_refl _, by simp [maxLen], fun h => by simp at h⟩
  · simp only [List.cons.injEq, and_true] at h0
    subst h0
    have hml : len ≤ m := by rw [hmm]; split <;> omega
    have key : ∀ i, i < len → ∃ k d p, w.cell? (a.add (i * 3)) = some (.int .i64 k) ∧ w.cell? ((a.add (i * 3)).add 1) = some (.int .i64 d) ∧ w.cell? ((a.add (i * 3)).add 2) = some (.int .i64 p) := fun i hlt => by
      obtain ⟨cs', hc, ht⟩ := hi i (by omega)
      rw [show Try.prog.cellsOf 63 = 3 by kernel_rfl] at hc
      obtain ⟨ys, n', _, _, _, hyl, hf⟩ := DataW.trod_struct Try.underlying63 ht
      obtain ⟨_, hcl, hat⟩ := World.cells?_some hc
      have hyl : ys.length = 3 := hyl
      match cs', hcl with
      | [u0, u1, u2], _ =>
        have g0 := (hf 0 _ rfl).trans (List.getElem?_eq_getElem (by omega))
        have g1 := (hf 1 _ rfl).trans (List.getElem?_eq_getElem (by omega))
        have g2 := (hf 2 _ rfl).trans (List.getElem?_eq_getElem (by omega))
        have a0 := hat 0 (by omega)
        have a1 := hat 1 (by omega)
        have a2 := hat 2 (by omega)
        obtain ⟨k, e0, _, _⟩ := DataW.trod_int Try.underlying3 g0
        obtain ⟨d, e1, _, _⟩ := DataW.trod_int Try.underlying3 g1
        obtain ⟨p, e2, _, _⟩ := DataW.trod_int Try.underlying3 g2
        simp [show Try.prog.cellsOf 3 = 1 by kernel_rfl] at e0 e1 e2
        subst e0
        subst e1
        subst e2
        exact ⟨k, d, p, a0, a1, a2⟩
    rcases Nat.eq_zero_or_pos len with h0 | h0
    · subst h0
      exact ⟨[], some a, 0, cap, rfl, rfl, hl, hm, fun h => by simp at h⟩
    · obtain ⟨t0, c0, q0, k0, _⟩ := key 0 h0
      have hpl := addr_plain k0
      obtain ⟨b, o, s⟩ := a
      simp [Addr.add] at hpl
      subst hpl
      obtain ⟨l, hll, hc⟩ := evts_build (w := w) (b := b) (o := o) len fun i hlt => by
        obtain ⟨k, d, p, h1, h2, h3⟩ := key i hlt
        simp only [add_plain, Nat.add_assoc] at h1 h2 h3
        exact ⟨k, d, p, h1, h2, h3⟩
      exact ⟨l, some ⟨b, o, none⟩, len, cap, rfl, by rw [evts_len, hll], hl, hm, fun _ => ⟨b, o, rfl, fun h => h, hc⟩⟩

set_option maxRecDepth 100000 in
theorem evts_read {r : Reach} {b0 : Nat} {v : Value} {d : DataW H} {p : List MemPlace} (hv : Value.okWide Try.prog w r b0 51 v) (h : DataW.Trod enc Try.prog w 0 spare held 51 v d p) : ∃ l : List Evt, Sl w (fun _ => False) v 3 (l.flatMap evtCells) := by
  obtain ⟨a, len, cap, rfl⟩ := okWide_slice Try.underlying51 hv
  obtain ⟨fuel, hf⟩ := h
  exact evts_read' hf
end
end Go.Proofs.Ytibjbpakbfodaaa
