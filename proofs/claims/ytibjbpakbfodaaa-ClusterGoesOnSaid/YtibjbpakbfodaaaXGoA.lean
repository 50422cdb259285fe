/- ClusterGoesOn: the plain law joined: the best node, the highest term, and what comes of them. No program is in sight. -/
import Derived.Test.YtibjbpakbfodaaaXLive
import Derived.Test.YtibjbpakbfodaaaRunw
namespace Go.Proofs.Ytibjbpakbfodaaa

/-- The best log, and the highest term, of the first k nodes. -/
def bestOf (l : List Nod) : Nat → Nat × Int
  | 0 => (0, 0)
  | k + 1 =>
    let p := bestOf l k
    let x := l.getD k (start 0 0)
    let y := l.getD p.1 (start 0 0)
    (if lastT y.log < lastT x.log ∨ (lastT x.log = lastT y.log ∧ y.log.length < x.log.length) then k else p.1, if p.2 < x.term then x.term else p.2)

theorem newer_trans {a b c : List Itm} (h : newer a b) (h' : newer b c) : newer a c := by
  rcases h with h | ⟨h1, h2⟩ <;> rcases h' with h' | ⟨h3, h4⟩
  · exact .inl (by omega)
  · exact .inl (by omega)
  · exact .inl (by omega)
  · exact .inr ⟨by omega, by omega⟩

theorem bestOf_spec (l : List Nod) (h0 : ∀ x ∈ l, 0 ≤ x.term) : ∀ k, k ≤ l.length → (0 < l.length → (bestOf l k).1 < l.length) ∧ (∀ j, j < k → newer (l.getD (bestOf l k).1 (start 0 0)).log (l.getD j (start 0 0)).log ∧ (l.getD j (start 0 0)).term ≤ (bestOf l k).2) ∧ 0 ≤ (bestOf l k).2 ∧ (0 < k → ∃ j, j < k ∧ (l.getD j (start 0 0)).term = (bestOf l k).2)
  | 0, _ => ⟨fun h => h, fun j hj => by omega, Int.le_refl _, fun h => by omega⟩
  | k + 1, hk => by
    obtain ⟨h1, h2, h3, h4⟩ := bestOf_spec l h0 k (by omega)
    have hx0 : 0 ≤ (l.getD k (start 0 0)).term := by
      rw [List.getD_eq_getElem?_getD, List.getElem?_eq_getElem (show k < l.length by omega)]
      exact h0 _ (List.getElem_mem _)
    unfold bestOf
    simp only
    obtain ⟨p, hp⟩ : ∃ p, bestOf l k = p := ⟨_, rfl⟩
    rw [hp] at h1 h2 h3 h4 ⊢
    generalize hxe : l.getD k (start 0 0) = x at hx0 ⊢
    generalize hye : l.getD p.1 (start 0 0) = y at h2 ⊢
    have hk0 : k = 0 → p.1 = 0 ∧ p.2 = 0 := fun e => by subst e; rw [← hp]; exact ⟨rfl, rfl⟩
    refine ⟨fun h => ?_, fun j hj => ⟨?_, ?_⟩, ?_, fun _ => ?_⟩
    · split
      · omega
      · exact h1 h
    · rcases Nat.lt_or_ge j k with hlt | hge
      · have hj2 := (h2 j hlt).1
        split
        · rename_i hc
          rw [hxe]
          refine newer_trans ?_ hj2
          rcases hc with hc | ⟨hc1, hc2⟩
          · exact .inl hc
          · exact .inr ⟨hc1, by omega⟩
        · rw [hye]; exact hj2
      · obtain rfl : j = k := by omega
        rw [hxe]
        split
        · rw [hxe]; exact newer_refl _
        · rename_i hc
          rw [hye]
          rcases Int.lt_trichotomy (lastT y.log) (lastT x.log) with h | h | h
          · exact absurd (.inl h) hc
          · exact .inr ⟨h, by
              rcases Nat.lt_or_ge y.log.length x.log.length with h5 | h5
              · exact absurd (.inr ⟨h.symm, h5⟩) hc
              · exact h5⟩
          · exact .inl h
    · rcases Nat.lt_or_ge j k with hlt | hge
      · have := (h2 j hlt).2
        split <;> omega
      · obtain rfl : j = k := by omega
        rw [hxe]
        split <;> omega
    · split <;> omega
    · split
      · exact ⟨k, by omega, by rw [hxe]⟩
      · rename_i hc
        rcases Nat.eq_zero_or_pos k with h | h
        · have := hk0 h
          subst h
          exact ⟨0, by omega, by rw [hxe]; omega⟩
        · obtain ⟨j, hj, hjt⟩ := h4 h
          exact ⟨j, by omega, hjt⟩

theorem ran_inv {n : Int} (h : ¬ (n < 1 ∨ 5 < n)) (l : List Evt) : ∃ G, WInv n G (ran n l) := by
  have key : ∀ (l : List Evt) (w : Wld), Sound n w → (∃ G, WInv n G w) → ∃ G, WInv n G (l.foldl cstep w) := by
    intro l
    induction l with
    | nil => exact fun w _ h => h
    | cons e t ih =>
      intro w hs hi
      refine ih _ (cstep_sound hs e) ?_
      obtain ⟨G, hG⟩ := hi
      obtain ⟨G', h', _⟩ := cstep_inv hs hG e
      exact ⟨G', h'⟩
  exact key l _ (firstWld_sound (by omega) (by omega)) ⟨noGh, firstWld_inv n⟩

theorem ran_upto (n : Int) (l : List Evt) : Upto l.length (ran n l) := by
  have key : ∀ (l : List Evt) (w : Wld) (k : Int), Upto k w → Upto (k + l.length) (l.foldl cstep w) := by
    intro l
    induction l with
    | nil => exact fun w k h => by simpa using h
    | cons e t ih =>
      intro w k h
      have := ih _ _ (h.step e)
      rw [List.foldl_cons, List.length_cons]
      rw [show k + ((t.length + 1 : Nat) : Int) = k + 1 + (t.length : Int) by omega]
      exact this
  have := key l (firstWld n) 0 ⟨fun x hx => by
    simp only [firstWld, List.mem_map] at hx
    obtain ⟨i, _, rfl⟩ := hx
    exact Int.le_refl _, fun m hm => by simp [firstWld] at hm⟩
  simpa [ran] using this

/-- Of the world that events have made: it goes on. -/
theorem ran_goes {n : Int} (h : ¬ (n < 1 ∨ 5 < n)) (l : List Evt) (hl : l.length ≤ 300) (cmd : Int) {b : Nat} {high : Int} (hb : bestOf (ran n l).nodes (ran n l).nodes.length = (b, high)) (hroom : ((ran n l).nd ((b : Int) + 1)).log.length + 2 ≤ 60) :
    Went n ((b : Int) + 1) cmd (calmN 3000 (cstep (calmN 3000 (nowOf ((b : Int) + 1) (tryN high ((b : Int) + 1) (l.length + 2) (cstep ⟨(ran n l).nodes, []⟩ ⟨7, (b : Int) + 1, 0⟩)))) ⟨3, (b : Int) + 1, cmd⟩)) := by
  have hs := ran_sound h l
  have hlen := hs.len
  obtain ⟨s1, s2, s3, s4⟩ := bestOf_spec (ran n l).nodes (fun x hx => by obtain ⟨i, hi, rfl⟩ := List.mem_iff_getElem.1 hx; exact (hs.good i hi).term0) _ (Nat.le_refl _)
  rw [hb] at s1 s2 s3 s4
  simp only at s1 s2 s3 s4
  have hpos : 0 < (ran n l).nodes.length := by omega
  have hbl := s1 hpos
  have hnd : ∀ j : Nat, (ran n l).nd ((j : Int) + 1) = (ran n l).nodes.getD j (start 0 0) := fun j => by
    unfold Wld.nd
    rw [show ((j : Int) + 1 - 1).toNat = j by omega, List.getD_eq_getElem?_getD]
  have hk : ∀ k : Int, 1 ≤ k → k ≤ n → ∃ j : Nat, j < (ran n l).nodes.length ∧ k = (j : Int) + 1 := fun k h1 hn => ⟨(k - 1).toNat, by omega, by omega⟩
  have hup := ran_upto n l
  obtain ⟨j0, hj0, hjt⟩ := s4 hpos
  have hhl : high ≤ l.length := by
    rw [← hjt, List.getD_eq_getElem?_getD, List.getElem?_eq_getElem hj0]
    exact hup.1 _ (List.getElem_mem hj0)
  refine goes_on hs (ran_inv h l) (by omega) (by omega) (fun k h1 hn => ?_) hroom (fun k h1 hn => ?_) ⟨(j0 : Int) + 1, by omega, by omega, by rw [hnd]; exact hjt⟩ (by omega) (by omega)
  · obtain ⟨j, hj, rfl⟩ := hk k h1 hn
    rw [hnd, hnd]
    exact (s2 j hj).1
  · obtain ⟨j, hj, rfl⟩ := hk k h1 hn
    rw [hnd]
    exact (s2 j hj).2

end Go.Proofs.Ytibjbpakbfodaaa
