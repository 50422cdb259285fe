/- What a sound node is, and what a call of the package hands back. -/
import Derived.Test.YtibjbpakbfodaaaWrong
import Derived.Test.YtibjbpakbfodaaaVoted
import Derived.Test.YtibjbpakbfodaaaAppB
namespace Go.Proofs.Ytibjbpakbfodaaa
open Go.RowKit

/-- No block is set apart. -/
abbrev Free : Nat → Prop := fun _ => False

structure Good (x : Nod) : Prop where
  n1 : 1 ≤ x.n
  n5 : x.n ≤ 5
  id1 : 1 ≤ x.id
  idn : x.id ≤ x.n
  vote0 : 0 ≤ x.vote
  voten : x.vote ≤ x.n
  boss0 : 0 ≤ x.boss
  bossn : x.boss ≤ x.n
  term0 : 0 ≤ x.term
  termn : x.term ≤ 1000000
  commit0 : 0 ≤ x.commit
  commitn : x.commit ≤ x.log.length
  role1 : 1 ≤ x.role
  role3 : x.role ≤ 3
  fresh : x.role ≠ 1 → x.term ≠ 0
  log60 : x.log.length ≤ 60
  rise : rising x.log x.term = true
  empty : 0 < x.log.length → x.term ≠ 0
  votes0 : 0 < x.votes.length → x.role = 2
  votes : votesOk x.n 0 x.votes = true
  nextl : (x.next.length : Int) = if x.role = 3 then x.n else 0
  mtchl : (x.mtch.length : Int) = if x.role = 3 then x.n else 0
  places : placesOk x.log.length x.next x.mtch = true

theorem good_of_wrong {x : Nod} (h : wrong x = 0) : Good x := by
  unfold wrong at h
  generalize hq : (if x.role = 3 then x.n else 0) = q at h
  split at h
  · omega
  rename_i a1
  split at h
  · omega
  rename_i a2
  split at h
  · omega
  rename_i a3
  split at h
  · omega
  rename_i a4
  split at h
  · omega
  rename_i a5
  split at h
  · omega
  rename_i a6
  split at h
  · omega
  rename_i a7
  split at h
  · omega
  rename_i a8
  split at h
  · omega
  rename_i a9
  simp only [not_or, Bool.not_eq_false] at a1 a2 a3 a5 a7 a8 a9
  obtain ⟨b1, b2, b3, b4, b5⟩ := a1
  simp only [peerB, Bool.and_eq_true, decide_eq_true_eq] at b3 b4 b5
  exact { n1 := by omega, n5 := by omega, id1 := b3.1, idn := b3.2, vote0 := b4.1, voten := b4.2, boss0 := b5.1, bossn := b5.2, term0 := by omega, termn := by omega, commit0 := by omega, commitn := by omega,
          role1 := by omega, role3 := by omega, fresh := fun h1 h2 => a3.2.2 ⟨h1, h2⟩, log60 := by omega, rise := a5.1, empty := fun h1 h2 => a5.2 ⟨h1, h2⟩,
          votes0 := fun h1 => Decidable.byContradiction fun h2 => a6 ⟨h1, h2⟩, votes := a7, nextl := by rw [hq]; exact Decidable.byContradiction fun h2 => a8.1 h2, mtchl := by rw [hq]; exact Decidable.byContradiction fun h2 => a8.2 h2, places := a9 }

theorem Good.votes_len {x : Nod} (h : Good x) : x.votes.length ≤ 5 := by
  obtain ⟨h1, h2⟩ := votesOk_rising _ _ h.votes
  have key : ∀ (l : List Int) (a : Int), l.Pairwise (· < ·) → (∀ v ∈ l, a < v ∧ v ≤ x.n) → (l.length : Int) ≤ max 0 (x.n - a) := by
    intro l
    induction l with
    | nil => intro a _ _; simp; omega
    | cons v t ih =>
      intro a hp hv
      rw [List.pairwise_cons] at hp
      have := ih v hp.2 fun u hu => ⟨hp.1 u hu, (hv u (List.mem_cons_of_mem _ hu)).2⟩
      have hv1 := hv v (List.mem_cons_self ..)
      simp only [List.length_cons]
      omega
  have := key x.votes 0 h1 fun v hv => ⟨(h2 v hv).1, (h2 v hv).2.2⟩
  have := h.n5
  have := h.n1
  omega
theorem Good.next_len {x : Nod} (h : Good x) : x.next.length ≤ 5 := by
  have h5 := h.n5; have h1 := h.n1; have hl := h.nextl
  split at hl <;> omega
theorem Good.mtch_len {x : Nod} (h : Good x) : x.mtch.length ≤ 5 := by
  have h5 := h.n5; have h1 := h.n1; have hl := h.mtchl
  split at hl <;> omega

theorem placesOk_at {len : Int} : ∀ (s t : List Int), placesOk len s t = true → s.length = t.length → ∀ j (hj : j < s.length) (hj' : j < t.length), 1 ≤ s[j] ∧ s[j] ≤ len + 1 ∧ 0 ≤ t[j] ∧ t[j] ≤ len
  | [], _, _, _, j, hj, _ => by simp at hj
  | _ :: _, [], _, hl, _, _, _ => by simp at hl
  | a :: s, b :: t, h, hl, j, hj, hj' => by
    simp only [placesOk, Bool.and_eq_true, decide_eq_true_eq] at h
    obtain ⟨⟨⟨⟨h1, h2⟩, h3⟩, h4⟩, h5⟩ := h
    cases j with
    | zero => exact ⟨h1, h2, h3, h4⟩
    | succ j => exact placesOk_at s t h5 (by simpa using hl) j (by simpa using hj) (by simpa using hj')

theorem Good.fit {x : Nod} (h : Good x) (hr : x.role = 3) : Fit x x.n.toNat ∧ ∀ j (hj : j < x.mtch.length), 0 ≤ x.mtch[j] ∧ x.mtch[j] ≤ x.log.length := by
  have h1 := h.nextl
  have h2 := h.mtchl
  rw [if_pos hr] at h1 h2
  have hn := h.n1
  have hn5 := h.n5
  have hp := placesOk_at x.next x.mtch h.places (by omega)
  exact ⟨{ n := by omega, n5 := by omega, id1 := h.id1, idn := by have := h.idn; omega, nl := by omega, ml := by omega, nq := fun j hj => ⟨(hp j hj (by omega)).1, (hp j hj (by omega)).2.1⟩, log := h.log60, commit := h.commit0 },
    fun j hj => ⟨(hp j (by omega) hj).2.2.1, (hp j (by omega) hj).2.2.2⟩⟩

/-- What a node at work has come to, as values that are handed back. -/
theorem Peer.node {w : World} {S : Nat → Prop} {p : Nat} {x : NodV} {ov : Value} {out : List MesV} (h : Peer w S p x ov out) : NodeOk w Free x :=
  ⟨Sl.of_own h.log fun _ _ h => h, Sl.of_own h.votes fun _ _ h => h, Sl.of_own h.next fun _ _ h => h, Sl.of_own h.mtch fun _ _ h => h⟩
theorem Peer.msgs {w : World} {S : Nat → Prop} {p : Nat} {x : NodV} {ov : Value} {out : List MesV} (h : Peer w S p x ov out) : MsgsOk w Free ov out :=
  ⟨Sl.of_own h.outs fun _ _ h => h, fun m hm => (h.items m hm).into (Keeps.refl S w) (fun _ _ h => h) fun _ _ h => h.elim⟩
theorem noMsgs (w : World) (S : Nat → Prop) : MsgsOk w S (.slice none 0 0) [] := ⟨⟨none, 0, 0, rfl, rfl, Nat.le_refl _, by simp [maxLen], fun h => by simp at h⟩, fun m hm => by simp at hm⟩

/-- Blocks that were not there are no change to what was. -/
theorem Keeps.fresh {w w' : World} {S : Nat → Prop} (h : Keeps S w w') (hs : ∀ k, S k → w.heap.size ≤ k) : Keeps Free w w' := h.mono fun k hk => .inr (hs k hk)

end Go.Proofs.Ytibjbpakbfodaaa
