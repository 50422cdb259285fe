/- The safety of the cluster, plainly: majorities, logs, what has been (ghosts), leader completeness. No program is in sight. The safety of the cluster, plainly: what each step of a node keeps (votes, elections, a leader that adds). No program is in sight. The safety of the cluster, plainly: a follower takes what its leader sends; a leader counts; every call of the package. No program is in sight. The safety of the cluster, plainly: every event keeps the invariant, and what is seen of a world. No program is in sight. Messages that come, the oldest first, up to so many: plainly. No program is in sight. When all is calm the cluster goes on, plainly, first part: what a leader and those that follow it are as long as messages come; each delivery brings them nearer to the end. No program is in sight. When all is calm the cluster goes on, plainly, second part: each delivery to a leader, or to one that follows. No program is in sight. When all is calm the cluster goes on, plainly, third part: a leader that hears; all messages of a leader's cluster come to an end, and then each has all. No program is in sight. When all is calm the cluster goes on, plainly, fourth part: how a leader comes to be out of votes. No program is in sight. When all is calm the cluster goes on, plainly, last part: of any world that has been reached, the one with the best log restarts, hears of nobody until its term is the highest, leads, and what it is asked to put becomes sure and comes to all. No program is in sight. -/
import Derived.Test.YtibjbpakbfodaaaPureC
namespace Go.Proofs.Ytibjbpakbfodaaa

/- ## Majorities -/

theorem nodup_len : ∀ (n : Nat) (l : List Int), l.Nodup → (∀ v ∈ l, 1 ≤ v ∧ v ≤ n) → l.length ≤ n
  | 0, l, _, h => by
    cases l with
    | nil => simp
    | cons a t => have := h a (List.mem_cons_self ..); omega
  | n + 1, l, hd, h => by
    by_cases hm : ((n : Int) + 1) ∈ l
    · have h1 := List.length_erase_of_mem hm
      have h2 := nodup_len n (l.erase ((n : Int) + 1)) (hd.erase _) fun v hv => by
        have h3 := h v (List.mem_of_mem_erase hv)
        have h4 := (hd.mem_erase_iff.1 hv).1
        omega
      have := List.length_pos_of_mem hm
      omega
    · have h2 := nodup_len n l hd fun v hv => by
        have h3 := h v hv
        have h4 : v ≠ (n : Int) + 1 := fun e => hm (e ▸ hv)
        omega
      omega

/-- More than half of n nodes are so. -/
def Maj (n : Int) (p : Int → Prop) : Prop := ∃ Q : List Int, Q.Nodup ∧ (∀ v ∈ Q, 1 ≤ v ∧ v ≤ n ∧ p v) ∧ n < 2 * (Q.length : Int)

theorem Maj.mono {n : Int} {p q : Int → Prop} (h : Maj n p) (hpq : ∀ v, p v → q v) : Maj n q := by
  obtain ⟨Q, h1, h2, h3⟩ := h
  exact ⟨Q, h1, fun v hv => ⟨(h2 v hv).1, (h2 v hv).2.1, hpq v (h2 v hv).2.2⟩, h3⟩

theorem Maj.meet {n : Int} {p q : Int → Prop} (hn : 0 ≤ n) (h : Maj n p) (h' : Maj n q) : ∃ v, 1 ≤ v ∧ v ≤ n ∧ p v ∧ q v := by
  obtain ⟨Q, h1, h2, h3⟩ := h
  obtain ⟨R, k1, k2, k3⟩ := h'
  refine Classical.byContradiction fun hc => ?_
  have hd : ∀ v ∈ Q, v ∉ R := fun v hv hr => hc ⟨v, (h2 v hv).1, (h2 v hv).2.1, (h2 v hv).2.2, (k2 v hr).2.2⟩
  have hnd : (Q ++ R).Nodup := by
    rw [List.nodup_append]
    exact ⟨h1, k1, fun a ha b hb e => hd a ha (e ▸ hb)⟩
  have := nodup_len n.toNat (Q ++ R) hnd fun v hv => by
    rcases List.mem_append.1 hv with hv | hv
    · have := h2 v hv; omega
    · have := k2 v hv; omega
  rw [List.length_append] at this
  omega

/- ## Logs -/

def lastT (l : List Itm) : Int := termAt l l.length

/-- A log is at least as new as another one. -/
def newer (a b : List Itm) : Prop := lastT b < lastT a ∨ (lastT a = lastT b ∧ b.length ≤ a.length)
theorem newer_refl (a : List Itm) : newer a a := .inr ⟨rfl, Nat.le_refl _⟩

/-- Terms rise, from 1 on, up to T. -/
def Rise (l : List Itm) (T : Int) : Prop := l.Pairwise (fun x y => x.term ≤ y.term) ∧ ∀ x ∈ l, 1 ≤ x.term ∧ x.term ≤ T

theorem Rise.mono {l : List Itm} {T T' : Int} (h : Rise l T) (hT : T ≤ T') : Rise l T' := ⟨h.1, fun x hx => ⟨(h.2 x hx).1, Int.le_trans (h.2 x hx).2 hT⟩⟩
theorem Rise.take {l : List Itm} {T : Int} (h : Rise l T) (k : Nat) : Rise (l.take k) T := ⟨h.1.sublist (List.take_sublist _ _), fun x hx => h.2 x (List.mem_of_mem_take hx)⟩
theorem Rise.snoc {l : List Itm} {T c : Int} (h : Rise l T) (hT : 1 ≤ T) : Rise (l ++ [⟨T, c⟩]) T := by
  refine ⟨?_, ?_⟩
  · rw [List.pairwise_append]
    exact ⟨h.1, by simp, fun a ha b hb => by simp at hb; subst hb; exact (h.2 a ha).2⟩
  · intro y hy
    rcases List.mem_append.1 hy with hy | hy
    · exact h.2 y hy
    · simp at hy; subst hy; exact ⟨hT, Int.le_refl _⟩

theorem termAt_zero (l : List Itm) : termAt l 0 = 0 := rfl
theorem termAt_nil (i : Int) : termAt [] i = 0 := by unfold termAt; split <;> simp
theorem termAt_take {l L : List Itm} {k : Nat} (h : l.take k = L.take k) {m : Nat} (hm : m ≤ k) : termAt l m = termAt L m := by
  unfold termAt
  split
  · rfl
  · have e : ∀ a : List Itm, a[((m : Int) - 1).toNat]? = (a.take k)[((m : Int) - 1).toNat]? := fun a => by rw [List.getElem?_take_of_lt (by omega)]
    rw [e l, e L, h]

theorem Rise.termAt_mono {l : List Itm} {T : Int} (h : Rise l T) {a b : Nat} (hab : a ≤ b) (hb : b ≤ l.length) : termAt l a ≤ termAt l b := by
  rcases Nat.eq_zero_or_pos a with h0 | h0
  · subst h0
    rw [show ((0 : Nat) : Int) = 0 from rfl, termAt_zero]
    rcases Nat.eq_zero_or_pos b with h1 | h1
    · subst h1; exact Int.le_refl _
    · rw [termAt_nat l h1 hb]
      have := (h.2 _ (List.getElem_mem (show b - 1 < l.length by omega))).1
      omega
  · rw [termAt_nat l h0 (by omega), termAt_nat l (by omega) hb]
    rcases Nat.lt_or_ge (a - 1) (b - 1) with hlt | hge
    · exact List.pairwise_iff_getElem.1 h.1 (a - 1) (b - 1) (by omega) (by omega) hlt
    · have : a = b := by omega
      subst this
      exact Int.le_refl _
theorem Rise.termAt_le {l : List Itm} {T : Int} (h : Rise l T) (hT : 0 ≤ T) {a : Nat} (ha : a ≤ l.length) : termAt l a ≤ T := by
  rcases Nat.eq_zero_or_pos a with h0 | h0
  · subst h0; exact hT
  · rw [termAt_nat l h0 ha]
    exact (h.2 _ (List.getElem_mem _)).2

/-- The first k items of a log are those of another one. -/
def Has (l L : List Itm) (k : Nat) : Prop := k ≤ l.length ∧ l.take k = L.take k

theorem take_le {l L : List Itm} {k m : Nat} (h : l.take k = L.take k) (hm : m ≤ k) : l.take m = L.take m := by
  have := congrArg (List.take m) h
  rwa [List.take_take, List.take_take, Nat.min_eq_left hm] at this

/- ## What has been: ghosts -/

structure Gh where
  ld : Int → Option (Int × List Itm)
  hist : Int → Int → List Itm
  vot : Int → Int → Int
  ack : Int → Int → Nat

/-- Each item stands where the leader of its term has it, with all that is before it. -/
def Chain (G : Gh) (l : List Itm) : Prop := ∀ k (h : k < l.length), ∃ i L, G.ld (l[k]).term = some (i, L) ∧ k < L.length ∧ L.take (k + 1) = l.take (k + 1)

/-- Later: leaders' logs have grown; votes, answers and what was before a vote have stayed. -/
structure Later (G G' : Gh) : Prop where
  ld : ∀ t i L, G.ld t = some (i, L) → ∃ D, G'.ld t = some (i, L ++ D) ∧ ∀ x ∈ D, x.term = t
  vot : ∀ v t, G.vot v t ≠ 0 → G'.vot v t = G.vot v t
  ack : ∀ v t, G.ack v t ≤ G'.ack v t
  hist : ∀ v t t', t < t' → G.vot v t' ≠ 0 → G'.hist v t = G.hist v t

theorem Later.refl (G : Gh) : Later G G := ⟨fun t i L h => ⟨[], by rw [List.append_nil]; exact h, fun x hx => by simp at hx⟩, fun _ _ _ => rfl, fun _ _ => Nat.le_refl _, fun _ _ _ _ _ => rfl⟩
theorem Later.trans {G G1 G2 : Gh} (h : Later G G1) (h' : Later G1 G2) : Later G G2 := by
  refine ⟨fun t i L hl => ?_, fun v t hv => ?_, fun v t => Nat.le_trans (h.ack v t) (h'.ack v t), fun v t t' ht hv => ?_⟩
  · obtain ⟨D, h1, h2⟩ := h.ld t i L hl
    obtain ⟨D', h3, h4⟩ := h'.ld t i _ h1
    refine ⟨D ++ D', by rw [← List.append_assoc]; exact h3, fun x hx => ?_⟩
    rcases List.mem_append.1 hx with hx | hx
    · exact h2 x hx
    · exact h4 x hx
  · rw [h'.vot v t (by rw [h.vot v t hv]; exact hv), h.vot v t hv]
  · rw [h'.hist v t t' ht (by rw [h.vot v t' hv]; exact hv), h.hist v t t' ht hv]

theorem Later.none {G G' : Gh} (h : Later G G') {t : Int} (ht : G'.ld t = none) : G.ld t = none := by
  cases hl : G.ld t with
  | none => rfl
  | some p =>
    obtain ⟨i, L⟩ := p
    obtain ⟨D, h1, _⟩ := h.ld t i L hl
    rw [h1] at ht; cases ht

theorem Chain.later {G G' : Gh} (h : Later G G') {l : List Itm} (hc : Chain G l) : Chain G' l := by
  intro k hk
  obtain ⟨i, L, h1, h2, h3⟩ := hc k hk
  obtain ⟨D, h4, _⟩ := h.ld _ _ _ h1
  exact ⟨i, L ++ D, h4, by rw [List.length_append]; omega, by rw [List.take_append_of_le_length (by omega)]; exact h3⟩

theorem Chain.take {G : Gh} {l : List Itm} (hc : Chain G l) (m : Nat) : Chain G (l.take m) := by
  intro k hk
  rw [List.length_take] at hk
  obtain ⟨i, L, h1, h2, h3⟩ := hc k (by omega)
  refine ⟨i, L, by rw [List.getElem_take]; exact h1, h2, ?_⟩
  rw [List.take_take, Nat.min_eq_left (by omega)]
  exact h3

/-- Two logs with items of the same term at the same place are the same up to there. -/
theorem Chain.same {G : Gh} {a b : List Itm} (ha : Chain G a) (hb : Chain G b) {k : Nat} (hka : k < a.length) (hkb : k < b.length) (he : (a[k]).term = (b[k]).term) : a.take (k + 1) = b.take (k + 1) := by
  obtain ⟨i, L, h1, _, h3⟩ := ha k hka
  obtain ⟨j, M, k1, _, k3⟩ := hb k hkb
  rw [he, k1] at h1
  injection h1 with h1
  injection h1 with _ h1
  subst h1
  rw [← h3, k3]

/-- Item k of the leader of term t, of this term, is held by most, who said so in it. -/
def Sealed (n : Int) (G : Gh) (t : Int) (k : Nat) : Prop := ∃ i L, G.ld t = some (i, L) ∧ 1 ≤ k ∧ k ≤ L.length ∧ termAt L k = t ∧ Maj n fun v => k ≤ G.ack v t

theorem Sealed.later {n : Int} {G G' : Gh} (h : Later G G') {t : Int} {k : Nat} (hs : Sealed n G t k) : Sealed n G' t k := by
  obtain ⟨i, L, h1, h2, h3, h4, h5⟩ := hs
  obtain ⟨D, h6, _⟩ := h.ld _ _ _ h1
  refine ⟨i, L ++ D, h6, h2, by rw [List.length_append]; omega, ?_, h5.mono fun v hv => Nat.le_trans hv (h.ack v t)⟩
  rw [← h4]
  exact termAt_take (k := k) (by rw [List.take_append_of_le_length h3]) (Nat.le_refl k)

/-- The first c items of a log are sure. -/
def Sured (n : Int) (G : Gh) (T : Int) (l : List Itm) (c : Int) : Prop :=
  c ≤ l.length ∧ (c ≤ 0 ∨ ∃ t k i L, t ≤ T ∧ Sealed n G t k ∧ G.ld t = some (i, L) ∧ c ≤ (k : Int) ∧ l.take c.toNat = L.take c.toNat)

theorem Sealed.len {n : Int} {G : Gh} {t : Int} {k : Nat} (hs : Sealed n G t k) {i : Int} {L : List Itm} (hl : G.ld t = some (i, L)) : 1 ≤ k ∧ k ≤ L.length ∧ termAt L k = t ∧ Maj n fun v => k ≤ G.ack v t := by
  obtain ⟨i', L', h1, h2, h3, h4, h5⟩ := hs
  rw [hl] at h1
  injection h1 with h1
  injection h1 with _ h1
  subst h1
  exact ⟨h2, h3, h4, h5⟩

theorem Sured.later {n : Int} {G G' : Gh} (h : Later G G') {T T' : Int} (hT : T ≤ T') {l : List Itm} {c : Int} (hs : Sured n G T l c) : Sured n G' T' l c := by
  obtain ⟨h0, hs⟩ := hs
  refine ⟨h0, ?_⟩
  rcases hs with hs | ⟨t, k, i, L, h1, h2, h3, h4, h5⟩
  · exact .inl hs
  · obtain ⟨D, h6, _⟩ := h.ld _ _ _ h3
    have h7 := (h2.len h3).2.1
    exact .inr ⟨t, k, i, L ++ D, by omega, h2.later h, h6, h4, by rw [List.take_append_of_le_length (by omega)]; exact h5⟩
theorem Sured.append {n : Int} {G : Gh} {T : Int} {l : List Itm} {c : Int} (hs : Sured n G T l c) (D : List Itm) : Sured n G T (l ++ D) c := by
  obtain ⟨h0, hs⟩ := hs
  refine ⟨by rw [List.length_append]; omega, ?_⟩
  rcases hs with hs | ⟨t, k, i, L, h1, h2, h3, h4, h5⟩
  · exact .inl hs
  · exact .inr ⟨t, k, i, L, h1, h2, h3, h4, by rw [List.take_append_of_le_length (by omega)]; exact h5⟩
theorem Sured.less {n : Int} {G : Gh} {T : Int} {l : List Itm} {c c' : Int} (hs : Sured n G T l c) (hc : c' ≤ c) : Sured n G T l c' := by
  obtain ⟨h0, hs⟩ := hs
  refine ⟨by omega, ?_⟩
  rcases hs with hs | ⟨t, k, i, L, h1, h2, h3, h4, h5⟩
  · exact .inl (by omega)
  · exact .inr ⟨t, k, i, L, h1, h2, h3, by omega, take_le h5 (by omega)⟩

structure GInv (n : Int) (G : Gh) : Prop where
  lead : ∀ t i L, G.ld t = some (i, L) → 1 ≤ t ∧ 1 ≤ i ∧ i ≤ n ∧ Chain G L ∧ Rise L t ∧ G.vot i t = i ∧ (∃ D, L = G.hist i (t - 1) ++ D ∧ ∀ x ∈ D, x.term = t) ∧
    Maj n fun v => G.vot v t = i ∧ newer (G.hist i (t - 1)) (G.hist v (t - 1))
  hist : ∀ v t, Chain G (G.hist v t) ∧ Rise (G.hist v t) t
  still : ∀ v t, G.ld t = none → G.hist v t = G.hist v (t - 1) ∧ G.ack v t = 0
  keep : ∀ v t i L, G.ld t = some (i, L) → ∀ m : Nat, m ≤ L.length → termAt L m < t → Has (G.hist v (t - 1)) L m → Has (G.hist v t) L m
  acks : ∀ v t i L, G.ld t = some (i, L) → G.ack v t ≤ L.length ∧ Has (G.hist v t) L (G.ack v t)

/-- LEADER COMPLETENESS, of what has been. -/
theorem GInv.complete {n : Int} {G : Gh} (h : GInv n G) (hn : 0 ≤ n) {t : Int} {k : Nat} (hs : Sealed n G t k) {i0 : Int} {L : List Itm} (hL : G.ld t = some (i0, L)) :
    ∀ (d : Nat) (t' : Int), t < t' → (t' - t).toNat ≤ d → ∀ i' L', G.ld t' = some (i', L') → Has L' L k
  | 0, t', hlt, hd => by omega
  | d + 1, t', hlt, hd => by
    intro i' L' hl'
    have ih := GInv.complete h hn hs hL d
    obtain ⟨hk1, hkL, hkt, hmaj⟩ := hs.len hL
    obtain ⟨ht1, _, _, hchL, hriL, _, _, _⟩ := h.lead t i0 L hL
    obtain ⟨_, _, _, _, _, _, ⟨D, hD, _⟩, hmaj'⟩ := h.lead t' i' L' hl'
    obtain ⟨v, _, _, hva, _, hvn⟩ := hmaj.meet hn hmaj'
    have carry : ∀ (e : Nat), t + e < t' → Has (G.hist v (t + e)) L k := by
      intro e
      induction e with
      | zero =>
        intro _
        have ha := (h.acks v t i0 L hL).2
        rw [show t + ((0 : Nat) : Int) = t by omega]
        exact ⟨Nat.le_trans hva ha.1, take_le ha.2 hva⟩
      | succ e ihe =>
        intro he
        have hp := ihe (by omega)
        rw [show t + (e : Int) = t + ((e + 1 : Nat) : Int) - 1 by omega] at hp
        cases hld : G.ld (t + ((e + 1 : Nat) : Int)) with
        | none => rw [(h.still v _ hld).1]; exact hp
        | some q =>
          obtain ⟨j, M⟩ := q
          have hM := ih (t + ((e + 1 : Nat) : Int)) (by omega) (by omega) j M hld
          have hkM : termAt M k = t := by rw [termAt_take hM.2 (Nat.le_refl k)]; exact hkt
          have hv := h.keep v _ j M hld k hM.1 (by omega) ⟨hp.1, hp.2.trans hM.2.symm⟩
          exact ⟨hv.1, hv.2.trans hM.2⟩
    have hvl := carry (t' - 1 - t).toNat (by omega)
    rw [show t + ((t' - 1 - t).toNat : Int) = t' - 1 by omega] at hvl
    obtain ⟨hchv, hriv⟩ := h.hist v (t' - 1)
    obtain ⟨hchc, hric⟩ := h.hist i' (t' - 1)
    have hlast : t ≤ lastT (G.hist v (t' - 1)) := by
      have := hriv.termAt_mono hvl.1 (Nat.le_refl _)
      rw [termAt_take hvl.2 (Nat.le_refl k), hkt] at this
      exact this
    have fin : Has (G.hist i' (t' - 1)) L k := by
      generalize G.hist i' (t' - 1) = cl at *
      generalize G.hist v (t' - 1) = vl at *
      rcases hvn with hgt | ⟨heq, hlen⟩
      · have hcl : 0 < cl.length := by
          cases cl with
          | nil => unfold lastT at hgt hlast; rw [termAt_nil] at hgt; omega
          | cons a b => simp
        have e1 : lastT cl = (cl[cl.length - 1]).term := termAt_nat cl hcl (Nat.le_refl _)
        obtain ⟨j, M, m1, m2, m3⟩ := hchc (cl.length - 1) (by omega)
        rw [show cl.length - 1 + 1 = cl.length by omega, List.take_length] at m3
        have hsle := (hric.2 _ (List.getElem_mem (show cl.length - 1 < cl.length by omega))).2
        have hM := ih _ (by omega) (by omega) j M m1
        rcases Nat.lt_or_ge cl.length k with hlt' | hge
        · have a1 : termAt M cl.length = termAt L cl.length := termAt_take hM.2 (by omega)
          have a2 := hriL.termAt_mono (a := cl.length) (b := k) (by omega) hkL
          have a3 : termAt M cl.length = termAt cl cl.length := termAt_take (k := cl.length) (by rw [m3, List.take_length]) (Nat.le_refl _)
          have a4 : termAt cl cl.length = lastT cl := rfl
          omega
        · refine ⟨hge, ?_⟩
          rw [← hM.2]
          exact take_le (k := cl.length) (by rw [m3, List.take_length]) hge
      · have hvl0 : 0 < vl.length := by have := hvl.1; omega
        have e1 : lastT cl = (cl[cl.length - 1]).term := termAt_nat cl (by omega) (Nat.le_refl _)
        have e2 : lastT vl = (vl[vl.length - 1]).term := termAt_nat vl hvl0 (Nat.le_refl _)
        obtain ⟨j, M, m1, m2, m3⟩ := hchc (cl.length - 1) (by omega)
        obtain ⟨j', M', k1, k2, k3⟩ := hchv (vl.length - 1) (by omega)
        rw [← e1, heq, e2, k1] at m1
        injection m1 with m1
        injection m1 with _ m1
        subst m1
        rw [show cl.length - 1 + 1 = cl.length by omega] at m3
        rw [show vl.length - 1 + 1 = vl.length by omega] at k3
        have h1 := hvl.1
        refine ⟨by omega, ?_⟩
        rw [← hvl.2, ← take_le m3 (show k ≤ cl.length by omega), take_le k3 h1]
    subst hD
    refine ⟨by rw [List.length_append]; have := fin.1; omega, ?_⟩
    rw [List.take_append_of_le_length fin.1]
    exact fin.2

/-- What is sure is in the log of each leader of that term, or a later one. -/
theorem GInv.has {n : Int} {G : Gh} (h : GInv n G) (hn : 0 ≤ n) {t : Int} {k : Nat} (hs : Sealed n G t k) {i0 : Int} {L : List Itm} (hL : G.ld t = some (i0, L)) {t' i' : Int} {L' : List Itm} (ht : t ≤ t') (hl : G.ld t' = some (i', L')) : Has L' L k := by
  rcases Int.lt_or_eq_of_le ht with hlt | rfl
  · exact h.complete hn hs hL _ t' hlt (Nat.le_refl _) i' L' hl
  · rw [hL] at hl
    injection hl with hl
    injection hl with _ hl
    subst hl
    exact ⟨(hs.len hL).2.1, rfl⟩

/-- Two that are sure agree. -/
theorem Sured.agree {n : Int} {G : Gh} (h : GInv n G) (hn : 0 ≤ n) {T T' : Int} {l l' : List Itm} {c c' : Int} (hs : Sured n G T l c) (hs' : Sured n G T' l' c') : l.take (min c c').toNat = l'.take (min c c').toNat := by
  obtain ⟨h0, hs⟩ := hs
  obtain ⟨h0', hs'⟩ := hs'
  rcases hs with hs | ⟨t, k, i, L, h1, h2, h3, h4, h5⟩
  · rw [show (min c c').toNat = 0 by omega]; simp
  rcases hs' with hs' | ⟨t', k', i', L', h1', h2', h3', h4', h5'⟩
  · rw [show (min c c').toNat = 0 by omega]; simp
  rw [take_le h5 (show (min c c').toNat ≤ c.toNat by omega), take_le h5' (show (min c c').toNat ≤ c'.toNat by omega)]
  rcases Int.le_total t t' with ht | ht
  · exact (take_le (h.has hn h2 h3 ht h3').2 (by omega)).symm
  · exact take_le (h.has hn h2' h3' ht h3).2 (by omega)

end Go.Proofs.Ytibjbpakbfodaaa
namespace Go.Proofs.Ytibjbpakbfodaaa

structure NInv (n : Int) (G : Gh) (x : Nod) : Prop where
  hist : ∀ t, x.term ≤ t → G.hist x.id t = x.log
  vote : G.vot x.id x.term = x.vote
  later : ∀ t, x.term < t → G.vot x.id t = 0 ∧ G.ack x.id t = 0
  cand : x.role = 2 → x.vote = x.id ∧ x.log = G.hist x.id (x.term - 1) ∧ (∀ L, G.ld x.term ≠ some (x.id, L)) ∧
    ∀ v ∈ x.votes, G.vot v x.term = x.id ∧ (G.ld x.term = none → newer x.log (G.hist v (x.term - 1)))
  lead : x.role = 3 → G.ld x.term = some (x.id, x.log) ∧ G.ack x.id x.term = x.log.length ∧ ∀ (j : Nat) (h : j < x.mtch.length), x.mtch[j] ≤ (G.ack ((j : Int) + 1) x.term : Int)
  sure : Sured n G x.term x.log x.commit

structure MInv (n : Int) (G : Gh) (m : Mes) : Prop where
  asks : m.kind = 1 → 1 ≤ m.src ∧ G.vot m.src m.term = m.src ∧ m.index = (G.hist m.src (m.term - 1)).length ∧ m.logTerm = lastT (G.hist m.src (m.term - 1))
  votes : m.kind = 2 → m.yes = true → 1 ≤ m.dst ∧ G.vot m.dst m.term = m.dst ∧ G.vot m.src m.term = m.dst ∧ (G.ld m.term = none → newer (G.hist m.dst (m.term - 1)) (G.hist m.src (m.term - 1)))
  sends : m.kind = 3 → ∃ L, G.ld m.term = some (m.src, L) ∧ 0 ≤ m.index ∧ m.index + m.items.length ≤ L.length ∧ m.items = (L.drop m.index.toNat).take m.items.length ∧
    (0 < m.index → m.logTerm = termAt L m.index) ∧ Sured n G m.term L m.commit
  tells : m.kind = 4 → m.yes = true → m.index ≤ (G.ack m.src m.term : Int)

/-- Only node i has turned. -/
structure Turn (i : Int) (G G' : Gh) : Prop where
  hist : ∀ v t, v ≠ i → G'.hist v t = G.hist v t
  vot : ∀ v t, v ≠ i → G'.vot v t = G.vot v t
  ack : ∀ v t, v ≠ i → G'.ack v t = G.ack v t
  ld : ∀ t j L, j ≠ i → G'.ld t = some (j, L) → G.ld t = some (j, L)

theorem Turn.refl (i : Int) (G : Gh) : Turn i G G := ⟨fun _ _ _ => rfl, fun _ _ _ => rfl, fun _ _ _ => rfl, fun _ _ _ _ h => h⟩
theorem Turn.trans {i : Int} {G G1 G2 : Gh} (h : Turn i G G1) (h' : Turn i G1 G2) : Turn i G G2 :=
  ⟨fun v t hv => (h'.hist v t hv).trans (h.hist v t hv), fun v t hv => (h'.vot v t hv).trans (h.vot v t hv), fun v t hv => (h'.ack v t hv).trans (h.ack v t hv), fun t j L hj hl => h.ld t j L hj (h'.ld t j L hj hl)⟩

theorem MInv.later {n : Int} {G G' : Gh} (h : Later G G') {m : Mes} (hm : MInv n G m) : MInv n G' m := by
  refine ⟨fun hk => ?_, fun hk hy => ?_, fun hk => ?_, fun hk hy => ?_⟩
  · obtain ⟨h0, h1, h2, h3⟩ := hm.asks hk
    have hv : G.vot m.src m.term ≠ 0 := by omega
    rw [h.vot _ _ hv, h.hist m.src (m.term - 1) m.term (by omega) hv]
    exact ⟨h0, h1, h2, h3⟩
  · obtain ⟨h0, h1, h2, h3⟩ := hm.votes hk hy
    have hv : G.vot m.dst m.term ≠ 0 := by omega
    have hv2 : G.vot m.src m.term ≠ 0 := by omega
    rw [h.vot _ _ hv, h.vot _ _ hv2, h.hist m.dst (m.term - 1) m.term (by omega) hv, h.hist m.src (m.term - 1) m.term (by omega) hv2]
    exact ⟨h0, h1, h2, fun hl => h3 (h.none hl)⟩
  · obtain ⟨L, h1, h2, h3, h4, h5, h6⟩ := hm.sends hk
    obtain ⟨D, h7, _⟩ := h.ld _ _ _ h1
    refine ⟨L ++ D, h7, h2, by rw [List.length_append]; omega, ?_, fun hi => ?_, (h6.later h (Int.le_refl _)).append D⟩
    · rw [List.drop_append_of_le_length (by omega), List.take_append_of_le_length (by rw [List.length_drop]; omega)]
      exact h4
    · rw [h5 hi]
      obtain ⟨k, hk⟩ : ∃ k : Nat, m.index = k := ⟨m.index.toNat, by omega⟩
      rw [hk]
      exact (termAt_take (k := k) (by rw [List.take_append_of_le_length (by omega)]) (Nat.le_refl k)).symm
  · exact Int.le_trans (hm.tells hk hy) (by have := h.ack m.src m.term; omega)

theorem NInv.other {n i : Int} {G G' : Gh} (h : Later G G') (ht : Turn i G G') {y : Nod} (hy : NInv n G y) (hi : y.id ≠ i) (h1 : 1 ≤ y.id) : NInv n G' y := by
  refine ⟨fun t htt => ?_, ?_, fun t htt => ?_, fun hr => ?_, fun hr => ?_, hy.sure.later h (Int.le_refl _)⟩
  · rw [ht.hist _ _ hi]; exact hy.hist t htt
  · rw [ht.vot _ _ hi]; exact hy.vote
  · rw [ht.vot _ _ hi, ht.ack _ _ hi]; exact hy.later t htt
  · obtain ⟨c1, c2, c3, c4⟩ := hy.cand hr
    refine ⟨c1, by rw [ht.hist _ _ hi]; exact c2, fun L hl => c3 L (ht.ld _ _ _ hi hl), fun v hv => ?_⟩
    obtain ⟨d1, d2⟩ := c4 v hv
    have hne : G.vot v y.term ≠ 0 := by omega
    rw [h.vot _ _ hne, h.hist v (y.term - 1) y.term (by omega) hne]
    exact ⟨d1, fun hl => d2 (h.none hl)⟩
  · obtain ⟨c1, c2, c3⟩ := hy.lead hr
    obtain ⟨D, d1, _⟩ := h.ld _ _ _ c1
    have d2 := ht.ld _ _ _ hi d1
    rw [c1] at d2
    injection d2 with d2
    injection d2 with _ d2
    have hD : D = [] := by
      have := congrArg List.length d2
      rw [List.length_append] at this
      exact List.eq_nil_of_length_eq_zero (by omega)
    subst hD
    rw [List.append_nil] at d1
    refine ⟨d1, by rw [ht.ack _ _ hi]; exact c2, fun j hj => Int.le_trans (c3 j hj) (by have := h.ack ((j : Int) + 1) y.term; omega)⟩

/- ## Steps that change no log -/

def voteG (G : Gh) (i t v : Int) : Gh := { G with vot := fun a b => if a = i ∧ b = t then v else G.vot a b }

/-- Of a node's numbers some have changed; its log has not. -/
theorem turnA {n : Int} {G : Gh} (hG : GInv n G) {x y : Nod} (hx : NInv n G x) (_ : 1 ≤ x.id) (hid : y.id = x.id) (hlog : y.log = x.log) (ht : x.term ≤ y.term) (hv : y.term = x.term → x.vote ≠ 0 → y.vote = x.vote) :
    GInv n (voteG G x.id y.term y.vote) ∧ Later G (voteG G x.id y.term y.vote) ∧ Turn x.id G (voteG G x.id y.term y.vote) ∧
      ((y.role = 2 → y.vote = y.id ∧ y.log = G.hist y.id (y.term - 1) ∧ (∀ L, G.ld y.term ≠ some (y.id, L)) ∧ ∀ v ∈ y.votes, (voteG G x.id y.term y.vote).vot v y.term = y.id ∧ (G.ld y.term = none → newer y.log (G.hist v (y.term - 1)))) →
       (y.role = 3 → G.ld y.term = some (y.id, y.log) ∧ G.ack y.id y.term = y.log.length ∧ ∀ (j : Nat) (h : j < y.mtch.length), y.mtch[j] ≤ (G.ack ((j : Int) + 1) y.term : Int)) →
       Sured n G y.term y.log y.commit → NInv n (voteG G x.id y.term y.vote) y) := by
  have hvv : ∀ a b, G.vot a b ≠ 0 → (voteG G x.id y.term y.vote).vot a b = G.vot a b := by
    intro a b hab
    show (if a = x.id ∧ b = y.term then y.vote else G.vot a b) = G.vot a b
    split
    · rename_i h
      obtain ⟨rfl, rfl⟩ := h
      rcases Int.lt_or_eq_of_le ht with hlt | heq
      · exact absurd (hx.later _ hlt).1 hab
      · rw [← heq] at hab ⊢
        rw [hx.vote] at hab ⊢
        exact hv heq.symm hab
    · rfl
  have hL : Later G (voteG G x.id y.term y.vote) := ⟨fun t i L h => ⟨[], by rw [List.append_nil]; exact h, fun x hx => by simp at hx⟩, hvv, fun _ _ => Nat.le_refl _, fun _ _ _ _ _ => rfl⟩
  refine ⟨⟨?_, fun v t => ⟨(hG.hist v t).1.later hL, (hG.hist v t).2⟩, hG.still, hG.keep, hG.acks⟩, hL, ⟨fun _ _ _ => rfl, fun v t hv => ?_, fun _ _ _ => rfl, fun _ _ _ _ h => h⟩, fun hc hl hs => ?_⟩
  · intro t i L hl
    obtain ⟨g1, g2, g3, g4, g5, g6, g7, g8⟩ := hG.lead t i L hl
    refine ⟨g1, g2, g3, g4.later hL, g5, by rw [hvv _ _ (by omega)]; exact g6, g7, g8.mono fun v hv => ⟨by rw [hvv _ _ (by omega)]; exact hv.1, hv.2⟩⟩
  · show (if v = x.id ∧ t = y.term then y.vote else G.vot v t) = _
    rw [if_neg (fun h => hv h.1)]
  · refine ⟨fun t htt => ?_, ?_, fun t htt => ?_, hc, hl, hs.later hL (Int.le_refl _)⟩
    · rw [hid, hlog]; exact hx.hist t (by omega)
    · show (if y.id = x.id ∧ y.term = y.term then y.vote else G.vot y.id y.term) = _
      rw [if_pos ⟨hid, rfl⟩]
    · have := hx.later t (by omega)
      rw [hid]
      refine ⟨?_, this.2⟩
      show (if x.id = x.id ∧ t = y.term then y.vote else G.vot x.id t) = _
      rw [if_neg (fun h => by omega)]
      exact this.1

/-- What a step of a node comes to: what has been has grown, and the node and what it says are as they must be. -/
def Goes (n : Int) (G : Gh) (x y : Nod) (ms : List Mes) : Prop := ∃ G', GInv n G' ∧ Later G G' ∧ Turn x.id G G' ∧ NInv n G' y ∧ ∀ m ∈ ms, MInv n G' m

theorem Goes.trans {n : Int} {G : Gh} {x y z : Nod} {ms ms' : List Mes} (h : Goes n G x y ms) (hid : y.id = x.id) (h' : ∀ G', GInv n G' → Later G G' → NInv n G' y → Goes n G' y z ms') : Goes n G x z (ms ++ ms') := by
  obtain ⟨G1, a1, a2, a3, a4, a5⟩ := h
  obtain ⟨G2, b1, b2, b3, b4, b5⟩ := h' G1 a1 a2 a4
  refine ⟨G2, b1, a2.trans b2, a3.trans (hid ▸ b3), b4, fun m hm => ?_⟩
  rcases List.mem_append.1 hm with hm | hm
  · exact (a5 m hm).later b2
  · exact b5 m hm

theorem Goes.refl {n : Int} {G : Gh} (hG : GInv n G) {x : Nod} (hx : NInv n G x) : Goes n G x x [] := ⟨G, hG, Later.refl G, Turn.refl _ G, hx, fun m hm => by simp at hm⟩

/-- Only places, votes counted, and the like: nothing of what has been. -/
theorem NInv.with {n : Int} {G : Gh} {x y : Nod} (hx : NInv n G x) (e1 : y.id = x.id) (e2 : y.term = x.term) (e3 : y.vote = x.vote) (e4 : y.log = x.log)
    (hc : y.role = 2 → x.role = 2 ∧ ∀ v ∈ y.votes, v ∈ x.votes ∨ G.vot v x.term = x.id ∧ (G.ld x.term = none → newer x.log (G.hist v (x.term - 1))))
    (hl : y.role = 3 → x.role = 3 ∧ ∀ (j : Nat) (h : j < y.mtch.length), y.mtch[j] ≤ (G.ack ((j : Int) + 1) x.term : Int)) (hs : Sured n G x.term x.log y.commit) : NInv n G y := by
  refine ⟨fun t ht => ?_, ?_, fun t ht => ?_, fun hr => ?_, fun hr => ?_, ?_⟩
  · rw [e1, e4]; exact hx.hist t (by omega)
  · rw [e1, e2, e3]; exact hx.vote
  · rw [e1]; exact hx.later t (by omega)
  · obtain ⟨h1, h2⟩ := hc hr
    obtain ⟨c1, c2, c3, c4⟩ := hx.cand h1
    rw [e1, e2, e3, e4]
    refine ⟨c1, c2, c3, fun v hv => ?_⟩
    rcases h2 v hv with h3 | h3
    · exact c4 v h3
    · exact h3
  · obtain ⟨h1, h2⟩ := hl hr
    obtain ⟨c1, c2, c3⟩ := hx.lead h1
    rw [e1, e2, e4]
    exact ⟨c1, c2, h2⟩
  · rw [e2, e4]; exact hs

theorem follow_goes {n : Int} {G : Gh} (hG : GInv n G) {x : Nod} (hx : NInv n G x) (h1 : 1 ≤ x.id) (t b : Int) : Goes n G x (follow x t b) [] := by
  have ht : x.term ≤ (follow x t b).term := by unfold follow; simp only; split <;> omega
  obtain ⟨a1, a2, a3, a4⟩ := turnA hG hx h1 (y := follow x t b) rfl rfl ht (fun he _ => by
    unfold follow at he ⊢
    simp only at he ⊢
    split
    · rename_i h; rw [if_pos h] at he; omega
    · rfl)
  exact ⟨_, a1, a2, a3, a4 (fun h => by simp [follow] at h) (fun h => by simp [follow] at h) (hx.sure.later (Later.refl G) ht), fun m hm => by simp at hm⟩

theorem restart_goes {n : Int} {G : Gh} (hG : GInv n G) {x : Nod} (hx : NInv n G x) (h1 : 1 ≤ x.id) : Goes n G x (restart x) [] := by
  unfold restart
  split
  · exact .refl hG hx
  · obtain ⟨a1, a2, a3, a4⟩ := turnA hG hx h1 (y := { follow x x.term 0 with commit := 0 }) rfl rfl (by simp [follow]) (fun _ _ => by simp [follow])
    exact ⟨_, a1, a2, a3, a4 (fun h => by simp [follow] at h) (fun h => by simp [follow] at h) ⟨by simp [follow], .inl (Int.le_refl _)⟩, fun m hm => by simp at hm⟩

theorem stood_goes {n : Int} {G : Gh} (hG : GInv n G) {x : Nod} (hx : NInv n G x) (h1 : 1 ≤ x.id) : Goes n G x (stood x) ((others (stood x)).map (asks (stood x))) := by
  obtain ⟨a1, a2, a3, a4⟩ := turnA hG hx h1 (y := stood x) rfl rfl (by show x.term ≤ x.term + 1; omega) (fun h _ => by have h' : x.term + 1 = x.term := h; omega)
  have hh := hx.hist x.term (Int.le_refl _)
  have hN : NInv n (voteG G x.id (stood x).term (stood x).vote) (stood x) := by
    refine a4 (fun _ => ⟨rfl, ?_, fun L hl => ?_, fun v hv => ?_⟩) (fun h => by simp [stood] at h) (hx.sure.later (Later.refl G) (by show x.term ≤ x.term + 1; omega))
    · show x.log = G.hist x.id (x.term + 1 - 1)
      rw [show x.term + 1 - 1 = x.term by omega, hh]
    · have h6 := (hG.lead _ _ _ hl).2.2.2.2.2.1
      have h7 := (hx.later (stood x).term (by simp [stood]; omega)).1
      have : (stood x).id = x.id := rfl
      rw [this, h7] at h6
      omega
    · have hv : v = x.id := by simpa [stood] using hv
      subst hv
      refine ⟨if_pos ⟨rfl, rfl⟩, fun _ => ?_⟩
      show newer x.log (G.hist x.id (x.term + 1 - 1))
      rw [show x.term + 1 - 1 = x.term by omega, hh]
      exact newer_refl _
  refine ⟨_, a1, a2, a3, hN, fun m hm => ?_⟩
  rw [List.mem_map] at hm
  obtain ⟨k, _, rfl⟩ := hm
  refine ⟨fun _ => ⟨h1, if_pos ⟨rfl, rfl⟩, ?_, ?_⟩, fun h => by simp [asks] at h, fun h => by simp [asks] at h, fun h => by simp [asks] at h⟩
  · show (x.log.length : Int) = ((G.hist x.id (x.term + 1 - 1)).length : Int)
    rw [show x.term + 1 - 1 = x.term by omega, hh]
  · show termAt x.log x.log.length = lastT (G.hist x.id (x.term + 1 - 1))
    rw [show x.term + 1 - 1 = x.term by omega, hh]
    rfl

theorem asked_goes {n : Int} {G : Gh} (hG : GInv n G) {x : Nod} (hx : NInv n G x) (h1 : 1 ≤ x.id) {m : Mes} (hm : MInv n G m) (hk : m.kind = 1) (hne : m.src ≠ x.id) : Goes n G x (asked x m).1 (asked x m).2 := by
  obtain ⟨m1, m2, m3, m4⟩ := hm.asks hk
  unfold asked
  cases hv : votesFor x m with
  | false =>
    refine ⟨G, hG, Later.refl G, Turn.refl _ G, hx, fun s hs => ?_⟩
    simp at hs
    subst hs
    exact ⟨fun h => by simp at h, fun _ h => by simp at h, fun h => by simp at h, fun h => by simp at h⟩
  | true =>
    have hv' := hv
    unfold votesFor at hv'
    simp only [Bool.and_eq_true, Bool.or_eq_true, decide_eq_true_eq] at hv'
    obtain ⟨⟨ht, hvo⟩, hnew⟩ := hv'
    simp only [if_true]
    obtain ⟨a1, a2, a3, a4⟩ := turnA hG hx h1 (y := { x with vote := m.src }) rfl rfl (Int.le_refl _) (fun _ h => by simp only; omega)
    have hN := a4 (fun hr => by
      have hc := (hx.cand hr).1
      omega) (fun hr => hx.lead hr) hx.sure
    refine ⟨_, a1, a2, a3, hN, fun s hs => ?_⟩
    simp at hs
    subst hs
    refine ⟨fun h => by simp at h, fun _ _ => ⟨m1, ?_, if_pos ⟨rfl, rfl⟩, fun hl => ?_⟩, fun h => by simp at h, fun h => by simp at h⟩
    · show (if m.src = x.id ∧ x.term = x.term then m.src else G.vot m.src x.term) = m.src
      rw [if_neg (fun h => hne h.1), ← ht]
      exact m2
    · show newer (G.hist m.src (x.term - 1)) (G.hist x.id (x.term - 1))
      have hs1 := (hG.still x.id x.term hl).1
      rw [hx.hist x.term (Int.le_refl _)] at hs1
      rw [← hs1, ← ht]
      rw [m3, m4] at hnew
      rcases hnew with hn | ⟨hn1, hn2⟩
      · exact .inl hn
      · exact .inr ⟨hn1, by omega⟩


/- ## A leader comes, and adds -/

def ledG (G : Gh) (i t : Int) (l : List Itm) : Gh :=
  { G with ld := fun a => if a = t then some (i, l) else G.ld a, ack := fun a b => if a = i ∧ b = t then l.length else G.ack a b }

/-- A candidate that most have voted for: it is the first one in this term. -/
theorem first_lead {n : Int} {G : Gh} (hG : GInv n G) (hn : 0 ≤ n) {x : Nod} (hx : NInv n G x) (hr : x.role = 2) (hq : Maj n fun v => v ∈ x.votes) : G.ld x.term = none := by
  obtain ⟨_, _, c3, c4⟩ := hx.cand hr
  cases hl : G.ld x.term with
  | none => rfl
  | some p =>
    obtain ⟨j, L⟩ := p
    obtain ⟨_, g2, _, _, _, _, _, g8⟩ := hG.lead _ _ _ hl
    obtain ⟨v, _, _, v1, v2, _⟩ := hq.meet hn g8
    have := (c4 v v1).1
    rw [v2] at this
    subst this
    exact absurd hl (c3 L)

theorem led_later {G : Gh} {i t : Int} {l : List Itm} (hl : G.ld t = none) (ha : G.ack i t ≤ l.length) : Later G (ledG G i t l) := by
  refine ⟨fun t' j L h => ⟨[], ?_, fun x hx => by simp at hx⟩, fun _ _ _ => rfl, fun v b => ?_, fun _ _ _ _ _ => rfl⟩
  · show (if t' = t then some (i, l) else G.ld t') = _
    rw [if_neg (fun e => by subst e; rw [hl] at h; cases h), List.append_nil]
    exact h
  · show G.ack v b ≤ if v = i ∧ b = t then l.length else G.ack v b
    split
    · rename_i h; obtain ⟨rfl, rfl⟩ := h; exact ha
    · exact Nat.le_refl _

theorem crowned_goes {n : Int} {G : Gh} (hG : GInv n G) (hn : 0 ≤ n) {x : Nod} (hx : NInv n G x) (hr : x.role = 2) (h1 : 1 ≤ x.id) (hxn : x.id ≤ n) (ht : 1 ≤ x.term) (hq : Maj n fun v => v ∈ x.votes) : Goes n G x (crowned x) [] := by
  have hl := first_lead hG hn hx hr hq
  obtain ⟨c1, c2, c3, c4⟩ := hx.cand hr
  have hL : Later G (ledG G x.id x.term x.log) := led_later hl (by rw [(hG.still x.id x.term hl).2]; omega)
  obtain ⟨w1, w2⟩ := hG.hist x.id x.term
  rw [hx.hist _ (Int.le_refl _)] at w1 w2
  have hself : (ledG G x.id x.term x.log).ld x.term = some (x.id, x.log) := if_pos rfl
  have hne : ∀ {t}, t ≠ x.term → (ledG G x.id x.term x.log).ld t = G.ld t := fun h => if_neg h
  have hak : ∀ {v t}, t ≠ x.term → (ledG G x.id x.term x.log).ack v t = G.ack v t := fun h => if_neg fun e => h e.2
  refine ⟨ledG G x.id x.term x.log, ⟨fun t i L hti => ?_, fun v t => ⟨(hG.hist v t).1.later hL, (hG.hist v t).2⟩, fun v t htn => ?_, fun v t i L hti => ?_, fun v t i L hti => ?_⟩, hL, ⟨fun _ _ _ => rfl, fun _ _ _ => rfl, fun v t hv => if_neg fun e => hv e.1, fun t j L hj hjl => ?_⟩, ?_, fun m hm => by simp at hm⟩
  · by_cases he : t = x.term
    · subst he
      rw [hself] at hti
      injection hti with hti
      injection hti with e1 e2
      subst e1 e2
      refine ⟨ht, h1, hxn, w1.later hL, w2, by show G.vot x.id x.term = x.id; rw [hx.vote, c1], ⟨[], by rw [List.append_nil]; exact c2, fun x hx => by simp at hx⟩, hq.mono fun v hv => ?_⟩
      obtain ⟨d1, d2⟩ := c4 v hv
      exact ⟨d1, by have := d2 hl; rw [c2] at this; exact this⟩
    · rw [hne he] at hti
      obtain ⟨g1, g2, g3, g4, g5, g6, g7, g8⟩ := hG.lead t i L hti
      exact ⟨g1, g2, g3, g4.later hL, g5, g6, g7, g8⟩
  · by_cases he : t = x.term
    · subst he; rw [hself] at htn; cases htn
    · rw [hne he] at htn
      rw [hak he]
      exact hG.still v t htn
  · intro m hmL hmt hm
    by_cases he : t = x.term
    · subst he
      rw [hself] at hti
      injection hti with hti
      injection hti with e1 e2
      subst e1 e2
      show Has (G.hist v x.term) _ m
      rw [(hG.still v x.term hl).1]
      exact hm
    · rw [hne he] at hti
      exact hG.keep v t i L hti m hmL hmt hm
  · by_cases he : t = x.term
    · subst he
      rw [hself] at hti
      injection hti with hti
      injection hti with e1 e2
      subst e1 e2
      by_cases hv : v = x.id
      · subst hv
        have : (ledG G x.id x.term x.log).ack x.id x.term = x.log.length := if_pos ⟨rfl, rfl⟩
        rw [this]
        refine ⟨Nat.le_refl _, ?_⟩
        show Has (G.hist x.id x.term) x.log x.log.length
        rw [hx.hist _ (Int.le_refl _)]
        exact ⟨Nat.le_refl _, rfl⟩
      · have : (ledG G x.id x.term x.log).ack v x.term = 0 := (if_neg fun e => hv e.1).trans (hG.still v x.term hl).2
        rw [this]
        exact ⟨Nat.zero_le _, Nat.zero_le _, by simp⟩
    · rw [hne he] at hti
      rw [hak he]
      exact hG.acks v t i L hti
  · by_cases he : t = x.term
    · subst he
      rw [hself] at hjl
      injection hjl with hjl
      injection hjl with e1 _
      exact absurd e1.symm hj
    · rw [hne he] at hjl; exact hjl
  · refine ⟨fun t htt => hx.hist t htt, hx.vote, fun t htt => ?_, fun h => by simp [crowned] at h, fun _ => ⟨hself, if_pos ⟨rfl, rfl⟩, fun j hj => ?_⟩, hx.sure.later hL (Int.le_refl _)⟩
    · have htt' : x.term < t := htt
      refine ⟨(hx.later t htt').1, ?_⟩
      show (ledG G x.id x.term x.log).ack x.id t = 0
      rw [hak (by omega)]
      exact (hx.later t htt').2
    · have h0 : (crowned x).mtch[j] = 0 := by simp [crowned]
      rw [h0]
      exact Int.natCast_nonneg _

/-- An item more in a leader's log. -/
def moreG (G : Gh) (i t : Int) (l : List Itm) : Gh :=
  { G with ld := fun a => if a = t then some (i, l) else G.ld a, ack := fun a b => if a = i ∧ b = t then l.length else G.ack a b, hist := fun a b => if a = i ∧ t ≤ b then l else G.hist a b }

theorem grown_goes {n : Int} {G : Gh} (hG : GInv n G) {x : Nod} (hx : NInv n G x) (hr : x.role = 3) (_ : 1 ≤ x.id) (c : Int) : Goes n G x (grown x c) [] := by
  obtain ⟨c1, c2, c3⟩ := hx.lead hr
  obtain ⟨g1, g2, g3, g4, g5, g6, ⟨D0, g7, g7'⟩, g8⟩ := hG.lead _ _ _ c1
  unfold grown
  split
  case isFalse => exact .refl hG hx
  generalize hy : x.log ++ [(⟨x.term, c⟩ : Itm)] = l'
  have hself : (moreG G x.id x.term l').ld x.term = some (x.id, l') := if_pos rfl
  have hne : ∀ {t}, t ≠ x.term → (moreG G x.id x.term l').ld t = G.ld t := fun h => if_neg h
  have hak : ∀ {v t}, t ≠ x.term → (moreG G x.id x.term l').ack v t = G.ack v t := fun h => if_neg fun e => h e.2
  have hhl : ∀ {v t}, t < x.term → (moreG G x.id x.term l').hist v t = G.hist v t := fun h => if_neg fun e => by have := e.2; omega
  have hho : ∀ {v t}, v ≠ x.id → (moreG G x.id x.term l').hist v t = G.hist v t := fun h => if_neg fun e => h e.1
  have hhs : ∀ {t}, x.term ≤ t → (moreG G x.id x.term l').hist x.id t = l' := fun h => if_pos ⟨rfl, h⟩
  have hL : Later G (moreG G x.id x.term l') := by
    refine ⟨fun t j L h => ?_, fun _ _ _ => rfl, fun v b => ?_, fun v t t' htt hv => ?_⟩
    · by_cases he : t = x.term
      · subst he
        rw [c1] at h
        injection h with h
        injection h with e1 e2
        subst e1 e2
        exact ⟨[⟨x.term, c⟩], by rw [hself, hy], fun y hy => by simp at hy; subst hy; rfl⟩
      · exact ⟨[], by rw [hne he, List.append_nil]; exact h, fun x hx => by simp at hx⟩
    · show G.ack v b ≤ if v = x.id ∧ b = x.term then l'.length else G.ack v b
      split
      · rename_i h; obtain ⟨rfl, rfl⟩ := h; rw [c2, ← hy, List.length_append]; omega
      · exact Nat.le_refl _
    · by_cases he : v = x.id
      · subst he
        refine hhl ?_
        refine Int.lt_of_not_ge fun hge => hv ?_
        exact (hx.later t' (by omega)).1
      · exact hho he
  have w2 : Rise l' x.term := by rw [← hy]; exact g5.snoc g1
  have w1 : Chain (moreG G x.id x.term l') l' := by
    intro k hk
    rcases Nat.lt_or_ge k x.log.length with hlt | hge
    · obtain ⟨i, L, b1, b2, b3⟩ := (g4.later hL) k hlt
      subst hy
      rw [List.getElem_append_left hlt]
      refine ⟨i, L, b1, b2, ?_⟩
      rw [b3, List.take_append_of_le_length hlt]
    · have hkl : k = x.log.length := by rw [← hy] at hk; simp at hk; omega
      have e : (l'[k]).term = x.term := by subst hy; subst hkl; simp
      rw [e]
      exact ⟨_, _, hself, hk, rfl⟩
  have hpre : ∀ {m : Nat}, m ≤ x.log.length → l'.take m = x.log.take m := fun h => by rw [← hy, List.take_append_of_le_length h]
  have hlen : l'.length = x.log.length + 1 := by rw [← hy]; simp
  refine ⟨moreG G x.id x.term l', ⟨fun t i L hti => ?_, fun v t => ?_, fun v t htn => ?_, fun v t i L hti => ?_, fun v t i L hti => ?_⟩, hL, ⟨fun v t hv => hho hv, fun _ _ _ => rfl, fun v t hv => if_neg fun e => hv e.1, fun t j L hj hjl => ?_⟩, ?_, fun m hm => by simp at hm⟩
  · by_cases he : t = x.term
    · subst he
      rw [hself] at hti
      injection hti with hti
      injection hti with e1 e2
      subst e1 e2
      refine ⟨g1, g2, g3, w1, w2, g6, ⟨D0 ++ [⟨x.term, c⟩], by rw [hhl (by omega), ← List.append_assoc, ← g7]; exact hy.symm, fun y hy => ?_⟩, g8.mono fun v hv => ?_⟩
      · rcases List.mem_append.1 hy with hy | hy
        · exact g7' y hy
        · simp at hy; subst hy; rfl
      · rw [hhl (by omega), hhl (by omega)]; exact hv
    · rw [hne he] at hti
      obtain ⟨k1, k2, k3, k4, k5, k6, k7, k8⟩ := hG.lead t i L hti
      rw [hL.hist i (t - 1) t (by omega) (by omega)]
      refine ⟨k1, k2, k3, k4.later hL, k5, k6, k7, k8.mono fun v hv => ?_⟩
      rw [hL.hist v (t - 1) t (by omega) (by omega)]
      exact hv
  · by_cases he : v = x.id ∧ x.term ≤ t
    · obtain ⟨rfl, he⟩ := he
      rw [hhs he]
      exact ⟨w1, w2.mono he⟩
    · have : (moreG G x.id x.term l').hist v t = G.hist v t := if_neg he
      rw [this]
      exact ⟨(hG.hist v t).1.later hL, (hG.hist v t).2⟩
  · have he : t ≠ x.term := fun e => by subst e; rw [hself] at htn; cases htn
    rw [hne he] at htn
    rw [hak he]
    obtain ⟨s1, s2⟩ := hG.still v t htn
    refine ⟨?_, s2⟩
    by_cases hv : v = x.id
    · subst hv
      rcases Int.lt_or_le t x.term with hlt | hge
      · rw [hhl hlt, hhl (by omega)]; exact s1
      · rw [hhs hge, hhs (by omega)]
    · rw [hho hv, hho hv]; exact s1
  · intro m hmL hmt hm
    by_cases hv : v = x.id
    · subst hv
      rcases Int.lt_or_le t x.term with hlt | hge
      · rw [hne (by omega)] at hti
        rw [hhl hlt]
        rw [hhl (by omega)] at hm
        exact hG.keep _ t i L hti m hmL hmt hm
      · rcases Int.lt_or_eq_of_le hge with hlt | heq
        · rw [hhs hge]
          rw [hhs (by omega)] at hm
          exact hm
        · subst heq
          rw [hself] at hti
          injection hti with hti
          injection hti with e1 e2
          subst e1 e2
          rw [hhs (Int.le_refl _)]
          exact ⟨hmL, rfl⟩
    · rw [hho hv] at hm ⊢
      by_cases he : t = x.term
      · subst he
        rw [hself] at hti
        injection hti with hti
        injection hti with e1 e2
        subst e1 e2
        have hml : m ≤ x.log.length := by
          rcases Nat.lt_or_ge x.log.length m with hlt | hge
          · exfalso
            have hm' : m = x.log.length + 1 := by omega
            rw [termAt_nat l' (by omega) hmL] at hmt
            have : (l'[m - 1]'(by omega)).term = x.term := by subst hy; simp [hm']
            omega
          · exact hge
        have h2 := hG.keep v x.term _ _ c1 m hml (by rw [← termAt_take (hpre hml) (Nat.le_refl m)]; exact hmt) ⟨hm.1, hm.2.trans (hpre hml)⟩
        exact ⟨h2.1, h2.2.trans (hpre hml).symm⟩
      · rw [hne he] at hti
        exact hG.keep v t i L hti m hmL hmt hm
  · by_cases hv : v = x.id
    · subst hv
      by_cases he : t = x.term
      · subst he
        rw [hself] at hti
        injection hti with hti
        injection hti with e1 e2
        subst e1 e2
        have : (moreG G x.id x.term l').ack x.id x.term = l'.length := if_pos ⟨rfl, rfl⟩
        rw [this, hhs (Int.le_refl _)]
        exact ⟨Nat.le_refl _, Nat.le_refl _, rfl⟩
      · rw [hne he] at hti
        rw [hak he]
        rcases Int.lt_or_le t x.term with hlt | hge
        · rw [hhl hlt]; exact hG.acks _ t i L hti
        · rw [(hx.later t (by omega)).2]
          exact ⟨Nat.zero_le _, Nat.zero_le _, by simp⟩
    · have hk : (moreG G x.id x.term l').ack v t = G.ack v t := if_neg fun e => hv e.1
      rw [hk, hho hv]
      by_cases he : t = x.term
      · subst he
        rw [hself] at hti
        injection hti with hti
        injection hti with e1 e2
        subst e1 e2
        obtain ⟨k1, k2, k3⟩ := hG.acks v x.term _ _ c1
        exact ⟨by omega, k2, k3.trans (hpre k1).symm⟩
      · rw [hne he] at hti
        exact hG.acks v t i L hti
  · by_cases he : t = x.term
    · subst he
      rw [hself] at hjl
      injection hjl with hjl
      injection hjl with e1 _
      exact absurd e1.symm hj
    · rw [hne he] at hjl; exact hjl
  · refine ⟨fun t htt => hhs htt, hx.vote, fun t htt => ?_, fun h => by simp [hr] at h, fun _ => ⟨hself, if_pos ⟨rfl, rfl⟩, fun j hj => Int.le_trans (c3 j hj) ?_⟩, ?_⟩
    · have htt' : x.term < t := htt
      exact ⟨(hx.later t htt').1, by show (moreG G x.id x.term l').ack x.id t = 0; rw [hak (by omega)]; exact (hx.later t htt').2⟩
    · have := hL.ack ((j : Int) + 1) x.term
      show _ ≤ ((moreG G x.id x.term l').ack ((j : Int) + 1) x.term : Int)
      omega
    · have := (hx.sure.later hL (Int.le_refl _)).append [⟨x.term, c⟩]
      rw [hy] at this
      exact this

end Go.Proofs.Ytibjbpakbfodaaa
namespace Go.Proofs.Ytibjbpakbfodaaa

/- ## A follower takes what its leader sends -/

theorem taken_app : ∀ (items : List Itm) (k : Nat) (l : List Itm) (c : Int), k = l.length → taken k items l c = (l ++ items, c)
  | [], k, l, c, _ => by simp [taken]
  | x :: t, k, l, c, h => by
    rw [taken, List.getElem?_eq_none (by omega)]
    simp only
    rw [taken_app t (k + 1) (l ++ [x]) c (by simp; omega)]
    simp

theorem taken_log2 {G : Gh} {L : List Itm} (hL : Chain G L) : ∀ (items : List Itm) (k : Nat) (l : List Itm) (c : Int), Chain G l → k ≤ l.length → l.take k = L.take k → items = (L.drop k).take items.length → k + items.length ≤ L.length →
    ((taken k items l c).1 = l ∧ (taken k items l c).2 = c ∧ k + items.length ≤ l.length ∧ l.take (k + items.length) = L.take (k + items.length)) ∨
    ((taken k items l c).1 = L.take (k + items.length) ∧ ∃ j, k ≤ j ∧ j < k + items.length ∧ j ≤ l.length ∧ l.take j = L.take j ∧
      ((j = l.length ∧ (taken k items l c).2 = c) ∨ ((taken k items l c).2 = min c j ∧ ∃ (h : j < l.length) (h' : j < L.length), (l[j]).term ≠ (L[j]).term)))
  | [], k, l, c, _, hk, hp, _, _ => by left; simp [taken, hk, hp]
  | x :: t, k, l, c, hl, hk, hp, hi, hlen => by
    have hkL : k < L.length := by simp at hlen; omega
    have hdrop : L.drop k = L[k] :: L.drop (k + 1) := List.drop_eq_getElem_cons hkL
    rw [hdrop, List.length_cons, List.take_succ_cons] at hi
    injection hi with hx ht
    have htl : L.take (k + 1) = L.take k ++ [x] := by rw [List.take_succ_eq_append_getElem hkL, hx]
    rcases Nat.lt_or_ge k l.length with hlt | hge
    · have hg : l[k]? = some l[k] := List.getElem?_eq_getElem hlt
      by_cases he : (l[k]).term ≠ x.term
      · have e : taken k (x :: t) l c = taken (k + 1) t (l.take k ++ [x]) (min c k) := by rw [taken, hg]; simp only; rw [if_pos he]
        rw [e, hp, ← htl, taken_app t (k + 1) _ _ (by rw [List.length_take]; omega)]
        right
        simp only [List.length_cons]
        refine ⟨?_, k, Nat.le_refl _, by omega, hk, hp, .inr ⟨rfl, hlt, hkL, by rw [← hx]; exact he⟩⟩
        have hta : L.take (k + 1 + t.length) = L.take (k + 1) ++ (L.drop (k + 1)).take t.length := List.take_add
        rw [show k + (t.length + 1) = k + 1 + t.length by omega, hta, ← ht]
      · have e : taken k (x :: t) l c = taken (k + 1) t l c := by rw [taken, hg]; simp only; rw [if_neg he]
        have he' : (l[k]).term = (L[k]).term := by rw [← hx]; simpa using he
        have := taken_log2 hL t (k + 1) l c hl hlt (hl.same hL hlt hkL he') ht (by simp at hlen; omega)
        rw [e]
        simp only [List.length_cons]
        rw [show k + (t.length + 1) = k + 1 + t.length by omega]
        rcases this with h1 | ⟨h1, j, h2, h3⟩
        · exact .inl h1
        · exact .inr ⟨h1, j, by omega, h3⟩
    · right
      rw [taken_app _ k l c (by omega)]
      refine ⟨?_, k, Nat.le_refl _, by simp, hk, hp, .inl ⟨by omega, rfl⟩⟩
      have hl' : l = L.take k := by rw [← hp, List.take_of_length_le hge]
      rw [List.take_add, ← hl', List.length_cons, hdrop, List.take_succ_cons, ← ht, ← hx]

/-- What of a log was its leader's stays, and what was sent is there. -/
theorem taken_keeps {G : Gh} {L : List Itm} (hL : Chain G L) {items : List Itm} {k : Nat} {l : List Itm} {c : Int} (hl : Chain G l) (hk : k ≤ l.length) (hp : l.take k = L.take k) (hi : items = (L.drop k).take items.length) (hlen : k + items.length ≤ L.length) :
    Has (taken k items l c).1 L (k + items.length) ∧ (∀ m, Has l L m → m ≤ L.length → Has (taken k items l c).1 L m) ∧ (∀ m : Nat, c ≤ m → Has l L m → m ≤ L.length → (taken k items l c).2 = c) ∧
      ((taken k items l c).1 = l ∨ (taken k items l c).1 = L.take (k + items.length)) := by
  have hbound : ∀ j m, j ≤ l.length → l.take j = L.take j → (j = l.length ∨ ∃ (h : j < l.length) (h' : j < L.length), (l[j]).term ≠ (L[j]).term) → Has l L m → m ≤ j := by
    intro j m hj hjp hc hm
    rcases hc with rfl | ⟨h1, h2, h3⟩
    · exact hm.1
    · refine Nat.le_of_not_lt fun hlt => h3 ?_
      have e1 : l[j]? = (l.take m)[j]? := (List.getElem?_take_of_lt hlt).symm
      have e2 : L[j]? = (L.take m)[j]? := (List.getElem?_take_of_lt hlt).symm
      rw [hm.2, ← e2, List.getElem?_eq_getElem h1, List.getElem?_eq_getElem h2] at e1
      injection e1 with e1
      rw [e1]
  rcases taken_log2 hL items k l c hl hk hp hi hlen with ⟨h1, h2, h3, h4⟩ | ⟨h1, j, j1, j2, j3, j4, j5⟩
  · exact ⟨by rw [h1]; exact ⟨h3, h4⟩, fun m hm _ => by rw [h1]; exact hm, fun _ _ _ _ => h2, .inl h1⟩
  · have hj : ∀ m, Has l L m → m ≤ j := fun m hm => hbound j m j3 j4 (j5.elim (fun h => .inl h.1) fun h => .inr h.2) hm
    refine ⟨by rw [h1]; exact ⟨by rw [List.length_take]; omega, by rw [List.take_take, Nat.min_self]⟩, fun m hm hmL => ?_, fun m hcm hm hmL => ?_, .inr h1⟩
    · have := hj m hm
      rw [h1]
      exact ⟨by rw [List.length_take]; omega, by rw [List.take_take, Nat.min_eq_left (by omega)]⟩
    · have := hj m hm
      rcases j5 with h | ⟨h, _⟩
      · exact h.2
      · rw [h]; omega

def tookG (G : Gh) (i t : Int) (l : List Itm) (e : Nat) : Gh :=
  { G with ack := fun a b => if a = i ∧ b = t then max (G.ack i t) e else G.ack a b, hist := fun a b => if a = i ∧ t ≤ b then l else G.hist a b }

/-- The log of a follower has turned, by what the leader of its term has sent. -/
theorem took_goes {n : Int} {G : Gh} (hG : GInv n G) {x : Nod} (hx : NInv n G x) (hr : x.role = 1) {i : Int} {L : List Itm} (hl : G.ld x.term = some (i, L)) {l' : List Itm} {c : Int} {e : Nat}
    (hch : Chain G l') (hri : Rise l' x.term) (hhas : Has l' L e) (heL : e ≤ L.length) (hkeep : ∀ m, Has x.log L m → m ≤ L.length → Has l' L m) (hsure : ∀ G', Later G G' → Sured n G' x.term l' c) :
    GInv n (tookG G x.id x.term l' e) ∧ Later G (tookG G x.id x.term l' e) ∧ Turn x.id G (tookG G x.id x.term l' e) ∧ NInv n (tookG G x.id x.term l' e) { x with log := l', commit := c } := by
  have hak : ∀ {v t}, t ≠ x.term → (tookG G x.id x.term l' e).ack v t = G.ack v t := fun h => if_neg fun e => h e.2
  have hao : ∀ {v t}, v ≠ x.id → (tookG G x.id x.term l' e).ack v t = G.ack v t := fun h => if_neg fun e => h e.1
  have has : (tookG G x.id x.term l' e).ack x.id x.term = max (G.ack x.id x.term) e := if_pos ⟨rfl, rfl⟩
  have hhl : ∀ {v t}, t < x.term → (tookG G x.id x.term l' e).hist v t = G.hist v t := fun h => if_neg fun e => by have := e.2; omega
  have hho : ∀ {v t}, v ≠ x.id → (tookG G x.id x.term l' e).hist v t = G.hist v t := fun h => if_neg fun e => h e.1
  have hhs : ∀ {t}, x.term ≤ t → (tookG G x.id x.term l' e).hist x.id t = l' := fun h => if_pos ⟨rfl, h⟩
  have hL : Later G (tookG G x.id x.term l' e) := by
    refine ⟨fun t i L h => ⟨[], by rw [List.append_nil]; exact h, fun x hx => by simp at hx⟩, fun _ _ _ => rfl, fun v b => ?_, fun v t t' htt hv => ?_⟩
    · show G.ack v b ≤ if v = x.id ∧ b = x.term then max (G.ack x.id x.term) e else G.ack v b
      split
      · rename_i h; obtain ⟨rfl, rfl⟩ := h; omega
      · exact Nat.le_refl _
    · by_cases he : v = x.id
      · subst he
        refine hhl ?_
        refine Int.lt_of_not_ge fun hge => hv ?_
        exact (hx.later t' (by omega)).1
      · exact hho he
  have hack := hG.acks x.id x.term i L hl
  rw [hx.hist _ (Int.le_refl _)] at hack
  refine ⟨⟨fun t i L hti => ?_, fun v t => ?_, fun v t htn => ?_, fun v t j M hti => ?_, fun v t j M hti => ?_⟩, hL, ⟨fun v t hv => hho hv, fun _ _ _ => rfl, fun v t hv => hao hv, fun _ _ _ _ h => h⟩, ?_⟩
  · obtain ⟨k1, k2, k3, k4, k5, k6, k7, k8⟩ := hG.lead t i L hti
    rw [hL.hist i (t - 1) t (by omega) (by omega)]
    refine ⟨k1, k2, k3, k4.later hL, k5, k6, k7, k8.mono fun v hv => ?_⟩
    rw [hL.hist v (t - 1) t (by omega) (by omega)]
    exact hv
  · by_cases he : v = x.id ∧ x.term ≤ t
    · obtain ⟨rfl, he⟩ := he
      rw [hhs he]
      exact ⟨hch.later hL, hri.mono he⟩
    · have : (tookG G x.id x.term l' e).hist v t = G.hist v t := if_neg he
      rw [this]
      exact ⟨(hG.hist v t).1.later hL, (hG.hist v t).2⟩
  · have he : t ≠ x.term := fun e => by subst e; have h2 : G.ld x.term = none := htn; rw [hl] at h2; cases h2
    rw [hak he]
    obtain ⟨s1, s2⟩ := hG.still v t htn
    refine ⟨?_, s2⟩
    by_cases hv : v = x.id
    · subst hv
      rcases Int.lt_or_le t x.term with hlt | hge
      · rw [hhl hlt, hhl (by omega)]; exact s1
      · rw [hhs hge, hhs (by omega)]
    · rw [hho hv, hho hv]; exact s1
  · intro m hmL hmt hm
    by_cases hv : v = x.id
    · subst hv
      rcases Int.lt_or_le t x.term with hlt | hge
      · rw [hhl hlt]
        rw [hhl (by omega)] at hm
        exact hG.keep _ t j M hti m hmL hmt hm
      · rcases Int.lt_or_eq_of_le hge with hlt | heq
        · rw [hhs hge]
          rw [hhs (by omega)] at hm
          exact hm
        · subst heq
          have hti' : G.ld x.term = some (j, M) := hti
          rw [hl] at hti'
          injection hti' with hti'
          injection hti' with _ e2
          subst e2
          rw [hhl (by omega)] at hm
          have h2 := hG.keep _ _ _ _ hl m hmL hmt hm
          rw [hx.hist _ (Int.le_refl _)] at h2
          rw [hhs (Int.le_refl _)]
          exact hkeep m h2 hmL
    · rw [hho hv] at hm ⊢
      exact hG.keep v t j M hti m hmL hmt hm
  · by_cases hv : v = x.id
    · subst hv
      by_cases he : t = x.term
      · subst he
        have hti' : G.ld x.term = some (j, M) := hti
        rw [hl] at hti'
        injection hti' with hti'
        injection hti' with _ e2
        subst e2
        rw [has, hhs (Int.le_refl _)]
        refine ⟨by have := hack.1; omega, ?_⟩
        rcases Nat.le_total (G.ack x.id x.term) e with h1 | h1
        · rw [Nat.max_eq_right h1]; exact hhas
        · rw [Nat.max_eq_left h1]; exact hkeep _ hack.2 hack.1
      · rw [hak he]
        rcases Int.lt_or_le t x.term with hlt | hge
        · rw [hhl hlt]; exact hG.acks _ t j M hti
        · rw [(hx.later t (by omega)).2]
          exact ⟨Nat.zero_le _, Nat.zero_le _, by simp⟩
    · rw [hao hv, hho hv]
      exact hG.acks v t j M hti
  · refine ⟨fun t htt => hhs htt, hx.vote, fun t htt => ?_, fun h => by simp [hr] at h, fun h => by simp [hr] at h, hsure _ hL⟩
    have htt' : x.term < t := htt
    refine ⟨(hx.later t htt').1, ?_⟩
    show (tookG G x.id x.term l' e).ack x.id t = 0
    rw [hak (by omega)]
    exact (hx.later t htt').2

theorem noTells {n : Int} {G : Gh} {x : Nod} {m : Mes} {i : Int} : ∀ s ∈ [says x m false i], MInv n G s := by
  intro s hs
  simp at hs
  subst hs
  exact ⟨fun h => by simp [says] at h, fun h => by simp [says] at h, fun h => by simp [says] at h, fun _ h => by simp [says] at h⟩

theorem appended_goes {n : Int} {G : Gh} (hG : GInv n G) (hn : 0 ≤ n) {x : Nod} (hx : NInv n G x) (h1 : 1 ≤ x.id) {m : Mes} (hm : MInv n G m) (hk : m.kind = 3) (_ : m.src ≠ x.id) : Goes n G x (appended x m).1 (appended x m).2 := by
  unfold appended
  split
  · exact ⟨G, hG, Later.refl G, Turn.refl _ G, hx, noTells⟩
  rename_i hc
  obtain ⟨G1, a1, a2, a3, a4, _⟩ := follow_goes hG hx h1 m.term m.src
  have ht1 : (follow x m.term m.src).term = m.term := by unfold follow; simp only; split <;> omega
  have hid : (follow x m.term m.src).id = x.id := rfl
  have hrole : (follow x m.term m.src).role = 1 := rfl
  have hm1 := hm.later a2
  simp only
  generalize hy : follow x m.term m.src = y at *
  split
  · exact ⟨G1, a1, a2, a3, a4, noTells⟩
  rename_i hc2
  obtain ⟨L, l1, l2, l3, l4, l5, l6⟩ := hm1.sends hk
  obtain ⟨g1, _, _, g4, g5, _, _, _⟩ := a1.lead _ _ _ l1
  obtain ⟨k, hki⟩ : ∃ k : Nat, m.index = k := ⟨m.index.toNat, by omega⟩
  rw [hki, Int.toNat_natCast] at l4
  have hkt : m.index.toNat = k := by omega
  rw [hkt]
  have hy0 := a1.hist y.id y.term
  rw [a4.hist _ (Int.le_refl _)] at hy0
  obtain ⟨hy1, hy2⟩ := hy0
  have hkl : k ≤ y.log.length := by omega
  have hp : y.log.take k = L.take k := by
    rcases Nat.eq_zero_or_pos k with h0 | h0
    · subst h0; simp
    · have e : termAt y.log k = termAt L k := by
        have := l5 (by omega)
        rw [hki] at this hc2
        rw [← this]
        exact Decidable.byContradiction fun hne => hc2 (.inr ⟨hne, by omega⟩)
      rw [termAt_nat _ h0 hkl, termAt_nat _ h0 (by omega)] at e
      have := hy1.same g4 (k := k - 1) (by omega) (by omega) e
      rwa [show k - 1 + 1 = k by omega] at this
  obtain ⟨b1, b2, b3, b4⟩ := taken_keeps (c := y.commit) g4 hy1 hkl hp l4 (by omega)
  have hc1 : ∃ k0 : Nat, y.commit ≤ k0 ∧ Has y.log L k0 ∧ k0 ≤ L.length := by
    obtain ⟨s0, s1⟩ := a4.sure
    rcases s1 with s1 | ⟨t, k', i, M, q1, q2, q3, q4, q5⟩
    · exact ⟨0, by omega, ⟨Nat.zero_le _, by simp⟩, Nat.zero_le _⟩
    · have hh := a1.has hn q2 q3 (t' := m.term) (by omega) l1
      rcases Int.lt_or_le y.commit 0 with hneg | hpos
      · exact ⟨0, by omega, ⟨Nat.zero_le _, by simp⟩, Nat.zero_le _⟩
      · refine ⟨y.commit.toNat, by omega, ⟨by omega, ?_⟩, by have := hh.1; omega⟩
        rw [q5]
        exact (take_le hh.2 (by omega)).symm
  obtain ⟨k0, c0, c1, c2⟩ := hc1
  have hcm : (taken k m.items y.log y.commit).2 = y.commit := b3 k0 c0 c1 c2
  have hnew := b2 k0 c1 c2
  have hsure : ∀ G', Later G1 G' → Sured n G' y.term (taken k m.items y.log y.commit).1 (max (taken k m.items y.log y.commit).2 (min m.commit (m.index + m.items.length))) := by
    intro G' hG'
    refine Sured.later hG' (Int.le_refl _) ?_
    rw [hcm]
    have s1 : Sured n G1 y.term (taken k m.items y.log y.commit).1 y.commit := by
      obtain ⟨s0, s1⟩ := a4.sure
      refine ⟨by have := hnew.1; omega, s1.imp id ?_⟩
      rintro ⟨t, k', i, M, q1, q2, q3, q4, q5⟩
      refine ⟨t, k', i, M, q1, q2, q3, q4, ?_⟩
      rw [take_le hnew.2 (show y.commit.toNat ≤ k0 by omega), ← q5]
      exact (take_le c1.2 (by omega)).symm
    have s2 : Sured n G1 y.term (taken k m.items y.log y.commit).1 (min m.commit (m.index + m.items.length)) := by
      have := l6.less (c' := min m.commit (m.index + m.items.length)) (by omega)
      obtain ⟨t0, t1⟩ := this
      refine ⟨by have := b1.1; omega, t1.imp id ?_⟩
      rintro ⟨t, k', i, M, q1, q2, q3, q4, q5⟩
      refine ⟨t, k', i, M, by omega, q2, q3, q4, ?_⟩
      rw [← q5]
      exact take_le b1.2 (by omega)
    rcases Int.le_total y.commit (min m.commit (m.index + m.items.length)) with hle | hle
    · rw [Int.max_eq_right hle]; exact s2
    · rw [Int.max_eq_left hle]; exact s1
  have hri : Rise (taken k m.items y.log y.commit).1 y.term := by
    rcases b4 with h | h
    · rw [h]; exact hy2
    · rw [h, ht1]; exact g5.take _
  have hch : Chain G1 (taken k m.items y.log y.commit).1 := by
    rcases b4 with h | h
    · rw [h]; exact hy1
    · rw [h]; exact g4.take _
  rw [← ht1] at l1
  obtain ⟨d1, d2, d3, d4⟩ := took_goes a1 a4 hrole l1 hch hri b1 (by omega) b2 hsure
  refine ⟨_, d1, a2.trans d2, a3.trans (hid ▸ d3), d4, fun s hs => ?_⟩
  simp at hs
  subst hs
  refine ⟨fun h => by simp [says] at h, fun h => by simp [says] at h, fun h => by simp [says] at h, fun _ _ => ?_⟩
  show m.index + m.items.length ≤ ((tookG G1 y.id y.term (taken k m.items y.log y.commit).1 (k + m.items.length)).ack y.id y.term : Int)
  have : (tookG G1 y.id y.term (taken k m.items y.log y.commit).1 (k + m.items.length)).ack y.id y.term = max (G1.ack y.id y.term) (k + m.items.length) := if_pos ⟨rfl, rfl⟩
  rw [this]
  omega


/- ## A leader counts, puts, sends -/

theorem have_maj (l : List Int) (i : Int) : ∀ (off : Int), ∃ Q : List Int, Q.Nodup ∧ (∀ v ∈ Q, off < v ∧ v ≤ off + l.length ∧ ∃ (h : (v - off - 1).toNat < l.length), i ≤ l[(v - off - 1).toNat]) ∧ Q.length = have_ l i := by
  induction l with
  | nil => exact fun off => ⟨[], by simp, fun v hv => by simp at hv, by simp [have_]⟩
  | cons a t ih =>
    intro off
    obtain ⟨Q, h1, h2, h3⟩ := ih (off + 1)
    have hQ : ∀ v ∈ Q, off < v ∧ v ≤ off + (a :: t).length ∧ ∃ (h : (v - off - 1).toNat < (a :: t).length), i ≤ (a :: t)[(v - off - 1).toNat] := by
      intro v hv
      obtain ⟨k1, k2, k3, k4⟩ := h2 v hv
      simp only [List.length_cons]
      refine ⟨by omega, by omega, by omega, ?_⟩
      have e : (v - off - 1).toNat = (v - (off + 1) - 1).toNat + 1 := by omega
      simp only [e, List.getElem_cons_succ]
      exact k4
    by_cases ha : i ≤ a
    · refine ⟨(off + 1) :: Q, List.nodup_cons.2 ⟨fun hm => by have := (h2 _ hm).1; omega, h1⟩, fun v hv => ?_, ?_⟩
      · rcases List.mem_cons.1 hv with rfl | hv
        · have e : (off + 1 - off - 1).toNat = 0 := by omega
          simp only [e, List.length_cons, List.getElem_cons_zero]
          exact ⟨by omega, by omega, by omega, ha⟩
        · exact hQ v hv
      · simp only [List.length_cons, h3]
        unfold have_
        rw [List.filter_cons_of_pos (by simpa using ha), List.length_cons]
    · refine ⟨Q, h1, hQ, ?_⟩
      rw [h3]
      unfold have_
      rw [List.filter_cons_of_neg (by simpa using ha)]

theorem sure_goes {n : Int} {G : Gh} {x : Nod} (hx : NInv n G x) (hr : x.role = 3) (hml : (x.mtch.length : Int) = x.n) (hxn : x.n = n) : NInv n G (sure x) := by
  obtain ⟨c1, c2, c3⟩ := hx.lead hr
  refine hx.with rfl rfl rfl rfl (fun h => by have : x.role = 2 := h; omega) (fun _ => ⟨hr, c3⟩) ?_
  show Sured n G x.term x.log (sureAt x x.log.length)
  have key : ∀ k : Nat, k ≤ x.log.length → Sured n G x.term x.log (sureAt x k) := by
    intro k
    induction k with
    | zero => intro _; exact hx.sure
    | succ k ih =>
      intro hk
      unfold sureAt
      split
      · rename_i h1
        split
        · rename_i h2
          obtain ⟨Q, q1, q2, q3⟩ := have_maj x.mtch ((k : Int) + 1) 0
          refine ⟨by omega, .inr ⟨x.term, k + 1, x.id, x.log, Int.le_refl _, ⟨x.id, x.log, c1, by omega, hk, by rw [← h1.2]; congr 1, Q, q1, fun v hv => ?_, by omega⟩, c1, by omega, rfl⟩⟩
          obtain ⟨k1, k2, k3, k4⟩ := q2 v hv
          have := c3 _ k3
          rw [show (((v - 0 - 1).toNat : Int)) + 1 = v by omega] at this
          exact ⟨by omega, by omega, by omega⟩
        · exact ih (by omega)
      · exact hx.sure
  exact key _ (Nat.le_refl _)

theorem noted_ninv {n : Int} {G : Gh} {x : Nod} (hx : NInv n G x) (hr : x.role = 3) (h1 : 1 ≤ x.id) : NInv n G (noted x) := by
  obtain ⟨c1, c2, c3⟩ := hx.lead hr
  refine hx.with rfl rfl rfl rfl (fun h => by have : x.role = 2 := h; omega) (fun _ => ⟨hr, fun j hj => ?_⟩) hx.sure
  simp only [noted, List.getElem_set] at hj ⊢
  split
  · rename_i he
    rw [show (j : Int) + 1 = x.id by omega, c2]
    exact Int.le_refl _
  · exact c3 j (by simpa using hj)

theorem put_goes {n : Int} {G : Gh} (hG : GInv n G) {x : Nod} (hx : NInv n G x) (hg : Good x) (hr : x.role = 3) (hxn : x.n = n) (c : Int) : Goes n G x (put x c) [] := by
  have h1 := hg.id1
  obtain ⟨G1, a1, a2, a3, a4, _⟩ := grown_goes hG hx hr h1 c
  have e1 : (grown x c).role = 3 := by unfold grown; split <;> exact hr
  have e2 : (grown x c).id = x.id := by unfold grown; split <;> rfl
  have e3 : (grown x c).n = x.n := by unfold grown; split <;> rfl
  have e4 : (grown x c).mtch = x.mtch := by unfold grown; split <;> rfl
  have hml := hg.mtchl
  rw [if_pos hr] at hml
  exact ⟨G1, a1, a2, a3, sure_goes (noted_ninv a4 e1 (by omega)) e1 (by simp [noted, e3, e4]; exact hml) (by show (grown x c).n = n; omega), fun m hm => by simp at hm⟩

theorem at_eq {l : List Int} {k : Int} (h : (k - 1).toNat < l.length) : at_ l k = l[(k - 1).toNat] := by
  unfold at_; rw [List.getElem?_eq_getElem h]; rfl

theorem sends_minv {n : Int} {G : Gh} {x : Nod} (hx : NInv n G x) (hg : Good x) (hr : x.role = 3) {k : Int} (h1 : 1 ≤ k) (hk : k ≤ x.n) : MInv n G (sends x k) := by
  obtain ⟨c1, c2, c3⟩ := hx.lead hr
  have hnl := hg.nextl; have hml := hg.mtchl
  rw [if_pos hr] at hnl hml
  have hp := placesOk_at x.next x.mtch hg.places (by omega) (k - 1).toNat (by omega) (by omega)
  have ha : at_ x.next k = x.next[(k - 1).toNat]'(by omega) := at_eq (by omega)
  refine ⟨fun h => by simp [sends] at h, fun h => by simp [sends] at h, fun _ => ⟨x.log, c1, ?_, ?_, ?_, fun _ => rfl, hx.sure⟩, fun h => by simp [sends] at h⟩
  · simp only [sends]; omega
  · simp only [sends, List.length_take, List.length_drop]; omega
  · simp only [sends, List.length_take, List.length_drop]
    rw [List.take_eq_take_iff, List.length_drop]
    omega

theorem Goes.says {n : Int} {G : Gh} {x y : Nod} {ms : List Mes} (h : Goes n G x y []) (hs : ∀ G', NInv n G' y → ∀ m ∈ ms, MInv n G' m) : Goes n G x y ms := by
  obtain ⟨G1, a1, a2, a3, a4, _⟩ := h
  exact ⟨G1, a1, a2, a3, a4, hs G1 a4⟩

theorem all_minv {n : Int} {x : Nod} (hg : Good x) (hr : x.role = 3) (G' : Gh) (hx : NInv n G' x) : ∀ m ∈ (others x).map (sends x), MInv n G' m := by
  intro m hm
  rw [List.mem_map] at hm
  obtain ⟨k, hk, rfl⟩ := hm
  obtain ⟨k1, k2, _⟩ := mem_others hk
  exact sends_minv hx hg hr k1 k2

theorem putAll_goes {n : Int} {G : Gh} (hG : GInv n G) {x : Nod} (hx : NInv n G x) (hg : Good x) (hr : x.role = 3) (hxn : x.n = n) (c : Int) : Goes n G x (put x c) (putSays x c) :=
  (put_goes hG hx hg hr hxn c).says (all_minv (put_good c hg (hg.fresh (by omega))) ((put_fields x c).2.2.2.2.1.trans hr))

theorem votes_maj {x : Nod} (hg : Good x) (h : x.n < 2 * (x.votes.length : Int)) : Maj x.n fun v => v ∈ x.votes := by
  obtain ⟨h1, h2⟩ := votesOk_rising _ _ hg.votes
  exact ⟨x.votes, h1.imp fun hab => by omega, fun v hv => ⟨(h2 v hv).2.1, (h2 v hv).2.2, hv⟩, h⟩

theorem lead_goes {n : Int} {G : Gh} (hG : GInv n G) {x : Nod} (hx : NInv n G x) (hg : Good x) (hr : x.role = 2) (hxn : x.n = n) : Goes n G x (lead x) (leadSays x) := by
  unfold lead leadSays
  split
  · rename_i hm
    have hft := hg.fresh (by omega)
    have ht0 := hg.term0
    have hc := crowned_goes hG (by have := hg.n1; omega) hx hr hg.id1 (by have := hg.idn; omega) (by omega) (hxn ▸ votes_maj hg hm)
    have := hc.trans rfl (z := put (crowned x) 0) (ms' := putSays (crowned x) 0) fun G' g1 _ g3 => putAll_goes g1 g3 (crowned_good hg hft) rfl hxn 0
    rwa [List.nil_append] at this
  · exact .refl hG hx

theorem timeout_goes {n : Int} {G : Gh} (hG : GInv n G) {x : Nod} (hx : NInv n G x) (hg : Good x) (hxn : x.n = n) : Goes n G x (timeout x).1 (timeout x).2 := by
  unfold timeout
  split
  · exact .refl hG hx
  · rename_i hc
    have hr : x.role ≠ 3 := fun h => hc (.inr (.inl h))
    exact (stood_goes hG hx hg.id1).trans rfl fun G' g1 _ g3 => lead_goes g1 g3 (stood_good hg hr fun h => hc (.inr (.inr h))) rfl hxn

theorem beat_goes {n : Int} {G : Gh} (hG : GInv n G) {x : Nod} (hx : NInv n G x) (hg : Good x) : Goes n G x (beat x).1 (beat x).2 := by
  unfold beat
  split
  · exact .refl hG hx
  · rename_i hc
    exact (Goes.refl hG hx).says (all_minv hg (by omega))

theorem propose_goes {n : Int} {G : Gh} (hG : GInv n G) {x : Nod} (hx : NInv n G x) (hg : Good x) (hxn : x.n = n) (c : Int) : Goes n G x (propose x c).1 (propose x c).2.1 := by
  unfold propose
  split
  · exact .refl hG hx
  · rename_i hc
    exact putAll_goes hG hx hg (by omega) hxn c

theorem mem_insertB {k v : Int} : ∀ {l : List Int}, v ∈ insertB k l → v = k ∨ v ∈ l
  | [], h => by simp [insertB] at h; exact .inl h
  | a :: t, h => by
    unfold insertB at h
    split at h
    · rcases List.mem_cons.1 h with h | h
      · exact .inr (by rw [h]; exact List.mem_cons_self ..)
      · rcases mem_insertB h with h | h
        · exact .inl h
        · exact .inr (List.mem_cons_of_mem _ h)
    split at h
    · exact .inr h
    · rcases List.mem_cons.1 h with h | h
      · exact .inl h
      · exact .inr h

theorem voted_goes {n : Int} {G : Gh} (hG : GInv n G) {x : Nod} (hx : NInv n G x) (hg : Good x) (hxn : x.n = n) {m : Mes} (hm : MInv n G m) (hk : m.kind = 2) (hf : Fits x m) : Goes n G x (voted x m).1 (voted x m).2 := by
  unfold voted
  split
  · exact .refl hG hx
  · rename_i hc
    have hr : x.role = 2 := by omega
    have ht : m.term = x.term := by omega
    have hyes : m.yes = true := by
      cases h : m.yes
      · exact absurd (.inr (.inr h)) hc
      · rfl
    obtain ⟨m1, m2, m3, m4⟩ := hm.votes hk hyes
    obtain ⟨c1, c2, c3, c4⟩ := hx.cand hr
    have hgy : Good { x with votes := insertB m.src x.votes } := { hg with votes0 := fun _ => hr, votes := insertB_ok hf.src1 hf.srcn _ _ (by have := hf.src1; omega) hg.votes }
    have hN : NInv n G { x with votes := insertB m.src x.votes } := hx.with rfl rfl rfl rfl (fun _ => ⟨hr, fun v hv => ?_⟩) (fun h => ⟨h, fun j hj => by have h' : x.role = 3 := h; omega⟩) hx.sure
    · have := lead_goes hG hN hgy hr hxn
      exact this
    rcases mem_insertB hv with rfl | hv
    · right
      rw [ht, hf.dst] at m3 m4
      exact ⟨m3, fun hl => by rw [c2]; exact m4 hl⟩
    · exact .inl hv

theorem told_goes {n : Int} {G : Gh} (hG : GInv n G) {x : Nod} (hx : NInv n G x) (hg : Good x) (hxn : x.n = n) {m : Mes} (hm : MInv n G m) (hk : m.kind = 4) (hf : Fits x m) : Goes n G x (told x m).1 (told x m).2 := by
  have hgt := told_good hg hf
  have h1 := hf.src1; have h2 := hf.srcn
  unfold told at hgt ⊢
  split
  · exact .refl hG hx
  rename_i hc
  rw [if_neg hc] at hgt
  have hr : x.role = 3 := by omega
  have ht : m.term = x.term := by omega
  obtain ⟨c1, c2, c3⟩ := hx.lead hr
  have hml := hg.mtchl
  rw [if_pos hr] at hml
  split
  · rename_i hyes
    rw [if_pos hyes] at hgt
    have hy := hm.tells hk hyes
    rw [ht] at hy
    have hN : NInv n G (hears x m) := by
      refine sure_goes (hx.with rfl rfl rfl rfl (fun h => by have : x.role = 2 := h; omega) (fun _ => ⟨hr, fun j hj => ?_⟩) hx.sure) hr (by simpa using hml) hxn
      simp only [List.getElem_set] at hj ⊢
      have hj' : j < x.mtch.length := by simpa using hj
      split
      · rename_i he
        have e : (j : Int) + 1 = m.src := by omega
        rw [e, at_eq (by omega)]
        have := c3 j hj'
        rw [e] at this
        have e2 : x.mtch[(m.src - 1).toNat]'(by omega) = x.mtch[j] := by congr 1
        omega
      · exact c3 j hj'
    refine (Goes.refl hG hN |> fun _ => (⟨G, hG, Later.refl G, Turn.refl _ G, hN, fun s hs => ?_⟩ : Goes n G x _ _))
    simp only at hs
    split at hs
    · simp at hs; subst hs
      exact sends_minv hN hgt hr h1 h2
    · simp at hs
  · rename_i hno
    rw [if_neg hno] at hgt
    have hN : NInv n G (backs x m) := hx.with rfl rfl rfl rfl (fun h => by have : x.role = 2 := h; omega) (fun _ => ⟨hr, c3⟩) hx.sure
    refine ⟨G, hG, Later.refl G, Turn.refl _ G, hN, fun s hs => ?_⟩
    simp at hs; subst hs
    exact sends_minv hN hgt hr h1 h2

theorem receive_goes {n : Int} {G : Gh} (hG : GInv n G) {x : Nod} (hx : NInv n G x) (hg : Good x) (hxn : x.n = n) {m : Mes} (hm : MInv n G m) : Goes n G x (receive x m).1 (receive x m).2 := by
  unfold receive
  split
  · exact .refl hG hx
  rename_i hc
  have hl : lost x m = false := by
    cases h : lost x m
    · rfl
    · exact absurd (.inr h) hc
  have hf := fits_of_lost hl
  have hy : Goes n G x (if x.term < m.term then follow x m.term 0 else x) [] ∧ Good (if x.term < m.term then follow x m.term 0 else x) ∧ Fits (if x.term < m.term then follow x m.term 0 else x) m ∧
      (if x.term < m.term then follow x m.term 0 else x).id = x.id ∧ (if x.term < m.term then follow x m.term 0 else x).n = x.n := by
    split
    · exact ⟨follow_goes hG hx hg.id1 _ _, follow_good hg hf.termn (by omega) (by have := hg.n1; omega), { hf with }, rfl, rfl⟩
    · exact ⟨.refl hG hx, hg, hf, rfl, rfl⟩
  generalize (if x.term < m.term then follow x m.term 0 else x) = y at hy
  obtain ⟨y1, y2, y3, y4, y5⟩ := hy
  have hne := y3.srcne
  have hn1 := y2.n1
  simp only
  split
  · rename_i hk
    have := y1.trans y4 (z := (asked y m).1) (ms' := (asked y m).2) fun G' g1 g2 g3 => asked_goes g1 g3 y2.id1 (hm.later g2) hk hne
    rwa [List.nil_append] at this
  split
  · rename_i hk
    have := y1.trans y4 (z := (voted y m).1) (ms' := (voted y m).2) fun G' g1 g2 g3 => voted_goes g1 g3 y2 (y5.trans hxn) (hm.later g2) hk y3
    rwa [List.nil_append] at this
  split
  · rename_i hk
    have := y1.trans y4 (z := (appended y m).1) (ms' := (appended y m).2) fun G' g1 g2 g3 => appended_goes g1 (by omega) g3 y2.id1 (hm.later g2) hk hne
    rwa [List.nil_append] at this
  · rename_i k1 k2 k3
    have hk4 : m.kind = 4 := by have := y3.kind1; have := y3.kind4; omega
    have := y1.trans y4 (z := (told y m).1) (ms' := (told y m).2) fun G' g1 g2 g3 => told_goes g1 g3 y2 (y5.trans hxn) (hm.later g2) hk4 y3
    rwa [List.nil_append] at this

end Go.Proofs.Ytibjbpakbfodaaa
namespace Go.Proofs.Ytibjbpakbfodaaa

/- ## The cluster -/

structure WInv (n : Int) (G : Gh) (w : Wld) : Prop where
  g : GInv n G
  nodes : ∀ i (h : i < w.nodes.length), NInv n G w.nodes[i]
  net : ∀ m ∈ w.net, MInv n G m

/-- Nothing has been yet. -/
def noGh : Gh := ⟨fun _ => none, fun _ _ => [], fun _ _ => 0, fun _ _ => 0⟩

theorem firstWld_inv (n : Int) : WInv n noGh (firstWld n) := by
  refine ⟨⟨fun t i L h => by simp [noGh] at h, fun v t => ⟨fun k hk => by simp [noGh] at hk, by simp [noGh, Rise]⟩, fun v t _ => ⟨rfl, rfl⟩, fun v t i L h => by simp [noGh] at h, fun v t i L h => by simp [noGh] at h⟩, fun i hi => ?_, fun m hm => by simp [firstWld] at hm⟩
  simp only [firstWld, List.getElem_map, List.getElem_range]
  exact ⟨fun _ _ => rfl, rfl, fun _ _ => ⟨rfl, rfl⟩, fun h => by simp [start] at h, fun h => by simp [start] at h, ⟨by simp [start], .inl (Int.le_refl _)⟩⟩

theorem WInv.set {n : Int} {G : Gh} {w : Wld} (hs : Sound n w) (h : WInv n G w) {i : Nat} {x y : Nod} (hx : w.nodes[i]? = some x) {ms : List Mes} (hg : Goes n G x y ms) {net : List Mes} (hn : ∀ m ∈ net, m ∈ w.net ∨ m ∈ ms) :
    ∃ G', WInv n G' ⟨w.nodes.set i y, net⟩ ∧ Later G G' := by
  obtain ⟨hi, rfl⟩ := List.getElem?_eq_some_iff.1 hx
  obtain ⟨G', a1, a2, a3, a4, a5⟩ := hg
  refine ⟨G', ⟨a1, fun j hj => ?_, fun m hm => ?_⟩, a2⟩
  · have hj' : j < w.nodes.length := by simpa using hj
    simp only [List.getElem_set]
    split
    · exact a4
    · rename_i hne
      have e1 := hs.id i hi
      have e2 := hs.id j hj'
      exact (h.nodes j hj').other a2 a3 (by rw [e1, e2]; omega) (by rw [e2]; omega)
  · rcases hn m hm with h1 | h1
    · exact (h.net m h1).later a2
    · exact a5 m h1

theorem mem_trim {l : List Mes} {m : Mes} (h : m ∈ trim l) : m ∈ l := List.mem_of_mem_drop h

theorem acted_goes {n : Int} {G : Gh} (hG : GInv n G) {x : Nod} (hx : NInv n G x) (hg : Good x) (hxn : x.n = n) (e : Evt) : Goes n G x (acted x e).1 (acted x e).2 := by
  unfold acted
  split
  · exact timeout_goes hG hx hg hxn
  split
  · exact beat_goes hG hx hg
  split
  · exact propose_goes hG hx hg hxn e.pick
  · exact restart_goes hG hx hg.id1

theorem cstep_inv {n : Int} {G : Gh} {w : Wld} (hs : Sound n w) (h : WInv n G w) (e : Evt) : ∃ G', WInv n G' (cstep w e) ∧ Later G G' := by
  have hsub : ∀ {net : List Mes}, (∀ m ∈ net, m ∈ w.net) → ∃ G', WInv n G' ⟨w.nodes, trim net⟩ ∧ Later G G' := fun hn => ⟨G, ⟨h.g, h.nodes, fun m hm => h.net m (hn m (mem_trim hm))⟩, Later.refl G⟩
  unfold cstep
  split
  · split
    · exact ⟨G, h, Later.refl G⟩
    · split
      · exact ⟨G, h, Later.refl G⟩
      · rename_i x hx
        obtain ⟨hi, rfl⟩ := List.getElem?_eq_some_iff.1 hx
        refine h.set hs hx (acted_goes h.g (h.nodes _ hi) (hs.good _ hi) (hs.n _ hi) e) fun m hm => ?_
        exact List.mem_append.1 (mem_trim hm)
  split
  · split
    · exact ⟨G, h, Later.refl G⟩
    split
    · exact ⟨G, h, Later.refl G⟩
    · rename_i m hm
      have hmem : m ∈ w.net := List.mem_of_getElem? hm
      have hnet : ∀ s ∈ (if e.kind = 5 then w.net else w.net.eraseIdx e.pick.toNat), s ∈ w.net := by
        intro s hs
        split at hs
        · exact hs
        · exact List.mem_of_mem_eraseIdx hs
      simp only
      split
      · exact hsub hnet
      · split
        · exact hsub hnet
        · rename_i x hx
          obtain ⟨hi, rfl⟩ := List.getElem?_eq_some_iff.1 hx
          refine h.set hs hx (receive_goes h.g (h.nodes _ hi) (hs.good _ hi) (hs.n _ hi) (h.net m hmem)) fun s hs' => ?_
          rcases List.mem_append.1 (mem_trim hs') with h1 | h1
          · exact .inl (hnet s h1)
          · exact .inr h1
  · exact hsub fun m hm => hm

/- ## What is seen of a world -/

theorem WInv.mem {n : Int} {G : Gh} {w : Wld} (h : WInv n G w) {x : Nod} (hx : x ∈ w.nodes) : NInv n G x := by
  obtain ⟨i, hi, rfl⟩ := List.mem_iff_getElem.1 hx
  exact h.nodes i hi

/-- A leader of a term is the one that has been known to lead in it. -/
theorem WInv.leads {n : Int} {G : Gh} {w : Wld} (h : WInv n G w) {x : Nod} (hx : x ∈ w.nodes) (hr : x.role = 3) : G.ld x.term = some (x.id, x.log) := ((h.mem hx).lead hr).1

/-- The leaders that have been noted. -/
def LedOk (G : Gh) (led : Int → Option Int) : Prop := ∀ t k, led t = some k → ∃ L, G.ld t = some (k, L)
theorem LedOk.later {G G' : Gh} (h : Later G G') {led : Int → Option Int} (hl : LedOk G led) : LedOk G' led := fun t k hk => by
  obtain ⟨L, h1⟩ := hl t k hk
  obtain ⟨D, h2, _⟩ := h.ld _ _ _ h1
  exact ⟨_, h2⟩
theorem LedOk.one {n : Int} {G : Gh} {w : Wld} (h : WInv n G w) {led : Int → Option Int} (hl : LedOk G led) {x : Nod} (hx : x ∈ w.nodes) (hr : x.role = 3) : (∀ k, led x.term = some k → k = x.id) ∧ LedOk G (fun t => if t = x.term then some x.id else led t) := by
  have hL := h.leads hx hr
  refine ⟨fun k hk => ?_, fun t k hk => ?_⟩
  · obtain ⟨L, h1⟩ := hl _ _ hk
    rw [hL] at h1
    injection h1 with h1
    injection h1 with h1 _
    exact h1.symm
  · simp only at hk
    split at hk
    · rename_i e
      subst e
      injection hk with hk
      subst hk
      exact ⟨_, hL⟩
    · exact hl t k hk

/-- Two logs with an item of the same term at the same place are the same up to there. -/
theorem WInv.logs {n : Int} {G : Gh} {w : Wld} (h : WInv n G w) {a b : Nod} (ha : a ∈ w.nodes) (hb : b ∈ w.nodes) {i : Nat} (hia : i < a.log.length) (hib : i < b.log.length) (he : (a.log[i]).term = (b.log[i]).term) : a.log.take (i + 1) = b.log.take (i + 1) := by
  have e1 := (h.mem ha).hist _ (Int.le_refl _)
  have e2 := (h.mem hb).hist _ (Int.le_refl _)
  have c1 := (h.g.hist a.id a.term).1
  have c2 := (h.g.hist b.id b.term).1
  rw [e1] at c1
  rw [e2] at c2
  exact c1.same c2 hia hib he

/-- What has been noted as sure, in terms up to T. -/
def SureOk (n : Int) (G : Gh) (T : Int) (s : List Itm) : Prop := Sured n G T s s.length
theorem SureOk.later {n : Int} {G G' : Gh} (h : Later G G') {T T' : Int} (hT : T ≤ T') {s : List Itm} (hs : SureOk n G T s) : SureOk n G' T' s := Sured.later h hT hs
theorem sureOk_nil (n : Int) (G : Gh) (T : Int) : SureOk n G T [] := ⟨by simp, .inl (by simp)⟩

theorem SureOk.log {n : Int} {G : Gh} {w : Wld} (h : WInv n G w) {x : Nod} (hx : x ∈ w.nodes) {k : Nat} (hk : (k : Int) ≤ x.commit) : SureOk n G x.term (x.log.take k) := by
  have hs := (h.mem hx).sure.less (c' := k) hk
  obtain ⟨h0, h1⟩ := hs
  refine ⟨Int.le_refl _, ?_⟩
  have hl : (x.log.take k).length = k := by rw [List.length_take]; omega
  rw [hl]
  refine h1.imp id ?_
  rintro ⟨t, k', i, L, q1, q2, q3, q4, q5⟩
  refine ⟨t, k', i, L, q1, q2, q3, q4, ?_⟩
  rw [← q5, Int.toNat_natCast, List.take_take, Nat.min_self]

/-- What is noted as sure and what a node counts as sure agree, place by place. -/
theorem SureOk.agree {n : Int} {G : Gh} {w : Wld} (hn : 0 ≤ n) (h : WInv n G w) {T : Int} {s : List Itm} (hs : SureOk n G T s) {x : Nod} (hx : x ∈ w.nodes) {i : Nat} (hi : (i : Int) < x.commit) (hi' : i < s.length) : s[i]? = x.log[i]? := by
  have := Sured.agree h.g hn hs (h.mem hx).sure
  have e1 : s[i]? = (s.take (min (s.length : Int) x.commit).toNat)[i]? := (List.getElem?_take_of_lt (by omega)).symm
  have e2 : x.log[i]? = (x.log.take (min (s.length : Int) x.commit).toNat)[i]? := (List.getElem?_take_of_lt (by omega)).symm
  rw [e1, e2, this]

/-- Whoever leads in a later term has all that was noted as sure. -/
theorem SureOk.led {n : Int} {G : Gh} {w : Wld} (hn : 0 ≤ n) (h : WInv n G w) {T : Int} {s : List Itm} (hs : SureOk n G T s) {x : Nod} (hx : x ∈ w.nodes) (hr : x.role = 3) (ht : T < x.term) : s.length ≤ x.log.length ∧ x.log.take s.length = s := by
  have hl := h.leads hx hr
  obtain ⟨h0, h1⟩ := hs
  rcases h1 with h1 | ⟨t, k, i, L, q1, q2, q3, q4, q5⟩
  · have : s = [] := List.eq_nil_of_length_eq_zero (by omega)
    subst this
    simp
  · have hh := h.g.has hn q2 q3 (by omega) hl
    refine ⟨by have := hh.1; omega, ?_⟩
    rw [take_le hh.2 (by omega)]
    rw [Int.toNat_natCast, List.take_length] at q5
    exact q5.symm

end Go.Proofs.Ytibjbpakbfodaaa
namespace Go.Proofs.Ytibjbpakbfodaaa

/-- The oldest message comes. -/
def dlv : Evt := ⟨4, 0, 0⟩

/-- Messages come as long as there are any, up to so many. -/
def calmN : Nat → Wld → Wld
  | 0, w => w
  | k + 1, w => if w.net.length = 0 then w else calmN k (cstep w dlv)

theorem calmN_none {w : Wld} (h : w.net = []) : ∀ k, calmN k w = w
  | 0 => rfl
  | k + 1 => by unfold calmN; rw [if_pos (by rw [h]; rfl)]

theorem calmN_succ (k : Nat) (w : Wld) : calmN (k + 1) w = if w.net.length = 0 then w else calmN k (cstep w dlv) := rfl

theorem calmN_add : ∀ (a b : Nat) (w : Wld), calmN (a + b) w = calmN b (calmN a w)
  | 0, b, w => by rw [Nat.zero_add]; rfl
  | a + 1, b, w => by
    rw [show a + 1 + b = (a + b) + 1 by omega, calmN_succ, calmN_succ a]
    split
    · rename_i h
      exact (calmN_none (List.eq_nil_of_length_eq_zero h) b).symm
    · exact calmN_add a b _

theorem calmN_sound {n : Int} : ∀ (k : Nat) {w : Wld}, Sound n w → Sound n (calmN k w)
  | 0, _, h => h
  | k + 1, w, h => by
    rw [calmN_succ]
    split
    · exact h
    · exact calmN_sound k (cstep_sound h _)

end Go.Proofs.Ytibjbpakbfodaaa
namespace Go.Proofs.Ytibjbpakbfodaaa

/- ## Nodes by number -/

def Wld.nd (w : Wld) (k : Int) : Nod := (w.nodes[(k - 1).toNat]?).getD (start 0 0)

theorem Sound.nd_eq {n : Int} {w : Wld} (h : Sound n w) {k : Int} (h1 : 1 ≤ k) (hn : k ≤ n) : ∃ (hk : (k - 1).toNat < w.nodes.length), w.nd k = w.nodes[(k - 1).toNat] := by
  have := h.len
  have hk : (k - 1).toNat < w.nodes.length := by omega
  exact ⟨hk, by unfold Wld.nd; rw [List.getElem?_eq_getElem hk]; rfl⟩
theorem Sound.nd_good {n : Int} {w : Wld} (h : Sound n w) {k : Int} (h1 : 1 ≤ k) (hn : k ≤ n) : Good (w.nd k) ∧ (w.nd k).id = k ∧ (w.nd k).n = n ∧ w.nd k ∈ w.nodes := by
  obtain ⟨hk, e⟩ := h.nd_eq h1 hn
  rw [e]
  exact ⟨h.good _ hk, by rw [h.id _ hk]; omega, h.n _ hk, List.getElem_mem hk⟩

theorem nd_set {n : Int} {w : Wld} (h : Sound n w) {j k : Int} (hj : 1 ≤ j) (hjn : j ≤ n) (hk : 1 ≤ k) (y : Nod) (net : List Mes) : (Wld.mk (w.nodes.set (j - 1).toNat y) net).nd k = if k = j then y else w.nd k := by
  have := h.len
  unfold Wld.nd
  simp only [List.getElem?_set]
  by_cases e : k = j
  · subst e
    rw [if_pos rfl, if_pos rfl, if_pos (by omega)]
    rfl
  · rw [if_neg (by omega), if_neg e]

theorem trim_small {l : List Mes} (h : l.length ≤ 60) : trim l = l := by unfold trim; rw [show l.length - 60 = 0 by omega]; rfl

theorem dlv_step {n : Int} {w : Wld} (h : Sound n w) {m : Mes} {rest : List Mes} (hnet : w.net = m :: rest) (h1 : 1 ≤ m.dst) (hn : m.dst ≤ n) :
    cstep w dlv = ⟨w.nodes.set (m.dst - 1).toNat (receive (w.nd m.dst) m).1, trim (rest ++ (receive (w.nd m.dst) m).2)⟩ := by
  obtain ⟨hk, e⟩ := h.nd_eq h1 hn
  have hl := h.len
  rw [e]
  unfold cstep dlv
  have hs : spotOf w m.dst = some (m.dst - 1).toNat := by unfold spotOf; rw [if_neg (by omega)]
  have h0 : w.net[(0 : Int).toNat]? = some m := by rw [hnet]; rfl
  have h2 : ¬ ((0 : Int) < 0 ∨ (w.net.length : Int) ≤ 0) := by rw [hnet]; simp
  have h3 : w.net.eraseIdx (0 : Int).toNat = rest := by rw [hnet]; rfl
  rw [if_neg (by simp), if_pos (by simp), if_neg h2]
  simp only [h0, show ¬ ((4 : Int) = 5) by omega, show ¬ ((4 : Int) = 6) by omega, if_false, h3, hs, List.getElem?_eq_getElem hk]

/- ## The cost of what is on its way -/

def c3 (L mt nx : Int) : Nat := (2 * (L - mt) + 2 * (nx - 1 - mt) + 2).toNat

def cost (L : Int) (x : Nod) (m : Mes) : Nat :=
  if m.kind = 1 then 2 else if m.kind = 2 then 1
  else if m.kind = 3 then c3 L (at_ x.mtch m.dst) (at_ x.next m.dst)
  else if m.yes then (2 * (L - m.index) + 3).toNat else c3 L (at_ x.mtch m.src) (at_ x.next m.src) - 1

theorem cost_one {L : Int} {x : Nod} {m : Mes} (h : m.kind = 1) : cost L x m = 2 := by unfold cost; rw [if_pos h]
theorem cost_two {L : Int} {x : Nod} {m : Mes} (h : m.kind = 2) : cost L x m = 1 := by unfold cost; rw [if_neg (by omega), if_pos h]
theorem cost_three {L : Int} {x : Nod} {m : Mes} (h : m.kind = 3) : cost L x m = c3 L (at_ x.mtch m.dst) (at_ x.next m.dst) := by unfold cost; rw [if_neg (by omega), if_neg (by omega), if_pos h]
theorem cost_four {L : Int} {x : Nod} {m : Mes} (h : m.kind = 4) : cost L x m = if m.yes then (2 * (L - m.index) + 3).toNat else c3 L (at_ x.mtch m.src) (at_ x.next m.src) - 1 := by unfold cost; rw [if_neg (by omega), if_neg (by omega), if_neg (by omega)]

def costs (L : Int) (x : Nod) : List Mes → Nat
  | [] => 0
  | m :: t => cost L x m + costs L x t

theorem costs_append (L : Int) (x : Nod) : ∀ (a b : List Mes), costs L x (a ++ b) = costs L x a + costs L x b
  | [], b => by simp [costs]
  | m :: t, b => by simp only [List.cons_append, costs, costs_append L x t b]; omega
theorem costs_congr {L : Int} {x y : Nod} : ∀ {l : List Mes}, (∀ m ∈ l, cost L y m = cost L x m) → costs L y l = costs L x l
  | [], _ => rfl
  | m :: t, h => by
    simp only [costs]
    rw [h m (List.mem_cons_self ..), costs_congr fun s hs => h s (List.mem_cons_of_mem _ hs)]
theorem costs_le {L : Int} {x : Nod} {c : Nat} : ∀ {l : List Mes}, (∀ m ∈ l, cost L x m ≤ c) → costs L x l ≤ l.length * c
  | [], _ => by simp [costs]
  | m :: t, h => by
    have h1 := h m (List.mem_cons_self ..)
    have h2 := costs_le (L := L) (x := x) (c := c) (l := t) fun s hs => h s (List.mem_cons_of_mem _ hs)
    simp only [costs, List.length_cons, Nat.add_mul, Nat.one_mul]
    omega

/- ## A leader, and those that follow -/

def peerOf (m : Mes) : Int := if m.kind = 3 then m.dst else m.src

/-- What is on its way is as it must be. -/
structure Tok (n id T : Int) (LL : List Itm) (x : Nod) (y : Nod) (m : Mes) : Prop where
  term : m.term = T
  p1 : 1 ≤ (if m.kind = 1 then m.dst else peerOf m)
  pn : (if m.kind = 1 then m.dst else peerOf m) ≤ n
  pne : (if m.kind = 1 then m.dst else peerOf m) ≠ id
  k1 : 1 ≤ m.kind
  k4 : m.kind ≤ 4
  asks : m.kind = 1 → m.src = id
  votes : m.kind = 2 → m.dst = id
  sends : m.kind = 3 → m.src = id ∧ m.index = at_ x.next m.dst - 1 ∧ m.logTerm = termAt LL m.index ∧ m.items = (LL.drop m.index.toNat).take 3 ∧ 0 ≤ m.commit ∧ at_ x.mtch m.dst ≤ m.index ∧ m.index < LL.length
  tells : m.kind = 4 → m.dst = id ∧ y.term = T ∧ m.logTerm = 0 ∧ m.items = [] ∧ m.commit = 0
  yes : m.kind = 4 → m.yes = true → m.index ≤ LL.length ∧ at_ x.mtch m.src < m.index ∧ Has y.log LL m.index.toNat ∧ (m.index = LL.length → y.log = LL)
  no : m.kind = 4 → m.yes = false → at_ x.mtch m.src ≤ m.index ∧ m.index + 1 < at_ x.next m.src ∧ at_ x.next m.src ≤ LL.length

/-- It has all, and the leader knows. -/
structure Done (LL : List Itm) (x y : Nod) (k : Int) : Prop where
  log : y.log = LL
  mt : at_ x.mtch k = LL.length
  nx : at_ x.next k = LL.length + 1

/-- The one whose turn it is: of the message. -/
def atOf (m : Mes) : Int := if m.kind = 1 then m.dst else peerOf m

structure Led (n id T : Int) (LL : List Itm) (w : Wld) : Prop where
  sound : Sound n w
  inv : ∃ G, WInv n G w
  id1 : 1 ≤ id
  idn : id ≤ n
  role : (w.nd id).role = 3
  term : (w.nd id).term = T
  log : (w.nd id).log = LL
  last : lastT LL = T
  len : 0 < LL.length
  own : at_ (w.nd id).mtch id = LL.length
  com : (w.nd id).commit = LL.length ∨ ¬ n < 2 * (have_ (w.nd id).mtch LL.length : Int)
  terms : ∀ k, 1 ≤ k → k ≤ n → (w.nd k).term ≤ T
  has : ∀ k, 1 ≤ k → k ≤ n → k ≠ id → Has (w.nd k).log LL (at_ (w.nd id).mtch k).toNat
  net8 : w.net.length ≤ 10
  toks : ∀ m ∈ w.net, Tok n id T LL (w.nd id) (w.nd (atOf m)) m
  uniq : w.net.Pairwise fun a b => 3 ≤ a.kind → 3 ≤ b.kind → peerOf a ≠ peerOf b
  all : ∀ k, 1 ≤ k → k ≤ n → k ≠ id → (∃ m ∈ w.net, 3 ≤ m.kind ∧ peerOf m = k) ∨ Done LL (w.nd id) (w.nd k) k

theorem atOf_tok {m : Mes} (h : m.kind ≠ 1) : atOf m = peerOf m := by unfold atOf; rw [if_neg h]

set_option maxHeartbeats 2000000 in
/-- A step, told by what it changes: only what concerns node p. -/
theorem Led.step {n id T : Int} {LL : List Itm} {w w' : Wld} (h : Led n id T LL w) {m : Mes} {rest out : List Mes} (hnet : w.net = m :: rest) (hs' : Sound n w') (hi' : ∃ G, WInv n G w') (hnet' : w'.net = rest ++ out)
    (p : Int) (_ : 1 ≤ p) (_ : p ≤ n) (_ : p ≠ id)
    (hrole : (w'.nd id).role = 3) (hterm : (w'.nd id).term = T) (hlog : (w'.nd id).log = LL) (hown : at_ (w'.nd id).mtch id = at_ (w.nd id).mtch id)
    (hcom : (w'.nd id).commit = LL.length ∨ ¬ n < 2 * (have_ (w'.nd id).mtch LL.length : Int))
    (hother : ∀ k, 1 ≤ k → k ≤ n → k ≠ id → k ≠ p → w'.nd k = w.nd k ∧ at_ (w'.nd id).next k = at_ (w.nd id).next k ∧ at_ (w'.nd id).mtch k = at_ (w.nd id).mtch k)
    (hpt : (w'.nd p).term ≤ T) (hph : Has (w'.nd p).log LL (at_ (w'.nd id).mtch p).toNat)
    (hrest : ∀ s ∈ rest, 3 ≤ s.kind → peerOf s = p → Tok n id T LL (w'.nd id) (w'.nd p) s ∧ cost LL.length (w'.nd id) s = cost LL.length (w.nd id) s)
    (hdone : (∃ s ∈ rest ++ out, 3 ≤ s.kind ∧ peerOf s = p) ∨ Done LL (w'.nd id) (w'.nd p) p)
    (hpm : 3 ≤ m.kind → peerOf m = p)
    (hout : ∀ s ∈ out, Tok n id T LL (w'.nd id) (w'.nd (atOf s)) s) (hlen : out.length ≤ 1)
    (huniq : ∀ s ∈ out, 3 ≤ s.kind → ∀ r ∈ rest, 3 ≤ r.kind → peerOf r ≠ peerOf s)
    (hcost : costs LL.length (w'.nd id) out < cost LL.length (w.nd id) m) :
    Led n id T LL w' ∧ costs LL.length (w'.nd id) w'.net < costs LL.length (w.nd id) w.net := by
  have hun := h.uniq
  rw [hnet, List.pairwise_cons] at hun
  have hpw : ∀ (k : Int), k ≠ p → 1 ≤ k → k ≤ n → w'.nd k = w.nd k ∨ k = id := fun k hk h1 hn => by
    by_cases e : k = id
    · exact .inr e
    · exact .inl (hother k h1 hn e hk).1
  have htok : ∀ s ∈ rest, Tok n id T LL (w'.nd id) (w'.nd (atOf s)) s ∧ cost LL.length (w'.nd id) s = cost LL.length (w.nd id) s := by
    intro s hs
    have ht := h.toks s (by rw [hnet]; exact List.mem_cons_of_mem _ hs)
    by_cases h3 : 3 ≤ s.kind
    · by_cases e : peerOf s = p
      · have := hrest s hs h3 e
        rw [atOf_tok (by omega), e]
        exact this
      · have e1 := atOf_tok (m := s) (by omega)
        have hp1 := ht.p1; have hpn := ht.pn; have hpne := ht.pne
        rw [if_neg (by omega)] at hp1 hpn hpne
        obtain ⟨o1, o2, o3⟩ := hother (peerOf s) hp1 hpn hpne e
        rw [e1] at ht ⊢
        rw [o1]
        by_cases k3 : s.kind = 3
        · have e2 : peerOf s = s.dst := by unfold peerOf; rw [if_pos k3]
          rw [e2] at o2 o3
          refine ⟨{ ht with sends := fun hk => ?_, yes := fun hk => by omega, no := fun hk => by omega }, ?_⟩
          · rw [o2, o3]; exact ht.sends hk
          · rw [cost_three k3, cost_three k3, o2, o3]
        · have e2 : peerOf s = s.src := by unfold peerOf; rw [if_neg k3]
          rw [e2] at o2 o3
          refine ⟨{ ht with sends := fun hk => by omega, yes := fun hk hy => ?_, no := fun hk hy => ?_ }, ?_⟩
          · rw [o3]; exact ht.yes hk hy
          · rw [o2, o3]; exact ht.no hk hy
          · have k4 : s.kind = 4 := by have := ht.k4; omega
            rw [cost_four k4, cost_four k4, o2, o3]
    · refine ⟨{ ht with sends := fun hk => by omega, tells := fun hk => by omega, yes := fun hk => by omega, no := fun hk => by omega }, ?_⟩
      have : s.kind = 1 ∨ s.kind = 2 := by have := ht.k1; omega
      rcases this with e | e
      · rw [cost_one e, cost_one e]
      · rw [cost_two e, cost_two e]
  refine ⟨{ sound := hs', inv := hi', id1 := h.id1, idn := h.idn, role := hrole, term := hterm, log := hlog, last := h.last, len := h.len, own := hown.trans h.own, com := hcom, terms := fun k h1 hn => ?_, has := fun k h1 hn hk => ?_, net8 := ?_, toks := fun s hs => ?_, uniq := ?_, all := fun k h1 hn hk => ?_ }, ?_⟩
  · by_cases e : k = id
    · rw [e, hterm]; exact Int.le_refl _
    · by_cases e2 : k = p
      · rw [e2]; exact hpt
      · rw [(hother k h1 hn e e2).1]; exact h.terms k h1 hn
  · by_cases e2 : k = p
    · rw [e2]; exact hph
    · obtain ⟨o1, _, o3⟩ := hother k h1 hn hk e2
      rw [o1, o3]; exact h.has k h1 hn hk
  · have := h.net8
    rw [hnet, List.length_cons] at this
    rw [hnet', List.length_append]
    omega
  · rw [hnet'] at hs
    rcases List.mem_append.1 hs with hs | hs
    · exact (htok s hs).1
    · exact hout s hs
  · rw [hnet', List.pairwise_append]
    refine ⟨hun.2, ?_, fun r hr s hs h1 h2 => huniq s hs h2 r hr h1⟩
    cases out with
    | nil => exact List.Pairwise.nil
    | cons a t =>
      obtain rfl : t = [] := List.eq_nil_of_length_eq_zero (by rw [List.length_cons] at hlen; omega)
      exact List.pairwise_singleton _ _
  · by_cases e2 : k = p
    · rw [e2, hnet']; exact hdone
    · obtain ⟨o1, o2, o3⟩ := hother k h1 hn hk e2
      rcases h.all k h1 hn hk with ⟨s, hs, h3, hps⟩ | hd
      · rw [hnet] at hs
        rcases List.mem_cons.1 hs with rfl | hs
        · exact absurd (hps.symm.trans (hpm h3)) e2
        · exact .inl ⟨s, by rw [hnet']; exact List.mem_append_left _ hs, h3, hps⟩
      · exact .inr ⟨by rw [o1]; exact hd.log, by rw [o3]; exact hd.mt, by rw [o2]; exact hd.nx⟩
  · rw [hnet, hnet', costs_append, costs, costs_congr fun s hs => (htok s hs).2]
    omega

/- ## What the leader and the others answer -/

theorem at_set {l : List Int} {j k : Int} (hj : 1 ≤ j) (hjl : j ≤ l.length) (hk : 1 ≤ k) (a : Int) : at_ (l.set (j - 1).toNat a) k = if k = j then a else at_ l k := by
  unfold at_
  rw [List.getElem?_set]
  by_cases e : k = j
  · subst e
    rw [if_pos rfl, if_pos rfl, if_pos (by omega)]
    rfl
  · rw [if_neg (by omega), if_neg e]

/-- What a leader's own numbers are. -/
theorem lead_places {x : Nod} (hg : Good x) (hr : x.role = 3) {k : Int} (h1 : 1 ≤ k) (hn : k ≤ x.n) : 1 ≤ at_ x.next k ∧ at_ x.next k ≤ x.log.length + 1 ∧ 0 ≤ at_ x.mtch k ∧ at_ x.mtch k ≤ x.log.length := by
  have hnl := hg.nextl; have hml := hg.mtchl
  rw [if_pos hr] at hnl hml
  have hfit := placesOk_at x.next x.mtch hg.places (by omega)
  have hj : (k - 1).toNat < x.next.length := by omega
  have hj' : (k - 1).toNat < x.mtch.length := by omega
  have := hfit (k - 1).toNat hj hj'
  rw [at_eq hj, at_eq hj']
  exact this

theorem rise_of_good {x : Nod} (hg : Good x) (h1 : 1 ≤ x.term) : Rise x.log x.term := by
  have := (rising_iff _ _).1 hg.rise
  rw [show max 1 x.term = x.term by omega] at this
  exact this

/-- Nobody else leads in that term. -/
theorem Led.alone {n id T : Int} {LL : List Itm} {w : Wld} (h : Led n id T LL w) {k : Int} (h1 : 1 ≤ k) (hn : k ≤ n) (hk : k ≠ id) (ht : (w.nd k).term = T) : (w.nd k).role ≠ 3 := by
  intro hr
  obtain ⟨G, hG⟩ := h.inv
  obtain ⟨_, e1, _, m1⟩ := h.sound.nd_good h1 hn
  obtain ⟨_, e2, _, m2⟩ := h.sound.nd_good h.id1 h.idn
  have l1 := hG.leads m1 hr
  have l2 := hG.leads m2 h.role
  rw [ht] at l1
  rw [h.term, l1] at l2
  injection l2 with l2
  injection l2 with l2 _
  exact hk (by rw [← e1, ← e2, l2])

/-- What is as long as the leader's log, and begins with it, is it. -/
theorem Led.whole {n id T : Int} {LL : List Itm} {w : Wld} (hs : Sound n w) (hi : ∃ G, WInv n G w) (hid : 1 ≤ id) (hidn : id ≤ n) (hr : (w.nd id).role = 3) (ht : (w.nd id).term = T) (hl : (w.nd id).log = LL) (hlast : lastT LL = T) (hlen : 0 < LL.length)
    {k : Int} (h1 : 1 ≤ k) (hn : k ≤ n) (hkt : (w.nd k).term ≤ T) (hh : Has (w.nd k).log LL LL.length) : (w.nd k).log = LL := by
  obtain ⟨G, hG⟩ := hi
  obtain ⟨g1, e1, _, m1⟩ := hs.nd_good h1 hn
  obtain ⟨g2, e2, _, m2⟩ := hs.nd_good hid hidn
  have l2 := hG.leads m2 hr
  rw [ht, hl] at l2
  have c1 := (hG.g.hist (w.nd k).id (w.nd k).term).1
  rw [(hG.mem m1).hist _ (Int.le_refl _)] at c1
  obtain ⟨hle, htk⟩ := hh
  rw [List.take_length] at htk
  rcases Nat.lt_or_ge LL.length (w.nd k).log.length with hlt | hge
  · exfalso
    have hte : 1 ≤ (w.nd k).term := by have := g1.empty (by omega); have := g1.term0; omega
    have hri := rise_of_good g1 hte
    have a1 := hri.termAt_mono (a := LL.length) (b := LL.length + 1) (by omega) (by omega)
    have a2 := hri.termAt_le (by omega) (a := LL.length + 1) (by omega)
    have a3 : termAt (w.nd k).log LL.length = T := by
      rw [← hlast]
      exact termAt_take (k := LL.length) (by rw [htk, List.take_length]) (Nat.le_refl _)
    have a4 : termAt (w.nd k).log ((LL.length + 1 : Nat) : Int) = ((w.nd k).log[LL.length]).term := termAt_nat _ (by omega) (by omega)
    obtain ⟨i, L, b1, b2, _⟩ := c1 LL.length hlt
    rw [← a4, show termAt (w.nd k).log ((LL.length + 1 : Nat) : Int) = T by omega, l2] at b1
    injection b1 with b1
    injection b1 with _ b1
    subst b1
    omega
  · rw [← htk, List.take_of_length_le hge]

/-- Two that have an item of the same term at the same place. -/
theorem Led.match_ {n id : Int} {LL : List Itm} {w : Wld} (hs : Sound n w) (hi : ∃ G, WInv n G w) (hid : 1 ≤ id) (hidn : id ≤ n) (hl : (w.nd id).log = LL)
    {k : Int} (h1 : 1 ≤ k) (hn : k ≤ n) {e : Nat} (he : e ≤ (w.nd k).log.length) (heL : e ≤ LL.length) (ht : e = 0 ∨ termAt (w.nd k).log e = termAt LL e) : Has (w.nd k).log LL e := by
  refine ⟨he, ?_⟩
  rcases Nat.eq_zero_or_pos e with h0 | h0
  · subst h0; simp
  · obtain ⟨G, hG⟩ := hi
    obtain ⟨_, _, _, m1⟩ := hs.nd_good h1 hn
    obtain ⟨_, _, _, m2⟩ := hs.nd_good hid hidn
    have ht : termAt (w.nd k).log e = termAt LL e := ht.resolve_left (by omega)
    rw [termAt_nat _ h0 he, termAt_nat _ h0 heL] at ht
    have := hG.logs m1 m2 (i := e - 1) (by omega) (by rw [hl]; omega) (by simp only [hl]; exact ht)
    rw [show e - 1 + 1 = e by omega, hl] at this
    exact this

/-- Counting anew: all is sure, or not most have all. -/
theorem sure_all {x : Nod} (hc : x.commit ≤ x.log.length) (h0 : 0 < x.log.length) (ht : lastT x.log = x.term) : (sure x).commit = x.log.length ∨ ¬ x.n < 2 * (have_ x.mtch x.log.length : Int) := by
  obtain ⟨k, hk⟩ : ∃ k, x.log.length = k + 1 := ⟨x.log.length - 1, by omega⟩
  by_cases hm : x.n < 2 * (have_ x.mtch x.log.length : Int)
  · left
    unfold sure
    show sureAt x x.log.length = _
    rw [hk] at hm ⊢
    unfold sureAt
    unfold lastT at ht
    rw [hk] at ht
    rw [show (((k + 1 : Nat)) : Int) = (k : Int) + 1 by omega] at ht hm ⊢
    by_cases hcc : x.commit < (k : Int) + 1
    · rw [if_pos ⟨hcc, ht⟩, if_pos hm]
    · rw [if_neg (fun h => hcc h.1)]
      omega
  · exact .inr hm

end Go.Proofs.Ytibjbpakbfodaaa
namespace Go.Proofs.Ytibjbpakbfodaaa

theorem recv_ask {y : Nod} {m : Mes} (hk : m.kind = 1) (hy : y.term ≤ m.term) :
    (receive y m).1.log = y.log ∧ (receive y m).1.term ≤ m.term ∧ (y.term = m.term → (receive y m).1.term = m.term) ∧
      ((receive y m).2 = [] ∨ ∃ s, (receive y m).2 = [s] ∧ s.kind = 2 ∧ s.src = y.id ∧ s.dst = m.src ∧ s.term = m.term) := by
  unfold receive
  split
  · exact ⟨rfl, hy, id, .inl rfl⟩
  · have ht : (if y.term < m.term then follow y m.term 0 else y).term = m.term := by
      split
      · unfold follow; simp only; rw [if_pos (by assumption)]
      · omega
    have hl : (if y.term < m.term then follow y m.term 0 else y).log = y.log := by split <;> rfl
    have hid : (if y.term < m.term then follow y m.term 0 else y).id = y.id := by split <;> rfl
    simp only
    unfold asked
    exact ⟨hl, by simp only; rw [ht]; exact Int.le_refl _, fun _ => ht, .inr ⟨_, rfl, rfl, hid, rfl, ht⟩⟩

theorem recv_vote_led {x : Nod} {m : Mes} (hk : m.kind = 2) (hr : x.role = 3) (ht : m.term = x.term) : receive x m = (x, []) := by
  unfold receive
  split
  · rfl
  · rw [if_neg (show ¬ x.term < m.term by omega)]
    simp only
    rw [if_neg (by omega)]
    unfold voted
    rw [if_pos (.inl (by omega))]

theorem Led.next {n id T : Int} {LL : List Itm} {w : Wld} (h : Led n id T LL w) {m : Mes} {rest : List Mes} (hnet : w.net = m :: rest) (h1 : 1 ≤ m.dst) (hn : m.dst ≤ n) (ho : (receive (w.nd m.dst) m).2.length ≤ 1) :
    Sound n (cstep w dlv) ∧ (∃ G, WInv n G (cstep w dlv)) ∧ (cstep w dlv).net = rest ++ (receive (w.nd m.dst) m).2 ∧ ∀ k, 1 ≤ k → (cstep w dlv).nd k = if k = m.dst then (receive (w.nd m.dst) m).1 else w.nd k := by
  refine ⟨cstep_sound h.sound _, ?_, ?_, fun k hk => ?_⟩
  · obtain ⟨G, hG⟩ := h.inv
    obtain ⟨G', h', _⟩ := cstep_inv h.sound hG dlv
    exact ⟨G', h'⟩
  · rw [dlv_step h.sound hnet h1 hn]
    have := h.net8
    rw [hnet, List.length_cons] at this
    exact trim_small (by rw [List.length_append]; omega)
  · rw [dlv_step h.sound hnet h1 hn]
    exact nd_set h.sound h1 hn hk _ _

theorem cost_small {L : Int} {x : Nod} {m : Mes} (h : m.kind = 2) : cost L x m = 1 := by unfold cost; rw [if_neg (by omega), if_pos h]

theorem Led.step1 {n id T : Int} {LL : List Itm} {w : Wld} (h : Led n id T LL w) {m : Mes} {rest : List Mes} (hnet : w.net = m :: rest) (hk : m.kind = 1) :
    Led n id T LL (cstep w dlv) ∧ costs LL.length ((cstep w dlv).nd id) (cstep w dlv).net < costs LL.length (w.nd id) w.net := by
  have ht := h.toks m (by rw [hnet]; exact List.mem_cons_self ..)
  have p1 := ht.p1; have pn := ht.pn; have pne := ht.pne; have hsrc := ht.asks hk; have hmt := ht.term
  rw [if_pos hk] at p1 pn pne
  obtain ⟨r1, r2, r3, r4⟩ := recv_ask (y := w.nd m.dst) hk (by rw [hmt]; exact h.terms _ p1 pn)
  obtain ⟨s1, s2, s3, s4⟩ := h.next hnet p1 pn (by rcases r4 with r4 | ⟨s, r4, _⟩ <;> rw [r4] <;> simp)
  obtain ⟨_, hyid, _, _⟩ := h.sound.nd_good p1 pn
  have hx : (cstep w dlv).nd id = w.nd id := by rw [s4 id h.id1, if_neg (fun e => pne e.symm)]
  have hy : (cstep w dlv).nd m.dst = (receive (w.nd m.dst) m).1 := by rw [s4 _ p1, if_pos rfl]
  have hlog : ((cstep w dlv).nd m.dst).log = (w.nd m.dst).log := by rw [hy]; exact r1
  have hcm : cost LL.length (w.nd id) m = 2 := by unfold cost; rw [if_pos hk]
  refine h.step hnet s1 s2 s3 m.dst p1 pn pne (by rw [hx]; exact h.role) (by rw [hx]; exact h.term) (by rw [hx]; exact h.log) (by rw [hx]) (by rw [hx]; exact h.com)
    (fun k k1 kn _ kp => by rw [s4 k k1, if_neg kp, hx]; exact ⟨rfl, rfl, rfl⟩) (by rw [hy, ← hmt]; exact r2) (by rw [hlog, hx]; exact h.has _ p1 pn pne) (fun s hs h3 hps => ?_) ?_ (fun h3 => by omega) (fun s hs => ?_) ?_ (fun s hs h3 => ?_) ?_
  · have hts := h.toks s (by rw [hnet]; exact List.mem_cons_of_mem _ hs)
    rw [atOf_tok (by omega), hps] at hts
    rw [hx]
    refine ⟨{ hts with tells := fun h4 => ?_, yes := fun h4 hy4 => ?_ }, rfl⟩
    · obtain ⟨t1, t2, t3⟩ := hts.tells h4
      exact ⟨t1, by rw [hy, r3 (by omega)]; exact hmt, t3⟩
    · rw [hlog]; exact hts.yes h4 hy4
  · rcases h.all m.dst p1 pn pne with ⟨s, hs, h3, hps⟩ | hd
    · rw [hnet] at hs
      rcases List.mem_cons.1 hs with rfl | hs
      · omega
      · exact .inl ⟨s, List.mem_append_left _ hs, h3, hps⟩
    · exact .inr ⟨by rw [hlog]; exact hd.log, by rw [hx]; exact hd.mt, by rw [hx]; exact hd.nx⟩
  · rcases r4 with r4 | ⟨o, r4, o1, o2, o3, o4⟩
    · rw [r4] at hs; simp at hs
    · rw [r4] at hs
      simp only [List.mem_singleton] at hs
      subst hs
      have hp : peerOf s = m.dst := by unfold peerOf; rw [if_neg (by omega), o2, hyid]
      exact { term := o4.trans hmt, p1 := by rw [if_neg (by omega), hp]; exact p1, pn := by rw [if_neg (by omega), hp]; exact pn, pne := by rw [if_neg (by omega), hp]; exact pne, k1 := by omega, k4 := by omega, asks := fun h => by omega, votes := fun _ => o3.trans hsrc, sends := fun h => by omega, tells := fun h => by omega, yes := fun h => by omega, no := fun h => by omega }
  · rcases r4 with r4 | ⟨o, r4, _⟩ <;> rw [r4] <;> simp
  · rcases r4 with r4 | ⟨o, r4, o1, _⟩
    · rw [r4] at hs; simp at hs
    · rw [r4] at hs
      simp only [List.mem_singleton] at hs
      subst hs
      omega
  · rw [hcm]
    rcases r4 with r4 | ⟨o, r4, o1, _⟩
    · rw [r4]; simp [costs]
    · rw [r4]; simp only [costs]; rw [cost_small o1]; omega

theorem Led.step2 {n id T : Int} {LL : List Itm} {w : Wld} (h : Led n id T LL w) {m : Mes} {rest : List Mes} (hnet : w.net = m :: rest) (hk : m.kind = 2) :
    Led n id T LL (cstep w dlv) ∧ costs LL.length ((cstep w dlv).nd id) (cstep w dlv).net < costs LL.length (w.nd id) w.net := by
  have ht := h.toks m (by rw [hnet]; exact List.mem_cons_self ..)
  have p1 := ht.p1; have pn := ht.pn; have pne := ht.pne; have hdst := ht.votes hk; have hmt := ht.term
  rw [if_neg (by omega)] at p1 pn pne
  have hr := recv_vote_led (x := w.nd m.dst) hk (by rw [hdst]; exact h.role) (by rw [hdst, h.term]; exact hmt)
  obtain ⟨s1, s2, s3, s4⟩ := h.next hnet (by rw [hdst]; exact h.id1) (by rw [hdst]; exact h.idn) (by rw [hr]; simp)
  rw [hr] at s3 s4
  simp only [List.append_nil] at s3
  have hnd : ∀ k, 1 ≤ k → (cstep w dlv).nd k = w.nd k := fun k k1 => by
    rw [s4 k k1]
    split
    · rename_i e; rw [e]
    · rfl
  have hx := hnd id h.id1
  refine h.step (out := []) hnet s1 s2 (by rw [s3, List.append_nil]) (peerOf m) p1 pn pne (by rw [hx]; exact h.role) (by rw [hx]; exact h.term) (by rw [hx]; exact h.log) (by rw [hx]) (by rw [hx]; exact h.com)
    (fun k k1 kn _ kp => by rw [hnd k k1, hx]; exact ⟨rfl, rfl, rfl⟩) (by rw [hnd _ p1]; exact h.terms _ p1 pn) (by rw [hnd _ p1, hx]; exact h.has _ p1 pn pne) (fun s hs h3 hps => ?_) ?_ (fun h3 => by omega) (fun s hs => by simp at hs) (by simp) (fun s hs => by simp at hs) (by simp only [costs]; rw [cost_small hk]; omega)
  · have hts := h.toks s (by rw [hnet]; exact List.mem_cons_of_mem _ hs)
    rw [atOf_tok (by omega), hps] at hts
    rw [hx, hnd _ p1]
    exact ⟨hts, rfl⟩
  · rcases h.all _ p1 pn pne with ⟨s, hs, h3, hps⟩ | hd
    · rw [hnet] at hs
      rcases List.mem_cons.1 hs with rfl | hs
      · omega
      · exact .inl ⟨s, List.mem_append_left _ hs, h3, hps⟩
    · rw [hx, hnd _ p1]; exact .inr hd

/-- What a leader sends is not lost. -/
theorem sent_right {n id T : Int} {LL : List Itm} {x y : Nod} {m : Mes} (ht : Tok n id T LL x y m) (hk : m.kind = 3) (hT1 : 1 ≤ T) (hT : T ≤ 1000000) (hid1 : 1 ≤ id) (hidn : id ≤ n) (hyn : y.n = n) (hyid : y.id = m.dst) (hri : Rise LL T) (h60 : LL.length ≤ 60) (hi0 : 0 ≤ m.index) : lost y m = false := by
  obtain ⟨a1, a2, a3, a4, a5, a6, a7⟩ := ht.sends hk
  have hpne := ht.pne
  rw [if_neg (by omega)] at hpne
  unfold peerOf at hpne
  rw [if_pos hk] at hpne
  have hmt := ht.term
  obtain ⟨i, hi⟩ : ∃ i : Nat, m.index = i := ⟨m.index.toNat, by omega⟩
  rw [hi] at a3 a4 a7
  rw [Int.toNat_natCast] at a4
  have hlt : 0 ≤ m.logTerm ∧ m.logTerm ≤ T := by
    rw [a3]
    refine ⟨?_, hri.termAt_le (by omega) (by omega)⟩
    have := hri.termAt_mono (a := 0) (b := i) (by omega) (by omega)
    exact this
  have hil : m.items.length = min 3 (LL.length - i) := by rw [a4, List.length_take, List.length_drop]
  have hir : Rise m.items T := by
    rw [a4]
    exact ⟨(hri.1.sublist (List.drop_sublist _ _)).sublist (List.take_sublist _ _), fun z hz => hri.2 z (List.mem_of_mem_drop (List.mem_of_mem_take hz))⟩
  have hrising : rising m.items m.term = true := by
    rw [rising_iff, hmt, show max 1 T = T by omega]
    exact hir
  have hfirst : ¬ (0 < m.items.length ∧ termAt m.items 1 < m.logTerm) := by
    rintro ⟨b1, b2⟩
    have e1 : termAt m.items 1 = (m.items[0]).term := termAt_nat (i := 1) _ (by omega) (by omega)
    have e2 : m.items[0] = LL[i] := by
      have : m.items[0]? = LL[i]? := by rw [a4, List.getElem?_take_of_lt (by omega), List.getElem?_drop, Nat.add_zero]
      rw [List.getElem?_eq_getElem b1, List.getElem?_eq_getElem (by omega)] at this
      exact Option.some.inj this
    have e3 : termAt LL ((i + 1 : Nat) : Int) = (LL[i]).term := termAt_nat (i := i + 1) _ (by omega) (by omega)
    have e4 := hri.termAt_mono (a := i) (b := i + 1) (by omega) (by omega)
    rw [e1, e2, ← e3, a3] at b2
    omega
  unfold lost
  rw [if_neg (by omega), if_neg (by omega)]
  have e1 : decide (60 < m.index) = false := by simp; omega
  have e2 : decide (60 - m.index < (m.items.length : Int)) = false := by simp; omega
  rw [e1, e2, hrising]
  simp only [Bool.not_true, Bool.false_or, Bool.and_eq_false_iff, decide_eq_false_iff_not]
  by_cases hp : 0 < m.items.length
  · exact .inr fun h => hfirst ⟨hp, h⟩
  · exact .inl hp

/-- A follower that gets items. -/
theorem recv_items {y : Nod} {m : Mes} (hk : m.kind = 3) (hg : Good y) (hl : lost y m = false) (hy : y.term ≤ m.term) (hr : y.term = m.term → y.role ≠ 3) :
    (receive y m).1.term = m.term ∧
      (((y.log.length : Int) < m.index ∨ (termAt y.log m.index ≠ m.logTerm ∧ 0 < m.index)) → (receive y m).1.log = y.log ∧ ∃ s, (receive y m).2 = [s] ∧ s = { kind := 4, src := y.id, dst := m.src, term := m.term, index := max 0 (min (y.log.length : Int) (m.index - 1)), logTerm := 0, commit := 0, items := [], yes := false }) ∧
      (¬ ((y.log.length : Int) < m.index ∨ (termAt y.log m.index ≠ m.logTerm ∧ 0 < m.index)) → (receive y m).1.log = (taken m.index.toNat m.items y.log y.commit).1 ∧ ∃ s, (receive y m).2 = [s] ∧ s = { kind := 4, src := y.id, dst := m.src, term := m.term, index := m.index + m.items.length, logTerm := 0, commit := 0, items := [], yes := true }) := by
  have hw := wrong_of_good hg
  unfold receive
  rw [if_neg (by rw [hl]; simp [hw])]
  obtain ⟨z, hz⟩ : ∃ z, (if y.term < m.term then follow y m.term 0 else y) = z := ⟨_, rfl⟩
  have hz1 : z.term = m.term ∧ z.log = y.log ∧ z.commit = y.commit ∧ z.id = y.id ∧ z.role ≠ 3 := by
    rw [← hz]
    split
    · refine ⟨?_, rfl, rfl, rfl, by unfold follow; simp⟩
      unfold follow; simp only; rw [if_pos (by assumption)]
    · exact ⟨by omega, rfl, rfl, rfl, hr (by omega)⟩
  rw [hz]
  obtain ⟨z1, z2, z3, z4, z5⟩ := hz1
  simp only [hk, if_true, if_false, show ¬ ((3 : Int) = 1) by omega, show ¬ ((3 : Int) = 2) by omega]
  unfold appended
  rw [if_neg (by omega)]
  have hf : (follow z m.term m.src).log = y.log ∧ (follow z m.term m.src).commit = y.commit ∧ (follow z m.term m.src).term = m.term ∧ (follow z m.term m.src).id = y.id := by
    refine ⟨z2, z3, ?_, z4⟩
    unfold follow; simp only; split <;> omega
  obtain ⟨f1, f2, f3, f4⟩ := hf
  generalize follow z m.term m.src = u at *
  simp only [f1, f2]
  refine ⟨?_, fun hc => ?_, fun hc => ?_⟩
  · split
    · exact f3
    · exact f3
  · rw [if_pos hc]
    exact ⟨f1, _, rfl, by unfold says; rw [f3, f4]⟩
  · rw [if_neg hc]
    exact ⟨rfl, _, rfl, by unfold says; simp only [f3, f4]⟩

theorem c3_lt {L mt nx mt' nx' : Int} (h1 : mt ≤ nx - 1) (h2 : nx ≤ L) (h : 2 * (L - mt') + 2 * (nx' - 1 - mt') + 2 < 2 * (L - mt) + 2 * (nx - 1 - mt) + 2) : c3 L mt' nx' < c3 L mt nx := by unfold c3; omega

theorem Led.step3 {n id T : Int} {LL : List Itm} {w : Wld} (h : Led n id T LL w) {m : Mes} {rest : List Mes} (hnet : w.net = m :: rest) (hk : m.kind = 3) :
    Led n id T LL (cstep w dlv) ∧ costs LL.length ((cstep w dlv).nd id) (cstep w dlv).net < costs LL.length (w.nd id) w.net := by
  have ht := h.toks m (by rw [hnet]; exact List.mem_cons_self ..)
  have p1 := ht.p1; have pn := ht.pn; have pne := ht.pne; have hmt := ht.term
  rw [atOf_tok (by omega)] at ht
  have hpd : peerOf m = m.dst := by unfold peerOf; rw [if_pos hk]
  rw [if_neg (by omega), hpd] at p1 pn pne
  rw [hpd] at ht
  obtain ⟨a1, a2, a3, a4, a5, a6, a7⟩ := ht.sends hk
  obtain ⟨gx, hxid, hxn, _⟩ := h.sound.nd_good h.id1 h.idn
  obtain ⟨gy, hyid, hyn, _⟩ := h.sound.nd_good p1 pn
  have hpl := lead_places gx h.role (k := m.dst) p1 (by rw [hxn]; exact pn)
  have hT1 : 1 ≤ T := by have := gx.fresh (by have := h.role; omega); have := gx.term0; have := h.term; omega
  have hTn : T ≤ 1000000 := by have := gx.termn; have := h.term; omega
  have hri : Rise LL T := by have := rise_of_good gx (by rw [h.term]; exact hT1); rwa [h.log, h.term] at this
  have h60 : LL.length ≤ 60 := by have := gx.log60; rwa [h.log] at this
  have hl := sent_right ht hk hT1 hTn h.id1 h.idn hyn hyid hri h60 (by omega)
  obtain ⟨r1, r2, r3⟩ := recv_items hk gy hl (by rw [hmt]; exact h.terms _ p1 pn) (fun e => h.alone p1 pn pne (by rw [e]; exact hmt))
  have hhas := h.has _ p1 pn pne
  obtain ⟨mt, hmte⟩ : ∃ mt : Nat, at_ (w.nd id).mtch m.dst = mt := ⟨(at_ (w.nd id).mtch m.dst).toNat, by omega⟩
  obtain ⟨i, hi⟩ : ∃ i : Nat, m.index = i := ⟨m.index.toNat, by omega⟩
  rw [hmte, Int.toNat_natCast] at hhas
  have hout : (receive (w.nd m.dst) m).2.length ≤ 1 := by
    by_cases hc : ((w.nd m.dst).log.length : Int) < m.index ∨ (termAt (w.nd m.dst).log m.index ≠ m.logTerm ∧ 0 < m.index)
    · obtain ⟨_, s, e, _⟩ := r2 hc; rw [e]; simp
    · obtain ⟨_, s, e, _⟩ := r3 hc; rw [e]; simp
  obtain ⟨s1, s2, s3, s4⟩ := h.next hnet p1 pn hout
  have hx : (cstep w dlv).nd id = w.nd id := by rw [s4 id h.id1, if_neg (fun e => pne e.symm)]
  have hy : (cstep w dlv).nd m.dst = (receive (w.nd m.dst) m).1 := by rw [s4 _ p1, if_pos rfl]
  have hun := h.uniq
  rw [hnet, List.pairwise_cons] at hun
  have hcm : cost LL.length (w.nd id) m = c3 LL.length (at_ (w.nd id).mtch m.dst) (at_ (w.nd id).next m.dst) := by unfold cost; rw [if_neg (by omega), if_neg (by omega), if_pos hk]
  -- what is told of it either way
  suffices hkey : Has ((cstep w dlv).nd m.dst).log LL mt ∧ ∃ s, (receive (w.nd m.dst) m).2 = [s] ∧ s.kind = 4 ∧ s.src = m.dst ∧ Tok n id T LL (w.nd id) ((cstep w dlv).nd m.dst) s ∧ cost LL.length (w.nd id) s < cost LL.length (w.nd id) m by
    obtain ⟨k1, s, k2, k3, k4, k5, k6⟩ := hkey
    have hps : peerOf s = m.dst := by unfold peerOf; rw [if_neg (by omega), k4]
    refine h.step hnet s1 s2 s3 m.dst p1 pn pne (by rw [hx]; exact h.role) (by rw [hx]; exact h.term) (by rw [hx]; exact h.log) (by rw [hx]) (by rw [hx]; exact h.com)
      (fun k k1 kn _ kp => by rw [s4 k k1, if_neg kp, hx]; exact ⟨rfl, rfl, rfl⟩) (by rw [hy, r1, hmt]; exact Int.le_refl _) (by rw [hx, hmte, Int.toNat_natCast]; exact k1) (fun s hs h3 hps => ?_) (.inl ⟨s, by rw [k2]; simp, by omega, hps⟩) (fun _ => hpd) (fun s' hs => ?_) hout (fun s' hs h3 r hr hr3 => ?_) ?_
    · exact absurd (hpd.trans hps.symm) (hun.1 s hs (by omega) h3)
    · rw [k2] at hs
      simp only [List.mem_singleton] at hs
      subst hs
      rw [atOf_tok (by omega), hps, hx]
      exact k5
    · rw [k2] at hs
      simp only [List.mem_singleton] at hs
      subst hs
      rw [hps, ← hpd]
      exact fun e => hun.1 r hr (by omega) hr3 e.symm
    · rw [k2, hx]
      simp only [costs]
      omega
  by_cases hc : ((w.nd m.dst).log.length : Int) < m.index ∨ (termAt (w.nd m.dst).log m.index ≠ m.logTerm ∧ 0 < m.index)
  · obtain ⟨q1, s, q2, q3⟩ := r2 hc
    have hlog : ((cstep w dlv).nd m.dst).log = (w.nd m.dst).log := by rw [hy]; exact q1
    have hmi : mt < i := by
      refine Nat.lt_of_le_of_ne (by omega) fun e => ?_
      have hle := hhas.1
      rcases hc with hc | ⟨hc, _⟩
      · omega
      · exact hc (by rw [a3, hi, ← e]; exact termAt_take hhas.2 (Nat.le_refl _))
    have hle := hhas.1
    refine ⟨by rw [hlog]; exact hhas, s, q2, by rw [q3], by rw [q3]; exact hyid, ?_, ?_⟩
    · have hpo : peerOf s = m.dst := by rw [q3]; unfold peerOf; simp only; rw [if_neg (by omega)]; exact hyid
      exact { term := by rw [q3]; exact hmt, p1 := by rw [if_neg (by rw [q3]; simp), hpo]; exact p1, pn := by rw [if_neg (by rw [q3]; simp), hpo]; exact pn, pne := by rw [if_neg (by rw [q3]; simp), hpo]; exact pne,
              k1 := by rw [q3]; simp, k4 := by rw [q3]; simp, asks := fun hh => by rw [q3] at hh; simp at hh, votes := fun hh => by rw [q3] at hh; simp at hh, sends := fun hh => by rw [q3] at hh; simp at hh,
              tells := fun _ => ⟨by rw [q3]; exact a1, by rw [hy, r1]; exact hmt, by rw [q3], by rw [q3], by rw [q3]⟩, yes := fun _ hh => by rw [q3] at hh; simp at hh,
              no := fun _ _ => by rw [q3]; simp only [hyid]; rw [hmte]; omega }
    · rw [hcm]
      unfold cost
      rw [q3]
      simp only [show ¬ ((4 : Int) = 1) by omega, show ¬ ((4 : Int) = 2) by omega, show ¬ ((4 : Int) = 3) by omega, if_false, hyid]
      unfold c3
      simp
      omega
  · obtain ⟨q1, s, q2, q3⟩ := r3 hc
    have hil : m.items.length = min 3 (LL.length - i) := by rw [a4, hi, Int.toNat_natCast, List.length_take, List.length_drop]
    have hlog : ((cstep w dlv).nd m.dst).log = (taken m.index.toNat m.items (w.nd m.dst).log (w.nd m.dst).commit).1 := by rw [hy]; exact q1
    obtain ⟨t1, t2, t3, t4, _⟩ := taken_spec m.items m.index.toNat (w.nd m.dst).log (w.nd m.dst).commit (by omega)
    rw [← hlog] at t1 t2 t3 t4
    rw [hi, Int.toNat_natCast] at t1 t2 t3 t4
    have hterm' : ((cstep w dlv).nd m.dst).term = T := by rw [hy, r1]; exact hmt
    have hxl : ((cstep w dlv).nd id).log = LL := by rw [hx]; exact h.log
    have hE : Has ((cstep w dlv).nd m.dst).log LL (i + m.items.length) := by
      refine Led.match_ s1 s2 h.id1 h.idn hxl p1 pn t2 (by omega) (.inr ?_)
      have h4 := t4 (m.items.length - 1) (by omega)
      rw [show i + (m.items.length - 1) = i + m.items.length - 1 by omega, List.getElem?_eq_getElem (by omega)] at h4
      rw [termAt_nat _ (by omega) t2, termAt_nat _ (by omega) (by omega)]
      simp only [Option.map_some, Option.some.injEq] at h4
      rw [h4]
      have : m.items[m.items.length - 1]? = LL[i + m.items.length - 1]? := by
        rw [a4, hi, Int.toNat_natCast, List.getElem?_take_of_lt (by rw [List.length_take, List.length_drop]; omega), List.getElem?_drop]
        congr 1
        rw [List.length_take, List.length_drop]
        omega
      rw [List.getElem?_eq_getElem (by omega), List.getElem?_eq_getElem (by omega)] at this
      rw [Option.some.inj this]
    have hpo : peerOf s = m.dst := by rw [q3]; unfold peerOf; simp only; rw [if_neg (by omega)]; exact hyid
    have hix : s.index = ((i + m.items.length : Nat) : Int) := by rw [q3]; simp only; omega
    refine ⟨⟨by have := hE.1; omega, take_le hE.2 (by omega)⟩, s, q2, by rw [q3], by rw [q3]; exact hyid, ?_, ?_⟩
    · exact { term := by rw [q3]; exact hmt, p1 := by rw [if_neg (by rw [q3]; simp), hpo]; exact p1, pn := by rw [if_neg (by rw [q3]; simp), hpo]; exact pn, pne := by rw [if_neg (by rw [q3]; simp), hpo]; exact pne,
              k1 := by rw [q3]; simp, k4 := by rw [q3]; simp, asks := fun hh => by rw [q3] at hh; simp at hh, votes := fun hh => by rw [q3] at hh; simp at hh, sends := fun hh => by rw [q3] at hh; simp at hh,
              tells := fun _ => ⟨by rw [q3]; exact a1, hterm', by rw [q3], by rw [q3], by rw [q3]⟩, no := fun _ hh => by rw [q3] at hh; simp at hh,
              yes := fun _ _ => by
                have hsrc : s.src = m.dst := by rw [q3]; exact hyid
                rw [hix, hsrc, hmte, Int.toNat_natCast]
                refine ⟨by omega, by omega, hE, fun e => ?_⟩
                have e' : i + m.items.length = LL.length := by omega
                rw [e'] at hE
                exact Led.whole s1 s2 h.id1 h.idn (by rw [hx]; exact h.role) (by rw [hx]; exact h.term) hxl h.last h.len p1 pn (by omega) hE }
    · rw [hcm]
      unfold cost
      rw [hix, q3]
      simp only [show ¬ ((4 : Int) = 1) by omega, show ¬ ((4 : Int) = 2) by omega, show ¬ ((4 : Int) = 3) by omega, if_false, if_true]
      unfold c3
      omega

end Go.Proofs.Ytibjbpakbfodaaa
namespace Go.Proofs.Ytibjbpakbfodaaa

theorem sends_log {x : Nod} {LL : List Itm} (h : x.log = LL) (k : Int) : (sends x k).logTerm = termAt LL (sends x k).index ∧ (sends x k).items = (LL.drop (sends x k).index.toNat).take 3 := by subst h; exact ⟨rfl, rfl⟩

/-- An answer to a leader is not lost. -/
theorem answer_right {n id T : Int} {LL : List Itm} {x y : Nod} {m : Mes} (ht : Tok n id T LL x y m) (hk : m.kind = 4) (hT1 : 1 ≤ T) (hT : T ≤ 1000000) (hxn : x.n = n) (hxid : x.id = id) (h60 : m.index ≤ 60) (hi0 : 0 ≤ m.index) : lost x m = false := by
  obtain ⟨a1, a2, a3, a4, a5⟩ := ht.tells hk
  have hp1 := ht.p1; have hpn := ht.pn; have hpne := ht.pne
  rw [if_neg (by omega)] at hp1 hpn hpne
  unfold peerOf at hp1 hpn hpne
  rw [if_neg (by omega)] at hp1 hpn hpne
  have hmt := ht.term
  unfold lost
  rw [if_neg (by omega), if_neg (by omega)]
  have e1 : decide (60 < m.index) = false := by simp; omega
  have e2 : decide (60 - m.index < (m.items.length : Int)) = false := by rw [a4]; simp; omega
  rw [e1, e2, a4]
  simp [rising, riseTo]
  omega

theorem recv_answer {x : Nod} {m : Mes} (hk : m.kind = 4) (hg : Good x) (hl : lost x m = false) (hr : x.role = 3) (ht : m.term = x.term) :
    receive x m = if m.yes then (hears x m, if at_ (hears x m).next m.src ≤ x.log.length then [sends (hears x m) m.src] else []) else (backs x m, [sends (backs x m) m.src]) := by
  have hw := wrong_of_good hg
  unfold receive
  rw [if_neg (by rw [hl]; simp [hw])]
  rw [if_neg (show ¬ x.term < m.term by omega)]
  simp only
  rw [if_neg (show ¬ m.kind = 1 by omega), if_neg (show ¬ m.kind = 2 by omega), if_neg (show ¬ m.kind = 3 by omega)]
  unfold told
  rw [if_neg (by omega)]

theorem Led.step4 {n id T : Int} {LL : List Itm} {w : Wld} (h : Led n id T LL w) {m : Mes} {rest : List Mes} (hnet : w.net = m :: rest) (hk : m.kind = 4) :
    Led n id T LL (cstep w dlv) ∧ costs LL.length ((cstep w dlv).nd id) (cstep w dlv).net < costs LL.length (w.nd id) w.net := by
  have ht := h.toks m (by rw [hnet]; exact List.mem_cons_self ..)
  have p1 := ht.p1; have pn := ht.pn; have pne := ht.pne; have hmt := ht.term
  rw [atOf_tok (by omega)] at ht
  have hpd : peerOf m = m.src := by unfold peerOf; rw [if_neg (by omega)]
  rw [if_neg (by omega), hpd] at p1 pn pne
  rw [hpd] at ht
  obtain ⟨a1, a2, a3, a4, a5⟩ := ht.tells hk
  obtain ⟨gx, hxid, hxn, _⟩ := h.sound.nd_good h.id1 h.idn
  have hpl := lead_places gx h.role (k := m.src) p1 (by rw [hxn]; exact pn)
  have hT1 : 1 ≤ T := by have := gx.fresh (by have := h.role; omega); have := gx.term0; have := h.term; omega
  have hTn : T ≤ 1000000 := by have := gx.termn; have := h.term; omega
  have h60 : LL.length ≤ 60 := by have := gx.log60; rwa [h.log] at this
  have hxl := h.log
  have hnl := gx.nextl; have hml := gx.mtchl
  rw [if_pos h.role, hxn] at hnl hml
  rw [hxl] at hpl
  have hind : 0 ≤ m.index ∧ m.index ≤ 60 := by
    cases hy : m.yes
    · have := ht.no hk hy; omega
    · have := ht.yes hk hy; omega
  have hl := answer_right ht hk hT1 hTn hxn hxid hind.2 hind.1
  have hrc := recv_answer hk gx hl h.role (hmt.trans h.term.symm)
  obtain ⟨x, hxe⟩ : ∃ x, w.nd id = x := ⟨_, rfl⟩
  rw [hxe] at hrc gx hpl hxid hxn hxl hnl hml ht hl
  have hun := h.uniq
  rw [hnet, List.pairwise_cons] at hun
  have hrole := h.role; have hterm := h.term; have hcom := h.com; have hown := h.own; have hhas := h.has m.src p1 pn pne
  rw [hxe] at hrole hterm hcom hown hhas
  have hrec : receive (w.nd m.dst) m = receive x m := by rw [a1, hxe]
  -- what the leader becomes
  suffices hkey : ∃ x' out, receive x m = (x', out) ∧ x'.role = 3 ∧ x'.term = T ∧ x'.log = LL ∧ at_ x'.mtch id = at_ x.mtch id ∧ (x'.commit = LL.length ∨ ¬ n < 2 * (have_ x'.mtch LL.length : Int)) ∧
      (∀ k, 1 ≤ k → k ≠ m.src → at_ x'.next k = at_ x.next k ∧ at_ x'.mtch k = at_ x.mtch k) ∧ Has (w.nd m.src).log LL (at_ x'.mtch m.src).toNat ∧
      ((out = [] ∧ Done LL x' (w.nd m.src) m.src ∧ 0 < cost LL.length x m) ∨ (∃ s, out = [s] ∧ s.kind = 3 ∧ s.dst = m.src ∧ Tok n id T LL x' (w.nd m.src) s ∧ cost LL.length x' s < cost LL.length x m)) by
    obtain ⟨x', out, k0, k1, k2, k3, k4, k5, k6, k7, k8⟩ := hkey
    have hol : out.length ≤ 1 := by
      rcases k8 with ⟨e, _⟩ | ⟨s, e, _⟩ <;> rw [e] <;> simp
    obtain ⟨s1, s2, s3, s4⟩ := h.next hnet (by rw [a1]; exact h.id1) (by rw [a1]; exact h.idn) (by rw [hrec, k0]; exact hol)
    rw [hrec, k0] at s3 s4
    simp only at s3 s4
    have hx : (cstep w dlv).nd id = x' := by rw [s4 id h.id1, if_pos a1.symm]
    have hnd : ∀ k, 1 ≤ k → k ≠ id → (cstep w dlv).nd k = w.nd k := fun k k1 ke => by rw [s4 k k1, if_neg (by rw [a1]; exact ke)]
    refine h.step hnet s1 s2 s3 m.src p1 pn pne (by rw [hx]; exact k1) (by rw [hx]; exact k2) (by rw [hx]; exact k3) (by rw [hx, hxe]; exact k4) (by rw [hx]; exact k5)
      (fun k q1 qn qi qp => by rw [hnd k q1 qi, hx, hxe]; exact ⟨rfl, k6 k q1 qp⟩) (by rw [hnd _ p1 pne]; exact h.terms _ p1 pn) (by rw [hnd _ p1 pne, hx]; exact k7) (fun s hs h3 hps => ?_) ?_ (fun _ => hpd) (fun s hs => ?_) hol (fun s hs h3 r hr hr3 => ?_) ?_
    · exact absurd (hpd.trans hps.symm) (hun.1 s hs (by omega) h3)
    · rcases k8 with ⟨_, hd, _⟩ | ⟨s, e, e3, ed, _⟩
      · right; rw [hx, hnd _ p1 pne]; exact hd
      · exact .inl ⟨s, by rw [e]; simp, by omega, by unfold peerOf; rw [if_pos e3]; exact ed⟩
    · rcases k8 with ⟨e, _⟩ | ⟨s', e, e3, ed, et, _⟩
      · rw [e] at hs; simp at hs
      · rw [e] at hs
        simp only [List.mem_singleton] at hs
        subst hs
        have : atOf s = m.src := by rw [atOf_tok (by omega)]; unfold peerOf; rw [if_pos e3]; exact ed
        rw [this, hx, hnd _ p1 pne]
        exact et
    · rcases k8 with ⟨e, _⟩ | ⟨s', e, e3, ed, et, _⟩
      · rw [e] at hs; simp at hs
      · rw [e] at hs
        simp only [List.mem_singleton] at hs
        subst hs
        have : peerOf s = m.src := by unfold peerOf; rw [if_pos e3]; exact ed
        rw [this, ← hpd]
        exact fun e => hun.1 r hr (by omega) hr3 e.symm
    · rw [hx, hxe]
      rcases k8 with ⟨e, _, ec⟩ | ⟨s', e, e3, ed, et, ec⟩
      · rw [e]; exact ec
      · rw [e]; simp only [costs]; omega
  have hcm4 : cost LL.length x m = if m.yes then (2 * ((LL.length : Int) - m.index) + 3).toNat else c3 LL.length (at_ x.mtch m.src) (at_ x.next m.src) - 1 := by unfold cost; rw [if_neg (by omega), if_neg (by omega), if_neg (by omega)]
  cases hy : m.yes
  case true =>
    obtain ⟨b1, b2, b3, b4⟩ := ht.yes hk hy
    have hmx : max (at_ x.mtch m.src) (min m.index (x.log.length : Int)) = m.index := by rw [hxl]; omega
    obtain ⟨z, hz⟩ : ∃ z : Nod, z = { x with mtch := x.mtch.set (m.src - 1).toNat m.index, next := x.next.set (m.src - 1).toNat (m.index + 1) } := ⟨_, rfl⟩
    have hhe : hears x m = sure z := by unfold hears; simp only; rw [hmx, hz]
    have hzn : ∀ k, 1 ≤ k → at_ z.next k = (if k = m.src then m.index + 1 else at_ x.next k) ∧ at_ z.mtch k = (if k = m.src then m.index else at_ x.mtch k) := fun k k1 => by
      rw [hz]
      exact ⟨at_set p1 (by omega) k1 _, at_set p1 (by omega) k1 _⟩
    have hgh : Good (sure z) := by
      have := received_good (m := m) gx
      rw [hrc, hy, hhe] at this
      exact this
    have hsure : (sure z).commit = LL.length ∨ ¬ n < 2 * (have_ (sure z).mtch LL.length : Int) := by
      have hzl : z.log = LL := by rw [hz]; exact hxl
      have := sure_all (x := z) (by rw [hz]; exact gx.commitn) (by rw [hzl]; exact h.len) (by rw [hzl, h.last, hz]; exact hterm.symm)
      rw [hzl] at this
      rw [show z.n = n by rw [hz]; exact hxn] at this
      exact this
    rw [hrc, hy, hhe]
    simp only [if_true]
    have hsl : (sure z).log = LL := by show z.log = LL; rw [hz]; exact hxl
    refine ⟨_, _, rfl, by show z.role = 3; rw [hz]; exact hrole, by show z.term = T; rw [hz]; exact hterm, hsl, ?_, hsure, fun k q1 qp => ?_, ?_, ?_⟩
    · show at_ z.mtch id = _
      rw [(hzn id h.id1).2, if_neg (fun e => pne e.symm)]
    · show at_ z.next k = _ ∧ at_ z.mtch k = _
      rw [(hzn k q1).1, (hzn k q1).2, if_neg qp, if_neg qp]; exact ⟨rfl, rfl⟩
    · show Has _ _ (at_ z.mtch m.src).toNat
      rw [(hzn _ p1).2, if_pos rfl]; exact b3
    · have e1 : at_ (sure z).next m.src = m.index + 1 := by show at_ z.next m.src = _; rw [(hzn _ p1).1, if_pos rfl]
      have e2 : at_ (sure z).mtch m.src = m.index := by show at_ z.mtch m.src = _; rw [(hzn _ p1).2, if_pos rfl]
      rw [e1, hcm4, hy, if_pos rfl]
      by_cases hc : m.index + 1 ≤ (x.log.length : Int)
      · rw [if_pos hc]
        rw [hxl] at hc
        right
        have hpo : peerOf (sends (sure z) m.src) = m.src := rfl
        refine ⟨_, rfl, rfl, rfl, ?_, ?_⟩
        · exact { term := by show z.term = T; rw [hz]; exact hterm, p1 := by rw [if_neg (by simp [sends]), hpo]; exact p1, pn := by rw [if_neg (by simp [sends]), hpo]; exact pn, pne := by rw [if_neg (by simp [sends]), hpo]; exact pne,
                  k1 := by simp [sends], k4 := by simp [sends], asks := fun hh => by simp [sends] at hh, votes := fun hh => by simp [sends] at hh, tells := fun hh => by simp [sends] at hh, yes := fun hh => by simp [sends] at hh, no := fun hh => by simp [sends] at hh,
                  sends := fun _ => ⟨by show z.id = id; rw [hz]; exact hxid, rfl, (sends_log hsl _).1, (sends_log hsl _).2, hgh.commit0, by
                    show at_ (sure z).mtch m.src ≤ at_ (sure z).next m.src - 1; rw [e1, e2]; omega, by show at_ (sure z).next m.src - 1 < _; rw [e1]; omega⟩ }
        · have : cost LL.length (sure z) (sends (sure z) m.src) = c3 LL.length (at_ (sure z).mtch m.src) (at_ (sure z).next m.src) := by unfold cost; simp [sends]
          rw [this, e1, e2]
          unfold c3
          omega
      · rw [if_neg hc]
        rw [hxl] at hc
        left
        exact ⟨rfl, ⟨b4 (by omega), by rw [e2]; omega, by rw [e1]; omega⟩, by omega⟩
  case false =>
    obtain ⟨b1, b2, b3⟩ := ht.no hk hy
    have hmx : max 1 (min (at_ x.next m.src - 1) (m.index + 1)) = m.index + 1 := by omega
    have hba : backs x m = { x with next := x.next.set (m.src - 1).toNat (m.index + 1) } := by unfold backs; rw [hmx]
    have hgh : Good (backs x m) := by
      have := received_good (m := m) gx
      rw [hrc, hy] at this
      exact this
    have hzn : ∀ k, 1 ≤ k → at_ (backs x m).next k = (if k = m.src then m.index + 1 else at_ x.next k) := fun k k1 => by
      rw [hba]
      exact at_set p1 (by omega) k1 _
    have hbm : (backs x m).mtch = x.mtch := by rw [hba]
    have hbc : (backs x m).commit = x.commit := by rw [hba]
    rw [hrc, hy]
    simp only [Bool.false_eq_true, if_false]
    have hsl : (backs x m).log = LL := by rw [hba]; exact hxl
    have hpo : peerOf (sends (backs x m) m.src) = m.src := rfl
    have e1 : at_ (backs x m).next m.src = m.index + 1 := by rw [hzn _ p1, if_pos rfl]
    refine ⟨_, _, rfl, by rw [hba]; exact hrole, by rw [hba]; exact hterm, hsl, by rw [hbm], by rw [hbm, hbc]; exact hcom, fun k q1 qp => ?_, by rw [hbm]; exact hhas, .inr ⟨_, rfl, rfl, rfl, ?_, ?_⟩⟩
    · rw [hzn k q1, if_neg qp, hbm]; exact ⟨rfl, rfl⟩
    · exact { term := by show (backs x m).term = T; rw [hba]; exact hterm, p1 := by rw [if_neg (by simp [sends]), hpo]; exact p1, pn := by rw [if_neg (by simp [sends]), hpo]; exact pn, pne := by rw [if_neg (by simp [sends]), hpo]; exact pne,
              k1 := by simp [sends], k4 := by simp [sends], asks := fun hh => by simp [sends] at hh, votes := fun hh => by simp [sends] at hh, tells := fun hh => by simp [sends] at hh, yes := fun hh => by simp [sends] at hh, no := fun hh => by simp [sends] at hh,
              sends := fun _ => ⟨by show (backs x m).id = id; rw [hba]; exact hxid, rfl, (sends_log hsl _).1, (sends_log hsl _).2, hgh.commit0, by
                show at_ (backs x m).mtch m.src ≤ at_ (backs x m).next m.src - 1; rw [e1, hbm]; omega, by show at_ (backs x m).next m.src - 1 < _; rw [e1]; omega⟩ }
    · have : cost LL.length (backs x m) (sends (backs x m) m.src) = c3 LL.length (at_ (backs x m).mtch m.src) (at_ (backs x m).next m.src) := by unfold cost; simp [sends]
      rw [this, hcm4, hy, e1, hbm]
      simp only [Bool.false_eq_true, if_false]
      unfold c3
      omega

theorem Led.go {n id T : Int} {LL : List Itm} {w : Wld} (h : Led n id T LL w) (hne : w.net ≠ []) :
    Led n id T LL (cstep w dlv) ∧ costs LL.length ((cstep w dlv).nd id) (cstep w dlv).net < costs LL.length (w.nd id) w.net := by
  obtain ⟨m, rest, hnet⟩ : ∃ m rest, w.net = m :: rest := List.exists_cons_of_ne_nil hne
  have ht := h.toks m (by rw [hnet]; exact List.mem_cons_self ..)
  have k1 := ht.k1; have k4 := ht.k4
  by_cases e1 : m.kind = 1
  · exact h.step1 hnet e1
  by_cases e2 : m.kind = 2
  · exact h.step2 hnet e2
  by_cases e3 : m.kind = 3
  · exact h.step3 hnet e3
  · exact h.step4 hnet (by omega)

theorem Led.calm {n id T : Int} {LL : List Itm} : ∀ (k : Nat) {w : Wld}, Led n id T LL w → costs LL.length (w.nd id) w.net ≤ k → Led n id T LL (calmN k w) ∧ (calmN k w).net = []
  | 0, w, h, hc => by
    refine ⟨h, ?_⟩
    cases hn : w.net with
    | nil => exact hn
    | cons m t =>
      have := (h.go (by rw [hn]; simp)).2
      omega
  | k + 1, w, h, hc => by
    unfold calmN
    split
    · rename_i h0
      exact ⟨h, List.eq_nil_of_length_eq_zero h0⟩
    · rename_i h0
      have hg := h.go (by intro e; rw [e] at h0; exact h0 rfl)
      exact Led.calm k hg.1 (by omega)

theorem Led.cost_le {n id T : Int} {LL : List Itm} {w : Wld} (h : Led n id T LL w) : costs LL.length (w.nd id) w.net ≤ 10 * 242 := by
  have h8 := h.net8
  obtain ⟨gx, hxid, hxn, _⟩ := h.sound.nd_good h.id1 h.idn
  have h60 : LL.length ≤ 60 := by have := gx.log60; rwa [h.log] at this
  refine Nat.le_trans (costs_le (c := 242) fun m hm => ?_) (Nat.mul_le_mul_right 242 h8)
  have ht := h.toks m hm
  have p1 := ht.p1; have pn := ht.pn
  unfold cost
  split
  · omega
  split
  · omega
  rename_i e1 e2
  rw [if_neg e1] at p1 pn
  have hpl := lead_places gx h.role p1 (by rw [hxn]; exact pn)
  rw [h.log] at hpl
  unfold peerOf at hpl
  split
  · rename_i e3
    rw [if_pos e3] at hpl
    unfold c3; omega
  · rename_i e3
    rw [if_neg e3] at hpl
    split
    · rename_i hy
      have := ht.yes (by have := ht.k1; have := ht.k4; omega) hy
      omega
    · unfold c3; omega

/-- When nothing is on its way any more, each has all, and the leader counts it as sure. -/
theorem Led.end_ {n id T : Int} {LL : List Itm} {w : Wld} (h : Led n id T LL w) (hn : w.net = []) : (∀ k, 1 ≤ k → k ≤ n → (w.nd k).log = LL) ∧ (w.nd id).commit = LL.length ∧ ∀ k, 1 ≤ k → k ≤ n → k ≠ id → Done LL (w.nd id) (w.nd k) k := by
  have hd : ∀ k, 1 ≤ k → k ≤ n → k ≠ id → Done LL (w.nd id) (w.nd k) k := fun k k1 kn ke => by
    rcases h.all k k1 kn ke with ⟨m, hm, _⟩ | hd
    · rw [hn] at hm; simp at hm
    · exact hd
  refine ⟨fun k k1 kn => ?_, ?_, hd⟩
  · by_cases e : k = id
    · rw [e]; exact h.log
    · exact (hd k k1 kn e).log
  · refine h.com.resolve_right fun hc => hc ?_
    obtain ⟨gx, hxid, hxn, _⟩ := h.sound.nd_good h.id1 h.idn
    have hml := gx.mtchl
    rw [if_pos h.role, hxn] at hml
    have hall : ∀ a ∈ (w.nd id).mtch, decide ((LL.length : Int) ≤ a) = true := by
      intro a ha
      obtain ⟨j, hj, rfl⟩ := List.mem_iff_getElem.1 ha
      have e : at_ (w.nd id).mtch ((j : Int) + 1) = (w.nd id).mtch[j] := by
        rw [at_eq (by omega)]
        congr 1
        omega
      rw [← e, decide_eq_true_eq]
      by_cases ei : (j : Int) + 1 = id
      · rw [ei, h.own]; exact Int.le_refl _
      · rw [(hd _ (by omega) (by omega) ei).mt]; exact Int.le_refl _
    have : have_ (w.nd id).mtch LL.length = (w.nd id).mtch.length := by unfold have_; rw [List.filter_eq_self.2 hall]
    rw [this]
    have := h.id1; have := h.idn
    omega

end Go.Proofs.Ytibjbpakbfodaaa
namespace Go.Proofs.Ytibjbpakbfodaaa

theorem others_mem {x : Nod} {k : Int} (h1 : 1 ≤ k) (hn : k ≤ x.n) (hk : k ≠ x.id) : k ∈ others x := by
  unfold others
  rw [List.mem_filter, List.mem_map]
  exact ⟨⟨(k - 1).toNat, by rw [List.mem_range]; omega, by omega⟩, by simpa using hk⟩
theorem others_few (x : Nod) : (others x).length ≤ x.n.toNat := by
  unfold others
  refine Nat.le_trans (List.length_filter_le _ _) ?_
  rw [List.length_map, List.length_range]
  exact Nat.le_refl _
theorem others_apart (x : Nod) : (others x).Pairwise (fun a b => a ≠ b) := by
  unfold others
  refine List.Pairwise.filter _ ?_
  rw [List.pairwise_map]
  exact (List.pairwise_lt_range (n := x.n.toNat)).imp fun h => by omega

theorem Has.more {l L : List Itm} {k : Nat} (h : Has l L k) (hk : k ≤ L.length) (D : List Itm) : Has l (L ++ D) k := ⟨h.1, by rw [List.take_append_of_le_length hk]; exact h.2⟩

/-- A leader has just put an item into its log, and has told all. -/
theorem led_enter {n id T cmd : Int} {w w' : Wld} {z : Nod} {rest : List Mes} (hs' : Sound n w') (hi' : ∃ G, WInv n G w') (hid1 : 1 ≤ id) (hidn : id ≤ n)
    (hnd : w'.nd id = put z cmd) (hno : ∀ k, 1 ≤ k → k ≤ n → k ≠ id → w'.nd k = w.nd k) (hnet : w'.net = rest ++ putSays z cmd)
    (zid : z.id = id) (zn : z.n = n) (zr : z.role = 3) (zt : z.term = T) (_ : 1 ≤ T) (zl : z.log.length < 60) (zc : z.commit ≤ z.log.length) (nl : (z.next.length : Int) = n) (ml : (z.mtch.length : Int) = n)
    (hterms : ∀ k, 1 ≤ k → k ≤ n → k ≠ id → (w.nd k).term ≤ T)
    (hpl : ∀ k, 1 ≤ k → k ≤ n → k ≠ id → at_ z.next k = z.log.length + 1 ∧ 0 ≤ at_ z.mtch k ∧ at_ z.mtch k ≤ z.log.length ∧ Has (w.nd k).log z.log (at_ z.mtch k).toNat)
    (hrest : ∀ m ∈ rest, m.term = T ∧ 1 ≤ atOf m ∧ atOf m ≤ n ∧ atOf m ≠ id ∧ ((m.kind = 1 ∧ m.src = id) ∨ (m.kind = 2 ∧ m.dst = id))) (hr5 : rest.length ≤ 5) :
    Led n id T (z.log ++ [⟨T, cmd⟩]) w' := by
  obtain ⟨u, hu⟩ : ∃ u, u = noted (grown z cmd) := ⟨_, rfl⟩
  have hg : grown z cmd = { z with log := z.log ++ [⟨T, cmd⟩] } := by unfold grown; rw [if_pos zl, zt]
  have hput : put z cmd = sure u := by rw [hu]; rfl
  have hulog : u.log = z.log ++ [⟨T, cmd⟩] := by rw [hu]; unfold noted; rw [hg]
  have huid : u.id = id := by rw [hu]; unfold noted; rw [hg]; exact zid
  have hun : u.n = n := by rw [hu]; unfold noted; rw [hg]; exact zn
  have hur : u.role = 3 := by rw [hu]; unfold noted; rw [hg]; exact zr
  have hut : u.term = T := by rw [hu]; unfold noted; rw [hg]; exact zt
  have huc : u.commit = z.commit := by rw [hu]; unfold noted; rw [hg]
  have hum : u.mtch = z.mtch.set (id - 1).toNat ((z.log.length + 1 : Nat) : Int) := by rw [hu]; unfold noted; rw [hg]; simp [zid]
  have hux : u.next = z.next.set (id - 1).toNat (((z.log.length + 1 : Nat) : Int) + 1) := by rw [hu]; unfold noted; rw [hg]; simp [zid]
  have hlen : (z.log ++ [(⟨T, cmd⟩ : Itm)]).length = z.log.length + 1 := by simp
  have hlast : lastT (z.log ++ [(⟨T, cmd⟩ : Itm)]) = T := by
    unfold lastT
    rw [termAt_nat _ (by omega) (Nat.le_refl _)]
    simp
  have e1 : ∀ k, 1 ≤ k → at_ (w'.nd id).next k = if k = id then ((z.log.length + 1 : Nat) : Int) + 1 else at_ z.next k := fun k k1 => by
    rw [hnd, hput]
    show at_ u.next k = _
    rw [hux]
    exact at_set hid1 (by omega) k1 _
  have e2 : ∀ k, 1 ≤ k → at_ (w'.nd id).mtch k = if k = id then ((z.log.length + 1 : Nat) : Int) else at_ z.mtch k := fun k k1 => by
    rw [hnd, hput]
    show at_ u.mtch k = _
    rw [hum]
    exact at_set hid1 (by omega) k1 _
  have hxlog : (w'.nd id).log = z.log ++ [⟨T, cmd⟩] := by rw [hnd, hput]; exact hulog
  obtain ⟨gx, _, _, _⟩ := hs'.nd_good hid1 hidn
  have hsays : putSays z cmd = (others (w'.nd id)).map (sends (w'.nd id)) := by rw [hnd]; rfl
  have hxn : (w'.nd id).n = n := by rw [hnd, hput]; exact hun
  have hxid : (w'.nd id).id = id := by rw [hnd, hput]; exact huid
  have hr12 : ∀ m ∈ rest, ¬ 3 ≤ m.kind := fun m hm => by have := (hrest m hm).2.2.2.2; omega
  refine { sound := hs', inv := hi', id1 := hid1, idn := hidn, role := by rw [hnd, hput]; exact hur, term := by rw [hnd, hput]; exact hut, log := hxlog, last := hlast, len := by omega, own := by rw [e2 id hid1, if_pos rfl, hlen], com := ?_, terms := fun k k1 kn => ?_, has := fun k k1 kn ke => ?_, net8 := ?_, toks := fun m hm => ?_, uniq := ?_, all := fun k k1 kn ke => ?_ }
  · have := sure_all (x := u) (by rw [huc, hulog, hlen]; omega) (by rw [hulog]; omega) (by rw [hulog, hlast, hut])
    rw [hulog, hun] at this
    rw [hnd, hput]
    exact this
  · by_cases e : k = id
    · rw [e, hnd, hput]; exact Int.le_of_eq hut
    · rw [hno k k1 kn e]; exact hterms k k1 kn e
  · obtain ⟨p1, p2, p3, p4⟩ := hpl k k1 kn ke
    rw [hno k k1 kn ke, e2 k k1, if_neg ke]
    exact p4.more (by omega) _
  · have h1 := others_few (w'.nd id)
    rw [hnet, hsays, List.length_append, List.length_map]
    have := gx.n5
    omega
  · rw [hnet] at hm
    rcases List.mem_append.1 hm with hm | hm
    · obtain ⟨r1, r2, r3, r4, r5⟩ := hrest m hm
      exact { term := r1, p1 := r2, pn := r3, pne := r4, k1 := by omega, k4 := by omega, asks := fun hk => by omega, votes := fun hk => by omega, sends := fun hk => by omega, tells := fun hk => by omega, yes := fun hk => by omega, no := fun hk => by omega }
    · rw [hsays, List.mem_map] at hm
      obtain ⟨k, hk, rfl⟩ := hm
      obtain ⟨k1, kn, ke⟩ := mem_others hk
      rw [hxn] at kn
      rw [hxid] at ke
      obtain ⟨p1, p2, p3, p4⟩ := hpl k k1 kn ke
      have f1 := e1 k k1
      have f2 := e2 k k1
      rw [if_neg ke] at f1 f2
      have hpo : peerOf (sends (w'.nd id) k) = k := rfl
      have hko : (sends (w'.nd id) k).kind = 3 := rfl
      exact { term := by show (w'.nd id).term = T; rw [hnd, hput]; exact hut, p1 := by rw [if_neg (by omega), hpo]; exact k1, pn := by rw [if_neg (by omega), hpo]; exact kn, pne := by rw [if_neg (by omega), hpo]; exact ke,
              k1 := by omega, k4 := by omega, asks := fun hh => by omega, votes := fun hh => by omega, tells := fun hh => by omega, yes := fun hh => by omega, no := fun hh => by omega,
              sends := fun _ => ⟨hxid, rfl, (sends_log hxlog _).1, (sends_log hxlog _).2, gx.commit0, by
                show at_ (w'.nd id).mtch k ≤ at_ (w'.nd id).next k - 1; rw [f1, f2]; omega, by show at_ (w'.nd id).next k - 1 < _; rw [f1]; omega⟩ }
  · rw [hnet, hsays, List.pairwise_append]
    refine ⟨?_, ?_, fun a ha b hb h1 _ => absurd h1 (hr12 a ha)⟩
    · refine List.pairwise_of_forall_mem_list fun a ha b hb h1 _ => absurd h1 (hr12 a ha)
    · rw [List.pairwise_map]
      exact (others_apart _).imp fun h _ _ => h
  · refine .inl ⟨sends (w'.nd id) k, ?_, by show (3 : Int) ≤ 3; omega, rfl⟩
    rw [hnet, hsays]
    refine List.mem_append_right _ (List.mem_map_of_mem (others_mem k1 (by rw [hxn]; exact kn) (by rw [hxid]; exact ke)))

/- ## Votes -/

/-- A request for a vote of the one that stands, or a vote for it. -/
structure Ctok (n id T : Int) (Lg : List Itm) (m : Mes) : Prop where
  term : m.term = T
  p1 : 1 ≤ atOf m
  pn : atOf m ≤ n
  pne : atOf m ≠ id
  commit : m.commit = 0
  items : m.items = []
  kind : (m.kind = 1 ∧ m.src = id ∧ m.index = Lg.length ∧ m.logTerm = lastT Lg) ∨ (m.kind = 2 ∧ m.dst = id ∧ m.yes = true ∧ m.index = 0 ∧ m.logTerm = 0)

structure Cand (n id T : Int) (Lg : List Itm) (w : Wld) : Prop where
  sound : Sound n w
  inv : ∃ G, WInv n G w
  id1 : 1 ≤ id
  idn : id ≤ n
  role : (w.nd id).role = 2
  term : (w.nd id).term = T
  log : (w.nd id).log = Lg
  room : Lg.length < 60
  self : id ∈ (w.nd id).votes
  few : ¬ n < 2 * ((w.nd id).votes.length : Int)
  others : ∀ k, 1 ≤ k → k ≤ n → k ≠ id → ((w.nd k).term < T ∨ ((w.nd k).term = T ∧ (w.nd k).vote = id)) ∧ newer Lg (w.nd k).log
  net5 : w.net.length ≤ 5
  toks : ∀ m ∈ w.net, Ctok n id T Lg m
  all : ∀ k, 1 ≤ k → k ≤ n → k ≠ id → (∃ m ∈ w.net, atOf m = k) ∨ k ∈ (w.nd id).votes

theorem plain_right {x : Nod} {m : Mes} (h1 : m.dst = x.id) (h2 : 1 ≤ m.src) (h3 : m.src ≤ x.n) (h4 : m.src ≠ x.id) (h5 : 1 ≤ m.kind) (h6 : m.kind ≤ 4) (h7 : 1 ≤ m.term) (h8 : m.term ≤ 1000000) (h9 : 0 ≤ m.index) (h10 : m.index ≤ 60) (h11 : m.commit = 0) (h12 : 0 ≤ m.logTerm) (h13 : m.logTerm ≤ m.term) (h14 : m.items = []) : lost x m = false := by
  unfold lost
  rw [if_neg (by omega), if_neg (by omega)]
  have e1 : decide (60 < m.index) = false := by simp; omega
  have e2 : decide (60 - m.index < (m.items.length : Int)) = false := by rw [h14]; simp; omega
  rw [e1, e2, h14]
  simp [rising, riseTo]
  omega

/-- One that is asked by the one that stands gives its vote. -/
theorem recv_asked {y : Nod} {m : Mes} (hk : m.kind = 1) (hg : Good y) (hl : lost y m = false) (hy : y.term < m.term ∨ (y.term = m.term ∧ y.vote = m.src)) (hn : lastT y.log < m.logTerm ∨ (m.logTerm = lastT y.log ∧ (y.log.length : Int) ≤ m.index)) :
    (receive y m).1.term = m.term ∧ (receive y m).1.vote = m.src ∧ (receive y m).1.log = y.log ∧ (receive y m).2 = [{ kind := 2, src := y.id, dst := m.src, term := m.term, index := 0, logTerm := 0, commit := 0, items := [], yes := true }] := by
  have hw := wrong_of_good hg
  unfold receive
  rw [if_neg (by rw [hl]; simp [hw])]
  obtain ⟨z, hz⟩ : ∃ z, (if y.term < m.term then follow y m.term 0 else y) = z := ⟨_, rfl⟩
  have hz1 : z.term = m.term ∧ z.log = y.log ∧ z.id = y.id ∧ (z.vote = 0 ∨ z.vote = m.src) := by
    rw [← hz]
    split
    · refine ⟨?_, rfl, rfl, .inl ?_⟩ <;> unfold follow <;> simp only <;> rw [if_pos (by assumption)]
    · exact ⟨by omega, rfl, rfl, .inr (by omega)⟩
  rw [hz]
  obtain ⟨z1, z2, z3, z4⟩ := hz1
  simp only
  rw [if_pos hk]
  have hv : votesFor z m = true := by
    unfold votesFor
    unfold lastT at hn
    rw [z2, z1]
    simp only [Bool.and_eq_true, Bool.or_eq_true, decide_eq_true_eq]
    exact ⟨⟨trivial, z4⟩, hn⟩
  unfold asked
  rw [hv]
  exact ⟨z1, rfl, z2, by simp only [z1, z3]⟩

theorem mem_insert_self (k : Int) : ∀ l : List Int, k ∈ insertB k l
  | [] => by simp [insertB]
  | v :: t => by
    unfold insertB
    split
    · exact List.mem_cons_of_mem _ (mem_insert_self k t)
    split
    · rename_i e; rw [e]; exact List.mem_cons_self ..
    · exact List.mem_cons_self ..
theorem mem_insert_old {k v : Int} : ∀ {l : List Int}, v ∈ l → v ∈ insertB k l
  | [], h => by simp at h
  | a :: t, h => by
    unfold insertB
    split
    · rcases List.mem_cons.1 h with rfl | h
      · exact List.mem_cons_self ..
      · exact List.mem_cons_of_mem _ (mem_insert_old h)
    split
    · exact h
    · exact List.mem_cons_of_mem _ h

theorem len_of_all : ∀ (n : Nat) (l : List Int), (∀ k : Int, 1 ≤ k → k ≤ n → k ∈ l) → n ≤ l.length
  | 0, _, _ => Nat.zero_le _
  | n + 1, l, h => by
    have hm := h ((n : Int) + 1) (by omega) (by omega)
    have h1 := List.length_erase_of_mem hm
    have h2 := len_of_all n (l.erase ((n : Int) + 1)) fun k k1 kn => (List.mem_erase_of_ne (by omega)).2 (h k k1 (by omega))
    have := List.length_pos_of_mem hm
    omega

theorem recv_voted {x : Nod} {m : Mes} (hk : m.kind = 2) (hg : Good x) (hl : lost x m = false) (hr : x.role = 2) (ht : m.term = x.term) (hy : m.yes = true) : receive x m = (lead { x with votes := insertB m.src x.votes }, leadSays { x with votes := insertB m.src x.votes }) := by
  have hw := wrong_of_good hg
  unfold receive
  rw [if_neg (by rw [hl]; simp [hw])]
  rw [if_neg (show ¬ x.term < m.term by omega)]
  simp only
  rw [if_neg (show ¬ m.kind = 1 by omega), if_pos hk]
  unfold voted
  rw [if_neg (by rw [hy]; simp; omega)]

theorem Cand.next {n id T : Int} {Lg : List Itm} {w : Wld} (h : Cand n id T Lg w) {m : Mes} {rest : List Mes} (hnet : w.net = m :: rest) (h1 : 1 ≤ m.dst) (hn : m.dst ≤ n) (ho : (receive (w.nd m.dst) m).2.length ≤ 5) :
    Sound n (cstep w dlv) ∧ (∃ G, WInv n G (cstep w dlv)) ∧ (cstep w dlv).net = rest ++ (receive (w.nd m.dst) m).2 ∧ ∀ k, 1 ≤ k → (cstep w dlv).nd k = if k = m.dst then (receive (w.nd m.dst) m).1 else w.nd k := by
  refine ⟨cstep_sound h.sound _, ?_, ?_, fun k hk => ?_⟩
  · obtain ⟨G, hG⟩ := h.inv
    obtain ⟨G', h', _⟩ := cstep_inv h.sound hG dlv
    exact ⟨G', h'⟩
  · rw [dlv_step h.sound hnet h1 hn]
    have := h.net5
    rw [hnet, List.length_cons] at this
    exact trim_small (by rw [List.length_append]; omega)
  · rw [dlv_step h.sound hnet h1 hn]
    exact nd_set h.sound h1 hn hk _ _

abbrev votesCost (l : List Mes) : Nat := costs 0 (start 0 0) l
theorem voteCost1 {m : Mes} (h : m.kind = 1) : cost 0 (start 0 0) m = 2 := by unfold cost; rw [if_pos h]

theorem crowned_places {x : Nod} {k : Int} (h1 : 1 ≤ k) (hn : k ≤ x.n) : at_ (crowned x).next k = x.log.length + 1 ∧ at_ (crowned x).mtch k = 0 := by
  have e1 : (crowned x).next = List.replicate x.n.toNat ((x.log.length : Int) + 1) := rfl
  have e2 : (crowned x).mtch = List.replicate x.n.toNat 0 := rfl
  unfold at_
  rw [e1, e2, List.getElem?_replicate, List.getElem?_replicate, if_pos (by omega), if_pos (by omega)]
  exact ⟨rfl, rfl⟩

theorem Cand.go {n id T : Int} {Lg : List Itm} {w : Wld} (h : Cand n id T Lg w) : w.net ≠ [] ∧
    ((Cand n id T Lg (cstep w dlv) ∧ votesCost (cstep w dlv).net < votesCost w.net) ∨ Led n id T (Lg ++ [⟨T, 0⟩]) (cstep w dlv)) := by
  obtain ⟨gx, hxid, hxn, _⟩ := h.sound.nd_good h.id1 h.idn
  have hid1 := h.id1; have hidn := h.idn
  have hne : w.net ≠ [] := by
    intro e
    refine h.few ?_
    have := len_of_all n.toNat (w.nd id).votes fun k k1 kn => by
      by_cases ek : k = id
      · rw [ek]; exact h.self
      · rcases h.all k k1 (by omega) ek with ⟨m, hm, _⟩ | hv
        · rw [e] at hm; simp at hm
        · exact hv
    omega
  refine ⟨hne, ?_⟩
  obtain ⟨m, rest, hnet⟩ : ∃ m rest, w.net = m :: rest := List.exists_cons_of_ne_nil hne
  have ht := h.toks m (by rw [hnet]; exact List.mem_cons_self ..)
  have hrt : ∀ s ∈ rest, Ctok n id T Lg s := fun s hs => h.toks s (by rw [hnet]; exact List.mem_cons_of_mem _ hs)
  have hr4 : rest.length ≤ 4 := by have := h.net5; rw [hnet, List.length_cons] at this; omega
  have p1 := ht.p1; have pn := ht.pn; have pne := ht.pne; have hmt := ht.term
  have hT1 : 1 ≤ T := by have := gx.fresh (by have := h.role; omega); have := gx.term0; have := h.term; omega
  have hTn : T ≤ 1000000 := by have := gx.termn; have := h.term; omega
  have hri : Rise Lg T := by have := rise_of_good gx (by rw [h.term]; exact hT1); rwa [h.log, h.term] at this
  have hlt : 0 ≤ lastT Lg ∧ lastT Lg ≤ T := by
    unfold lastT
    refine ⟨?_, hri.termAt_le (by omega) (Nat.le_refl _)⟩
    exact hri.termAt_mono (a := 0) (b := Lg.length) (by omega) (by omega)
  have hroom := h.room
  rcases ht.kind with ⟨k1, k2, k3, k4⟩ | ⟨k1, k2, k3, k4, k5⟩
  · have hat : atOf m = m.dst := by unfold atOf; rw [if_pos k1]
    rw [hat] at p1 pn pne
    obtain ⟨gy, hyid, hyn, _⟩ := h.sound.nd_good p1 pn
    have hl := plain_right (x := w.nd m.dst) (m := m) hyid.symm (by omega) (by omega) (by omega) (by omega) (by omega) (by omega) (by omega) (by omega) (by omega) ht.commit (by omega) (by omega) ht.items
    obtain ⟨o1, o2⟩ := h.others m.dst p1 pn pne
    obtain ⟨r1, r2, r3, r4⟩ := recv_asked k1 gy hl (by rw [hmt, k2]; exact o1) (by
      rw [k4, k3]
      rcases o2 with o2 | ⟨o2, o3⟩
      · exact .inl o2
      · exact .inr ⟨o2, by omega⟩)
    obtain ⟨s1, s2, s3, s4⟩ := h.next hnet p1 pn (by rw [r4]; simp)
    rw [r4] at s3
    have hx : (cstep w dlv).nd id = w.nd id := by rw [s4 id h.id1, if_neg (fun e => pne e.symm)]
    left
    refine ⟨{ sound := s1, inv := s2, id1 := h.id1, idn := h.idn, role := by rw [hx]; exact h.role, term := by rw [hx]; exact h.term, log := by rw [hx]; exact h.log, room := h.room, self := by rw [hx]; exact h.self, few := by rw [hx]; exact h.few, others := fun k q1 qn qe => ?_, net5 := by rw [s3, List.length_append]; simp; omega, toks := fun s hs => ?_, all := fun k q1 qn qe => ?_ }, ?_⟩
    · rw [s4 k q1]
      split
      · rename_i e
        rw [r1, r2, r3, hmt, k2]
        exact ⟨.inr ⟨rfl, rfl⟩, o2⟩
      · exact h.others k q1 qn qe
    · rw [s3] at hs
      rcases List.mem_append.1 hs with hs | hs
      · exact hrt s hs
      · simp only [List.mem_singleton] at hs
        subst hs
        have hao : atOf ({ kind := 2, src := (w.nd m.dst).id, dst := m.src, term := m.term, index := 0, logTerm := 0, commit := 0, items := [], yes := true } : Mes) = m.dst := by
          unfold atOf peerOf; simp only; rw [if_neg (by omega), if_neg (by omega)]; exact hyid
        exact { term := hmt, p1 := by rw [hao]; exact p1, pn := by rw [hao]; exact pn, pne := by rw [hao]; exact pne, commit := rfl, items := rfl, kind := .inr ⟨rfl, k2, rfl, rfl, rfl⟩ }
    · rw [hx, s3]
      rcases h.all k q1 qn qe with ⟨s, hs, hsk⟩ | hv
      · rw [hnet] at hs
        rcases List.mem_cons.1 hs with rfl | hs
        · refine .inl ⟨_, List.mem_append_right _ (List.mem_singleton.2 rfl), ?_⟩
          unfold atOf peerOf; simp only; rw [if_neg (by omega), if_neg (by omega), hyid, ← hat]; exact hsk
        · exact .inl ⟨s, List.mem_append_left _ hs, hsk⟩
      · exact .inr hv
    · rw [s3, hnet]
      unfold votesCost
      rw [costs_append]
      simp only [costs]
      rw [voteCost1 k1, cost_small rfl]
      omega
  · have hat : atOf m = m.src := by unfold atOf peerOf; rw [if_neg (by omega), if_neg (by omega)]
    rw [hat] at p1 pn pne
    obtain ⟨x, hxe⟩ : ∃ x, w.nd id = x := ⟨_, rfl⟩
    have hrole := h.role; have hterm := h.term; have hlog := h.log; have hself := h.self
    rw [hxe] at gx hxid hxn hrole hterm hlog hself
    have hl := plain_right (x := x) (m := m) (by omega) p1 (by omega) (by omega) (by omega) (by omega) (by omega) (by omega) (by omega) (by omega) ht.commit (by omega) (by omega) ht.items
    have hrc := recv_voted k1 gx hl hrole (by omega) k3
    have hrec : receive (w.nd m.dst) m = receive x m := by rw [k2, hxe]
    obtain ⟨z, hz⟩ : ∃ z : Nod, z = { x with votes := insertB m.src x.votes } := ⟨_, rfl⟩
    rw [← hz] at hrc
    have hzn : z.n = n := by rw [hz]; exact hxn
    have hzid : z.id = id := by rw [hz]; exact hxid
    have hsaysl : (leadSays z).length ≤ 5 := by
      unfold leadSays
      split
      · unfold putSays
        rw [List.length_map]
        have h1 := others_few (put (crowned z) 0)
        have h2 := (put_fields (crowned z) 0).2.1
        rw [h2] at h1
        have h3 : (crowned z).n = n := hzn
        rw [h3] at h1
        have := gx.n5
        omega
      · simp
    obtain ⟨s1, s2, s3, s4⟩ := h.next hnet (by omega) (by omega) (by rw [hrec, hrc]; exact hsaysl)
    rw [hrec, hrc] at s3 s4
    simp only at s3 s4
    have hx : (cstep w dlv).nd id = lead z := by rw [s4 id h.id1, if_pos k2.symm]
    have hnd : ∀ k, 1 ≤ k → k ≠ id → (cstep w dlv).nd k = w.nd k := fun k k1 ke => by rw [s4 k k1, if_neg (by rw [k2]; exact ke)]
    by_cases hm : z.n < 2 * (z.votes.length : Int)
    · right
      have e1 : lead z = put (crowned z) 0 := by unfold lead; rw [if_pos hm]
      have e2 : leadSays z = putSays (crowned z) 0 := by unfold leadSays; rw [if_pos hm]
      rw [e1] at hx
      rw [e2] at s3
      have hzl : (crowned z).log = Lg := by show z.log = Lg; rw [hz]; exact hlog
      have := led_enter (z := crowned z) (cmd := 0) (w := w) (T := T) s1 s2 h.id1 h.idn hx (fun k q1 _ qe => hnd k q1 qe) s3 hzid hzn rfl (by show z.term = T; rw [hz]; exact hterm) hT1 (by rw [hzl]; exact hroom) (by show z.commit ≤ z.log.length; rw [hz]; exact gx.commitn)
        (by show ((List.replicate z.n.toNat _).length : Int) = n; rw [List.length_replicate]; omega) (by show ((List.replicate z.n.toNat _).length : Int) = n; rw [List.length_replicate]; omega)
        (fun k q1 qn qe => by rcases (h.others k q1 qn qe).1 with e | e <;> omega)
        (fun k q1 qn qe => by
          obtain ⟨c1, c2⟩ := crowned_places (x := z) q1 (by omega)
          have : (crowned z).log.length = z.log.length := rfl
          rw [c1, c2, this]
          exact ⟨rfl, Int.le_refl _, by omega, Nat.zero_le _, by simp⟩)
        (fun s hs => by
          have hts := hrt s hs
          refine ⟨hts.term, hts.p1, hts.pn, hts.pne, ?_⟩
          rcases hts.kind with ⟨q1, q2, _⟩ | ⟨q1, q2, _⟩
          · exact .inl ⟨q1, q2⟩
          · exact .inr ⟨q1, q2⟩) (by omega)
      rw [hzl] at this
      exact this
    · left
      have e1 : lead z = z := by unfold lead; rw [if_neg hm]
      have e2 : leadSays z = [] := by unfold leadSays; rw [if_neg hm]
      rw [e1] at hx
      rw [e2, List.append_nil] at s3
      have hzv : z.votes = insertB m.src x.votes := by rw [hz]
      refine ⟨{ sound := s1, inv := s2, id1 := h.id1, idn := h.idn, role := by rw [hx, hz]; exact hrole, term := by rw [hx, hz]; exact hterm, log := by rw [hx, hz]; exact hlog, room := h.room, self := by rw [hx, hzv]; exact mem_insert_old hself, few := by rw [hx, ← hzn]; exact hm,
                others := fun k q1 qn qe => by rw [hnd k q1 qe]; exact h.others k q1 qn qe, net5 := by rw [s3]; omega, toks := fun s hs => hrt s (by rw [← s3]; exact hs), all := fun k q1 qn qe => ?_ }, ?_⟩
      · rw [hx, s3, hzv]
        rcases h.all k q1 qn qe with ⟨s, hs, hsk⟩ | hv
        · rw [hnet] at hs
          rcases List.mem_cons.1 hs with rfl | hs
          · right
            rw [← hsk, hat]
            exact mem_insert_self _ _
          · exact .inl ⟨s, hs, hsk⟩
        · rw [hxe] at hv
          exact .inr (mem_insert_old hv)
      · rw [s3, hnet]
        unfold votesCost
        simp only [costs]
        rw [cost_small k1]
        omega

theorem Cand.calm {n id T : Int} {Lg : List Itm} : ∀ (k : Nat) {w : Wld}, Cand n id T Lg w → votesCost w.net ≤ k → Led n id T (Lg ++ [⟨T, 0⟩]) (calmN (k + 2420) w) ∧ (calmN (k + 2420) w).net = []
  | 0, w, h, hc => by
    obtain ⟨h1, h2⟩ := h.go
    exfalso
    obtain ⟨m, rest, hnet⟩ : ∃ m rest, w.net = m :: rest := List.exists_cons_of_ne_nil h1
    have ht := (h.toks m (by rw [hnet]; exact List.mem_cons_self ..)).kind
    rw [hnet] at hc
    unfold votesCost at hc
    simp only [costs] at hc
    rcases ht with ⟨e, _⟩ | ⟨e, _⟩
    · rw [voteCost1 e] at hc; omega
    · rw [cost_small e] at hc; omega
  | k + 1, w, h, hc => by
    obtain ⟨h1, h2⟩ := h.go
    rw [show k + 1 + 2420 = (k + 2420) + 1 by omega]
    unfold calmN
    rw [if_neg (fun e => h1 (List.eq_nil_of_length_eq_zero e))]
    rcases h2 with ⟨h2, h3⟩ | h2
    · exact Cand.calm k h2 (by omega)
    · exact Led.calm _ h2 (Nat.le_trans h2.cost_le (by omega))

end Go.Proofs.Ytibjbpakbfodaaa
namespace Go.Proofs.Ytibjbpakbfodaaa

theorem act_step {n : Int} {w : Wld} (h : Sound n w) {e : Evt} (he : e.kind = 1 ∨ e.kind = 2 ∨ e.kind = 3 ∨ e.kind = 7) (h1 : 1 ≤ e.node) (hn : e.node ≤ n) :
    cstep w e = ⟨w.nodes.set (e.node - 1).toNat (acted (w.nd e.node) e).1, trim (w.net ++ (acted (w.nd e.node) e).2)⟩ := by
  obtain ⟨hk, eq⟩ := h.nd_eq h1 hn
  have hl := h.len
  rw [eq]
  have hs : spotOf w e.node = some (e.node - 1).toNat := by unfold spotOf; rw [if_neg (by omega)]
  unfold cstep
  rw [if_pos he]
  simp only [hs, List.getElem?_eq_getElem hk]

theorem act_next {n : Int} {w : Wld} (h : Sound n w) (hi : ∃ G, WInv n G w) {e : Evt} (he : e.kind = 1 ∨ e.kind = 2 ∨ e.kind = 3 ∨ e.kind = 7) (h1 : 1 ≤ e.node) (hn : e.node ≤ n) :
    Sound n (cstep w e) ∧ (∃ G, WInv n G (cstep w e)) ∧ (cstep w e).net = trim (w.net ++ (acted (w.nd e.node) e).2) ∧ ∀ k, 1 ≤ k → (cstep w e).nd k = if k = e.node then (acted (w.nd e.node) e).1 else w.nd k := by
  refine ⟨cstep_sound h e, ?_, by rw [act_step h he h1 hn], fun k hk => ?_⟩
  · obtain ⟨G, hG⟩ := hi
    obtain ⟨G', h', _⟩ := cstep_inv h hG e
    exact ⟨G', h'⟩
  · rw [act_step h he h1 hn]
    exact nd_set h h1 hn hk _ _

/-- Some of what is on its way is lost. -/
theorem fewer {n : Int} {w : Wld} (h : Sound n w) (hi : ∃ G, WInv n G w) {net : List Mes} (hs : ∀ m ∈ net, m ∈ w.net) (hl : net.length ≤ 60) : Sound n ⟨w.nodes, net⟩ ∧ ∃ G, WInv n G ⟨w.nodes, net⟩ := by
  obtain ⟨G, hG⟩ := hi
  exact ⟨⟨h.len, h.good, h.id, h.n, hl⟩, G, ⟨hG.g, hG.nodes, fun m hm => hG.net m (hs m hm)⟩⟩

/-- What is said now stays when what is old is left aside. -/
theorem filter_new {T : Int} {a b : List Mes} (ha : ∀ m ∈ a, m.term < T) (hb : ∀ m ∈ b, m.term = T) (hl : b.length ≤ 60) : (trim (a ++ b)).filter (fun m => decide (m.term = T)) = b := by
  unfold trim
  rw [List.length_append, List.drop_append, show a.length + b.length - 60 - a.length = 0 by omega, List.drop_zero, List.filter_append]
  have e1 : (a.drop (a.length + b.length - 60)).filter (fun m => decide (m.term = T)) = [] := by
    rw [List.filter_eq_nil_iff]
    intro m hm
    have := ha m (List.mem_of_mem_drop hm)
    simp only [decide_eq_true_eq]
    omega
  have e2 : b.filter (fun m => decide (m.term = T)) = b := by
    rw [List.filter_eq_self]
    intro m hm
    simp only [decide_eq_true_eq]
    exact hb m hm
  rw [e1, e2, List.nil_append]

/-- It hears of nobody, as often as its term is not above the highest. -/
def tryN (high id : Int) : Nat → Wld → Wld
  | 0, w => w
  | k + 1, w => if (w.nd id).term ≤ high then tryN high id k (cstep w ⟨1, id, 0⟩) else w

theorem tryN_done {high id : Int} {w : Wld} (h : high < (w.nd id).term) : ∀ k, tryN high id k w = w
  | 0 => rfl
  | k + 1 => by unfold tryN; rw [if_neg (by omega)]

structure Wait (n id high : Int) (Lg : List Itm) (w : Wld) : Prop where
  sound : Sound n w
  inv : ∃ G, WInv n G w
  id1 : 1 ≤ id
  idn : id ≤ n
  role : (w.nd id).role ≠ 3
  log : (w.nd id).log = Lg
  room : Lg.length < 60
  term : (w.nd id).term ≤ high
  net : ∀ m ∈ w.net, m.term ≤ (w.nd id).term
  others : ∀ k, 1 ≤ k → k ≤ n → k ≠ id → (w.nd k).term ≤ high ∧ newer Lg (w.nd k).log
  one : n = 1 → (w.nd id).term = high

/-- What is said now, alone. -/
def nowOf (id : Int) (w : Wld) : Wld := ⟨w.nodes, w.net.filter (fun m => decide (m.term = (w.nd id).term))⟩

theorem wait_goes {n id high : Int} {Lg : List Itm} (hh : high ≤ 1000) : ∀ (k : Nat) {w : Wld}, Wait n id high Lg w → (high - (w.nd id).term).toNat < k →
    Cand n id (high + 1) Lg (nowOf id (tryN high id k w)) ∨ (Led n id (high + 1) (Lg ++ [⟨high + 1, 0⟩]) (nowOf id (tryN high id k w)) ∧ (nowOf id (tryN high id k w)).net = [])
  | 0, w, h, hk => by omega
  | k + 1, w, h, hk => by
    unfold tryN
    rw [if_pos h.term]
    obtain ⟨gx, hxid, hxn, _⟩ := h.sound.nd_good h.id1 h.idn
    have hid1 := h.id1; have hidn := h.idn
    obtain ⟨s1, s2, s3, s4⟩ := act_next h.sound h.inv (e := ⟨1, id, 0⟩) (.inl rfl) h.id1 h.idn
    have hac : acted (w.nd id) ⟨1, id, 0⟩ = timeout (w.nd id) := by unfold acted; rw [if_pos rfl]
    simp only at s3 s4
    rw [hac] at s3 s4
    obtain ⟨x, hxe⟩ : ∃ x, w.nd id = x := ⟨_, rfl⟩
    have hterm := h.term; have hlog := h.log; have hrole := h.role; have hnet := h.net; have hone := h.one
    rw [hxe] at s3 s4 gx hxid hxn hterm hlog hrole hnet hone hk
    have hto : timeout x = (lead (stood x), (others (stood x)).map (asks (stood x)) ++ leadSays (stood x)) := by
      unfold timeout
      rw [if_neg (by have := wrong_of_good gx; have := gx.term0; omega)]
    rw [hto] at s3 s4
    simp only at s3 s4
    have hx : (cstep w ⟨1, id, 0⟩).nd id = lead (stood x) := by rw [s4 id hid1, if_pos rfl]
    have hnd : ∀ k, 1 ≤ k → k ≤ n → k ≠ id → (cstep w ⟨1, id, 0⟩).nd k = w.nd k := fun k k1 _ ke => by rw [s4 k k1, if_neg ke]
    have hsn : (stood x).n = n := hxn
    have hsid : (stood x).id = id := hxid
    have hst : (stood x).term = x.term + 1 := rfl
    have hvl : (stood x).votes = [x.id] := rfl
    have hxt : (lead (stood x)).term = x.term + 1 := (lead_fields (stood x)).2.2.1
    have hm0 : ∀ s ∈ (others (stood x)).map (asks (stood x)), s.term = x.term + 1 := fun s hs => by
      rw [List.mem_map] at hs
      obtain ⟨k, _, rfl⟩ := hs
      rfl
    have ho5 : (others (stood x)).length ≤ 5 := by
      have h1 := others_few (stood x)
      rw [hsn] at h1
      have := gx.n5
      omega
    have h0 := gx.term0
    by_cases hn1 : n = 1
    · right
      have hmaj : (stood x).n < 2 * ((stood x).votes.length : Int) := by rw [hsn, hvl, hn1]; simp
      have e1 : lead (stood x) = put (crowned (stood x)) 0 := by unfold lead; rw [if_pos hmaj]
      have e2 : leadSays (stood x) = putSays (crowned (stood x)) 0 := by unfold leadSays; rw [if_pos hmaj]
      have hT : x.term = high := hone hn1
      have ho : others (stood x) = [] := by
        have h1 : ∀ k, k ∉ others (stood x) := fun k hk => by
          obtain ⟨q1, q2, q3⟩ := mem_others hk
          rw [hsn] at q2; rw [hsid] at q3
          omega
        exact List.eq_nil_iff_forall_not_mem.2 h1
      have ho2 : putSays (crowned (stood x)) 0 = [] := by
        unfold putSays
        have h1 : ∀ k, k ∉ others (put (crowned (stood x)) 0) := fun k hk => by
          obtain ⟨q1, q2, q3⟩ := mem_others hk
          rw [(put_fields (crowned (stood x)) 0).2.1] at q2; rw [(put_fields (crowned (stood x)) 0).1] at q3
          have a1 : (crowned (stood x)).n = n := hxn
          have a2 : (crowned (stood x)).id = id := hxid
          omega
        rw [List.eq_nil_iff_forall_not_mem.2 h1]
        rfl
      rw [tryN_done (by rw [hx, hxt]; omega)]
      rw [e1] at hx
      rw [ho, e2, ho2] at s3
      simp only [List.map_nil, List.append_nil] at s3
      have hnn : (nowOf id (cstep w ⟨1, id, 0⟩)).net = [] := by
        show ((cstep w ⟨1, id, 0⟩).net.filter _) = []
        rw [s3, hx, List.filter_eq_nil_iff]
        intro m hm
        have := hnet m (mem_trim hm)
        have a1 : (put (crowned (stood x)) 0).term = x.term + 1 := (put_fields (crowned (stood x)) 0).2.2.1
        rw [a1]
        simp only [decide_eq_true_eq]
        omega
      refine ⟨?_, hnn⟩
      obtain ⟨f1, f2⟩ := fewer s1 s2 (net := (nowOf id (cstep w ⟨1, id, 0⟩)).net) (fun m hm => by rw [hnn] at hm; simp at hm) (by rw [hnn]; simp)
      have hcl : (crowned (stood x)).log = Lg := hlog
      have := led_enter (w := w) (w' := nowOf id (cstep w ⟨1, id, 0⟩)) (z := crowned (stood x)) (cmd := 0) (T := high + 1) (rest := []) f1 f2 hid1 hidn hx hnd (by rw [hnn, ho2]; rfl) hxid hxn rfl (by show x.term + 1 = _; omega) (by omega) (by rw [hcl]; exact h.room) gx.commitn
        (by show ((List.replicate x.n.toNat _).length : Int) = n; rw [List.length_replicate]; omega) (by show ((List.replicate x.n.toNat _).length : Int) = n; rw [List.length_replicate]; omega)
        (fun k q1 qn qe => by omega) (fun k q1 qn qe => by omega) (fun s hs => by simp at hs) (by simp)
      rw [hcl] at this
      exact this
    · have hfew : ¬ (stood x).n < 2 * ((stood x).votes.length : Int) := by rw [hsn, hvl]; simp; omega
      have e1 : lead (stood x) = stood x := by unfold lead; rw [if_neg hfew]
      have e2 : leadSays (stood x) = [] := by unfold leadSays; rw [if_neg hfew]
      rw [e1] at hx
      rw [e2, List.append_nil] at s3
      by_cases hlt : x.term + 1 ≤ high
      · refine wait_goes hh k { sound := s1, inv := s2, id1 := hid1, idn := hidn, role := by rw [hx]; show (2 : Int) ≠ 3; omega, log := by rw [hx]; exact hlog, room := h.room, term := by rw [hx]; exact hlt, net := fun m hm => ?_, others := fun j q1 qn qe => by rw [hnd j q1 qn qe]; exact h.others j q1 qn qe, one := fun e => absurd e hn1 } (by rw [hx, hst]; omega)
        rw [s3] at hm
        rw [hx, hst]
        rcases List.mem_append.1 (mem_trim hm) with hm | hm
        · have := hnet m hm; omega
        · have := hm0 m hm; omega
      · left
        have hT : x.term = high := by omega
        rw [tryN_done (by rw [hx, hst]; omega)]
        have hnn : (nowOf id (cstep w ⟨1, id, 0⟩)).net = (others (stood x)).map (asks (stood x)) := by
          show ((cstep w ⟨1, id, 0⟩).net.filter _) = _
          rw [s3, hx, hst]
          exact filter_new (fun m hm => by have := hnet m hm; omega) hm0 (by rw [List.length_map]; omega)
        obtain ⟨f1, f2⟩ := fewer s1 s2 (net := (nowOf id (cstep w ⟨1, id, 0⟩)).net) (fun m hm => (List.mem_filter.1 hm).1) (by rw [hnn, List.length_map]; omega)
        have hx' : (nowOf id (cstep w ⟨1, id, 0⟩)).nd id = stood x := hx
        refine { sound := f1, inv := f2, id1 := hid1, idn := hidn, role := by rw [hx']; rfl, term := by rw [hx', hst]; omega, log := by rw [hx']; exact hlog, room := h.room, self := by rw [hx', hvl, hxid]; simp, few := by rw [hx']; rw [hsn] at hfew; exact hfew,
                 others := fun j q1 qn qe => ?_, net5 := by rw [hnn, List.length_map]; exact ho5, toks := fun m hm => ?_, all := fun j q1 qn qe => .inl ⟨asks (stood x) j, ?_, ?_⟩ }
        · have : (nowOf id (cstep w ⟨1, id, 0⟩)).nd j = w.nd j := hnd j q1 qn qe
          rw [this]
          obtain ⟨o1, o2⟩ := h.others j q1 qn qe
          exact ⟨.inl (by omega), o2⟩
        · rw [hnn, List.mem_map] at hm
          obtain ⟨j, hj, rfl⟩ := hm
          obtain ⟨q1, q2, q3⟩ := mem_others hj
          rw [hsn] at q2
          rw [hsid] at q3
          have ha : atOf (asks (stood x) j) = j := rfl
          exact { term := by show x.term + 1 = _; omega, p1 := by rw [ha]; exact q1, pn := by rw [ha]; exact q2, pne := by rw [ha]; exact q3, commit := rfl, items := rfl, kind := .inl ⟨rfl, hxid, by show (x.log.length : Int) = _; rw [hlog], by show termAt x.log x.log.length = _; rw [hlog]; rfl⟩ }
        · rw [hnn]
          exact List.mem_map_of_mem (others_mem q1 (by rw [hsn]; exact qn) (by rw [hsid]; exact qe))
        · rfl

/-- The end. -/
structure Went (n id : Int) (cmd : Int) (w : Wld) : Prop where
  sound : Sound n w
  role : (w.nd id).role = 3
  commit : (w.nd id).commit = (w.nd id).log.length
  last : ∃ l, (w.nd id).log = l ++ [⟨(w.nd id).term, cmd⟩]
  same : ∀ k, 1 ≤ k → k ≤ n → (w.nd k).log = (w.nd id).log

theorem goes_on {n id high cmd : Int} {w : Wld} (hs : Sound n w) (hi : ∃ G, WInv n G w) (hid1 : 1 ≤ id) (hidn : id ≤ n) (hbest : ∀ k, 1 ≤ k → k ≤ n → newer (w.nd id).log (w.nd k).log) (hroom : (w.nd id).log.length + 2 ≤ 60)
    (hhigh : ∀ k, 1 ≤ k → k ≤ n → (w.nd k).term ≤ high) (hone : ∃ k, 1 ≤ k ∧ k ≤ n ∧ (w.nd k).term = high) (hh : high ≤ 1000) {k : Nat} (hk : high + 1 ≤ k) :
    Went n id cmd (calmN 3000 (cstep (calmN 3000 (nowOf id (tryN high id k (cstep ⟨w.nodes, []⟩ ⟨7, id, 0⟩)))) ⟨3, id, cmd⟩)) := by
  obtain ⟨a1, a2⟩ := fewer hs hi (net := []) (fun m hm => by simp at hm) (by simp)
  obtain ⟨s1, s2, s3, s4⟩ := act_next a1 a2 (e := ⟨7, id, 0⟩) (.inr (.inr (.inr rfl))) hid1 hidn
  have hndw : ∀ j, (Wld.mk w.nodes []).nd j = w.nd j := fun _ => rfl
  have hac : acted (w.nd id) ⟨7, id, 0⟩ = (restart (w.nd id), []) := by unfold acted; simp
  simp only [hndw] at s3 s4
  rw [hac] at s3 s4
  simp only [List.append_nil] at s3 s4
  obtain ⟨gx, hxid, hxn, _⟩ := hs.nd_good hid1 hidn
  have hre : restart (w.nd id) = { follow (w.nd id) (w.nd id).term 0 with commit := 0 } := by unfold restart; rw [if_neg (by have := wrong_of_good gx; omega)]
  have hx : (cstep ⟨w.nodes, []⟩ ⟨7, id, 0⟩).nd id = restart (w.nd id) := by rw [s4 id hid1, if_pos rfl]
  have hxt : (restart (w.nd id)).term = (w.nd id).term := by rw [hre]; unfold follow; simp
  have hxl : (restart (w.nd id)).log = (w.nd id).log := by rw [hre]; rfl
  have hnet0 : (cstep ⟨w.nodes, []⟩ ⟨7, id, 0⟩).net = [] := by rw [s3]; rfl
  have hw : Wait n id high (w.nd id).log (cstep ⟨w.nodes, []⟩ ⟨7, id, 0⟩) :=
    { sound := s1, inv := s2, id1 := hid1, idn := hidn, role := by rw [hx, hre]; show (1 : Int) ≠ 3; omega, log := by rw [hx, hxl], room := by omega, term := by rw [hx, hxt]; exact hhigh id hid1 hidn, net := fun m hm => by rw [hnet0] at hm; simp at hm,
      others := fun j q1 qn qe => by rw [s4 j q1, if_neg qe]; exact ⟨hhigh j q1 qn, hbest j q1 qn⟩,
      one := fun e => by
        obtain ⟨j, q1, qn, qt⟩ := hone
        have : j = id := by omega
        subst this
        rw [hx, hxt]; exact qt }
  have h1 := wait_goes hh k hw (by rw [hx, hxt]; have := gx.term0; have := hhigh id hid1 hidn; omega)
  obtain ⟨W, hW⟩ : ∃ W, nowOf id (tryN high id k (cstep ⟨w.nodes, []⟩ ⟨7, id, 0⟩)) = W := ⟨_, rfl⟩
  rw [hW] at h1 ⊢
  clear hW
  have h2 : Led n id (high + 1) ((w.nd id).log ++ [⟨high + 1, 0⟩]) (calmN 3000 W) ∧ (calmN 3000 W).net = [] := by
    rcases h1 with h1 | ⟨h1, h1n⟩
    · have hc : votesCost W.net ≤ 580 := by
        have h5 := h1.net5
        have := costs_le (L := 0) (x := start 0 0) (c := 2) (l := W.net) fun m hm => by
          rcases (h1.toks m hm).kind with ⟨e, _⟩ | ⟨e, _⟩
          · rw [voteCost1 e]; omega
          · rw [cost_small e]; omega
        have : W.net.length * 2 ≤ 10 := by omega
        unfold votesCost
        omega
      exact h1.calm 580 hc
    · rw [calmN_none h1n]
      exact ⟨h1, h1n⟩
  clear h1
  obtain ⟨V, hV⟩ : ∃ V, calmN 3000 W = V := ⟨_, rfl⟩
  rw [hV] at h2 ⊢
  obtain ⟨h2, h2n⟩ := h2
  obtain ⟨c1, c2, c3⟩ := h2.end_ h2n
  obtain ⟨gv, hvid, hvn, _⟩ := h2.sound.nd_good hid1 hidn
  obtain ⟨t1, t2, t3, t4⟩ := act_next h2.sound h2.inv (e := ⟨3, id, cmd⟩) (.inr (.inr (.inl rfl))) hid1 hidn
  have hvl := h2.log
  have hvlen : (V.nd id).log.length = (w.nd id).log.length + 1 := by rw [hvl]; simp
  have hpr : propose (V.nd id) cmd = (put (V.nd id) cmd, putSays (V.nd id) cmd, true) := by
    unfold propose
    rw [if_neg (by have := wrong_of_good gv; have := h2.role; omega)]
  have hac2 : acted (V.nd id) ⟨3, id, cmd⟩ = (put (V.nd id) cmd, putSays (V.nd id) cmd) := by unfold acted; simp [hpr]
  simp only at t3 t4
  rw [hac2] at t3 t4
  simp only at t3 t4
  rw [h2n, List.nil_append] at t3
  have hps : (putSays (V.nd id) cmd).length ≤ 5 := by
    unfold putSays
    rw [List.length_map]
    have q1 := others_few (put (V.nd id) cmd)
    rw [(put_fields (V.nd id) cmd).2.1, hvn] at q1
    have := gv.n5
    omega
  rw [trim_small (by omega)] at t3
  have hvx : (cstep V ⟨3, id, cmd⟩).nd id = put (V.nd id) cmd := by rw [t4 id hid1, if_pos rfl]
  have hnl := gv.nextl; have hml := gv.mtchl
  rw [if_pos h2.role, hvn] at hnl hml
  have hL := led_enter (w := V) (z := V.nd id) (cmd := cmd) (T := high + 1) (rest := []) t1 t2 hid1 hidn hvx (fun j q1 qn qe => by rw [t4 j q1, if_neg qe]) (by rw [t3, List.nil_append]) hvid hvn h2.role h2.term
    (by have := gv.fresh (by have := h2.role; omega); have := gv.term0; have := h2.term; omega) (by omega) gv.commitn hnl hml (fun j q1 qn qe => h2.terms j q1 qn)
    (fun j q1 qn qe => by
      obtain ⟨d1, d2, d3⟩ := c3 j q1 qn qe
      rw [d2, d3, hvl, d1]
      exact ⟨rfl, by omega, Int.le_refl _, by rw [Int.toNat_natCast]; exact Nat.le_refl _, rfl⟩)
    (fun s hs => by simp at hs) (by simp)
  obtain ⟨e1, e2⟩ := hL.calm 3000 (Nat.le_trans hL.cost_le (by omega))
  obtain ⟨b1, b2, _⟩ := e1.end_ e2
  refine ⟨e1.sound, e1.role, ?_, ⟨(V.nd id).log, ?_⟩, fun j q1 qn => ?_⟩
  · rw [e1.log]; exact b2
  · rw [e1.log, e1.term]
  · rw [e1.log]; exact b1 j q1 qn

/- ## Terms are no more than events -/

def Upto (k : Int) (w : Wld) : Prop := (∀ x ∈ w.nodes, x.term ≤ k) ∧ ∀ m ∈ w.net, m.term ≤ k

theorem lead_term (x : Nod) : (lead x).term = x.term := (lead_fields x).2.2.1

theorem acted_upto (x : Nod) (e : Evt) : (acted x e).1.term ≤ x.term + 1 ∧ ∀ m ∈ (acted x e).2, m.term ≤ x.term + 1 := by
  have key : ∀ {y : Nod} {ms : List Mes}, Speaks x y ms → y.term ≤ x.term + 1 → y.term ≤ x.term + 1 ∧ ∀ m ∈ ms, m.term ≤ x.term + 1 := fun h ht => ⟨ht, fun m hm => by have := (h m hm).2.2.2.2.2; omega⟩
  unfold acted
  split
  · refine key (timeout_speaks x) ?_
    unfold timeout
    split
    · simp only; omega
    · simp only; rw [lead_term]; show x.term + 1 ≤ _; omega
  split
  · refine key (beat_speaks x) ?_
    unfold beat
    split <;> (simp only; omega)
  split
  · refine key (propose_speaks x _) ?_
    unfold propose
    split
    · simp only; omega
    · simp only; rw [(put_fields x e.pick).2.2.1]; omega
  · refine key (noSpeech x _) ?_
    simp only
    unfold restart
    split
    · omega
    · unfold follow; simp; omega

theorem receive_upto (x : Nod) (m : Mes) {k : Int} (hx : x.term ≤ k) (hm : m.term ≤ k) : (receive x m).1.term ≤ k ∧ ∀ s ∈ (receive x m).2, s.term ≤ k := by
  have ht : (receive x m).1.term ≤ k := by
    unfold receive
    split
    · exact hx
    have hy : (if x.term < m.term then follow x m.term 0 else x).term ≤ k := by
      split
      · unfold follow; simp only; split <;> omega
      · exact hx
    generalize (if x.term < m.term then follow x m.term 0 else x) = y at hy
    simp only
    split
    · exact hy
    split
    · unfold voted
      split
      · exact hy
      · simp only; rw [lead_term]; exact hy
    split
    · unfold appended
      split
      · exact hy
      have hf : (follow y m.term m.src).term ≤ k := by unfold follow; simp only; split <;> omega
      simp only
      split
      · exact hf
      · exact hf
    · unfold told
      split
      · exact hy
      split
      · exact hy
      · exact hy
  exact ⟨ht, fun s hs => by have := (receive_speaks x m s hs).2.2.2.2.2; omega⟩

theorem Upto.step {k : Int} {w : Wld} (h : Upto k w) (e : Evt) : Upto (k + 1) (cstep w e) := by
  obtain ⟨h1, h2⟩ := h
  have h3 : Upto (k + 1) w := ⟨fun x hx => by have := h1 x hx; omega, fun m hm => by have := h2 m hm; omega⟩
  have hset : ∀ {i : Nat} {x y : Nod} {ms net : List Mes}, w.nodes[i]? = some x → (y.term ≤ k + 1 ∧ ∀ m ∈ ms, m.term ≤ k + 1) → (∀ m ∈ net, m ∈ w.net) → Upto (k + 1) ⟨w.nodes.set i y, trim (net ++ ms)⟩ := by
    intro i x y ms net hx hy hn
    refine ⟨fun z hz => ?_, fun m hm => ?_⟩
    · rcases List.mem_or_eq_of_mem_set hz with hz | rfl
      · exact h3.1 z hz
      · exact hy.1
    · rcases List.mem_append.1 (mem_trim hm) with hm | hm
      · exact h3.2 m (hn m hm)
      · exact hy.2 m hm
  have hsub : ∀ {net : List Mes}, (∀ m ∈ net, m ∈ w.net) → Upto (k + 1) ⟨w.nodes, trim net⟩ := fun hn => ⟨h3.1, fun m hm => h3.2 m (hn m (mem_trim hm))⟩
  unfold cstep
  split
  · split
    · exact h3
    · split
      · exact h3
      · rename_i x hx
        refine hset hx ?_ (fun _ hm => hm)
        have hxt := h1 x (List.mem_of_getElem? hx)
        obtain ⟨q1, q2⟩ := acted_upto x e
        exact ⟨by omega, fun m hm => by have := q2 m hm; omega⟩
  split
  · split
    · exact h3
    split
    · exact h3
    · rename_i m hm
      have hmem : m ∈ w.net := List.mem_of_getElem? hm
      have hnet : ∀ s ∈ (if e.kind = 5 then w.net else w.net.eraseIdx e.pick.toNat), s ∈ w.net := by
        intro s hs
        split at hs
        · exact hs
        · exact List.mem_of_mem_eraseIdx hs
      simp only
      split
      · exact hsub hnet
      · split
        · exact hsub hnet
        · rename_i x hx
          exact hset hx (receive_upto x m (h3.1 x (List.mem_of_getElem? hx)) (h3.2 m hmem)) hnet
  · exact hsub fun m hm => hm

end Go.Proofs.Ytibjbpakbfodaaa
