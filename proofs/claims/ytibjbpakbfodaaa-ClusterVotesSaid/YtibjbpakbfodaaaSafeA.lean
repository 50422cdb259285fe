/- The safety of the cluster, plainly: majorities, logs, what has been (ghosts), leader completeness. No program is in sight. -/
import Derived.Test.YtibjbpakbfodaaaPureC
namespace Go.Proofs.Ytibjbpakbfodaaa

/- ## Majorities -/

theorem nodup_len : ∀ (n : Nat) (l : List Int), l.Nodup → (∀ v ∈ l, 1 ≤ v ∧ v ≤ n) → l.length ≤ n
  | 0, l, _, h => by
    cases l with
    | nil => simp
    | cons a t => have := h a (List.mem_cons_self ..); omega
  | n + 1, l, hd, h => by
    by_cases hm : ((n : Int) + 1) ∈ l
    · have h1 := List.length_erase_of_mem hm
      have h2 := nodup_len n (l.erase ((n : Int) + 1)) (hd.erase _) fun v hv => by
        have h3 := h v (List.mem_of_mem_erase hv)
        have h4 := (hd.mem_erase_iff.1 hv).1
        omega
      have := List.length_pos_of_mem hm
      omega
    · have h2 := nodup_len n l hd fun v hv => by
        have h3 := h v hv
        have h4 : v ≠ (n : Int) + 1 := fun e => hm (e ▸ hv)
        omega
      omega

/-- More than half of n nodes are so. -/
def Maj (n : Int) (p : Int → Prop) : Prop := ∃ Q : List Int, Q.Nodup ∧ (∀ v ∈ Q, 1 ≤ v ∧ v ≤ n ∧ p v) ∧ n < 2 * (Q.length : Int)

theorem Maj.mono {n : Int} {p q : Int → Prop} (h : Maj n p) (hpq : ∀ v, p v → q v) : Maj n q := by
  obtain ⟨Q, h1, h2, h3⟩ := h
  exact ⟨Q, h1, fun v hv => ⟨(h2 v hv).1, (h2 v hv).2.1, hpq v (h2 v hv).2.2⟩, h3⟩

theorem Maj.meet {n : Int} {p q : Int → Prop} (hn : 0 ≤ n) (h : Maj n p) (h' : Maj n q) : ∃ v, 1 ≤ v ∧ v ≤ n ∧ p v ∧ q v := by
  obtain ⟨Q, h1, h2, h3⟩ := h
  obtain ⟨R, k1, k2, k3⟩ := h'
  refine Classical.byContradiction fun hc => ?_
  have hd : ∀ v ∈ Q, v ∉ R := fun v hv hr => hc ⟨v, (h2 v hv).1, (h2 v hv).2.1, (h2 v hv).2.2, (k2 v hr).2.2⟩
  have hnd : (Q ++ R).Nodup := by
    rw [List.nodup_append]
    exact ⟨h1, k1, fun a ha b hb e => hd a ha (e ▸ hb)⟩
  have := nodup_len n.toNat (Q ++ R) hnd fun v hv => by
    rcases List.mem_append.1 hv with hv | hv
    · have := h2 v hv; omega
    · have := k2 v hv; omega
  rw [List.length_append] at this
  omega

/- ## Logs -/

def lastT (l : List Itm) : Int := termAt l l.length

/-- A log is at least as new as another one. -/
def newer (a b : List Itm) : Prop := lastT b < lastT a ∨ (lastT a = lastT b ∧ b.length ≤ a.length)
theorem newer_refl (a : List Itm) : newer a a := .inr ⟨rfl, Nat.le_refl _⟩

/-- Terms rise, from 1 on, up to T. -/
def Rise (l : List Itm) (T : Int) : Prop := l.Pairwise (fun x y => x.term ≤ y.term) ∧ ∀ x ∈ l, 1 ≤ x.term ∧ x.term ≤ T

theorem Rise.mono {l : List Itm} {T T' : Int} (h : Rise l T) (hT : T ≤ T') : Rise l T' := ⟨h.1, fun x hx => ⟨(h.2 x hx).1, Int.le_trans (h.2 x hx).2 hT⟩⟩
theorem Rise.take {l : List Itm} {T : Int} (h : Rise l T) (k : Nat) : Rise (l.take k) T := ⟨h.1.sublist (List.take_sublist _ _), fun x hx => h.2 x (List.mem_of_mem_take hx)⟩
theorem Rise.snoc {l : List Itm} {T c : Int} (h : Rise l T) (hT : 1 ≤ T) : Rise (l ++ [⟨T, c⟩]) T := by
  refine ⟨?_, ?_⟩
  · rw [List.pairwise_append]
    exact ⟨h.1, by simp, fun a ha b hb => by simp at hb; subst hb; exact (h.2 a ha).2⟩
  · intro y hy
    rcases List.mem_append.1 hy with hy | hy
    · exact h.2 y hy
    · simp at hy; subst hy; exact ⟨hT, Int.le_refl _⟩

theorem termAt_zero (l : List Itm) : termAt l 0 = 0 := rfl
theorem termAt_nil (i : Int) : termAt [] i = 0 := by unfold termAt; split <;> simp
theorem termAt_take {l L : List Itm} {k : Nat} (h : l.take k = L.take k) {m : Nat} (hm : m ≤ k) : termAt l m = termAt L m := by
  unfold termAt
  split
  · rfl
  · have e : ∀ a : List Itm, a[((m : Int) - 1).toNat]? = (a.take k)[((m : Int) - 1).toNat]? := fun a => by rw [List.getElem?_take_of_lt (by omega)]
    rw [e l, e L, h]

theorem Rise.termAt_mono {l : List Itm} {T : Int} (h : Rise l T) {a b : Nat} (hab : a ≤ b) (hb : b ≤ l.length) : termAt l a ≤ termAt l b := by
  rcases Nat.eq_zero_or_pos a with h0 | h0
  · subst h0
    rw [show ((0 : Nat) : Int) = 0 from rfl, termAt_zero]
    rcases Nat.eq_zero_or_pos b with h1 | h1
    · subst h1; exact Int.le_refl _
    · rw [termAt_nat l h1 hb]
      have := (h.2 _ (List.getElem_mem (show b - 1 < l.length by omega))).1
      omega
  · rw [termAt_nat l h0 (by omega), termAt_nat l (by omega) hb]
    rcases Nat.lt_or_ge (a - 1) (b - 1) with hlt | hge
    · exact List.pairwise_iff_getElem.1 h.1 (a - 1) (b - 1) (by omega) (by omega) hlt
    · have : a = b := by omega
      subst this
      exact Int.le_refl _
theorem Rise.termAt_le {l : List Itm} {T : Int} (h : Rise l T) (hT : 0 ≤ T) {a : Nat} (ha : a ≤ l.length) : termAt l a ≤ T := by
  rcases Nat.eq_zero_or_pos a with h0 | h0
  · subst h0; exact hT
  · rw [termAt_nat l h0 ha]
    exact (h.2 _ (List.getElem_mem _)).2

/-- The first k items of a log are those of another one. -/
def Has (l L : List Itm) (k : Nat) : Prop := k ≤ l.length ∧ l.take k = L.take k

theorem take_le {l L : List Itm} {k m : Nat} (h : l.take k = L.take k) (hm : m ≤ k) : l.take m = L.take m := by
  have := congrArg (List.take m) h
  rwa [List.take_take, List.take_take, Nat.min_eq_left hm] at this

/- ## What has been: ghosts -/

structure Gh where
  ld : Int → Option (Int × List Itm)
  hist : Int → Int → List Itm
  vot : Int → Int → Int
  ack : Int → Int → Nat

/-- Each item stands where the leader of its term has it, with all that is before it. -/
def Chain (G : Gh) (l : List Itm) : Prop := ∀ k (h : k < l.length), ∃ i L, G.ld (l[k]).term = some (i, L) ∧ k < L.length ∧ L.take (k + 1) = l.take (k + 1)

/-- Later: leaders' logs have grown; votes, answers and what was before a vote have stayed. -/
structure Later (G G' : Gh) : Prop where
  ld : ∀ t i L, G.ld t = some (i, L) → ∃ D, G'.ld t = some (i, L ++ D) ∧ ∀ x ∈ D, x.term = t
  vot : ∀ v t, G.vot v t ≠ 0 → G'.vot v t = G.vot v t
  ack : ∀ v t, G.ack v t ≤ G'.ack v t
  hist : ∀ v t t', t < t' → G.vot v t' ≠ 0 → G'.hist v t = G.hist v t

theorem Later.refl (G : Gh) : Later G G := ⟨fun t i L h => ⟨[], by rw [List.append_nil]; exact h, fun x hx => by simp at hx⟩, fun _ _ _ => rfl, fun _ _ => Nat.le_refl _, fun _ _ _ _ _ => rfl⟩
theorem Later.trans {G G1 G2 : Gh} (h : Later G G1) (h' : Later G1 G2) : Later G G2 := by
  refine ⟨fun t i L hl => ?_, fun v t hv => ?_, fun v t => Nat.le_trans (h.ack v t) (h'.ack v t), fun v t t' ht hv => ?_⟩
  · obtain ⟨D, h1, h2⟩ := h.ld t i L hl
    obtain ⟨D', h3, h4⟩ := h'.ld t i _ h1
    refine ⟨D ++ D', by rw [← List.append_assoc]; exact h3, fun x hx => ?_⟩
    rcases List.mem_append.1 hx with hx | hx
    · exact h2 x hx
    · exact h4 x hx
  · rw [h'.vot v t (by rw [h.vot v t hv]; exact hv), h.vot v t hv]
  · rw [h'.hist v t t' ht (by rw [h.vot v t' hv]; exact hv), h.hist v t t' ht hv]

theorem Later.none {G G' : Gh} (h : Later G G') {t : Int} (ht : G'.ld t = none) : G.ld t = none := by
  cases hl : G.ld t with
  | none => rfl
  | some p =>
    obtain ⟨i, L⟩ := p
    obtain ⟨D, h1, _⟩ := h.ld t i L hl
    rw [h1] at ht; cases ht

theorem Chain.later {G G' : Gh} (h : Later G G') {l : List Itm} (hc : Chain G l) : Chain G' l := by
  intro k hk
  obtain ⟨i, L, h1, h2, h3⟩ := hc k hk
  obtain ⟨D, h4, _⟩ := h.ld _ _ _ h1
  exact ⟨i, L ++ D, h4, by rw [List.length_append]; omega, by rw [List.take_append_of_le_length (by omega)]; exact h3⟩

theorem Chain.take {G : Gh} {l : List Itm} (hc : Chain G l) (m : Nat) : Chain G (l.take m) := by
  intro k hk
  rw [List.length_take] at hk
  obtain ⟨i, L, h1, h2, h3⟩ := hc k (by omega)
  refine ⟨i, L, by rw [List.getElem_take]; exact h1, h2, ?_⟩
  rw [List.take_take, Nat.min_eq_left (by omega)]
  exact h3

/-- Two logs with items of the same term at the same place are the same up to there. -/
theorem Chain.same {G : Gh} {a b : List Itm} (ha : Chain G a) (hb : Chain G b) {k : Nat} (hka : k < a.length) (hkb : k < b.length) (he : (a[k]).term = (b[k]).term) : a.take (k + 1) = b.take (k + 1) := by
  obtain ⟨i, L, h1, _, h3⟩ := ha k hka
  obtain ⟨j, M, k1, _, k3⟩ := hb k hkb
  rw [he, k1] at h1
  injection h1 with h1
  injection h1 with _ h1
  subst h1
  rw [← h3, k3]

/-- Item k of the leader of term t, of this term, is held by most, who said so in it. -/
def Sealed (n : Int) (G : Gh) (t : Int) (k : Nat) : Prop := ∃ i L, G.ld t = some (i, L) ∧ 1 ≤ k ∧ k ≤ L.length ∧ termAt L k = t ∧ Maj n fun v => k ≤ G.ack v t

theorem Sealed.later {n : Int} {G G' : Gh} (h : Later G G') {t : Int} {k : Nat} (hs : Sealed n G t k) : Sealed n G' t k := by
  obtain ⟨i, L, h1, h2, h3, h4, h5⟩ := hs
  obtain ⟨D, h6, _⟩ := h.ld _ _ _ h1
  refine ⟨i, L ++ D, h6, h2, by rw [List.length_append]; omega, ?_, h5.mono fun v hv => Nat.le_trans hv (h.ack v t)⟩
  rw [← h4]
  exact termAt_take (k := k) (by rw [List.take_append_of_le_length h3]) (Nat.le_refl k)

/-- The first c items of a log are sure. -/
def Sured (n : Int) (G : Gh) (T : Int) (l : List Itm) (c : Int) : Prop :=
  c ≤ l.length ∧ (c ≤ 0 ∨ ∃ t k i L, t ≤ T ∧ Sealed n G t k ∧ G.ld t = some (i, L) ∧ c ≤ (k : Int) ∧ l.take c.toNat = L.take c.toNat)

theorem Sealed.len {n : Int} {G : Gh} {t : Int} {k : Nat} (hs : Sealed n G t k) {i : Int} {L : List Itm} (hl : G.ld t = some (i, L)) : 1 ≤ k ∧ k ≤ L.length ∧ termAt L k = t ∧ Maj n fun v => k ≤ G.ack v t := by
  obtain ⟨i', L', h1, h2, h3, h4, h5⟩ := hs
  rw [hl] at h1
  injection h1 with h1
  injection h1 with _ h1
  subst h1
  exact ⟨h2, h3, h4, h5⟩

theorem Sured.later {n : Int} {G G' : Gh} (h : Later G G') {T T' : Int} (hT : T ≤ T') {l : List Itm} {c : Int} (hs : Sured n G T l c) : Sured n G' T' l c := by
  obtain ⟨h0, hs⟩ := hs
  refine ⟨h0, ?_⟩
  rcases hs with hs | ⟨t, k, i, L, h1, h2, h3, h4, h5⟩
  · exact .inl hs
  · obtain ⟨D, h6, _⟩ := h.ld _ _ _ h3
    have h7 := (h2.len h3).2.1
    exact .inr ⟨t, k, i, L ++ D, by omega, h2.later h, h6, h4, by rw [List.take_append_of_le_length (by omega)]; exact h5⟩
theorem Sured.append {n : Int} {G : Gh} {T : Int} {l : List Itm} {c : Int} (hs : Sured n G T l c) (D : List Itm) : Sured n G T (l ++ D) c := by
  obtain ⟨h0, hs⟩ := hs
  refine ⟨by rw [List.length_append]; omega, ?_⟩
  rcases hs with hs | ⟨t, k, i, L, h1, h2, h3, h4, h5⟩
  · exact .inl hs
  · exact .inr ⟨t, k, i, L, h1, h2, h3, h4, by rw [List.take_append_of_le_length (by omega)]; exact h5⟩
theorem Sured.less {n : Int} {G : Gh} {T : Int} {l : List Itm} {c c' : Int} (hs : Sured n G T l c) (hc : c' ≤ c) : Sured n G T l c' := by
  obtain ⟨h0, hs⟩ := hs
  refine ⟨by omega, ?_⟩
  rcases hs with hs | ⟨t, k, i, L, h1, h2, h3, h4, h5⟩
  · exact .inl (by omega)
  · exact .inr ⟨t, k, i, L, h1, h2, h3, by omega, take_le h5 (by omega)⟩

structure GInv (n : Int) (G : Gh) : Prop where
  lead : ∀ t i L, G.ld t = some (i, L) → 1 ≤ t ∧ 1 ≤ i ∧ i ≤ n ∧ Chain G L ∧ Rise L t ∧ G.vot i t = i ∧ (∃ D, L = G.hist i (t - 1) ++ D ∧ ∀ x ∈ D, x.term = t) ∧
    Maj n fun v => G.vot v t = i ∧ newer (G.hist i (t - 1)) (G.hist v (t - 1))
  hist : ∀ v t, Chain G (G.hist v t) ∧ Rise (G.hist v t) t
  still : ∀ v t, G.ld t = none → G.hist v t = G.hist v (t - 1) ∧ G.ack v t = 0
  keep : ∀ v t i L, G.ld t = some (i, L) → ∀ m : Nat, m ≤ L.length → termAt L m < t → Has (G.hist v (t - 1)) L m → Has (G.hist v t) L m
  acks : ∀ v t i L, G.ld t = some (i, L) → G.ack v t ≤ L.length ∧ Has (G.hist v t) L (G.ack v t)

/-- LEADER COMPLETENESS, of what has been. -/
theorem GInv.complete {n : Int} {G : Gh} (h : GInv n G) (hn : 0 ≤ n) {t : Int} {k : Nat} (hs : Sealed n G t k) {i0 : Int} {L : List Itm} (hL : G.ld t = some (i0, L)) :
    ∀ (d : Nat) (t' : Int), t < t' → (t' - t).toNat ≤ d → ∀ i' L', G.ld t' = some (i', L') → Has L' L k
  | 0, t', hlt, hd => by omega
  | d + 1, t', hlt, hd => by
    intro i' L' hl'
    have ih := GInv.complete h hn hs hL d
    obtain ⟨hk1, hkL, hkt, hmaj⟩ := hs.len hL
    obtain ⟨ht1, _, _, hchL, hriL, _, _, _⟩ := h.lead t i0 L hL
    obtain ⟨_, _, _, _, _, _, ⟨D, hD, _⟩, hmaj'⟩ := h.lead t' i' L' hl'
    obtain ⟨v, _, _, hva, _, hvn⟩ := hmaj.meet hn hmaj'
    have carry : ∀ (e : Nat), t + e < t' → Has (G.hist v (t + e)) L k := by
      intro e
      induction e with
      | zero =>
        intro _
        have ha := (h.acks v t i0 L hL).2
        rw [show t + ((0 : Nat) : Int) = t by omega]
        exact ⟨Nat.le_trans hva ha.1, take_le ha.2 hva⟩
      | succ e ihe =>
        intro he
        have hp := ihe (by omega)
        rw [show t + (e : Int) = t + ((e + 1 : Nat) : Int) - 1 by omega] at hp
        cases hld : G.ld (t + ((e + 1 : Nat) : Int)) with
        | none => rw [(h.still v _ hld).1]; exact hp
        | some q =>
          obtain ⟨j, M⟩ := q
          have hM := ih (t + ((e + 1 : Nat) : Int)) (by omega) (by omega) j M hld
          have hkM : termAt M k = t := by rw [termAt_take hM.2 (Nat.le_refl k)]; exact hkt
          have hv := h.keep v _ j M hld k hM.1 (by omega) ⟨hp.1, hp.2.trans hM.2.symm⟩
          exact ⟨hv.1, hv.2.trans hM.2⟩
    have hvl := carry (t' - 1 - t).toNat (by omega)
    rw [show t + ((t' - 1 - t).toNat : Int) = t' - 1 by omega] at hvl
    obtain ⟨hchv, hriv⟩ := h.hist v (t' - 1)
    obtain ⟨hchc, hric⟩ := h.hist i' (t' - 1)
    have hlast : t ≤ lastT (G.hist v (t' - 1)) := by
      have := hriv.termAt_mono hvl.1 (Nat.le_refl _)
      rw [termAt_take hvl.2 (Nat.le_refl k), hkt] at this
      exact this
    have fin : Has (G.hist i' (t' - 1)) L k := by
      generalize G.hist i' (t' - 1) = cl at *
      generalize G.hist v (t' - 1) = vl at *
      rcases hvn with hgt | ⟨heq, hlen⟩
      · have hcl : 0 < cl.length := by
          cases cl with
          | nil => unfold lastT at hgt hlast; rw [termAt_nil] at hgt; omega
          | cons a b => simp
        have e1 : lastT cl = (cl[cl.length - 1]).term := termAt_nat cl hcl (Nat.le_refl _)
        obtain ⟨j, M, m1, m2, m3⟩ := hchc (cl.length - 1) (by omega)
        rw [show cl.length - 1 + 1 = cl.length by omega, List.take_length] at m3
        have hsle := (hric.2 _ (List.getElem_mem (show cl.length - 1 < cl.length by omega))).2
        have hM := ih _ (by omega) (by omega) j M m1
        rcases Nat.lt_or_ge cl.length k with hlt' | hge
        · have a1 : termAt M cl.length = termAt L cl.length := termAt_take hM.2 (by omega)
          have a2 := hriL.termAt_mono (a := cl.length) (b := k) (by omega) hkL
          have a3 : termAt M cl.length = termAt cl cl.length := termAt_take (k := cl.length) (by rw [m3, List.take_length]) (Nat.le_refl _)
          have a4 : termAt cl cl.length = lastT cl := rfl
          omega
        · refine ⟨hge, ?_⟩
          rw [← hM.2]
          exact take_le (k := cl.length) (by rw [m3, List.take_length]) hge
      · have hvl0 : 0 < vl.length := by have := hvl.1; omega
        have e1 : lastT cl = (cl[cl.length - 1]).term := termAt_nat cl (by omega) (Nat.le_refl _)
        have e2 : lastT vl = (vl[vl.length - 1]).term := termAt_nat vl hvl0 (Nat.le_refl _)
        obtain ⟨j, M, m1, m2, m3⟩ := hchc (cl.length - 1) (by omega)
        obtain ⟨j', M', k1, k2, k3⟩ := hchv (vl.length - 1) (by omega)
        rw [← e1, heq, e2, k1] at m1
        injection m1 with m1
        injection m1 with _ m1
        subst m1
        rw [show cl.length - 1 + 1 = cl.length by omega] at m3
        rw [show vl.length - 1 + 1 = vl.length by omega] at k3
        have h1 := hvl.1
        refine ⟨by omega, ?_⟩
        rw [← hvl.2, ← take_le m3 (show k ≤ cl.length by omega), take_le k3 h1]
    subst hD
    refine ⟨by rw [List.length_append]; have := fin.1; omega, ?_⟩
    rw [List.take_append_of_le_length fin.1]
    exact fin.2

/-- What is sure is in the log of each leader of that term, or a later one. -/
theorem GInv.has {n : Int} {G : Gh} (h : GInv n G) (hn : 0 ≤ n) {t : Int} {k : Nat} (hs : Sealed n G t k) {i0 : Int} {L : List Itm} (hL : G.ld t = some (i0, L)) {t' i' : Int} {L' : List Itm} (ht : t ≤ t') (hl : G.ld t' = some (i', L')) : Has L' L k := by
  rcases Int.lt_or_eq_of_le ht with hlt | rfl
  · exact h.complete hn hs hL _ t' hlt (Nat.le_refl _) i' L' hl
  · rw [hL] at hl
    injection hl with hl
    injection hl with _ hl
    subst hl
    exact ⟨(hs.len hL).2.1, rfl⟩

/-- Two that are sure agree. -/
theorem Sured.agree {n : Int} {G : Gh} (h : GInv n G) (hn : 0 ≤ n) {T T' : Int} {l l' : List Itm} {c c' : Int} (hs : Sured n G T l c) (hs' : Sured n G T' l' c') : l.take (min c c').toNat = l'.take (min c c').toNat := by
  obtain ⟨h0, hs⟩ := hs
  obtain ⟨h0', hs'⟩ := hs'
  rcases hs with hs | ⟨t, k, i, L, h1, h2, h3, h4, h5⟩
  · rw [show (min c c').toNat = 0 by omega]; simp
  rcases hs' with hs' | ⟨t', k', i', L', h1', h2', h3', h4', h5'⟩
  · rw [show (min c c').toNat = 0 by omega]; simp
  rw [take_le h5 (show (min c c').toNat ≤ c.toNat by omega), take_le h5' (show (min c c').toNat ≤ c'.toNat by omega)]
  rcases Int.le_total t t' with ht | ht
  · exact (take_le (h.has hn h2 h3 ht h3').2 (by omega)).symm
  · exact take_le (h.has hn h2' h3' ht h3).2 (by omega)

end Go.Proofs.Ytibjbpakbfodaaa
