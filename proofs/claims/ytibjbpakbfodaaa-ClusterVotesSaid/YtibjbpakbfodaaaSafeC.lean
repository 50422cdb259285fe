/- The safety of the cluster, plainly: a follower takes what its leader sends; a leader counts; every call of the package. No program is in sight. -/
import Derived.Test.YtibjbpakbfodaaaSafeB
namespace Go.Proofs.Ytibjbpakbfodaaa

/- ## A follower takes what its leader sends -/

theorem taken_app : ∀ (items : List Itm) (k : Nat) (l : List Itm) (c : Int), k = l.length → taken k items l c = (l ++ items, c)
  | [], k, l, c, _ => by simp [taken]
  | x :: t, k, l, c, h => by
    rw [taken, List.getElem?_eq_none (by omega)]
    simp only
    rw [taken_app t (k + 1) (l ++ [x]) c (by simp; omega)]
    simp

theorem taken_log2 {G : Gh} {L : List Itm} (hL : Chain G L) : ∀ (items : List Itm) (k : Nat) (l : List Itm) (c : Int), Chain G l → k ≤ l.length → l.take k = L.take k → items = (L.drop k).take items.length → k + items.length ≤ L.length →
    ((taken k items l c).1 = l ∧ (taken k items l c).2 = c ∧ k + items.length ≤ l.length ∧ l.take (k + items.length) = L.take (k + items.length)) ∨
    ((taken k items l c).1 = L.take (k + items.length) ∧ ∃ j, k ≤ j ∧ j < k + items.length ∧ j ≤ l.length ∧ l.take j = L.take j ∧
      ((j = l.length ∧ (taken k items l c).2 = c) ∨ ((taken k items l c).2 = min c j ∧ ∃ (h : j < l.length) (h' : j < L.length), (l[j]).term ≠ (L[j]).term)))
  | [], k, l, c, _, hk, hp, _, _ => by left; simp [taken, hk, hp]
  | x :: t, k, l, c, hl, hk, hp, hi, hlen => by
    have hkL : k < L.length := by simp at hlen; omega
    have hdrop : L.drop k = L[k] :: L.drop (k + 1) := List.drop_eq_getElem_cons hkL
    rw [hdrop, List.length_cons, List.take_succ_cons] at hi
    injection hi with hx ht
    have htl : L.take (k + 1) = L.take k ++ [x] := by rw [List.take_succ_eq_append_getElem hkL, hx]
    rcases Nat.lt_or_ge k l.length with hlt | hge
    · have hg : l[k]? = some l[k] := List.getElem?_eq_getElem hlt
      by_cases he : (l[k]).term ≠ x.term
      · have e : taken k (x :: t) l c = taken (k + 1) t (l.take k ++ [x]) (min c k) := by rw [taken, hg]; simp only; rw [if_pos he]
        rw [e, hp, ← htl, taken_app t (k + 1) _ _ (by rw [List.length_take]; omega)]
        right
        simp only [List.length_cons]
        refine ⟨?_, k, Nat.le_refl _, by omega, hk, hp, .inr ⟨rfl, hlt, hkL, by rw [← hx]; exact he⟩⟩
        have hta : L.take (k + 1 + t.length) = L.take (k + 1) ++ (L.drop (k + 1)).take t.length := List.take_add
        rw [show k + (t.length + 1) = k + 1 + t.length by omega, hta, ← ht]
      · have e : taken k (x :: t) l c = taken (k + 1) t l c := by rw [taken, hg]; simp only; rw [if_neg he]
        have he' : (l[k]).term = (L[k]).term := by rw [← hx]; simpa using he
        have := taken_log2 hL t (k + 1) l c hl hlt (hl.same hL hlt hkL he') ht (by simp at hlen; omega)
        rw [e]
        simp only [List.length_cons]
        rw [show k + (t.length + 1) = k + 1 + t.length by omega]
        rcases this with h1 | ⟨h1, j, h2, h3⟩
        · exact .inl h1
        · exact .inr ⟨h1, j, by omega, h3⟩
    · right
      rw [taken_app _ k l c (by omega)]
      refine ⟨?_, k, Nat.le_refl _, by simp, hk, hp, .inl ⟨by omega, rfl⟩⟩
      have hl' : l = L.take k := by rw [← hp, List.take_of_length_le hge]
      rw [List.take_add, ← hl', List.length_cons, hdrop, List.take_succ_cons, ← ht, ← hx]

/-- What of a log was its leader's stays, and what was sent is there. -/
theorem taken_keeps {G : Gh} {L : List Itm} (hL : Chain G L) {items : List Itm} {k : Nat} {l : List Itm} {c : Int} (hl : Chain G l) (hk : k ≤ l.length) (hp : l.take k = L.take k) (hi : items = (L.drop k).take items.length) (hlen : k + items.length ≤ L.length) :
    Has (taken k items l c).1 L (k + items.length) ∧ (∀ m, Has l L m → m ≤ L.length → Has (taken k items l c).1 L m) ∧ (∀ m : Nat, c ≤ m → Has l L m → m ≤ L.length → (taken k items l c).2 = c) ∧
      ((taken k items l c).1 = l ∨ (taken k items l c).1 = L.take (k + items.length)) := by
  have hbound : ∀ j m, j ≤ l.length → l.take j = L.take j → (j = l.length ∨ ∃ (h : j < l.length) (h' : j < L.length), (l[j]).term ≠ (L[j]).term) → Has l L m → m ≤ j := by
    intro j m hj hjp hc hm
    rcases hc with rfl | ⟨h1, h2, h3⟩
    · exact hm.1
    · refine Nat.le_of_not_lt fun hlt => h3 ?_
      have e1 : l[j]? = (l.take m)[j]? := (List.getElem?_take_of_lt hlt).symm
      have e2 : L[j]? = (L.take m)[j]? := (List.getElem?_take_of_lt hlt).symm
      rw [hm.2, ← e2, List.getElem?_eq_getElem h1, List.getElem?_eq_getElem h2] at e1
      injection e1 with e1
      rw [e1]
  rcases taken_log2 hL items k l c hl hk hp hi hlen with ⟨h1, h2, h3, h4⟩ | ⟨h1, j, j1, j2, j3, j4, j5⟩
  · exact ⟨by rw [h1]; exact ⟨h3, h4⟩, fun m hm _ => by rw [h1]; exact hm, fun _ _ _ _ => h2, .inl h1⟩
  · have hj : ∀ m, Has l L m → m ≤ j := fun m hm => hbound j m j3 j4 (j5.elim (fun h => .inl h.1) fun h => .inr h.2) hm
    refine ⟨by rw [h1]; exact ⟨by rw [List.length_take]; omega, by rw [List.take_take, Nat.min_self]⟩, fun m hm hmL => ?_, fun m hcm hm hmL => ?_, .inr h1⟩
    · have := hj m hm
      rw [h1]
      exact ⟨by rw [List.length_take]; omega, by rw [List.take_take, Nat.min_eq_left (by omega)]⟩
    · have := hj m hm
      rcases j5 with h | ⟨h, _⟩
      · exact h.2
      · rw [h]; omega

def tookG (G : Gh) (i t : Int) (l : List Itm) (e : Nat) : Gh :=
  { G with ack := fun a b => if a = i ∧ b = t then max (G.ack i t) e else G.ack a b, hist := fun a b => if a = i ∧ t ≤ b then l else G.hist a b }

/-- The log of a follower has turned, by what the leader of its term has sent. -/
theorem took_goes {n : Int} {G : Gh} (hG : GInv n G) {x : Nod} (hx : NInv n G x) (hr : x.role = 1) {i : Int} {L : List Itm} (hl : G.ld x.term = some (i, L)) {l' : List Itm} {c : Int} {e : Nat}
    (hch : Chain G l') (hri : Rise l' x.term) (hhas : Has l' L e) (heL : e ≤ L.length) (hkeep : ∀ m, Has x.log L m → m ≤ L.length → Has l' L m) (hsure : ∀ G', Later G G' → Sured n G' x.term l' c) :
    GInv n (tookG G x.id x.term l' e) ∧ Later G (tookG G x.id x.term l' e) ∧ Turn x.id G (tookG G x.id x.term l' e) ∧ NInv n (tookG G x.id x.term l' e) { x with log := l', commit := c } := by
  have hak : ∀ {v t}, t ≠ x.term → (tookG G x.id x.term l' e).ack v t = G.ack v t := fun h => if_neg fun e => h e.2
  have hao : ∀ {v t}, v ≠ x.id → (tookG G x.id x.term l' e).ack v t = G.ack v t := fun h => if_neg fun e => h e.1
  have has : (tookG G x.id x.term l' e).ack x.id x.term = max (G.ack x.id x.term) e := if_pos ⟨rfl, rfl⟩
  have hhl : ∀ {v t}, t < x.term → (tookG G x.id x.term l' e).hist v t = G.hist v t := fun h => if_neg fun e => by have := e.2; omega
  have hho : ∀ {v t}, v ≠ x.id → (tookG G x.id x.term l' e).hist v t = G.hist v t := fun h => if_neg fun e => h e.1
  have hhs : ∀ {t}, x.term ≤ t → (tookG G x.id x.term l' e).hist x.id t = l' := fun h => if_pos ⟨rfl, h⟩
  have hL : Later G (tookG G x.id x.term l' e) := by
    refine ⟨fun t i L h => ⟨[], by rw [List.append_nil]; exact h, fun x hx => by simp at hx⟩, fun _ _ _ => rfl, fun v b => ?_, fun v t t' htt hv => ?_⟩
    · show G.ack v b ≤ if v = x.id ∧ b = x.term then max (G.ack x.id x.term) e else G.ack v b
      split
      · rename_i h; obtain ⟨rfl, rfl⟩ := h; omega
      · exact Nat.le_refl _
    · by_cases he : v = x.id
      · subst he
        refine hhl ?_
        refine Int.lt_of_not_ge fun hge => hv ?_
        exact (hx.later t' (by omega)).1
      · exact hho he
  have hack := hG.acks x.id x.term i L hl
  rw [hx.hist _ (Int.le_refl _)] at hack
  refine ⟨⟨fun t i L hti => ?_, fun v t => ?_, fun v t htn => ?_, fun v t j M hti => ?_, fun v t j M hti => ?_⟩, hL, ⟨fun v t hv => hho hv, fun _ _ _ => rfl, fun v t hv => hao hv, fun _ _ _ _ h => h⟩, ?_⟩
  · obtain ⟨k1, k2, k3, k4, k5, k6, k7, k8⟩ := hG.lead t i L hti
    rw [hL.hist i (t - 1) t (by omega) (by omega)]
    refine ⟨k1, k2, k3, k4.later hL, k5, k6, k7, k8.mono fun v hv => ?_⟩
    rw [hL.hist v (t - 1) t (by omega) (by omega)]
    exact hv
  · by_cases he : v = x.id ∧ x.term ≤ t
    · obtain ⟨rfl, he⟩ := he
      rw [hhs he]
      exact ⟨hch.later hL, hri.mono he⟩
    · have : (tookG G x.id x.term l' e).hist v t = G.hist v t := if_neg he
      rw [this]
      exact ⟨(hG.hist v t).1.later hL, (hG.hist v t).2⟩
  · have he : t ≠ x.term := fun e => by subst e; have h2 : G.ld x.term = none := htn; rw [hl] at h2; cases h2
    rw [hak he]
    obtain ⟨s1, s2⟩ := hG.still v t htn
    refine ⟨?_, s2⟩
    by_cases hv : v = x.id
    · subst hv
      rcases Int.lt_or_le t x.term with hlt | hge
      · rw [hhl hlt, hhl (by omega)]; exact s1
      · rw [hhs hge, hhs (by omega)]
    · rw [hho hv, hho hv]; exact s1
  · intro m hmL hmt hm
    by_cases hv : v = x.id
    · subst hv
      rcases Int.lt_or_le t x.term with hlt | hge
      · rw [hhl hlt]
        rw [hhl (by omega)] at hm
        exact hG.keep _ t j M hti m hmL hmt hm
      · rcases Int.lt_or_eq_of_le hge with hlt | heq
        · rw [hhs hge]
          rw [hhs (by omega)] at hm
          exact hm
        · subst heq
          have hti' : G.ld x.term = some (j, M) := hti
          rw [hl] at hti'
          injection hti' with hti'
          injection hti' with _ e2
          subst e2
          rw [hhl (by omega)] at hm
          have h2 := hG.keep _ _ _ _ hl m hmL hmt hm
          rw [hx.hist _ (Int.le_refl _)] at h2
          rw [hhs (Int.le_refl _)]
          exact hkeep m h2 hmL
    · rw [hho hv] at hm ⊢
      exact hG.keep v t j M hti m hmL hmt hm
  · by_cases hv : v = x.id
    · subst hv
      by_cases he : t = x.term
      · subst he
        have hti' : G.ld x.term = some (j, M) := hti
        rw [hl] at hti'
        injection hti' with hti'
        injection hti' with _ e2
        subst e2
        rw [has, hhs (Int.le_refl _)]
        refine ⟨by have := hack.1; omega, ?_⟩
        rcases Nat.le_total (G.ack x.id x.term) e with h1 | h1
        · rw [Nat.max_eq_right h1]; exact hhas
        · rw [Nat.max_eq_left h1]; exact hkeep _ hack.2 hack.1
      · rw [hak he]
        rcases Int.lt_or_le t x.term with hlt | hge
        · rw [hhl hlt]; exact hG.acks _ t j M hti
        · rw [(hx.later t (by omega)).2]
          exact ⟨Nat.zero_le _, Nat.zero_le _, by simp⟩
    · rw [hao hv, hho hv]
      exact hG.acks v t j M hti
  · refine ⟨fun t htt => hhs htt, hx.vote, fun t htt => ?_, fun h => by simp [hr] at h, fun h => by simp [hr] at h, hsure _ hL⟩
    have htt' : x.term < t := htt
    refine ⟨(hx.later t htt').1, ?_⟩
    show (tookG G x.id x.term l' e).ack x.id t = 0
    rw [hak (by omega)]
    exact (hx.later t htt').2

theorem noTells {n : Int} {G : Gh} {x : Nod} {m : Mes} {i : Int} : ∀ s ∈ [says x m false i], MInv n G s := by
  intro s hs
  simp at hs
  subst hs
  exact ⟨fun h => by simp [says] at h, fun h => by simp [says] at h, fun h => by simp [says] at h, fun _ h => by simp [says] at h⟩

theorem appended_goes {n : Int} {G : Gh} (hG : GInv n G) (hn : 0 ≤ n) {x : Nod} (hx : NInv n G x) (h1 : 1 ≤ x.id) {m : Mes} (hm : MInv n G m) (hk : m.kind = 3) (_ : m.src ≠ x.id) : Goes n G x (appended x m).1 (appended x m).2 := by
  unfold appended
  split
  · exact ⟨G, hG, Later.refl G, Turn.refl _ G, hx, noTells⟩
  rename_i hc
  obtain ⟨G1, a1, a2, a3, a4, _⟩ := follow_goes hG hx h1 m.term m.src
  have ht1 : (follow x m.term m.src).term = m.term := by unfold follow; simp only; split <;> omega
  have hid : (follow x m.term m.src).id = x.id := rfl
  have hrole : (follow x m.term m.src).role = 1 := rfl
  have hm1 := hm.later a2
  simp only
  generalize hy : follow x m.term m.src = y at *
  split
  · exact ⟨G1, a1, a2, a3, a4, noTells⟩
  rename_i hc2
  obtain ⟨L, l1, l2, l3, l4, l5, l6⟩ := hm1.sends hk
  obtain ⟨g1, _, _, g4, g5, _, _, _⟩ := a1.lead _ _ _ l1
  obtain ⟨k, hki⟩ : ∃ k : Nat, m.index = k := ⟨m.index.toNat, by omega⟩
  rw [hki, Int.toNat_natCast] at l4
  have hkt : m.index.toNat = k := by omega
  rw [hkt]
  have hy0 := a1.hist y.id y.term
  rw [a4.hist _ (Int.le_refl _)] at hy0
  obtain ⟨hy1, hy2⟩ := hy0
  have hkl : k ≤ y.log.length := by omega
  have hp : y.log.take k = L.take k := by
    rcases Nat.eq_zero_or_pos k with h0 | h0
    · subst h0; simp
    · have e : termAt y.log k = termAt L k := by
        have := l5 (by omega)
        rw [hki] at this hc2
        rw [← this]
        exact Decidable.byContradiction fun hne => hc2 (.inr ⟨hne, by omega⟩)
      rw [termAt_nat _ h0 hkl, termAt_nat _ h0 (by omega)] at e
      have := hy1.same g4 (k := k - 1) (by omega) (by omega) e
      rwa [show k - 1 + 1 = k by omega] at this
  obtain ⟨b1, b2, b3, b4⟩ := taken_keeps (c := y.commit) g4 hy1 hkl hp l4 (by omega)
  have hc1 : ∃ k0 : Nat, y.commit ≤ k0 ∧ Has y.log L k0 ∧ k0 ≤ L.length := by
    obtain ⟨s0, s1⟩ := a4.sure
    rcases s1 with s1 | ⟨t, k', i, M, q1, q2, q3, q4, q5⟩
    · exact ⟨0, by omega, ⟨Nat.zero_le _, by simp⟩, Nat.zero_le _⟩
    · have hh := a1.has hn q2 q3 (t' := m.term) (by omega) l1
      rcases Int.lt_or_le y.commit 0 with hneg | hpos
      · exact ⟨0, by omega, ⟨Nat.zero_le _, by simp⟩, Nat.zero_le _⟩
      · refine ⟨y.commit.toNat, by omega, ⟨by omega, ?_⟩, by have := hh.1; omega⟩
        rw [q5]
        exact (take_le hh.2 (by omega)).symm
  obtain ⟨k0, c0, c1, c2⟩ := hc1
  have hcm : (taken k m.items y.log y.commit).2 = y.commit := b3 k0 c0 c1 c2
  have hnew := b2 k0 c1 c2
  have hsure : ∀ G', Later G1 G' → Sured n G' y.term (taken k m.items y.log y.commit).1 (max (taken k m.items y.log y.commit).2 (min m.commit (m.index + m.items.length))) := by
    intro G' hG'
    refine Sured.later hG' (Int.le_refl _) ?_
    rw [hcm]
    have s1 : Sured n G1 y.term (taken k m.items y.log y.commit).1 y.commit := by
      obtain ⟨s0, s1⟩ := a4.sure
      refine ⟨by have := hnew.1; omega, s1.imp id ?_⟩
      rintro ⟨t, k', i, M, q1, q2, q3, q4, q5⟩
      refine ⟨t, k', i, M, q1, q2, q3, q4, ?_⟩
      rw [take_le hnew.2 (show y.commit.toNat ≤ k0 by omega), ← q5]
      exact (take_le c1.2 (by omega)).symm
    have s2 : Sured n G1 y.term (taken k m.items y.log y.commit).1 (min m.commit (m.index + m.items.length)) := by
      have := l6.less (c' := min m.commit (m.index + m.items.length)) (by omega)
      obtain ⟨t0, t1⟩ := this
      refine ⟨by have := b1.1; omega, t1.imp id ?_⟩
      rintro ⟨t, k', i, M, q1, q2, q3, q4, q5⟩
      refine ⟨t, k', i, M, by omega, q2, q3, q4, ?_⟩
      rw [← q5]
      exact take_le b1.2 (by omega)
    rcases Int.le_total y.commit (min m.commit (m.index + m.items.length)) with hle | hle
    · rw [Int.max_eq_right hle]; exact s2
    · rw [Int.max_eq_left hle]; exact s1
  have hri : Rise (taken k m.items y.log y.commit).1 y.term := by
    rcases b4 with h | h
    · rw [h]; exact hy2
    · rw [h, ht1]; exact g5.take _
  have hch : Chain G1 (taken k m.items y.log y.commit).1 := by
    rcases b4 with h | h
    · rw [h]; exact hy1
    · rw [h]; exact g4.take _
  rw [← ht1] at l1
  obtain ⟨d1, d2, d3, d4⟩ := took_goes a1 a4 hrole l1 hch hri b1 (by omega) b2 hsure
  refine ⟨_, d1, a2.trans d2, a3.trans (hid ▸ d3), d4, fun s hs => ?_⟩
  simp at hs
  subst hs
  refine ⟨fun h => by simp [says] at h, fun h => by simp [says] at h, fun h => by simp [says] at h, fun _ _ => ?_⟩
  show m.index + m.items.length ≤ ((tookG G1 y.id y.term (taken k m.items y.log y.commit).1 (k + m.items.length)).ack y.id y.term : Int)
  have : (tookG G1 y.id y.term (taken k m.items y.log y.commit).1 (k + m.items.length)).ack y.id y.term = max (G1.ack y.id y.term) (k + m.items.length) := if_pos ⟨rfl, rfl⟩
  rw [this]
  omega


/- ## A leader counts, puts, sends -/

theorem have_maj (l : List Int) (i : Int) : ∀ (off : Int), ∃ Q : List Int, Q.Nodup ∧ (∀ v ∈ Q, off < v ∧ v ≤ off + l.length ∧ ∃ (h : (v - off - 1).toNat < l.length), i ≤ l[(v - off - 1).toNat]) ∧ Q.length = have_ l i := by
  induction l with
  | nil => exact fun off => ⟨[], by simp, fun v hv => by simp at hv, by simp [have_]⟩
  | cons a t ih =>
    intro off
    obtain ⟨Q, h1, h2, h3⟩ := ih (off + 1)
    have hQ : ∀ v ∈ Q, off < v ∧ v ≤ off + (a :: t).length ∧ ∃ (h : (v - off - 1).toNat < (a :: t).length), i ≤ (a :: t)[(v - off - 1).toNat] := by
      intro v hv
      obtain ⟨k1, k2, k3, k4⟩ := h2 v hv
      simp only [List.length_cons]
      refine ⟨by omega, by omega, by omega, ?_⟩
      have e : (v - off - 1).toNat = (v - (off + 1) - 1).toNat + 1 := by omega
      simp only [e, List.getElem_cons_succ]
      exact k4
    by_cases ha : i ≤ a
    · refine ⟨(off + 1) :: Q, List.nodup_cons.2 ⟨fun hm => by have := (h2 _ hm).1; omega, h1⟩, fun v hv => ?_, ?_⟩
      · rcases List.mem_cons.1 hv with rfl | hv
        · have e : (off + 1 - off - 1).toNat = 0 := by omega
          simp only [e, List.length_cons, List.getElem_cons_zero]
          exact ⟨by omega, by omega, by omega, ha⟩
        · exact hQ v hv
      · simp only [List.length_cons, h3]
        unfold have_
        rw [List.filter_cons_of_pos (by simpa using ha), List.length_cons]
    · refine ⟨Q, h1, hQ, ?_⟩
      rw [h3]
      unfold have_
      rw [List.filter_cons_of_neg (by simpa using ha)]

theorem sure_goes {n : Int} {G : Gh} {x : Nod} (hx : NInv n G x) (hr : x.role = 3) (hml : (x.mtch.length : Int) = x.n) (hxn : x.n = n) : NInv n G (sure x) := by
  obtain ⟨c1, c2, c3⟩ := hx.lead hr
  refine hx.with rfl rfl rfl rfl (fun h => by have : x.role = 2 := h; omega) (fun _ => ⟨hr, c3⟩) ?_
  show Sured n G x.term x.log (sureAt x x.log.length)
  have key : ∀ k : Nat, k ≤ x.log.length → Sured n G x.term x.log (sureAt x k) := by
    intro k
    induction k with
    | zero => intro _; exact hx.sure
    | succ k ih =>
      intro hk
      unfold sureAt
      split
      · rename_i h1
        split
        · rename_i h2
          obtain ⟨Q, q1, q2, q3⟩ := have_maj x.mtch ((k : Int) + 1) 0
          refine ⟨by omega, .inr ⟨x.term, k + 1, x.id, x.log, Int.le_refl _, ⟨x.id, x.log, c1, by omega, hk, by rw [← h1.2]; congr 1, Q, q1, fun v hv => ?_, by omega⟩, c1, by omega, rfl⟩⟩
          obtain ⟨k1, k2, k3, k4⟩ := q2 v hv
          have := c3 _ k3
          rw [show (((v - 0 - 1).toNat : Int)) + 1 = v by omega] at this
          exact ⟨by omega, by omega, by omega⟩
        · exact ih (by omega)
      · exact hx.sure
  exact key _ (Nat.le_refl _)

theorem noted_ninv {n : Int} {G : Gh} {x : Nod} (hx : NInv n G x) (hr : x.role = 3) (h1 : 1 ≤ x.id) : NInv n G (noted x) := by
  obtain ⟨c1, c2, c3⟩ := hx.lead hr
  refine hx.with rfl rfl rfl rfl (fun h => by have : x.role = 2 := h; omega) (fun _ => ⟨hr, fun j hj => ?_⟩) hx.sure
  simp only [noted, List.getElem_set] at hj ⊢
  split
  · rename_i he
    rw [show (j : Int) + 1 = x.id by omega, c2]
    exact Int.le_refl _
  · exact c3 j (by simpa using hj)

theorem put_goes {n : Int} {G : Gh} (hG : GInv n G) {x : Nod} (hx : NInv n G x) (hg : Good x) (hr : x.role = 3) (hxn : x.n = n) (c : Int) : Goes n G x (put x c) [] := by
  have h1 := hg.id1
  obtain ⟨G1, a1, a2, a3, a4, _⟩ := grown_goes hG hx hr h1 c
  have e1 : (grown x c).role = 3 := by unfold grown; split <;> exact hr
  have e2 : (grown x c).id = x.id := by unfold grown; split <;> rfl
  have e3 : (grown x c).n = x.n := by unfold grown; split <;> rfl
  have e4 : (grown x c).mtch = x.mtch := by unfold grown; split <;> rfl
  have hml := hg.mtchl
  rw [if_pos hr] at hml
  exact ⟨G1, a1, a2, a3, sure_goes (noted_ninv a4 e1 (by omega)) e1 (by simp [noted, e3, e4]; exact hml) (by show (grown x c).n = n; omega), fun m hm => by simp at hm⟩

theorem at_eq {l : List Int} {k : Int} (h : (k - 1).toNat < l.length) : at_ l k = l[(k - 1).toNat] := by
  unfold at_; rw [List.getElem?_eq_getElem h]; rfl

theorem sends_minv {n : Int} {G : Gh} {x : Nod} (hx : NInv n G x) (hg : Good x) (hr : x.role = 3) {k : Int} (h1 : 1 ≤ k) (hk : k ≤ x.n) : MInv n G (sends x k) := by
  obtain ⟨c1, c2, c3⟩ := hx.lead hr
  have hnl := hg.nextl; have hml := hg.mtchl
  rw [if_pos hr] at hnl hml
  have hp := placesOk_at x.next x.mtch hg.places (by omega) (k - 1).toNat (by omega) (by omega)
  have ha : at_ x.next k = x.next[(k - 1).toNat]'(by omega) := at_eq (by omega)
  refine ⟨fun h => by simp [sends] at h, fun h => by simp [sends] at h, fun _ => ⟨x.log, c1, ?_, ?_, ?_, fun _ => rfl, hx.sure⟩, fun h => by simp [sends] at h⟩
  · simp only [sends]; omega
  · simp only [sends, List.length_take, List.length_drop]; omega
  · simp only [sends, List.length_take, List.length_drop]
    rw [List.take_eq_take_iff, List.length_drop]
    omega

theorem Goes.says {n : Int} {G : Gh} {x y : Nod} {ms : List Mes} (h : Goes n G x y []) (hs : ∀ G', NInv n G' y → ∀ m ∈ ms, MInv n G' m) : Goes n G x y ms := by
  obtain ⟨G1, a1, a2, a3, a4, _⟩ := h
  exact ⟨G1, a1, a2, a3, a4, hs G1 a4⟩

theorem all_minv {n : Int} {x : Nod} (hg : Good x) (hr : x.role = 3) (G' : Gh) (hx : NInv n G' x) : ∀ m ∈ (others x).map (sends x), MInv n G' m := by
  intro m hm
  rw [List.mem_map] at hm
  obtain ⟨k, hk, rfl⟩ := hm
  obtain ⟨k1, k2, _⟩ := mem_others hk
  exact sends_minv hx hg hr k1 k2

theorem putAll_goes {n : Int} {G : Gh} (hG : GInv n G) {x : Nod} (hx : NInv n G x) (hg : Good x) (hr : x.role = 3) (hxn : x.n = n) (c : Int) : Goes n G x (put x c) (putSays x c) :=
  (put_goes hG hx hg hr hxn c).says (all_minv (put_good c hg (hg.fresh (by omega))) ((put_fields x c).2.2.2.2.1.trans hr))

theorem votes_maj {x : Nod} (hg : Good x) (h : x.n < 2 * (x.votes.length : Int)) : Maj x.n fun v => v ∈ x.votes := by
  obtain ⟨h1, h2⟩ := votesOk_rising _ _ hg.votes
  exact ⟨x.votes, h1.imp fun hab => by omega, fun v hv => ⟨(h2 v hv).2.1, (h2 v hv).2.2, hv⟩, h⟩

theorem lead_goes {n : Int} {G : Gh} (hG : GInv n G) {x : Nod} (hx : NInv n G x) (hg : Good x) (hr : x.role = 2) (hxn : x.n = n) : Goes n G x (lead x) (leadSays x) := by
  unfold lead leadSays
  split
  · rename_i hm
    have hft := hg.fresh (by omega)
    have ht0 := hg.term0
    have hc := crowned_goes hG (by have := hg.n1; omega) hx hr hg.id1 (by have := hg.idn; omega) (by omega) (hxn ▸ votes_maj hg hm)
    have := hc.trans rfl (z := put (crowned x) 0) (ms' := putSays (crowned x) 0) fun G' g1 _ g3 => putAll_goes g1 g3 (crowned_good hg hft) rfl hxn 0
    rwa [List.nil_append] at this
  · exact .refl hG hx

theorem timeout_goes {n : Int} {G : Gh} (hG : GInv n G) {x : Nod} (hx : NInv n G x) (hg : Good x) (hxn : x.n = n) : Goes n G x (timeout x).1 (timeout x).2 := by
  unfold timeout
  split
  · exact .refl hG hx
  · rename_i hc
    have hr : x.role ≠ 3 := fun h => hc (.inr (.inl h))
    exact (stood_goes hG hx hg.id1).trans rfl fun G' g1 _ g3 => lead_goes g1 g3 (stood_good hg hr fun h => hc (.inr (.inr h))) rfl hxn

theorem beat_goes {n : Int} {G : Gh} (hG : GInv n G) {x : Nod} (hx : NInv n G x) (hg : Good x) : Goes n G x (beat x).1 (beat x).2 := by
  unfold beat
  split
  · exact .refl hG hx
  · rename_i hc
    exact (Goes.refl hG hx).says (all_minv hg (by omega))

theorem propose_goes {n : Int} {G : Gh} (hG : GInv n G) {x : Nod} (hx : NInv n G x) (hg : Good x) (hxn : x.n = n) (c : Int) : Goes n G x (propose x c).1 (propose x c).2.1 := by
  unfold propose
  split
  · exact .refl hG hx
  · rename_i hc
    exact putAll_goes hG hx hg (by omega) hxn c

theorem mem_insertB {k v : Int} : ∀ {l : List Int}, v ∈ insertB k l → v = k ∨ v ∈ l
  | [], h => by simp [insertB] at h; exact .inl h
  | a :: t, h => by
    unfold insertB at h
    split at h
    · rcases List.mem_cons.1 h with h | h
      · exact .inr (by rw [h]; exact List.mem_cons_self ..)
      · rcases mem_insertB h with h | h
        · exact .inl h
        · exact .inr (List.mem_cons_of_mem _ h)
    split at h
    · exact .inr h
    · rcases List.mem_cons.1 h with h | h
      · exact .inl h
      · exact .inr h

theorem voted_goes {n : Int} {G : Gh} (hG : GInv n G) {x : Nod} (hx : NInv n G x) (hg : Good x) (hxn : x.n = n) {m : Mes} (hm : MInv n G m) (hk : m.kind = 2) (hf : Fits x m) : Goes n G x (voted x m).1 (voted x m).2 := by
  unfold voted
  split
  · exact .refl hG hx
  · rename_i hc
    have hr : x.role = 2 := by omega
    have ht : m.term = x.term := by omega
    have hyes : m.yes = true := by
      cases h : m.yes
      · exact absurd (.inr (.inr h)) hc
      · rfl
    obtain ⟨m1, m2, m3, m4⟩ := hm.votes hk hyes
    obtain ⟨c1, c2, c3, c4⟩ := hx.cand hr
    have hgy : Good { x with votes := insertB m.src x.votes } := { hg with votes0 := fun _ => hr, votes := insertB_ok hf.src1 hf.srcn _ _ (by have := hf.src1; omega) hg.votes }
    have hN : NInv n G { x with votes := insertB m.src x.votes } := hx.with rfl rfl rfl rfl (fun _ => ⟨hr, fun v hv => ?_⟩) (fun h => ⟨h, fun j hj => by have h' : x.role = 3 := h; omega⟩) hx.sure
    · have := lead_goes hG hN hgy hr hxn
      exact this
    rcases mem_insertB hv with rfl | hv
    · right
      rw [ht, hf.dst] at m3 m4
      exact ⟨m3, fun hl => by rw [c2]; exact m4 hl⟩
    · exact .inl hv

theorem told_goes {n : Int} {G : Gh} (hG : GInv n G) {x : Nod} (hx : NInv n G x) (hg : Good x) (hxn : x.n = n) {m : Mes} (hm : MInv n G m) (hk : m.kind = 4) (hf : Fits x m) : Goes n G x (told x m).1 (told x m).2 := by
  have hgt := told_good hg hf
  have h1 := hf.src1; have h2 := hf.srcn
  unfold told at hgt ⊢
  split
  · exact .refl hG hx
  rename_i hc
  rw [if_neg hc] at hgt
  have hr : x.role = 3 := by omega
  have ht : m.term = x.term := by omega
  obtain ⟨c1, c2, c3⟩ := hx.lead hr
  have hml := hg.mtchl
  rw [if_pos hr] at hml
  split
  · rename_i hyes
    rw [if_pos hyes] at hgt
    have hy := hm.tells hk hyes
    rw [ht] at hy
    have hN : NInv n G (hears x m) := by
      refine sure_goes (hx.with rfl rfl rfl rfl (fun h => by have : x.role = 2 := h; omega) (fun _ => ⟨hr, fun j hj => ?_⟩) hx.sure) hr (by simpa using hml) hxn
      simp only [List.getElem_set] at hj ⊢
      have hj' : j < x.mtch.length := by simpa using hj
      split
      · rename_i he
        have e : (j : Int) + 1 = m.src := by omega
        rw [e, at_eq (by omega)]
        have := c3 j hj'
        rw [e] at this
        have e2 : x.mtch[(m.src - 1).toNat]'(by omega) = x.mtch[j] := by congr 1
        omega
      · exact c3 j hj'
    refine (Goes.refl hG hN |> fun _ => (⟨G, hG, Later.refl G, Turn.refl _ G, hN, fun s hs => ?_⟩ : Goes n G x _ _))
    simp only at hs
    split at hs
    · simp at hs; subst hs
      exact sends_minv hN hgt hr h1 h2
    · simp at hs
  · rename_i hno
    rw [if_neg hno] at hgt
    have hN : NInv n G (backs x m) := hx.with rfl rfl rfl rfl (fun h => by have : x.role = 2 := h; omega) (fun _ => ⟨hr, c3⟩) hx.sure
    refine ⟨G, hG, Later.refl G, Turn.refl _ G, hN, fun s hs => ?_⟩
    simp at hs; subst hs
    exact sends_minv hN hgt hr h1 h2

theorem receive_goes {n : Int} {G : Gh} (hG : GInv n G) {x : Nod} (hx : NInv n G x) (hg : Good x) (hxn : x.n = n) {m : Mes} (hm : MInv n G m) : Goes n G x (receive x m).1 (receive x m).2 := by
  unfold receive
  split
  · exact .refl hG hx
  rename_i hc
  have hl : lost x m = false := by
    cases h : lost x m
    · rfl
    · exact absurd (.inr h) hc
  have hf := fits_of_lost hl
  have hy : Goes n G x (if x.term < m.term then follow x m.term 0 else x) [] ∧ Good (if x.term < m.term then follow x m.term 0 else x) ∧ Fits (if x.term < m.term then follow x m.term 0 else x) m ∧
      (if x.term < m.term then follow x m.term 0 else x).id = x.id ∧ (if x.term < m.term then follow x m.term 0 else x).n = x.n := by
    split
    · exact ⟨follow_goes hG hx hg.id1 _ _, follow_good hg hf.termn (by omega) (by have := hg.n1; omega), { hf with }, rfl, rfl⟩
    · exact ⟨.refl hG hx, hg, hf, rfl, rfl⟩
  generalize (if x.term < m.term then follow x m.term 0 else x) = y at hy
  obtain ⟨y1, y2, y3, y4, y5⟩ := hy
  have hne := y3.srcne
  have hn1 := y2.n1
  simp only
  split
  · rename_i hk
    have := y1.trans y4 (z := (asked y m).1) (ms' := (asked y m).2) fun G' g1 g2 g3 => asked_goes g1 g3 y2.id1 (hm.later g2) hk hne
    rwa [List.nil_append] at this
  split
  · rename_i hk
    have := y1.trans y4 (z := (voted y m).1) (ms' := (voted y m).2) fun G' g1 g2 g3 => voted_goes g1 g3 y2 (y5.trans hxn) (hm.later g2) hk y3
    rwa [List.nil_append] at this
  split
  · rename_i hk
    have := y1.trans y4 (z := (appended y m).1) (ms' := (appended y m).2) fun G' g1 g2 g3 => appended_goes g1 (by omega) g3 y2.id1 (hm.later g2) hk hne
    rwa [List.nil_append] at this
  · rename_i k1 k2 k3
    have hk4 : m.kind = 4 := by have := y3.kind1; have := y3.kind4; omega
    have := y1.trans y4 (z := (told y m).1) (ms' := (told y m).2) fun G' g1 g2 g3 => told_goes g1 g3 y2 (y5.trans hxn) (hm.later g2) hk4 y3
    rwa [List.nil_append] at this

end Go.Proofs.Ytibjbpakbfodaaa
