/- The safety of the cluster, plainly: what each step of a node keeps (votes, elections, a leader that adds). No program is in sight. -/
import Derived.Test.YtibjbpakbfodaaaSafeA
namespace Go.Proofs.Ytibjbpakbfodaaa

structure NInv (n : Int) (G : Gh) (x : Nod) : Prop where
  hist : ∀ t, x.term ≤ t → G.hist x.id t = x.log
  vote : G.vot x.id x.term = x.vote
  later : ∀ t, x.term < t → G.vot x.id t = 0 ∧ G.ack x.id t = 0
  cand : x.role = 2 → x.vote = x.id ∧ x.log = G.hist x.id (x.term - 1) ∧ (∀ L, G.ld x.term ≠ some (x.id, L)) ∧
    ∀ v ∈ x.votes, G.vot v x.term = x.id ∧ (G.ld x.term = none → newer x.log (G.hist v (x.term - 1)))
  lead : x.role = 3 → G.ld x.term = some (x.id, x.log) ∧ G.ack x.id x.term = x.log.length ∧ ∀ (j : Nat) (h : j < x.mtch.length), x.mtch[j] ≤ (G.ack ((j : Int) + 1) x.term : Int)
  sure : Sured n G x.term x.log x.commit

structure MInv (n : Int) (G : Gh) (m : Mes) : Prop where
  asks : m.kind = 1 → 1 ≤ m.src ∧ G.vot m.src m.term = m.src ∧ m.index = (G.hist m.src (m.term - 1)).length ∧ m.logTerm = lastT (G.hist m.src (m.term - 1))
  votes : m.kind = 2 → m.yes = true → 1 ≤ m.dst ∧ G.vot m.dst m.term = m.dst ∧ G.vot m.src m.term = m.dst ∧ (G.ld m.term = none → newer (G.hist m.dst (m.term - 1)) (G.hist m.src (m.term - 1)))
  sends : m.kind = 3 → ∃ L, G.ld m.term = some (m.src, L) ∧ 0 ≤ m.index ∧ m.index + m.items.length ≤ L.length ∧ m.items = (L.drop m.index.toNat).take m.items.length ∧
    (0 < m.index → m.logTerm = termAt L m.index) ∧ Sured n G m.term L m.commit
  tells : m.kind = 4 → m.yes = true → m.index ≤ (G.ack m.src m.term : Int)

/-- Only node i has turned. -/
structure Turn (i : Int) (G G' : Gh) : Prop where
  hist : ∀ v t, v ≠ i → G'.hist v t = G.hist v t
  vot : ∀ v t, v ≠ i → G'.vot v t = G.vot v t
  ack : ∀ v t, v ≠ i → G'.ack v t = G.ack v t
  ld : ∀ t j L, j ≠ i → G'.ld t = some (j, L) → G.ld t = some (j, L)

theorem Turn.refl (i : Int) (G : Gh) : Turn i G G := ⟨fun _ _ _ => rfl, fun _ _ _ => rfl, fun _ _ _ => rfl, fun _ _ _ _ h => h⟩
theorem Turn.trans {i : Int} {G G1 G2 : Gh} (h : Turn i G G1) (h' : Turn i G1 G2) : Turn i G G2 :=
  ⟨fun v t hv => (h'.hist v t hv).trans (h.hist v t hv), fun v t hv => (h'.vot v t hv).trans (h.vot v t hv), fun v t hv => (h'.ack v t hv).trans (h.ack v t hv), fun t j L hj hl => h.ld t j L hj (h'.ld t j L hj hl)⟩

theorem MInv.later {n : Int} {G G' : Gh} (h : Later G G') {m : Mes} (hm : MInv n G m) : MInv n G' m := by
  refine ⟨fun hk => ?_, fun hk hy => ?_, fun hk => ?_, fun hk hy => ?_⟩
  · obtain ⟨h0, h1, h2, h3⟩ := hm.asks hk
    have hv : G.vot m.src m.term ≠ 0 := by omega
    rw [h.vot _ _ hv, h.hist m.src (m.term - 1) m.term (by omega) hv]
    exact ⟨h0, h1, h2, h3⟩
  · obtain ⟨h0, h1, h2, h3⟩ := hm.votes hk hy
    have hv : G.vot m.dst m.term ≠ 0 := by omega
    have hv2 : G.vot m.src m.term ≠ 0 := by omega
    rw [h.vot _ _ hv, h.vot _ _ hv2, h.hist m.dst (m.term - 1) m.term (by omega) hv, h.hist m.src (m.term - 1) m.term (by omega) hv2]
    exact ⟨h0, h1, h2, fun hl => h3 (h.none hl)⟩
  · obtain ⟨L, h1, h2, h3, h4, h5, h6⟩ := hm.sends hk
    obtain ⟨D, h7, _⟩ := h.ld _ _ _ h1
    refine ⟨L ++ D, h7, h2, by rw [List.length_append]; omega, ?_, fun hi => ?_, (h6.later h (Int.le_refl _)).append D⟩
    · rw [List.drop_append_of_le_length (by omega), List.take_append_of_le_length (by rw [List.length_drop]; omega)]
      exact h4
    · rw [h5 hi]
      obtain ⟨k, hk⟩ : ∃ k : Nat, m.index = k := ⟨m.index.toNat, by omega⟩
      rw [hk]
      exact (termAt_take (k := k) (by rw [List.take_append_of_le_length (by omega)]) (Nat.le_refl k)).symm
  · exact Int.le_trans (hm.tells hk hy) (by have := h.ack m.src m.term; omega)

theorem NInv.other {n i : Int} {G G' : Gh} (h : Later G G') (ht : Turn i G G') {y : Nod} (hy : NInv n G y) (hi : y.id ≠ i) (h1 : 1 ≤ y.id) : NInv n G' y := by
  refine ⟨fun t htt => ?_, ?_, fun t htt => ?_, fun hr => ?_, fun hr => ?_, hy.sure.later h (Int.le_refl _)⟩
  · rw [ht.hist _ _ hi]; exact hy.hist t htt
  · rw [ht.vot _ _ hi]; exact hy.vote
  · rw [ht.vot _ _ hi, ht.ack _ _ hi]; exact hy.later t htt
  · obtain ⟨c1, c2, c3, c4⟩ := hy.cand hr
    refine ⟨c1, by rw [ht.hist _ _ hi]; exact c2, fun L hl => c3 L (ht.ld _ _ _ hi hl), fun v hv => ?_⟩
    obtain ⟨d1, d2⟩ := c4 v hv
    have hne : G.vot v y.term ≠ 0 := by omega
    rw [h.vot _ _ hne, h.hist v (y.term - 1) y.term (by omega) hne]
    exact ⟨d1, fun hl => d2 (h.none hl)⟩
  · obtain ⟨c1, c2, c3⟩ := hy.lead hr
    obtain ⟨D, d1, _⟩ := h.ld _ _ _ c1
    have d2 := ht.ld _ _ _ hi d1
    rw [c1] at d2
    injection d2 with d2
    injection d2 with _ d2
    have hD : D = [] := by
      have := congrArg List.length d2
      rw [List.length_append] at this
      exact List.eq_nil_of_length_eq_zero (by omega)
    subst hD
    rw [List.append_nil] at d1
    refine ⟨d1, by rw [ht.ack _ _ hi]; exact c2, fun j hj => Int.le_trans (c3 j hj) (by have := h.ack ((j : Int) + 1) y.term; omega)⟩

/- ## Steps that change no log -/

def voteG (G : Gh) (i t v : Int) : Gh := { G with vot := fun a b => if a = i ∧ b = t then v else G.vot a b }

/-- Of a node's numbers some have changed; its log has not. -/
theorem turnA {n : Int} {G : Gh} (hG : GInv n G) {x y : Nod} (hx : NInv n G x) (_ : 1 ≤ x.id) (hid : y.id = x.id) (hlog : y.log = x.log) (ht : x.term ≤ y.term) (hv : y.term = x.term → x.vote ≠ 0 → y.vote = x.vote) :
    GInv n (voteG G x.id y.term y.vote) ∧ Later G (voteG G x.id y.term y.vote) ∧ Turn x.id G (voteG G x.id y.term y.vote) ∧
      ((y.role = 2 → y.vote = y.id ∧ y.log = G.hist y.id (y.term - 1) ∧ (∀ L, G.ld y.term ≠ some (y.id, L)) ∧ ∀ v ∈ y.votes, (voteG G x.id y.term y.vote).vot v y.term = y.id ∧ (G.ld y.term = none → newer y.log (G.hist v (y.term - 1)))) →
       (y.role = 3 → G.ld y.term = some (y.id, y.log) ∧ G.ack y.id y.term = y.log.length ∧ ∀ (j : Nat) (h : j < y.mtch.length), y.mtch[j] ≤ (G.ack ((j : Int) + 1) y.term : Int)) →
       Sured n G y.term y.log y.commit → NInv n (voteG G x.id y.term y.vote) y) := by
  have hvv : ∀ a b, G.vot a b ≠ 0 → (voteG G x.id y.term y.vote).vot a b = G.vot a b := by
    intro a b hab
    show (if a = x.id ∧ b = y.term then y.vote else G.vot a b) = G.vot a b
    split
    · rename_i h
      obtain ⟨rfl, rfl⟩ := h
      rcases Int.lt_or_eq_of_le ht with hlt | heq
      · exact absurd (hx.later _ hlt).1 hab
      · rw [← heq] at hab ⊢
        rw [hx.vote] at hab ⊢
        exact hv heq.symm hab
    · rfl
  have hL : Later G (voteG G x.id y.term y.vote) := ⟨fun t i L h => ⟨[], by rw [List.append_nil]; exact h, fun x hx => by simp at hx⟩, hvv, fun _ _ => Nat.le_refl _, fun _ _ _ _ _ => rfl⟩
  refine ⟨⟨?_, fun v t => ⟨(hG.hist v t).1.later hL, (hG.hist v t).2⟩, hG.still, hG.keep, hG.acks⟩, hL, ⟨fun _ _ _ => rfl, fun v t hv => ?_, fun _ _ _ => rfl, fun _ _ _ _ h => h⟩, fun hc hl hs => ?_⟩
  · intro t i L hl
    obtain ⟨g1, g2, g3, g4, g5, g6, g7, g8⟩ := hG.lead t i L hl
    refine ⟨g1, g2, g3, g4.later hL, g5, by rw [hvv _ _ (by omega)]; exact g6, g7, g8.mono fun v hv => ⟨by rw [hvv _ _ (by omega)]; exact hv.1, hv.2⟩⟩
  · show (if v = x.id ∧ t = y.term then y.vote else G.vot v t) = _
    rw [if_neg (fun h => hv h.1)]
  · refine ⟨fun t htt => ?_, ?_, fun t htt => ?_, hc, hl, hs.later hL (Int.le_refl _)⟩
    · rw [hid, hlog]; exact hx.hist t (by omega)
    · show (if y.id = x.id ∧ y.term = y.term then y.vote else G.vot y.id y.term) = _
      rw [if_pos ⟨hid, rfl⟩]
    · have := hx.later t (by omega)
      rw [hid]
      refine ⟨?_, this.2⟩
      show (if x.id = x.id ∧ t = y.term then y.vote else G.vot x.id t) = _
      rw [if_neg (fun h => by omega)]
      exact this.1

/-- What a step of a node comes to: what has been has grown, and the node and what it says are as they must be. -/
def Goes (n : Int) (G : Gh) (x y : Nod) (ms : List Mes) : Prop := ∃ G', GInv n G' ∧ Later G G' ∧ Turn x.id G G' ∧ NInv n G' y ∧ ∀ m ∈ ms, MInv n G' m

theorem Goes.trans {n : Int} {G : Gh} {x y z : Nod} {ms ms' : List Mes} (h : Goes n G x y ms) (hid : y.id = x.id) (h' : ∀ G', GInv n G' → Later G G' → NInv n G' y → Goes n G' y z ms') : Goes n G x z (ms ++ ms') := by
  obtain ⟨G1, a1, a2, a3, a4, a5⟩ := h
  obtain ⟨G2, b1, b2, b3, b4, b5⟩ := h' G1 a1 a2 a4
  refine ⟨G2, b1, a2.trans b2, a3.trans (hid ▸ b3), b4, fun m hm => ?_⟩
  rcases List.mem_append.1 hm with hm | hm
  · exact (a5 m hm).later b2
  · exact b5 m hm

theorem Goes.refl {n : Int} {G : Gh} (hG : GInv n G) {x : Nod} (hx : NInv n G x) : Goes n G x x [] := ⟨G, hG, Later.refl G, Turn.refl _ G, hx, fun m hm => by simp at hm⟩

/-- Only places, votes counted, and the like: nothing of what has been. -/
theorem NInv.with {n : Int} {G : Gh} {x y : Nod} (hx : NInv n G x) (e1 : y.id = x.id) (e2 : y.term = x.term) (e3 : y.vote = x.vote) (e4 : y.log = x.log)
    (hc : y.role = 2 → x.role = 2 ∧ ∀ v ∈ y.votes, v ∈ x.votes ∨ G.vot v x.term = x.id ∧ (G.ld x.term = none → newer x.log (G.hist v (x.term - 1))))
    (hl : y.role = 3 → x.role = 3 ∧ ∀ (j : Nat) (h : j < y.mtch.length), y.mtch[j] ≤ (G.ack ((j : Int) + 1) x.term : Int)) (hs : Sured n G x.term x.log y.commit) : NInv n G y := by
  refine ⟨fun t ht => ?_, ?_, fun t ht => ?_, fun hr => ?_, fun hr => ?_, ?_⟩
  · rw [e1, e4]; exact hx.hist t (by omega)
  · rw [e1, e2, e3]; exact hx.vote
  · rw [e1]; exact hx.later t (by omega)
  · obtain ⟨h1, h2⟩ := hc hr
    obtain ⟨c1, c2, c3, c4⟩ := hx.cand h1
    rw [e1, e2, e3, e4]
    refine ⟨c1, c2, c3, fun v hv => ?_⟩
    rcases h2 v hv with h3 | h3
    · exact c4 v h3
    · exact h3
  · obtain ⟨h1, h2⟩ := hl hr
    obtain ⟨c1, c2, c3⟩ := hx.lead h1
    rw [e1, e2, e4]
    exact ⟨c1, c2, h2⟩
  · rw [e2, e4]; exact hs

theorem follow_goes {n : Int} {G : Gh} (hG : GInv n G) {x : Nod} (hx : NInv n G x) (h1 : 1 ≤ x.id) (t b : Int) : Goes n G x (follow x t b) [] := by
  have ht : x.term ≤ (follow x t b).term := by unfold follow; simp only; split <;> omega
  obtain ⟨a1, a2, a3, a4⟩ := turnA hG hx h1 (y := follow x t b) rfl rfl ht (fun he _ => by
    unfold follow at he ⊢
    simp only at he ⊢
    split
    · rename_i h; rw [if_pos h] at he; omega
    · rfl)
  exact ⟨_, a1, a2, a3, a4 (fun h => by simp [follow] at h) (fun h => by simp [follow] at h) (hx.sure.later (Later.refl G) ht), fun m hm => by simp at hm⟩

theorem restart_goes {n : Int} {G : Gh} (hG : GInv n G) {x : Nod} (hx : NInv n G x) (h1 : 1 ≤ x.id) : Goes n G x (restart x) [] := by
  unfold restart
  split
  · exact .refl hG hx
  · obtain ⟨a1, a2, a3, a4⟩ := turnA hG hx h1 (y := { follow x x.term 0 with commit := 0 }) rfl rfl (by simp [follow]) (fun _ _ => by simp [follow])
    exact ⟨_, a1, a2, a3, a4 (fun h => by simp [follow] at h) (fun h => by simp [follow] at h) ⟨by simp [follow], .inl (Int.le_refl _)⟩, fun m hm => by simp at hm⟩

theorem stood_goes {n : Int} {G : Gh} (hG : GInv n G) {x : Nod} (hx : NInv n G x) (h1 : 1 ≤ x.id) : Goes n G x (stood x) ((others (stood x)).map (asks (stood x))) := by
  obtain ⟨a1, a2, a3, a4⟩ := turnA hG hx h1 (y := stood x) rfl rfl (by show x.term ≤ x.term + 1; omega) (fun h _ => by have h' : x.term + 1 = x.term := h; omega)
  have hh := hx.hist x.term (Int.le_refl _)
  have hN : NInv n (voteG G x.id (stood x).term (stood x).vote) (stood x) := by
    refine a4 (fun _ => ⟨rfl, ?_, fun L hl => ?_, fun v hv => ?_⟩) (fun h => by simp [stood] at h) (hx.sure.later (Later.refl G) (by show x.term ≤ x.term + 1; omega))
    · show x.log = G.hist x.id (x.term + 1 - 1)
      rw [show x.term + 1 - 1 = x.term by omega, hh]
    · have h6 := (hG.lead _ _ _ hl).2.2.2.2.2.1
      have h7 := (hx.later (stood x).term (by simp [stood]; omega)).1
      have : (stood x).id = x.id := rfl
      rw [this, h7] at h6
      omega
    · have hv : v = x.id := by simpa [stood] using hv
      subst hv
      refine ⟨if_pos ⟨rfl, rfl⟩, fun _ => ?_⟩
      show newer x.log (G.hist x.id (x.term + 1 - 1))
      rw [show x.term + 1 - 1 = x.term by omega, hh]
      exact newer_refl _
  refine ⟨_, a1, a2, a3, hN, fun m hm => ?_⟩
  rw [List.mem_map] at hm
  obtain ⟨k, _, rfl⟩ := hm
  refine ⟨fun _ => ⟨h1, if_pos ⟨rfl, rfl⟩, ?_, ?_⟩, fun h => by simp [asks] at h, fun h => by simp [asks] at h, fun h => by simp [asks] at h⟩
  · show (x.log.length : Int) = ((G.hist x.id (x.term + 1 - 1)).length : Int)
    rw [show x.term + 1 - 1 = x.term by omega, hh]
  · show termAt x.log x.log.length = lastT (G.hist x.id (x.term + 1 - 1))
    rw [show x.term + 1 - 1 = x.term by omega, hh]
    rfl

theorem asked_goes {n : Int} {G : Gh} (hG : GInv n G) {x : Nod} (hx : NInv n G x) (h1 : 1 ≤ x.id) {m : Mes} (hm : MInv n G m) (hk : m.kind = 1) (hne : m.src ≠ x.id) : Goes n G x (asked x m).1 (asked x m).2 := by
  obtain ⟨m1, m2, m3, m4⟩ := hm.asks hk
  unfold asked
  cases hv : votesFor x m with
  | false =>
    refine ⟨G, hG, Later.refl G, Turn.refl _ G, hx, fun s hs => ?_⟩
    simp at hs
    subst hs
    exact ⟨fun h => by simp at h, fun _ h => by simp at h, fun h => by simp at h, fun h => by simp at h⟩
  | true =>
    have hv' := hv
    unfold votesFor at hv'
    simp only [Bool.and_eq_true, Bool.or_eq_true, decide_eq_true_eq] at hv'
    obtain ⟨⟨ht, hvo⟩, hnew⟩ := hv'
    simp only [if_true]
    obtain ⟨a1, a2, a3, a4⟩ := turnA hG hx h1 (y := { x with vote := m.src }) rfl rfl (Int.le_refl _) (fun _ h => by simp only; omega)
    have hN := a4 (fun hr => by
      have hc := (hx.cand hr).1
      omega) (fun hr => hx.lead hr) hx.sure
    refine ⟨_, a1, a2, a3, hN, fun s hs => ?_⟩
    simp at hs
    subst hs
    refine ⟨fun h => by simp at h, fun _ _ => ⟨m1, ?_, if_pos ⟨rfl, rfl⟩, fun hl => ?_⟩, fun h => by simp at h, fun h => by simp at h⟩
    · show (if m.src = x.id ∧ x.term = x.term then m.src else G.vot m.src x.term) = m.src
      rw [if_neg (fun h => hne h.1), ← ht]
      exact m2
    · show newer (G.hist m.src (x.term - 1)) (G.hist x.id (x.term - 1))
      have hs1 := (hG.still x.id x.term hl).1
      rw [hx.hist x.term (Int.le_refl _)] at hs1
      rw [← hs1, ← ht]
      rw [m3, m4] at hnew
      rcases hnew with hn | ⟨hn1, hn2⟩
      · exact .inl hn
      · exact .inr ⟨hn1, by omega⟩


/- ## A leader comes, and adds -/

def ledG (G : Gh) (i t : Int) (l : List Itm) : Gh :=
  { G with ld := fun a => if a = t then some (i, l) else G.ld a, ack := fun a b => if a = i ∧ b = t then l.length else G.ack a b }

/-- A candidate that most have voted for: it is the first one in this term. -/
theorem first_lead {n : Int} {G : Gh} (hG : GInv n G) (hn : 0 ≤ n) {x : Nod} (hx : NInv n G x) (hr : x.role = 2) (hq : Maj n fun v => v ∈ x.votes) : G.ld x.term = none := by
  obtain ⟨_, _, c3, c4⟩ := hx.cand hr
  cases hl : G.ld x.term with
  | none => rfl
  | some p =>
    obtain ⟨j, L⟩ := p
    obtain ⟨_, g2, _, _, _, _, _, g8⟩ := hG.lead _ _ _ hl
    obtain ⟨v, _, _, v1, v2, _⟩ := hq.meet hn g8
    have := (c4 v v1).1
    rw [v2] at this
    subst this
    exact absurd hl (c3 L)

theorem led_later {G : Gh} {i t : Int} {l : List Itm} (hl : G.ld t = none) (ha : G.ack i t ≤ l.length) : Later G (ledG G i t l) := by
  refine ⟨fun t' j L h => ⟨[], ?_, fun x hx => by simp at hx⟩, fun _ _ _ => rfl, fun v b => ?_, fun _ _ _ _ _ => rfl⟩
  · show (if t' = t then some (i, l) else G.ld t') = _
    rw [if_neg (fun e => by subst e; rw [hl] at h; cases h), List.append_nil]
    exact h
  · show G.ack v b ≤ if v = i ∧ b = t then l.length else G.ack v b
    split
    · rename_i h; obtain ⟨rfl, rfl⟩ := h; exact ha
    · exact Nat.le_refl _

theorem crowned_goes {n : Int} {G : Gh} (hG : GInv n G) (hn : 0 ≤ n) {x : Nod} (hx : NInv n G x) (hr : x.role = 2) (h1 : 1 ≤ x.id) (hxn : x.id ≤ n) (ht : 1 ≤ x.term) (hq : Maj n fun v => v ∈ x.votes) : Goes n G x (crowned x) [] := by
  have hl := first_lead hG hn hx hr hq
  obtain ⟨c1, c2, c3, c4⟩ := hx.cand hr
  have hL : Later G (ledG G x.id x.term x.log) := led_later hl (by rw [(hG.still x.id x.term hl).2]; omega)
  obtain ⟨w1, w2⟩ := hG.hist x.id x.term
  rw [hx.hist _ (Int.le_refl _)] at w1 w2
  have hself : (ledG G x.id x.term x.log).ld x.term = some (x.id, x.log) := if_pos rfl
  have hne : ∀ {t}, t ≠ x.term → (ledG G x.id x.term x.log).ld t = G.ld t := fun h => if_neg h
  have hak : ∀ {v t}, t ≠ x.term → (ledG G x.id x.term x.log).ack v t = G.ack v t := fun h => if_neg fun e => h e.2
  refine ⟨ledG G x.id x.term x.log, ⟨fun t i L hti => ?_, fun v t => ⟨(hG.hist v t).1.later hL, (hG.hist v t).2⟩, fun v t htn => ?_, fun v t i L hti => ?_, fun v t i L hti => ?_⟩, hL, ⟨fun _ _ _ => rfl, fun _ _ _ => rfl, fun v t hv => if_neg fun e => hv e.1, fun t j L hj hjl => ?_⟩, ?_, fun m hm => by simp at hm⟩
  · by_cases he : t = x.term
    · subst he
      rw [hself] at hti
      injection hti with hti
      injection hti with e1 e2
      subst e1 e2
      refine ⟨ht, h1, hxn, w1.later hL, w2, by show G.vot x.id x.term = x.id; rw [hx.vote, c1], ⟨[], by rw [List.append_nil]; exact c2, fun x hx => by simp at hx⟩, hq.mono fun v hv => ?_⟩
      obtain ⟨d1, d2⟩ := c4 v hv
      exact ⟨d1, by have := d2 hl; rw [c2] at this; exact this⟩
    · rw [hne he] at hti
      obtain ⟨g1, g2, g3, g4, g5, g6, g7, g8⟩ := hG.lead t i L hti
      exact ⟨g1, g2, g3, g4.later hL, g5, g6, g7, g8⟩
  · by_cases he : t = x.term
    · subst he; rw [hself] at htn; cases htn
    · rw [hne he] at htn
      rw [hak he]
      exact hG.still v t htn
  · intro m hmL hmt hm
    by_cases he : t = x.term
    · subst he
      rw [hself] at hti
      injection hti with hti
      injection hti with e1 e2
      subst e1 e2
      show Has (G.hist v x.term) _ m
      rw [(hG.still v x.term hl).1]
      exact hm
    · rw [hne he] at hti
      exact hG.keep v t i L hti m hmL hmt hm
  · by_cases he : t = x.term
    · subst he
      rw [hself] at hti
      injection hti with hti
      injection hti with e1 e2
      subst e1 e2
      by_cases hv : v = x.id
      · subst hv
        have : (ledG G x.id x.term x.log).ack x.id x.term = x.log.length := if_pos ⟨rfl, rfl⟩
        rw [this]
        refine ⟨Nat.le_refl _, ?_⟩
        show Has (G.hist x.id x.term) x.log x.log.length
        rw [hx.hist _ (Int.le_refl _)]
        exact ⟨Nat.le_refl _, rfl⟩
      · have : (ledG G x.id x.term x.log).ack v x.term = 0 := (if_neg fun e => hv e.1).trans (hG.still v x.term hl).2
        rw [this]
        exact ⟨Nat.zero_le _, Nat.zero_le _, by simp⟩
    · rw [hne he] at hti
      rw [hak he]
      exact hG.acks v t i L hti
  · by_cases he : t = x.term
    · subst he
      rw [hself] at hjl
      injection hjl with hjl
      injection hjl with e1 _
      exact absurd e1.symm hj
    · rw [hne he] at hjl; exact hjl
  · refine ⟨fun t htt => hx.hist t htt, hx.vote, fun t htt => ?_, fun h => by simp [crowned] at h, fun _ => ⟨hself, if_pos ⟨rfl, rfl⟩, fun j hj => ?_⟩, hx.sure.later hL (Int.le_refl _)⟩
    · have htt' : x.term < t := htt
      refine ⟨(hx.later t htt').1, ?_⟩
      show (ledG G x.id x.term x.log).ack x.id t = 0
      rw [hak (by omega)]
      exact (hx.later t htt').2
    · have h0 : (crowned x).mtch[j] = 0 := by simp [crowned]
      rw [h0]
      exact Int.natCast_nonneg _

/-- An item more in a leader's log. -/
def moreG (G : Gh) (i t : Int) (l : List Itm) : Gh :=
  { G with ld := fun a => if a = t then some (i, l) else G.ld a, ack := fun a b => if a = i ∧ b = t then l.length else G.ack a b, hist := fun a b => if a = i ∧ t ≤ b then l else G.hist a b }

theorem grown_goes {n : Int} {G : Gh} (hG : GInv n G) {x : Nod} (hx : NInv n G x) (hr : x.role = 3) (_ : 1 ≤ x.id) (c : Int) : Goes n G x (grown x c) [] := by
  obtain ⟨c1, c2, c3⟩ := hx.lead hr
  obtain ⟨g1, g2, g3, g4, g5, g6, ⟨D0, g7, g7'⟩, g8⟩ := hG.lead _ _ _ c1
  unfold grown
  split
  case isFalse => exact .refl hG hx
  generalize hy : x.log ++ [(⟨x.term, c⟩ : Itm)] = l'
  have hself : (moreG G x.id x.term l').ld x.term = some (x.id, l') := if_pos rfl
  have hne : ∀ {t}, t ≠ x.term → (moreG G x.id x.term l').ld t = G.ld t := fun h => if_neg h
  have hak : ∀ {v t}, t ≠ x.term → (moreG G x.id x.term l').ack v t = G.ack v t := fun h => if_neg fun e => h e.2
  have hhl : ∀ {v t}, t < x.term → (moreG G x.id x.term l').hist v t = G.hist v t := fun h => if_neg fun e => by have := e.2; omega
  have hho : ∀ {v t}, v ≠ x.id → (moreG G x.id x.term l').hist v t = G.hist v t := fun h => if_neg fun e => h e.1
  have hhs : ∀ {t}, x.term ≤ t → (moreG G x.id x.term l').hist x.id t = l' := fun h => if_pos ⟨rfl, h⟩
  have hL : Later G (moreG G x.id x.term l') := by
    refine ⟨fun t j L h => ?_, fun _ _ _ => rfl, fun v b => ?_, fun v t t' htt hv => ?_⟩
    · by_cases he : t = x.term
      · subst he
        rw [c1] at h
        injection h with h
        injection h with e1 e2
        subst e1 e2
        exact ⟨[⟨x.term, c⟩], by rw [hself, hy], fun y hy => by simp at hy; subst hy; rfl⟩
      · exact ⟨[], by rw [hne he, List.append_nil]; exact h, fun x hx => by simp at hx⟩
    · show G.ack v b ≤ if v = x.id ∧ b = x.term then l'.length else G.ack v b
      split
      · rename_i h; obtain ⟨rfl, rfl⟩ := h; rw [c2, ← hy, List.length_append]; omega
      · exact Nat.le_refl _
    · by_cases he : v = x.id
      · subst he
        refine hhl ?_
        refine Int.lt_of_not_ge fun hge => hv ?_
        exact (hx.later t' (by omega)).1
      · exact hho he
  have w2 : Rise l' x.term := by rw [← hy]; exact g5.snoc g1
  have w1 : Chain (moreG G x.id x.term l') l' := by
    intro k hk
    rcases Nat.lt_or_ge k x.log.length with hlt | hge
    · obtain ⟨i, L, b1, b2, b3⟩ := (g4.later hL) k hlt
      subst hy
      rw [List.getElem_append_left hlt]
      refine ⟨i, L, b1, b2, ?_⟩
      rw [b3, List.take_append_of_le_length hlt]
    · have hkl : k = x.log.length := by rw [← hy] at hk; simp at hk; omega
      have e : (l'[k]).term = x.term := by subst hy; subst hkl; simp
      rw [e]
      exact ⟨_, _, hself, hk, rfl⟩
  have hpre : ∀ {m : Nat}, m ≤ x.log.length → l'.take m = x.log.take m := fun h => by rw [← hy, List.take_append_of_le_length h]
  have hlen : l'.length = x.log.length + 1 := by rw [← hy]; simp
  refine ⟨moreG G x.id x.term l', ⟨fun t i L hti => ?_, fun v t => ?_, fun v t htn => ?_, fun v t i L hti => ?_, fun v t i L hti => ?_⟩, hL, ⟨fun v t hv => hho hv, fun _ _ _ => rfl, fun v t hv => if_neg fun e => hv e.1, fun t j L hj hjl => ?_⟩, ?_, fun m hm => by simp at hm⟩
  · by_cases he : t = x.term
    · subst he
      rw [hself] at hti
      injection hti with hti
      injection hti with e1 e2
      subst e1 e2
      refine ⟨g1, g2, g3, w1, w2, g6, ⟨D0 ++ [⟨x.term, c⟩], by rw [hhl (by omega), ← List.append_assoc, ← g7]; exact hy.symm, fun y hy => ?_⟩, g8.mono fun v hv => ?_⟩
      · rcases List.mem_append.1 hy with hy | hy
        · exact g7' y hy
        · simp at hy; subst hy; rfl
      · rw [hhl (by omega), hhl (by omega)]; exact hv
    · rw [hne he] at hti
      obtain ⟨k1, k2, k3, k4, k5, k6, k7, k8⟩ := hG.lead t i L hti
      rw [hL.hist i (t - 1) t (by omega) (by omega)]
      refine ⟨k1, k2, k3, k4.later hL, k5, k6, k7, k8.mono fun v hv => ?_⟩
      rw [hL.hist v (t - 1) t (by omega) (by omega)]
      exact hv
  · by_cases he : v = x.id ∧ x.term ≤ t
    · obtain ⟨rfl, he⟩ := he
      rw [hhs he]
      exact ⟨w1, w2.mono he⟩
    · have : (moreG G x.id x.term l').hist v t = G.hist v t := if_neg he
      rw [this]
      exact ⟨(hG.hist v t).1.later hL, (hG.hist v t).2⟩
  · have he : t ≠ x.term := fun e => by subst e; rw [hself] at htn; cases htn
    rw [hne he] at htn
    rw [hak he]
    obtain ⟨s1, s2⟩ := hG.still v t htn
    refine ⟨?_, s2⟩
    by_cases hv : v = x.id
    · subst hv
      rcases Int.lt_or_le t x.term with hlt | hge
      · rw [hhl hlt, hhl (by omega)]; exact s1
      · rw [hhs hge, hhs (by omega)]
    · rw [hho hv, hho hv]; exact s1
  · intro m hmL hmt hm
    by_cases hv : v = x.id
    · subst hv
      rcases Int.lt_or_le t x.term with hlt | hge
      · rw [hne (by omega)] at hti
        rw [hhl hlt]
        rw [hhl (by omega)] at hm
        exact hG.keep _ t i L hti m hmL hmt hm
      · rcases Int.lt_or_eq_of_le hge with hlt | heq
        · rw [hhs hge]
          rw [hhs (by omega)] at hm
          exact hm
        · subst heq
          rw [hself] at hti
          injection hti with hti
          injection hti with e1 e2
          subst e1 e2
          rw [hhs (Int.le_refl _)]
          exact ⟨hmL, rfl⟩
    · rw [hho hv] at hm ⊢
      by_cases he : t = x.term
      · subst he
        rw [hself] at hti
        injection hti with hti
        injection hti with e1 e2
        subst e1 e2
        have hml : m ≤ x.log.length := by
          rcases Nat.lt_or_ge x.log.length m with hlt | hge
          · exfalso
            have hm' : m = x.log.length + 1 := by omega
            rw [termAt_nat l' (by omega) hmL] at hmt
            have : (l'[m - 1]'(by omega)).term = x.term := by subst hy; simp [hm']
            omega
          · exact hge
        have h2 := hG.keep v x.term _ _ c1 m hml (by rw [← termAt_take (hpre hml) (Nat.le_refl m)]; exact hmt) ⟨hm.1, hm.2.trans (hpre hml)⟩
        exact ⟨h2.1, h2.2.trans (hpre hml).symm⟩
      · rw [hne he] at hti
        exact hG.keep v t i L hti m hmL hmt hm
  · by_cases hv : v = x.id
    · subst hv
      by_cases he : t = x.term
      · subst he
        rw [hself] at hti
        injection hti with hti
        injection hti with e1 e2
        subst e1 e2
        have : (moreG G x.id x.term l').ack x.id x.term = l'.length := if_pos ⟨rfl, rfl⟩
        rw [this, hhs (Int.le_refl _)]
        exact ⟨Nat.le_refl _, Nat.le_refl _, rfl⟩
      · rw [hne he] at hti
        rw [hak he]
        rcases Int.lt_or_le t x.term with hlt | hge
        · rw [hhl hlt]; exact hG.acks _ t i L hti
        · rw [(hx.later t (by omega)).2]
          exact ⟨Nat.zero_le _, Nat.zero_le _, by simp⟩
    · have hk : (moreG G x.id x.term l').ack v t = G.ack v t := if_neg fun e => hv e.1
      rw [hk, hho hv]
      by_cases he : t = x.term
      · subst he
        rw [hself] at hti
        injection hti with hti
        injection hti with e1 e2
        subst e1 e2
        obtain ⟨k1, k2, k3⟩ := hG.acks v x.term _ _ c1
        exact ⟨by omega, k2, k3.trans (hpre k1).symm⟩
      · rw [hne he] at hti
        exact hG.acks v t i L hti
  · by_cases he : t = x.term
    · subst he
      rw [hself] at hjl
      injection hjl with hjl
      injection hjl with e1 _
      exact absurd e1.symm hj
    · rw [hne he] at hjl; exact hjl
  · refine ⟨fun t htt => hhs htt, hx.vote, fun t htt => ?_, fun h => by simp [hr] at h, fun _ => ⟨hself, if_pos ⟨rfl, rfl⟩, fun j hj => Int.le_trans (c3 j hj) ?_⟩, ?_⟩
    · have htt' : x.term < t := htt
      exact ⟨(hx.later t htt').1, by show (moreG G x.id x.term l').ack x.id t = 0; rw [hak (by omega)]; exact (hx.later t htt').2⟩
    · have := hL.ack ((j : Int) + 1) x.term
      show _ ≤ ((moreG G x.id x.term l').ack ((j : Int) + 1) x.term : Int)
      omega
    · have := (hx.sure.later hL (Int.le_refl _)).append [⟨x.term, c⟩]
      rw [hy] at this
      exact this

end Go.Proofs.Ytibjbpakbfodaaa
