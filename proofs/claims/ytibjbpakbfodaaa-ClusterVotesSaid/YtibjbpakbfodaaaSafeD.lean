/- The safety of the cluster, plainly: every event keeps the invariant, and what is seen of a world. No program is in sight. -/
import Derived.Test.YtibjbpakbfodaaaSafeC
namespace Go.Proofs.Ytibjbpakbfodaaa

/- ## The cluster -/

structure WInv (n : Int) (G : Gh) (w : Wld) : Prop where
  g : GInv n G
  nodes : ∀ i (h : i < w.nodes.length), NInv n G w.nodes[i]
  net : ∀ m ∈ w.net, MInv n G m

/-- Nothing has been yet. -/
def noGh : Gh := ⟨fun _ => none, fun _ _ => [], fun _ _ => 0, fun _ _ => 0⟩

theorem firstWld_inv (n : Int) : WInv n noGh (firstWld n) := by
  refine ⟨⟨fun t i L h => by simp [noGh] at h, fun v t => ⟨fun k hk => by simp [noGh] at hk, by simp [noGh, Rise]⟩, fun v t _ => ⟨rfl, rfl⟩, fun v t i L h => by simp [noGh] at h, fun v t i L h => by simp [noGh] at h⟩, fun i hi => ?_, fun m hm => by simp [firstWld] at hm⟩
  simp only [firstWld, List.getElem_map, List.getElem_range]
  exact ⟨fun _ _ => rfl, rfl, fun _ _ => ⟨rfl, rfl⟩, fun h => by simp [start] at h, fun h => by simp [start] at h, ⟨by simp [start], .inl (Int.le_refl _)⟩⟩

theorem WInv.set {n : Int} {G : Gh} {w : Wld} (hs : Sound n w) (h : WInv n G w) {i : Nat} {x y : Nod} (hx : w.nodes[i]? = some x) {ms : List Mes} (hg : Goes n G x y ms) {net : List Mes} (hn : ∀ m ∈ net, m ∈ w.net ∨ m ∈ ms) :
    ∃ G', WInv n G' ⟨w.nodes.set i y, net⟩ ∧ Later G G' := by
  obtain ⟨hi, rfl⟩ := List.getElem?_eq_some_iff.1 hx
  obtain ⟨G', a1, a2, a3, a4, a5⟩ := hg
  refine ⟨G', ⟨a1, fun j hj => ?_, fun m hm => ?_⟩, a2⟩
  · have hj' : j < w.nodes.length := by simpa using hj
    simp only [List.getElem_set]
    split
    · exact a4
    · rename_i hne
      have e1 := hs.id i hi
      have e2 := hs.id j hj'
      exact (h.nodes j hj').other a2 a3 (by rw [e1, e2]; omega) (by rw [e2]; omega)
  · rcases hn m hm with h1 | h1
    · exact (h.net m h1).later a2
    · exact a5 m h1

theorem mem_trim {l : List Mes} {m : Mes} (h : m ∈ trim l) : m ∈ l := List.mem_of_mem_drop h

theorem acted_goes {n : Int} {G : Gh} (hG : GInv n G) {x : Nod} (hx : NInv n G x) (hg : Good x) (hxn : x.n = n) (e : Evt) : Goes n G x (acted x e).1 (acted x e).2 := by
  unfold acted
  split
  · exact timeout_goes hG hx hg hxn
  split
  · exact beat_goes hG hx hg
  split
  · exact propose_goes hG hx hg hxn e.pick
  · exact restart_goes hG hx hg.id1

theorem cstep_inv {n : Int} {G : Gh} {w : Wld} (hs : Sound n w) (h : WInv n G w) (e : Evt) : ∃ G', WInv n G' (cstep w e) ∧ Later G G' := by
  have hsub : ∀ {net : List Mes}, (∀ m ∈ net, m ∈ w.net) → ∃ G', WInv n G' ⟨w.nodes, trim net⟩ ∧ Later G G' := fun hn => ⟨G, ⟨h.g, h.nodes, fun m hm => h.net m (hn m (mem_trim hm))⟩, Later.refl G⟩
  unfold cstep
  split
  · split
    · exact ⟨G, h, Later.refl G⟩
    · split
      · exact ⟨G, h, Later.refl G⟩
      · rename_i x hx
        obtain ⟨hi, rfl⟩ := List.getElem?_eq_some_iff.1 hx
        refine h.set hs hx (acted_goes h.g (h.nodes _ hi) (hs.good _ hi) (hs.n _ hi) e) fun m hm => ?_
        exact List.mem_append.1 (mem_trim hm)
  split
  · split
    · exact ⟨G, h, Later.refl G⟩
    split
    · exact ⟨G, h, Later.refl G⟩
    · rename_i m hm
      have hmem : m ∈ w.net := List.mem_of_getElem? hm
      have hnet : ∀ s ∈ (if e.kind = 5 then w.net else w.net.eraseIdx e.pick.toNat), s ∈ w.net := by
        intro s hs
        split at hs
        · exact hs
        · exact List.mem_of_mem_eraseIdx hs
      simp only
      split
      · exact hsub hnet
      · split
        · exact hsub hnet
        · rename_i x hx
          obtain ⟨hi, rfl⟩ := List.getElem?_eq_some_iff.1 hx
          refine h.set hs hx (receive_goes h.g (h.nodes _ hi) (hs.good _ hi) (hs.n _ hi) (h.net m hmem)) fun s hs' => ?_
          rcases List.mem_append.1 (mem_trim hs') with h1 | h1
          · exact .inl (hnet s h1)
          · exact .inr h1
  · exact hsub fun m hm => hm

/- ## What is seen of a world -/

theorem WInv.mem {n : Int} {G : Gh} {w : Wld} (h : WInv n G w) {x : Nod} (hx : x ∈ w.nodes) : NInv n G x := by
  obtain ⟨i, hi, rfl⟩ := List.mem_iff_getElem.1 hx
  exact h.nodes i hi

/-- A leader of a term is the one that has been known to lead in it. -/
theorem WInv.leads {n : Int} {G : Gh} {w : Wld} (h : WInv n G w) {x : Nod} (hx : x ∈ w.nodes) (hr : x.role = 3) : G.ld x.term = some (x.id, x.log) := ((h.mem hx).lead hr).1

/-- The leaders that have been noted. -/
def LedOk (G : Gh) (led : Int → Option Int) : Prop := ∀ t k, led t = some k → ∃ L, G.ld t = some (k, L)
theorem LedOk.later {G G' : Gh} (h : Later G G') {led : Int → Option Int} (hl : LedOk G led) : LedOk G' led := fun t k hk => by
  obtain ⟨L, h1⟩ := hl t k hk
  obtain ⟨D, h2, _⟩ := h.ld _ _ _ h1
  exact ⟨_, h2⟩
theorem LedOk.one {n : Int} {G : Gh} {w : Wld} (h : WInv n G w) {led : Int → Option Int} (hl : LedOk G led) {x : Nod} (hx : x ∈ w.nodes) (hr : x.role = 3) : (∀ k, led x.term = some k → k = x.id) ∧ LedOk G (fun t => if t = x.term then some x.id else led t) := by
  have hL := h.leads hx hr
  refine ⟨fun k hk => ?_, fun t k hk => ?_⟩
  · obtain ⟨L, h1⟩ := hl _ _ hk
    rw [hL] at h1
    injection h1 with h1
    injection h1 with h1 _
    exact h1.symm
  · simp only at hk
    split at hk
    · rename_i e
      subst e
      injection hk with hk
      subst hk
      exact ⟨_, hL⟩
    · exact hl t k hk

/-- Two logs with an item of the same term at the same place are the same up to there. -/
theorem WInv.logs {n : Int} {G : Gh} {w : Wld} (h : WInv n G w) {a b : Nod} (ha : a ∈ w.nodes) (hb : b ∈ w.nodes) {i : Nat} (hia : i < a.log.length) (hib : i < b.log.length) (he : (a.log[i]).term = (b.log[i]).term) : a.log.take (i + 1) = b.log.take (i + 1) := by
  have e1 := (h.mem ha).hist _ (Int.le_refl _)
  have e2 := (h.mem hb).hist _ (Int.le_refl _)
  have c1 := (h.g.hist a.id a.term).1
  have c2 := (h.g.hist b.id b.term).1
  rw [e1] at c1
  rw [e2] at c2
  exact c1.same c2 hia hib he

/-- What has been noted as sure, in terms up to T. -/
def SureOk (n : Int) (G : Gh) (T : Int) (s : List Itm) : Prop := Sured n G T s s.length
theorem SureOk.later {n : Int} {G G' : Gh} (h : Later G G') {T T' : Int} (hT : T ≤ T') {s : List Itm} (hs : SureOk n G T s) : SureOk n G' T' s := Sured.later h hT hs
theorem sureOk_nil (n : Int) (G : Gh) (T : Int) : SureOk n G T [] := ⟨by simp, .inl (by simp)⟩

theorem SureOk.log {n : Int} {G : Gh} {w : Wld} (h : WInv n G w) {x : Nod} (hx : x ∈ w.nodes) {k : Nat} (hk : (k : Int) ≤ x.commit) : SureOk n G x.term (x.log.take k) := by
  have hs := (h.mem hx).sure.less (c' := k) hk
  obtain ⟨h0, h1⟩ := hs
  refine ⟨Int.le_refl _, ?_⟩
  have hl : (x.log.take k).length = k := by rw [List.length_take]; omega
  rw [hl]
  refine h1.imp id ?_
  rintro ⟨t, k', i, L, q1, q2, q3, q4, q5⟩
  refine ⟨t, k', i, L, q1, q2, q3, q4, ?_⟩
  rw [← q5, Int.toNat_natCast, List.take_take, Nat.min_self]

/-- What is noted as sure and what a node counts as sure agree, place by place. -/
theorem SureOk.agree {n : Int} {G : Gh} {w : Wld} (hn : 0 ≤ n) (h : WInv n G w) {T : Int} {s : List Itm} (hs : SureOk n G T s) {x : Nod} (hx : x ∈ w.nodes) {i : Nat} (hi : (i : Int) < x.commit) (hi' : i < s.length) : s[i]? = x.log[i]? := by
  have := Sured.agree h.g hn hs (h.mem hx).sure
  have e1 : s[i]? = (s.take (min (s.length : Int) x.commit).toNat)[i]? := (List.getElem?_take_of_lt (by omega)).symm
  have e2 : x.log[i]? = (x.log.take (min (s.length : Int) x.commit).toNat)[i]? := (List.getElem?_take_of_lt (by omega)).symm
  rw [e1, e2, this]

/-- Whoever leads in a later term has all that was noted as sure. -/
theorem SureOk.led {n : Int} {G : Gh} {w : Wld} (hn : 0 ≤ n) (h : WInv n G w) {T : Int} {s : List Itm} (hs : SureOk n G T s) {x : Nod} (hx : x ∈ w.nodes) (hr : x.role = 3) (ht : T < x.term) : s.length ≤ x.log.length ∧ x.log.take s.length = s := by
  have hl := h.leads hx hr
  obtain ⟨h0, h1⟩ := hs
  rcases h1 with h1 | ⟨t, k, i, L, q1, q2, q3, q4, q5⟩
  · have : s = [] := List.eq_nil_of_length_eq_zero (by omega)
    subst this
    simp
  · have hh := h.g.has hn q2 q3 (by omega) hl
    refine ⟨by have := hh.1; omega, ?_⟩
    rw [take_le hh.2 (by omega)]
    rw [Int.toNat_natCast, List.take_length] at q5
    exact q5.symm

end Go.Proofs.Ytibjbpakbfodaaa
