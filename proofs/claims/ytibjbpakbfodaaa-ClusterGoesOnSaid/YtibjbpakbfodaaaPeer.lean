/- The node at work, changed: a number set, an item put into its log, a place of its lists set. Lemmas on memory, no walk. -/
import Derived.Test.YtibjbpakbfodaaaBase
namespace Go.Proofs.Ytibjbpakbfodaaa
open Go.RowKit

/-- One field of the peer that is a number has been set. -/
theorem Peer.setInt {w w2 : World} {S : Nat → Prop} {p : Nat} {x : NodV} {ov : Value} {out : List MesV} (h : Peer w S p x ov out) (hk : Keeps (fun _ => False) w w2) (k : Nat) (u : Value) (y : Nod)
    (hy : (nodCells ⟨y, x.lv, x.vv, x.nv, x.mv⟩ ++ [ov]).toArray = (nodCells x ++ [ov]).toArray.setIfInBounds k u) (e1 : y.log = x.n.log) (e2 : y.votes = x.n.votes) (e3 : y.next = x.n.next) (e4 : y.mtch = x.n.mtch) :
    Peer (w2.setCell ⟨p, k, none⟩ u) S p ⟨y, x.lv, x.vv, x.nv, x.mv⟩ ov out ∧ Keeps S w (w2.setCell ⟨p, k, none⟩ u) := by
  have h2 := h.later hk
  have hkk : Keeps S w (w2.setCell ⟨p, k, none⟩ u) := (hk.mono (fun _ h => h.elim)).setCell (.inl h.pS) _
  refine ⟨{ blk := ?_, log := ?_, votes := ?_, next := ?_, mtch := ?_, outs := own_set h2.outs _ h2.out_ne, items := fun m hm => ?_, late := h2.late, pS := h.pS, lS := h.lS, vS := h.vS, nS := h.nS, mS := h.mS, oS := h.oS, vn := h.vn, vm := h.vm, nm := h.nm, lt := fun k hk' => ?_ }, hkk⟩
  · rw [setCell_blk h2.blk, hy]
  · show (w2.setCell _ _).ownsRow 0 44 2 x.lv y.log.length (itemCells y.log)
    rw [e1]; exact own_set h2.log _ h2.log_ne
  · show (w2.setCell _ _).ownsRow 0 3 1 x.vv y.votes.length (intCells y.votes)
    rw [e2]; exact own_set h2.votes _ h2.votes_ne
  · show (w2.setCell _ _).ownsRow 0 3 1 x.nv y.next.length (intCells y.next)
    rw [e3]; exact own_set h2.next _ h2.next_ne
  · show (w2.setCell _ _).ownsRow 0 3 1 x.mv y.mtch.length (intCells y.mtch)
    rw [e4]; exact own_set h2.mtch _ h2.mtch_ne
  · exact (h.items m hm).keep hkk (fun _ _ h => h)
  · rw [setCell_size]; exact h2.lt k hk'


/-- What each message says, in order. -/
def said (ms : List MesV) : List Mes := ms.map MesV.m

theorem intCells_set (l : List Int) (j : Nat) (a : Int) : intCells (l.set j a) = (intCells l).set j (.int .i64 a) := by
  unfold intCells; rw [List.map_set]

/-- A place of 'Match' has been set. -/
theorem Peer.setMtch {w w2 : World} {S : Nat → Prop} {p : Nat} {x : NodV} {ov : Value} {out : List MesV} (h : Peer w S p x ov out) (hk : Keeps (fun _ => False) w w2) {g j c : Nat} (hv : x.mv = .slice (some ⟨g, 0, none⟩) x.n.mtch.length c) (a : Int) :
    Peer (w2.setCell ⟨g, j, none⟩ (.int .i64 a)) S p ⟨{ x.n with mtch := x.n.mtch.set j a }, x.lv, x.vv, x.nv, x.mv⟩ ov out ∧ Keeps S w (w2.setCell ⟨g, j, none⟩ (.int .i64 a)) := by
  have h2 := h.later hk
  have hb : x.mv.ownBlock = some g := by rw [hv]; rfl
  have hkk : Keeps S w (w2.setCell ⟨g, j, none⟩ (.int .i64 a)) := (hk.mono (fun _ h => h.elim)).setCell (.inl (h.mS g hb)) _
  have hgp : g ≠ p := fun e => h.mtch_ne (by rw [hb, e])
  refine ⟨{ blk := ?_, log := own_set h2.log _ (fun e => own_ne h2.log h2.mtch (by decide) e hb), votes := own_set h2.votes _ (fun e => h.vm g e hb), next := own_set h2.next _ (fun e => h.nm g e hb), mtch := ?_,
            outs := own_set h2.outs _ (fun e => own_ne h2.outs h2.mtch (by decide) e hb), items := fun m hm => (h.items m hm).keep hkk (fun _ _ h => h), late := h2.late, pS := h.pS, lS := h.lS, vS := h.vS, nS := h.nS, mS := h.mS, oS := h.oS, vn := h.vn, vm := h.vm, nm := h.nm,
            lt := fun k hk' => by rw [setCell_size]; exact h2.lt k hk' }, hkk⟩
  · exact (Below.heap_setCell _ _ _ _ (Ne.symm hgp)).trans h2.blk
  · show (w2.setCell _ _).ownsRow 0 3 1 x.mv (x.n.mtch.set j a).length (intCells (x.n.mtch.set j a))
    have hm := h2.mtch
    rw [hv] at hm ⊢
    rw [List.length_set, intCells_set]
    exact (hm.stored j _).1

/-- A place of 'Next' has been set. -/
theorem Peer.setNext {w w2 : World} {S : Nat → Prop} {p : Nat} {x : NodV} {ov : Value} {out : List MesV} (h : Peer w S p x ov out) (hk : Keeps (fun _ => False) w w2) {g j c : Nat} (hv : x.nv = .slice (some ⟨g, 0, none⟩) x.n.next.length c) (a : Int) :
    Peer (w2.setCell ⟨g, j, none⟩ (.int .i64 a)) S p ⟨{ x.n with next := x.n.next.set j a }, x.lv, x.vv, x.nv, x.mv⟩ ov out ∧ Keeps S w (w2.setCell ⟨g, j, none⟩ (.int .i64 a)) := by
  have h2 := h.later hk
  have hb : x.nv.ownBlock = some g := by rw [hv]; rfl
  have hkk : Keeps S w (w2.setCell ⟨g, j, none⟩ (.int .i64 a)) := (hk.mono (fun _ h => h.elim)).setCell (.inl (h.nS g hb)) _
  have hgp : g ≠ p := fun e => h.next_ne (by rw [hb, e])
  refine ⟨{ blk := ?_, log := own_set h2.log _ (fun e => own_ne h2.log h2.next (by decide) e hb), votes := own_set h2.votes _ (fun e => h.vn g e hb), next := ?_, mtch := own_set h2.mtch _ (fun e => h.nm g hb e),
            outs := own_set h2.outs _ (fun e => own_ne h2.outs h2.next (by decide) e hb), items := fun m hm => (h.items m hm).keep hkk (fun _ _ h => h), late := h2.late, pS := h.pS, lS := h.lS, vS := h.vS, nS := h.nS, mS := h.mS, oS := h.oS, vn := h.vn, vm := h.vm, nm := h.nm,
            lt := fun k hk' => by rw [setCell_size]; exact h2.lt k hk' }, hkk⟩
  · exact (Below.heap_setCell _ _ _ _ (Ne.symm hgp)).trans h2.blk
  · show (w2.setCell _ _).ownsRow 0 3 1 x.nv (x.n.next.set j a).length (intCells (x.n.next.set j a))
    have hm := h2.next
    rw [hv] at hm ⊢
    rw [List.length_set, intCells_set]
    exact (hm.stored j _).1

/-- The log has grown, in its own row or a new one, and stands in its field again. -/
theorem Peer.logged {w w2 w1 : World} {S : Nat → Prop} {p : Nat} {x : NodV} {ov : Value} {out : List MesV} (h : Peer w S p x ov out) (hk : Keeps (fun _ => False) w w2) {gg n cap : Nat} {l : List Itm}
    (hown : w1.ownsRow 0 44 2 (.slice (some ⟨gg, 0, none⟩) n cap) n (itemCells l)) (hn : n = l.length) (hgrow : w2.grownBy w1 x.lv.ownBlock) (hat : x.lv.ownBlock = some gg ∨ w.heap.size ≤ gg) :
    Peer (w1.setCell ⟨p, 4, none⟩ (.slice (some ⟨gg, 0, none⟩) n cap)) (fun k => S k ∨ k = gg) p ⟨{ x.n with log := l }, .slice (some ⟨gg, 0, none⟩) n cap, x.vv, x.nv, x.mv⟩ ov out ∧
      Keeps S w (w1.setCell ⟨p, 4, none⟩ (.slice (some ⟨gg, 0, none⟩) n cap)) ∧ ∀ k, (S k ∨ k = gg) → S k ∨ w.heap.size ≤ k := by
  subst hn
  have hsub : ∀ k, (S k ∨ k = gg) → S k ∨ w.heap.size ≤ k := fun k hk' => by
    rcases hk' with h1 | rfl
    · exact .inl h1
    · rcases hat with h2 | h2
      · exact .inl (h.lS _ h2)
      · exact .inr h2
  have hw1 : ∀ k, k < w.heap.size → some k ≠ x.lv.ownBlock → w1.heap[k]? = w.heap[k]? := fun k hlt hne =>
    (hgrow.block k (Nat.lt_of_lt_of_le hlt hk.size) hne).trans (hk.block k hlt (fun h => h))
  have hkeep1 : Keeps S w w1 := (hk.mono (S' := S) (fun _ h => h.elim)).trans (S' := fun k => some k = x.lv.ownBlock) ⟨hgrow.os, hgrow.tape, hgrow.output, hgrow.size, fun k hk' hne => hgrow.block k hk' hne⟩
    (fun k hk' => .inl (h.lS k hk'.symm))
  have hkeep : Keeps S w (w1.setCell ⟨p, 4, none⟩ (.slice (some ⟨gg, 0, none⟩) l.length cap)) := hkeep1.setCell (.inl h.pS) _
  have hgp : gg ≠ p := by
    rcases hat with h2 | h2
    · exact own_ne_blk h.log h.blk (by decide) h2
    · have := h.lt p h.pS; omega
  have hrow' : ∀ (v : Value) (base e size n' : Nat) (xs : List Value), w.ownsRow base e size v n' xs → e ≠ 44 → e ≠ 79 → (w1.setCell ⟨p, 4, none⟩ (.slice (some ⟨gg, 0, none⟩) l.length cap)).ownsRow base e size v n' xs := fun v base e size n' xs hr he1 he2 =>
    own_keep hr fun g hg => (Below.heap_setCell _ _ _ _ (own_ne_blk hr h.blk he2 hg)).trans (hw1 g (own_lt hr hg) (fun e' => own_ne hr h.log he1 hg e'.symm))
  refine ⟨{ blk := ?_, log := ?_, votes := hrow' _ _ _ _ _ _ h.votes (by decide) (by decide), next := hrow' _ _ _ _ _ _ h.next (by decide) (by decide),
            mtch := hrow' _ _ _ _ _ _ h.mtch (by decide) (by decide), outs := hrow' _ _ _ _ _ _ h.outs (by decide) (by decide), items := ?_, late := h.late, pS := .inl h.pS, lS := ?_, vS := fun g hg => .inl (h.vS g hg),
            nS := fun g hg => .inl (h.nS g hg), mS := fun g hg => .inl (h.mS g hg), oS := fun g hg => .inl (h.oS g hg), vn := h.vn, vm := h.vm, nm := h.nm, lt := ?_ }, hkeep, hsub⟩
  · rw [setCell_blk ((hw1 p (h.lt p h.pS) (fun e => h.log_ne e.symm)).trans h.blk)]
    rfl
  · refine own_keep (w := w1) hown fun g hg => ?_
    have : gg = g := by simpa [Value.ownBlock] using hg
    subst this
    exact Below.heap_setCell _ _ _ _ hgp
  · intro m hm
    refine (h.items m hm).into hkeep (fun _ _ h => h) fun k hlt hk' => ?_
    rcases hsub k hk' with h1 | h1
    · exact h1
    · omega
  · intro g hg
    have : gg = g := by simpa [Value.ownBlock] using hg
    exact .inr this.symm
  · intro k hk'
    rw [setCell_size]
    rcases hk' with h1 | rfl
    · exact Nat.lt_of_lt_of_le (h.lt k h1) hkeep1.size
    · exact own_lt hown rfl

theorem itemCells_snoc (l : List Itm) (t c : Int) : itemCells l ++ [.int .i64 t, .int .i64 c] = itemCells (l ++ [⟨t, c⟩]) := by
  simp [itemCells]

/-- Fields of the peer have been set: numbers to whatever, lists left or gone. -/
theorem Peer.fields {w w' : World} {S : Nat → Prop} {p : Nat} {x : NodV} {ov : Value} {out : List MesV} (h : Peer w S p x ov out) (hk : Keeps (fun k => k = p) w w') (x' : NodV)
    (hb : w'.heap[p]? = some (.cells (nodCells x' ++ [ov]).toArray 79 (0, 0))) (hl : x'.lv = x.lv ∧ x'.n.log = x.n.log) (hv : (x'.vv = x.vv ∧ x'.n.votes = x.n.votes) ∨ (x'.vv = .slice none 0 0 ∧ x'.n.votes = []))
    (hn : (x'.nv = x.nv ∧ x'.n.next = x.n.next) ∨ (x'.nv = .slice none 0 0 ∧ x'.n.next = [])) (hm : (x'.mv = x.mv ∧ x'.n.mtch = x.n.mtch) ∨ (x'.mv = .slice none 0 0 ∧ x'.n.mtch = [])) :
    Peer w' S p x' ov out ∧ Keeps S w w' := by
  have hkk : Keeps S w w' := hk.mono (fun k e => .inl (e ▸ h.pS))
  have mv : ∀ {base e size : Nat} {v : Value} {n : Nat} {xs : List Value}, w.ownsRow base e size v n xs → v.ownBlock ≠ some p → w'.ownsRow base e size v n xs := fun hr hne =>
    own_keep hr fun g hg => hk.block g (own_lt hr hg) (fun e => hne (by rw [hg, e]))
  obtain ⟨x'n, x'l, x'v, x'nx, x'm⟩ := x'
  obtain ⟨hl1, hl2⟩ := hl
  simp only at hl1 hl2 hv hn hm
  subst hl1
  refine ⟨{ blk := hb, log := ?_, votes := ?_, next := ?_, mtch := ?_, outs := mv h.outs h.out_ne, items := fun m hm' => (h.items m hm').keep hkk (fun _ _ h => h), late := h.late, pS := h.pS, lS := h.lS, vS := ?_, nS := ?_, mS := ?_, oS := h.oS, vn := ?_, vm := ?_, nm := ?_,
            lt := fun k hk' => Nat.lt_of_lt_of_le (h.lt k hk') hk.size }, hkk⟩
  · show w'.ownsRow 0 44 2 x.lv x'n.log.length (itemCells x'n.log)
    rw [hl2]; exact mv h.log h.log_ne
  · show w'.ownsRow 0 3 1 x'v x'n.votes.length (intCells x'n.votes)
    rcases hv with ⟨e1, e2⟩ | ⟨e1, e2⟩
    · rw [e1, e2]; exact mv h.votes h.votes_ne
    · rw [e1, e2]; exact World.ownsRow_nil _ _ _ _
  · show w'.ownsRow 0 3 1 x'nx x'n.next.length (intCells x'n.next)
    rcases hn with ⟨e1, e2⟩ | ⟨e1, e2⟩
    · rw [e1, e2]; exact mv h.next h.next_ne
    · rw [e1, e2]; exact World.ownsRow_nil _ _ _ _
  · show w'.ownsRow 0 3 1 x'm x'n.mtch.length (intCells x'n.mtch)
    rcases hm with ⟨e1, e2⟩ | ⟨e1, e2⟩
    · rw [e1, e2]; exact mv h.mtch h.mtch_ne
    · rw [e1, e2]; exact World.ownsRow_nil _ _ _ _
  · intro g hg
    rcases hv with ⟨e1, _⟩ | ⟨e1, _⟩ <;> simp only [e1] at hg
    · exact h.vS g hg
    · simp [Value.ownBlock] at hg
  · intro g hg
    rcases hn with ⟨e1, _⟩ | ⟨e1, _⟩ <;> simp only [e1] at hg
    · exact h.nS g hg
    · simp [Value.ownBlock] at hg
  · intro g hg
    rcases hm with ⟨e1, _⟩ | ⟨e1, _⟩ <;> simp only [e1] at hg
    · exact h.mS g hg
    · simp [Value.ownBlock] at hg
  · intro g hg hg'
    rcases hv with ⟨e1, _⟩ | ⟨e1, _⟩ <;> rcases hn with ⟨e2, _⟩ | ⟨e2, _⟩ <;> simp only [e1, e2] at hg hg'
    · exact h.vn g hg hg'
    all_goals simp [Value.ownBlock] at hg hg'
  · intro g hg hg'
    rcases hv with ⟨e1, _⟩ | ⟨e1, _⟩ <;> rcases hm with ⟨e2, _⟩ | ⟨e2, _⟩ <;> simp only [e1, e2] at hg hg'
    · exact h.vm g hg hg'
    all_goals simp [Value.ownBlock] at hg hg'
  · intro g hg hg'
    rcases hn with ⟨e1, _⟩ | ⟨e1, _⟩ <;> rcases hm with ⟨e2, _⟩ | ⟨e2, _⟩ <;> simp only [e1, e2] at hg hg'
    · exact h.nm g hg hg'
    all_goals simp [Value.ownBlock] at hg hg'

theorem Keeps.setP {w w' : World} {p k : Nat} (h : Keeps (fun k => k = p) w w') (u : Value) : Keeps (fun k => k = p) w (w'.setCell ⟨p, k, none⟩ u) := h.setCell (.inl rfl) u

end Go.Proofs.Ytibjbpakbfodaaa
