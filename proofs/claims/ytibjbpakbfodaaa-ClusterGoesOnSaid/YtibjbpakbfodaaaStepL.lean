/- Lemmas for the walk of cluster.Step: no walk is here. -/
import Derived.Test.YtibjbpakbfodaaaWld
namespace Go.Proofs.Ytibjbpakbfodaaa
open Go.RowKit

theorem three_boxes (w : World) (o1 o2 o3 : Obj) : ∃ wa wb wc, w.alloc o1 = wa ∧ wa.alloc o2 = wb ∧ wb.alloc o3 = wc ∧ wa.heap.size = w.heap.size + 1 ∧ wb.heap.size = w.heap.size + 2 ∧ wc.heap.size = w.heap.size + 3 ∧ Keeps Free w wc ∧
    wc.heap[w.heap.size]? = some o1 ∧ wc.heap[w.heap.size + 1]? = some o2 ∧ wc.heap[w.heap.size + 2]? = some o3 := by
  refine ⟨_, _, _, rfl, rfl, rfl, by simp, by simp, by simp, (((Keeps.refl Free w).alloc o1).alloc o2).alloc o3, ?_, ?_, ?_⟩
  · exact ((Keeps.refl Free _).alloc o3).blk (two_boxes w o1 o2).2.1
  · exact ((Keeps.refl Free _).alloc o3).blk (two_boxes w o1 o2).2.2
  · have := heap_alloc_new ((w.alloc o1).alloc o2) o3
    simpa using this

theorem cloned_rows {w wz w1 w2 : World} {B : Nat} {v0 v1 e0 e1 e2 : Value} {A1 A2 : Option Addr} {n1 n2 C1 C2 : Nat} {xs ys : List Value} (hB : w.heap.size = B) (hs : wz.heap.size = B + 3) (hk : Keeps Free w wz)
    (b1 : wz.heap[B]? = some (.cells #[v0, v1] 55 (0, 0))) (b2 : wz.heap[B + 1]? = some (.cells #[e0, e1, e2] 63 (0, 0))) (b3 : wz.heap[B + 2]? = some (.cells #[.slice none 0 0, .slice none 0 0] 55 (0, 0)))
    (o1 : w1.ownsRow 0 25 11 (.slice A1 n1 C1) n1 xs) (g1 : ∀ g, (Value.slice A1 n1 C1).ownBlock = some g → wz.drew.heap.size ≤ g) (kk1 : Keeps (fun _ => False) wz.drew w1)
    (o2 : w2.ownsRow 0 38 9 (.slice A2 n2 C2) n2 ys) (g2 : ∀ g, (Value.slice A2 n2 C2).ownBlock = some g → w1.heap.size ≤ g) (kk2 : Keeps (fun _ => False) w1 w2) :
    ∃ W, (w2.setCell ⟨B, 0, none⟩ (.slice A1 n1 C1)).setCell ⟨B, 1, none⟩ (.slice A2 n2 C2) = W ∧ W.ownsRow 0 25 11 (.slice A1 n1 C1) n1 xs ∧ W.ownsRow 0 38 9 (.slice A2 n2 C2) n2 ys ∧
      (∀ g, (Value.slice A1 n1 C1).ownBlock = some g → B + 3 ≤ g) ∧ (∀ g, (Value.slice A2 n2 C2).ownBlock = some g → B + 3 ≤ g) ∧
      Keeps Free w W ∧ B + 3 ≤ W.heap.size ∧ W.heap[B]? = some (.cells #[.slice A1 n1 C1, .slice A2 n2 C2] 55 (0, 0)) ∧ W.heap[B + 1]? = some (.cells #[e0, e1, e2] 63 (0, 0)) ∧ W.heap[B + 2]? = some (.cells #[.slice none 0 0, .slice none 0 0] 55 (0, 0)) := by
  have hd : wz.drew.heap.size = wz.heap.size := rfl
  have hs1 : B + 3 ≤ w1.heap.size := by have := kk1.size; omega
  have g1' : ∀ g, (Value.slice A1 n1 C1).ownBlock = some g → B + 3 ≤ g := fun g hg => by have := g1 g hg; omega
  have g2' : ∀ g, (Value.slice A2 n2 C2).ownBlock = some g → B + 3 ≤ g := fun g hg => by have h1 := g2 g hg; omega
  have hke : Keeps (fun j => j = B) w2 ((w2.setCell ⟨B, 0, none⟩ (.slice A1 n1 C1)).setCell ⟨B, 1, none⟩ (.slice A2 n2 C2)) :=
    Keeps.setCell (p := ⟨B, 1, none⟩) (Keeps.setCell (p := ⟨B, 0, none⟩) (Keeps.refl (fun j => j = B) w2) (.inl rfl) (.slice A1 n1 C1)) (.inl rfl) (.slice A2 n2 C2)
  have hkw := kk2.size
  refine ⟨_, rfl, own_set (own_set (own_later o1 kk2) _ (fun e => by have := g1' _ e; omega)) _ (fun e => by have := g1' _ e; omega),
    own_set (own_set o2 _ (fun e => by have := g2' _ e; omega)) _ (fun e => by have := g2' _ e; omega), g1', g2', ?_, ?_, ?_, ?_, ?_⟩
  · exact ((hk.drew.trans kk1 (fun _ h => .inl h)).trans kk2 (fun _ h => .inl h)).trans hke fun j e => .inr (by omega)
  · have := hke.size; omega
  · rw [setCell_blk (setCell_blk (kk2.blk (kk1.blk b1)))]
    rfl
  · exact (hke.block (B + 1) (by omega) (by omega)).trans (kk2.blk (kk1.blk b2))
  · exact (hke.block (B + 2) (by omega) (by omega)).trans (kk2.blk (kk1.blk b3))

/-- Between an event and its end: a step at work, and what is said. -/
def Mid (w : World) (Q : Nat → Prop) (B : Nat) (W : WldV) (ev : Evt) (o : Value) (wx : World) : Prop :=
  ∃ C W' out, Stage wx Q B C B W' ∧ MsgsOk wx (Apart Q B C) o out ∧ wx.heap[B + 2]? = some (.cells #[.slice none 0 0, .slice none 0 0] 55 (0, 0)) ∧ B + 2 < C ∧ Keeps Free w wx ∧ W'.nodes.length ≤ 1000 ∧ W'.net.length ≤ 1000 ∧ out.length ≤ 1000 ∧
    (∀ g, W'.nv.ownBlock = some g → B + 3 ≤ g) ∧ (∀ g, W'.ov.ownBlock = some g → B + 3 ≤ g) ∧ cstep W.w ev = ⟨W'.nodes.map NodV.n, trim (said W'.net ++ said out)⟩

theorem stage_new {w wx : World} {Q : Nat → Prop} {B C : Nat} {W : WldV} {nv ov : Value} (h : WldOk w Q W) (hQ : ∀ k, Q k → k < B) (hB : w.heap.size = B) (hk : Keeps Free w wx) (hC : C ≤ wx.heap.size) (hBC : B < C)
    (hb : wx.heap[B]? = some (.cells #[nv, ov] 55 (0, 0))) (o1 : wx.ownsRow 0 25 11 nv W.nodes.length (W.nodes.flatMap nodCells)) (o2 : wx.ownsRow 0 38 9 ov W.net.length (W.net.flatMap mesCells))
    (g1 : ∀ g, nv.ownBlock = some g → B ≤ g ∧ g < C) (g2 : ∀ g, ov.ownBlock = some g → B ≤ g ∧ g < C) : Stage wx Q B C B { W with nv := nv, ov := ov } := by
  have hS : ∀ k, k < w.heap.size → Apart Q B C k → Q k := fun k hk h => h.elim id fun h => by omega
  exact { blk := hb, nodes := o1, net := o2, each := fun x hx => (h.each x hx).into hk (fun _ _ h => h.elim) hS, items := fun m hm => Sl.into (h.msgs.each m hm) hk (fun _ _ h => h.elim) hS, bB := Nat.le_refl _, bC := hBC, nB := g1, oB := g2, Clt := hC, Bl := hQ }

theorem own_at {α : Type} {w : World} {e s : Nat} {A : Option Addr} {c : Nat} {l : List α} {f : α → List Value} (hf : ∀ x, (f x).length = s) (h : w.ownsRow 0 e s (.slice A l.length c) l.length (l.flatMap f)) {i : Nat} (hi : i < l.length) :
    ∃ g, A = some ⟨g, 0, none⟩ ∧ (∀ j u, j < s → (f l[i])[j]? = some u → w.cell? ⟨g, i * s + j, none⟩ = some u) ∧ ∀ k, w.frozen? ⟨g, k, none⟩ = false := by
  obtain ⟨g, rfl, hc, hf'⟩ := own_cell h (by omega)
  refine ⟨g, rfl, fun j u hj hu => ?_, hf'⟩
  have hle : i * s + s ≤ l.length * s := by
    have := Nat.mul_le_mul_right s (show i + 1 ≤ l.length from hi)
    rw [Nat.add_mul] at this; omega
  rw [hc _ (by omega), flat_get f s hf l i l[i] j (List.getElem?_eq_getElem hi) hj]
  exact hu

theorem put2 {w : World} {r t : Nat} {cs : Array Value} {v0 v1 : Value} (h : w.heap[r]? = some (.cells cs t (0, 0))) (hs : cs.size = 2) :
    ∃ w', (w.setCell ⟨r, 0, none⟩ v0).setCell ⟨r, 1, none⟩ v1 = w' ∧ w'.heap[r]? = some (.cells #[v0, v1] t (0, 0)) ∧ Keeps (fun k => k = r) w w' := by
  obtain ⟨h1, h2⟩ := sets_blk r t [v0, v1] w 0 cs h (by simp [hs])
  exact ⟨_, rfl, h1, h2⟩

theorem spot_cases (len : Nat) (nd : Int) : (spot len nd < 0 ∧ (nd < 1 ∨ (len : Int) < nd)) ∨ ∃ i : Nat, i < len ∧ spot len nd = i ∧ ¬ (nd < 1 ∨ (len : Int) < nd) ∧ (nd - 1).toNat = i := by
  unfold spot
  by_cases h : nd < 1 ∨ (len : Int) < nd
  · exact .inl ⟨by rw [if_pos h]; decide, h⟩
  · exact .inr ⟨(nd - 1).toNat, by omega, by rw [if_neg h]; omega, h, rfl⟩

/-- The world that a step hands back. -/
theorem Stage.done {w wx wf : World} {Q : Nat → Prop} {B C : Nat} {W' : WldV} (h : Stage wx Q B C B W') (hB : w.heap.size = B) (hk : Keeps Free w wx) (hC : B + 2 < C) (hf : Keeps (fun k => k = B + 2) wx wf) (ho : W'.ov.ownBlock ≠ some (B + 2)) (hn : W'.nv.ownBlock ≠ some (B + 2)) : WldOk wf Q W' ∧ Keeps Free w wf :=
  ⟨(h.keep hf fun k e => by subst e; exact ⟨by omega, hC, by omega, hn, ho⟩).ok, hk.trans hf fun k e => .inr (by omega)⟩

theorem others_len5 {x : Nod} (h : x.n ≤ 5) : (others x).length ≤ 5 := by
  unfold others
  refine Nat.le_trans (List.length_filter_le _ _) ?_
  rw [List.length_map, List.length_range]
  omega
theorem putSays_len5 {x : Nod} (c : Int) (h : x.n ≤ 5) : (putSays x c).length ≤ 5 := by
  unfold putSays
  rw [List.length_map]
  exact others_len5 (by rw [(put_fields x c).2.1]; exact h)
theorem leadSays_len5 {x : Nod} (h : x.n ≤ 5) : (leadSays x).length ≤ 5 := by
  unfold leadSays
  split
  · exact putSays_len5 0 h
  · simp
theorem acted_len (x : Nod) (e : Evt) : (acted x e).2.length ≤ 20 := by
  have hg : ∀ {p : Prop}, ¬ (wrong x ≠ 0 ∨ p) → x.n ≤ 5 := fun hc => (good_of_wrong (by omega)).n5
  unfold acted
  split
  · unfold timeout
    split
    · simp
    · rename_i hc
      have h5 := hg hc
      have h1 := others_len5 (x := stood x) h5
      have h2 := leadSays_len5 (x := stood x) h5
      simp only [List.length_append, List.length_map]
      omega
  split
  · unfold beat
    split
    · simp
    · rename_i hc
      have h1 := others_len5 (hg hc)
      simp only [List.length_map]
      omega
  split
  · unfold propose
    split
    · simp
    · rename_i hc
      exact Nat.le_trans (putSays_len5 _ (hg hc)) (by omega)
  · simp
theorem receive_len (x : Nod) (m : Mes) : (receive x m).2.length ≤ 20 := by
  unfold receive
  split
  · simp
  rename_i hc
  have h5 : x.n ≤ 5 := (good_of_wrong (by omega)).n5
  have hy : (if x.term < m.term then follow x m.term 0 else x).n ≤ 5 := by split <;> exact h5
  generalize (if x.term < m.term then follow x m.term 0 else x) = y at hy
  simp only
  split
  · simp [asked]
  split
  · unfold voted
    split
    · simp
    · exact Nat.le_trans (leadSays_len5 hy) (by omega)
  split
  · unfold appended
    split
    · simp
    · simp only
      split <;> simp
  · unfold told
    split
    · simp
    split
    · simp only
      split <;> simp
    · simp

/-- A store of a whole node at a place of a row. -/
theorem row11 (w : World) (g a : Nat) (v0 v1 v2 v3 v4 v5 v6 v7 v8 v9 v10 : Value) :
    ∃ w', ((((((((((w.setCell ⟨g, a, none⟩ v0).setCell ⟨g, a + 1, none⟩ v1).setCell ⟨g, a + 2, none⟩ v2).setCell ⟨g, a + 3, none⟩ v3).setCell ⟨g, a + 4, none⟩ v4).setCell ⟨g, a + 5, none⟩ v5).setCell ⟨g, a + 6, none⟩ v6).setCell ⟨g, a + 7, none⟩ v7).setCell ⟨g, a + 8, none⟩ v8).setCell ⟨g, a + 9, none⟩ v9).setCell ⟨g, a + 10, none⟩ v10 = w' ∧ w' = w.setCells g a [v0, v1, v2, v3, v4, v5, v6, v7, v8, v9, v10] := ⟨_, rfl, rfl⟩

theorem acted_mid {w wo w5 w6 w7 : World} {Q : Nat → Prop} {B C1 C2 g1 i : Nat} {A2 : Option Addr} {nodes : List NodV} {net : List MesV} {nv ov o : Value} {ev : Evt} {x' : NodV} {out : List MesV} (h0 : WldOk w Q ⟨nodes, net, nv, ov⟩) (hQ : ∀ k, Q k → k < B) (hB : w.heap.size = B)
    (hn : nodes.length ≤ 1000) (hm : net.length ≤ 1000) (q1 : wo.ownsRow 0 25 11 (.slice (some ⟨g1, 0, none⟩) nodes.length C1) nodes.length (nodes.flatMap nodCells)) (q2 : wo.ownsRow 0 38 9 (.slice A2 net.length C2) net.length (net.flatMap mesCells))
    (q3 : ∀ g, (Value.slice (some ⟨g1, 0, none⟩) nodes.length C1).ownBlock = some g → B + 3 ≤ g) (q4 : ∀ g, (Value.slice A2 net.length C2).ownBlock = some g → B + 3 ≤ g) (q5 : Keeps Free w wo) (q6 : B + 3 ≤ wo.heap.size)
    (q7 : wo.heap[B]? = some (.cells #[.slice (some ⟨g1, 0, none⟩) nodes.length C1, .slice A2 net.length C2] 55 (0, 0))) (q9 : wo.heap[B + 2]? = some (.cells #[.slice none 0 0, .slice none 0 0] 55 (0, 0)))
    {b7 : Nat} (hb7 : wo.heap.size = b7) (k5 : Keeps Free wo w5) (k6 : Keeps Free w5 w6) (hs5 : w5.heap.size = b7 + 1) (hx : NodeOk w6 (Apart Q B w5.heap.size) x') (hmo : MsgsOk w6 (Apart Q B w5.heap.size) o out) (k7 : Keeps (fun k => k = b7) w6 w7)
    (hi : i < nodes.length) (hlen : out.length ≤ 1000) (hc : cstep ⟨nodes.map NodV.n, said net⟩ ev = ⟨(nodes.map NodV.n).set i x'.n, trim (said net ++ said out)⟩) :
    Mid w Q B ⟨nodes, net, nv, ov⟩ ev o (w7.setCells g1 (i * 11) (nodCells x')) := by
  have hk5 : Keeps Free w w5 := q5.trans k5 fun _ h => .inl h
  have hs5' : B + 3 ≤ w5.heap.size := by omega
  have hlt1 := fun g (hg : (Value.slice (some ⟨g1, 0, none⟩) nodes.length C1).ownBlock = some g) => own_lt q1 hg
  have hlt2 := fun g (hg : (Value.slice A2 net.length C2).ownBlock = some g) => own_lt q2 hg
  have st5 : Stage w5 Q B w5.heap.size B ⟨nodes, net, _, _⟩ := stage_new h0 hQ hB hk5 (Nat.le_refl _) (by omega) (k5.blk q7) (own_later q1 k5) (own_later q2 k5) (fun g hg => ⟨by have := q3 g hg; omega, by have := hlt1 g hg; omega⟩) (fun g hg => ⟨by have := q4 g hg; omega, by have := hlt2 g hg; omega⟩)
  have st7 := (st5.later k6).keep k7 fun k e => by
    subst e
    exact ⟨by omega, by omega, by omega, fun e => by have := hlt1 _ e; omega, fun e => by have := hlt2 _ e; omega⟩
  have hap : ∀ k, k = b7 → Apart Q B w5.heap.size k := fun k e => .inr (by omega)
  have hx7 : NodeOk w7 (Apart Q B w5.heap.size) x' := hx.into k7 (fun k _ e => hap k e) fun _ _ h => h
  obtain ⟨st8, k8⟩ := st7.setNode (g := g1) (i := i) rfl hi hx7
  have hg1 := q3 g1 rfl
  have hg1' := hlt1 g1 rfl
  refine ⟨_, _, out, st8, (hmo.into k7 (fun k _ e => hap k e) fun _ _ h => h).into k8 (fun k _ e => .inr (by omega)) fun _ _ h => h, ?_, by omega, ?_, by simpa using hn, hm, hlen, q3, q4, ?_⟩
  · have h1 : w7.heap[B + 2]? = some (.cells #[.slice none 0 0, .slice none 0 0] 55 (0, 0)) := (k7.block (B + 2) (by have := k6.size; omega) (by omega)).trans (k6.blk (k5.blk q9))
    exact (k8.block (B + 2) (laid_lt h1) (by omega)).trans h1
  · exact ((hk5.trans k6 fun _ h => .inl h).trans k7 fun k e => .inr (by omega)).trans k8 fun k e => .inr (by omega)
  · rw [show WldV.w ⟨nodes, net, nv, ov⟩ = ⟨nodes.map NodV.n, said net⟩ from rfl, hc]
    simp [List.map_set]

theorem acted_cstep {nodes : List NodV} {net : List MesV} {ev : Evt} {i : Nat} {x : NodV} (hk : ev.kind = 1 ∨ ev.kind = 2 ∨ ev.kind = 3 ∨ ev.kind = 7) (hin : ¬ (ev.node < 1 ∨ (nodes.length : Int) < ev.node)) (hie : (ev.node - 1).toNat = i) (hi : i < nodes.length) (hx : nodes[i] = x) :
    cstep ⟨nodes.map NodV.n, said net⟩ ev = ⟨(nodes.map NodV.n).set i (acted x.n ev).1, trim (said net ++ (acted x.n ev).2)⟩ := by
  unfold cstep
  rw [if_pos hk]
  have hs : spotOf ⟨nodes.map NodV.n, said net⟩ ev.node = some i := by
    unfold spotOf
    rw [if_neg (by simpa using hin), hie]
  have hg : (nodes.map NodV.n)[i]? = some x.n := by rw [List.getElem?_map, List.getElem?_eq_getElem hi, hx]; rfl
  simp only [hs, hg]

theorem idle_end {w wo wf : World} {Q : Nat → Prop} {B C1 C2 : Nat} {A1 A2 : Option Addr} {nodes : List NodV} {net : List MesV} {nv ov : Value} (h0 : WldOk w Q ⟨nodes, net, nv, ov⟩) (hQ : ∀ k, Q k → k < B) (hB : w.heap.size = B)
    (q1 : wo.ownsRow 0 25 11 (.slice A1 nodes.length C1) nodes.length (nodes.flatMap nodCells)) (q2 : wo.ownsRow 0 38 9 (.slice A2 net.length C2) net.length (net.flatMap mesCells))
    (q3 : ∀ g, (Value.slice A1 nodes.length C1).ownBlock = some g → B + 3 ≤ g) (q4 : ∀ g, (Value.slice A2 net.length C2).ownBlock = some g → B + 3 ≤ g) (q5 : Keeps Free w wo) (q6 : B + 3 ≤ wo.heap.size)
    (q7 : wo.heap[B]? = some (.cells #[.slice A1 nodes.length C1, .slice A2 net.length C2] 55 (0, 0))) (hf : Keeps (fun k => k = B + 2) wo wf) : WldOk wf Q ⟨nodes, net, .slice A1 nodes.length C1, .slice A2 net.length C2⟩ ∧ Keeps Free w wf := by
  have st : Stage wo Q B wo.heap.size B ⟨nodes, net, .slice A1 nodes.length C1, .slice A2 net.length C2⟩ := stage_new h0 hQ hB q5 (Nat.le_refl _) (by omega) q7 q1 q2 (fun g hg => ⟨by have := q3 g hg; omega, own_lt q1 hg⟩) fun g hg => ⟨by have := q4 g hg; omega, own_lt q2 hg⟩
  exact st.done hB q5 (by omega) hf (fun e => by have := q4 _ e; omega) fun e => by have := q3 _ e; omega

theorem cstep_out {nodes : List NodV} {net : List MesV} {nv ov : Value} {ev : Evt} (hk : ev.kind = 1 ∨ ev.kind = 2 ∨ ev.kind = 3 ∨ ev.kind = 7) (hout : ev.node < 1 ∨ (nodes.length : Int) < ev.node) : cstep (WldV.w ⟨nodes, net, nv, ov⟩) ev = WldV.w ⟨nodes, net, nv, ov⟩ := by
  unfold cstep
  rw [if_pos hk]
  have hs : spotOf (WldV.w ⟨nodes, net, nv, ov⟩) ev.node = none := by
    unfold spotOf WldV.w
    rw [if_pos (by simpa using hout)]
  simp only [hs]

theorem own_free {w w' : World} {e s n c g b : Nat} {xs : List Value} (h : w.ownsRow 0 e s (.slice (some ⟨g, 0, none⟩) n c) n xs) (hn : 0 < n) (hk : Keeps (fun k => k = b) w w') (hne : g ≠ b) (j : Nat) : w'.frozen? ⟨g, j, none⟩ = false := by
  have h' := own_keep h fun k hk' => hk.block k (own_lt h hk') fun e => by simp [Value.ownBlock] at hk'; omega
  obtain ⟨g', e, _, hf⟩ := own_cell h' hn
  injection e with e
  injection e with e
  subst e
  exact hf j

theorem recv_stage {w wq : World} {Q : Nat → Prop} {B : Nat} {nodes : List NodV} {net net1 : List MesV} {nv ov nv1 ov1 : Value} (h0 : WldOk w Q ⟨nodes, net, nv, ov⟩) (hQ : ∀ k, Q k → k < B) (hB : w.heap.size = B) (hk : Keeps Free w wq) (hs : B + 3 ≤ wq.heap.size)
    (hb : wq.heap[B]? = some (.cells #[nv1, ov1] 55 (0, 0))) (o1 : wq.ownsRow 0 25 11 nv1 nodes.length (nodes.flatMap nodCells)) (o2 : wq.ownsRow 0 38 9 ov1 net1.length (net1.flatMap mesCells))
    (g1 : ∀ g, nv1.ownBlock = some g → B ≤ g) (g2 : ∀ g, ov1.ownBlock = some g → B ≤ g) (hsub : ∀ m ∈ net1, m ∈ net) : Stage wq Q B wq.heap.size B ⟨nodes, net1, nv1, ov1⟩ := by
  have hS : ∀ k, k < w.heap.size → Apart Q B wq.heap.size k → Q k := fun k hk h => h.elim id fun h => by omega
  exact { blk := hb, nodes := o1, net := o2, each := fun x hx => (h0.each x hx).into hk (fun _ _ h => h.elim) hS, items := fun m hm => Sl.into (h0.msgs.each m (hsub m hm)) hk (fun _ _ h => h.elim) hS,
          bB := Nat.le_refl _, bC := by omega, nB := fun g hg => ⟨g1 g hg, own_lt o1 hg⟩, oB := fun g hg => ⟨g2 g hg, own_lt o2 hg⟩, Clt := Nat.le_refl _, Bl := hQ }

theorem recv_mid {w wq w6 : World} {Q : Nat → Prop} {B C1 g1 i : Nat} {nodes : List NodV} {net net1 : List MesV} {nv ov ov1 o : Value} {ev : Evt} {x' : NodV} {out : List MesV} (st : Stage wq Q B wq.heap.size B ⟨nodes, net1, .slice (some ⟨g1, 0, none⟩) nodes.length C1, ov1⟩) (hB : w.heap.size = B)
    (hk : Keeps Free w wq) (hs : B + 3 ≤ wq.heap.size) (q9 : wq.heap[B + 2]? = some (.cells #[.slice none 0 0, .slice none 0 0] 55 (0, 0))) (hg1 : B + 3 ≤ g1) (k6 : Keeps Free wq w6) (hx : NodeOk w6 (Apart Q B wq.heap.size) x') (hmo : MsgsOk w6 (Apart Q B wq.heap.size) o out)
    (hn : nodes.length ≤ 1000) (hm : net1.length ≤ 1000) (hi : i < nodes.length) (hlen : out.length ≤ 1000) (ho3 : ∀ g, ov1.ownBlock = some g → B + 3 ≤ g) (hc : cstep ⟨nodes.map NodV.n, said net⟩ ev = ⟨(nodes.map NodV.n).set i x'.n, trim (said net1 ++ said out)⟩) :
    Mid w Q B ⟨nodes, net, nv, ov⟩ ev o (w6.setCells g1 (i * 11) (nodCells x')) := by
  obtain ⟨st8, k8⟩ := (st.later k6).setNode (g := g1) (i := i) rfl hi hx
  have hg1' := (st.nB g1 rfl).2
  refine ⟨_, _, out, st8, hmo.into k8 (fun k _ e => .inr (by omega)) fun _ _ h => h, ?_, by omega, ?_, by simpa using hn, hm, hlen, fun g hg => (by simp [Value.ownBlock] at hg; omega), ho3, ?_⟩
  · have h1 : w6.heap[B + 2]? = some (.cells #[.slice none 0 0, .slice none 0 0] 55 (0, 0)) := k6.blk q9
    exact (k8.block (B + 2) (laid_lt h1) (by omega)).trans h1
  · exact (hk.trans k6 fun _ h => .inl h).trans k8 fun k e => .inr (by omega)
  · rw [show WldV.w ⟨nodes, net, nv, ov⟩ = ⟨nodes.map NodV.n, said net⟩ from rfl, hc]
    simp [List.map_set]

theorem still_mid {w wq : World} {Q : Nat → Prop} {B : Nat} {nodes : List NodV} {net net1 : List MesV} {nv ov nv1 ov1 : Value} {ev : Evt} (st : Stage wq Q B wq.heap.size B ⟨nodes, net1, nv1, ov1⟩)
    (hk : Keeps Free w wq) (hs : B + 3 ≤ wq.heap.size) (q9 : wq.heap[B + 2]? = some (.cells #[.slice none 0 0, .slice none 0 0] 55 (0, 0)))
    (hn : nodes.length ≤ 1000) (hm : net1.length ≤ 1000) (hn3 : ∀ g, nv1.ownBlock = some g → B + 3 ≤ g) (ho3 : ∀ g, ov1.ownBlock = some g → B + 3 ≤ g) (hc : cstep ⟨nodes.map NodV.n, said net⟩ ev = ⟨nodes.map NodV.n, trim (said net1)⟩) : Mid w Q B ⟨nodes, net, nv, ov⟩ ev (.slice none 0 0) wq :=
  ⟨_, _, [], st, noMsgs _ _, q9, by omega, hk, hn, hm, by simp, hn3, ho3, by rw [show WldV.w ⟨nodes, net, nv, ov⟩ = ⟨nodes.map NodV.n, said net⟩ from rfl, hc]; simp [said]⟩

theorem cstep_nopick {nodes : List NodV} {net : List MesV} {nv ov : Value} {ev : Evt} (hk : ev.kind = 4 ∨ ev.kind = 5 ∨ ev.kind = 6) (hp : ev.pick < 0 ∨ (net.length : Int) ≤ ev.pick) : cstep (WldV.w ⟨nodes, net, nv, ov⟩) ev = WldV.w ⟨nodes, net, nv, ov⟩ := by
  unfold cstep
  rw [if_neg (by omega), if_pos hk, if_pos (by simpa [WldV.w, said] using hp)]

theorem cstep_other {nodes : List NodV} {net : List MesV} {ev : Evt} (hk : ¬ (ev.kind = 1 ∨ ev.kind = 2 ∨ ev.kind = 3 ∨ ev.kind = 7)) (hk' : ¬ (ev.kind = 4 ∨ ev.kind = 5 ∨ ev.kind = 6)) : cstep ⟨nodes.map NodV.n, said net⟩ ev = ⟨nodes.map NodV.n, trim (said net)⟩ := by
  unfold cstep
  rw [if_neg hk, if_neg hk']

/-- What is left of the messages when one has been taken. -/
def netOf (net : List MesV) (k : Int) (j : Nat) : List MesV := if k = 5 then net else net.take j ++ net.drop (j + 1)

theorem netOf_sub {net : List MesV} {k : Int} {j : Nat} : ∀ m ∈ netOf net k j, m ∈ net := by
  intro m hm
  unfold netOf at hm
  split at hm
  · exact hm
  · rcases List.mem_append.1 hm with h | h
    · exact List.mem_of_mem_take h
    · exact List.mem_of_mem_drop h
theorem netOf_len {net : List MesV} {k : Int} {j : Nat} : (netOf net k j).length ≤ net.length := by
  unfold netOf
  split
  · exact Nat.le_refl _
  · rw [List.length_append, List.length_take, List.length_drop]; omega

theorem said_netOf (net : List MesV) (k : Int) (j : Nat) : said (netOf net k j) = if k = 5 then said net else (said net).eraseIdx j := by
  unfold netOf said
  split
  · rfl
  · rw [List.eraseIdx_eq_take_drop_succ, List.map_append, List.map_take, List.map_drop]

theorem cstep_recv {nodes : List NodV} {net : List MesV} {ev : Evt} {i j : Nat} {x : NodV} {m : MesV} (hk : ev.kind = 4 ∨ ev.kind = 5) (hj : ev.pick = j) (hjl : j < net.length) (hm : net[j] = m) (hin : ¬ (m.m.dst < 1 ∨ (nodes.length : Int) < m.m.dst)) (hie : (m.m.dst - 1).toNat = i) (hi : i < nodes.length) (hx : nodes[i] = x) :
    cstep ⟨nodes.map NodV.n, said net⟩ ev = ⟨(nodes.map NodV.n).set i (receive x.n m.m).1, trim (said (netOf net ev.kind j) ++ (receive x.n m.m).2)⟩ := by
  unfold cstep
  rw [if_neg (by omega), if_pos (by omega), if_neg (by simp [said]; omega)]
  have hs : spotOf ⟨nodes.map NodV.n, said net⟩ m.m.dst = some i := by
    unfold spotOf
    rw [if_neg (by simpa using hin), hie]
  have hgm : (said net)[ev.pick.toNat]? = some m.m := by rw [hj, Int.toNat_natCast]; unfold said; rw [List.getElem?_map, List.getElem?_eq_getElem hjl, hm]; rfl
  have hg : (nodes.map NodV.n)[i]? = some x.n := by rw [List.getElem?_map, List.getElem?_eq_getElem hi, hx]; rfl
  simp only [hgm, hs, hg, if_neg (show ¬ ev.kind = 6 by omega)]
  rw [said_netOf, hj, Int.toNat_natCast]

theorem cstep_lost {nodes : List NodV} {net : List MesV} {ev : Evt} {j : Nat} {m : MesV} (hk : ev.kind = 4 ∨ ev.kind = 5 ∨ ev.kind = 6) (hj : ev.pick = j) (hjl : j < net.length) (hm : net[j] = m) (hout : ev.kind = 6 ∨ m.m.dst < 1 ∨ (nodes.length : Int) < m.m.dst) :
    cstep ⟨nodes.map NodV.n, said net⟩ ev = ⟨nodes.map NodV.n, trim (said (netOf net ev.kind j))⟩ := by
  unfold cstep
  rw [if_neg (by omega), if_pos (by omega), if_neg (by simp [said]; omega)]
  have hs : (if ev.kind = 6 then none else spotOf ⟨nodes.map NodV.n, said net⟩ m.m.dst) = none := by
    split
    · rfl
    · unfold spotOf
      rw [if_pos (by simp; omega)]
  have hgm : (said net)[ev.pick.toNat]? = some m.m := by rw [hj, Int.toNat_natCast]; unfold said; rw [List.getElem?_map, List.getElem?_eq_getElem hjl, hm]; rfl
  simp only [hgm, hs]
  rw [said_netOf, hj, Int.toNat_natCast]

theorem deleted {w5 w6 : World} {B g2 n1 C3 : Nat} {A3 : Option Addr} {net1 : List MesV} {xs : List Value} {nv ov : Value} (hb : w5.heap[B]? = some (.cells #[nv, ov] 55 (0, 0))) (o1 : w5.ownsRow 0 25 11 nv n1 xs) (q1 : ∀ g, nv.ownBlock = some g → B + 3 ≤ g ∧ g ≠ g2)
    (o3 : w6.ownsRow 0 38 9 (.slice A3 net1.length C3) net1.length (net1.flatMap mesCells)) (hv : (Value.slice A3 net1.length C3).ownBlock = some g2) (k6 : Keeps (fun k => k = g2) w5 w6) (h2 : B + 3 ≤ g2) :
    ∃ w7, w6.setCell ⟨B, 1, none⟩ (.slice A3 net1.length C3) = w7 ∧ w7.heap[B]? = some (.cells #[nv, .slice A3 net1.length C3] 55 (0, 0)) ∧ w7.ownsRow 0 25 11 nv n1 xs ∧
      w7.ownsRow 0 38 9 (.slice A3 net1.length C3) net1.length (net1.flatMap mesCells) ∧ Keeps (fun k => k = B ∨ k = g2) w5 w7 := by
  have hb6 := (k6.block B (laid_lt hb) (fun e => by omega)).trans hb
  refine ⟨_, rfl, ?_, ?_, own_set o3 _ (fun e => by rw [hv] at e; injection e with e; omega), ?_⟩
  · rw [setCell_blk hb6]; rfl
  · exact own_set (own_keep o1 fun g hg => k6.block g (own_lt o1 hg) fun e => (q1 g hg).2 e) _ (fun e => by have := (q1 _ e).1; omega)
  · exact (k6.mono (S' := fun k => k = B ∨ k = g2) fun k e => .inl (.inr e)).setCell (p := ⟨B, 1, none⟩) (.inl (.inl rfl)) _

/-- Nine cells. -/
theorem mes9 {w : World} {b : Nat} {t : TypeId} {v0 v1 v2 v3 v4 v5 v6 v7 v8 : Value} (h : w.heap[b]? = some (.cells #[v0, v1, v2, v3, v4, v5, v6, v7, v8] t (0, 0))) :
    w.cell? ⟨b, 0, none⟩ = some v0 ∧ w.cell? ⟨b, 1, none⟩ = some v1 ∧ w.cell? ⟨b, 2, none⟩ = some v2 ∧ w.cell? ⟨b, 3, none⟩ = some v3 ∧ w.cell? ⟨b, 4, none⟩ = some v4 ∧ w.cell? ⟨b, 5, none⟩ = some v5 ∧
      w.cell? ⟨b, 6, none⟩ = some v6 ∧ w.cell? ⟨b, 7, none⟩ = some v7 ∧ w.cell? ⟨b, 8, none⟩ = some v8 :=
  ⟨cell_of_row w b 0 _ _ _ h, cell_of_row w b 1 _ _ _ h, cell_of_row w b 2 _ _ _ h, cell_of_row w b 3 _ _ _ h, cell_of_row w b 4 _ _ _ h, cell_of_row w b 5 _ _ _ h, cell_of_row w b 6 _ _ _ h, cell_of_row w b 7 _ _ _ h, cell_of_row w b 8 _ _ _ h⟩

theorem run_none {w : World} {base : Nat} {t ty e : TypeId} {i : TypeInfo} {size : Nat} (ht : Try.prog.underlying t = some (.slice e)) (hi : Try.prog.info? e = some i) {v : Value} {n : Nat} {xs : List Value} (hown : w.ownsRow base e size v n xs) (c : Nat) :
    (Builtin.append_ #[t, t] ty #[v, .slice none 0 c]).run Try.prog w = .ok v w := by
  rcases hown.2 with ⟨rfl, rfl⟩ | ⟨g, cap, cur, rfl, _, _, hnc, _⟩
  · simp [Builtin.append_, run_underlying ht, sizeOf, typeInfo, hi, Builtin.lenOf, Builtin.firstCells]
  · simp [Builtin.append_, run_underlying ht, sizeOf, typeInfo, hi, Builtin.lenOf, Builtin.firstCells, hnc, storeCells]

/-- A step near its end: all that is written lies in blocks of S. -/
structure Tail (w : World) (Q S : Nat → Prop) (B : Nat) (W : WldV) : Prop where
  blk : w.heap[B]? = some (.cells #[W.nv, W.ov] 55 (0, 0))
  nodes : w.ownsRow 0 25 11 W.nv W.nodes.length (W.nodes.flatMap nodCells)
  net : w.ownsRow 0 38 9 W.ov W.net.length (W.net.flatMap mesCells)
  each : ∀ x ∈ W.nodes, NodeOk w S x
  items : ∀ m ∈ W.net, MesOk w S m
  QS : ∀ k, Q k → S k
  Bl : ∀ k, Q k → k < B
  low : ∀ k, S k → Q k ∨ B ≤ k
  b0 : S B
  b2 : S (B + 2)
  nS : ∀ g, W.nv.ownBlock = some g → S g ∧ B + 3 ≤ g
  oS : ∀ g, W.ov.ownBlock = some g → S g ∧ B + 3 ≤ g

theorem Tail.ok {w : World} {Q S : Nat → Prop} {B : Nat} {W : WldV} (h : Tail w Q S B W) : WldOk w Q W :=
  ⟨Sl.of_own h.nodes fun g hg hq => by have := (h.nS g hg).2; have := h.Bl g hq; omega, fun x hx => (h.each x hx).into (Keeps.refl Free w) (fun _ _ h => h.elim) fun k _ hq => h.QS k hq,
    Sl.of_own h.net fun g hg hq => by have := (h.oS g hg).2; have := h.Bl g hq; omega, fun m hm => Sl.into (h.items m hm) (Keeps.refl Free w) (fun _ _ h => h.elim) fun k _ hq => h.QS k hq⟩

set_option maxRecDepth 100000 in
/-- What is said is put behind the messages. -/
theorem Stage.said {w : World} {Q : Nat → Prop} {B C : Nat} {nodes : List NodV} {net out : List MesV} {nv ov : Value} (h : Stage w Q B C B ⟨nodes, net, nv, ov⟩) (hC : B + 2 < C) (hn3 : ∀ g, nv.ownBlock = some g → B + 3 ≤ g) (ho3 : ∀ g, ov.ownBlock = some g → B + 3 ≤ g)
    {A : Option Addr} {c : Nat} (hmo : MsgsOk w (Apart Q B C) (.slice A out.length c) out) (hnm : net.length + out.length ≤ 10000) (ty : TypeId) :
    ∃ v' w', (Builtin.append_ #[28, 28] ty #[ov, .slice A out.length c]).run Try.prog w = .ok v' w' ∧ ∃ wz S, w'.setCell ⟨B, 1, none⟩ v' = wz ∧ Tail wz Q S B ⟨nodes, net ++ out, nv, v'⟩ ∧ Keeps (fun k => k = B ∨ ov.ownBlock = some k) w wz ∧ Keeps (fun k => ov.ownBlock = some k) w w' := by
  obtain ⟨i0, hi, hz, hsz, hby⟩ := info_parts Try.info38
  have hap : ∀ k, Q k → Apart Q B C k := fun k h => .inl h
  have hlow : ∀ k, Apart Q B C k → Q k ∨ B ≤ k := fun k h => h.imp id fun h => h.1
  cases A with
  | none =>
    have hm0 : out = [] := by
      obtain ⟨⟨A', m', c', e, hl, _, _, hc⟩, _⟩ := hmo
      rcases Nat.eq_zero_or_pos out.length with h0 | h0
      · exact List.eq_nil_of_length_eq_zero h0
      · obtain ⟨b, off, e', _⟩ := hc (by rw [mess_len]; omega)
        injection e with e1
        rw [← e1] at e'
        cases e'
    subst hm0
    have hk : Keeps (fun k => k = B) w (w.setCell ⟨B, 1, none⟩ ov) := (Keeps.refl (fun k => k = B) w).setCell (p := ⟨B, 1, none⟩) (.inl rfl) _
    have hst := h.net
    refine ⟨ov, w, run_none Try.underlying28 hi h.net c, _, Apart Q B C, rfl, ?_, hk.mono fun k e => .inl (.inl e), Keeps.refl _ w⟩
    exact { blk := by rw [setCell_blk h.blk]; rfl, nodes := own_set h.nodes _ fun e => by have := hn3 _ e; omega, net := by rw [List.append_nil]; exact own_set h.net _ fun e => by have := ho3 _ e; omega,
            each := fun x hx => (h.each x hx).into hk (fun k _ e => .inr ⟨by omega, by omega⟩) fun _ _ h => h, items := fun m hm => Sl.into (h.items m (by simpa using hm)) hk (fun k _ e => .inr ⟨by omega, by omega⟩) fun _ _ h => h,
            QS := hap, Bl := h.Bl, low := hlow, b0 := .inr ⟨Nat.le_refl _, by omega⟩, b2 := .inr ⟨by omega, hC⟩, nS := fun g hg => ⟨.inr (h.nB g hg), hn3 g hg⟩, oS := fun g hg => ⟨.inr (h.oB g hg), ho3 g hg⟩ }
  | some ad =>
    have hcell : ∀ j u, (out.flatMap mesCells)[j]? = some u → w.cell? (ad.add j) = some u := fun j u hj => by
      obtain ⟨⟨A', m', c', e, hl, _, _, hc⟩, _⟩ := hmo
      injection e with e1 e2 e3
      subst e1
      obtain ⟨b, off, e, _, hcell⟩ := hc (Nat.lt_of_le_of_lt (Nat.zero_le _) (List.getElem?_eq_some_iff.1 hj).1)
      injection e with e
      subst e
      rw [Addr.add_lit]
      exact hcell j u hj
    obtain ⟨v', w', hr, h2, h3, _, h5⟩ := run_append_own_at (P := Try.prog) (w := w) 0 28 ty 38 i0 _ 9 _ Try.underlying28 hi hz hsz hby rfl (by omega) ov net.length _ h.net ad out.length c _ (mess_len out) hcell (mess_one hmo.each) (by simp [maxLen]; omega) (by omega) (by omega)
    have hk : Keeps (fun k => ov.ownBlock = some k) w w' := ⟨h3.os, h3.tape, h3.output, h3.size, fun k hk hne => h3.block k hk fun e => hne e.symm⟩
    have hof : ∀ g, v'.ownBlock = some g → B + 3 ≤ g := fun g hg => by
      rcases h5 with h5 | h5
      · exact ho3 g (h5 ▸ hg)
      · rw [h5] at hg
        injection hg with hg
        have := h.Clt
        omega
    have hk2 : Keeps (fun k => k = B ∨ ov.ownBlock = some k) w (w'.setCell ⟨B, 1, none⟩ v') := (hk.mono fun k e => .inl (.inr e)).setCell (p := ⟨B, 1, none⟩) (.inl (.inl rfl)) _
    have hkS : ∀ k, (k = B ∨ ov.ownBlock = some k) → Apart Q B C k := fun k e => e.elim (fun e => .inr ⟨by omega, by omega⟩) fun e => .inr (h.oB k e)
    have hnew : ∀ k, k < w.heap.size → (Apart Q B C k ∨ v'.ownBlock = some k) → Apart Q B C k := fun k hk' e => e.elim id fun e => by
      rcases h5 with h5 | h5
      · exact .inr (h.oB k (h5 ▸ e))
      · rw [h5] at e
        injection e with e
        omega
    have hb' := (hk.block B (laid_lt h.blk) fun e => by have := ho3 _ e; omega).trans h.blk
    refine ⟨v', w', hr, _, fun k => Apart Q B C k ∨ v'.ownBlock = some k, rfl, ?_, hk2, hk⟩
    exact { blk := by rw [setCell_blk hb']; rfl, nodes := own_set (own_keep h.nodes fun g hg => hk.block g (own_lt h.nodes hg) fun e => own_ne h.nodes h.net (by decide) hg e) _ fun e => by have := hn3 _ e; omega,
            net := by rw [List.flatMap_append, List.length_append]; exact own_set h2 _ fun e => by have := hof _ e; omega,
            each := fun x hx => (h.each x hx).into hk2 (fun k _ e => hkS k e) hnew,
            items := fun m hm => (List.mem_append.1 hm).elim (fun hm => Sl.into (h.items m hm) hk2 (fun k _ e => hkS k e) hnew) fun hm => Sl.into (hmo.each m hm) hk2 (fun k _ e => hkS k e) hnew,
            QS := fun k hq => .inl (.inl hq), Bl := h.Bl, low := fun k e => e.elim (hlow k) fun e => .inr (by have := hof k e; omega), b0 := .inl (.inr ⟨Nat.le_refl _, by omega⟩), b2 := .inl (.inr ⟨by omega, hC⟩),
            nS := fun g hg => ⟨.inl (.inr (h.nB g hg)), hn3 g hg⟩, oS := fun g hg => ⟨.inr hg, hof g hg⟩ }

theorem Tail.cut {w w' : World} {Q S : Nat → Prop} {B : Nat} {nodes : List NodV} {net net1 : List MesV} {nv ov v' : Value} (h : Tail w Q S B ⟨nodes, net, nv, ov⟩) (o3 : w'.ownsRow 0 38 9 v' net1.length (net1.flatMap mesCells)) (hv : v'.ownBlock = ov.ownBlock) (hk : Keeps (fun k => ov.ownBlock = some k) w w') (hsub : ∀ m ∈ net1, m ∈ net) :
    ∃ wz, w'.setCell ⟨B, 1, none⟩ v' = wz ∧ Tail wz Q S B ⟨nodes, net1, nv, v'⟩ ∧ Keeps (fun k => k = B ∨ ov.ownBlock = some k) w wz := by
  have hk2 : Keeps (fun k => k = B ∨ ov.ownBlock = some k) w (w'.setCell ⟨B, 1, none⟩ v') := (hk.mono fun k e => .inl (.inr e)).setCell (p := ⟨B, 1, none⟩) (.inl (.inl rfl)) _
  have hkS : ∀ k, (k = B ∨ ov.ownBlock = some k) → S k := fun k e => e.elim (fun e => e ▸ h.b0) fun e => (h.oS k e).1
  have hb' := (hk.block B (laid_lt h.blk) fun e => by have := (h.oS _ e).2; omega).trans h.blk
  exact ⟨_, rfl, { blk := by rw [setCell_blk hb']; rfl, nodes := own_set (own_keep h.nodes fun g hg => hk.block g (own_lt h.nodes hg) fun e => own_ne h.nodes h.net (by decide) hg e) _ fun e => by have := (h.nS _ e).2; omega, net := own_set o3 _ fun e => by rw [hv] at e; have := (h.oS _ e).2; omega, each := fun x hx => (h.each x hx).into hk2 (fun k _ e => hkS k e) fun _ _ h => h, items := fun m hm => Sl.into (h.items m (hsub m hm)) hk2 (fun k _ e => hkS k e) fun _ _ h => h, QS := h.QS, Bl := h.Bl, low := h.low, b0 := h.b0, b2 := h.b2, nS := h.nS, oS := fun g hg => h.oS g (hv ▸ hg) }, hk2⟩

theorem Tail.done {w wf : World} {Q S : Nat → Prop} {B : Nat} {W : WldV} (h : Tail w Q S B W) (hf : Keeps (fun k => k = B + 2) w wf) : WldOk wf Q W := by
  have h2 : ∀ k, k = B + 2 → S k := fun k e => e ▸ h.b2
  exact Tail.ok { blk := (hf.block B (laid_lt h.blk) (by omega)).trans h.blk, nodes := own_keep h.nodes fun g hg => hf.block g (own_lt h.nodes hg) fun e => by have := (h.nS g hg).2; omega, net := own_keep h.net fun g hg => hf.block g (own_lt h.net hg) fun e => by have := (h.oS g hg).2; omega, each := fun x hx => (h.each x hx).into hf (fun k _ e => h2 k e) fun _ _ h => h, items := fun m hm => Sl.into (h.items m hm) hf (fun k _ e => h2 k e) fun _ _ h => h, QS := h.QS, Bl := h.Bl, low := h.low, b0 := h.b0, b2 := h.b2, nS := h.nS, oS := h.oS }

/-- An append whose end is known. -/
theorem wpList_append_run {P : Program} {w w' : World} {ops : Array Oper} {rest : List Oper} {o : Oper} {a : Act} {Q : Exit → Act → World → Prop} {v vx v' : Value} (hgd : o.guard = none) (s x : Operand) (t : TypeId)
    (ho : o.op = .call { callee := .builtin .append, args := #[s, x], argTypes := #[t, t] }) (hs : a.eval s = v) (hx : a.eval x = vx) (hr : (Builtin.append_ #[t, t] o.type #[v, vx]).run P w = .ok v' w')
    (h : wpList P ops Q rest (a.put o.dst v') w') : wpList P ops Q (o :: rest) a w := by
  refine wpList_plain hgd fun K hK => ?_
  unfold Oper.wp
  simp [execOp, ho, resolve, invoke, builtin, hs, hx, hr, Result.andThen]
  exact hK _ _ h

end Go.Proofs.Ytibjbpakbfodaaa
