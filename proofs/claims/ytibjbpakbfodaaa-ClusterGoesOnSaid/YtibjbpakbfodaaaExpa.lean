/- The package's functions Beat, Propose, Restart and Start, walked: what each hands back is what the plain model says. -/
import Derived.Test.YtibjbpakbfodaaaPlain
import Derived.Test.YtibjbpakbfodaaaTail
namespace Go.Proofs.Ytibjbpakbfodaaa
open Go.RowKit

/-- What a call that hands back a node and messages comes to. -/
def Hands (w : World) (Q : Nat → Prop) (y : Nod) (ms : List Mes) (e : Ending) (w' : World) : Prop :=
  ∃ x' ov out, e = .returned (.tuple #[.agg (nodCells x').toArray, ov]) ∧ x'.n = y ∧ said out = ms ∧ NodeOk w' Q x' ∧ MsgsOk w' Q ov out ∧ Keeps Free w w'

theorem two_boxes (w : World) (a b : Obj) : Keeps Free w ((w.alloc a).alloc b) ∧ ((w.alloc a).alloc b).heap[w.heap.size]? = some a ∧ ((w.alloc a).alloc b).heap[w.heap.size + 1]? = some b :=
  ⟨((Keeps.refl _ w).alloc a).alloc b, ((Keeps.refl Free (w.alloc a)).alloc b).blk (heap_alloc_new w a), heap_alloc2 w a b⟩

/-- A row of stores. -/
def sets (w : World) (r : Nat) : Nat → List Value → World
  | _, [] => w
  | k, v :: t => sets (w.setCell ⟨r, k, none⟩ v) r (k + 1) t

theorem sets_blk (r t : Nat) : ∀ (vs : List Value) (w : World) (k : Nat) (cs : Array Value), w.heap[r]? = some (.cells cs t (0, 0)) → k + vs.length = cs.size →
    (sets w r k vs).heap[r]? = some (.cells (cs.toList.take k ++ vs).toArray t (0, 0)) ∧ Keeps (fun j => j = r) w (sets w r k vs)
  | [], w, k, cs, h, hk => by
    refine ⟨?_, Keeps.refl _ w⟩
    unfold sets
    rw [h, List.append_nil, List.take_of_length_le (by simp at hk ⊢; omega)]
  | v :: vs, w, k, cs, h, hk => by
    simp only [List.length_cons] at hk
    obtain ⟨h1, h2⟩ := sets_blk r t vs (w.setCell ⟨r, k, none⟩ v) (k + 1) (cs.setIfInBounds k v) (setCell_blk h) (by simp; omega)
    refine ⟨?_, ((Keeps.refl (fun j => j = r) w).setCell (p := ⟨r, k, none⟩) (.inl rfl) v).trans h2 fun _ h => .inl h⟩
    unfold sets
    rw [h1]
    congr 2
    simp only [Array.toList_setIfInBounds]
    rw [List.take_succ_eq_append_getElem (by simp; omega), List.take_set_of_le (Nat.le_refl _)]
    simp


/-- The cells of a node that is nothing yet. -/
abbrev zero11 : Array Value := #[.int .i64 0, .int .i64 0, .int .i64 0, .int .i64 0, .slice none 0 0, .int .i64 0, .int .i64 0, .int .i64 0, .slice none 0 0, .slice none 0 0, .slice none 0 0]

theorem put11 {w : World} {r t : Nat} {cs : Array Value} {v0 v1 v2 v3 v4 v5 v6 v7 v8 v9 v10 : Value} (h : w.heap[r]? = some (.cells cs t (0, 0))) (hs : cs.size = 11) :
    ∃ w', sets w r 0 [v0, v1, v2, v3, v4, v5, v6, v7, v8, v9, v10] = w' ∧ w'.heap[r]? = some (.cells #[v0, v1, v2, v3, v4, v5, v6, v7, v8, v9, v10] t (0, 0)) ∧ Keeps (fun k => k = r) w w' := by
  obtain ⟨h1, h2⟩ := sets_blk r t [v0, v1, v2, v3, v4, v5, v6, v7, v8, v9, v10] w 0 cs h (by simp [hs])
  exact ⟨_, rfl, h1, h2⟩

/-- Items with terms do not lie in a node that is nothing yet. -/
theorem MesOk.off {w : World} {R : Nat} {m : MesV} (h : MesOk w Free m) (hz : w.heap[R]? = some (.cells zero11 25 (0, 0))) (ht : ∀ it ∈ m.m.items, 1 ≤ it.term) : MesOk w (fun k => k = R) m := by
  obtain ⟨A, len, cap, hv, hl, h1, h2, hc⟩ := h
  refine ⟨A, len, cap, hv, hl, h1, h2, fun hp => ?_⟩
  obtain ⟨b, off, rfl, _, hcell⟩ := hc hp
  refine ⟨b, off, rfl, ?_, hcell⟩
  rintro rfl
  cases hi : m.m.items with
  | nil => rw [hi] at hp; simp [itemCells] at hp
  | cons it t =>
    have h0 := hcell 0 (.int .i64 it.term) (by rw [hi]; rfl)
    have h1 := ht it (by rw [hi]; exact List.mem_cons_self ..)
    rw [Nat.add_zero, cell_of_row w b off _ _ _ hz] at h0
    have hm := List.mem_of_getElem? (by simpa using h0)
    simp at hm
    omega

theorem Peer.done {w w' : World} {S : Nat → Prop} {p R : Nat} {x : NodV} {ov : Value} {out : List MesV} (h : Peer w S p x ov out) (hR : ¬ S R) (hz : w.heap[R]? = some (.cells zero11 25 (0, 0))) (ht : ∀ m ∈ Go.Proofs.Ytibjbpakbfodaaa.said out, ∀ it ∈ m.items, 1 ≤ it.term)
    (hk : Keeps (fun k => k = R) w w') : NodeOk w' Free x ∧ MsgsOk w' Free ov out := by
  have hne : ∀ (g : Nat), S g → ¬ g = R := fun g hg e => hR (e ▸ hg)
  have hn : NodeOk w (fun k => k = R) x := ⟨Sl.of_own h.log fun g hg => hne g (h.lS g hg), Sl.of_own h.votes fun g hg => hne g (h.vS g hg), Sl.of_own h.next fun g hg => hne g (h.nS g hg), Sl.of_own h.mtch fun g hg => hne g (h.mS g hg)⟩
  have hm : MsgsOk w (fun k => k = R) ov out := ⟨Sl.of_own h.outs fun g hg => hne g (h.oS g hg), fun m hm => MesOk.off (Sl.into (S' := Free) (h.items m hm) (Keeps.refl S w) (fun _ _ h => h) fun _ _ h => h.elim) hz (ht m.m (List.mem_map_of_mem hm))⟩
  exact ⟨hn.into hk (fun _ _ h => h) (fun _ _ h => h.elim), hm.into hk (fun _ _ h => h) (fun _ _ h => h.elim)⟩

theorem MesOk.both {w : World} {S S' : Nat → Prop} {m : MesV} (h : MesOk w S m) (h' : ∀ g, m.iv.ownBlock = some g → ¬ S' g) : MesOk w (fun k => S k ∨ S' k) m := by
  obtain ⟨A, len, cap, hv, hl, h1, h2, hc⟩ := h
  refine ⟨A, len, cap, hv, hl, h1, h2, fun hp => ?_⟩
  obtain ⟨b, off, rfl, hb, hcell⟩ := hc hp
  exact ⟨b, off, rfl, fun hs => hs.elim hb (h' b (by rw [hv]; rfl)), hcell⟩

/-- The same, of any blocks older than those of the node at work. -/
theorem Peer.doneQ {w w' : World} {S Q : Nat → Prop} {p R B : Nat} {x : NodV} {ov : Value} {out : List MesV} (h : Peer w S p x ov out) (hl : ∀ k, S k → B ≤ k) (hQ : ∀ k, Q k → k < B) (hR : ¬ S R) (hz : w.heap[R]? = some (.cells zero11 25 (0, 0)))
    (ht : ∀ m ∈ Go.Proofs.Ytibjbpakbfodaaa.said out, ∀ it ∈ m.items, 1 ≤ it.term) (hk : Keeps (fun k => k = R) w w') : NodeOk w' Q x ∧ MsgsOk w' Q ov out := by
  have hne : ∀ (g : Nat), S g → ¬ (g = R ∨ Q g) := fun g hg e => e.elim (fun e => hR (e ▸ hg)) fun e => by have := hQ g e; have := hl g hg; omega
  have hn : NodeOk w (fun k => k = R ∨ Q k) x := ⟨Sl.of_own h.log fun g hg => hne g (h.lS g hg), Sl.of_own h.votes fun g hg => hne g (h.vS g hg), Sl.of_own h.next fun g hg => hne g (h.nS g hg), Sl.of_own h.mtch fun g hg => hne g (h.mS g hg)⟩
  have hm : MsgsOk w (fun k => k = R ∨ Q k) ov out := ⟨Sl.of_own h.outs fun g hg => hne g (h.oS g hg), fun m hm =>
    (MesOk.off (Sl.into (S' := Free) (h.items m hm) (Keeps.refl S w) (fun _ _ h => h) fun _ _ h => h.elim) hz (ht m.m (List.mem_map_of_mem hm))).both fun g hg hq => by
      have := h.late m hm g hg; have := hQ g hq; have := hl p h.pS; omega⟩
  exact ⟨hn.into hk (fun _ _ h => .inl h) (fun _ _ h => .inr h), hm.into hk (fun _ _ h => .inl h) (fun _ _ h => .inr h)⟩

/-- The cells of a node at work. -/
theorem Peer.cells12 {w : World} {S : Nat → Prop} {p : Nat} {x : NodV} {ov : Value} {out : List MesV} (h : Peer w S p x ov out) : w.heap[p]? = some (.cells #[.int .i64 x.n.id, .int .i64 x.n.n, .int .i64 x.n.term, .int .i64 x.n.vote, x.lv, .int .i64 x.n.commit, .int .i64 x.n.role, .int .i64 x.n.boss, x.vv, x.nv, x.mv, ov] 79 (0, 0)) := h.blk

theorem cells12 {w : World} {b : Nat} {t : TypeId} {v0 v1 v2 v3 v4 v5 v6 v7 v8 v9 v10 v11 : Value} (h : w.heap[b]? = some (.cells #[v0, v1, v2, v3, v4, v5, v6, v7, v8, v9, v10, v11] t (0, 0))) :
    w.cell? ⟨b, 0, none⟩ = some v0 ∧ w.cell? ⟨b, 1, none⟩ = some v1 ∧ w.cell? ⟨b, 2, none⟩ = some v2 ∧ w.cell? ⟨b, 3, none⟩ = some v3 ∧ w.cell? ⟨b, 4, none⟩ = some v4 ∧ w.cell? ⟨b, 5, none⟩ = some v5 ∧
      w.cell? ⟨b, 6, none⟩ = some v6 ∧ w.cell? ⟨b, 7, none⟩ = some v7 ∧ w.cell? ⟨b, 8, none⟩ = some v8 ∧ w.cell? ⟨b, 9, none⟩ = some v9 ∧ w.cell? ⟨b, 10, none⟩ = some v10 ∧ w.cell? ⟨b, 11, none⟩ = some v11 ∧ ∀ k, w.frozen? ⟨b, k, none⟩ = false :=
  ⟨cell_of_row w b 0 _ _ _ h, cell_of_row w b 1 _ _ _ h, cell_of_row w b 2 _ _ _ h, cell_of_row w b 3 _ _ _ h, cell_of_row w b 4 _ _ _ h, cell_of_row w b 5 _ _ _ h, cell_of_row w b 6 _ _ _ h, cell_of_row w b 7 _ _ _ h, cell_of_row w b 8 _ _ _ h, cell_of_row w b 9 _ _ _ h,
    cell_of_row w b 10 _ _ _ h, cell_of_row w b 11 _ _ _ h, fun k => frozen_of_row w b k _ _ h⟩

/-- The lists of a node at work lie neither in its own block nor in one that is not its own. -/
theorem Peer.nodeQ {w : World} {S Q : Nat → Prop} {p : Nat} {x : NodV} {ov : Value} {out : List MesV} (h : Peer w S p x ov out) (hQ : ∀ k, Q k → k = p ∨ ¬ S k) : NodeOk w Q x :=
  ⟨Sl.of_own h.log fun g hg hq => (hQ g hq).elim (fun e => h.log_ne (e ▸ hg)) fun hn => hn (h.lS g hg), Sl.of_own h.votes fun g hg hq => (hQ g hq).elim (fun e => h.votes_ne (e ▸ hg)) fun hn => hn (h.vS g hg),
    Sl.of_own h.next fun g hg hq => (hQ g hq).elim (fun e => h.next_ne (e ▸ hg)) fun hn => hn (h.nS g hg), Sl.of_own h.mtch fun g hg hq => (hQ g hq).elim (fun e => h.mtch_ne (e ▸ hg)) fun hn => hn (h.mS g hg)⟩

theorem Good.sends_terms {x : Nod} (h : Good x) {k : Int} {it : Itm} (hit : it ∈ (sends x k).items) : 1 ≤ it.term :=
  (((rising_iff _ _).1 h.rise).2 it (List.mem_of_mem_drop (List.mem_of_mem_take hit))).1

set_option maxRecDepth 100000 in
set_option maxHeartbeats 8000000 in
theorem beat_any {w : World} {Q : Nat → Prop} {x : NodV} (h0 : NodeOk w Q x) (hQ : ∀ k, Q k → k < w.heap.size) :
    Calls Try.prog 24 #[.agg (nodCells x).toArray] w (Hands w Q (beat x.n).1 (beat x.n).2) := by
  have HN0 := Lib.hid h0
  have HQQ := Lib.hid hQ
  have h : NodeOk w Free x := h0.into (Keeps.refl Free w) (fun _ _ h => h.elim) (fun _ _ h => h.elim)
  clear h0 hQ
  have hwr : ∀ w1, Keeps Free w w1 → Calls Try.prog 18 #[.agg (nodCells x).toArray] w1 fun e w' => e = .returned (.int .i64 (wrong x.n)) ∧ Keeps Free w1 w' := fun w1 hk => wrong_any (h.into hk (fun _ _ h => h) (fun _ _ h => h))
  have HW := Lib.hid hwr
  have H := Lib.hid h
  obtain ⟨n, lv, vv, nv, mv⟩ := x
  obtain ⟨⟨LA, LL, LC, rfl, _⟩, ⟨VA, VL, VC, rfl, _⟩, ⟨NA, NL, NC, rfl, _⟩, ⟨MA, ML, MC, rfl, _⟩⟩ := h
  simp only [nodCells] at HW
  simp only [nodCells]
  clear hwr
  go_enter Try.func24, Try.ntmps24
  go_wp2_with fail
  obtain ⟨k0, k1, k2⟩ := two_boxes w (.cells #[.int .i64 n.id, .int .i64 n.n, .int .i64 n.term, .int .i64 n.vote, .slice LA LL LC, .int .i64 n.commit, .int .i64 n.role, .int .i64 n.boss, .slice VA VL VC, .slice NA NL NC, .slice MA ML MC] 25)
    (.cells zero11 25)
  refine (HW.out _ k0).mono ?_
  rintro e w3 ⟨rfl, hk3⟩
  have hkk := k0.trans hk3 (fun _ h => .inl h)
  have hb1 := hk3.blk k1
  have hb2 := hk3.blk k2
  have HK := Lib.hid hkk
  clear k0 k1 k2 hk3
  have hlt : w.heap.size + 1 < w3.heap.size := (Array.getElem?_eq_some_iff.1 hb2).1
  generalize hB : w.heap.size = B at *
  obtain ⟨b0, b1, b2, b3, b4, b5, b6, b7, b8, b9, b10, bf⟩ := cells11 hb1
  obtain ⟨r0, r1, r2, r3, r4, r5, r6, r7, r8, r9, r10, rf⟩ := cells11 hb2
  cases hq : (wrong n != 0) || (n.role != 3)
  case true =>
    have hc : wrong n ≠ 0 ∨ n.role ≠ 3 := by simpa using hq
    have hbt : beat n = (n, []) := by unfold beat; rw [if_pos hc]
    have fin : ∀ (w' : World), Keeps (fun k => k = B + 1) w3 w' → Hands w Q (beat n).1 (beat n).2 (.returned (.tuple #[.agg #[.int .i64 n.id, .int .i64 n.n, .int .i64 n.term, .int .i64 n.vote, .slice LA LL LC, .int .i64 n.commit, .int .i64 n.role, .int .i64 n.boss, .slice VA VL VC, .slice NA NL NC, .slice MA ML MC], .slice none 0 0])) w' := fun w' hk => by
      have hkw := HK.out.trans hk fun k hk => .inr (by omega)
      rw [hbt]
      exact ⟨_, _, [], rfl, rfl, rfl, HN0.out.into hkw (fun _ _ h => h.elim) (fun _ _ h => h), noMsgs _ _, hkw⟩
    obtain ⟨wf, hwf, hfb, hfk⟩ := put11 (v0 := .int .i64 n.id) (v1 := .int .i64 n.n) (v2 := .int .i64 n.term) (v3 := .int .i64 n.vote) (v4 := .slice LA LL LC) (v5 := .int .i64 n.commit) (v6 := .int .i64 n.role) (v7 := .int .i64 n.boss)
      (v8 := .slice VA VL VC) (v9 := .slice NA NL NC) (v10 := .slice MA ML MC) hb2 rfl
    simp only [sets] at hwf
    obtain ⟨q0, q1, q2, q3, q4, q5, q6, q7, q8, q9, q10, qf⟩ := cells11 hfb
    have FIN := Lib.hid fin
    clear fin hbt hc
    cases hq1 : (wrong n != 0)
    case true =>
      clear hq
      go_wp2_with fail
      refine bodyPost_ret (v := .tuple #[.agg #[.int .i64 n.id, .int .i64 n.n, .int .i64 n.term, .int .i64 n.vote, .slice LA LL LC, .int .i64 n.commit, .int .i64 n.role, .int .i64 n.boss, .slice VA VL VC, .slice NA NL NC, .slice MA ML MC], .slice none 0 0]) (by simp [results, Try.results24, go_sem, q0, q1, q2, q3, q4, q5, q6, q7, q8, q9, q10]) rfl ?_
      exact FIN.out _ hfk
    case false =>
      have hq2 : (n.role != 3) = true := by rw [hq1] at hq; exact hq
      clear hq
      go_wp2_with fail
      refine bodyPost_ret (v := .tuple #[.agg #[.int .i64 n.id, .int .i64 n.n, .int .i64 n.term, .int .i64 n.vote, .slice LA LL LC, .int .i64 n.commit, .int .i64 n.role, .int .i64 n.boss, .slice VA VL VC, .slice NA NL NC, .slice MA ML MC], .slice none 0 0]) (by simp [results, Try.results24, go_sem, q0, q1, q2, q3, q4, q5, q6, q7, q8, q9, q10]) rfl ?_
      exact FIN.out _ hfk
  case false => 
    have hw0 : wrong n = 0 := by simp at hq; exact hq.1
    have hr3 : n.role = 3 := by simp at hq; exact hq.2
    have hb : (wrong n != 0) = false := by rw [hw0]; rfl
    have hb' : (n.role != 3) = false := by rw [hr3]; rfl
    have g := good_of_wrong hw0
    obtain ⟨hf, _⟩ := g.fit hr3
    have hbg := begin_any (H.out.into HK.out (fun _ _ h => h) (fun _ _ h => h)) g.log60 (Nat.le_trans g.votes_len (by omega)) (Nat.le_trans g.next_len (by omega)) (Nat.le_trans g.mtch_len (by omega))
    simp only [nodCells, hr3] at hbg
    have HF := Lib.hid hf; have HG := Lib.hid g; have HBG := Lib.hid hbg
    clear hf g hbg
    go_wp2_with fail
    refine HBG.out.mono ?_
    rintro e w4 ⟨p, x4, S4, rfl, hp, hx4, hk4, hS4⟩
    clear b0 b1 b2 b3 b4 b5 b6 b7 b8 b9 b10 bf r0 r1 r2 r3 r4 r5 r6 r7 r8 r9 r10 rf hb1 HW HBG
    have hn4 : x4.n = n := hx4
    have hsa := sendAll_any hp (N := n.n.toNat) (by rw [hn4]; exact HF.out.n) HF.out.n5 (by rw [hn4]; exact HF.out.nl) (by rw [hn4]; exact HF.out.nq) (by rw [hn4]; exact HF.out.log) (by simp)
    have HP := Lib.hid hp; have HK4 := Lib.hid (HK.out.trans hk4 (fun _ h => .inl h))
    have hz4 := hk4.blk hb2
    have hR4 : ¬ S4 (B + 1) := fun h => by have := hS4 _ h; omega
    have HS4 := Lib.hid hS4
    have HN4 := Lib.hid hn4
    clear hp hk4 hx4 hb2 hS4 hn4
    go_wp2_with fail
    refine hsa.mono ?_
    rintro e w5 ⟨rfl, S5, ov5, ms, hp5, hs5, hk5, hS5⟩
    have hz5 := (hk5.block (B + 1) (Array.getElem?_eq_some_iff.1 hz4).1 hR4).trans hz4
    have hR5 : ¬ S5 (B + 1) := fun h => (hS5 _ h).elim hR4 fun h => by have := (Array.getElem?_eq_some_iff.1 hz4).1; omega
    have HL5 : Hid (∀ k, S5 k → B ≤ k) := Lib.hid fun k hk => (hS5 _ hk).elim (fun h => by have := HS4.out _ h; omega) fun h => by have := (Array.getElem?_eq_some_iff.1 hz4).1; omega
    have HK5 := Lib.hid (HK4.out.trans hk5 fun k hk => .inr (Nat.le_trans HK.out.size (HS4.out k hk)))
    obtain ⟨r0, r1, r2, r3, r4, r5, r6, r7, r8, r9, r10, rf⟩ := cells11 hz5
    obtain ⟨LA, LC, VA, VC, NA, NC, MA, MC, OA, OC, e1, e2, e3, e4, e5, c0, c1, c2, c3, c4, c5, c6, c7, c8, c9, c10, c11, cf, hpl⟩ := hp5.open_
    have HP5 := Lib.hid hp5; have HS := Lib.hid hs5
    have hne : p ≠ B + 1 := fun e => hR5 (e ▸ hp5.pS)
    clear hp5 hs5 hk5 hS5 hsa hz4 hR4
    go_upto_region 5 with fail
    clear H hq hb hb' hkk
    go_region
    go_wp2_with fail
    obtain ⟨wf, hwf, hfb, hfk⟩ := put11 (v0 := .int .i64 x4.n.id) (v1 := .int .i64 x4.n.n) (v2 := .int .i64 x4.n.term) (v3 := .int .i64 x4.n.vote) (v4 := .slice LA x4.n.log.length LC) (v5 := .int .i64 x4.n.commit) (v6 := .int .i64 x4.n.role) (v7 := .int .i64 x4.n.boss)
      (v8 := .slice VA x4.n.votes.length VC) (v9 := .slice NA x4.n.next.length NC) (v10 := .slice MA x4.n.mtch.length MC) hz5 rfl
    simp only [sets] at hwf
    rw [hwf]
    obtain ⟨q0, q1, q2, q3, q4, q5, q6, q7, q8, q9, q10, qf⟩ := cells11 hfb
    have hb : beat n = (n, (others n).map (sends n)) := by unfold beat; rw [if_neg (by omega)]
    have hd := HP5.out.doneQ HL5.out HQQ.out hR5 hz5 (by
      rw [List.nil_append, HS.out, HN4.out]
      intro m hm it hit
      obtain ⟨k, _, rfl⟩ := List.mem_map.1 hm
      exact HG.out.sends_terms hit) hfk
    refine bodyPost_ret (v := .tuple #[.agg (nodCells x4).toArray, ov5]) (by simp [results, Try.results24, go_sem, nodCells, q0, q1, q2, q3, q4, q5, q6, q7, q8, q9, q10, e1, e2, e3, e4, e5]) rfl ?_
    exact ⟨x4, ov5, ms, rfl, by rw [HN4.out, hb], by rw [HS.out, HN4.out, hb], hd.1.into (Keeps.refl Free wf).drew (fun _ _ h => h.elim) (fun _ _ h => h), hd.2.into (Keeps.refl Free wf).drew (fun _ _ h => h.elim) (fun _ _ h => h), (HK5.out.trans hfk fun k hk => .inr (by omega)).drew⟩
set_option maxRecDepth 100000 in
set_option maxHeartbeats 8000000 in
theorem propose_any {w : World} {Q : Nat → Prop} {x : NodV} (h0 : NodeOk w Q x) (hQ : ∀ k, Q k → k < w.heap.size) (cmd : Int) :
    Calls Try.prog 26 #[.agg (nodCells x).toArray, .int .i64 cmd] w (fun e w' => ∃ x' ov out, e = .returned (.tuple #[.agg (nodCells x').toArray, ov, .bool (propose x.n cmd).2.2]) ∧ x'.n = (propose x.n cmd).1 ∧ said out = (propose x.n cmd).2.1 ∧ NodeOk w' Q x' ∧ MsgsOk w' Q ov out ∧ Keeps Free w w') := by
  have HN0 := Lib.hid h0
  have HQQ := Lib.hid hQ
  have h : NodeOk w Free x := h0.into (Keeps.refl Free w) (fun _ _ h => h.elim) (fun _ _ h => h.elim)
  clear h0 hQ
  have hwr : ∀ w1, Keeps Free w w1 → Calls Try.prog 18 #[.agg (nodCells x).toArray] w1 fun e w' => e = .returned (.int .i64 (wrong x.n)) ∧ Keeps Free w1 w' := fun w1 hk => wrong_any (h.into hk (fun _ _ h => h) (fun _ _ h => h))
  have HW := Lib.hid hwr
  have H := Lib.hid h
  obtain ⟨n, lv, vv, nv, mv⟩ := x
  obtain ⟨⟨LA, LL, LC, rfl, hll, _⟩, ⟨VA, VL, VC, rfl, _⟩, ⟨NA, NL, NC, rfl, _⟩, ⟨MA, ML, MC, rfl, _⟩⟩ := h
  simp only [nodCells] at HW
  simp only [nodCells]
  obtain rfl : LL = n.log.length := by rw [itemCells_length] at hll; simp only at hll; omega
  clear hwr hll
  go_enter Try.func26, Try.ntmps26
  go_wp2_with fail
  obtain ⟨k0, k1, k2⟩ := two_boxes w (.cells #[.int .i64 n.id, .int .i64 n.n, .int .i64 n.term, .int .i64 n.vote, .slice LA n.log.length LC, .int .i64 n.commit, .int .i64 n.role, .int .i64 n.boss, .slice VA VL VC, .slice NA NL NC, .slice MA ML MC] 25) (.cells zero11 25)
  refine (HW.out _ k0).mono ?_
  rintro e w3 ⟨rfl, hk3⟩
  have hkk := k0.trans hk3 (fun _ h => .inl h)
  have hb1 := hk3.blk k1
  have hb2 := hk3.blk k2
  have HK := Lib.hid hkk
  clear k0 k1 k2 hk3 hkk
  have hlt : w.heap.size + 1 < w3.heap.size := (Array.getElem?_eq_some_iff.1 hb2).1
  generalize hB : w.heap.size = B at *
  obtain ⟨b0, b1, b2, b3, b4, b5, b6, b7, b8, b9, b10, bf⟩ := cells11 hb1
  obtain ⟨r0, r1, r2, r3, r4, r5, r6, r7, r8, r9, r10, rf⟩ := cells11 hb2
  cases hq : (wrong n != 0) || (n.role != 3) || decide (60 ≤ (n.log.length : Int))
  case true =>
    have hc : wrong n ≠ 0 ∨ n.role ≠ 3 ∨ 60 ≤ n.log.length := by
      simp only [Bool.or_eq_true, bne_iff_ne, decide_eq_true_eq] at hq; omega
    have hbt : propose n cmd = (n, [], false) := by unfold propose; rw [if_pos hc]
    have fin : ∀ (w' : World), Keeps (fun k => k = B + 1) w3 w' → (fun (e : Ending) (w' : World) => ∃ x' ov out, e = .returned (.tuple #[.agg (nodCells x').toArray, ov, .bool (propose n cmd).2.2]) ∧ x'.n = (propose n cmd).1 ∧ said out = (propose n cmd).2.1 ∧ NodeOk w' Q x' ∧ MsgsOk w' Q ov out ∧ Keeps Free w w') (.returned (.tuple #[.agg #[.int .i64 n.id, .int .i64 n.n, .int .i64 n.term, .int .i64 n.vote, .slice LA n.log.length LC, .int .i64 n.commit, .int .i64 n.role, .int .i64 n.boss, .slice VA VL VC, .slice NA NL NC, .slice MA ML MC], .slice none 0 0, .bool false])) w' := fun w' hk => by
      have hkw := HK.out.trans hk fun k hk => .inr (by omega)
      rw [hbt]
      exact ⟨⟨n, .slice LA n.log.length LC, .slice VA VL VC, .slice NA NL NC, .slice MA ML MC⟩, .slice none 0 0, [], rfl, rfl, rfl, HN0.out.into hkw (fun _ _ h => h.elim) (fun _ _ h => h), noMsgs _ _, hkw⟩
    obtain ⟨wf, hwf, hfb, hfk⟩ := put11 (v0 := .int .i64 n.id) (v1 := .int .i64 n.n) (v2 := .int .i64 n.term) (v3 := .int .i64 n.vote) (v4 := .slice LA n.log.length LC) (v5 := .int .i64 n.commit) (v6 := .int .i64 n.role) (v7 := .int .i64 n.boss) (v8 := .slice VA VL VC) (v9 := .slice NA NL NC) (v10 := .slice MA ML MC) hb2 rfl
    simp only [sets] at hwf
    obtain ⟨q0, q1, q2, q3, q4, q5, q6, q7, q8, q9, q10, qf⟩ := cells11 hfb
    have FIN := Lib.hid fin
    clear fin hbt hc
    cases hq1 : (wrong n != 0)
    case true =>
      clear hq
      go_wp2_with fail
      refine bodyPost_ret (v := (.tuple #[.agg #[.int .i64 n.id, .int .i64 n.n, .int .i64 n.term, .int .i64 n.vote, .slice LA n.log.length LC, .int .i64 n.commit, .int .i64 n.role, .int .i64 n.boss, .slice VA VL VC, .slice NA NL NC, .slice MA ML MC], .slice none 0 0, .bool false])) (by simp [results, Try.results26, go_sem, q0, q1, q2, q3, q4, q5, q6, q7, q8, q9, q10]) rfl ?_
      exact FIN.out _ hfk
    case false =>
      cases hq2 : (n.role != 3)
      case true =>
        clear hq
        go_wp2_with fail
        refine bodyPost_ret (v := (.tuple #[.agg #[.int .i64 n.id, .int .i64 n.n, .int .i64 n.term, .int .i64 n.vote, .slice LA n.log.length LC, .int .i64 n.commit, .int .i64 n.role, .int .i64 n.boss, .slice VA VL VC, .slice NA NL NC, .slice MA ML MC], .slice none 0 0, .bool false])) (by simp [results, Try.results26, go_sem, q0, q1, q2, q3, q4, q5, q6, q7, q8, q9, q10]) rfl ?_
        exact FIN.out _ hfk
      case false =>
        have hq3 : decide (60 ≤ (n.log.length : Int)) = true := by rw [hq1, hq2] at hq; exact hq
        clear hq
        go_wp2_with fail
        refine bodyPost_ret (v := (.tuple #[.agg #[.int .i64 n.id, .int .i64 n.n, .int .i64 n.term, .int .i64 n.vote, .slice LA n.log.length LC, .int .i64 n.commit, .int .i64 n.role, .int .i64 n.boss, .slice VA VL VC, .slice NA NL NC, .slice MA ML MC], .slice none 0 0, .bool false])) (by simp [results, Try.results26, go_sem, q0, q1, q2, q3, q4, q5, q6, q7, q8, q9, q10]) rfl ?_
        exact FIN.out _ hfk
  case false =>
    simp only [Bool.or_eq_false_iff, bne_eq_false_iff_eq, decide_eq_false_iff_not] at hq
    have hw0 : wrong n = 0 := hq.1.1
    have hr3 : n.role = 3 := hq.1.2
    have hl3 : decide (60 ≤ (n.log.length : Int)) = false := by rw [decide_eq_false_iff_not]; exact hq.2
    have hl60 : n.log.length < 60 := by omega
    clear hq
    have hb : (wrong n != 0) = false := by rw [hw0]; rfl
    have hb' : (n.role != 3) = false := by rw [hr3]; rfl
    have g := good_of_wrong hw0
    have hbg := begin_any (H.out.into HK.out (fun _ _ h => h) (fun _ _ h => h)) g.log60 (Nat.le_trans g.votes_len (by omega)) (Nat.le_trans g.next_len (by omega)) (Nat.le_trans g.mtch_len (by omega))
    simp only [nodCells, hr3] at hbg
    have HG := Lib.hid g; have HBG := Lib.hid hbg
    clear g hbg
    go_wp2_with fail
    refine HBG.out.mono ?_
    rintro e w4 ⟨p, x4, S4, rfl, hp, hx4, hk4, hS4⟩
    clear b0 b1 b2 b3 b4 b5 b6 b7 b8 b9 b10 bf r0 r1 r2 r3 r4 r5 r6 r7 r8 r9 r10 rf hb1 HW HBG
    have hn4 : x4.n = n := hx4
    have HP := Lib.hid hp; have HK4 := Lib.hid (HK.out.trans hk4 (fun _ h => .inl h))
    have hz4 := hk4.blk hb2
    have hR4 : ¬ S4 (B + 1) := fun h => by have := hS4 _ h; omega
    have HS4 := Lib.hid hS4
    have HN4 := Lib.hid hn4
    obtain ⟨hf, _⟩ := HG.out.fit hr3
    have hsa := put_any hp (N := n.n.toNat) (by rw [hn4]; exact hf) cmd (by simp)
    clear hp hk4 hx4 hb2 hS4 hn4 hf hl3
    go_wp2_with fail
    refine hsa.mono ?_
    rintro e w5 ⟨rfl, S5, x5, ov5, ms, hp5, hx5, hs5, hk5, hS5⟩
    have hz5 := (hk5.block (B + 1) (Array.getElem?_eq_some_iff.1 hz4).1 hR4).trans hz4
    have hR5 : ¬ S5 (B + 1) := fun h => (hS5 _ h).elim hR4 fun h => by have := (Array.getElem?_eq_some_iff.1 hz4).1; omega
    have HL5 : Hid (∀ k, S5 k → B ≤ k) := Lib.hid fun k hk => (hS5 _ hk).elim (fun h => by have := HS4.out _ h; omega) fun h => by have := (Array.getElem?_eq_some_iff.1 hz4).1; omega
    have HK5 := Lib.hid (HK4.out.trans hk5 fun k hk => .inr (Nat.le_trans HK.out.size (HS4.out k hk)))
    obtain ⟨r0, r1, r2, r3, r4, r5, r6, r7, r8, r9, r10, rf⟩ := cells11 hz5
    obtain ⟨LA, LC, VA, VC, NA, NC, MA, MC, OA, OC, e1, e2, e3, e4, e5, c0, c1, c2, c3, c4, c5, c6, c7, c8, c9, c10, c11, cf, hpl⟩ := hp5.open_
    have HP5 := Lib.hid hp5; have HS := Lib.hid hs5; have HX5 := Lib.hid hx5
    have hne : p ≠ B + 1 := fun e => hR5 (e ▸ hp5.pS)
    clear hp5 hs5 hk5 hS5 hsa hz4 hR4 hb hb' hx5
    go_upto_region 5 with fail
    clear H
    go_region
    go_wp2_with fail
    obtain ⟨wf, hwf, hfb, hfk⟩ := put11 (v0 := .int .i64 x5.n.id) (v1 := .int .i64 x5.n.n) (v2 := .int .i64 x5.n.term) (v3 := .int .i64 x5.n.vote) (v4 := .slice LA x5.n.log.length LC) (v5 := .int .i64 x5.n.commit) (v6 := .int .i64 x5.n.role) (v7 := .int .i64 x5.n.boss) (v8 := .slice VA x5.n.votes.length VC) (v9 := .slice NA x5.n.next.length NC) (v10 := .slice MA x5.n.mtch.length MC) hz5 rfl
    simp only [sets] at hwf
    rw [hwf]
    obtain ⟨q0, q1, q2, q3, q4, q5, q6, q7, q8, q9, q10, qf⟩ := cells11 hfb
    have hbp : propose n cmd = (put n cmd, putSays n cmd, true) := by unfold propose; rw [if_neg (by omega)]
    have hd := HP5.out.doneQ HL5.out HQQ.out hR5 hz5 (by
      rw [List.nil_append, HS.out, HN4.out]
      intro m hm it hit
      obtain ⟨k, _, rfl⟩ := List.mem_map.1 hm
      exact (put_good cmd HG.out (HG.out.fresh (by omega))).sends_terms hit) hfk
    refine bodyPost_ret (v := .tuple #[.agg (nodCells x5).toArray, ov5, .bool true]) (by simp [results, Try.results26, go_sem, nodCells, q0, q1, q2, q3, q4, q5, q6, q7, q8, q9, q10, e1, e2, e3, e4, e5]) rfl ?_
    exact ⟨x5, ov5, ms, by rw [hbp]; rfl, by rw [HX5.out, HN4.out, hbp], by rw [HS.out, HN4.out, hbp], hd.1.into (Keeps.refl Free wf).drew (fun _ _ h => h.elim) (fun _ _ h => h), hd.2.into (Keeps.refl Free wf).drew (fun _ _ h => h.elim) (fun _ _ h => h), (HK5.out.trans hfk fun k hk => .inr (by omega)).drew⟩

set_option maxRecDepth 100000 in
set_option maxHeartbeats 8000000 in
theorem restart_any {w : World} {Q : Nat → Prop} {x : NodV} (h0 : NodeOk w Q x) (hQ : ∀ k, Q k → k < w.heap.size) :
    Calls Try.prog 28 #[.agg (nodCells x).toArray] w (fun e w' => ∃ x', e = .returned (.agg (nodCells x').toArray) ∧ x'.n = restart x.n ∧ NodeOk w' Q x' ∧ Keeps Free w w') := by
  have HN0 := Lib.hid h0
  have HQQ := Lib.hid hQ
  have h : NodeOk w Free x := h0.into (Keeps.refl Free w) (fun _ _ h => h.elim) (fun _ _ h => h.elim)
  clear h0 hQ
  have hwr : ∀ w1, Keeps Free w w1 → Calls Try.prog 18 #[.agg (nodCells x).toArray] w1 fun e w' => e = .returned (.int .i64 (wrong x.n)) ∧ Keeps Free w1 w' := fun w1 hk => wrong_any (h.into hk (fun _ _ h => h) (fun _ _ h => h))
  have HW := Lib.hid hwr
  have H := Lib.hid h
  obtain ⟨n, lv, vv, nv, mv⟩ := x
  obtain ⟨⟨LA, LL, LC, rfl, hll, _⟩, ⟨VA, VL, VC, rfl, _⟩, ⟨NA, NL, NC, rfl, _⟩, ⟨MA, ML, MC, rfl, _⟩⟩ := h
  simp only [nodCells] at HW
  simp only [nodCells]
  obtain rfl : LL = n.log.length := by rw [itemCells_length] at hll; simp only at hll; omega
  clear hwr hll
  go_enter Try.func28, Try.ntmps28
  go_wp2_with fail
  obtain ⟨k0, k1, k2⟩ := two_boxes w (.cells #[.int .i64 n.id, .int .i64 n.n, .int .i64 n.term, .int .i64 n.vote, .slice LA n.log.length LC, .int .i64 n.commit, .int .i64 n.role, .int .i64 n.boss, .slice VA VL VC, .slice NA NL NC, .slice MA ML MC] 25) (.cells zero11 25)
  refine (HW.out _ k0).mono ?_
  rintro e w3 ⟨rfl, hk3⟩
  have hkk := k0.trans hk3 (fun _ h => .inl h)
  have hb1 := hk3.blk k1
  have hb2 := hk3.blk k2
  have HK := Lib.hid hkk
  clear k0 k1 k2 hk3 hkk
  have hlt : w.heap.size + 1 < w3.heap.size := (Array.getElem?_eq_some_iff.1 hb2).1
  generalize hB : w.heap.size = B at *
  obtain ⟨b0, b1, b2, b3, b4, b5, b6, b7, b8, b9, b10, bf⟩ := cells11 hb1
  obtain ⟨r0, r1, r2, r3, r4, r5, r6, r7, r8, r9, r10, rf⟩ := cells11 hb2
  cases hq : (wrong n != 0)
  case true =>
    have hc : wrong n ≠ 0 := by simpa using hq
    have hbt : restart n = n := by unfold restart; rw [if_pos hc]
    have fin : ∀ (w' : World), Keeps (fun k => k = B + 1) w3 w' → (fun (e : Ending) (w' : World) => ∃ x', e = .returned (.agg (nodCells x').toArray) ∧ x'.n = restart n ∧ NodeOk w' Q x' ∧ Keeps Free w w') (.returned (.agg #[.int .i64 n.id, .int .i64 n.n, .int .i64 n.term, .int .i64 n.vote, .slice LA n.log.length LC, .int .i64 n.commit, .int .i64 n.role, .int .i64 n.boss, .slice VA VL VC, .slice NA NL NC, .slice MA ML MC])) w' := fun w' hk => by
      have hkw := HK.out.trans hk fun k hk => .inr (by omega)
      rw [hbt]
      exact ⟨⟨n, .slice LA n.log.length LC, .slice VA VL VC, .slice NA NL NC, .slice MA ML MC⟩, rfl, rfl, HN0.out.into hkw (fun _ _ h => h.elim) (fun _ _ h => h), hkw⟩
    obtain ⟨wf, hwf, hfb, hfk⟩ := put11 (v0 := .int .i64 n.id) (v1 := .int .i64 n.n) (v2 := .int .i64 n.term) (v3 := .int .i64 n.vote) (v4 := .slice LA n.log.length LC) (v5 := .int .i64 n.commit) (v6 := .int .i64 n.role) (v7 := .int .i64 n.boss) (v8 := .slice VA VL VC) (v9 := .slice NA NL NC) (v10 := .slice MA ML MC) hb2 rfl
    simp only [sets] at hwf
    obtain ⟨q0, q1, q2, q3, q4, q5, q6, q7, q8, q9, q10, qf⟩ := cells11 hfb
    have FIN := Lib.hid fin
    clear fin hbt hc
    go_wp2_with fail
    refine bodyPost_ret (v := (.agg #[.int .i64 n.id, .int .i64 n.n, .int .i64 n.term, .int .i64 n.vote, .slice LA n.log.length LC, .int .i64 n.commit, .int .i64 n.role, .int .i64 n.boss, .slice VA VL VC, .slice NA NL NC, .slice MA ML MC])) (by simp [results, Try.results28, go_sem, q0, q1, q2, q3, q4, q5, q6, q7, q8, q9, q10]) rfl ?_
    exact FIN.out _ hfk
  case false =>
    have hw0 : wrong n = 0 := by simpa using hq
    have g := good_of_wrong hw0
    have hbg := begin_any (H.out.into HK.out (fun _ _ h => h) (fun _ _ h => h)) g.log60 (Nat.le_trans g.votes_len (by omega)) (Nat.le_trans g.next_len (by omega)) (Nat.le_trans g.mtch_len (by omega))
    simp only [nodCells] at hbg
    have HG := Lib.hid g; have HBG := Lib.hid hbg
    clear g hbg
    go_wp2_with fail
    refine HBG.out.mono ?_
    rintro e w4 ⟨p, x4, S4, rfl, hp, hx4, hk4, hS4⟩
    clear b0 b1 b2 b3 b4 b5 b6 b7 b8 b9 b10 bf r0 r1 r2 r3 r4 r5 r6 r7 r8 r9 r10 rf hb1 HW HBG
    have hn4 : x4.n = n := hx4
    have HP := Lib.hid hp; have HK4 := Lib.hid (HK.out.trans hk4 (fun _ h => .inl h))
    have hz4 := hk4.blk hb2
    have hR4 : ¬ S4 (B + 1) := fun h => by have := hS4 _ h; omega
    have HS4 := Lib.hid hS4
    have HN4 := Lib.hid hn4
    have c2 := hp.cell 2
    have hsa := follow_any hp n.term 0
    have hc2 : w4.cell? ⟨p, 2, none⟩ = some (.int .i64 n.term) := by rw [← hn4]; exact c2
    clear hp hk4 hx4 hb2 hS4 hn4 hq c2
    go_wp2_with fail
    refine hsa.mono ?_
    rintro e w5 ⟨rfl, hp5, hk5⟩
    have hz5 := (hk5.block (B + 1) (Array.getElem?_eq_some_iff.1 hz4).1 hR4).trans hz4
    have HK5 := Lib.hid (HK4.out.trans hk5 fun k hk => .inr (Nat.le_trans HK.out.size (HS4.out k hk)))
    obtain ⟨r0, r1, r2, r3, r4, r5, r6, r7, r8, r9, r10, rf⟩ := cells11 hz5
    have hy : follow x4.n n.term 0 = follow n n.term 0 := by rw [HN4.out]
    rw [hy] at hp5
    obtain ⟨y, hyy⟩ : ∃ y, y = follow n n.term 0 := ⟨_, rfl⟩
    rw [← hyy] at hp5
    obtain ⟨LA1, LC1, e1, _⟩ := own_slice hp5.log
    obtain ⟨c0, c1, c2, c3, c4, c5, c6, c7, c8, c9, c10, c11, cf⟩ := cells12 hp5.cells12
    simp only at e1 c4
    rw [e1] at c4
    have HP5 := Lib.hid hp5; have HY := Lib.hid hyy; have HE1 := Lib.hid e1
    have hne : p ≠ B + 1 := fun e => hR4 (e ▸ hp5.pS)
    clear hp5 hk5 hsa hz4 H hy hyy e1
    go_upto_region 6 with fail
    go_wp2_with fail
    have hz6 : (w5.setCell ⟨p, 5, none⟩ (.int .i64 0)).heap[B + 1]? = some (.cells zero11 25 (0, 0)) := (Below.heap_setCell _ _ _ _ (Ne.symm hne)).trans hz5
    obtain ⟨wf, hwf, hfb, hfk⟩ := put11 (v0 := .int .i64 y.id) (v1 := .int .i64 y.n) (v2 := .int .i64 y.term) (v3 := .int .i64 y.vote) (v4 := .slice LA1 y.log.length LC1) (v5 := .int .i64 0) (v6 := .int .i64 y.role) (v7 := .int .i64 y.boss) (v8 := .slice none 0 0) (v9 := .slice none 0 0) (v10 := .slice none 0 0) hz6 rfl
    simp only [sets] at hwf
    rw [hwf]
    obtain ⟨q0, q1, q2, q3, q4, q5, q6, q7, q8, q9, q10, qf⟩ := cells11 hfb
    have hbr : restart n = { y with commit := 0 } := by unfold restart; rw [if_neg (by omega), HY.out]
    have hkf : Keeps (fun k => k = p ∨ k = B + 1) w5 wf := (((Keeps.refl _ w5).setCell (p := ⟨p, 5, none⟩) (.inl (.inl rfl)) _).trans hfk fun _ h => .inl (.inr h))
    have hn5 : NodeOk w5 (fun k => (k = p ∨ k = B + 1) ∨ Q k) ⟨y, x4.lv, .slice none 0 0, .slice none 0 0, .slice none 0 0⟩ := HP5.out.nodeQ fun k hk => hk.elim (fun hk => hk.elim .inl fun e => .inr (by rw [e]; exact hR4)) fun hk => .inr fun hs => by have := HQQ.out k hk; have := HS4.out k hs; omega
    have hnf := hn5.into (S' := Q) hkf (fun _ _ h => .inl h) (fun _ _ h => .inr h)
    refine bodyPost_ret (v := .agg #[.int .i64 y.id, .int .i64 y.n, .int .i64 y.term, .int .i64 y.vote, .slice LA1 y.log.length LC1, .int .i64 0, .int .i64 y.role, .int .i64 y.boss, .slice none 0 0, .slice none 0 0, .slice none 0 0]) (by simp [results, Try.results28, go_sem, q0, q1, q2, q3, q4, q5, q6, q7, q8, q9, q10]) rfl ?_
    exact ⟨⟨{ y with commit := 0 }, x4.lv, .slice none 0 0, .slice none 0 0, .slice none 0 0⟩, by rw [HE1.out], hbr.symm, ⟨hnf.log, hnf.votes, hnf.next, hnf.mtch⟩, HK5.out.trans hkf fun k hk => .inr (hk.elim (fun e => by rw [e]; exact Nat.le_trans HK.out.size (HS4.out _ HP5.out.pS)) fun e => by omega)⟩

set_option maxRecDepth 100000 in
set_option maxHeartbeats 8000000 in
theorem start_any (w : World) (id n : Int) :
    Calls Try.prog 32 #[.int .i64 id, .int .i64 n] w fun e w' => e = .returned (.agg (nodCells ⟨start id n, .slice none 0 0, .slice none 0 0, .slice none 0 0, .slice none 0 0⟩).toArray) ∧ Keeps Free w w' := by
  go_enter Try.func32, Try.ntmps32
  go_wp2_with fail
  obtain ⟨q0, q1, q2, q3, q4, q5, q6, q7, q8, q9, q10, qf⟩ := cells11 (heap_alloc_new w (.cells #[.int .i64 id, .int .i64 n, .int .i64 0, .int .i64 0, .slice none 0 0, .int .i64 0, .int .i64 1, .int .i64 0, .slice none 0 0, .slice none 0 0, .slice none 0 0] 25))
  refine bodyPost_ret (v := .agg #[.int .i64 id, .int .i64 n, .int .i64 0, .int .i64 0, .slice none 0 0, .int .i64 0, .int .i64 1, .int .i64 0, .slice none 0 0, .slice none 0 0, .slice none 0 0]) (by simp [results, Try.results32, go_sem, q0, q1, q2, q3, q4, q5, q6, q7, q8, q9, q10]) rfl ?_
  exact ⟨rfl, (Keeps.refl _ w).alloc _⟩

theorem started_ok (w : World) (id n : Int) : NodeOk w Free ⟨start id n, .slice none 0 0, .slice none 0 0, .slice none 0 0, .slice none 0 0⟩ := by
  have h : ∀ (s : Nat), Sl w Free (.slice none 0 0) s [] := fun s => ⟨none, 0, 0, rfl, by simp, Nat.le_refl _, by simp [maxLen], fun h => by simp at h⟩
  exact ⟨h _, h _, h _, h _⟩


end Go.Proofs.Ytibjbpakbfodaaa
