/- The document's answer, chapter 16: a row of nodes with another one in the place of one. The document's answer, chapter 16: Step, what is shared: a step at work, after the event and before the messages are counted. Lemmas, no walk. The document's answer, chapter 16: Step, of an event of a node, walked. -/
import Derived.Test.YtibjbpakbfodaaaXRefF
import Derived.Test.YtibjbpakbfodaaaXWld
import Derived.Test.YtibjbpakbfodaaaXRefJ
import Derived.Test.YtibjbpakbfodaaaXThru
import Derived.Test.YtibjbpakbfodaaaXRefS
namespace Go.Proofs.Ytibjbpakbfodaaa
open Go.RowKit

theorem own_zero {w : World} {base e s n : Nat} {v : Value} {xs : List Value} (h : w.ownsRow base e s v n xs) : w.ownsRow 0 e s v n xs := ⟨h.1, h.2.imp id fun ⟨g, c, cur, e1, _, e3⟩ => ⟨g, c, cur, e1, Nat.zero_le _, e3⟩⟩

theorem nodeCells_one {w : World} {S : Nat → Prop} {x : NodV} (h : NodeOk w S x) : ∀ u ∈ nodCells x, u.oneCell' = true := by
  have := nods_one (l := [x]) (fun y hy => by simp at hy; subst hy; exact h)
  simpa using this

set_option maxRecDepth 100000 in
set_option maxHeartbeats 4000000 in
theorem withN_any {w : World} {S : Nat → Prop} {v : Value} {l : List NodV} (h : Sl w S v 11 (l.flatMap nodCells)) (hl1 : ∀ x ∈ l, NodeOk w Free x) (i : Nat) (hi : i < l.length) (hl : l.length ≤ 1000) {x : NodV} (hx : NodeOk w Free x) :
    Calls Try.prog 85 #[v, .int .i64 (i : Int), .agg (nodCells x).toArray] w fun e w' => ∃ A c, e = .returned (.slice A l.length c) ∧ Sl w' (fun k => k < w.heap.size) (.slice A l.length c) 11 ((l.set i x).flatMap nodCells) ∧ Keeps Free w w' := by
  obtain ⟨i0, hi0, hz, hsz, hby⟩ := info_parts Try.info25
  obtain ⟨VA, VC, rfl⟩ := h.form (nods_len l) (by decide)
  obtain ⟨x, lv, vv, nv, mv⟩ := x
  obtain ⟨⟨LA, LL, LC, rfl, -⟩, ⟨WA, WL, WC, rfl, -⟩, ⟨NA, NL, NC, rfl, -⟩, ⟨MA, ML, MC, rfl, -⟩⟩ := hx
  obtain ⟨wa, hwa⟩ : ∃ wa, (w.alloc (.cells (nodCells ⟨x, .slice LA LL LC, .slice WA WL WC, .slice NA NL NC, .slice MA ML MC⟩).toArray 25)).alloc (.cells #[] 25) = wa := ⟨_, rfl⟩
  obtain ⟨k0, k1, k2⟩ := two_boxes w (.cells (nodCells ⟨x, .slice LA LL LC, .slice WA WL WC, .slice NA NL NC, .slice MA ML MC⟩).toArray 25) (.cells #[] 25)
  have hsa : wa.heap.size = w.heap.size + 2 := by rw [← hwa]; simp
  have hown0 : wa.ownsRow (w.heap.size + 1) 25 11 (.slice (some ⟨w.heap.size + 1, 0, none⟩) 0 0) 0 [] := by
    rw [← hwa]
    have := World.ownsRow_lit (w := w.alloc (.cells (nodCells ⟨x, .slice LA LL LC, .slice WA WL WC, .slice NA NL NC, .slice MA ML MC⟩).toArray 25)) (base := w.heap.size + 1) (e := 25) (size := 11) #[] 0 (by simp) (by simp [maxLen]) rfl
    simpa using this
  rw [hwa] at k0 k1 k2
  obtain ⟨v', w1, hr, ho, hk, hvb⟩ := app_row (t := 47) (ty := 47) Try.underlying47 hi0 hz hsz hby rfl (by decide) (by decide) (base := w.heap.size + 1) (by omega) hown0 (h.into (S' := Free) k0 (fun _ _ h => h.elim) (fun _ _ h => h.elim)) (nods_one (w := wa) (S := Free) fun y hy => (hl1 y hy).into k0 (fun _ _ h => h.elim) fun _ _ h => h) (by omega)
  rw [Nat.zero_add, List.nil_append] at ho
  obtain ⟨g, cap, rfl, hc1, hc2⟩ := ho.form (by omega)
  have hg : w.heap.size + 1 ≤ g := (ho.lt g rfl).1
  have hgl : g < w1.heap.size := (ho.lt g rfl).2
  obtain ⟨g', eg, hgc, hgf⟩ := own_at (f := nodCells) (s := 11) (fun _ => rfl) (own_zero ho) hi
  injection eg with eg
  injection eg with eg
  subst eg
  have hx1 := hl1 l[i] (List.getElem_mem hi)
  obtain ⟨y, hy⟩ : ∃ y, l[i] = y := ⟨_, rfl⟩
  rw [hy] at hgc hx1
  obtain ⟨yn, ylv, yvv, ynv, ymv⟩ := y
  have z0 : w1.cell? ⟨g, i * 11, none⟩ = some (.int .i64 yn.id) := hgc 0 _ (by decide) rfl
  have z1 := hgc 1 _ (by decide) rfl; have z2 := hgc 2 _ (by decide) rfl; have z3 := hgc 3 _ (by decide) rfl; have z4 := hgc 4 _ (by decide) rfl; have z5 := hgc 5 _ (by decide) rfl
  have z6 := hgc 6 _ (by decide) rfl; have z7 := hgc 7 _ (by decide) rfl; have z8 := hgc 8 _ (by decide) rfl; have z9 := hgc 9 _ (by decide) rfl; have z10 := hgc 10 _ (by decide) rfl
  have hkb : Keeps (fun k => k = w.heap.size + 1) wa w1 := hk.mono fun k hk => by simp [Value.ownBlock] at hk; exact .inl hk.symm
  have hb1 : w1.heap[w.heap.size]? = some (.cells (nodCells ⟨x, .slice LA LL LC, .slice WA WL WC, .slice NA NL NC, .slice MA ML MC⟩).toArray 25 (0, 0)) := (hkb.block _ (by omega) (by omega)).trans k1
  obtain ⟨c0, c1, c2, c3, c4, c5, c6, c7, c8, c9, c10, cf⟩ := cells11 hb1
  have hkk : Keeps Free w w1 := k0.trans hkb fun k e => .inr (by omega)
  obtain ⟨s1, s2⟩ := own_setRow (f := nodCells) (s := 11) (fun _ => rfl) (w := w1) (v := .slice (some ⟨g, 0, none⟩) l.length cap) (l := l) (e := 25) (own_zero ho) rfl hi ⟨x, .slice LA LL LC, .slice WA WL WC, .slice NA NL NC, .slice MA ML MC⟩
  obtain ⟨w8, hw8, hw8e⟩ := row11 w1 g (i * 11) (.int .i64 x.id) (.int .i64 x.n) (.int .i64 x.term) (.int .i64 x.vote) (.slice LA LL LC) (.int .i64 x.commit) (.int .i64 x.role) (.int .i64 x.boss) (.slice WA WL WC) (.slice NA NL NC) (.slice MA ML MC)
  have HR := Lib.hid hr; have HE := Lib.hid hw8e; have HKK := Lib.hid hkk; have HS1 := Lib.hid s1; have HS2 := Lib.hid s2
  simp only [nodCells] at hwa ⊢
  clear hr hw8e hkk s1 s2 ho hgc hkb hb1 h hl1 hx1 hy hvb hk hown0 k0 k1 k2 hi0 hz hsz hby hsa
  go_enter Try.func85, Try.ntmps85
  go_wp2_with (at_builtin; refine wpList_append_run rfl _ _ 47 rfl rfl rfl HR.out ?_)
  go_ret
  refine ⟨some ⟨g, 0, none⟩, cap, rfl, ?_, ?_⟩
  · rw [HE.out]
    exact Sl.of_own HS1.out fun k hk h => by simp [Value.ownBlock] at hk; omega
  · rw [HE.out]
    exact HKK.out.trans HS2.out fun k e => .inr (by omega)
end Go.Proofs.Ytibjbpakbfodaaa
namespace Go.Proofs.Ytibjbpakbfodaaa
open Go.RowKit

/-- The event has done what it does: the nodes, what was on its way, and what is said. -/
def MidR (w : World) (Q : Nat → Prop) (B : Nat) (u : Wld) (ev : Evt) (more net nodes : Value) (wx : World) : Prop :=
  ∃ (C : Nat) (nodesV : List NodV) (netV moreV : List MesV), wx.ownsRow (B + 3) 38 9 net netV.length (netV.flatMap mesCells) ∧ (∀ m ∈ netV, MesOk wx (Apart Q B C) m) ∧ MsgsOk wx (Apart Q B C) more moreV ∧
    Sl wx (Apart Q B C) nodes 11 (nodesV.flatMap nodCells) ∧ (∀ x ∈ nodesV, NodeOk wx (Apart Q B C) x) ∧ Wld.mk (nodesV.map NodV.n) (trim (said netV ++ said moreV)) = cstep u ev ∧ netV.length + moreV.length ≤ 1000 ∧
    wx.heap[B + 2]? = some (.cells #[.slice none 0 0, .slice none 0 0] 55 (0, 0)) ∧ Keeps Free w wx ∧ B + 3 ≤ C ∧ C ≤ wx.heap.size ∧ ∀ g, net.ownBlock = some g → g < C

/-- How long a row is. -/
def slLen : Value → Nat
  | .slice _ n _ => n
  | _ => 0

/-- Behind the append: all messages, and the nodes, lie apart from what is written last. -/
theorem MidR.joined {w wx : World} {Q : Nat → Prop} {B : Nat} {u : Wld} {ev : Evt} {more net nodes : Value} (h : MidR w Q B u ev more net nodes wx) (hQ : ∀ k, Q k → k < B) :
    ∃ (C : Nat) (nodesV : List NodV) (L : List MesV) (NA : Option Addr) (NC : Nat) (OA : Option Addr) (OL OC : Nat) (A : Option Addr) (n c : Nat) (LA : Option Addr) (LC : Nat) (w' : World), nodes = .slice NA nodesV.length NC ∧ more = .slice OA OL OC ∧ net = .slice A n c ∧
      (Builtin.append_ #[28, 28] 28 #[.slice A n c, .slice OA OL OC]).run Try.prog wx = .ok (.slice LA L.length LC) w' ∧ Sl w' (Apart Q B C) (.slice LA L.length LC) 9 (L.flatMap mesCells) ∧ (∀ m ∈ L, MesOk w' (Apart Q B C) m) ∧
      Sl w' (Apart Q B (B + 3)) (.slice NA nodesV.length NC) 11 (nodesV.flatMap nodCells) ∧ (∀ x ∈ nodesV, NodeOk w' (Apart Q B (B + 3)) x) ∧ Wld.mk (nodesV.map NodV.n) (trim (said L)) = cstep u ev ∧ L.length ≤ 1000 ∧
      w'.heap[B + 2]? = some (.cells #[.slice none 0 0, .slice none 0 0] 55 (0, 0)) ∧ Keeps (fun k => B + 3 ≤ k) wx w' ∧ Keeps Free w wx ∧ C = B + 3 := by
  obtain ⟨C, nodesV, netV, moreV, m1, m2, m3, m4, m5, m6, m7, m8, m9, m10, m11, m12⟩ := h
  obtain ⟨i0, hi0, hz, hsz, hby⟩ := info_parts Try.info38
  obtain ⟨NA, NC, rfl⟩ := m4.form (nods_len nodesV) (by decide)
  obtain ⟨OA, OC, rfl⟩ := m3.cells.form (mess_len moreV) (by decide)
  have m12' := m12
  obtain ⟨A, c, rfl, -, -⟩ := own_slice m1
  obtain ⟨v', w', hr, ho, hk, hv⟩ := app_row (t := 28) (ty := 28) Try.underlying28 hi0 hz hsz hby rfl (by decide) (by decide) (base := B + 3) (by omega) m1 (m3.cells.into (S' := Free) (Keeps.refl Free wx) (fun _ _ h => h.elim) (fun _ _ h => h.elim)) (mess_one (w := wx) (S := Apart Q B C) m3.each) (by omega)
  obtain ⟨LA, LC, rfl, -, -⟩ := own_slice ho
  have hge : ∀ g, (Value.slice A netV.length c).ownBlock = some g → B + 3 ≤ g := fun g hg => (m1.lt g hg).1
  have hap : ∀ k, (Value.slice A netV.length c).ownBlock = some k → Apart Q B C k := fun k hk => .inr ⟨by have := hge k hk; omega, m12' k hk⟩
  have hlow : ∀ k, Apart Q B (B + 3) k → Apart Q B C k := fun k h => h.imp id fun h => ⟨h.1, by omega⟩
  have hL : (netV ++ moreV).length = netV.length + moreV.length := List.length_append
  refine ⟨B + 3, nodesV, netV ++ moreV, NA, NC, OA, moreV.length, OC, A, netV.length, c, LA, LC, w', rfl, rfl, rfl, by rw [hL]; exact hr, ?_, fun m hm => ?_, m4.into hk (fun k _ h => hap k h) fun k _ h => hlow k h, fun x hx => (m5 x hx).into hk (fun k _ h => hap k h) fun k _ h => hlow k h, by rw [← m6]; simp [said], by omega, ?_, hk.mono fun k h => .inl (hge k h), m9, rfl⟩
  · rw [hL, List.flatMap_append]
    exact Sl.of_own ho fun g hg h => by
      have h1 := (ho.lt g hg).1
      rcases h with h | h
      · have := hQ g h; omega
      · omega
  · rcases List.mem_append.1 hm with hm | hm
    · exact Sl.into (m2 m hm) hk (fun k _ h => hap k h) fun k _ h => hlow k h
    · exact Sl.into (m3.each m hm) hk (fun k _ h => hap k h) fun k _ h => hlow k h
  · exact (hk.block (B + 2) (laid_lt m8) (fun h => by have := hge _ h; omega)).trans m8

/-- What an event that is of a node makes of it, whatever its kind. -/
def actR (x : Nod) (e : Evt) : Nod × List Mes := if e.kind = 1 ∨ e.kind = 2 ∨ e.kind = 3 ∨ e.kind = 7 then acted x e else (x, [])

theorem cstep_actR {nodes : List NodV} {net : List MesV} {ev : Evt} {i : Nat} (hk : ¬ (ev.kind = 4 ∨ ev.kind = 5 ∨ ev.kind = 6)) (hin : ¬ (ev.node < 1 ∨ (nodes.length : Int) < ev.node)) (hie : (ev.node - 1).toNat = i) (hi : i < nodes.length) :
    cstep ⟨nodes.map NodV.n, said net⟩ ev = ⟨(nodes.map NodV.n).set i (actR nodes[i].n ev).1, trim (said net ++ (actR nodes[i].n ev).2)⟩ := by
  by_cases h : ev.kind = 1 ∨ ev.kind = 2 ∨ ev.kind = 3 ∨ ev.kind = 7
  · unfold actR
    rw [if_pos h]
    exact acted_cstep h hin hie hi rfl
  · unfold actR
    rw [if_neg h, cstep_other h hk]
    simp only [List.append_nil]
    congr 1
    refine (List.ext_getElem (by simp) fun j h1 h2 => ?_)
    rw [List.getElem_set]
    split
    · rename_i e; subst e; simp
    · rfl

theorem actR_len (x : Nod) (e : Evt) : (actR x e).2.length ≤ 20 := by
  unfold actR
  split
  · exact acted_len x e
  · simp

theorem cstep_outR {nodes : List NodV} {net : List MesV} {ev : Evt} (hk : ¬ (ev.kind = 4 ∨ ev.kind = 5 ∨ ev.kind = 6)) (hout : ev.node < 1 ∨ (nodes.length : Int) < ev.node) (h60 : net.length ≤ 60) :
    Wld.mk (nodes.map NodV.n) (trim (said net)) = cstep ⟨nodes.map NodV.n, said net⟩ ev := by
  have ht : trim (said net) = said net := by unfold trim; rw [show (said net).length - 60 = 0 by simp [said]; omega]; rfl
  by_cases h : ev.kind = 1 ∨ ev.kind = 2 ∨ ev.kind = 3 ∨ ev.kind = 7
  · rw [ht]
    exact (cstep_out (nv := .slice none 0 0) (ov := .slice none 0 0) h hout).symm
  · rw [cstep_other h hk]

/-- A node of a row: its cells. -/
theorem nod_at {w : World} {S : Nat → Prop} {nodes : List NodV} {A : Option Addr} {n c : Nat} (h : Sl w S (.slice A n c) 11 (nodes.flatMap nodCells)) (he : ∀ x ∈ nodes, NodeOk w S x) {k : Nat} (hk : k < nodes.length) :
    ∃ b off x LA LC VA VC MA MC PA PC, A = some ⟨b, off, none⟩ ∧ nodes[k] = ⟨x, .slice LA x.log.length LC, .slice VA x.votes.length VC, .slice MA x.next.length MC, .slice PA x.mtch.length PC⟩ ∧
      NodeOk w S ⟨x, .slice LA x.log.length LC, .slice VA x.votes.length VC, .slice MA x.next.length MC, .slice PA x.mtch.length PC⟩ ∧
      w.cell? ⟨b, off + k * 11, none⟩ = some (.int .i64 x.id) ∧ w.cell? ⟨b, off + k * 11 + 1, none⟩ = some (.int .i64 x.n) ∧ w.cell? ⟨b, off + k * 11 + 2, none⟩ = some (.int .i64 x.term) ∧ w.cell? ⟨b, off + k * 11 + 3, none⟩ = some (.int .i64 x.vote) ∧
      w.cell? ⟨b, off + k * 11 + 4, none⟩ = some (.slice LA x.log.length LC) ∧ w.cell? ⟨b, off + k * 11 + 5, none⟩ = some (.int .i64 x.commit) ∧ w.cell? ⟨b, off + k * 11 + 6, none⟩ = some (.int .i64 x.role) ∧ w.cell? ⟨b, off + k * 11 + 7, none⟩ = some (.int .i64 x.boss) ∧
      w.cell? ⟨b, off + k * 11 + 8, none⟩ = some (.slice VA x.votes.length VC) ∧ w.cell? ⟨b, off + k * 11 + 9, none⟩ = some (.slice MA x.next.length MC) ∧ w.cell? ⟨b, off + k * 11 + 10, none⟩ = some (.slice PA x.mtch.length PC) := by
  obtain ⟨A', n', c', e, h1, h2, h3, h4⟩ := h
  injection e with e1 e2 e3
  subst e1 e2 e3
  rw [nods_len] at h1
  obtain ⟨b, off, rfl, h5, h6⟩ := h4 (by rw [nods_len]; omega)
  have hx := he _ (List.getElem_mem hk)
  have hc : ∀ j u, j < 11 → (nodCells nodes[k])[j]? = some u → w.cell? ⟨b, off + k * 11 + j, none⟩ = some u := fun j u hj hu => by
    rw [Nat.add_assoc]
    exact h6 _ _ (by rw [flat_get nodCells 11 (fun _ => rfl) nodes k nodes[k] j (List.getElem?_eq_getElem hk) hj]; exact hu)
  generalize hxx : nodes[k] = xx at hx hc
  obtain ⟨x, lv, vv, nv, mv⟩ := xx
  obtain ⟨LA, LC, VA, VC, NA, NC, MA, MC, e1, e2, e3, e4⟩ := hx.shape
  subst e1 e2 e3 e4
  exact ⟨b, off, x, LA, LC, VA, VC, NA, NC, MA, MC, rfl, rfl, hx, hc 0 _ (by decide) rfl, hc 1 _ (by decide) rfl, hc 2 _ (by decide) rfl, hc 3 _ (by decide) rfl, hc 4 _ (by decide) rfl, hc 5 _ (by decide) rfl, hc 6 _ (by decide) rfl, hc 7 _ (by decide) rfl, hc 8 _ (by decide) rfl, hc 9 _ (by decide) rfl, hc 10 _ (by decide) rfl⟩

/-- After the event has been told apart: the node's box, and what is said. -/
def SwR (S : Nat → Prop) (b7 : Nat) (wb : World) (x : Nod) (ev : Evt) (more : Value) (wx : World) : Prop :=
  ∃ (x' : NodV) (moreV : List MesV), wx.heap[b7]? = some (.cells (nodCells x').toArray 25 (0, 0)) ∧ NodeOk wx S x' ∧ MsgsOk wx S more moreV ∧ x'.n = (actR x ev).1 ∧ said moreV = (actR x ev).2 ∧ Keeps (fun k => k = b7) wb wx

/-- A row but its first message. -/
theorem Sl.tail9 {w : World} {S : Nat → Prop} {b off n c : Nat} {l : List MesV} (h : Sl w S (.slice (some ⟨b, off, none⟩) (n + 1) c) 9 (l.flatMap mesCells)) (hl : l.length = n + 1) :
    Sl w S (.slice (some ⟨b, off + 9, none⟩) n (c - 1)) 9 ((l.drop 1).flatMap mesCells) := by
  obtain ⟨A, n', c', e, h1, h2, h3, h4⟩ := h
  injection e with e1 e2 e3
  subst e1 e2 e3
  obtain ⟨b', off', e, h5, h6⟩ := h4 (by rw [h1]; omega)
  injection e with e
  injection e with e1 e2
  subst e1 e2
  refine ⟨_, n, c - 1, rfl, by rw [mess_len, List.length_drop, hl]; omega, by omega, by omega, fun _ => ⟨b, off + 9, rfl, h5, fun j u hj => ?_⟩⟩
  rw [show off + 9 + j = off + (9 + j) by omega]
  refine h6 (9 + j) u ?_
  rw [← hj, ← flat_drop mesCells 9 (fun _ => rfl) l 1 (by omega), List.getElem?_drop]

end Go.Proofs.Ytibjbpakbfodaaa
namespace Go.Proofs.Ytibjbpakbfodaaa
open Go.RowKit

set_option maxRecDepth 100000 in
set_option maxHeartbeats 16000000 in
theorem stepR_acts {w : World} {Q : Nat → Prop} {W : WldV} {ev : Evt} {n : Int} (h0 : WldOk w Q W) (hQ : ∀ k, Q k → k < w.heap.size) (hs : Sound n W.w) (hn : ¬ (n < 1 ∨ 5 < n)) (hkind : ¬ (ev.kind = 4 ∨ ev.kind = 5 ∨ ev.kind = 6)) :
    Calls Try.prog 48 #[.agg #[W.nv, W.ov], .agg #[.int .i64 ev.kind, .int .i64 ev.node, .int .i64 ev.pick]] w fun e w' => ∃ W' : WldV, e = .returned (.agg #[W'.nv, W'.ov]) ∧ W'.w = cstep W.w ev ∧ WldOk w' Q W' ∧ Keeps Free w w' := by
  have H0 := Lib.hid h0
  obtain ⟨nodes, net, nv, ov⟩ := W
  obtain ⟨NA, NC, en1⟩ := h0.cells.form (nods_len nodes) (by decide)
  obtain ⟨OA, OC, en2⟩ := h0.msgs.cells.form (mess_len net) (by decide)
  simp only at en1 en2
  subst en1 en2
  have hnl : nodes.length ≤ 5 := by have := hs.len; simp only [WldV.w, List.length_map] at this; omega
  have hml : net.length ≤ 60 := by have := hs.net; simpa [WldV.w, said] using this
  have HGD := Lib.hid (fun (i : Nat) (h : i < nodes.length) => (by have := hs.good i (by simpa [WldV.w] using h); simpa [WldV.w] using this : Good nodes[i].n))
  obtain ⟨k, nd, pk⟩ := ev
  simp only at hkind ⊢
  have HKIND := Lib.hid hkind
  clear h0 hs hn
  obtain ⟨wa, wb, wz, e1, e2, e3, s1, s2, s3, hk3, b1, b2, b3⟩ := three_boxes w (Obj.cells #[Value.slice NA nodes.length NC, Value.slice OA net.length OC] 55) (Obj.cells #[Value.int IntKind.i64 k, Value.int IntKind.i64 nd, Value.int IntKind.i64 pk] 63) (Obj.cells #[Value.slice none 0 0, Value.slice none 0 0] 55)
  obtain ⟨B, hB⟩ : ∃ B, w.heap.size = B := ⟨_, rfl⟩
  rw [hB] at s1 s2 s3 b1 b2 b3 hQ
  have HQ := Lib.hid hQ; have HBW := Lib.hid hB
  -- the net's clone
  have hwl := heap_alloc_new wz (.cells #[] 38)
  have hkl := (Keeps.refl Free wz).alloc (.cells #[] 38)
  have hrow0 := World.ownsRow_lit (w := wz) (base := B + 3) (e := 38) (size := 9) #[] 0 (by omega) (by simp [maxLen]) rfl
  have hsl := World.size_alloc wz (.cells #[] 38)
  obtain ⟨wl, hal⟩ : ∃ wl, wz.alloc (.cells #[] 38) = wl := ⟨_, rfl⟩
  rw [hal] at hwl hkl hrow0 hsl
  have hkwl : Keeps Free w wl := hk3.trans hkl (fun _ h => .inl h)
  obtain ⟨i0, hi0, hz, hsz, hby⟩ := info_parts Try.info38
  obtain ⟨v1, w1, hr1, ho1, hk1, hv1⟩ := app_row (t := 28) (ty := 28) Try.underlying28 hi0 hz hsz hby rfl (by decide) (by decide) (base := B + 3) (by omega) (v := .slice (some ⟨B + 3, 0, none⟩) 0 0) (n := 0) (xs := []) (by rw [s3] at hrow0; simpa using hrow0) (H0.out.msgs.cells.into (S' := Free) hkwl (fun _ _ h => h.elim) (fun _ _ h => h.elim)) (mess_one (w := wl) (S := Q) fun m hm => Sl.into (H0.out.msgs.each m hm) hkwl (fun _ _ h => h.elim) fun _ _ h => h) (by omega)
  rw [Nat.zero_add, List.nil_append] at ho1
  obtain ⟨A1, C1, rfl, -, -⟩ := own_slice ho1
  have hkb : Keeps (fun k => k = B + 3) wl w1 := hk1.mono fun k hk => by simp [Value.ownBlock] at hk; exact .inl hk.symm
  have hk01 : Keeps Free w w1 := hkwl.trans hkb fun k e => .inr (by omega)
  have q1 : w1.heap[B]? = some (.cells #[.slice NA nodes.length NC, .slice OA net.length OC] 55 (0, 0)) := (hkb.block _ (by omega) (by omega)).trans (hkl.blk b1)
  have q2 : w1.heap[B + 1]? = some (.cells #[.int .i64 k, .int .i64 nd, .int .i64 pk] 63 (0, 0)) := (hkb.block _ (by omega) (by omega)).trans (hkl.blk b2)
  have q3 : w1.heap[B + 2]? = some (.cells #[.slice none 0 0, .slice none 0 0] 55 (0, 0)) := (hkb.block _ (by omega) (by omega)).trans (hkl.blk b3)
  have HR1 := Lib.hid hr1; have HO1 := Lib.hid ho1; have HK01 := Lib.hid hk01; have Q1 := Lib.hid q1; have Q2 := Lib.hid q2; have Q3 := Lib.hid q3
  have hs1 : B + 3 ≤ w1.heap.size := by have := hkb.size; omega
  obtain ⟨b7, hb7e⟩ : ∃ b7, w1.heap.size = b7 := ⟨_, rfl⟩
  have HS7 := Lib.hid hb7e
  rw [hb7e] at hs1
  clear hb7e
  clear hr1 ho1 hkb hk01 q1 q2 q3 hwl hrow0 hkwl hk1 hv1 hi0 hz hsz hby hQ
  obtain ⟨c0, c1, cf⟩ := cells2 (hkl.blk b1)
  clear hkl b1 b2 b3 hk3
  go_enter Try.func48, Try.ntmps48
  go_upto_region 3 with (at_builtin; refine wpList_append_run rfl _ _ 28 rfl rfl rfl HR1.out ?_)
  clear c0 c1 cf hal hB e1 e2 e3 hsl
  obtain ⟨c0, c1, cf⟩ := cells2 Q1.out
  obtain ⟨f0, f1, f2, ff⟩ := cells3 Q2.out
  have k4 : (k == 4) = false := by rw [beq_eq_false_iff_ne]; omega
  have k5 : (k == 5) = false := by rw [beq_eq_false_iff_ne]; omega
  have k6 : (k == 6) = false := by rw [beq_eq_false_iff_ne]; omega
  clear hkind
  go_upto_if 30 with fail
  have hap : ∀ j, j < w.heap.size → Apart Q B b7 j → Q j := fun j hj h => h.elim id fun h => by have := HBW.out; omega
  have HAP := Lib.hid hap
  clear hap
  go_cut [5, 6, 7] (fun more nt nd' wx => MidR w Q B ⟨nodes.map NodV.n, said net⟩ ⟨k, nd, pk⟩ more nt nd' wx)
  case first =>
    by_cases hout : nd < 1 ∨ (nodes.length : Int) < nd
    · have hfin : MidR w Q B ⟨nodes.map NodV.n, said net⟩ ⟨k, nd, pk⟩ (.slice none 0 0) (.slice A1 net.length C1) (.slice NA nodes.length NC) w1 :=
        ⟨b7, nodes, net, [], HO1.out, fun m hm => Sl.into (H0.out.msgs.each m hm) HK01.out (fun _ _ h => h.elim) HAP.out, noMsgs _ _, H0.out.cells.into HK01.out (fun _ _ h => h.elim) HAP.out, fun x hx => (H0.out.each x hx).into HK01.out (fun _ _ h => h.elim) HAP.out,
          by simp only [said, List.map_nil, List.append_nil]; exact cstep_outR (ev := ⟨k, nd, pk⟩) HKIND.out hout hml, by simp; omega, Q3.out, HK01.out, hs1, by rw [HS7.out]; exact Nat.le_refl _, fun g hg => by rw [← HS7.out]; exact own_lt HO1.out hg⟩
      have HFIN := Lib.hid hfin
      clear hfin
      by_cases hd1 : nd < 1
      · have d1 : decide (1 ≤ nd) = false := by simp; omega
        clear hout hd1
        go_wp2_with fail
        go_meet
        exact HFIN.out
      · have d1 : decide (1 ≤ nd) = true := by simp; omega
        have d2 : decide (nd ≤ (nodes.length : Int)) = false := by simp; omega
        clear hout hd1
        go_wp2_with fail
        go_meet
        exact HFIN.out
    · obtain ⟨i, hie⟩ : ∃ i : Nat, nd = (i : Int) + 1 := ⟨(nd - 1).toNat, by omega⟩
      subst hie
      have hi : i < nodes.length := by omega
      have d1 : decide (1 ≤ (i : Int) + 1) = true := by simp; omega
      have d2 : decide ((i : Int) + 1 ≤ (nodes.length : Int)) = true := by simp; omega
      obtain ⟨b, off, x, LA, LC, VA, VC, MA, MC, PA, PC, rfl, hxi, hxo, r0, r1, r2, r3, r4, r5, r6, r7, r8, r9, r10⟩ := nod_at (H0.out.cells.into (S' := Apart Q B b7) HK01.out (fun _ _ h => h.elim) HAP.out) (fun x hx => (H0.out.each x hx).into HK01.out (fun _ _ h => h.elim) HAP.out) hi
      have HCS := Lib.hid (cstep_actR (nodes := nodes) (net := net) (ev := ⟨k, (i : Int) + 1, pk⟩) HKIND.out hout (i := i) (by simp only; omega) hi)
      have hgd := HGD.out i hi
      rw [hxi] at HCS hgd
      have HXI := Lib.hid hxi; have HXO := Lib.hid hxo; have HG := Lib.hid hgd
      clear hout hxi hxo hgd
      have hwi : IntKind.i64.wrap ((i : Int) + 1 - 1) = (i : Int) := by rw [IntWalk.i64_in _ (by omega)]; omega
      have hb7 := heap_alloc_new w1 (.cells #[.int .i64 x.id, .int .i64 x.n, .int .i64 x.term, .int .i64 x.vote, .slice LA x.log.length LC, .int .i64 x.commit, .int .i64 x.role, .int .i64 x.boss, .slice VA x.votes.length VC, .slice MA x.next.length MC, .slice PA x.mtch.length PC] 25)
      have hk7 := (Keeps.refl Free w1).alloc (.cells #[.int .i64 x.id, .int .i64 x.n, .int .i64 x.term, .int .i64 x.vote, .slice LA x.log.length LC, .int .i64 x.commit, .int .i64 x.role, .int .i64 x.boss, .slice VA x.votes.length VC, .slice MA x.next.length MC, .slice PA x.mtch.length PC] 25)
      obtain ⟨w2, hal⟩ : ∃ w2, w1.alloc (.cells #[.int .i64 x.id, .int .i64 x.n, .int .i64 x.term, .int .i64 x.vote, .slice LA x.log.length LC, .int .i64 x.commit, .int .i64 x.role, .int .i64 x.boss, .slice VA x.votes.length VC, .slice MA x.next.length MC, .slice PA x.mtch.length PC] 25) = w2 := ⟨_, rfl⟩
      have hb7e := HS7.out
      rw [hal] at hb7 hk7
      rw [hb7e] at hb7
      have HB7 := Lib.hid hb7; have HK7 := Lib.hid hk7
      obtain ⟨p0, p1, p2, pf⟩ := cells3 (hk7.blk Q2.out)
      go_upto_block 0 with fail
      clear r0 r1 r2 r3 r4 r5 r6 r7 r8 r9 r10 hal hwi
      obtain ⟨u0, u1, u2, u3, u4, u5, u6, u7, u8, u9, u10, uf⟩ := cells11 HB7.out
      have HSL := Lib.hid (show ∀ j, Apart Q B b7 j → j < w2.heap.size from fun j h => by
        have h1 := HK7.out.size
        rcases h with h | h
        · have := HQ.out j h; omega
        · omega)
      have HSQ := Lib.hid (show ∀ j, (Apart Q B b7 j ∨ j = b7) → j < w2.heap.size from fun j h => h.elim (HSL.out j) fun e => e ▸ laid_lt HB7.out)
      have HX7 := Lib.hid (HXO.out.into HK7.out (fun _ _ h => h.elim) (fun j hj h => h.elim id fun e => by omega) : NodeOk w2 (fun j => Apart Q B b7 j ∨ j = b7) _)
      clear hb7e hb7 hk7 p1 c0 c1 cf f0 f1 f2 ff HR1
      go_cut [5] (fun more wx => SwR (Apart Q B b7) b7 w2 x ⟨k, (i : Int) + 1, pk⟩ more wx)
      case first =>
        cases k1 : (k == 1)
        case true =>
          have hk1 : k = 1 := by simpa using k1
          subst hk1
          have HAC := Lib.hid (show actR x ⟨1, (i : Int) + 1, pk⟩ = timeout x by unfold actR acted; simp)
          have hcall := timeoutR_any HX7.out HSQ.out (sized_good HG.out)
          simp only [nodCells] at hcall
          have HCALL := Lib.hid hcall
          clear hcall
          go_wp2_with (first
            | (go_at_call 21
               refine HCALL.out.mono ?_
               rintro e w3 ⟨⟨x3, lv3, vv3, nv3, mv3⟩, ov, out, rfl, hx3, hso, hok3, hms, hk3⟩
               obtain ⟨LA3, LC3, VA3, VC3, NA3, NC3, MA3, MC3, e1, e2, e3, e4⟩ := hok3.shape
               simp only at e1 e2 e3 e4 hx3
               subst e1 e2 e3 e4
               have hb3 := hk3.blk HB7.out
               obtain ⟨wf, hwf, hfb, hfk⟩ := put11l (v0 := .int .i64 x3.id) (v1 := .int .i64 x3.n) (v2 := .int .i64 x3.term) (v3 := .int .i64 x3.vote) (v4 := .slice LA3 x3.log.length LC3) (v5 := .int .i64 x3.commit) (v6 := .int .i64 x3.role) (v7 := .int .i64 x3.boss) (v8 := .slice VA3 x3.votes.length VC3) (v9 := .slice NA3 x3.next.length NC3) (v10 := .slice MA3 x3.mtch.length MC3) hb3 rfl
               obtain ⟨z0, z1, z2, z3, z4, z5, z6, z7, z8, z9, z10, zf⟩ := cells11 hb3
               simp only [nodCells]
               have HX3 := Lib.hid hx3; have HOK3 := Lib.hid hok3; have HK3 := Lib.hid hk3; have HFB := Lib.hid hfb; have HFK := Lib.hid hfk
               have HSO := Lib.hid hso; have HMS := Lib.hid hms
               clear hx3 hok3 hk3 hfb hfk hb3 u0 u1 u2 u3 u4 u5 u6 u7 u8 u9 u10 uf hso hms))
          go_meet
          exact ⟨⟨x3, .slice LA3 x3.log.length LC3, .slice VA3 x3.votes.length VC3, .slice NA3 x3.next.length NC3, .slice MA3 x3.mtch.length MC3⟩, out, HFB.out, HOK3.out.into HFK.out (fun j _ e => .inr e) (fun _ _ h => .inl h), HMS.out.into HFK.out (fun j _ e => by rw [e]; exact laid_lt HB7.out) (fun j _ h => HSL.out j h), by rw [HX3.out, HAC.out], by rw [HSO.out, HAC.out], (HK3.out.mono (fun _ h => h.elim)).trans HFK.out (fun _ h => .inl h)⟩
        case false =>
          cases k2 : (k == 2)
          case true =>
            have hk2 : k = 2 := by simpa using k2
            subst hk2
            have HAC := Lib.hid (show actR x ⟨2, (i : Int) + 1, pk⟩ = beat x by unfold actR acted; simp)
            have hcall := beatR_any HX7.out HSQ.out (sized_good HG.out)
            simp only [nodCells] at hcall
            have HCALL := Lib.hid hcall
            clear hcall
            go_wp2_with (first
              | (go_at_call 25
                 refine HCALL.out.mono ?_
                 rintro e w3 ⟨⟨x3, lv3, vv3, nv3, mv3⟩, ov, out, rfl, hx3, hso, hok3, hms, hk3⟩
                 obtain ⟨LA3, LC3, VA3, VC3, NA3, NC3, MA3, MC3, e1, e2, e3, e4⟩ := hok3.shape
                 simp only at e1 e2 e3 e4 hx3
                 subst e1 e2 e3 e4
                 have hb3 := hk3.blk HB7.out
                 obtain ⟨wf, hwf, hfb, hfk⟩ := put11l (v0 := .int .i64 x3.id) (v1 := .int .i64 x3.n) (v2 := .int .i64 x3.term) (v3 := .int .i64 x3.vote) (v4 := .slice LA3 x3.log.length LC3) (v5 := .int .i64 x3.commit) (v6 := .int .i64 x3.role) (v7 := .int .i64 x3.boss) (v8 := .slice VA3 x3.votes.length VC3) (v9 := .slice NA3 x3.next.length NC3) (v10 := .slice MA3 x3.mtch.length MC3) hb3 rfl
                 obtain ⟨z0, z1, z2, z3, z4, z5, z6, z7, z8, z9, z10, zf⟩ := cells11 hb3
                 simp only [nodCells]
                 have HX3 := Lib.hid hx3; have HOK3 := Lib.hid hok3; have HK3 := Lib.hid hk3; have HFB := Lib.hid hfb; have HFK := Lib.hid hfk
                 have HSO := Lib.hid hso; have HMS := Lib.hid hms
                 clear hx3 hok3 hk3 hfb hfk hb3 u0 u1 u2 u3 u4 u5 u6 u7 u8 u9 u10 uf hso hms))
            go_meet
            exact ⟨⟨x3, .slice LA3 x3.log.length LC3, .slice VA3 x3.votes.length VC3, .slice NA3 x3.next.length NC3, .slice MA3 x3.mtch.length MC3⟩, out, HFB.out, HOK3.out.into HFK.out (fun j _ e => .inr e) (fun _ _ h => .inl h), HMS.out.into HFK.out (fun j _ e => by rw [e]; exact laid_lt HB7.out) (fun j _ h => HSL.out j h), by rw [HX3.out, HAC.out], by rw [HSO.out, HAC.out], (HK3.out.mono (fun _ h => h.elim)).trans HFK.out (fun _ h => .inl h)⟩
          case false =>
            cases k3 : (k == 3)
            case true =>
              have hk3 : k = 3 := by simpa using k3
              subst hk3
              have HAC := Lib.hid (show actR x ⟨3, (i : Int) + 1, pk⟩ = ((propose x pk).1, (propose x pk).2.1) by unfold actR acted; simp)
              have hcall := proposeR_any HX7.out HSQ.out (sized_good HG.out) pk
              simp only [nodCells] at hcall
              have HCALL := Lib.hid hcall
              clear hcall
              go_wp2_with (first
                | (go_at_call 27
                   refine HCALL.out.mono ?_
                   rintro e w3 ⟨⟨x3, lv3, vv3, nv3, mv3⟩, ov, out, rfl, hx3, hso, hok3, hms, hk3⟩
                   obtain ⟨LA3, LC3, VA3, VC3, NA3, NC3, MA3, MC3, e1, e2, e3, e4⟩ := hok3.shape
                   simp only at e1 e2 e3 e4 hx3
                   subst e1 e2 e3 e4
                   have hb3 := hk3.blk HB7.out
                   obtain ⟨wf, hwf, hfb, hfk⟩ := put11l (v0 := .int .i64 x3.id) (v1 := .int .i64 x3.n) (v2 := .int .i64 x3.term) (v3 := .int .i64 x3.vote) (v4 := .slice LA3 x3.log.length LC3) (v5 := .int .i64 x3.commit) (v6 := .int .i64 x3.role) (v7 := .int .i64 x3.boss) (v8 := .slice VA3 x3.votes.length VC3) (v9 := .slice NA3 x3.next.length NC3) (v10 := .slice MA3 x3.mtch.length MC3) hb3 rfl
                   obtain ⟨z0, z1, z2, z3, z4, z5, z6, z7, z8, z9, z10, zf⟩ := cells11 hb3
                   simp only [nodCells]
                   have HX3 := Lib.hid hx3; have HOK3 := Lib.hid hok3; have HK3 := Lib.hid hk3; have HFB := Lib.hid hfb; have HFK := Lib.hid hfk
                   have HSO := Lib.hid hso; have HMS := Lib.hid hms
                   clear hx3 hok3 hk3 hfb hfk hb3 u0 u1 u2 u3 u4 u5 u6 u7 u8 u9 u10 uf hso hms))
              go_meet
              exact ⟨⟨x3, .slice LA3 x3.log.length LC3, .slice VA3 x3.votes.length VC3, .slice NA3 x3.next.length NC3, .slice MA3 x3.mtch.length MC3⟩, out, HFB.out, HOK3.out.into HFK.out (fun j _ e => .inr e) (fun _ _ h => .inl h), HMS.out.into HFK.out (fun j _ e => by rw [e]; exact laid_lt HB7.out) (fun j _ h => HSL.out j h), by rw [HX3.out, HAC.out], by rw [HSO.out, HAC.out], (HK3.out.mono (fun _ h => h.elim)).trans HFK.out (fun _ h => .inl h)⟩
            case false =>
              cases k7 : (k == 7)
              case true =>
                have hk7 : k = 7 := by simpa using k7
                subst hk7
                have HAC := Lib.hid (show actR x ⟨7, (i : Int) + 1, pk⟩ = (restart x, []) by unfold actR acted; simp)
                have hcall := restartR_any HX7.out HSQ.out (sized_good HG.out)
                simp only [nodCells] at hcall
                have HCALL := Lib.hid hcall
                clear hcall
                go_wp2_with (first
                  | (go_at_call 29
                     refine HCALL.out.mono ?_
                     rintro e w3 ⟨⟨x3, lv3, vv3, nv3, mv3⟩, rfl, hx3, hok3, hk3⟩
                     obtain ⟨LA3, LC3, VA3, VC3, NA3, NC3, MA3, MC3, e1, e2, e3, e4⟩ := hok3.shape
                     simp only at e1 e2 e3 e4 hx3
                     subst e1 e2 e3 e4
                     have hb3 := hk3.blk HB7.out
                     obtain ⟨wf, hwf, hfb, hfk⟩ := put11l (v0 := .int .i64 x3.id) (v1 := .int .i64 x3.n) (v2 := .int .i64 x3.term) (v3 := .int .i64 x3.vote) (v4 := .slice LA3 x3.log.length LC3) (v5 := .int .i64 x3.commit) (v6 := .int .i64 x3.role) (v7 := .int .i64 x3.boss) (v8 := .slice VA3 x3.votes.length VC3) (v9 := .slice NA3 x3.next.length NC3) (v10 := .slice MA3 x3.mtch.length MC3) hb3 rfl
                     obtain ⟨z0, z1, z2, z3, z4, z5, z6, z7, z8, z9, z10, zf⟩ := cells11 hb3
                     simp only
                     have HX3 := Lib.hid hx3; have HOK3 := Lib.hid hok3; have HK3 := Lib.hid hk3; have HFB := Lib.hid hfb; have HFK := Lib.hid hfk
                     skip
                     clear hx3 hok3 hk3 hfb hfk hb3 u0 u1 u2 u3 u4 u5 u6 u7 u8 u9 u10 uf))
                go_meet
                exact ⟨⟨x3, .slice LA3 x3.log.length LC3, .slice VA3 x3.votes.length VC3, .slice NA3 x3.next.length NC3, .slice MA3 x3.mtch.length MC3⟩, [], HFB.out, HOK3.out.into HFK.out (fun j _ e => .inr e) (fun _ _ h => .inl h), noMsgs _ _, by rw [HX3.out, HAC.out], by rw [HAC.out]; rfl, (HK3.out.mono (fun _ h => h.elim)).trans HFK.out (fun _ h => .inl h)⟩
              case false =>
                have HAC := Lib.hid (show actR x ⟨k, (i : Int) + 1, pk⟩ = (x, []) by
                  unfold actR
                  rw [if_neg (by simp only [beq_eq_false_iff_ne] at k1 k2 k3 k7; simp only; omega)])
                go_wp2_with fail
                go_meet
                exact ⟨⟨x, .slice LA x.log.length LC, .slice VA x.votes.length VC, .slice MA x.next.length MC, .slice PA x.mtch.length PC⟩, [], HB7.out, HX7.out.weak (fun _ _ h => .inl h), noMsgs _ _, by rw [HAC.out], by rw [HAC.out]; rfl, Keeps.refl _ _⟩
      case rest =>
        obtain ⟨⟨x5, lv5, vv5, nv5, mv5⟩, moreV, h51, h52, h53, h54, h55, h56⟩ := hcut
        obtain ⟨LA5, LC5, VA5, VC5, NA5, NC5, MA5, MC5, e1, e2, e3, e4⟩ := h52.shape
        obtain ⟨OA5, OC5, e5⟩ := h53.cells.form (mess_len moreV) (by decide)
        simp only at e1 e2 e3 e4 h54
        subst e1 e2 e3 e4 e5
        have HW2C := Lib.hid h56.size
        have hkc : Keeps Free w1 wc := HK7.out.trans h56 (fun j e => .inr (by have := HS7.out; omega))
        have hcall := withN_any (w := wc) (i := i) (H0.out.cells.into (S' := Apart Q B b7) (HK01.out.trans hkc (fun _ h => h.elim)) (fun _ _ h => h.elim) HAP.out) (fun x hx => (H0.out.each x hx).into (HK01.out.trans hkc (fun _ h => h.elim)) (fun _ _ h => h.elim) (fun _ _ h => h.elim)) hi (by simp only; omega) (h52.weak (fun _ _ h => h.elim))
        simp only [nodCells] at hcall
        have HCALL := Lib.hid hcall; have H52 := Lib.hid h52; have H53 := Lib.hid h53; have H54 := Lib.hid h54; have H55 := Lib.hid h55; have HKC := Lib.hid hkc
        obtain ⟨p0, p1, p2, pf⟩ := cells3 (hkc.blk Q2.out)
        obtain ⟨u0, u1, u2, u3, u4, u5, u6, u7, u8, u9, u10, uf⟩ := cells11 h51
        have hwi : IntKind.i64.wrap ((i : Int) + 1 - 1) = (i : Int) := by rw [IntWalk.i64_in _ (by omega)]; omega
        clear hcall h51 h52 h53 h54 h55 h56 hkc
        go_wp2_with (first
          | (go_at_call 85
             refine HCALL.out.mono ?_
             rintro e w6 ⟨A6, C6, rfl, hs6, hk6⟩
             have HS6 := Lib.hid hs6; have HK6 := Lib.hid hk6
             clear hs6 hk6 HCALL))
        go_meet
        have hkf := HKC.out.trans HK6.out (fun _ h => .inl h)
        have hk0f := HK01.out.trans hkf (fun _ h => h.elim)
        have hwc := HKC.out.size
        exact ⟨b7, nodes.set i ⟨x5, .slice LA5 x5.log.length LC5, .slice VA5 x5.votes.length VC5, .slice NA5 x5.next.length NC5, .slice MA5 x5.mtch.length MC5⟩, net, moreV, own_later HO1.out hkf, fun m hm => Sl.into (H0.out.msgs.each m hm) hk0f (fun _ _ h => h.elim) HAP.out, H53.out.into HK6.out (fun _ _ h => h.elim) (fun _ _ h => h),
          HS6.out.weak fun j _ h => by have := HSL.out j h; have := HK7.out.size; have := HW2C.out; omega,
          fun y hy => by
            rcases List.mem_or_eq_of_mem_set hy with hy | rfl
            · exact (H0.out.each y hy).into hk0f (fun _ _ h => h.elim) HAP.out
            · exact H52.out.into HK6.out (fun _ _ h => h.elim) (fun _ _ h => h),
          by rw [HCS.out, List.map_set, H54.out, H55.out], by have := actR_len x ⟨k, (i : Int) + 1, pk⟩; rw [← H55.out] at this; simp only [said, List.length_map] at this; omega, hkf.blk Q3.out, hk0f, hs1, by have := hkf.size; have := HS7.out; omega, fun g hg => by rw [← HS7.out]; exact own_lt HO1.out hg⟩
  case rest =>
    obtain ⟨CC, nodesV, L, NA2, NC2, OA2, OL2, OC2, A2, n2, c2, LA2, LC2, w8, en, em, et, hr8, hl8, hi8, hn8, hx8, hc8, hl1, hb8, hk8, hkc, rfl⟩ := hcut.joined HQ.out
    subst en em et
    have HR8 := Lib.hid hr8; have HL8 := Lib.hid hl8; have HI8 := Lib.hid hi8; have HN8 := Lib.hid hn8; have HX8 := Lib.hid hx8; have HC8 := Lib.hid hc8; have HB8 := Lib.hid hb8; have HK8 := Lib.hid hk8; have HKC := Lib.hid hkc
    clear hr8 hl8 hi8 hn8 hx8 hc8 hb8 hk8 hkc HR1 hcut c0 c1 cf f0 f1 f2 ff
    go_wp2_with (at_builtin; refine wpList_append_run rfl _ _ 28 rfl rfl rfl HR8.out ?_)
    go_loop [6] (fun v => ∃ (j : Nat) (A : Option Addr) (m c : Nat), v = .slice A m c ∧ m + j = L.length ∧ j ≤ L.length - 60 ∧ Sl w8 (Apart Q B (B + 3)) (.slice A m c) 9 ((L.drop j).flatMap mesCells)) (fun v => slLen v)
    case atStart => exact ⟨0, _, _, _, rfl, rfl, Nat.zero_le _, by rw [List.drop_zero]; exact HL8.out⟩
    case round =>
      obtain ⟨j, A, m, c, rfl, hj, hj2, hsl⟩ := hrel
      have HSL := Lib.hid hsl
      by_cases hlt : 60 < m
      · obtain ⟨m, rfl⟩ : ∃ m', m = m' + 1 := ⟨m - 1, by omega⟩
        have hq : decide (60 < ((m + 1 : Nat) : Int)) = true := by simp; omega
        obtain ⟨A', n', c', e, -, hc1, -, hc2⟩ := hsl
        injection e with e1 e2 e3
        subst e1 e2 e3
        obtain ⟨b, off, rfl, -, -⟩ := hc2 (by rw [mess_len, List.length_drop]; omega)
        clear hc2
        go_wp2_with fail
        go_round
        case rel => exact ⟨j + 1, some ⟨b, off + 9, none⟩, m, c - 1, by go_num, by omega, by omega, by have := HSL.out.tail9 (by rw [List.length_drop]; omega); rwa [List.drop_drop] at this⟩
        case measure => simp [slLen]
      · have hq : decide (60 < (m : Int)) = false := by simp; omega
        obtain ⟨wf, hwf, hfb, hfk⟩ := put2 (v0 := .slice NA2 nodesV.length NC2) (v1 := .slice A m c) HB8.out rfl
        obtain ⟨z0, z1, zf⟩ := cells2 hfb
        have HFK := Lib.hid hfk
        have hjj : (said L).length - 60 = j := by simp [said]; omega
        have HTR := Lib.hid (show Wld.mk (nodesV.map NodV.n) (said (L.drop j)) = cstep ⟨nodes.map NodV.n, said net⟩ ⟨k, nd, pk⟩ by
          rw [← HC8.out]
          unfold trim
          rw [hjj]
          simp [said, List.map_drop])
        clear hfb hfk hsl hjj
        obtain ⟨y0, y1, yf⟩ := cells2 HB8.out
        go_wp2_with fail
        refine bodyPost_ret (v := .agg #[.slice NA2 nodesV.length NC2, .slice A m c]) (by simp [results, Try.results48, go_sem, z0, z1]) rfl ?_
        have hcl : ∀ j', j' < w8.heap.size → j' = B + 2 → Apart Q B (B + 3) j' := fun j' _ e => .inr (by omega)
        have hq2 : ∀ j', j' < w8.heap.size → Q j' → Apart Q B (B + 3) j' := fun _ _ h => .inl h
        exact ⟨⟨nodesV, L.drop j, _, _⟩, rfl, HTR.out, ⟨HN8.out.into HFK.out hcl hq2, fun x hx => (HX8.out x hx).into HFK.out hcl hq2, ⟨HSL.out.into HFK.out hcl hq2, fun mm hm => Sl.into (HI8.out mm (List.mem_of_mem_drop hm)) HFK.out hcl hq2⟩⟩,
          (HKC.out.trans HK8.out (fun j' h => .inr (by have := HBW.out; omega))).trans HFK.out (fun j' e => .inr (by have := HBW.out; omega))⟩
end Go.Proofs.Ytibjbpakbfodaaa
