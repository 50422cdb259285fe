/- all: what a node may become, and what it says, by any step: walked, with the lists of the nodes. -/
import Derived.Test.YtibjbpakbfodaaaExpc
import Derived.Test.YtibjbpakbfodaaaFirstc
import Derived.Maps.AppendAt
import Derived.Laws.OwnMore
namespace Go.Proofs.Ytibjbpakbfodaaa
open Go.RowKit

theorem cells9 {w : World} {b : Nat} {t : TypeId} {v0 v1 v2 v3 v4 v5 v6 v7 v8 : Value} (h : w.heap[b]? = some (.cells #[v0, v1, v2, v3, v4, v5, v6, v7, v8] t (0, 0))) :
    w.cell? ⟨b, 0, none⟩ = some v0 ∧ w.cell? ⟨b, 1, none⟩ = some v1 ∧ w.cell? ⟨b, 2, none⟩ = some v2 ∧ w.cell? ⟨b, 3, none⟩ = some v3 ∧ w.cell? ⟨b, 4, none⟩ = some v4 ∧ w.cell? ⟨b, 5, none⟩ = some v5 ∧
      w.cell? ⟨b, 6, none⟩ = some v6 ∧ w.cell? ⟨b, 7, none⟩ = some v7 ∧ w.cell? ⟨b, 8, none⟩ = some v8 :=
  ⟨cell_of_row w b 0 _ _ _ h, cell_of_row w b 1 _ _ _ h, cell_of_row w b 2 _ _ _ h, cell_of_row w b 3 _ _ _ h, cell_of_row w b 4 _ _ _ h, cell_of_row w b 5 _ _ _ h, cell_of_row w b 6 _ _ _ h, cell_of_row w b 7 _ _ _ h, cell_of_row w b 8 _ _ _ h⟩

/-- Nothing is appended. -/
theorem run_none {w : World} {base : Nat} {t ty e : TypeId} {i : TypeInfo} {size : Nat} (ht : Try.prog.underlying t = some (.slice e)) (hi : Try.prog.info? e = some i) {v : Value} {n : Nat} {xs : List Value} (hown : w.ownsRow base e size v n xs) (c : Nat) :
    (Builtin.append_ #[t, t] ty #[v, .slice none 0 c]).run Try.prog w = .ok v w := by
  rcases hown.2 with ⟨rfl, rfl⟩ | ⟨g, cap, cur, rfl, _, _, hnc, _⟩
  · simp [Builtin.append_, run_underlying ht, sizeOf, typeInfo, hi, Builtin.lenOf, Builtin.firstCells]
  · simp [Builtin.append_, run_underlying ht, sizeOf, typeInfo, hi, Builtin.lenOf, Builtin.firstCells, hnc, storeCells]

set_option maxRecDepth 100000 in
/-- Messages are appended to a row that the call has made. -/
theorem app_next {w5 w : World} {v : Value} {n : Nat} {xs : List Value} (hk : Keeps Free w5 w) (hown : w.ownsRow 0 38 9 v n xs) (hf : ∀ g, v.ownBlock = some g → w5.heap.size ≤ g) {A : Option Addr} {m c : Nat} {news : List Value}
    (hs : Sl w5 Free (.slice A m c) 9 news) (h1 : ∀ u ∈ news, u.oneCell' = true) (hnm : n + m ≤ 1000) (ty : TypeId) :
    ∃ v' w', (Builtin.append_ #[28, 28] ty #[v, .slice A m c]).run Try.prog w = .ok v' w' ∧ w'.ownsRow 0 38 9 v' (n + m) (xs ++ news) ∧ Keeps Free w5 w' ∧ (∀ g, v'.ownBlock = some g → w5.heap.size ≤ g) ∧
      (∀ (gn : Nat) (cs : Array Value), w.heap[gn]? = some (.cells cs 25 (0, 0)) → w'.heap[gn]? = some (.cells cs 25 (0, 0))) ∧ ∀ x : NodV, NodeOk w (fun k => some k = v.ownBlock) x → NodeOk w' (fun k => some k = v'.ownBlock) x := by
  obtain ⟨i0, hi, hz, hsz, hby⟩ := info_parts Try.info38
  obtain ⟨A', m', c', e, hl, _, _, hc⟩ := hs
  injection e with e1 e2 e3
  subst e1 e2 e3
  cases A with
  | none =>
    have hm0 : m = 0 := by
      rcases Nat.eq_zero_or_pos m with h0 | h0
      · exact h0
      · obtain ⟨b, off, e, _⟩ := hc (by omega)
        cases e
    subst hm0
    obtain rfl : news = [] := List.eq_nil_of_length_eq_zero (by omega)
    exact ⟨v, w, run_none Try.underlying28 hi hown c, by simpa using hown, hk, hf, fun _ _ h => h, fun _ h => h⟩
  | some ad =>
    have hcell : ∀ j u, news[j]? = some u → w.cell? (ad.add j) = some u := fun j u hj => by
      have hp : 0 < news.length := Nat.lt_of_le_of_lt (Nat.zero_le _) (List.getElem?_eq_some_iff.1 hj).1
      obtain ⟨b, off, e, _, hcell⟩ := hc hp
      injection e with e
      subst e
      rw [Go.WideShapes.add_plain]
      exact hk.cell (fun h => h) (hcell j u hj)
    obtain ⟨v', w', hr, h2, h3, _, h5⟩ := run_append_own_at (P := Try.prog) (w := w) 0 28 ty 38 i0 _ 9 _ Try.underlying28 hi hz hsz hby rfl (by omega) v n xs hown ad m c news hl hcell h1 (by simp [maxLen]; omega) (by omega) (by omega)
    refine ⟨v', w', hr, h2, hk.trans (S' := fun k => some k = v.ownBlock) ⟨h3.os, h3.tape, h3.output, h3.size, fun k hk' hne => h3.block k hk' hne⟩ fun k hk' => .inr (hf k hk'.symm), fun g hg => ?_, fun gn cs hgn => ?_, fun x hx => ?_⟩
    · rcases h5 with h5 | h5
      · exact hf g (h5 ▸ hg)
      · rw [h5] at hg
        injection hg with hg
        have := hk.size
        omega
    · refine (h3.block gn (laid_lt hgn) fun e => ?_).trans hgn
      exact own_ne_blk hown hgn (by decide) e.symm rfl
    · refine hx.into (S1 := fun k => some k = v.ownBlock) ⟨h3.os, h3.tape, h3.output, h3.size, fun k hk' hne => h3.block k hk' hne⟩ (fun _ _ h => h) fun k hlt hk' => ?_
      rcases h5 with h5 | h5
      · rw [← h5]; exact hk'
      · rw [h5] at hk'; injection hk' with hk'; omega

/-- What can be read does not lie in an empty block. -/
theorem node_off {w : World} {x : NodV} {g : Nat} {t : TypeId} (h : NodeOk w Free x) (hg : w.heap[g]? = some (.cells #[] t (0, 0))) : NodeOk w (fun k => some k = (Value.slice (some ⟨g, 0, none⟩) 0 0).ownBlock) x := by
  have key : ∀ {v : Value} {size : Nat} {xs : List Value}, Sl w Free v size xs → Sl w (fun k => some k = (Value.slice (some ⟨g, 0, none⟩) 0 0).ownBlock) v size xs := fun ⟨A, l, c, e, h1, h2, h3, hc⟩ => by
    refine ⟨A, l, c, e, h1, h2, h3, fun hp => ?_⟩
    obtain ⟨b, off, e2, _, hcell⟩ := hc hp
    refine ⟨b, off, e2, fun hb => ?_, hcell⟩
    have hb : b = g := by simpa [Value.ownBlock] using hb
    subst hb
    have h0 := hcell 0 _ (List.getElem?_eq_getElem hp)
    rw [cell_of_row w b _ _ _ _ hg] at h0
    simp at h0
  exact ⟨key h.log, key h.votes, key h.next, key h.mtch⟩

theorem plain_append {C : World → Prop} {o : Oper} {a : Act} {K : Act → World → Prop} {w w' : World} {s x : Operand} {v v' : Value} {A : Option Addr} {m c : Nat}
    (hop : o.op = .call { callee := .builtin .append, args := #[s, x], argTypes := #[28, 28] }) (hs : a.eval s = v) (hx : a.eval x = .slice A m c) (hr : (Builtin.append_ #[28, 28] o.type #[v, .slice A m c]).run Try.prog w = .ok v' w')
    (h : C w' ∧ K (a.put o.dst v') w') : Wc.plainUpon Try.prog C o a K ((execOp a.eval o).run Try.prog w) := by
  have : (execOp a.eval o).run Try.prog w = .ok (.value v') w' := by simp [execOp, hop, resolve, invoke, builtin, hs, hx, hr, Result.andThen]
  rw [this]
  exact h

theorem hands_open {w w' : World} {y : Nod} {ms : List Mes} {e : Ending} (h : Hands w y ms e w') : ∃ (la va na ma oa : Option Addr) (lc vl vc nl nc ml mc oc : Nat) (out : List MesV),
    e = .returned (.tuple #[.agg #[.int .i64 y.id, .int .i64 y.n, .int .i64 y.term, .int .i64 y.vote, .slice la y.log.length lc, .int .i64 y.commit, .int .i64 y.role, .int .i64 y.boss, .slice va vl vc, .slice na nl nc, .slice ma ml mc], .slice oa out.length oc]) ∧
      said out = ms ∧ MsgsOk w' Free (.slice oa out.length oc) out ∧ Keeps Free w w' ∧ NodeOk w' Free ⟨y, .slice la y.log.length lc, .slice va vl vc, .slice na nl nc, .slice ma ml mc⟩ := by
  obtain ⟨x', ov, out, rfl, rfl, hs, hn, hm, hk⟩ := h
  obtain ⟨n, lv, vv, nv, mv⟩ := x'
  have hnn := hn
  obtain ⟨⟨LA, LL, LC, rfl, hll, -⟩, ⟨VA, VL, VC, rfl, -⟩, ⟨NA, NL, NC, rfl, -⟩, ⟨MA, ML, MC, rfl, -⟩⟩ := hn
  obtain rfl : LL = n.log.length := by rw [itemCells_length] at hll; simp only at hll; omega
  have hmm := hm
  obtain ⟨OA, OL, OC, rfl, hol, -⟩ := hm.cells
  obtain rfl : OL = out.length := by rw [flat_length _ 9 (fun _ => rfl)] at hol; omega
  exact ⟨_, _, _, _, _, _, _, _, _, _, _, _, _, out, rfl, hs, hmm, hk, hnn⟩

theorem msgs_one {w : World} {S : Nat → Prop} {v : Value} {out : List MesV} (h : MsgsOk w S v out) : ∀ u ∈ out.flatMap mesCells, u.oneCell' = true := by
  intro u hu
  obtain ⟨m, hm, hu⟩ := List.mem_flatMap.1 hu
  obtain ⟨A, l, c, e, _⟩ := h.each m hm
  simp only [mesCells, e, List.mem_cons, List.not_mem_nil, or_false] at hu
  rcases hu with rfl | rfl | rfl | rfl | rfl | rfl | rfl | rfl | rfl <;> rfl

theorem others_len (x : Nod) : (others x).length ≤ x.n.toNat := by
  unfold others
  exact Nat.le_trans (List.length_filter_le _ _) (by simp)
theorem putSays_len (x : Nod) (c : Int) : (putSays x c).length ≤ x.n.toNat := by
  unfold putSays
  rw [List.length_map]
  have := others_len (put x c)
  rwa [(put_fields x c).2.1] at this
theorem leadSays_len (x : Nod) : (leadSays x).length ≤ x.n.toNat := by
  unfold leadSays
  split
  · exact putSays_len (crowned x) 0
  · simp
theorem timeout_len (x : Nod) : (timeout x).2.length ≤ 10 := by
  unfold timeout
  split
  · simp
  · rename_i h
    have g := good_of_wrong (x := x) (by omega)
    have h1 := others_len (stood x)
    have h2 := leadSays_len (stood x)
    have e : (stood x).n = x.n := rfl
    rw [e] at h1 h2
    have := g.n5
    simp only [List.length_append, List.length_map]
    omega
theorem beat_len (x : Nod) : (beat x).2.length ≤ 10 := by
  unfold beat
  split
  · simp
  · rename_i h
    have g := good_of_wrong (x := x) (by omega)
    have h1 := others_len x
    have := g.n5
    simp only [List.length_map]
    omega
theorem propose_len (x : Nod) (c : Int) : (propose x c).2.1.length ≤ 10 := by
  unfold propose
  split
  · simp
  · rename_i h
    have g := good_of_wrong (x := x) (by omega)
    have h1 := putSays_len x c
    have := g.n5
    simp only
    omega
theorem receive_len (x : Nod) (m : Mes) : (receive x m).2.length ≤ 10 := by
  by_cases h : wrong x ≠ 0 ∨ lost x m = true
  · unfold receive; rw [if_pos h]; simp
  · have hw : wrong x = 0 := by omega
    have hl : lost x m = false := by cases hl : lost x m; rfl; exact absurd (.inr hl) h
    rw [receive_turned hw hl]
    obtain ⟨hg, _⟩ := received_fits (good_of_wrong hw) hl
    generalize (if x.term < m.term then follow x m.term 0 else x) = y at hg
    have := hg.n5
    unfold turned
    split
    · simp [asked]
    split
    · unfold voted
      split
      · simp
      · have := leadSays_len { y with votes := insertB m.src y.votes }
        simp only at this ⊢
        omega
    split
    · unfold appended
      split
      · simp
      · simp only
        split <;> simp
    · unfold told
      split
      · simp
      split
      · simp only
        split <;> simp
      · simp

theorem hands_open3 {w w' : World} {y : Nod} {ms : List Mes} {b : Bool} {e : Ending} (h : ∃ x' ov out, e = .returned (.tuple #[.agg (nodCells x').toArray, ov, .bool b]) ∧ x'.n = y ∧ said out = ms ∧ NodeOk w' Free x' ∧ MsgsOk w' Free ov out ∧ Keeps Free w w') : ∃ (la va na ma oa : Option Addr) (lc vl vc nl nc ml mc oc : Nat) (out : List MesV),
    e = .returned (.tuple #[.agg #[.int .i64 y.id, .int .i64 y.n, .int .i64 y.term, .int .i64 y.vote, .slice la y.log.length lc, .int .i64 y.commit, .int .i64 y.role, .int .i64 y.boss, .slice va vl vc, .slice na nl nc, .slice ma ml mc], .slice oa out.length oc, .bool b]) ∧
      said out = ms ∧ MsgsOk w' Free (.slice oa out.length oc) out ∧ Keeps Free w w' ∧ NodeOk w' Free ⟨y, .slice la y.log.length lc, .slice va vl vc, .slice na nl nc, .slice ma ml mc⟩ := by
  obtain ⟨x', ov, out, rfl, rfl, hs, hn, hm, hk⟩ := h
  obtain ⟨n, lv, vv, nv, mv⟩ := x'
  have hnn := hn
  obtain ⟨⟨LA, LL, LC, rfl, hll, -⟩, ⟨VA, VL, VC, rfl, -⟩, ⟨NA, NL, NC, rfl, -⟩, ⟨MA, ML, MC, rfl, -⟩⟩ := hn
  obtain rfl : LL = n.log.length := by rw [itemCells_length] at hll; simp only at hll; omega
  have hmm := hm
  obtain ⟨OA, OL, OC, rfl, hol, -⟩ := hm.cells
  obtain rfl : OL = out.length := by rw [flat_length _ 9 (fun _ => rfl)] at hol; omega
  exact ⟨_, _, _, _, _, _, _, _, _, _, _, _, _, out, rfl, hs, hmm, hk, hnn⟩

/-- A node whose lists are slices. -/
def Shp (x : NodV) : Prop := ∃ la lc va vl vc na nl nc ma ml mc, x.lv = .slice la x.n.log.length lc ∧ x.vv = .slice va vl vc ∧ x.nv = .slice na nl nc ∧ x.mv = .slice ma ml mc

/-- What 'all' hands back. -/
def AllOf (w : World) (n : Nod) (m : Mes) (cmd : Int) (e : Ending) (w' : World) : Prop :=
  ∃ (nv ov : Value) (l : List NodV) (out : List MesV), e = .returned (.tuple #[nv, ov]) ∧ Sl w' Free nv 11 (l.flatMap nodCells) ∧ l.map NodV.n = [(timeout n).1, (beat n).1, (propose n cmd).1, (receive n m).1, restart n] ∧ (∀ x ∈ l, Shp x ∧ NodeOk w' Free x) ∧
    Sl w' Free ov 9 (out.flatMap mesCells) ∧ said out = (timeout n).2 ++ ((beat n).2 ++ ((propose n cmd).2.1 ++ (receive n m).2)) ∧ (∀ s ∈ out, ∃ A c, s.iv = .slice A s.m.items.length c) ∧ Keeps Free w w'


theorem restart_open {w w' : World} {y : Nod} {e : Ending} (h : ∃ x', e = .returned (.agg (nodCells x').toArray) ∧ x'.n = y ∧ NodeOk w' Free x' ∧ Keeps Free w w') : ∃ (la va na ma : Option Addr) (lc vl vc nl nc ml mc : Nat),
    e = .returned (.agg #[.int .i64 y.id, .int .i64 y.n, .int .i64 y.term, .int .i64 y.vote, .slice la y.log.length lc, .int .i64 y.commit, .int .i64 y.role, .int .i64 y.boss, .slice va vl vc, .slice na nl nc, .slice ma ml mc]) ∧ Keeps Free w w' ∧ NodeOk w' Free ⟨y, .slice la y.log.length lc, .slice va vl vc, .slice na nl nc, .slice ma ml mc⟩ := by
  obtain ⟨x', rfl, rfl, hn, hk⟩ := h
  obtain ⟨n, lv, vv, nv, mv⟩ := x'
  have hnn := hn
  obtain ⟨⟨LA, LL, LC, rfl, hll, -⟩, ⟨VA, VL, VC, rfl, -⟩, ⟨NA, NL, NC, rfl, -⟩, ⟨MA, ML, MC, rfl, -⟩⟩ := hn
  obtain rfl : LL = n.log.length := by rw [itemCells_length] at hll; simp only at hll; omega
  exact ⟨_, _, _, _, _, _, _, _, _, _, _, rfl, hk, hnn⟩

set_option maxRecDepth 100000 in
set_option maxHeartbeats 16000000 in
theorem all_any {w : World} {x : NodV} {m : MesV} (h : NodeOk w Free x) (hm : MesOk w Free m) (cmd : Int) :
    Calls Try.prog 35 #[.agg (nodCells x).toArray, .agg (mesCells m).toArray, .int .i64 cmd] w (AllOf w x.n m.m cmd) := by
  have hc1 : ∀ w1, Keeps Free w w1 → Calls Try.prog 20 #[.agg (nodCells x).toArray] w1 (Hands w1 (timeout x.n).1 (timeout x.n).2) := fun w1 hk => timeout_any (h.into hk (fun _ _ h => h) (fun _ _ h => h))
  have hc2 : ∀ w1, Keeps Free w w1 → Calls Try.prog 24 #[.agg (nodCells x).toArray] w1 (Hands w1 (beat x.n).1 (beat x.n).2) := fun w1 hk => beat_any (h.into hk (fun _ _ h => h) (fun _ _ h => h))
  have hc3 := fun w1 (hk : Keeps Free w w1) => propose_any (h.into (S' := Free) hk (fun _ _ h => h) (fun _ _ h => h)) cmd
  have hc4 : ∀ w1, Keeps Free w w1 → Calls Try.prog 30 #[.agg (nodCells x).toArray, .agg (mesCells m).toArray] w1 (Hands w1 (receive x.n m.m).1 (receive x.n m.m).2) := fun w1 hk => receive_any (h.into hk (fun _ _ h => h) (fun _ _ h => h)) (Sl.into hm hk (fun _ _ h => h) (fun _ _ h => h))
  have hc5 := fun w1 (hk : Keeps Free w w1) => restart_any (h.into (S' := Free) hk (fun _ _ h => h) (fun _ _ h => h))
  have HC1 := Lib.hid hc1; have HC2 := Lib.hid hc2; have HC3 := Lib.hid hc3; have HC4 := Lib.hid hc4; have HC5 := Lib.hid hc5
  clear hc1 hc2 hc3 hc4 hc5
  obtain ⟨n, lv, vv, nv, mv⟩ := x
  obtain ⟨⟨LA, LL, LC, rfl, hll, -⟩, ⟨VA, VL, VC, rfl, -⟩, ⟨NA, NL, NC, rfl, -⟩, ⟨MA, ML, MC, rfl, -⟩⟩ := h
  obtain ⟨m, iv⟩ := m
  obtain ⟨IA, IL, IC, rfl, hil, -⟩ := hm
  obtain rfl : LL = n.log.length := by rw [itemCells_length] at hll; simp only at hll; omega
  obtain rfl : IL = m.items.length := by rw [itemCells_length] at hil; simp only at hil; omega
  have hca : (nodCells ⟨n, .slice LA n.log.length LC, .slice VA VL VC, .slice NA NL NC, .slice MA ML MC⟩).toArray = #[.int .i64 n.id, .int .i64 n.n, .int .i64 n.term, .int .i64 n.vote, .slice LA n.log.length LC, .int .i64 n.commit, .int .i64 n.role, .int .i64 n.boss, .slice VA VL VC, .slice NA NL NC, .slice MA ML MC] := rfl
  have hcm : (mesCells ⟨m, .slice IA m.items.length IC⟩).toArray = #[.int .i64 m.kind, .int .i64 m.src, .int .i64 m.dst, .int .i64 m.term, .int .i64 m.index, .int .i64 m.logTerm, .int .i64 m.commit, .slice IA m.items.length IC, .bool m.yes] := rfl
  rw [hca] at HC1 HC2 HC3 HC4 HC5 ⊢
  rw [hcm] at HC4 ⊢
  simp only at HC1 HC2 HC3 HC4 HC5 ⊢
  clear hll hil hca hcm
  go_enter Try.func35, Try.ntmps35
  obtain ⟨k0, k1, k2⟩ := two_boxes w (.cells #[.int .i64 n.id, .int .i64 n.n, .int .i64 n.term, .int .i64 n.vote, .slice LA n.log.length LC, .int .i64 n.commit, .int .i64 n.role, .int .i64 n.boss, .slice VA VL VC, .slice NA NL NC, .slice MA ML MC] 25) (.cells #[.int .i64 m.kind, .int .i64 m.src, .int .i64 m.dst, .int .i64 m.term, .int .i64 m.index, .int .i64 m.logTerm, .int .i64 m.commit, .slice IA m.items.length IC, .bool m.yes] 38)
  obtain ⟨w0, hal0⟩ : ∃ u, (w.alloc (.cells #[.int .i64 n.id, .int .i64 n.n, .int .i64 n.term, .int .i64 n.vote, .slice LA n.log.length LC, .int .i64 n.commit, .int .i64 n.role, .int .i64 n.boss, .slice VA VL VC, .slice NA NL NC, .slice MA ML MC] 25)).alloc (.cells #[.int .i64 m.kind, .int .i64 m.src, .int .i64 m.dst, .int .i64 m.term, .int .i64 m.index, .int .i64 m.logTerm, .int .i64 m.commit, .slice IA m.items.length IC, .bool m.yes] 38) = u := ⟨_, rfl⟩
  obtain ⟨B, hB⟩ : ∃ B', w.heap.size = B' := ⟨_, rfl⟩
  rw [hal0] at k0 k1 k2
  rw [hB] at k1 k2
  have HK := Lib.hid k0
  obtain ⟨b0, b1, b2, b3, b4, b5, b6, b7, b8, b9, b10, bf⟩ := cells11 k1
  obtain ⟨d0, d1, d2, d3, d4, d5, d6, d7, d8⟩ := cells9 k2
  have HB1 := Lib.hid k1; have HB2 := Lib.hid k2
  clear k0 k1 k2
  go_wp2_with fail
  refine (HC1.out _ HK.out).mono ?_
  rintro e v1 hh
  obtain ⟨la1, va1, na1, ma1, oa1, lc1, vl1, vc1, nl1, nc1, ml1, mc1, oc1, out1, rfl, hs1, hm1, hk1, hn1⟩ := hands_open hh
  have ka1 := hk1.alloc (.cells #[.int .i64 (timeout n).1.id, .int .i64 (timeout n).1.n, .int .i64 (timeout n).1.term, .int .i64 (timeout n).1.vote, .slice la1 (timeout n).1.log.length lc1, .int .i64 (timeout n).1.commit, .int .i64 (timeout n).1.role, .int .i64 (timeout n).1.boss, .slice va1 vl1 vc1, .slice na1 nl1 nc1, .slice ma1 ml1 mc1] 25)
  have hb1 := heap_alloc_new v1 (.cells #[.int .i64 (timeout n).1.id, .int .i64 (timeout n).1.n, .int .i64 (timeout n).1.term, .int .i64 (timeout n).1.vote, .slice la1 (timeout n).1.log.length lc1, .int .i64 (timeout n).1.commit, .int .i64 (timeout n).1.role, .int .i64 (timeout n).1.boss, .slice va1 vl1 vc1, .slice na1 nl1 nc1, .slice ma1 ml1 mc1] 25)
  obtain ⟨u1, hal1⟩ : ∃ u, v1.alloc (.cells #[.int .i64 (timeout n).1.id, .int .i64 (timeout n).1.n, .int .i64 (timeout n).1.term, .int .i64 (timeout n).1.vote, .slice la1 (timeout n).1.log.length lc1, .int .i64 (timeout n).1.commit, .int .i64 (timeout n).1.role, .int .i64 (timeout n).1.boss, .slice va1 vl1 vc1, .slice na1 nl1 nc1, .slice ma1 ml1 mc1] 25) = u := ⟨_, rfl⟩
  obtain ⟨B1, hB1⟩ : ∃ B', v1.heap.size = B' := ⟨_, rfl⟩
  have kn1 : Keeps (fun _ => False) v1 (v1.alloc (.cells #[.int .i64 (timeout n).1.id, .int .i64 (timeout n).1.n, .int .i64 (timeout n).1.term, .int .i64 (timeout n).1.vote, .slice la1 (timeout n).1.log.length lc1, .int .i64 (timeout n).1.commit, .int .i64 (timeout n).1.role, .int .i64 (timeout n).1.boss, .slice va1 vl1 vc1, .slice na1 nl1 nc1, .slice ma1 ml1 mc1] 25)) := (Keeps.refl _ v1).alloc _
  rw [hal1] at ka1 hb1 kn1
  rw [hB1] at hb1
  have HMS1 := Lib.hid (hm1.into (S' := Free) kn1 (fun _ _ h => h) (fun _ _ h => h))
  have HS1 := Lib.hid hs1
  have HN1 := Lib.hid (hn1.into (S' := Free) kn1 (fun _ _ h => h) (fun _ _ h => h))
  have HK' := Lib.hid (HK.out.trans ka1 (fun _ h => .inl h))
  have HKA := Lib.hid ka1
  clear hm1 hs1 hk1 hn1 ka1 kn1 HK
  obtain ⟨HK⟩ : Nonempty (Hid _) := ⟨HK'⟩
  clear HK'
  have HB1' := Lib.hid (HKA.out.blk HB1.out)
  have HB2' := Lib.hid (HKA.out.blk HB2.out)
  have HX1 := Lib.hid hb1
  clear HB1 HB2 b0 b1 b2 b3 b4 b5 b6 b7 b8 b9 b10 bf d0 d1 d2 d3 d4 d5 d6 d7 d8  hb1
  obtain ⟨HB1⟩ : Nonempty (Hid _) := ⟨HB1'⟩
  obtain ⟨HB2⟩ : Nonempty (Hid _) := ⟨HB2'⟩
  clear HB1' HB2' HKA
  obtain ⟨b0, b1, b2, b3, b4, b5, b6, b7, b8, b9, b10, bf⟩ := cells11 HB1.out
  obtain ⟨d0, d1, d2, d3, d4, d5, d6, d7, d8⟩ := cells9 HB2.out
  go_wp2_with fail
  refine (HC2.out _ HK.out).mono ?_
  rintro e v2 hh
  obtain ⟨la2, va2, na2, ma2, oa2, lc2, vl2, vc2, nl2, nc2, ml2, mc2, oc2, out2, rfl, hs2, hm2, hk2, hn2⟩ := hands_open hh
  have ka2 := hk2.alloc (.cells #[.int .i64 (beat n).1.id, .int .i64 (beat n).1.n, .int .i64 (beat n).1.term, .int .i64 (beat n).1.vote, .slice la2 (beat n).1.log.length lc2, .int .i64 (beat n).1.commit, .int .i64 (beat n).1.role, .int .i64 (beat n).1.boss, .slice va2 vl2 vc2, .slice na2 nl2 nc2, .slice ma2 ml2 mc2] 25)
  have hb2 := heap_alloc_new v2 (.cells #[.int .i64 (beat n).1.id, .int .i64 (beat n).1.n, .int .i64 (beat n).1.term, .int .i64 (beat n).1.vote, .slice la2 (beat n).1.log.length lc2, .int .i64 (beat n).1.commit, .int .i64 (beat n).1.role, .int .i64 (beat n).1.boss, .slice va2 vl2 vc2, .slice na2 nl2 nc2, .slice ma2 ml2 mc2] 25)
  obtain ⟨u2, hal2⟩ : ∃ u, v2.alloc (.cells #[.int .i64 (beat n).1.id, .int .i64 (beat n).1.n, .int .i64 (beat n).1.term, .int .i64 (beat n).1.vote, .slice la2 (beat n).1.log.length lc2, .int .i64 (beat n).1.commit, .int .i64 (beat n).1.role, .int .i64 (beat n).1.boss, .slice va2 vl2 vc2, .slice na2 nl2 nc2, .slice ma2 ml2 mc2] 25) = u := ⟨_, rfl⟩
  obtain ⟨B2, hB2⟩ : ∃ B', v2.heap.size = B' := ⟨_, rfl⟩
  have kn2 : Keeps (fun _ => False) v2 (v2.alloc (.cells #[.int .i64 (beat n).1.id, .int .i64 (beat n).1.n, .int .i64 (beat n).1.term, .int .i64 (beat n).1.vote, .slice la2 (beat n).1.log.length lc2, .int .i64 (beat n).1.commit, .int .i64 (beat n).1.role, .int .i64 (beat n).1.boss, .slice va2 vl2 vc2, .slice na2 nl2 nc2, .slice ma2 ml2 mc2] 25)) := (Keeps.refl _ v2).alloc _
  rw [hal2] at ka2 hb2 kn2
  rw [hB2] at hb2
  have HMS2 := Lib.hid (hm2.into (S' := Free) kn2 (fun _ _ h => h) (fun _ _ h => h))
  have HS2 := Lib.hid hs2
  have HN2 := Lib.hid (hn2.into (S' := Free) kn2 (fun _ _ h => h) (fun _ _ h => h))
  have HK' := Lib.hid (HK.out.trans ka2 (fun _ h => .inl h))
  have HKA := Lib.hid ka2
  clear hm2 hs2 hk2 hn2 ka2 kn2 HK
  obtain ⟨HK⟩ : Nonempty (Hid _) := ⟨HK'⟩
  clear HK'
  have HB1' := Lib.hid (HKA.out.blk HB1.out)
  have HB2' := Lib.hid (HKA.out.blk HB2.out)
  have HX1' := Lib.hid (HKA.out.blk HX1.out)
  have HN1' := Lib.hid (HN1.out.into (S' := Free) HKA.out (fun _ _ h => h) (fun _ _ h => h))
  have HMS1' := Lib.hid (HMS1.out.into (S' := Free) HKA.out (fun _ _ h => h) (fun _ _ h => h))
  have HX2 := Lib.hid hb2
  clear HB1 HB2 b0 b1 b2 b3 b4 b5 b6 b7 b8 b9 b10 bf d0 d1 d2 d3 d4 d5 d6 d7 d8 HX1 HMS1 HN1 hb2
  obtain ⟨HB1⟩ : Nonempty (Hid _) := ⟨HB1'⟩
  obtain ⟨HB2⟩ : Nonempty (Hid _) := ⟨HB2'⟩
  clear HB1' HB2' HKA
  obtain ⟨HX1⟩ : Nonempty (Hid _) := ⟨HX1'⟩
  obtain ⟨HMS1⟩ : Nonempty (Hid _) := ⟨HMS1'⟩
  obtain ⟨HN1⟩ : Nonempty (Hid _) := ⟨HN1'⟩
  clear HX1' HMS1' HN1'
  obtain ⟨b0, b1, b2, b3, b4, b5, b6, b7, b8, b9, b10, bf⟩ := cells11 HB1.out
  obtain ⟨d0, d1, d2, d3, d4, d5, d6, d7, d8⟩ := cells9 HB2.out
  go_wp2_with fail
  refine (HC3.out _ HK.out).mono ?_
  rintro e v3 hh
  obtain ⟨la3, va3, na3, ma3, oa3, lc3, vl3, vc3, nl3, nc3, ml3, mc3, oc3, out3, rfl, hs3, hm3, hk3, hn3⟩ := hands_open3 hh
  have ka3 := hk3.alloc (.cells #[.int .i64 (propose n cmd).1.id, .int .i64 (propose n cmd).1.n, .int .i64 (propose n cmd).1.term, .int .i64 (propose n cmd).1.vote, .slice la3 (propose n cmd).1.log.length lc3, .int .i64 (propose n cmd).1.commit, .int .i64 (propose n cmd).1.role, .int .i64 (propose n cmd).1.boss, .slice va3 vl3 vc3, .slice na3 nl3 nc3, .slice ma3 ml3 mc3] 25)
  have hb3 := heap_alloc_new v3 (.cells #[.int .i64 (propose n cmd).1.id, .int .i64 (propose n cmd).1.n, .int .i64 (propose n cmd).1.term, .int .i64 (propose n cmd).1.vote, .slice la3 (propose n cmd).1.log.length lc3, .int .i64 (propose n cmd).1.commit, .int .i64 (propose n cmd).1.role, .int .i64 (propose n cmd).1.boss, .slice va3 vl3 vc3, .slice na3 nl3 nc3, .slice ma3 ml3 mc3] 25)
  obtain ⟨u3, hal3⟩ : ∃ u, v3.alloc (.cells #[.int .i64 (propose n cmd).1.id, .int .i64 (propose n cmd).1.n, .int .i64 (propose n cmd).1.term, .int .i64 (propose n cmd).1.vote, .slice la3 (propose n cmd).1.log.length lc3, .int .i64 (propose n cmd).1.commit, .int .i64 (propose n cmd).1.role, .int .i64 (propose n cmd).1.boss, .slice va3 vl3 vc3, .slice na3 nl3 nc3, .slice ma3 ml3 mc3] 25) = u := ⟨_, rfl⟩
  obtain ⟨B3, hB3⟩ : ∃ B', v3.heap.size = B' := ⟨_, rfl⟩
  have kn3 : Keeps (fun _ => False) v3 (v3.alloc (.cells #[.int .i64 (propose n cmd).1.id, .int .i64 (propose n cmd).1.n, .int .i64 (propose n cmd).1.term, .int .i64 (propose n cmd).1.vote, .slice la3 (propose n cmd).1.log.length lc3, .int .i64 (propose n cmd).1.commit, .int .i64 (propose n cmd).1.role, .int .i64 (propose n cmd).1.boss, .slice va3 vl3 vc3, .slice na3 nl3 nc3, .slice ma3 ml3 mc3] 25)) := (Keeps.refl _ v3).alloc _
  rw [hal3] at ka3 hb3 kn3
  rw [hB3] at hb3
  have HMS3 := Lib.hid (hm3.into (S' := Free) kn3 (fun _ _ h => h) (fun _ _ h => h))
  have HS3 := Lib.hid hs3
  have HN3 := Lib.hid (hn3.into (S' := Free) kn3 (fun _ _ h => h) (fun _ _ h => h))
  have HK' := Lib.hid (HK.out.trans ka3 (fun _ h => .inl h))
  have HKA := Lib.hid ka3
  clear hm3 hs3 hk3 hn3 ka3 kn3 HK
  obtain ⟨HK⟩ : Nonempty (Hid _) := ⟨HK'⟩
  clear HK'
  have HB1' := Lib.hid (HKA.out.blk HB1.out)
  have HB2' := Lib.hid (HKA.out.blk HB2.out)
  have HX1' := Lib.hid (HKA.out.blk HX1.out)
  have HX2' := Lib.hid (HKA.out.blk HX2.out)
  have HN1' := Lib.hid (HN1.out.into (S' := Free) HKA.out (fun _ _ h => h) (fun _ _ h => h))
  have HN2' := Lib.hid (HN2.out.into (S' := Free) HKA.out (fun _ _ h => h) (fun _ _ h => h))
  have HMS1' := Lib.hid (HMS1.out.into (S' := Free) HKA.out (fun _ _ h => h) (fun _ _ h => h))
  have HMS2' := Lib.hid (HMS2.out.into (S' := Free) HKA.out (fun _ _ h => h) (fun _ _ h => h))
  have HX3 := Lib.hid hb3
  clear HB1 HB2 b0 b1 b2 b3 b4 b5 b6 b7 b8 b9 b10 bf d0 d1 d2 d3 d4 d5 d6 d7 d8 HX1 HMS1 HN1 HX2 HMS2 HN2 hb3
  obtain ⟨HB1⟩ : Nonempty (Hid _) := ⟨HB1'⟩
  obtain ⟨HB2⟩ : Nonempty (Hid _) := ⟨HB2'⟩
  clear HB1' HB2' HKA
  obtain ⟨HX1⟩ : Nonempty (Hid _) := ⟨HX1'⟩
  obtain ⟨HMS1⟩ : Nonempty (Hid _) := ⟨HMS1'⟩
  obtain ⟨HN1⟩ : Nonempty (Hid _) := ⟨HN1'⟩
  clear HX1' HMS1' HN1'
  obtain ⟨HX2⟩ : Nonempty (Hid _) := ⟨HX2'⟩
  obtain ⟨HMS2⟩ : Nonempty (Hid _) := ⟨HMS2'⟩
  obtain ⟨HN2⟩ : Nonempty (Hid _) := ⟨HN2'⟩
  clear HX2' HMS2' HN2'
  obtain ⟨b0, b1, b2, b3, b4, b5, b6, b7, b8, b9, b10, bf⟩ := cells11 HB1.out
  obtain ⟨d0, d1, d2, d3, d4, d5, d6, d7, d8⟩ := cells9 HB2.out
  go_wp2_with fail
  refine (HC4.out _ HK.out).mono ?_
  rintro e v4 hh
  obtain ⟨la4, va4, na4, ma4, oa4, lc4, vl4, vc4, nl4, nc4, ml4, mc4, oc4, out4, rfl, hs4, hm4, hk4, hn4⟩ := hands_open hh
  have ka4 := hk4.alloc (.cells #[.int .i64 (receive n m).1.id, .int .i64 (receive n m).1.n, .int .i64 (receive n m).1.term, .int .i64 (receive n m).1.vote, .slice la4 (receive n m).1.log.length lc4, .int .i64 (receive n m).1.commit, .int .i64 (receive n m).1.role, .int .i64 (receive n m).1.boss, .slice va4 vl4 vc4, .slice na4 nl4 nc4, .slice ma4 ml4 mc4] 25)
  have hb4 := heap_alloc_new v4 (.cells #[.int .i64 (receive n m).1.id, .int .i64 (receive n m).1.n, .int .i64 (receive n m).1.term, .int .i64 (receive n m).1.vote, .slice la4 (receive n m).1.log.length lc4, .int .i64 (receive n m).1.commit, .int .i64 (receive n m).1.role, .int .i64 (receive n m).1.boss, .slice va4 vl4 vc4, .slice na4 nl4 nc4, .slice ma4 ml4 mc4] 25)
  obtain ⟨u4, hal4⟩ : ∃ u, v4.alloc (.cells #[.int .i64 (receive n m).1.id, .int .i64 (receive n m).1.n, .int .i64 (receive n m).1.term, .int .i64 (receive n m).1.vote, .slice la4 (receive n m).1.log.length lc4, .int .i64 (receive n m).1.commit, .int .i64 (receive n m).1.role, .int .i64 (receive n m).1.boss, .slice va4 vl4 vc4, .slice na4 nl4 nc4, .slice ma4 ml4 mc4] 25) = u := ⟨_, rfl⟩
  obtain ⟨B4, hB4⟩ : ∃ B', v4.heap.size = B' := ⟨_, rfl⟩
  have kn4 : Keeps (fun _ => False) v4 (v4.alloc (.cells #[.int .i64 (receive n m).1.id, .int .i64 (receive n m).1.n, .int .i64 (receive n m).1.term, .int .i64 (receive n m).1.vote, .slice la4 (receive n m).1.log.length lc4, .int .i64 (receive n m).1.commit, .int .i64 (receive n m).1.role, .int .i64 (receive n m).1.boss, .slice va4 vl4 vc4, .slice na4 nl4 nc4, .slice ma4 ml4 mc4] 25)) := (Keeps.refl _ v4).alloc _
  rw [hal4] at ka4 hb4 kn4
  rw [hB4] at hb4
  have HMS4 := Lib.hid (hm4.into (S' := Free) kn4 (fun _ _ h => h) (fun _ _ h => h))
  have HS4 := Lib.hid hs4
  have HN4 := Lib.hid (hn4.into (S' := Free) kn4 (fun _ _ h => h) (fun _ _ h => h))
  have HK' := Lib.hid (HK.out.trans ka4 (fun _ h => .inl h))
  have HKA := Lib.hid ka4
  clear hm4 hs4 hk4 hn4 ka4 kn4 HK
  obtain ⟨HK⟩ : Nonempty (Hid _) := ⟨HK'⟩
  clear HK'
  have HB1' := Lib.hid (HKA.out.blk HB1.out)
  have HB2' := Lib.hid (HKA.out.blk HB2.out)
  have HX1' := Lib.hid (HKA.out.blk HX1.out)
  have HX2' := Lib.hid (HKA.out.blk HX2.out)
  have HX3' := Lib.hid (HKA.out.blk HX3.out)
  have HN1' := Lib.hid (HN1.out.into (S' := Free) HKA.out (fun _ _ h => h) (fun _ _ h => h))
  have HN2' := Lib.hid (HN2.out.into (S' := Free) HKA.out (fun _ _ h => h) (fun _ _ h => h))
  have HN3' := Lib.hid (HN3.out.into (S' := Free) HKA.out (fun _ _ h => h) (fun _ _ h => h))
  have HMS1' := Lib.hid (HMS1.out.into (S' := Free) HKA.out (fun _ _ h => h) (fun _ _ h => h))
  have HMS2' := Lib.hid (HMS2.out.into (S' := Free) HKA.out (fun _ _ h => h) (fun _ _ h => h))
  have HMS3' := Lib.hid (HMS3.out.into (S' := Free) HKA.out (fun _ _ h => h) (fun _ _ h => h))
  have HX4 := Lib.hid hb4
  clear HB1 HB2 b0 b1 b2 b3 b4 b5 b6 b7 b8 b9 b10 bf d0 d1 d2 d3 d4 d5 d6 d7 d8 HX1 HMS1 HN1 HX2 HMS2 HN2 HX3 HMS3 HN3 hb4
  obtain ⟨HB1⟩ : Nonempty (Hid _) := ⟨HB1'⟩
  obtain ⟨HB2⟩ : Nonempty (Hid _) := ⟨HB2'⟩
  clear HB1' HB2' HKA
  obtain ⟨HX1⟩ : Nonempty (Hid _) := ⟨HX1'⟩
  obtain ⟨HMS1⟩ : Nonempty (Hid _) := ⟨HMS1'⟩
  obtain ⟨HN1⟩ : Nonempty (Hid _) := ⟨HN1'⟩
  clear HX1' HMS1' HN1'
  obtain ⟨HX2⟩ : Nonempty (Hid _) := ⟨HX2'⟩
  obtain ⟨HMS2⟩ : Nonempty (Hid _) := ⟨HMS2'⟩
  obtain ⟨HN2⟩ : Nonempty (Hid _) := ⟨HN2'⟩
  clear HX2' HMS2' HN2'
  obtain ⟨HX3⟩ : Nonempty (Hid _) := ⟨HX3'⟩
  obtain ⟨HMS3⟩ : Nonempty (Hid _) := ⟨HMS3'⟩
  obtain ⟨HN3⟩ : Nonempty (Hid _) := ⟨HN3'⟩
  clear HX3' HMS3' HN3'
  obtain ⟨b0, b1, b2, b3, b4, b5, b6, b7, b8, b9, b10, bf⟩ := cells11 HB1.out
  obtain ⟨d0, d1, d2, d3, d4, d5, d6, d7, d8⟩ := cells9 HB2.out
  go_upto_region 5 with fail
  have HL1 := Lib.hid (show out1.length ≤ 10 by have := congrArg List.length HS1.out; simp only [said, List.length_map] at this; rw [this]; exact timeout_len n)
  have HL2 := Lib.hid (show out2.length ≤ 10 by have := congrArg List.length HS2.out; simp only [said, List.length_map] at this; rw [this]; exact beat_len n)
  have HL3 := Lib.hid (show out3.length ≤ 10 by have := congrArg List.length HS3.out; simp only [said, List.length_map] at this; rw [this]; exact propose_len n cmd)
  have HL4 := Lib.hid (show out4.length ≤ 10 by have := congrArg List.length HS4.out; simp only [said, List.length_map] at this; rw [this]; exact receive_len n m)
  have fin : ∀ (W : World) (gn : Nat) (v : Value) (la5 va5 na5 ma5 : Option Addr) (lc5 vl5 vc5 nl5 nc5 ml5 mc5 : Nat), Keeps Free u4 W → W.heap[gn]? = some (.cells #[.int .i64 (timeout n).1.id, .int .i64 (timeout n).1.n, .int .i64 (timeout n).1.term, .int .i64 (timeout n).1.vote, .slice la1 (timeout n).1.log.length lc1, .int .i64 (timeout n).1.commit, .int .i64 (timeout n).1.role, .int .i64 (timeout n).1.boss, .slice va1 vl1 vc1, .slice na1 nl1 nc1, .slice ma1 ml1 mc1, .int .i64 (beat n).1.id, .int .i64 (beat n).1.n, .int .i64 (beat n).1.term, .int .i64 (beat n).1.vote, .slice la2 (beat n).1.log.length lc2, .int .i64 (beat n).1.commit, .int .i64 (beat n).1.role, .int .i64 (beat n).1.boss, .slice va2 vl2 vc2, .slice na2 nl2 nc2, .slice ma2 ml2 mc2, .int .i64 (propose n cmd).1.id, .int .i64 (propose n cmd).1.n, .int .i64 (propose n cmd).1.term, .int .i64 (propose n cmd).1.vote, .slice la3 (propose n cmd).1.log.length lc3, .int .i64 (propose n cmd).1.commit, .int .i64 (propose n cmd).1.role, .int .i64 (propose n cmd).1.boss, .slice va3 vl3 vc3, .slice na3 nl3 nc3, .slice ma3 ml3 mc3, .int .i64 (receive n m).1.id, .int .i64 (receive n m).1.n, .int .i64 (receive n m).1.term, .int .i64 (receive n m).1.vote, .slice la4 (receive n m).1.log.length lc4, .int .i64 (receive n m).1.commit, .int .i64 (receive n m).1.role, .int .i64 (receive n m).1.boss, .slice va4 vl4 vc4, .slice na4 nl4 nc4, .slice ma4 ml4 mc4, .int .i64 (restart n).id, .int .i64 (restart n).n, .int .i64 (restart n).term, .int .i64 (restart n).vote, .slice la5 (restart n).log.length lc5, .int .i64 (restart n).commit, .int .i64 (restart n).role, .int .i64 (restart n).boss, .slice va5 vl5 vc5, .slice na5 nl5 nc5, .slice ma5 ml5 mc5] 25 (0, 0)) →
      W.ownsRow 0 38 9 v (0 + out1.length + out2.length + out3.length + out4.length) ([] ++ out1.flatMap mesCells ++ out2.flatMap mesCells ++ out3.flatMap mesCells ++ out4.flatMap mesCells) → NodeOk W (fun k => some k = v.ownBlock) ⟨(restart n), .slice la5 (restart n).log.length lc5, .slice va5 vl5 vc5, .slice na5 nl5 nc5, .slice ma5 ml5 mc5⟩ → AllOf w n m cmd (.returned (.tuple #[.slice (some ⟨gn, 0, none⟩) 5 5, v])) W := by
    intro W gn v la5 va5 na5 ma5 lc5 vl5 vc5 nl5 nc5 ml5 mc5 hk hgn hown h5
    refine ⟨_, _, [⟨(timeout n).1, .slice la1 (timeout n).1.log.length lc1, .slice va1 vl1 vc1, .slice na1 nl1 nc1, .slice ma1 ml1 mc1⟩, ⟨(beat n).1, .slice la2 (beat n).1.log.length lc2, .slice va2 vl2 vc2, .slice na2 nl2 nc2, .slice ma2 ml2 mc2⟩, ⟨(propose n cmd).1, .slice la3 (propose n cmd).1.log.length lc3, .slice va3 vl3 vc3, .slice na3 nl3 nc3, .slice ma3 ml3 mc3⟩, ⟨(receive n m).1, .slice la4 (receive n m).1.log.length lc4, .slice va4 vl4 vc4, .slice na4 nl4 nc4, .slice ma4 ml4 mc4⟩, ⟨(restart n), .slice la5 (restart n).log.length lc5, .slice va5 vl5 vc5, .slice na5 nl5 nc5, .slice ma5 ml5 mc5⟩], out1 ++ (out2 ++ (out3 ++ out4)), rfl, ?_, rfl, ?_, ?_, ?_, ?_, HK.out.trans hk (fun _ h => .inl h)⟩
    · refine ⟨_, 5, 5, rfl, rfl, Nat.le_refl _, by simp [maxLen], fun _ => ⟨gn, 0, rfl, fun h => h, fun j u hj => ?_⟩⟩
      rw [Nat.zero_add, cell_of_row W gn j _ _ _ hgn, ← Array.getElem?_toList]
      exact hj
    · intro x hx
      simp only [List.mem_cons, List.not_mem_nil, or_false] at hx
      rcases hx with rfl | rfl | rfl | rfl | rfl <;> refine ⟨⟨_, _, _, _, _, _, _, _, _, _, _, rfl, rfl, rfl, rfl⟩, ?_⟩
      · exact HN1.out.into hk (fun _ _ h => h) (fun _ _ h => h)
      · exact HN2.out.into hk (fun _ _ h => h) (fun _ _ h => h)
      · exact HN3.out.into hk (fun _ _ h => h) (fun _ _ h => h)
      · exact HN4.out.into hk (fun _ _ h => h) (fun _ _ h => h)
      · exact h5.into (Keeps.refl Free W) (fun _ _ h => h.elim) (fun _ _ h => h.elim)
    · have := Sl.of_own (S := Free) hown fun _ _ h => h
      simpa only [List.nil_append, List.flatMap_append, List.append_assoc] using this
    · have e : ∀ a b : List MesV, said (a ++ b) = said a ++ said b := fun a b => List.map_append
      rw [e, e, e, HS1.out, HS2.out, HS3.out, HS4.out]
    · intro s hs
      have key : ∀ {w : World} {v : Value} {out : List MesV}, MsgsOk w Free v out → s ∈ out → ∃ A c, s.iv = .slice A s.m.items.length c := fun h hs => by
        obtain ⟨A, L, c, e, hl, _⟩ := h.each s hs
        rw [itemCells_length] at hl
        obtain rfl : L = s.m.items.length := by omega
        exact ⟨A, c, e⟩
      rcases List.mem_append.1 hs with h | hs
      · exact key HMS1.out h
      rcases List.mem_append.1 hs with h | hs
      · exact key HMS2.out h
      rcases List.mem_append.1 hs with h | hs
      · exact key HMS3.out h
      · exact key HMS4.out hs
  have FIN := Lib.hid fin
  clear fin b0 b1 b2 b3 b4 b5 b6 b7 b8 b9 b10 bf d0 d1 d2 d3 d4 d5 d6 d7 d8
  refine Wc.wp_region_first (C := fun w' => Keeps Free u4 w') (by kernel_rfl) ?_
  have HKW := Lib.hid (show Keeps Free u4 { u4 with drawn := u4.drawn + 1 } from (Keeps.refl Free u4).drew)
  obtain ⟨W, hW⟩ : ∃ W : World, W = { u4 with drawn := u4.drawn + 1 } := ⟨_, rfl⟩
  rw [← hW] at HKW ⊢
  clear hW
  apply Wc.wpAnyP_stays (by kernel_rfl) [0, 1, 2, 3, 4, 8, 10, 12, 14] _ _ _ 9 _ HKW.out (by kernel_rfl) ?hs ?hr
  case hs =>
    apply Wc.wpStays_step rfl rfl
    · intro w' hw'
      obtain ⟨e0, e1, e2, e3, e4, e5, e6, e7, e8, e9, e10, ef⟩ := cells11 (Keeps.blk hw' HX1.out)
      clear hw'
      go_simp
      exact ⟨rfl, rfl⟩
    go_simp
    apply Wc.wpStays_step rfl rfl
    · intro w' hw'
      obtain ⟨e0, e1, e2, e3, e4, e5, e6, e7, e8, e9, e10, ef⟩ := cells11 (Keeps.blk hw' HX2.out)
      clear hw'
      go_simp
      exact ⟨rfl, rfl⟩
    go_simp
    apply Wc.wpStays_step rfl rfl
    · intro w' hw'
      obtain ⟨e0, e1, e2, e3, e4, e5, e6, e7, e8, e9, e10, ef⟩ := cells11 (Keeps.blk hw' HX3.out)
      clear hw'
      go_simp
      exact ⟨rfl, rfl⟩
    go_simp
    apply Wc.wpStays_step rfl rfl
    · intro w' hw'
      obtain ⟨e0, e1, e2, e3, e4, e5, e6, e7, e8, e9, e10, ef⟩ := cells11 (Keeps.blk hw' HX4.out)
      clear hw'
      go_simp
      exact ⟨rfl, rfl⟩
    go_simp
    apply Wc.wpStays_step rfl rfl
    · intro w' hw'
      obtain ⟨e0, e1, e2, e3, e4, e5, e6, e7, e8, e9, e10, ef⟩ := cells11 (Keeps.blk hw' HB1.out)
      clear hw'
      go_simp
      exact ⟨rfl, rfl⟩
    go_simp
    apply Wc.wpStays_step rfl rfl
    · intro w' hw'
      clear hw'
      go_simp
      exact ⟨rfl, rfl⟩
    go_simp
    apply Wc.wpStays_step rfl rfl
    · intro w' hw'
      clear hw'
      go_simp
      exact ⟨rfl, rfl⟩
    go_simp
    apply Wc.wpStays_step rfl rfl
    · intro w' hw'
      clear hw'
      go_simp
      exact ⟨rfl, rfl⟩
    go_simp
    apply Wc.wpStays_step rfl rfl
    · intro w' hw'
      clear hw'
      go_simp
      exact ⟨rfl, rfl⟩
    go_simp
    exact rfl
  case hr =>
    apply Wc.wpAnyP_two (i := 5) (k := 7) (fuel := 8) (by kernel_rfl) rfl rfl rfl rfl
    · go_simp
      refine (HC5.out _ (HK.out.trans HKW.out (fun _ h => .inl h))).mono ?_
      rintro e W' hh
      obtain ⟨la5, va5, na5, ma5, lc5, vl5, vc5, nl5, nc5, ml5, mc5, rfl, hk5, hn5⟩ := restart_open hh
      have HKW' := Lib.hid (HKW.out.trans hk5 (fun _ h => .inl h))
      have HR5' := Lib.hid hn5
      refine ⟨_, rfl, HKW'.out, ?_⟩
      clear hk5 HKW hh hn5
      go_simp
      obtain ⟨W, rfl⟩ : ∃ W, W = W' := ⟨_, rfl⟩
      obtain ⟨HKW⟩ : Nonempty (Hid _) := ⟨HKW'⟩
      clear HKW'
      obtain ⟨HR5⟩ : Nonempty (Hid _) := ⟨HR5'⟩
      clear HR5'
      apply Wc.wpAnyP_two (i := 6) (k := 7) (fuel := 7) (by kernel_rfl) rfl rfl rfl rfl
      · go_simp
        refine ⟨HKW.out.alloc _, ?_⟩
        have hkn : Keeps Free W (W.alloc (.cells #[.int .i64 (timeout n).1.id, .int .i64 (timeout n).1.n, .int .i64 (timeout n).1.term, .int .i64 (timeout n).1.vote, .slice la1 (timeout n).1.log.length lc1, .int .i64 (timeout n).1.commit, .int .i64 (timeout n).1.role, .int .i64 (timeout n).1.boss, .slice va1 vl1 vc1, .slice na1 nl1 nc1, .slice ma1 ml1 mc1, .int .i64 (beat n).1.id, .int .i64 (beat n).1.n, .int .i64 (beat n).1.term, .int .i64 (beat n).1.vote, .slice la2 (beat n).1.log.length lc2, .int .i64 (beat n).1.commit, .int .i64 (beat n).1.role, .int .i64 (beat n).1.boss, .slice va2 vl2 vc2, .slice na2 nl2 nc2, .slice ma2 ml2 mc2, .int .i64 (propose n cmd).1.id, .int .i64 (propose n cmd).1.n, .int .i64 (propose n cmd).1.term, .int .i64 (propose n cmd).1.vote, .slice la3 (propose n cmd).1.log.length lc3, .int .i64 (propose n cmd).1.commit, .int .i64 (propose n cmd).1.role, .int .i64 (propose n cmd).1.boss, .slice va3 vl3 vc3, .slice na3 nl3 nc3, .slice ma3 ml3 mc3, .int .i64 (receive n m).1.id, .int .i64 (receive n m).1.n, .int .i64 (receive n m).1.term, .int .i64 (receive n m).1.vote, .slice la4 (receive n m).1.log.length lc4, .int .i64 (receive n m).1.commit, .int .i64 (receive n m).1.role, .int .i64 (receive n m).1.boss, .slice va4 vl4 vc4, .slice na4 nl4 nc4, .slice ma4 ml4 mc4, .int .i64 (restart n).id, .int .i64 (restart n).n, .int .i64 (restart n).term, .int .i64 (restart n).vote, .slice la5 (restart n).log.length lc5, .int .i64 (restart n).commit, .int .i64 (restart n).role, .int .i64 (restart n).boss, .slice va5 vl5 vc5, .slice na5 nl5 nc5, .slice ma5 ml5 mc5] 25)) := (Keeps.refl Free W).alloc (.cells #[.int .i64 (timeout n).1.id, .int .i64 (timeout n).1.n, .int .i64 (timeout n).1.term, .int .i64 (timeout n).1.vote, .slice la1 (timeout n).1.log.length lc1, .int .i64 (timeout n).1.commit, .int .i64 (timeout n).1.role, .int .i64 (timeout n).1.boss, .slice va1 vl1 vc1, .slice na1 nl1 nc1, .slice ma1 ml1 mc1, .int .i64 (beat n).1.id, .int .i64 (beat n).1.n, .int .i64 (beat n).1.term, .int .i64 (beat n).1.vote, .slice la2 (beat n).1.log.length lc2, .int .i64 (beat n).1.commit, .int .i64 (beat n).1.role, .int .i64 (beat n).1.boss, .slice va2 vl2 vc2, .slice na2 nl2 nc2, .slice ma2 ml2 mc2, .int .i64 (propose n cmd).1.id, .int .i64 (propose n cmd).1.n, .int .i64 (propose n cmd).1.term, .int .i64 (propose n cmd).1.vote, .slice la3 (propose n cmd).1.log.length lc3, .int .i64 (propose n cmd).1.commit, .int .i64 (propose n cmd).1.role, .int .i64 (propose n cmd).1.boss, .slice va3 vl3 vc3, .slice na3 nl3 nc3, .slice ma3 ml3 mc3, .int .i64 (receive n m).1.id, .int .i64 (receive n m).1.n, .int .i64 (receive n m).1.term, .int .i64 (receive n m).1.vote, .slice la4 (receive n m).1.log.length lc4, .int .i64 (receive n m).1.commit, .int .i64 (receive n m).1.role, .int .i64 (receive n m).1.boss, .slice va4 vl4 vc4, .slice na4 nl4 nc4, .slice ma4 ml4 mc4, .int .i64 (restart n).id, .int .i64 (restart n).n, .int .i64 (restart n).term, .int .i64 (restart n).vote, .slice la5 (restart n).log.length lc5, .int .i64 (restart n).commit, .int .i64 (restart n).role, .int .i64 (restart n).boss, .slice va5 vl5 vc5, .slice na5 nl5 nc5, .slice ma5 ml5 mc5] 25)
        have HKW' := Lib.hid (HKW.out.alloc (.cells #[.int .i64 (timeout n).1.id, .int .i64 (timeout n).1.n, .int .i64 (timeout n).1.term, .int .i64 (timeout n).1.vote, .slice la1 (timeout n).1.log.length lc1, .int .i64 (timeout n).1.commit, .int .i64 (timeout n).1.role, .int .i64 (timeout n).1.boss, .slice va1 vl1 vc1, .slice na1 nl1 nc1, .slice ma1 ml1 mc1, .int .i64 (beat n).1.id, .int .i64 (beat n).1.n, .int .i64 (beat n).1.term, .int .i64 (beat n).1.vote, .slice la2 (beat n).1.log.length lc2, .int .i64 (beat n).1.commit, .int .i64 (beat n).1.role, .int .i64 (beat n).1.boss, .slice va2 vl2 vc2, .slice na2 nl2 nc2, .slice ma2 ml2 mc2, .int .i64 (propose n cmd).1.id, .int .i64 (propose n cmd).1.n, .int .i64 (propose n cmd).1.term, .int .i64 (propose n cmd).1.vote, .slice la3 (propose n cmd).1.log.length lc3, .int .i64 (propose n cmd).1.commit, .int .i64 (propose n cmd).1.role, .int .i64 (propose n cmd).1.boss, .slice va3 vl3 vc3, .slice na3 nl3 nc3, .slice ma3 ml3 mc3, .int .i64 (receive n m).1.id, .int .i64 (receive n m).1.n, .int .i64 (receive n m).1.term, .int .i64 (receive n m).1.vote, .slice la4 (receive n m).1.log.length lc4, .int .i64 (receive n m).1.commit, .int .i64 (receive n m).1.role, .int .i64 (receive n m).1.boss, .slice va4 vl4 vc4, .slice na4 nl4 nc4, .slice ma4 ml4 mc4, .int .i64 (restart n).id, .int .i64 (restart n).n, .int .i64 (restart n).term, .int .i64 (restart n).vote, .slice la5 (restart n).log.length lc5, .int .i64 (restart n).commit, .int .i64 (restart n).role, .int .i64 (restart n).boss, .slice va5 vl5 vc5, .slice na5 nl5 nc5, .slice ma5 ml5 mc5] 25))
        have hnew := heap_alloc_new W (.cells #[.int .i64 (timeout n).1.id, .int .i64 (timeout n).1.n, .int .i64 (timeout n).1.term, .int .i64 (timeout n).1.vote, .slice la1 (timeout n).1.log.length lc1, .int .i64 (timeout n).1.commit, .int .i64 (timeout n).1.role, .int .i64 (timeout n).1.boss, .slice va1 vl1 vc1, .slice na1 nl1 nc1, .slice ma1 ml1 mc1, .int .i64 (beat n).1.id, .int .i64 (beat n).1.n, .int .i64 (beat n).1.term, .int .i64 (beat n).1.vote, .slice la2 (beat n).1.log.length lc2, .int .i64 (beat n).1.commit, .int .i64 (beat n).1.role, .int .i64 (beat n).1.boss, .slice va2 vl2 vc2, .slice na2 nl2 nc2, .slice ma2 ml2 mc2, .int .i64 (propose n cmd).1.id, .int .i64 (propose n cmd).1.n, .int .i64 (propose n cmd).1.term, .int .i64 (propose n cmd).1.vote, .slice la3 (propose n cmd).1.log.length lc3, .int .i64 (propose n cmd).1.commit, .int .i64 (propose n cmd).1.role, .int .i64 (propose n cmd).1.boss, .slice va3 vl3 vc3, .slice na3 nl3 nc3, .slice ma3 ml3 mc3, .int .i64 (receive n m).1.id, .int .i64 (receive n m).1.n, .int .i64 (receive n m).1.term, .int .i64 (receive n m).1.vote, .slice la4 (receive n m).1.log.length lc4, .int .i64 (receive n m).1.commit, .int .i64 (receive n m).1.role, .int .i64 (receive n m).1.boss, .slice va4 vl4 vc4, .slice na4 nl4 nc4, .slice ma4 ml4 mc4, .int .i64 (restart n).id, .int .i64 (restart n).n, .int .i64 (restart n).term, .int .i64 (restart n).vote, .slice la5 (restart n).log.length lc5, .int .i64 (restart n).commit, .int .i64 (restart n).role, .int .i64 (restart n).boss, .slice va5 vl5 vc5, .slice na5 nl5 nc5, .slice ma5 ml5 mc5] 25)
        have HR5' := Lib.hid (HR5.out.into (S' := Free) hkn (fun _ _ h => h) fun _ _ h => h)
        clear HR5
        generalize W.alloc (.cells #[.int .i64 (timeout n).1.id, .int .i64 (timeout n).1.n, .int .i64 (timeout n).1.term, .int .i64 (timeout n).1.vote, .slice la1 (timeout n).1.log.length lc1, .int .i64 (timeout n).1.commit, .int .i64 (timeout n).1.role, .int .i64 (timeout n).1.boss, .slice va1 vl1 vc1, .slice na1 nl1 nc1, .slice ma1 ml1 mc1, .int .i64 (beat n).1.id, .int .i64 (beat n).1.n, .int .i64 (beat n).1.term, .int .i64 (beat n).1.vote, .slice la2 (beat n).1.log.length lc2, .int .i64 (beat n).1.commit, .int .i64 (beat n).1.role, .int .i64 (beat n).1.boss, .slice va2 vl2 vc2, .slice na2 nl2 nc2, .slice ma2 ml2 mc2, .int .i64 (propose n cmd).1.id, .int .i64 (propose n cmd).1.n, .int .i64 (propose n cmd).1.term, .int .i64 (propose n cmd).1.vote, .slice la3 (propose n cmd).1.log.length lc3, .int .i64 (propose n cmd).1.commit, .int .i64 (propose n cmd).1.role, .int .i64 (propose n cmd).1.boss, .slice va3 vl3 vc3, .slice na3 nl3 nc3, .slice ma3 ml3 mc3, .int .i64 (receive n m).1.id, .int .i64 (receive n m).1.n, .int .i64 (receive n m).1.term, .int .i64 (receive n m).1.vote, .slice la4 (receive n m).1.log.length lc4, .int .i64 (receive n m).1.commit, .int .i64 (receive n m).1.role, .int .i64 (receive n m).1.boss, .slice va4 vl4 vc4, .slice na4 nl4 nc4, .slice ma4 ml4 mc4, .int .i64 (restart n).id, .int .i64 (restart n).n, .int .i64 (restart n).term, .int .i64 (restart n).vote, .slice la5 (restart n).log.length lc5, .int .i64 (restart n).commit, .int .i64 (restart n).role, .int .i64 (restart n).boss, .slice va5 vl5 vc5, .slice na5 nl5 nc5, .slice ma5 ml5 mc5] 25) = W' at *
        generalize W.heap.size = gn at *
        have HGN' := Lib.hid hnew
        clear hkn hnew HKW
        obtain ⟨W, rfl⟩ : ∃ W, W = W' := ⟨_, rfl⟩
        obtain ⟨HKW⟩ : Nonempty (Hid _) := ⟨HKW'⟩
        clear HKW'
        obtain ⟨HR5⟩ : Nonempty (Hid _) := ⟨HR5'⟩
        clear HR5'
        obtain ⟨HGN⟩ : Nonempty (Hid _) := ⟨HGN'⟩
        clear HGN'
        apply Wc.wpAnyP_one (i := 7) (fuel := 6) (by kernel_rfl) rfl rfl
        go_simp
        refine ⟨HKW.out.alloc _, ?_⟩
        have hkn : Keeps Free W (W.alloc (.cells #[] 38)) := (Keeps.refl Free W).alloc (.cells #[] 38)
        have HKW' := Lib.hid (HKW.out.alloc (.cells #[] 38))
        have hnew := heap_alloc_new W (.cells #[] 38)
        have HGN' := Lib.hid (hkn.blk HGN.out)
        clear HGN
        have HR5' := Lib.hid (show NodeOk (W.alloc (.cells #[] 38)) (fun k => some k = (Value.slice (some ⟨W.heap.size, 0, none⟩) 0 0).ownBlock) _ from HR5.out.into hkn (fun _ _ h => h) fun k hlt hk' => by
          have : k = W.heap.size := by simpa [Value.ownBlock] using hk'
          omega)
        clear HR5
        have hrow := World.ownsRow_lit (w := W) (base := 0) (e := 38) (size := 9) #[] 0 (Nat.zero_le _) (by simp [maxLen]) rfl
        have HOF := Lib.hid (show ∀ g, (Value.slice (some ⟨W.heap.size, 0, none⟩) 0 0).ownBlock = some g → u4.heap.size ≤ g from fun g hg => by
          have : W.heap.size = g := by simpa [Value.ownBlock] using hg
          rw [← this]; exact HKW.out.size)
        generalize W.alloc (.cells #[] 38) = W' at *
        generalize W.heap.size = g7 at *
        have HOWN' := Lib.hid (show W'.ownsRow 0 38 9 (.slice (some ⟨g7, 0, none⟩) 0 0) 0 [] from hrow)
        clear hrow hkn hnew HKW
        obtain ⟨W, rfl⟩ : ∃ W, W = W' := ⟨_, rfl⟩
        obtain ⟨HKW⟩ : Nonempty (Hid _) := ⟨HKW'⟩
        clear HKW'
        obtain ⟨HR5⟩ : Nonempty (Hid _) := ⟨HR5'⟩
        clear HR5'
        obtain ⟨HGN⟩ : Nonempty (Hid _) := ⟨HGN'⟩
        clear HGN'
        obtain ⟨HOWN⟩ : Nonempty (Hid _) := ⟨HOWN'⟩
        clear HOWN'
        apply Wc.wpAnyP_one (i := 9) (fuel := 5) (by kernel_rfl) rfl rfl
        obtain ⟨v', W', hrun, hown, hkw, hof, hgn, hnx⟩ := app_next HKW.out HOWN.out HOF.out HMS1.out.cells (msgs_one HMS1.out) (by have := HL1.out; omega) 28
        have HKW' := Lib.hid hkw
        have HOWN' := Lib.hid hown
        have HOF' := Lib.hid hof
        have HR5' := Lib.hid (hnx _ HR5.out)
        clear HR5 hnx
        have HGN' := Lib.hid (hgn _ _ HGN.out)
        clear HGN
        refine plain_append rfl rfl rfl hrun ⟨hkw, ?_⟩
        clear hrun hown hkw hof hgn HKW HOWN HOF
        go_simp
        obtain ⟨HOF⟩ : Nonempty (Hid _) := ⟨HOF'⟩
        clear HOF'
        obtain ⟨W, rfl⟩ : ∃ W, W = W' := ⟨_, rfl⟩
        obtain ⟨HKW⟩ : Nonempty (Hid _) := ⟨HKW'⟩
        clear HKW'
        obtain ⟨HR5⟩ : Nonempty (Hid _) := ⟨HR5'⟩
        clear HR5'
        obtain ⟨HGN⟩ : Nonempty (Hid _) := ⟨HGN'⟩
        clear HGN'
        obtain ⟨HOWN⟩ : Nonempty (Hid _) := ⟨HOWN'⟩
        clear HOWN'
        apply Wc.wpAnyP_one (i := 11) (fuel := 4) (by kernel_rfl) rfl rfl
        obtain ⟨v', W', hrun, hown, hkw, hof, hgn, hnx⟩ := app_next HKW.out HOWN.out HOF.out HMS2.out.cells (msgs_one HMS2.out) (by have := HL1.out; have := HL2.out; omega) 28
        have HKW' := Lib.hid hkw
        have HOWN' := Lib.hid hown
        have HOF' := Lib.hid hof
        have HR5' := Lib.hid (hnx _ HR5.out)
        clear HR5 hnx
        have HGN' := Lib.hid (hgn _ _ HGN.out)
        clear HGN
        refine plain_append rfl rfl rfl hrun ⟨hkw, ?_⟩
        clear hrun hown hkw hof hgn HKW HOWN HOF
        go_simp
        obtain ⟨HOF⟩ : Nonempty (Hid _) := ⟨HOF'⟩
        clear HOF'
        obtain ⟨W, rfl⟩ : ∃ W, W = W' := ⟨_, rfl⟩
        obtain ⟨HKW⟩ : Nonempty (Hid _) := ⟨HKW'⟩
        clear HKW'
        obtain ⟨HR5⟩ : Nonempty (Hid _) := ⟨HR5'⟩
        clear HR5'
        obtain ⟨HGN⟩ : Nonempty (Hid _) := ⟨HGN'⟩
        clear HGN'
        obtain ⟨HOWN⟩ : Nonempty (Hid _) := ⟨HOWN'⟩
        clear HOWN'
        apply Wc.wpAnyP_one (i := 13) (fuel := 3) (by kernel_rfl) rfl rfl
        obtain ⟨v', W', hrun, hown, hkw, hof, hgn, hnx⟩ := app_next HKW.out HOWN.out HOF.out HMS3.out.cells (msgs_one HMS3.out) (by have := HL1.out; have := HL2.out; have := HL3.out; omega) 28
        have HKW' := Lib.hid hkw
        have HOWN' := Lib.hid hown
        have HOF' := Lib.hid hof
        have HR5' := Lib.hid (hnx _ HR5.out)
        clear HR5 hnx
        have HGN' := Lib.hid (hgn _ _ HGN.out)
        clear HGN
        refine plain_append rfl rfl rfl hrun ⟨hkw, ?_⟩
        clear hrun hown hkw hof hgn HKW HOWN HOF
        go_simp
        obtain ⟨HOF⟩ : Nonempty (Hid _) := ⟨HOF'⟩
        clear HOF'
        obtain ⟨W, rfl⟩ : ∃ W, W = W' := ⟨_, rfl⟩
        obtain ⟨HKW⟩ : Nonempty (Hid _) := ⟨HKW'⟩
        clear HKW'
        obtain ⟨HR5⟩ : Nonempty (Hid _) := ⟨HR5'⟩
        clear HR5'
        obtain ⟨HGN⟩ : Nonempty (Hid _) := ⟨HGN'⟩
        clear HGN'
        obtain ⟨HOWN⟩ : Nonempty (Hid _) := ⟨HOWN'⟩
        clear HOWN'
        apply Wc.wpAnyP_one (i := 15) (fuel := 2) (by kernel_rfl) rfl rfl
        obtain ⟨v', W', hrun, hown, hkw, hof, hgn, hnx⟩ := app_next HKW.out HOWN.out HOF.out HMS4.out.cells (msgs_one HMS4.out) (by have := HL1.out; have := HL2.out; have := HL3.out; have := HL4.out; omega) 28
        have HKW' := Lib.hid hkw
        have HOWN' := Lib.hid hown
        have HOF' := Lib.hid hof
        have HR5' := Lib.hid (hnx _ HR5.out)
        clear HR5 hnx
        have HGN' := Lib.hid (hgn _ _ HGN.out)
        clear HGN
        refine plain_append rfl rfl rfl hrun ⟨hkw, ?_⟩
        clear hrun hown hkw hof hgn HKW HOWN HOF
        go_simp
        obtain ⟨HOF⟩ : Nonempty (Hid _) := ⟨HOF'⟩
        clear HOF'
        obtain ⟨W, rfl⟩ : ∃ W, W = W' := ⟨_, rfl⟩
        obtain ⟨HKW⟩ : Nonempty (Hid _) := ⟨HKW'⟩
        clear HKW'
        obtain ⟨HR5⟩ : Nonempty (Hid _) := ⟨HR5'⟩
        clear HR5'
        obtain ⟨HGN⟩ : Nonempty (Hid _) := ⟨HGN'⟩
        clear HGN'
        obtain ⟨HOWN⟩ : Nonempty (Hid _) := ⟨HOWN'⟩
        clear HOWN'
        apply Wc.wpAnyP_stays (by kernel_rfl) [16, 17] _ _ _ 0 _ HKW.out (by kernel_rfl) ?hs ?hr
        case hs =>
          apply Wc.wpStays_step rfl rfl
          · intro w' hw'
            clear hw'
            go_simp
            exact ⟨rfl, rfl⟩
          go_simp
          apply Wc.wpStays_step rfl rfl
          · intro w' hw'
            clear hw'
            go_simp
            exact ⟨rfl, rfl⟩
          go_simp
          exact rfl
        case hr =>
          refine ⟨by kernel_rfl, ?_⟩
          go_wp2_with fail
          refine bodyPost_ret (v := .tuple #[.slice (some ⟨gn, 0, none⟩) 5 5, _]) (by simp [results, Try.results35, go_sem]; rfl) rfl ?_
          exact FIN.out _ _ _ _ _ _ _ _ _ _ _ _ _ _ HKW.out HGN.out HOWN.out HR5.out
      · go_simp
        refine ⟨HKW.out.alloc _, ?_⟩
        have hkn : Keeps Free W (W.alloc (.cells #[] 38)) := (Keeps.refl Free W).alloc (.cells #[] 38)
        have HKW' := Lib.hid (HKW.out.alloc (.cells #[] 38))
        have hnew := heap_alloc_new W (.cells #[] 38)
        have HR5' := Lib.hid (show NodeOk (W.alloc (.cells #[] 38)) (fun k => some k = (Value.slice (some ⟨W.heap.size, 0, none⟩) 0 0).ownBlock) _ from HR5.out.into hkn (fun _ _ h => h) fun k hlt hk' => by
          have : k = W.heap.size := by simpa [Value.ownBlock] using hk'
          omega)
        clear HR5
        have hrow := World.ownsRow_lit (w := W) (base := 0) (e := 38) (size := 9) #[] 0 (Nat.zero_le _) (by simp [maxLen]) rfl
        have HOF := Lib.hid (show ∀ g, (Value.slice (some ⟨W.heap.size, 0, none⟩) 0 0).ownBlock = some g → u4.heap.size ≤ g from fun g hg => by
          have : W.heap.size = g := by simpa [Value.ownBlock] using hg
          rw [← this]; exact HKW.out.size)
        generalize W.alloc (.cells #[] 38) = W' at *
        generalize W.heap.size = g7 at *
        have HOWN' := Lib.hid (show W'.ownsRow 0 38 9 (.slice (some ⟨g7, 0, none⟩) 0 0) 0 [] from hrow)
        clear hrow hkn hnew HKW
        obtain ⟨W, rfl⟩ : ∃ W, W = W' := ⟨_, rfl⟩
        obtain ⟨HKW⟩ : Nonempty (Hid _) := ⟨HKW'⟩
        clear HKW'
        obtain ⟨HR5⟩ : Nonempty (Hid _) := ⟨HR5'⟩
        clear HR5'
        obtain ⟨HOWN⟩ : Nonempty (Hid _) := ⟨HOWN'⟩
        clear HOWN'
        apply Wc.wpAnyP_two (i := 6) (k := 9) (fuel := 6) (by kernel_rfl) rfl rfl rfl rfl
        · go_simp
          refine ⟨HKW.out.alloc _, ?_⟩
          have hkn : Keeps Free W (W.alloc (.cells #[.int .i64 (timeout n).1.id, .int .i64 (timeout n).1.n, .int .i64 (timeout n).1.term, .int .i64 (timeout n).1.vote, .slice la1 (timeout n).1.log.length lc1, .int .i64 (timeout n).1.commit, .int .i64 (timeout n).1.role, .int .i64 (timeout n).1.boss, .slice va1 vl1 vc1, .slice na1 nl1 nc1, .slice ma1 ml1 mc1, .int .i64 (beat n).1.id, .int .i64 (beat n).1.n, .int .i64 (beat n).1.term, .int .i64 (beat n).1.vote, .slice la2 (beat n).1.log.length lc2, .int .i64 (beat n).1.commit, .int .i64 (beat n).1.role, .int .i64 (beat n).1.boss, .slice va2 vl2 vc2, .slice na2 nl2 nc2, .slice ma2 ml2 mc2, .int .i64 (propose n cmd).1.id, .int .i64 (propose n cmd).1.n, .int .i64 (propose n cmd).1.term, .int .i64 (propose n cmd).1.vote, .slice la3 (propose n cmd).1.log.length lc3, .int .i64 (propose n cmd).1.commit, .int .i64 (propose n cmd).1.role, .int .i64 (propose n cmd).1.boss, .slice va3 vl3 vc3, .slice na3 nl3 nc3, .slice ma3 ml3 mc3, .int .i64 (receive n m).1.id, .int .i64 (receive n m).1.n, .int .i64 (receive n m).1.term, .int .i64 (receive n m).1.vote, .slice la4 (receive n m).1.log.length lc4, .int .i64 (receive n m).1.commit, .int .i64 (receive n m).1.role, .int .i64 (receive n m).1.boss, .slice va4 vl4 vc4, .slice na4 nl4 nc4, .slice ma4 ml4 mc4, .int .i64 (restart n).id, .int .i64 (restart n).n, .int .i64 (restart n).term, .int .i64 (restart n).vote, .slice la5 (restart n).log.length lc5, .int .i64 (restart n).commit, .int .i64 (restart n).role, .int .i64 (restart n).boss, .slice va5 vl5 vc5, .slice na5 nl5 nc5, .slice ma5 ml5 mc5] 25)) := (Keeps.refl Free W).alloc (.cells #[.int .i64 (timeout n).1.id, .int .i64 (timeout n).1.n, .int .i64 (timeout n).1.term, .int .i64 (timeout n).1.vote, .slice la1 (timeout n).1.log.length lc1, .int .i64 (timeout n).1.commit, .int .i64 (timeout n).1.role, .int .i64 (timeout n).1.boss, .slice va1 vl1 vc1, .slice na1 nl1 nc1, .slice ma1 ml1 mc1, .int .i64 (beat n).1.id, .int .i64 (beat n).1.n, .int .i64 (beat n).1.term, .int .i64 (beat n).1.vote, .slice la2 (beat n).1.log.length lc2, .int .i64 (beat n).1.commit, .int .i64 (beat n).1.role, .int .i64 (beat n).1.boss, .slice va2 vl2 vc2, .slice na2 nl2 nc2, .slice ma2 ml2 mc2, .int .i64 (propose n cmd).1.id, .int .i64 (propose n cmd).1.n, .int .i64 (propose n cmd).1.term, .int .i64 (propose n cmd).1.vote, .slice la3 (propose n cmd).1.log.length lc3, .int .i64 (propose n cmd).1.commit, .int .i64 (propose n cmd).1.role, .int .i64 (propose n cmd).1.boss, .slice va3 vl3 vc3, .slice na3 nl3 nc3, .slice ma3 ml3 mc3, .int .i64 (receive n m).1.id, .int .i64 (receive n m).1.n, .int .i64 (receive n m).1.term, .int .i64 (receive n m).1.vote, .slice la4 (receive n m).1.log.length lc4, .int .i64 (receive n m).1.commit, .int .i64 (receive n m).1.role, .int .i64 (receive n m).1.boss, .slice va4 vl4 vc4, .slice na4 nl4 nc4, .slice ma4 ml4 mc4, .int .i64 (restart n).id, .int .i64 (restart n).n, .int .i64 (restart n).term, .int .i64 (restart n).vote, .slice la5 (restart n).log.length lc5, .int .i64 (restart n).commit, .int .i64 (restart n).role, .int .i64 (restart n).boss, .slice va5 vl5 vc5, .slice na5 nl5 nc5, .slice ma5 ml5 mc5] 25)
          have HKW' := Lib.hid (HKW.out.alloc (.cells #[.int .i64 (timeout n).1.id, .int .i64 (timeout n).1.n, .int .i64 (timeout n).1.term, .int .i64 (timeout n).1.vote, .slice la1 (timeout n).1.log.length lc1, .int .i64 (timeout n).1.commit, .int .i64 (timeout n).1.role, .int .i64 (timeout n).1.boss, .slice va1 vl1 vc1, .slice na1 nl1 nc1, .slice ma1 ml1 mc1, .int .i64 (beat n).1.id, .int .i64 (beat n).1.n, .int .i64 (beat n).1.term, .int .i64 (beat n).1.vote, .slice la2 (beat n).1.log.length lc2, .int .i64 (beat n).1.commit, .int .i64 (beat n).1.role, .int .i64 (beat n).1.boss, .slice va2 vl2 vc2, .slice na2 nl2 nc2, .slice ma2 ml2 mc2, .int .i64 (propose n cmd).1.id, .int .i64 (propose n cmd).1.n, .int .i64 (propose n cmd).1.term, .int .i64 (propose n cmd).1.vote, .slice la3 (propose n cmd).1.log.length lc3, .int .i64 (propose n cmd).1.commit, .int .i64 (propose n cmd).1.role, .int .i64 (propose n cmd).1.boss, .slice va3 vl3 vc3, .slice na3 nl3 nc3, .slice ma3 ml3 mc3, .int .i64 (receive n m).1.id, .int .i64 (receive n m).1.n, .int .i64 (receive n m).1.term, .int .i64 (receive n m).1.vote, .slice la4 (receive n m).1.log.length lc4, .int .i64 (receive n m).1.commit, .int .i64 (receive n m).1.role, .int .i64 (receive n m).1.boss, .slice va4 vl4 vc4, .slice na4 nl4 nc4, .slice ma4 ml4 mc4, .int .i64 (restart n).id, .int .i64 (restart n).n, .int .i64 (restart n).term, .int .i64 (restart n).vote, .slice la5 (restart n).log.length lc5, .int .i64 (restart n).commit, .int .i64 (restart n).role, .int .i64 (restart n).boss, .slice va5 vl5 vc5, .slice na5 nl5 nc5, .slice ma5 ml5 mc5] 25))
          have hnew := heap_alloc_new W (.cells #[.int .i64 (timeout n).1.id, .int .i64 (timeout n).1.n, .int .i64 (timeout n).1.term, .int .i64 (timeout n).1.vote, .slice la1 (timeout n).1.log.length lc1, .int .i64 (timeout n).1.commit, .int .i64 (timeout n).1.role, .int .i64 (timeout n).1.boss, .slice va1 vl1 vc1, .slice na1 nl1 nc1, .slice ma1 ml1 mc1, .int .i64 (beat n).1.id, .int .i64 (beat n).1.n, .int .i64 (beat n).1.term, .int .i64 (beat n).1.vote, .slice la2 (beat n).1.log.length lc2, .int .i64 (beat n).1.commit, .int .i64 (beat n).1.role, .int .i64 (beat n).1.boss, .slice va2 vl2 vc2, .slice na2 nl2 nc2, .slice ma2 ml2 mc2, .int .i64 (propose n cmd).1.id, .int .i64 (propose n cmd).1.n, .int .i64 (propose n cmd).1.term, .int .i64 (propose n cmd).1.vote, .slice la3 (propose n cmd).1.log.length lc3, .int .i64 (propose n cmd).1.commit, .int .i64 (propose n cmd).1.role, .int .i64 (propose n cmd).1.boss, .slice va3 vl3 vc3, .slice na3 nl3 nc3, .slice ma3 ml3 mc3, .int .i64 (receive n m).1.id, .int .i64 (receive n m).1.n, .int .i64 (receive n m).1.term, .int .i64 (receive n m).1.vote, .slice la4 (receive n m).1.log.length lc4, .int .i64 (receive n m).1.commit, .int .i64 (receive n m).1.role, .int .i64 (receive n m).1.boss, .slice va4 vl4 vc4, .slice na4 nl4 nc4, .slice ma4 ml4 mc4, .int .i64 (restart n).id, .int .i64 (restart n).n, .int .i64 (restart n).term, .int .i64 (restart n).vote, .slice la5 (restart n).log.length lc5, .int .i64 (restart n).commit, .int .i64 (restart n).role, .int .i64 (restart n).boss, .slice va5 vl5 vc5, .slice na5 nl5 nc5, .slice ma5 ml5 mc5] 25)
          have HOWN' := Lib.hid (own_later HOWN.out hkn)
          clear HOWN
          have HR5' := Lib.hid (HR5.out.into (S' := fun k => some k = Value.ownBlock _) hkn (fun _ _ h => h.elim) fun _ _ h => h)
          clear HR5
          generalize W.alloc (.cells #[.int .i64 (timeout n).1.id, .int .i64 (timeout n).1.n, .int .i64 (timeout n).1.term, .int .i64 (timeout n).1.vote, .slice la1 (timeout n).1.log.length lc1, .int .i64 (timeout n).1.commit, .int .i64 (timeout n).1.role, .int .i64 (timeout n).1.boss, .slice va1 vl1 vc1, .slice na1 nl1 nc1, .slice ma1 ml1 mc1, .int .i64 (beat n).1.id, .int .i64 (beat n).1.n, .int .i64 (beat n).1.term, .int .i64 (beat n).1.vote, .slice la2 (beat n).1.log.length lc2, .int .i64 (beat n).1.commit, .int .i64 (beat n).1.role, .int .i64 (beat n).1.boss, .slice va2 vl2 vc2, .slice na2 nl2 nc2, .slice ma2 ml2 mc2, .int .i64 (propose n cmd).1.id, .int .i64 (propose n cmd).1.n, .int .i64 (propose n cmd).1.term, .int .i64 (propose n cmd).1.vote, .slice la3 (propose n cmd).1.log.length lc3, .int .i64 (propose n cmd).1.commit, .int .i64 (propose n cmd).1.role, .int .i64 (propose n cmd).1.boss, .slice va3 vl3 vc3, .slice na3 nl3 nc3, .slice ma3 ml3 mc3, .int .i64 (receive n m).1.id, .int .i64 (receive n m).1.n, .int .i64 (receive n m).1.term, .int .i64 (receive n m).1.vote, .slice la4 (receive n m).1.log.length lc4, .int .i64 (receive n m).1.commit, .int .i64 (receive n m).1.role, .int .i64 (receive n m).1.boss, .slice va4 vl4 vc4, .slice na4 nl4 nc4, .slice ma4 ml4 mc4, .int .i64 (restart n).id, .int .i64 (restart n).n, .int .i64 (restart n).term, .int .i64 (restart n).vote, .slice la5 (restart n).log.length lc5, .int .i64 (restart n).commit, .int .i64 (restart n).role, .int .i64 (restart n).boss, .slice va5 vl5 vc5, .slice na5 nl5 nc5, .slice ma5 ml5 mc5] 25) = W' at *
          generalize W.heap.size = gn at *
          have HGN' := Lib.hid hnew
          clear hkn hnew HKW
          obtain ⟨W, rfl⟩ : ∃ W, W = W' := ⟨_, rfl⟩
          obtain ⟨HKW⟩ : Nonempty (Hid _) := ⟨HKW'⟩
          clear HKW'
          obtain ⟨HR5⟩ : Nonempty (Hid _) := ⟨HR5'⟩
          clear HR5'
          obtain ⟨HGN⟩ : Nonempty (Hid _) := ⟨HGN'⟩
          clear HGN'
          obtain ⟨HOWN⟩ : Nonempty (Hid _) := ⟨HOWN'⟩
          clear HOWN'
          apply Wc.wpAnyP_one (i := 9) (fuel := 5) (by kernel_rfl) rfl rfl
          obtain ⟨v', W', hrun, hown, hkw, hof, hgn, hnx⟩ := app_next HKW.out HOWN.out HOF.out HMS1.out.cells (msgs_one HMS1.out) (by have := HL1.out; omega) 28
          have HKW' := Lib.hid hkw
          have HOWN' := Lib.hid hown
          have HOF' := Lib.hid hof
          have HR5' := Lib.hid (hnx _ HR5.out)
          clear HR5 hnx
          have HGN' := Lib.hid (hgn _ _ HGN.out)
          clear HGN
          refine plain_append rfl rfl rfl hrun ⟨hkw, ?_⟩
          clear hrun hown hkw hof hgn HKW HOWN HOF
          go_simp
          obtain ⟨HOF⟩ : Nonempty (Hid _) := ⟨HOF'⟩
          clear HOF'
          obtain ⟨W, rfl⟩ : ∃ W, W = W' := ⟨_, rfl⟩
          obtain ⟨HKW⟩ : Nonempty (Hid _) := ⟨HKW'⟩
          clear HKW'
          obtain ⟨HR5⟩ : Nonempty (Hid _) := ⟨HR5'⟩
          clear HR5'
          obtain ⟨HGN⟩ : Nonempty (Hid _) := ⟨HGN'⟩
          clear HGN'
          obtain ⟨HOWN⟩ : Nonempty (Hid _) := ⟨HOWN'⟩
          clear HOWN'
          apply Wc.wpAnyP_one (i := 11) (fuel := 4) (by kernel_rfl) rfl rfl
          obtain ⟨v', W', hrun, hown, hkw, hof, hgn, hnx⟩ := app_next HKW.out HOWN.out HOF.out HMS2.out.cells (msgs_one HMS2.out) (by have := HL1.out; have := HL2.out; omega) 28
          have HKW' := Lib.hid hkw
          have HOWN' := Lib.hid hown
          have HOF' := Lib.hid hof
          have HR5' := Lib.hid (hnx _ HR5.out)
          clear HR5 hnx
          have HGN' := Lib.hid (hgn _ _ HGN.out)
          clear HGN
          refine plain_append rfl rfl rfl hrun ⟨hkw, ?_⟩
          clear hrun hown hkw hof hgn HKW HOWN HOF
          go_simp
          obtain ⟨HOF⟩ : Nonempty (Hid _) := ⟨HOF'⟩
          clear HOF'
          obtain ⟨W, rfl⟩ : ∃ W, W = W' := ⟨_, rfl⟩
          obtain ⟨HKW⟩ : Nonempty (Hid _) := ⟨HKW'⟩
          clear HKW'
          obtain ⟨HR5⟩ : Nonempty (Hid _) := ⟨HR5'⟩
          clear HR5'
          obtain ⟨HGN⟩ : Nonempty (Hid _) := ⟨HGN'⟩
          clear HGN'
          obtain ⟨HOWN⟩ : Nonempty (Hid _) := ⟨HOWN'⟩
          clear HOWN'
          apply Wc.wpAnyP_one (i := 13) (fuel := 3) (by kernel_rfl) rfl rfl
          obtain ⟨v', W', hrun, hown, hkw, hof, hgn, hnx⟩ := app_next HKW.out HOWN.out HOF.out HMS3.out.cells (msgs_one HMS3.out) (by have := HL1.out; have := HL2.out; have := HL3.out; omega) 28
          have HKW' := Lib.hid hkw
          have HOWN' := Lib.hid hown
          have HOF' := Lib.hid hof
          have HR5' := Lib.hid (hnx _ HR5.out)
          clear HR5 hnx
          have HGN' := Lib.hid (hgn _ _ HGN.out)
          clear HGN
          refine plain_append rfl rfl rfl hrun ⟨hkw, ?_⟩
          clear hrun hown hkw hof hgn HKW HOWN HOF
          go_simp
          obtain ⟨HOF⟩ : Nonempty (Hid _) := ⟨HOF'⟩
          clear HOF'
          obtain ⟨W, rfl⟩ : ∃ W, W = W' := ⟨_, rfl⟩
          obtain ⟨HKW⟩ : Nonempty (Hid _) := ⟨HKW'⟩
          clear HKW'
          obtain ⟨HR5⟩ : Nonempty (Hid _) := ⟨HR5'⟩
          clear HR5'
          obtain ⟨HGN⟩ : Nonempty (Hid _) := ⟨HGN'⟩
          clear HGN'
          obtain ⟨HOWN⟩ : Nonempty (Hid _) := ⟨HOWN'⟩
          clear HOWN'
          apply Wc.wpAnyP_one (i := 15) (fuel := 2) (by kernel_rfl) rfl rfl
          obtain ⟨v', W', hrun, hown, hkw, hof, hgn, hnx⟩ := app_next HKW.out HOWN.out HOF.out HMS4.out.cells (msgs_one HMS4.out) (by have := HL1.out; have := HL2.out; have := HL3.out; have := HL4.out; omega) 28
          have HKW' := Lib.hid hkw
          have HOWN' := Lib.hid hown
          have HOF' := Lib.hid hof
          have HR5' := Lib.hid (hnx _ HR5.out)
          clear HR5 hnx
          have HGN' := Lib.hid (hgn _ _ HGN.out)
          clear HGN
          refine plain_append rfl rfl rfl hrun ⟨hkw, ?_⟩
          clear hrun hown hkw hof hgn HKW HOWN HOF
          go_simp
          obtain ⟨HOF⟩ : Nonempty (Hid _) := ⟨HOF'⟩
          clear HOF'
          obtain ⟨W, rfl⟩ : ∃ W, W = W' := ⟨_, rfl⟩
          obtain ⟨HKW⟩ : Nonempty (Hid _) := ⟨HKW'⟩
          clear HKW'
          obtain ⟨HR5⟩ : Nonempty (Hid _) := ⟨HR5'⟩
          clear HR5'
          obtain ⟨HGN⟩ : Nonempty (Hid _) := ⟨HGN'⟩
          clear HGN'
          obtain ⟨HOWN⟩ : Nonempty (Hid _) := ⟨HOWN'⟩
          clear HOWN'
          apply Wc.wpAnyP_stays (by kernel_rfl) [16, 17] _ _ _ 0 _ HKW.out (by kernel_rfl) ?hs ?hr
          case hs =>
            apply Wc.wpStays_step rfl rfl
            · intro w' hw'
              clear hw'
              go_simp
              exact ⟨rfl, rfl⟩
            go_simp
            apply Wc.wpStays_step rfl rfl
            · intro w' hw'
              clear hw'
              go_simp
              exact ⟨rfl, rfl⟩
            go_simp
            exact rfl
          case hr =>
            refine ⟨by kernel_rfl, ?_⟩
            go_wp2_with fail
            refine bodyPost_ret (v := .tuple #[.slice (some ⟨gn, 0, none⟩) 5 5, _]) (by simp [results, Try.results35, go_sem]; rfl) rfl ?_
            exact FIN.out _ _ _ _ _ _ _ _ _ _ _ _ _ _ HKW.out HGN.out HOWN.out HR5.out
        · obtain ⟨v', W', hrun, hown, hkw, hof, hgn, hnx⟩ := app_next HKW.out HOWN.out HOF.out HMS1.out.cells (msgs_one HMS1.out) (by have := HL1.out; omega) 28
          have HKW' := Lib.hid hkw
          have HOWN' := Lib.hid hown
          have HOF' := Lib.hid hof
          have HR5' := Lib.hid (hnx _ HR5.out)
          clear HR5 hnx
          refine plain_append rfl rfl rfl hrun ⟨hkw, ?_⟩
          clear hrun hown hkw hof hgn HKW HOWN HOF
          go_simp
          obtain ⟨HOF⟩ : Nonempty (Hid _) := ⟨HOF'⟩
          clear HOF'
          obtain ⟨W, rfl⟩ : ∃ W, W = W' := ⟨_, rfl⟩
          obtain ⟨HKW⟩ : Nonempty (Hid _) := ⟨HKW'⟩
          clear HKW'
          obtain ⟨HR5⟩ : Nonempty (Hid _) := ⟨HR5'⟩
          clear HR5'
          obtain ⟨HOWN⟩ : Nonempty (Hid _) := ⟨HOWN'⟩
          clear HOWN'
          apply Wc.wpAnyP_two (i := 6) (k := 11) (fuel := 5) (by kernel_rfl) rfl rfl rfl rfl
          · go_simp
            refine ⟨HKW.out.alloc _, ?_⟩
            have hkn : Keeps Free W (W.alloc (.cells #[.int .i64 (timeout n).1.id, .int .i64 (timeout n).1.n, .int .i64 (timeout n).1.term, .int .i64 (timeout n).1.vote, .slice la1 (timeout n).1.log.length lc1, .int .i64 (timeout n).1.commit, .int .i64 (timeout n).1.role, .int .i64 (timeout n).1.boss, .slice va1 vl1 vc1, .slice na1 nl1 nc1, .slice ma1 ml1 mc1, .int .i64 (beat n).1.id, .int .i64 (beat n).1.n, .int .i64 (beat n).1.term, .int .i64 (beat n).1.vote, .slice la2 (beat n).1.log.length lc2, .int .i64 (beat n).1.commit, .int .i64 (beat n).1.role, .int .i64 (beat n).1.boss, .slice va2 vl2 vc2, .slice na2 nl2 nc2, .slice ma2 ml2 mc2, .int .i64 (propose n cmd).1.id, .int .i64 (propose n cmd).1.n, .int .i64 (propose n cmd).1.term, .int .i64 (propose n cmd).1.vote, .slice la3 (propose n cmd).1.log.length lc3, .int .i64 (propose n cmd).1.commit, .int .i64 (propose n cmd).1.role, .int .i64 (propose n cmd).1.boss, .slice va3 vl3 vc3, .slice na3 nl3 nc3, .slice ma3 ml3 mc3, .int .i64 (receive n m).1.id, .int .i64 (receive n m).1.n, .int .i64 (receive n m).1.term, .int .i64 (receive n m).1.vote, .slice la4 (receive n m).1.log.length lc4, .int .i64 (receive n m).1.commit, .int .i64 (receive n m).1.role, .int .i64 (receive n m).1.boss, .slice va4 vl4 vc4, .slice na4 nl4 nc4, .slice ma4 ml4 mc4, .int .i64 (restart n).id, .int .i64 (restart n).n, .int .i64 (restart n).term, .int .i64 (restart n).vote, .slice la5 (restart n).log.length lc5, .int .i64 (restart n).commit, .int .i64 (restart n).role, .int .i64 (restart n).boss, .slice va5 vl5 vc5, .slice na5 nl5 nc5, .slice ma5 ml5 mc5] 25)) := (Keeps.refl Free W).alloc (.cells #[.int .i64 (timeout n).1.id, .int .i64 (timeout n).1.n, .int .i64 (timeout n).1.term, .int .i64 (timeout n).1.vote, .slice la1 (timeout n).1.log.length lc1, .int .i64 (timeout n).1.commit, .int .i64 (timeout n).1.role, .int .i64 (timeout n).1.boss, .slice va1 vl1 vc1, .slice na1 nl1 nc1, .slice ma1 ml1 mc1, .int .i64 (beat n).1.id, .int .i64 (beat n).1.n, .int .i64 (beat n).1.term, .int .i64 (beat n).1.vote, .slice la2 (beat n).1.log.length lc2, .int .i64 (beat n).1.commit, .int .i64 (beat n).1.role, .int .i64 (beat n).1.boss, .slice va2 vl2 vc2, .slice na2 nl2 nc2, .slice ma2 ml2 mc2, .int .i64 (propose n cmd).1.id, .int .i64 (propose n cmd).1.n, .int .i64 (propose n cmd).1.term, .int .i64 (propose n cmd).1.vote, .slice la3 (propose n cmd).1.log.length lc3, .int .i64 (propose n cmd).1.commit, .int .i64 (propose n cmd).1.role, .int .i64 (propose n cmd).1.boss, .slice va3 vl3 vc3, .slice na3 nl3 nc3, .slice ma3 ml3 mc3, .int .i64 (receive n m).1.id, .int .i64 (receive n m).1.n, .int .i64 (receive n m).1.term, .int .i64 (receive n m).1.vote, .slice la4 (receive n m).1.log.length lc4, .int .i64 (receive n m).1.commit, .int .i64 (receive n m).1.role, .int .i64 (receive n m).1.boss, .slice va4 vl4 vc4, .slice na4 nl4 nc4, .slice ma4 ml4 mc4, .int .i64 (restart n).id, .int .i64 (restart n).n, .int .i64 (restart n).term, .int .i64 (restart n).vote, .slice la5 (restart n).log.length lc5, .int .i64 (restart n).commit, .int .i64 (restart n).role, .int .i64 (restart n).boss, .slice va5 vl5 vc5, .slice na5 nl5 nc5, .slice ma5 ml5 mc5] 25)
            have HKW' := Lib.hid (HKW.out.alloc (.cells #[.int .i64 (timeout n).1.id, .int .i64 (timeout n).1.n, .int .i64 (timeout n).1.term, .int .i64 (timeout n).1.vote, .slice la1 (timeout n).1.log.length lc1, .int .i64 (timeout n).1.commit, .int .i64 (timeout n).1.role, .int .i64 (timeout n).1.boss, .slice va1 vl1 vc1, .slice na1 nl1 nc1, .slice ma1 ml1 mc1, .int .i64 (beat n).1.id, .int .i64 (beat n).1.n, .int .i64 (beat n).1.term, .int .i64 (beat n).1.vote, .slice la2 (beat n).1.log.length lc2, .int .i64 (beat n).1.commit, .int .i64 (beat n).1.role, .int .i64 (beat n).1.boss, .slice va2 vl2 vc2, .slice na2 nl2 nc2, .slice ma2 ml2 mc2, .int .i64 (propose n cmd).1.id, .int .i64 (propose n cmd).1.n, .int .i64 (propose n cmd).1.term, .int .i64 (propose n cmd).1.vote, .slice la3 (propose n cmd).1.log.length lc3, .int .i64 (propose n cmd).1.commit, .int .i64 (propose n cmd).1.role, .int .i64 (propose n cmd).1.boss, .slice va3 vl3 vc3, .slice na3 nl3 nc3, .slice ma3 ml3 mc3, .int .i64 (receive n m).1.id, .int .i64 (receive n m).1.n, .int .i64 (receive n m).1.term, .int .i64 (receive n m).1.vote, .slice la4 (receive n m).1.log.length lc4, .int .i64 (receive n m).1.commit, .int .i64 (receive n m).1.role, .int .i64 (receive n m).1.boss, .slice va4 vl4 vc4, .slice na4 nl4 nc4, .slice ma4 ml4 mc4, .int .i64 (restart n).id, .int .i64 (restart n).n, .int .i64 (restart n).term, .int .i64 (restart n).vote, .slice la5 (restart n).log.length lc5, .int .i64 (restart n).commit, .int .i64 (restart n).role, .int .i64 (restart n).boss, .slice va5 vl5 vc5, .slice na5 nl5 nc5, .slice ma5 ml5 mc5] 25))
            have hnew := heap_alloc_new W (.cells #[.int .i64 (timeout n).1.id, .int .i64 (timeout n).1.n, .int .i64 (timeout n).1.term, .int .i64 (timeout n).1.vote, .slice la1 (timeout n).1.log.length lc1, .int .i64 (timeout n).1.commit, .int .i64 (timeout n).1.role, .int .i64 (timeout n).1.boss, .slice va1 vl1 vc1, .slice na1 nl1 nc1, .slice ma1 ml1 mc1, .int .i64 (beat n).1.id, .int .i64 (beat n).1.n, .int .i64 (beat n).1.term, .int .i64 (beat n).1.vote, .slice la2 (beat n).1.log.length lc2, .int .i64 (beat n).1.commit, .int .i64 (beat n).1.role, .int .i64 (beat n).1.boss, .slice va2 vl2 vc2, .slice na2 nl2 nc2, .slice ma2 ml2 mc2, .int .i64 (propose n cmd).1.id, .int .i64 (propose n cmd).1.n, .int .i64 (propose n cmd).1.term, .int .i64 (propose n cmd).1.vote, .slice la3 (propose n cmd).1.log.length lc3, .int .i64 (propose n cmd).1.commit, .int .i64 (propose n cmd).1.role, .int .i64 (propose n cmd).1.boss, .slice va3 vl3 vc3, .slice na3 nl3 nc3, .slice ma3 ml3 mc3, .int .i64 (receive n m).1.id, .int .i64 (receive n m).1.n, .int .i64 (receive n m).1.term, .int .i64 (receive n m).1.vote, .slice la4 (receive n m).1.log.length lc4, .int .i64 (receive n m).1.commit, .int .i64 (receive n m).1.role, .int .i64 (receive n m).1.boss, .slice va4 vl4 vc4, .slice na4 nl4 nc4, .slice ma4 ml4 mc4, .int .i64 (restart n).id, .int .i64 (restart n).n, .int .i64 (restart n).term, .int .i64 (restart n).vote, .slice la5 (restart n).log.length lc5, .int .i64 (restart n).commit, .int .i64 (restart n).role, .int .i64 (restart n).boss, .slice va5 vl5 vc5, .slice na5 nl5 nc5, .slice ma5 ml5 mc5] 25)
            have HOWN' := Lib.hid (own_later HOWN.out hkn)
            clear HOWN
            have HR5' := Lib.hid (HR5.out.into (S' := fun k => some k = Value.ownBlock _) hkn (fun _ _ h => h.elim) fun _ _ h => h)
            clear HR5
            generalize W.alloc (.cells #[.int .i64 (timeout n).1.id, .int .i64 (timeout n).1.n, .int .i64 (timeout n).1.term, .int .i64 (timeout n).1.vote, .slice la1 (timeout n).1.log.length lc1, .int .i64 (timeout n).1.commit, .int .i64 (timeout n).1.role, .int .i64 (timeout n).1.boss, .slice va1 vl1 vc1, .slice na1 nl1 nc1, .slice ma1 ml1 mc1, .int .i64 (beat n).1.id, .int .i64 (beat n).1.n, .int .i64 (beat n).1.term, .int .i64 (beat n).1.vote, .slice la2 (beat n).1.log.length lc2, .int .i64 (beat n).1.commit, .int .i64 (beat n).1.role, .int .i64 (beat n).1.boss, .slice va2 vl2 vc2, .slice na2 nl2 nc2, .slice ma2 ml2 mc2, .int .i64 (propose n cmd).1.id, .int .i64 (propose n cmd).1.n, .int .i64 (propose n cmd).1.term, .int .i64 (propose n cmd).1.vote, .slice la3 (propose n cmd).1.log.length lc3, .int .i64 (propose n cmd).1.commit, .int .i64 (propose n cmd).1.role, .int .i64 (propose n cmd).1.boss, .slice va3 vl3 vc3, .slice na3 nl3 nc3, .slice ma3 ml3 mc3, .int .i64 (receive n m).1.id, .int .i64 (receive n m).1.n, .int .i64 (receive n m).1.term, .int .i64 (receive n m).1.vote, .slice la4 (receive n m).1.log.length lc4, .int .i64 (receive n m).1.commit, .int .i64 (receive n m).1.role, .int .i64 (receive n m).1.boss, .slice va4 vl4 vc4, .slice na4 nl4 nc4, .slice ma4 ml4 mc4, .int .i64 (restart n).id, .int .i64 (restart n).n, .int .i64 (restart n).term, .int .i64 (restart n).vote, .slice la5 (restart n).log.length lc5, .int .i64 (restart n).commit, .int .i64 (restart n).role, .int .i64 (restart n).boss, .slice va5 vl5 vc5, .slice na5 nl5 nc5, .slice ma5 ml5 mc5] 25) = W' at *
            generalize W.heap.size = gn at *
            have HGN' := Lib.hid hnew
            clear hkn hnew HKW
            obtain ⟨W, rfl⟩ : ∃ W, W = W' := ⟨_, rfl⟩
            obtain ⟨HKW⟩ : Nonempty (Hid _) := ⟨HKW'⟩
            clear HKW'
            obtain ⟨HR5⟩ : Nonempty (Hid _) := ⟨HR5'⟩
            clear HR5'
            obtain ⟨HGN⟩ : Nonempty (Hid _) := ⟨HGN'⟩
            clear HGN'
            obtain ⟨HOWN⟩ : Nonempty (Hid _) := ⟨HOWN'⟩
            clear HOWN'
            apply Wc.wpAnyP_one (i := 11) (fuel := 4) (by kernel_rfl) rfl rfl
            obtain ⟨v', W', hrun, hown, hkw, hof, hgn, hnx⟩ := app_next HKW.out HOWN.out HOF.out HMS2.out.cells (msgs_one HMS2.out) (by have := HL1.out; have := HL2.out; omega) 28
            have HKW' := Lib.hid hkw
            have HOWN' := Lib.hid hown
            have HOF' := Lib.hid hof
            have HR5' := Lib.hid (hnx _ HR5.out)
            clear HR5 hnx
            have HGN' := Lib.hid (hgn _ _ HGN.out)
            clear HGN
            refine plain_append rfl rfl rfl hrun ⟨hkw, ?_⟩
            clear hrun hown hkw hof hgn HKW HOWN HOF
            go_simp
            obtain ⟨HOF⟩ : Nonempty (Hid _) := ⟨HOF'⟩
            clear HOF'
            obtain ⟨W, rfl⟩ : ∃ W, W = W' := ⟨_, rfl⟩
            obtain ⟨HKW⟩ : Nonempty (Hid _) := ⟨HKW'⟩
            clear HKW'
            obtain ⟨HR5⟩ : Nonempty (Hid _) := ⟨HR5'⟩
            clear HR5'
            obtain ⟨HGN⟩ : Nonempty (Hid _) := ⟨HGN'⟩
            clear HGN'
            obtain ⟨HOWN⟩ : Nonempty (Hid _) := ⟨HOWN'⟩
            clear HOWN'
            apply Wc.wpAnyP_one (i := 13) (fuel := 3) (by kernel_rfl) rfl rfl
            obtain ⟨v', W', hrun, hown, hkw, hof, hgn, hnx⟩ := app_next HKW.out HOWN.out HOF.out HMS3.out.cells (msgs_one HMS3.out) (by have := HL1.out; have := HL2.out; have := HL3.out; omega) 28
            have HKW' := Lib.hid hkw
            have HOWN' := Lib.hid hown
            have HOF' := Lib.hid hof
            have HR5' := Lib.hid (hnx _ HR5.out)
            clear HR5 hnx
            have HGN' := Lib.hid (hgn _ _ HGN.out)
            clear HGN
            refine plain_append rfl rfl rfl hrun ⟨hkw, ?_⟩
            clear hrun hown hkw hof hgn HKW HOWN HOF
            go_simp
            obtain ⟨HOF⟩ : Nonempty (Hid _) := ⟨HOF'⟩
            clear HOF'
            obtain ⟨W, rfl⟩ : ∃ W, W = W' := ⟨_, rfl⟩
            obtain ⟨HKW⟩ : Nonempty (Hid _) := ⟨HKW'⟩
            clear HKW'
            obtain ⟨HR5⟩ : Nonempty (Hid _) := ⟨HR5'⟩
            clear HR5'
            obtain ⟨HGN⟩ : Nonempty (Hid _) := ⟨HGN'⟩
            clear HGN'
            obtain ⟨HOWN⟩ : Nonempty (Hid _) := ⟨HOWN'⟩
            clear HOWN'
            apply Wc.wpAnyP_one (i := 15) (fuel := 2) (by kernel_rfl) rfl rfl
            obtain ⟨v', W', hrun, hown, hkw, hof, hgn, hnx⟩ := app_next HKW.out HOWN.out HOF.out HMS4.out.cells (msgs_one HMS4.out) (by have := HL1.out; have := HL2.out; have := HL3.out; have := HL4.out; omega) 28
            have HKW' := Lib.hid hkw
            have HOWN' := Lib.hid hown
            have HOF' := Lib.hid hof
            have HR5' := Lib.hid (hnx _ HR5.out)
            clear HR5 hnx
            have HGN' := Lib.hid (hgn _ _ HGN.out)
            clear HGN
            refine plain_append rfl rfl rfl hrun ⟨hkw, ?_⟩
            clear hrun hown hkw hof hgn HKW HOWN HOF
            go_simp
            obtain ⟨HOF⟩ : Nonempty (Hid _) := ⟨HOF'⟩
            clear HOF'
            obtain ⟨W, rfl⟩ : ∃ W, W = W' := ⟨_, rfl⟩
            obtain ⟨HKW⟩ : Nonempty (Hid _) := ⟨HKW'⟩
            clear HKW'
            obtain ⟨HR5⟩ : Nonempty (Hid _) := ⟨HR5'⟩
            clear HR5'
            obtain ⟨HGN⟩ : Nonempty (Hid _) := ⟨HGN'⟩
            clear HGN'
            obtain ⟨HOWN⟩ : Nonempty (Hid _) := ⟨HOWN'⟩
            clear HOWN'
            apply Wc.wpAnyP_stays (by kernel_rfl) [16, 17] _ _ _ 0 _ HKW.out (by kernel_rfl) ?hs ?hr
            case hs =>
              apply Wc.wpStays_step rfl rfl
              · intro w' hw'
                clear hw'
                go_simp
                exact ⟨rfl, rfl⟩
              go_simp
              apply Wc.wpStays_step rfl rfl
              · intro w' hw'
                clear hw'
                go_simp
                exact ⟨rfl, rfl⟩
              go_simp
              exact rfl
            case hr =>
              refine ⟨by kernel_rfl, ?_⟩
              go_wp2_with fail
              refine bodyPost_ret (v := .tuple #[.slice (some ⟨gn, 0, none⟩) 5 5, _]) (by simp [results, Try.results35, go_sem]; rfl) rfl ?_
              exact FIN.out _ _ _ _ _ _ _ _ _ _ _ _ _ _ HKW.out HGN.out HOWN.out HR5.out
          · obtain ⟨v', W', hrun, hown, hkw, hof, hgn, hnx⟩ := app_next HKW.out HOWN.out HOF.out HMS2.out.cells (msgs_one HMS2.out) (by have := HL1.out; have := HL2.out; omega) 28
            have HKW' := Lib.hid hkw
            have HOWN' := Lib.hid hown
            have HOF' := Lib.hid hof
            have HR5' := Lib.hid (hnx _ HR5.out)
            clear HR5 hnx
            refine plain_append rfl rfl rfl hrun ⟨hkw, ?_⟩
            clear hrun hown hkw hof hgn HKW HOWN HOF
            go_simp
            obtain ⟨HOF⟩ : Nonempty (Hid _) := ⟨HOF'⟩
            clear HOF'
            obtain ⟨W, rfl⟩ : ∃ W, W = W' := ⟨_, rfl⟩
            obtain ⟨HKW⟩ : Nonempty (Hid _) := ⟨HKW'⟩
            clear HKW'
            obtain ⟨HR5⟩ : Nonempty (Hid _) := ⟨HR5'⟩
            clear HR5'
            obtain ⟨HOWN⟩ : Nonempty (Hid _) := ⟨HOWN'⟩
            clear HOWN'
            apply Wc.wpAnyP_two (i := 6) (k := 13) (fuel := 4) (by kernel_rfl) rfl rfl rfl rfl
            · go_simp
              refine ⟨HKW.out.alloc _, ?_⟩
              have hkn : Keeps Free W (W.alloc (.cells #[.int .i64 (timeout n).1.id, .int .i64 (timeout n).1.n, .int .i64 (timeout n).1.term, .int .i64 (timeout n).1.vote, .slice la1 (timeout n).1.log.length lc1, .int .i64 (timeout n).1.commit, .int .i64 (timeout n).1.role, .int .i64 (timeout n).1.boss, .slice va1 vl1 vc1, .slice na1 nl1 nc1, .slice ma1 ml1 mc1, .int .i64 (beat n).1.id, .int .i64 (beat n).1.n, .int .i64 (beat n).1.term, .int .i64 (beat n).1.vote, .slice la2 (beat n).1.log.length lc2, .int .i64 (beat n).1.commit, .int .i64 (beat n).1.role, .int .i64 (beat n).1.boss, .slice va2 vl2 vc2, .slice na2 nl2 nc2, .slice ma2 ml2 mc2, .int .i64 (propose n cmd).1.id, .int .i64 (propose n cmd).1.n, .int .i64 (propose n cmd).1.term, .int .i64 (propose n cmd).1.vote, .slice la3 (propose n cmd).1.log.length lc3, .int .i64 (propose n cmd).1.commit, .int .i64 (propose n cmd).1.role, .int .i64 (propose n cmd).1.boss, .slice va3 vl3 vc3, .slice na3 nl3 nc3, .slice ma3 ml3 mc3, .int .i64 (receive n m).1.id, .int .i64 (receive n m).1.n, .int .i64 (receive n m).1.term, .int .i64 (receive n m).1.vote, .slice la4 (receive n m).1.log.length lc4, .int .i64 (receive n m).1.commit, .int .i64 (receive n m).1.role, .int .i64 (receive n m).1.boss, .slice va4 vl4 vc4, .slice na4 nl4 nc4, .slice ma4 ml4 mc4, .int .i64 (restart n).id, .int .i64 (restart n).n, .int .i64 (restart n).term, .int .i64 (restart n).vote, .slice la5 (restart n).log.length lc5, .int .i64 (restart n).commit, .int .i64 (restart n).role, .int .i64 (restart n).boss, .slice va5 vl5 vc5, .slice na5 nl5 nc5, .slice ma5 ml5 mc5] 25)) := (Keeps.refl Free W).alloc (.cells #[.int .i64 (timeout n).1.id, .int .i64 (timeout n).1.n, .int .i64 (timeout n).1.term, .int .i64 (timeout n).1.vote, .slice la1 (timeout n).1.log.length lc1, .int .i64 (timeout n).1.commit, .int .i64 (timeout n).1.role, .int .i64 (timeout n).1.boss, .slice va1 vl1 vc1, .slice na1 nl1 nc1, .slice ma1 ml1 mc1, .int .i64 (beat n).1.id, .int .i64 (beat n).1.n, .int .i64 (beat n).1.term, .int .i64 (beat n).1.vote, .slice la2 (beat n).1.log.length lc2, .int .i64 (beat n).1.commit, .int .i64 (beat n).1.role, .int .i64 (beat n).1.boss, .slice va2 vl2 vc2, .slice na2 nl2 nc2, .slice ma2 ml2 mc2, .int .i64 (propose n cmd).1.id, .int .i64 (propose n cmd).1.n, .int .i64 (propose n cmd).1.term, .int .i64 (propose n cmd).1.vote, .slice la3 (propose n cmd).1.log.length lc3, .int .i64 (propose n cmd).1.commit, .int .i64 (propose n cmd).1.role, .int .i64 (propose n cmd).1.boss, .slice va3 vl3 vc3, .slice na3 nl3 nc3, .slice ma3 ml3 mc3, .int .i64 (receive n m).1.id, .int .i64 (receive n m).1.n, .int .i64 (receive n m).1.term, .int .i64 (receive n m).1.vote, .slice la4 (receive n m).1.log.length lc4, .int .i64 (receive n m).1.commit, .int .i64 (receive n m).1.role, .int .i64 (receive n m).1.boss, .slice va4 vl4 vc4, .slice na4 nl4 nc4, .slice ma4 ml4 mc4, .int .i64 (restart n).id, .int .i64 (restart n).n, .int .i64 (restart n).term, .int .i64 (restart n).vote, .slice la5 (restart n).log.length lc5, .int .i64 (restart n).commit, .int .i64 (restart n).role, .int .i64 (restart n).boss, .slice va5 vl5 vc5, .slice na5 nl5 nc5, .slice ma5 ml5 mc5] 25)
              have HKW' := Lib.hid (HKW.out.alloc (.cells #[.int .i64 (timeout n).1.id, .int .i64 (timeout n).1.n, .int .i64 (timeout n).1.term, .int .i64 (timeout n).1.vote, .slice la1 (timeout n).1.log.length lc1, .int .i64 (timeout n).1.commit, .int .i64 (timeout n).1.role, .int .i64 (timeout n).1.boss, .slice va1 vl1 vc1, .slice na1 nl1 nc1, .slice ma1 ml1 mc1, .int .i64 (beat n).1.id, .int .i64 (beat n).1.n, .int .i64 (beat n).1.term, .int .i64 (beat n).1.vote, .slice la2 (beat n).1.log.length lc2, .int .i64 (beat n).1.commit, .int .i64 (beat n).1.role, .int .i64 (beat n).1.boss, .slice va2 vl2 vc2, .slice na2 nl2 nc2, .slice ma2 ml2 mc2, .int .i64 (propose n cmd).1.id, .int .i64 (propose n cmd).1.n, .int .i64 (propose n cmd).1.term, .int .i64 (propose n cmd).1.vote, .slice la3 (propose n cmd).1.log.length lc3, .int .i64 (propose n cmd).1.commit, .int .i64 (propose n cmd).1.role, .int .i64 (propose n cmd).1.boss, .slice va3 vl3 vc3, .slice na3 nl3 nc3, .slice ma3 ml3 mc3, .int .i64 (receive n m).1.id, .int .i64 (receive n m).1.n, .int .i64 (receive n m).1.term, .int .i64 (receive n m).1.vote, .slice la4 (receive n m).1.log.length lc4, .int .i64 (receive n m).1.commit, .int .i64 (receive n m).1.role, .int .i64 (receive n m).1.boss, .slice va4 vl4 vc4, .slice na4 nl4 nc4, .slice ma4 ml4 mc4, .int .i64 (restart n).id, .int .i64 (restart n).n, .int .i64 (restart n).term, .int .i64 (restart n).vote, .slice la5 (restart n).log.length lc5, .int .i64 (restart n).commit, .int .i64 (restart n).role, .int .i64 (restart n).boss, .slice va5 vl5 vc5, .slice na5 nl5 nc5, .slice ma5 ml5 mc5] 25))
              have hnew := heap_alloc_new W (.cells #[.int .i64 (timeout n).1.id, .int .i64 (timeout n).1.n, .int .i64 (timeout n).1.term, .int .i64 (timeout n).1.vote, .slice la1 (timeout n).1.log.length lc1, .int .i64 (timeout n).1.commit, .int .i64 (timeout n).1.role, .int .i64 (timeout n).1.boss, .slice va1 vl1 vc1, .slice na1 nl1 nc1, .slice ma1 ml1 mc1, .int .i64 (beat n).1.id, .int .i64 (beat n).1.n, .int .i64 (beat n).1.term, .int .i64 (beat n).1.vote, .slice la2 (beat n).1.log.length lc2, .int .i64 (beat n).1.commit, .int .i64 (beat n).1.role, .int .i64 (beat n).1.boss, .slice va2 vl2 vc2, .slice na2 nl2 nc2, .slice ma2 ml2 mc2, .int .i64 (propose n cmd).1.id, .int .i64 (propose n cmd).1.n, .int .i64 (propose n cmd).1.term, .int .i64 (propose n cmd).1.vote, .slice la3 (propose n cmd).1.log.length lc3, .int .i64 (propose n cmd).1.commit, .int .i64 (propose n cmd).1.role, .int .i64 (propose n cmd).1.boss, .slice va3 vl3 vc3, .slice na3 nl3 nc3, .slice ma3 ml3 mc3, .int .i64 (receive n m).1.id, .int .i64 (receive n m).1.n, .int .i64 (receive n m).1.term, .int .i64 (receive n m).1.vote, .slice la4 (receive n m).1.log.length lc4, .int .i64 (receive n m).1.commit, .int .i64 (receive n m).1.role, .int .i64 (receive n m).1.boss, .slice va4 vl4 vc4, .slice na4 nl4 nc4, .slice ma4 ml4 mc4, .int .i64 (restart n).id, .int .i64 (restart n).n, .int .i64 (restart n).term, .int .i64 (restart n).vote, .slice la5 (restart n).log.length lc5, .int .i64 (restart n).commit, .int .i64 (restart n).role, .int .i64 (restart n).boss, .slice va5 vl5 vc5, .slice na5 nl5 nc5, .slice ma5 ml5 mc5] 25)
              have HOWN' := Lib.hid (own_later HOWN.out hkn)
              clear HOWN
              have HR5' := Lib.hid (HR5.out.into (S' := fun k => some k = Value.ownBlock _) hkn (fun _ _ h => h.elim) fun _ _ h => h)
              clear HR5
              generalize W.alloc (.cells #[.int .i64 (timeout n).1.id, .int .i64 (timeout n).1.n, .int .i64 (timeout n).1.term, .int .i64 (timeout n).1.vote, .slice la1 (timeout n).1.log.length lc1, .int .i64 (timeout n).1.commit, .int .i64 (timeout n).1.role, .int .i64 (timeout n).1.boss, .slice va1 vl1 vc1, .slice na1 nl1 nc1, .slice ma1 ml1 mc1, .int .i64 (beat n).1.id, .int .i64 (beat n).1.n, .int .i64 (beat n).1.term, .int .i64 (beat n).1.vote, .slice la2 (beat n).1.log.length lc2, .int .i64 (beat n).1.commit, .int .i64 (beat n).1.role, .int .i64 (beat n).1.boss, .slice va2 vl2 vc2, .slice na2 nl2 nc2, .slice ma2 ml2 mc2, .int .i64 (propose n cmd).1.id, .int .i64 (propose n cmd).1.n, .int .i64 (propose n cmd).1.term, .int .i64 (propose n cmd).1.vote, .slice la3 (propose n cmd).1.log.length lc3, .int .i64 (propose n cmd).1.commit, .int .i64 (propose n cmd).1.role, .int .i64 (propose n cmd).1.boss, .slice va3 vl3 vc3, .slice na3 nl3 nc3, .slice ma3 ml3 mc3, .int .i64 (receive n m).1.id, .int .i64 (receive n m).1.n, .int .i64 (receive n m).1.term, .int .i64 (receive n m).1.vote, .slice la4 (receive n m).1.log.length lc4, .int .i64 (receive n m).1.commit, .int .i64 (receive n m).1.role, .int .i64 (receive n m).1.boss, .slice va4 vl4 vc4, .slice na4 nl4 nc4, .slice ma4 ml4 mc4, .int .i64 (restart n).id, .int .i64 (restart n).n, .int .i64 (restart n).term, .int .i64 (restart n).vote, .slice la5 (restart n).log.length lc5, .int .i64 (restart n).commit, .int .i64 (restart n).role, .int .i64 (restart n).boss, .slice va5 vl5 vc5, .slice na5 nl5 nc5, .slice ma5 ml5 mc5] 25) = W' at *
              generalize W.heap.size = gn at *
              have HGN' := Lib.hid hnew
              clear hkn hnew HKW
              obtain ⟨W, rfl⟩ : ∃ W, W = W' := ⟨_, rfl⟩
              obtain ⟨HKW⟩ : Nonempty (Hid _) := ⟨HKW'⟩
              clear HKW'
              obtain ⟨HR5⟩ : Nonempty (Hid _) := ⟨HR5'⟩
              clear HR5'
              obtain ⟨HGN⟩ : Nonempty (Hid _) := ⟨HGN'⟩
              clear HGN'
              obtain ⟨HOWN⟩ : Nonempty (Hid _) := ⟨HOWN'⟩
              clear HOWN'
              apply Wc.wpAnyP_one (i := 13) (fuel := 3) (by kernel_rfl) rfl rfl
              obtain ⟨v', W', hrun, hown, hkw, hof, hgn, hnx⟩ := app_next HKW.out HOWN.out HOF.out HMS3.out.cells (msgs_one HMS3.out) (by have := HL1.out; have := HL2.out; have := HL3.out; omega) 28
              have HKW' := Lib.hid hkw
              have HOWN' := Lib.hid hown
              have HOF' := Lib.hid hof
              have HR5' := Lib.hid (hnx _ HR5.out)
              clear HR5 hnx
              have HGN' := Lib.hid (hgn _ _ HGN.out)
              clear HGN
              refine plain_append rfl rfl rfl hrun ⟨hkw, ?_⟩
              clear hrun hown hkw hof hgn HKW HOWN HOF
              go_simp
              obtain ⟨HOF⟩ : Nonempty (Hid _) := ⟨HOF'⟩
              clear HOF'
              obtain ⟨W, rfl⟩ : ∃ W, W = W' := ⟨_, rfl⟩
              obtain ⟨HKW⟩ : Nonempty (Hid _) := ⟨HKW'⟩
              clear HKW'
              obtain ⟨HR5⟩ : Nonempty (Hid _) := ⟨HR5'⟩
              clear HR5'
              obtain ⟨HGN⟩ : Nonempty (Hid _) := ⟨HGN'⟩
              clear HGN'
              obtain ⟨HOWN⟩ : Nonempty (Hid _) := ⟨HOWN'⟩
              clear HOWN'
              apply Wc.wpAnyP_one (i := 15) (fuel := 2) (by kernel_rfl) rfl rfl
              obtain ⟨v', W', hrun, hown, hkw, hof, hgn, hnx⟩ := app_next HKW.out HOWN.out HOF.out HMS4.out.cells (msgs_one HMS4.out) (by have := HL1.out; have := HL2.out; have := HL3.out; have := HL4.out; omega) 28
              have HKW' := Lib.hid hkw
              have HOWN' := Lib.hid hown
              have HOF' := Lib.hid hof
              have HR5' := Lib.hid (hnx _ HR5.out)
              clear HR5 hnx
              have HGN' := Lib.hid (hgn _ _ HGN.out)
              clear HGN
              refine plain_append rfl rfl rfl hrun ⟨hkw, ?_⟩
              clear hrun hown hkw hof hgn HKW HOWN HOF
              go_simp
              obtain ⟨HOF⟩ : Nonempty (Hid _) := ⟨HOF'⟩
              clear HOF'
              obtain ⟨W, rfl⟩ : ∃ W, W = W' := ⟨_, rfl⟩
              obtain ⟨HKW⟩ : Nonempty (Hid _) := ⟨HKW'⟩
              clear HKW'
              obtain ⟨HR5⟩ : Nonempty (Hid _) := ⟨HR5'⟩
              clear HR5'
              obtain ⟨HGN⟩ : Nonempty (Hid _) := ⟨HGN'⟩
              clear HGN'
              obtain ⟨HOWN⟩ : Nonempty (Hid _) := ⟨HOWN'⟩
              clear HOWN'
              apply Wc.wpAnyP_stays (by kernel_rfl) [16, 17] _ _ _ 0 _ HKW.out (by kernel_rfl) ?hs ?hr
              case hs =>
                apply Wc.wpStays_step rfl rfl
                · intro w' hw'
                  clear hw'
                  go_simp
                  exact ⟨rfl, rfl⟩
                go_simp
                apply Wc.wpStays_step rfl rfl
                · intro w' hw'
                  clear hw'
                  go_simp
                  exact ⟨rfl, rfl⟩
                go_simp
                exact rfl
              case hr =>
                refine ⟨by kernel_rfl, ?_⟩
                go_wp2_with fail
                refine bodyPost_ret (v := .tuple #[.slice (some ⟨gn, 0, none⟩) 5 5, _]) (by simp [results, Try.results35, go_sem]; rfl) rfl ?_
                exact FIN.out _ _ _ _ _ _ _ _ _ _ _ _ _ _ HKW.out HGN.out HOWN.out HR5.out
            · obtain ⟨v', W', hrun, hown, hkw, hof, hgn, hnx⟩ := app_next HKW.out HOWN.out HOF.out HMS3.out.cells (msgs_one HMS3.out) (by have := HL1.out; have := HL2.out; have := HL3.out; omega) 28
              have HKW' := Lib.hid hkw
              have HOWN' := Lib.hid hown
              have HOF' := Lib.hid hof
              have HR5' := Lib.hid (hnx _ HR5.out)
              clear HR5 hnx
              refine plain_append rfl rfl rfl hrun ⟨hkw, ?_⟩
              clear hrun hown hkw hof hgn HKW HOWN HOF
              go_simp
              obtain ⟨HOF⟩ : Nonempty (Hid _) := ⟨HOF'⟩
              clear HOF'
              obtain ⟨W, rfl⟩ : ∃ W, W = W' := ⟨_, rfl⟩
              obtain ⟨HKW⟩ : Nonempty (Hid _) := ⟨HKW'⟩
              clear HKW'
              obtain ⟨HR5⟩ : Nonempty (Hid _) := ⟨HR5'⟩
              clear HR5'
              obtain ⟨HOWN⟩ : Nonempty (Hid _) := ⟨HOWN'⟩
              clear HOWN'
              apply Wc.wpAnyP_two (i := 6) (k := 15) (fuel := 3) (by kernel_rfl) rfl rfl rfl rfl
              · go_simp
                refine ⟨HKW.out.alloc _, ?_⟩
                have hkn : Keeps Free W (W.alloc (.cells #[.int .i64 (timeout n).1.id, .int .i64 (timeout n).1.n, .int .i64 (timeout n).1.term, .int .i64 (timeout n).1.vote, .slice la1 (timeout n).1.log.length lc1, .int .i64 (timeout n).1.commit, .int .i64 (timeout n).1.role, .int .i64 (timeout n).1.boss, .slice va1 vl1 vc1, .slice na1 nl1 nc1, .slice ma1 ml1 mc1, .int .i64 (beat n).1.id, .int .i64 (beat n).1.n, .int .i64 (beat n).1.term, .int .i64 (beat n).1.vote, .slice la2 (beat n).1.log.length lc2, .int .i64 (beat n).1.commit, .int .i64 (beat n).1.role, .int .i64 (beat n).1.boss, .slice va2 vl2 vc2, .slice na2 nl2 nc2, .slice ma2 ml2 mc2, .int .i64 (propose n cmd).1.id, .int .i64 (propose n cmd).1.n, .int .i64 (propose n cmd).1.term, .int .i64 (propose n cmd).1.vote, .slice la3 (propose n cmd).1.log.length lc3, .int .i64 (propose n cmd).1.commit, .int .i64 (propose n cmd).1.role, .int .i64 (propose n cmd).1.boss, .slice va3 vl3 vc3, .slice na3 nl3 nc3, .slice ma3 ml3 mc3, .int .i64 (receive n m).1.id, .int .i64 (receive n m).1.n, .int .i64 (receive n m).1.term, .int .i64 (receive n m).1.vote, .slice la4 (receive n m).1.log.length lc4, .int .i64 (receive n m).1.commit, .int .i64 (receive n m).1.role, .int .i64 (receive n m).1.boss, .slice va4 vl4 vc4, .slice na4 nl4 nc4, .slice ma4 ml4 mc4, .int .i64 (restart n).id, .int .i64 (restart n).n, .int .i64 (restart n).term, .int .i64 (restart n).vote, .slice la5 (restart n).log.length lc5, .int .i64 (restart n).commit, .int .i64 (restart n).role, .int .i64 (restart n).boss, .slice va5 vl5 vc5, .slice na5 nl5 nc5, .slice ma5 ml5 mc5] 25)) := (Keeps.refl Free W).alloc (.cells #[.int .i64 (timeout n).1.id, .int .i64 (timeout n).1.n, .int .i64 (timeout n).1.term, .int .i64 (timeout n).1.vote, .slice la1 (timeout n).1.log.length lc1, .int .i64 (timeout n).1.commit, .int .i64 (timeout n).1.role, .int .i64 (timeout n).1.boss, .slice va1 vl1 vc1, .slice na1 nl1 nc1, .slice ma1 ml1 mc1, .int .i64 (beat n).1.id, .int .i64 (beat n).1.n, .int .i64 (beat n).1.term, .int .i64 (beat n).1.vote, .slice la2 (beat n).1.log.length lc2, .int .i64 (beat n).1.commit, .int .i64 (beat n).1.role, .int .i64 (beat n).1.boss, .slice va2 vl2 vc2, .slice na2 nl2 nc2, .slice ma2 ml2 mc2, .int .i64 (propose n cmd).1.id, .int .i64 (propose n cmd).1.n, .int .i64 (propose n cmd).1.term, .int .i64 (propose n cmd).1.vote, .slice la3 (propose n cmd).1.log.length lc3, .int .i64 (propose n cmd).1.commit, .int .i64 (propose n cmd).1.role, .int .i64 (propose n cmd).1.boss, .slice va3 vl3 vc3, .slice na3 nl3 nc3, .slice ma3 ml3 mc3, .int .i64 (receive n m).1.id, .int .i64 (receive n m).1.n, .int .i64 (receive n m).1.term, .int .i64 (receive n m).1.vote, .slice la4 (receive n m).1.log.length lc4, .int .i64 (receive n m).1.commit, .int .i64 (receive n m).1.role, .int .i64 (receive n m).1.boss, .slice va4 vl4 vc4, .slice na4 nl4 nc4, .slice ma4 ml4 mc4, .int .i64 (restart n).id, .int .i64 (restart n).n, .int .i64 (restart n).term, .int .i64 (restart n).vote, .slice la5 (restart n).log.length lc5, .int .i64 (restart n).commit, .int .i64 (restart n).role, .int .i64 (restart n).boss, .slice va5 vl5 vc5, .slice na5 nl5 nc5, .slice ma5 ml5 mc5] 25)
                have HKW' := Lib.hid (HKW.out.alloc (.cells #[.int .i64 (timeout n).1.id, .int .i64 (timeout n).1.n, .int .i64 (timeout n).1.term, .int .i64 (timeout n).1.vote, .slice la1 (timeout n).1.log.length lc1, .int .i64 (timeout n).1.commit, .int .i64 (timeout n).1.role, .int .i64 (timeout n).1.boss, .slice va1 vl1 vc1, .slice na1 nl1 nc1, .slice ma1 ml1 mc1, .int .i64 (beat n).1.id, .int .i64 (beat n).1.n, .int .i64 (beat n).1.term, .int .i64 (beat n).1.vote, .slice la2 (beat n).1.log.length lc2, .int .i64 (beat n).1.commit, .int .i64 (beat n).1.role, .int .i64 (beat n).1.boss, .slice va2 vl2 vc2, .slice na2 nl2 nc2, .slice ma2 ml2 mc2, .int .i64 (propose n cmd).1.id, .int .i64 (propose n cmd).1.n, .int .i64 (propose n cmd).1.term, .int .i64 (propose n cmd).1.vote, .slice la3 (propose n cmd).1.log.length lc3, .int .i64 (propose n cmd).1.commit, .int .i64 (propose n cmd).1.role, .int .i64 (propose n cmd).1.boss, .slice va3 vl3 vc3, .slice na3 nl3 nc3, .slice ma3 ml3 mc3, .int .i64 (receive n m).1.id, .int .i64 (receive n m).1.n, .int .i64 (receive n m).1.term, .int .i64 (receive n m).1.vote, .slice la4 (receive n m).1.log.length lc4, .int .i64 (receive n m).1.commit, .int .i64 (receive n m).1.role, .int .i64 (receive n m).1.boss, .slice va4 vl4 vc4, .slice na4 nl4 nc4, .slice ma4 ml4 mc4, .int .i64 (restart n).id, .int .i64 (restart n).n, .int .i64 (restart n).term, .int .i64 (restart n).vote, .slice la5 (restart n).log.length lc5, .int .i64 (restart n).commit, .int .i64 (restart n).role, .int .i64 (restart n).boss, .slice va5 vl5 vc5, .slice na5 nl5 nc5, .slice ma5 ml5 mc5] 25))
                have hnew := heap_alloc_new W (.cells #[.int .i64 (timeout n).1.id, .int .i64 (timeout n).1.n, .int .i64 (timeout n).1.term, .int .i64 (timeout n).1.vote, .slice la1 (timeout n).1.log.length lc1, .int .i64 (timeout n).1.commit, .int .i64 (timeout n).1.role, .int .i64 (timeout n).1.boss, .slice va1 vl1 vc1, .slice na1 nl1 nc1, .slice ma1 ml1 mc1, .int .i64 (beat n).1.id, .int .i64 (beat n).1.n, .int .i64 (beat n).1.term, .int .i64 (beat n).1.vote, .slice la2 (beat n).1.log.length lc2, .int .i64 (beat n).1.commit, .int .i64 (beat n).1.role, .int .i64 (beat n).1.boss, .slice va2 vl2 vc2, .slice na2 nl2 nc2, .slice ma2 ml2 mc2, .int .i64 (propose n cmd).1.id, .int .i64 (propose n cmd).1.n, .int .i64 (propose n cmd).1.term, .int .i64 (propose n cmd).1.vote, .slice la3 (propose n cmd).1.log.length lc3, .int .i64 (propose n cmd).1.commit, .int .i64 (propose n cmd).1.role, .int .i64 (propose n cmd).1.boss, .slice va3 vl3 vc3, .slice na3 nl3 nc3, .slice ma3 ml3 mc3, .int .i64 (receive n m).1.id, .int .i64 (receive n m).1.n, .int .i64 (receive n m).1.term, .int .i64 (receive n m).1.vote, .slice la4 (receive n m).1.log.length lc4, .int .i64 (receive n m).1.commit, .int .i64 (receive n m).1.role, .int .i64 (receive n m).1.boss, .slice va4 vl4 vc4, .slice na4 nl4 nc4, .slice ma4 ml4 mc4, .int .i64 (restart n).id, .int .i64 (restart n).n, .int .i64 (restart n).term, .int .i64 (restart n).vote, .slice la5 (restart n).log.length lc5, .int .i64 (restart n).commit, .int .i64 (restart n).role, .int .i64 (restart n).boss, .slice va5 vl5 vc5, .slice na5 nl5 nc5, .slice ma5 ml5 mc5] 25)
                have HOWN' := Lib.hid (own_later HOWN.out hkn)
                clear HOWN
                have HR5' := Lib.hid (HR5.out.into (S' := fun k => some k = Value.ownBlock _) hkn (fun _ _ h => h.elim) fun _ _ h => h)
                clear HR5
                generalize W.alloc (.cells #[.int .i64 (timeout n).1.id, .int .i64 (timeout n).1.n, .int .i64 (timeout n).1.term, .int .i64 (timeout n).1.vote, .slice la1 (timeout n).1.log.length lc1, .int .i64 (timeout n).1.commit, .int .i64 (timeout n).1.role, .int .i64 (timeout n).1.boss, .slice va1 vl1 vc1, .slice na1 nl1 nc1, .slice ma1 ml1 mc1, .int .i64 (beat n).1.id, .int .i64 (beat n).1.n, .int .i64 (beat n).1.term, .int .i64 (beat n).1.vote, .slice la2 (beat n).1.log.length lc2, .int .i64 (beat n).1.commit, .int .i64 (beat n).1.role, .int .i64 (beat n).1.boss, .slice va2 vl2 vc2, .slice na2 nl2 nc2, .slice ma2 ml2 mc2, .int .i64 (propose n cmd).1.id, .int .i64 (propose n cmd).1.n, .int .i64 (propose n cmd).1.term, .int .i64 (propose n cmd).1.vote, .slice la3 (propose n cmd).1.log.length lc3, .int .i64 (propose n cmd).1.commit, .int .i64 (propose n cmd).1.role, .int .i64 (propose n cmd).1.boss, .slice va3 vl3 vc3, .slice na3 nl3 nc3, .slice ma3 ml3 mc3, .int .i64 (receive n m).1.id, .int .i64 (receive n m).1.n, .int .i64 (receive n m).1.term, .int .i64 (receive n m).1.vote, .slice la4 (receive n m).1.log.length lc4, .int .i64 (receive n m).1.commit, .int .i64 (receive n m).1.role, .int .i64 (receive n m).1.boss, .slice va4 vl4 vc4, .slice na4 nl4 nc4, .slice ma4 ml4 mc4, .int .i64 (restart n).id, .int .i64 (restart n).n, .int .i64 (restart n).term, .int .i64 (restart n).vote, .slice la5 (restart n).log.length lc5, .int .i64 (restart n).commit, .int .i64 (restart n).role, .int .i64 (restart n).boss, .slice va5 vl5 vc5, .slice na5 nl5 nc5, .slice ma5 ml5 mc5] 25) = W' at *
                generalize W.heap.size = gn at *
                have HGN' := Lib.hid hnew
                clear hkn hnew HKW
                obtain ⟨W, rfl⟩ : ∃ W, W = W' := ⟨_, rfl⟩
                obtain ⟨HKW⟩ : Nonempty (Hid _) := ⟨HKW'⟩
                clear HKW'
                obtain ⟨HR5⟩ : Nonempty (Hid _) := ⟨HR5'⟩
                clear HR5'
                obtain ⟨HGN⟩ : Nonempty (Hid _) := ⟨HGN'⟩
                clear HGN'
                obtain ⟨HOWN⟩ : Nonempty (Hid _) := ⟨HOWN'⟩
                clear HOWN'
                apply Wc.wpAnyP_one (i := 15) (fuel := 2) (by kernel_rfl) rfl rfl
                obtain ⟨v', W', hrun, hown, hkw, hof, hgn, hnx⟩ := app_next HKW.out HOWN.out HOF.out HMS4.out.cells (msgs_one HMS4.out) (by have := HL1.out; have := HL2.out; have := HL3.out; have := HL4.out; omega) 28
                have HKW' := Lib.hid hkw
                have HOWN' := Lib.hid hown
                have HOF' := Lib.hid hof
                have HR5' := Lib.hid (hnx _ HR5.out)
                clear HR5 hnx
                have HGN' := Lib.hid (hgn _ _ HGN.out)
                clear HGN
                refine plain_append rfl rfl rfl hrun ⟨hkw, ?_⟩
                clear hrun hown hkw hof hgn HKW HOWN HOF
                go_simp
                obtain ⟨HOF⟩ : Nonempty (Hid _) := ⟨HOF'⟩
                clear HOF'
                obtain ⟨W, rfl⟩ : ∃ W, W = W' := ⟨_, rfl⟩
                obtain ⟨HKW⟩ : Nonempty (Hid _) := ⟨HKW'⟩
                clear HKW'
                obtain ⟨HR5⟩ : Nonempty (Hid _) := ⟨HR5'⟩
                clear HR5'
                obtain ⟨HGN⟩ : Nonempty (Hid _) := ⟨HGN'⟩
                clear HGN'
                obtain ⟨HOWN⟩ : Nonempty (Hid _) := ⟨HOWN'⟩
                clear HOWN'
                apply Wc.wpAnyP_stays (by kernel_rfl) [16, 17] _ _ _ 0 _ HKW.out (by kernel_rfl) ?hs ?hr
                case hs =>
                  apply Wc.wpStays_step rfl rfl
                  · intro w' hw'
                    clear hw'
                    go_simp
                    exact ⟨rfl, rfl⟩
                  go_simp
                  apply Wc.wpStays_step rfl rfl
                  · intro w' hw'
                    clear hw'
                    go_simp
                    exact ⟨rfl, rfl⟩
                  go_simp
                  exact rfl
                case hr =>
                  refine ⟨by kernel_rfl, ?_⟩
                  go_wp2_with fail
                  refine bodyPost_ret (v := .tuple #[.slice (some ⟨gn, 0, none⟩) 5 5, _]) (by simp [results, Try.results35, go_sem]; rfl) rfl ?_
                  exact FIN.out _ _ _ _ _ _ _ _ _ _ _ _ _ _ HKW.out HGN.out HOWN.out HR5.out
              · obtain ⟨v', W', hrun, hown, hkw, hof, hgn, hnx⟩ := app_next HKW.out HOWN.out HOF.out HMS4.out.cells (msgs_one HMS4.out) (by have := HL1.out; have := HL2.out; have := HL3.out; have := HL4.out; omega) 28
                have HKW' := Lib.hid hkw
                have HOWN' := Lib.hid hown
                have HOF' := Lib.hid hof
                have HR5' := Lib.hid (hnx _ HR5.out)
                clear HR5 hnx
                refine plain_append rfl rfl rfl hrun ⟨hkw, ?_⟩
                clear hrun hown hkw hof hgn HKW HOWN HOF
                go_simp
                obtain ⟨HOF⟩ : Nonempty (Hid _) := ⟨HOF'⟩
                clear HOF'
                obtain ⟨W, rfl⟩ : ∃ W, W = W' := ⟨_, rfl⟩
                obtain ⟨HKW⟩ : Nonempty (Hid _) := ⟨HKW'⟩
                clear HKW'
                obtain ⟨HR5⟩ : Nonempty (Hid _) := ⟨HR5'⟩
                clear HR5'
                obtain ⟨HOWN⟩ : Nonempty (Hid _) := ⟨HOWN'⟩
                clear HOWN'
                apply Wc.wpAnyP_one (i := 6) (fuel := 2) (by kernel_rfl) rfl rfl
                go_simp
                refine ⟨HKW.out.alloc _, ?_⟩
                have hkn : Keeps Free W (W.alloc (.cells #[.int .i64 (timeout n).1.id, .int .i64 (timeout n).1.n, .int .i64 (timeout n).1.term, .int .i64 (timeout n).1.vote, .slice la1 (timeout n).1.log.length lc1, .int .i64 (timeout n).1.commit, .int .i64 (timeout n).1.role, .int .i64 (timeout n).1.boss, .slice va1 vl1 vc1, .slice na1 nl1 nc1, .slice ma1 ml1 mc1, .int .i64 (beat n).1.id, .int .i64 (beat n).1.n, .int .i64 (beat n).1.term, .int .i64 (beat n).1.vote, .slice la2 (beat n).1.log.length lc2, .int .i64 (beat n).1.commit, .int .i64 (beat n).1.role, .int .i64 (beat n).1.boss, .slice va2 vl2 vc2, .slice na2 nl2 nc2, .slice ma2 ml2 mc2, .int .i64 (propose n cmd).1.id, .int .i64 (propose n cmd).1.n, .int .i64 (propose n cmd).1.term, .int .i64 (propose n cmd).1.vote, .slice la3 (propose n cmd).1.log.length lc3, .int .i64 (propose n cmd).1.commit, .int .i64 (propose n cmd).1.role, .int .i64 (propose n cmd).1.boss, .slice va3 vl3 vc3, .slice na3 nl3 nc3, .slice ma3 ml3 mc3, .int .i64 (receive n m).1.id, .int .i64 (receive n m).1.n, .int .i64 (receive n m).1.term, .int .i64 (receive n m).1.vote, .slice la4 (receive n m).1.log.length lc4, .int .i64 (receive n m).1.commit, .int .i64 (receive n m).1.role, .int .i64 (receive n m).1.boss, .slice va4 vl4 vc4, .slice na4 nl4 nc4, .slice ma4 ml4 mc4, .int .i64 (restart n).id, .int .i64 (restart n).n, .int .i64 (restart n).term, .int .i64 (restart n).vote, .slice la5 (restart n).log.length lc5, .int .i64 (restart n).commit, .int .i64 (restart n).role, .int .i64 (restart n).boss, .slice va5 vl5 vc5, .slice na5 nl5 nc5, .slice ma5 ml5 mc5] 25)) := (Keeps.refl Free W).alloc (.cells #[.int .i64 (timeout n).1.id, .int .i64 (timeout n).1.n, .int .i64 (timeout n).1.term, .int .i64 (timeout n).1.vote, .slice la1 (timeout n).1.log.length lc1, .int .i64 (timeout n).1.commit, .int .i64 (timeout n).1.role, .int .i64 (timeout n).1.boss, .slice va1 vl1 vc1, .slice na1 nl1 nc1, .slice ma1 ml1 mc1, .int .i64 (beat n).1.id, .int .i64 (beat n).1.n, .int .i64 (beat n).1.term, .int .i64 (beat n).1.vote, .slice la2 (beat n).1.log.length lc2, .int .i64 (beat n).1.commit, .int .i64 (beat n).1.role, .int .i64 (beat n).1.boss, .slice va2 vl2 vc2, .slice na2 nl2 nc2, .slice ma2 ml2 mc2, .int .i64 (propose n cmd).1.id, .int .i64 (propose n cmd).1.n, .int .i64 (propose n cmd).1.term, .int .i64 (propose n cmd).1.vote, .slice la3 (propose n cmd).1.log.length lc3, .int .i64 (propose n cmd).1.commit, .int .i64 (propose n cmd).1.role, .int .i64 (propose n cmd).1.boss, .slice va3 vl3 vc3, .slice na3 nl3 nc3, .slice ma3 ml3 mc3, .int .i64 (receive n m).1.id, .int .i64 (receive n m).1.n, .int .i64 (receive n m).1.term, .int .i64 (receive n m).1.vote, .slice la4 (receive n m).1.log.length lc4, .int .i64 (receive n m).1.commit, .int .i64 (receive n m).1.role, .int .i64 (receive n m).1.boss, .slice va4 vl4 vc4, .slice na4 nl4 nc4, .slice ma4 ml4 mc4, .int .i64 (restart n).id, .int .i64 (restart n).n, .int .i64 (restart n).term, .int .i64 (restart n).vote, .slice la5 (restart n).log.length lc5, .int .i64 (restart n).commit, .int .i64 (restart n).role, .int .i64 (restart n).boss, .slice va5 vl5 vc5, .slice na5 nl5 nc5, .slice ma5 ml5 mc5] 25)
                have HKW' := Lib.hid (HKW.out.alloc (.cells #[.int .i64 (timeout n).1.id, .int .i64 (timeout n).1.n, .int .i64 (timeout n).1.term, .int .i64 (timeout n).1.vote, .slice la1 (timeout n).1.log.length lc1, .int .i64 (timeout n).1.commit, .int .i64 (timeout n).1.role, .int .i64 (timeout n).1.boss, .slice va1 vl1 vc1, .slice na1 nl1 nc1, .slice ma1 ml1 mc1, .int .i64 (beat n).1.id, .int .i64 (beat n).1.n, .int .i64 (beat n).1.term, .int .i64 (beat n).1.vote, .slice la2 (beat n).1.log.length lc2, .int .i64 (beat n).1.commit, .int .i64 (beat n).1.role, .int .i64 (beat n).1.boss, .slice va2 vl2 vc2, .slice na2 nl2 nc2, .slice ma2 ml2 mc2, .int .i64 (propose n cmd).1.id, .int .i64 (propose n cmd).1.n, .int .i64 (propose n cmd).1.term, .int .i64 (propose n cmd).1.vote, .slice la3 (propose n cmd).1.log.length lc3, .int .i64 (propose n cmd).1.commit, .int .i64 (propose n cmd).1.role, .int .i64 (propose n cmd).1.boss, .slice va3 vl3 vc3, .slice na3 nl3 nc3, .slice ma3 ml3 mc3, .int .i64 (receive n m).1.id, .int .i64 (receive n m).1.n, .int .i64 (receive n m).1.term, .int .i64 (receive n m).1.vote, .slice la4 (receive n m).1.log.length lc4, .int .i64 (receive n m).1.commit, .int .i64 (receive n m).1.role, .int .i64 (receive n m).1.boss, .slice va4 vl4 vc4, .slice na4 nl4 nc4, .slice ma4 ml4 mc4, .int .i64 (restart n).id, .int .i64 (restart n).n, .int .i64 (restart n).term, .int .i64 (restart n).vote, .slice la5 (restart n).log.length lc5, .int .i64 (restart n).commit, .int .i64 (restart n).role, .int .i64 (restart n).boss, .slice va5 vl5 vc5, .slice na5 nl5 nc5, .slice ma5 ml5 mc5] 25))
                have hnew := heap_alloc_new W (.cells #[.int .i64 (timeout n).1.id, .int .i64 (timeout n).1.n, .int .i64 (timeout n).1.term, .int .i64 (timeout n).1.vote, .slice la1 (timeout n).1.log.length lc1, .int .i64 (timeout n).1.commit, .int .i64 (timeout n).1.role, .int .i64 (timeout n).1.boss, .slice va1 vl1 vc1, .slice na1 nl1 nc1, .slice ma1 ml1 mc1, .int .i64 (beat n).1.id, .int .i64 (beat n).1.n, .int .i64 (beat n).1.term, .int .i64 (beat n).1.vote, .slice la2 (beat n).1.log.length lc2, .int .i64 (beat n).1.commit, .int .i64 (beat n).1.role, .int .i64 (beat n).1.boss, .slice va2 vl2 vc2, .slice na2 nl2 nc2, .slice ma2 ml2 mc2, .int .i64 (propose n cmd).1.id, .int .i64 (propose n cmd).1.n, .int .i64 (propose n cmd).1.term, .int .i64 (propose n cmd).1.vote, .slice la3 (propose n cmd).1.log.length lc3, .int .i64 (propose n cmd).1.commit, .int .i64 (propose n cmd).1.role, .int .i64 (propose n cmd).1.boss, .slice va3 vl3 vc3, .slice na3 nl3 nc3, .slice ma3 ml3 mc3, .int .i64 (receive n m).1.id, .int .i64 (receive n m).1.n, .int .i64 (receive n m).1.term, .int .i64 (receive n m).1.vote, .slice la4 (receive n m).1.log.length lc4, .int .i64 (receive n m).1.commit, .int .i64 (receive n m).1.role, .int .i64 (receive n m).1.boss, .slice va4 vl4 vc4, .slice na4 nl4 nc4, .slice ma4 ml4 mc4, .int .i64 (restart n).id, .int .i64 (restart n).n, .int .i64 (restart n).term, .int .i64 (restart n).vote, .slice la5 (restart n).log.length lc5, .int .i64 (restart n).commit, .int .i64 (restart n).role, .int .i64 (restart n).boss, .slice va5 vl5 vc5, .slice na5 nl5 nc5, .slice ma5 ml5 mc5] 25)
                have HOWN' := Lib.hid (own_later HOWN.out hkn)
                clear HOWN
                have HR5' := Lib.hid (HR5.out.into (S' := fun k => some k = Value.ownBlock _) hkn (fun _ _ h => h.elim) fun _ _ h => h)
                clear HR5
                generalize W.alloc (.cells #[.int .i64 (timeout n).1.id, .int .i64 (timeout n).1.n, .int .i64 (timeout n).1.term, .int .i64 (timeout n).1.vote, .slice la1 (timeout n).1.log.length lc1, .int .i64 (timeout n).1.commit, .int .i64 (timeout n).1.role, .int .i64 (timeout n).1.boss, .slice va1 vl1 vc1, .slice na1 nl1 nc1, .slice ma1 ml1 mc1, .int .i64 (beat n).1.id, .int .i64 (beat n).1.n, .int .i64 (beat n).1.term, .int .i64 (beat n).1.vote, .slice la2 (beat n).1.log.length lc2, .int .i64 (beat n).1.commit, .int .i64 (beat n).1.role, .int .i64 (beat n).1.boss, .slice va2 vl2 vc2, .slice na2 nl2 nc2, .slice ma2 ml2 mc2, .int .i64 (propose n cmd).1.id, .int .i64 (propose n cmd).1.n, .int .i64 (propose n cmd).1.term, .int .i64 (propose n cmd).1.vote, .slice la3 (propose n cmd).1.log.length lc3, .int .i64 (propose n cmd).1.commit, .int .i64 (propose n cmd).1.role, .int .i64 (propose n cmd).1.boss, .slice va3 vl3 vc3, .slice na3 nl3 nc3, .slice ma3 ml3 mc3, .int .i64 (receive n m).1.id, .int .i64 (receive n m).1.n, .int .i64 (receive n m).1.term, .int .i64 (receive n m).1.vote, .slice la4 (receive n m).1.log.length lc4, .int .i64 (receive n m).1.commit, .int .i64 (receive n m).1.role, .int .i64 (receive n m).1.boss, .slice va4 vl4 vc4, .slice na4 nl4 nc4, .slice ma4 ml4 mc4, .int .i64 (restart n).id, .int .i64 (restart n).n, .int .i64 (restart n).term, .int .i64 (restart n).vote, .slice la5 (restart n).log.length lc5, .int .i64 (restart n).commit, .int .i64 (restart n).role, .int .i64 (restart n).boss, .slice va5 vl5 vc5, .slice na5 nl5 nc5, .slice ma5 ml5 mc5] 25) = W' at *
                generalize W.heap.size = gn at *
                have HGN' := Lib.hid hnew
                clear hkn hnew HKW
                obtain ⟨W, rfl⟩ : ∃ W, W = W' := ⟨_, rfl⟩
                obtain ⟨HKW⟩ : Nonempty (Hid _) := ⟨HKW'⟩
                clear HKW'
                obtain ⟨HR5⟩ : Nonempty (Hid _) := ⟨HR5'⟩
                clear HR5'
                obtain ⟨HGN⟩ : Nonempty (Hid _) := ⟨HGN'⟩
                clear HGN'
                obtain ⟨HOWN⟩ : Nonempty (Hid _) := ⟨HOWN'⟩
                clear HOWN'
                apply Wc.wpAnyP_stays (by kernel_rfl) [16, 17] _ _ _ 0 _ HKW.out (by kernel_rfl) ?hs ?hr
                case hs =>
                  apply Wc.wpStays_step rfl rfl
                  · intro w' hw'
                    clear hw'
                    go_simp
                    exact ⟨rfl, rfl⟩
                  go_simp
                  apply Wc.wpStays_step rfl rfl
                  · intro w' hw'
                    clear hw'
                    go_simp
                    exact ⟨rfl, rfl⟩
                  go_simp
                  exact rfl
                case hr =>
                  refine ⟨by kernel_rfl, ?_⟩
                  go_wp2_with fail
                  refine bodyPost_ret (v := .tuple #[.slice (some ⟨gn, 0, none⟩) 5 5, _]) (by simp [results, Try.results35, go_sem]; rfl) rfl ?_
                  exact FIN.out _ _ _ _ _ _ _ _ _ _ _ _ _ _ HKW.out HGN.out HOWN.out HR5.out
    · go_simp
      refine ⟨HKW.out.alloc _, ?_⟩
      have hkn : Keeps Free W (W.alloc (.cells #[] 38)) := (Keeps.refl Free W).alloc (.cells #[] 38)
      have HKW' := Lib.hid (HKW.out.alloc (.cells #[] 38))
      have hnew := heap_alloc_new W (.cells #[] 38)
      have HG7' := Lib.hid hnew
      have hrow := World.ownsRow_lit (w := W) (base := 0) (e := 38) (size := 9) #[] 0 (Nat.zero_le _) (by simp [maxLen]) rfl
      have HOF := Lib.hid (show ∀ g, (Value.slice (some ⟨W.heap.size, 0, none⟩) 0 0).ownBlock = some g → u4.heap.size ≤ g from fun g hg => by
        have : W.heap.size = g := by simpa [Value.ownBlock] using hg
        rw [← this]; exact HKW.out.size)
      generalize W.alloc (.cells #[] 38) = W' at *
      generalize W.heap.size = g7 at *
      have HOWN' := Lib.hid (show W'.ownsRow 0 38 9 (.slice (some ⟨g7, 0, none⟩) 0 0) 0 [] from hrow)
      clear hrow hkn hnew HKW
      obtain ⟨W, rfl⟩ : ∃ W, W = W' := ⟨_, rfl⟩
      obtain ⟨HKW⟩ : Nonempty (Hid _) := ⟨HKW'⟩
      clear HKW'
      obtain ⟨HG7⟩ : Nonempty (Hid _) := ⟨HG7'⟩
      clear HG7'
      obtain ⟨HOWN⟩ : Nonempty (Hid _) := ⟨HOWN'⟩
      clear HOWN'
      apply Wc.wpAnyP_one (i := 5) (fuel := 7) (by kernel_rfl) rfl rfl
      go_simp
      refine (HC5.out _ (HK.out.trans HKW.out (fun _ h => .inl h))).mono ?_
      rintro e W' hh
      obtain ⟨la5, va5, na5, ma5, lc5, vl5, vc5, nl5, nc5, ml5, mc5, rfl, hk5, hn5⟩ := restart_open hh
      have HKW' := Lib.hid (HKW.out.trans hk5 (fun _ h => .inl h))
      have HOWN' := Lib.hid (own_later HOWN.out hk5)
      clear HOWN
      have HR5' := Lib.hid (node_off hn5 (hk5.blk HG7.out))
      clear HG7
      refine ⟨_, rfl, HKW'.out, ?_⟩
      clear hk5 HKW hh hn5
      go_simp
      obtain ⟨W, rfl⟩ : ∃ W, W = W' := ⟨_, rfl⟩
      obtain ⟨HKW⟩ : Nonempty (Hid _) := ⟨HKW'⟩
      clear HKW'
      obtain ⟨HR5⟩ : Nonempty (Hid _) := ⟨HR5'⟩
      clear HR5'
      obtain ⟨HOWN⟩ : Nonempty (Hid _) := ⟨HOWN'⟩
      clear HOWN'
      apply Wc.wpAnyP_two (i := 6) (k := 9) (fuel := 6) (by kernel_rfl) rfl rfl rfl rfl
      · go_simp
        refine ⟨HKW.out.alloc _, ?_⟩
        have hkn : Keeps Free W (W.alloc (.cells #[.int .i64 (timeout n).1.id, .int .i64 (timeout n).1.n, .int .i64 (timeout n).1.term, .int .i64 (timeout n).1.vote, .slice la1 (timeout n).1.log.length lc1, .int .i64 (timeout n).1.commit, .int .i64 (timeout n).1.role, .int .i64 (timeout n).1.boss, .slice va1 vl1 vc1, .slice na1 nl1 nc1, .slice ma1 ml1 mc1, .int .i64 (beat n).1.id, .int .i64 (beat n).1.n, .int .i64 (beat n).1.term, .int .i64 (beat n).1.vote, .slice la2 (beat n).1.log.length lc2, .int .i64 (beat n).1.commit, .int .i64 (beat n).1.role, .int .i64 (beat n).1.boss, .slice va2 vl2 vc2, .slice na2 nl2 nc2, .slice ma2 ml2 mc2, .int .i64 (propose n cmd).1.id, .int .i64 (propose n cmd).1.n, .int .i64 (propose n cmd).1.term, .int .i64 (propose n cmd).1.vote, .slice la3 (propose n cmd).1.log.length lc3, .int .i64 (propose n cmd).1.commit, .int .i64 (propose n cmd).1.role, .int .i64 (propose n cmd).1.boss, .slice va3 vl3 vc3, .slice na3 nl3 nc3, .slice ma3 ml3 mc3, .int .i64 (receive n m).1.id, .int .i64 (receive n m).1.n, .int .i64 (receive n m).1.term, .int .i64 (receive n m).1.vote, .slice la4 (receive n m).1.log.length lc4, .int .i64 (receive n m).1.commit, .int .i64 (receive n m).1.role, .int .i64 (receive n m).1.boss, .slice va4 vl4 vc4, .slice na4 nl4 nc4, .slice ma4 ml4 mc4, .int .i64 (restart n).id, .int .i64 (restart n).n, .int .i64 (restart n).term, .int .i64 (restart n).vote, .slice la5 (restart n).log.length lc5, .int .i64 (restart n).commit, .int .i64 (restart n).role, .int .i64 (restart n).boss, .slice va5 vl5 vc5, .slice na5 nl5 nc5, .slice ma5 ml5 mc5] 25)) := (Keeps.refl Free W).alloc (.cells #[.int .i64 (timeout n).1.id, .int .i64 (timeout n).1.n, .int .i64 (timeout n).1.term, .int .i64 (timeout n).1.vote, .slice la1 (timeout n).1.log.length lc1, .int .i64 (timeout n).1.commit, .int .i64 (timeout n).1.role, .int .i64 (timeout n).1.boss, .slice va1 vl1 vc1, .slice na1 nl1 nc1, .slice ma1 ml1 mc1, .int .i64 (beat n).1.id, .int .i64 (beat n).1.n, .int .i64 (beat n).1.term, .int .i64 (beat n).1.vote, .slice la2 (beat n).1.log.length lc2, .int .i64 (beat n).1.commit, .int .i64 (beat n).1.role, .int .i64 (beat n).1.boss, .slice va2 vl2 vc2, .slice na2 nl2 nc2, .slice ma2 ml2 mc2, .int .i64 (propose n cmd).1.id, .int .i64 (propose n cmd).1.n, .int .i64 (propose n cmd).1.term, .int .i64 (propose n cmd).1.vote, .slice la3 (propose n cmd).1.log.length lc3, .int .i64 (propose n cmd).1.commit, .int .i64 (propose n cmd).1.role, .int .i64 (propose n cmd).1.boss, .slice va3 vl3 vc3, .slice na3 nl3 nc3, .slice ma3 ml3 mc3, .int .i64 (receive n m).1.id, .int .i64 (receive n m).1.n, .int .i64 (receive n m).1.term, .int .i64 (receive n m).1.vote, .slice la4 (receive n m).1.log.length lc4, .int .i64 (receive n m).1.commit, .int .i64 (receive n m).1.role, .int .i64 (receive n m).1.boss, .slice va4 vl4 vc4, .slice na4 nl4 nc4, .slice ma4 ml4 mc4, .int .i64 (restart n).id, .int .i64 (restart n).n, .int .i64 (restart n).term, .int .i64 (restart n).vote, .slice la5 (restart n).log.length lc5, .int .i64 (restart n).commit, .int .i64 (restart n).role, .int .i64 (restart n).boss, .slice va5 vl5 vc5, .slice na5 nl5 nc5, .slice ma5 ml5 mc5] 25)
        have HKW' := Lib.hid (HKW.out.alloc (.cells #[.int .i64 (timeout n).1.id, .int .i64 (timeout n).1.n, .int .i64 (timeout n).1.term, .int .i64 (timeout n).1.vote, .slice la1 (timeout n).1.log.length lc1, .int .i64 (timeout n).1.commit, .int .i64 (timeout n).1.role, .int .i64 (timeout n).1.boss, .slice va1 vl1 vc1, .slice na1 nl1 nc1, .slice ma1 ml1 mc1, .int .i64 (beat n).1.id, .int .i64 (beat n).1.n, .int .i64 (beat n).1.term, .int .i64 (beat n).1.vote, .slice la2 (beat n).1.log.length lc2, .int .i64 (beat n).1.commit, .int .i64 (beat n).1.role, .int .i64 (beat n).1.boss, .slice va2 vl2 vc2, .slice na2 nl2 nc2, .slice ma2 ml2 mc2, .int .i64 (propose n cmd).1.id, .int .i64 (propose n cmd).1.n, .int .i64 (propose n cmd).1.term, .int .i64 (propose n cmd).1.vote, .slice la3 (propose n cmd).1.log.length lc3, .int .i64 (propose n cmd).1.commit, .int .i64 (propose n cmd).1.role, .int .i64 (propose n cmd).1.boss, .slice va3 vl3 vc3, .slice na3 nl3 nc3, .slice ma3 ml3 mc3, .int .i64 (receive n m).1.id, .int .i64 (receive n m).1.n, .int .i64 (receive n m).1.term, .int .i64 (receive n m).1.vote, .slice la4 (receive n m).1.log.length lc4, .int .i64 (receive n m).1.commit, .int .i64 (receive n m).1.role, .int .i64 (receive n m).1.boss, .slice va4 vl4 vc4, .slice na4 nl4 nc4, .slice ma4 ml4 mc4, .int .i64 (restart n).id, .int .i64 (restart n).n, .int .i64 (restart n).term, .int .i64 (restart n).vote, .slice la5 (restart n).log.length lc5, .int .i64 (restart n).commit, .int .i64 (restart n).role, .int .i64 (restart n).boss, .slice va5 vl5 vc5, .slice na5 nl5 nc5, .slice ma5 ml5 mc5] 25))
        have hnew := heap_alloc_new W (.cells #[.int .i64 (timeout n).1.id, .int .i64 (timeout n).1.n, .int .i64 (timeout n).1.term, .int .i64 (timeout n).1.vote, .slice la1 (timeout n).1.log.length lc1, .int .i64 (timeout n).1.commit, .int .i64 (timeout n).1.role, .int .i64 (timeout n).1.boss, .slice va1 vl1 vc1, .slice na1 nl1 nc1, .slice ma1 ml1 mc1, .int .i64 (beat n).1.id, .int .i64 (beat n).1.n, .int .i64 (beat n).1.term, .int .i64 (beat n).1.vote, .slice la2 (beat n).1.log.length lc2, .int .i64 (beat n).1.commit, .int .i64 (beat n).1.role, .int .i64 (beat n).1.boss, .slice va2 vl2 vc2, .slice na2 nl2 nc2, .slice ma2 ml2 mc2, .int .i64 (propose n cmd).1.id, .int .i64 (propose n cmd).1.n, .int .i64 (propose n cmd).1.term, .int .i64 (propose n cmd).1.vote, .slice la3 (propose n cmd).1.log.length lc3, .int .i64 (propose n cmd).1.commit, .int .i64 (propose n cmd).1.role, .int .i64 (propose n cmd).1.boss, .slice va3 vl3 vc3, .slice na3 nl3 nc3, .slice ma3 ml3 mc3, .int .i64 (receive n m).1.id, .int .i64 (receive n m).1.n, .int .i64 (receive n m).1.term, .int .i64 (receive n m).1.vote, .slice la4 (receive n m).1.log.length lc4, .int .i64 (receive n m).1.commit, .int .i64 (receive n m).1.role, .int .i64 (receive n m).1.boss, .slice va4 vl4 vc4, .slice na4 nl4 nc4, .slice ma4 ml4 mc4, .int .i64 (restart n).id, .int .i64 (restart n).n, .int .i64 (restart n).term, .int .i64 (restart n).vote, .slice la5 (restart n).log.length lc5, .int .i64 (restart n).commit, .int .i64 (restart n).role, .int .i64 (restart n).boss, .slice va5 vl5 vc5, .slice na5 nl5 nc5, .slice ma5 ml5 mc5] 25)
        have HOWN' := Lib.hid (own_later HOWN.out hkn)
        clear HOWN
        have HR5' := Lib.hid (HR5.out.into (S' := fun k => some k = Value.ownBlock _) hkn (fun _ _ h => h.elim) fun _ _ h => h)
        clear HR5
        generalize W.alloc (.cells #[.int .i64 (timeout n).1.id, .int .i64 (timeout n).1.n, .int .i64 (timeout n).1.term, .int .i64 (timeout n).1.vote, .slice la1 (timeout n).1.log.length lc1, .int .i64 (timeout n).1.commit, .int .i64 (timeout n).1.role, .int .i64 (timeout n).1.boss, .slice va1 vl1 vc1, .slice na1 nl1 nc1, .slice ma1 ml1 mc1, .int .i64 (beat n).1.id, .int .i64 (beat n).1.n, .int .i64 (beat n).1.term, .int .i64 (beat n).1.vote, .slice la2 (beat n).1.log.length lc2, .int .i64 (beat n).1.commit, .int .i64 (beat n).1.role, .int .i64 (beat n).1.boss, .slice va2 vl2 vc2, .slice na2 nl2 nc2, .slice ma2 ml2 mc2, .int .i64 (propose n cmd).1.id, .int .i64 (propose n cmd).1.n, .int .i64 (propose n cmd).1.term, .int .i64 (propose n cmd).1.vote, .slice la3 (propose n cmd).1.log.length lc3, .int .i64 (propose n cmd).1.commit, .int .i64 (propose n cmd).1.role, .int .i64 (propose n cmd).1.boss, .slice va3 vl3 vc3, .slice na3 nl3 nc3, .slice ma3 ml3 mc3, .int .i64 (receive n m).1.id, .int .i64 (receive n m).1.n, .int .i64 (receive n m).1.term, .int .i64 (receive n m).1.vote, .slice la4 (receive n m).1.log.length lc4, .int .i64 (receive n m).1.commit, .int .i64 (receive n m).1.role, .int .i64 (receive n m).1.boss, .slice va4 vl4 vc4, .slice na4 nl4 nc4, .slice ma4 ml4 mc4, .int .i64 (restart n).id, .int .i64 (restart n).n, .int .i64 (restart n).term, .int .i64 (restart n).vote, .slice la5 (restart n).log.length lc5, .int .i64 (restart n).commit, .int .i64 (restart n).role, .int .i64 (restart n).boss, .slice va5 vl5 vc5, .slice na5 nl5 nc5, .slice ma5 ml5 mc5] 25) = W' at *
        generalize W.heap.size = gn at *
        have HGN' := Lib.hid hnew
        clear hkn hnew HKW
        obtain ⟨W, rfl⟩ : ∃ W, W = W' := ⟨_, rfl⟩
        obtain ⟨HKW⟩ : Nonempty (Hid _) := ⟨HKW'⟩
        clear HKW'
        obtain ⟨HR5⟩ : Nonempty (Hid _) := ⟨HR5'⟩
        clear HR5'
        obtain ⟨HGN⟩ : Nonempty (Hid _) := ⟨HGN'⟩
        clear HGN'
        obtain ⟨HOWN⟩ : Nonempty (Hid _) := ⟨HOWN'⟩
        clear HOWN'
        apply Wc.wpAnyP_one (i := 9) (fuel := 5) (by kernel_rfl) rfl rfl
        obtain ⟨v', W', hrun, hown, hkw, hof, hgn, hnx⟩ := app_next HKW.out HOWN.out HOF.out HMS1.out.cells (msgs_one HMS1.out) (by have := HL1.out; omega) 28
        have HKW' := Lib.hid hkw
        have HOWN' := Lib.hid hown
        have HOF' := Lib.hid hof
        have HR5' := Lib.hid (hnx _ HR5.out)
        clear HR5 hnx
        have HGN' := Lib.hid (hgn _ _ HGN.out)
        clear HGN
        refine plain_append rfl rfl rfl hrun ⟨hkw, ?_⟩
        clear hrun hown hkw hof hgn HKW HOWN HOF
        go_simp
        obtain ⟨HOF⟩ : Nonempty (Hid _) := ⟨HOF'⟩
        clear HOF'
        obtain ⟨W, rfl⟩ : ∃ W, W = W' := ⟨_, rfl⟩
        obtain ⟨HKW⟩ : Nonempty (Hid _) := ⟨HKW'⟩
        clear HKW'
        obtain ⟨HR5⟩ : Nonempty (Hid _) := ⟨HR5'⟩
        clear HR5'
        obtain ⟨HGN⟩ : Nonempty (Hid _) := ⟨HGN'⟩
        clear HGN'
        obtain ⟨HOWN⟩ : Nonempty (Hid _) := ⟨HOWN'⟩
        clear HOWN'
        apply Wc.wpAnyP_one (i := 11) (fuel := 4) (by kernel_rfl) rfl rfl
        obtain ⟨v', W', hrun, hown, hkw, hof, hgn, hnx⟩ := app_next HKW.out HOWN.out HOF.out HMS2.out.cells (msgs_one HMS2.out) (by have := HL1.out; have := HL2.out; omega) 28
        have HKW' := Lib.hid hkw
        have HOWN' := Lib.hid hown
        have HOF' := Lib.hid hof
        have HR5' := Lib.hid (hnx _ HR5.out)
        clear HR5 hnx
        have HGN' := Lib.hid (hgn _ _ HGN.out)
        clear HGN
        refine plain_append rfl rfl rfl hrun ⟨hkw, ?_⟩
        clear hrun hown hkw hof hgn HKW HOWN HOF
        go_simp
        obtain ⟨HOF⟩ : Nonempty (Hid _) := ⟨HOF'⟩
        clear HOF'
        obtain ⟨W, rfl⟩ : ∃ W, W = W' := ⟨_, rfl⟩
        obtain ⟨HKW⟩ : Nonempty (Hid _) := ⟨HKW'⟩
        clear HKW'
        obtain ⟨HR5⟩ : Nonempty (Hid _) := ⟨HR5'⟩
        clear HR5'
        obtain ⟨HGN⟩ : Nonempty (Hid _) := ⟨HGN'⟩
        clear HGN'
        obtain ⟨HOWN⟩ : Nonempty (Hid _) := ⟨HOWN'⟩
        clear HOWN'
        apply Wc.wpAnyP_one (i := 13) (fuel := 3) (by kernel_rfl) rfl rfl
        obtain ⟨v', W', hrun, hown, hkw, hof, hgn, hnx⟩ := app_next HKW.out HOWN.out HOF.out HMS3.out.cells (msgs_one HMS3.out) (by have := HL1.out; have := HL2.out; have := HL3.out; omega) 28
        have HKW' := Lib.hid hkw
        have HOWN' := Lib.hid hown
        have HOF' := Lib.hid hof
        have HR5' := Lib.hid (hnx _ HR5.out)
        clear HR5 hnx
        have HGN' := Lib.hid (hgn _ _ HGN.out)
        clear HGN
        refine plain_append rfl rfl rfl hrun ⟨hkw, ?_⟩
        clear hrun hown hkw hof hgn HKW HOWN HOF
        go_simp
        obtain ⟨HOF⟩ : Nonempty (Hid _) := ⟨HOF'⟩
        clear HOF'
        obtain ⟨W, rfl⟩ : ∃ W, W = W' := ⟨_, rfl⟩
        obtain ⟨HKW⟩ : Nonempty (Hid _) := ⟨HKW'⟩
        clear HKW'
        obtain ⟨HR5⟩ : Nonempty (Hid _) := ⟨HR5'⟩
        clear HR5'
        obtain ⟨HGN⟩ : Nonempty (Hid _) := ⟨HGN'⟩
        clear HGN'
        obtain ⟨HOWN⟩ : Nonempty (Hid _) := ⟨HOWN'⟩
        clear HOWN'
        apply Wc.wpAnyP_one (i := 15) (fuel := 2) (by kernel_rfl) rfl rfl
        obtain ⟨v', W', hrun, hown, hkw, hof, hgn, hnx⟩ := app_next HKW.out HOWN.out HOF.out HMS4.out.cells (msgs_one HMS4.out) (by have := HL1.out; have := HL2.out; have := HL3.out; have := HL4.out; omega) 28
        have HKW' := Lib.hid hkw
        have HOWN' := Lib.hid hown
        have HOF' := Lib.hid hof
        have HR5' := Lib.hid (hnx _ HR5.out)
        clear HR5 hnx
        have HGN' := Lib.hid (hgn _ _ HGN.out)
        clear HGN
        refine plain_append rfl rfl rfl hrun ⟨hkw, ?_⟩
        clear hrun hown hkw hof hgn HKW HOWN HOF
        go_simp
        obtain ⟨HOF⟩ : Nonempty (Hid _) := ⟨HOF'⟩
        clear HOF'
        obtain ⟨W, rfl⟩ : ∃ W, W = W' := ⟨_, rfl⟩
        obtain ⟨HKW⟩ : Nonempty (Hid _) := ⟨HKW'⟩
        clear HKW'
        obtain ⟨HR5⟩ : Nonempty (Hid _) := ⟨HR5'⟩
        clear HR5'
        obtain ⟨HGN⟩ : Nonempty (Hid _) := ⟨HGN'⟩
        clear HGN'
        obtain ⟨HOWN⟩ : Nonempty (Hid _) := ⟨HOWN'⟩
        clear HOWN'
        apply Wc.wpAnyP_stays (by kernel_rfl) [16, 17] _ _ _ 0 _ HKW.out (by kernel_rfl) ?hs ?hr
        case hs =>
          apply Wc.wpStays_step rfl rfl
          · intro w' hw'
            clear hw'
            go_simp
            exact ⟨rfl, rfl⟩
          go_simp
          apply Wc.wpStays_step rfl rfl
          · intro w' hw'
            clear hw'
            go_simp
            exact ⟨rfl, rfl⟩
          go_simp
          exact rfl
        case hr =>
          refine ⟨by kernel_rfl, ?_⟩
          go_wp2_with fail
          refine bodyPost_ret (v := .tuple #[.slice (some ⟨gn, 0, none⟩) 5 5, _]) (by simp [results, Try.results35, go_sem]; rfl) rfl ?_
          exact FIN.out _ _ _ _ _ _ _ _ _ _ _ _ _ _ HKW.out HGN.out HOWN.out HR5.out
      · obtain ⟨v', W', hrun, hown, hkw, hof, hgn, hnx⟩ := app_next HKW.out HOWN.out HOF.out HMS1.out.cells (msgs_one HMS1.out) (by have := HL1.out; omega) 28
        have HKW' := Lib.hid hkw
        have HOWN' := Lib.hid hown
        have HOF' := Lib.hid hof
        have HR5' := Lib.hid (hnx _ HR5.out)
        clear HR5 hnx
        refine plain_append rfl rfl rfl hrun ⟨hkw, ?_⟩
        clear hrun hown hkw hof hgn HKW HOWN HOF
        go_simp
        obtain ⟨HOF⟩ : Nonempty (Hid _) := ⟨HOF'⟩
        clear HOF'
        obtain ⟨W, rfl⟩ : ∃ W, W = W' := ⟨_, rfl⟩
        obtain ⟨HKW⟩ : Nonempty (Hid _) := ⟨HKW'⟩
        clear HKW'
        obtain ⟨HR5⟩ : Nonempty (Hid _) := ⟨HR5'⟩
        clear HR5'
        obtain ⟨HOWN⟩ : Nonempty (Hid _) := ⟨HOWN'⟩
        clear HOWN'
        apply Wc.wpAnyP_two (i := 6) (k := 11) (fuel := 5) (by kernel_rfl) rfl rfl rfl rfl
        · go_simp
          refine ⟨HKW.out.alloc _, ?_⟩
          have hkn : Keeps Free W (W.alloc (.cells #[.int .i64 (timeout n).1.id, .int .i64 (timeout n).1.n, .int .i64 (timeout n).1.term, .int .i64 (timeout n).1.vote, .slice la1 (timeout n).1.log.length lc1, .int .i64 (timeout n).1.commit, .int .i64 (timeout n).1.role, .int .i64 (timeout n).1.boss, .slice va1 vl1 vc1, .slice na1 nl1 nc1, .slice ma1 ml1 mc1, .int .i64 (beat n).1.id, .int .i64 (beat n).1.n, .int .i64 (beat n).1.term, .int .i64 (beat n).1.vote, .slice la2 (beat n).1.log.length lc2, .int .i64 (beat n).1.commit, .int .i64 (beat n).1.role, .int .i64 (beat n).1.boss, .slice va2 vl2 vc2, .slice na2 nl2 nc2, .slice ma2 ml2 mc2, .int .i64 (propose n cmd).1.id, .int .i64 (propose n cmd).1.n, .int .i64 (propose n cmd).1.term, .int .i64 (propose n cmd).1.vote, .slice la3 (propose n cmd).1.log.length lc3, .int .i64 (propose n cmd).1.commit, .int .i64 (propose n cmd).1.role, .int .i64 (propose n cmd).1.boss, .slice va3 vl3 vc3, .slice na3 nl3 nc3, .slice ma3 ml3 mc3, .int .i64 (receive n m).1.id, .int .i64 (receive n m).1.n, .int .i64 (receive n m).1.term, .int .i64 (receive n m).1.vote, .slice la4 (receive n m).1.log.length lc4, .int .i64 (receive n m).1.commit, .int .i64 (receive n m).1.role, .int .i64 (receive n m).1.boss, .slice va4 vl4 vc4, .slice na4 nl4 nc4, .slice ma4 ml4 mc4, .int .i64 (restart n).id, .int .i64 (restart n).n, .int .i64 (restart n).term, .int .i64 (restart n).vote, .slice la5 (restart n).log.length lc5, .int .i64 (restart n).commit, .int .i64 (restart n).role, .int .i64 (restart n).boss, .slice va5 vl5 vc5, .slice na5 nl5 nc5, .slice ma5 ml5 mc5] 25)) := (Keeps.refl Free W).alloc (.cells #[.int .i64 (timeout n).1.id, .int .i64 (timeout n).1.n, .int .i64 (timeout n).1.term, .int .i64 (timeout n).1.vote, .slice la1 (timeout n).1.log.length lc1, .int .i64 (timeout n).1.commit, .int .i64 (timeout n).1.role, .int .i64 (timeout n).1.boss, .slice va1 vl1 vc1, .slice na1 nl1 nc1, .slice ma1 ml1 mc1, .int .i64 (beat n).1.id, .int .i64 (beat n).1.n, .int .i64 (beat n).1.term, .int .i64 (beat n).1.vote, .slice la2 (beat n).1.log.length lc2, .int .i64 (beat n).1.commit, .int .i64 (beat n).1.role, .int .i64 (beat n).1.boss, .slice va2 vl2 vc2, .slice na2 nl2 nc2, .slice ma2 ml2 mc2, .int .i64 (propose n cmd).1.id, .int .i64 (propose n cmd).1.n, .int .i64 (propose n cmd).1.term, .int .i64 (propose n cmd).1.vote, .slice la3 (propose n cmd).1.log.length lc3, .int .i64 (propose n cmd).1.commit, .int .i64 (propose n cmd).1.role, .int .i64 (propose n cmd).1.boss, .slice va3 vl3 vc3, .slice na3 nl3 nc3, .slice ma3 ml3 mc3, .int .i64 (receive n m).1.id, .int .i64 (receive n m).1.n, .int .i64 (receive n m).1.term, .int .i64 (receive n m).1.vote, .slice la4 (receive n m).1.log.length lc4, .int .i64 (receive n m).1.commit, .int .i64 (receive n m).1.role, .int .i64 (receive n m).1.boss, .slice va4 vl4 vc4, .slice na4 nl4 nc4, .slice ma4 ml4 mc4, .int .i64 (restart n).id, .int .i64 (restart n).n, .int .i64 (restart n).term, .int .i64 (restart n).vote, .slice la5 (restart n).log.length lc5, .int .i64 (restart n).commit, .int .i64 (restart n).role, .int .i64 (restart n).boss, .slice va5 vl5 vc5, .slice na5 nl5 nc5, .slice ma5 ml5 mc5] 25)
          have HKW' := Lib.hid (HKW.out.alloc (.cells #[.int .i64 (timeout n).1.id, .int .i64 (timeout n).1.n, .int .i64 (timeout n).1.term, .int .i64 (timeout n).1.vote, .slice la1 (timeout n).1.log.length lc1, .int .i64 (timeout n).1.commit, .int .i64 (timeout n).1.role, .int .i64 (timeout n).1.boss, .slice va1 vl1 vc1, .slice na1 nl1 nc1, .slice ma1 ml1 mc1, .int .i64 (beat n).1.id, .int .i64 (beat n).1.n, .int .i64 (beat n).1.term, .int .i64 (beat n).1.vote, .slice la2 (beat n).1.log.length lc2, .int .i64 (beat n).1.commit, .int .i64 (beat n).1.role, .int .i64 (beat n).1.boss, .slice va2 vl2 vc2, .slice na2 nl2 nc2, .slice ma2 ml2 mc2, .int .i64 (propose n cmd).1.id, .int .i64 (propose n cmd).1.n, .int .i64 (propose n cmd).1.term, .int .i64 (propose n cmd).1.vote, .slice la3 (propose n cmd).1.log.length lc3, .int .i64 (propose n cmd).1.commit, .int .i64 (propose n cmd).1.role, .int .i64 (propose n cmd).1.boss, .slice va3 vl3 vc3, .slice na3 nl3 nc3, .slice ma3 ml3 mc3, .int .i64 (receive n m).1.id, .int .i64 (receive n m).1.n, .int .i64 (receive n m).1.term, .int .i64 (receive n m).1.vote, .slice la4 (receive n m).1.log.length lc4, .int .i64 (receive n m).1.commit, .int .i64 (receive n m).1.role, .int .i64 (receive n m).1.boss, .slice va4 vl4 vc4, .slice na4 nl4 nc4, .slice ma4 ml4 mc4, .int .i64 (restart n).id, .int .i64 (restart n).n, .int .i64 (restart n).term, .int .i64 (restart n).vote, .slice la5 (restart n).log.length lc5, .int .i64 (restart n).commit, .int .i64 (restart n).role, .int .i64 (restart n).boss, .slice va5 vl5 vc5, .slice na5 nl5 nc5, .slice ma5 ml5 mc5] 25))
          have hnew := heap_alloc_new W (.cells #[.int .i64 (timeout n).1.id, .int .i64 (timeout n).1.n, .int .i64 (timeout n).1.term, .int .i64 (timeout n).1.vote, .slice la1 (timeout n).1.log.length lc1, .int .i64 (timeout n).1.commit, .int .i64 (timeout n).1.role, .int .i64 (timeout n).1.boss, .slice va1 vl1 vc1, .slice na1 nl1 nc1, .slice ma1 ml1 mc1, .int .i64 (beat n).1.id, .int .i64 (beat n).1.n, .int .i64 (beat n).1.term, .int .i64 (beat n).1.vote, .slice la2 (beat n).1.log.length lc2, .int .i64 (beat n).1.commit, .int .i64 (beat n).1.role, .int .i64 (beat n).1.boss, .slice va2 vl2 vc2, .slice na2 nl2 nc2, .slice ma2 ml2 mc2, .int .i64 (propose n cmd).1.id, .int .i64 (propose n cmd).1.n, .int .i64 (propose n cmd).1.term, .int .i64 (propose n cmd).1.vote, .slice la3 (propose n cmd).1.log.length lc3, .int .i64 (propose n cmd).1.commit, .int .i64 (propose n cmd).1.role, .int .i64 (propose n cmd).1.boss, .slice va3 vl3 vc3, .slice na3 nl3 nc3, .slice ma3 ml3 mc3, .int .i64 (receive n m).1.id, .int .i64 (receive n m).1.n, .int .i64 (receive n m).1.term, .int .i64 (receive n m).1.vote, .slice la4 (receive n m).1.log.length lc4, .int .i64 (receive n m).1.commit, .int .i64 (receive n m).1.role, .int .i64 (receive n m).1.boss, .slice va4 vl4 vc4, .slice na4 nl4 nc4, .slice ma4 ml4 mc4, .int .i64 (restart n).id, .int .i64 (restart n).n, .int .i64 (restart n).term, .int .i64 (restart n).vote, .slice la5 (restart n).log.length lc5, .int .i64 (restart n).commit, .int .i64 (restart n).role, .int .i64 (restart n).boss, .slice va5 vl5 vc5, .slice na5 nl5 nc5, .slice ma5 ml5 mc5] 25)
          have HOWN' := Lib.hid (own_later HOWN.out hkn)
          clear HOWN
          have HR5' := Lib.hid (HR5.out.into (S' := fun k => some k = Value.ownBlock _) hkn (fun _ _ h => h.elim) fun _ _ h => h)
          clear HR5
          generalize W.alloc (.cells #[.int .i64 (timeout n).1.id, .int .i64 (timeout n).1.n, .int .i64 (timeout n).1.term, .int .i64 (timeout n).1.vote, .slice la1 (timeout n).1.log.length lc1, .int .i64 (timeout n).1.commit, .int .i64 (timeout n).1.role, .int .i64 (timeout n).1.boss, .slice va1 vl1 vc1, .slice na1 nl1 nc1, .slice ma1 ml1 mc1, .int .i64 (beat n).1.id, .int .i64 (beat n).1.n, .int .i64 (beat n).1.term, .int .i64 (beat n).1.vote, .slice la2 (beat n).1.log.length lc2, .int .i64 (beat n).1.commit, .int .i64 (beat n).1.role, .int .i64 (beat n).1.boss, .slice va2 vl2 vc2, .slice na2 nl2 nc2, .slice ma2 ml2 mc2, .int .i64 (propose n cmd).1.id, .int .i64 (propose n cmd).1.n, .int .i64 (propose n cmd).1.term, .int .i64 (propose n cmd).1.vote, .slice la3 (propose n cmd).1.log.length lc3, .int .i64 (propose n cmd).1.commit, .int .i64 (propose n cmd).1.role, .int .i64 (propose n cmd).1.boss, .slice va3 vl3 vc3, .slice na3 nl3 nc3, .slice ma3 ml3 mc3, .int .i64 (receive n m).1.id, .int .i64 (receive n m).1.n, .int .i64 (receive n m).1.term, .int .i64 (receive n m).1.vote, .slice la4 (receive n m).1.log.length lc4, .int .i64 (receive n m).1.commit, .int .i64 (receive n m).1.role, .int .i64 (receive n m).1.boss, .slice va4 vl4 vc4, .slice na4 nl4 nc4, .slice ma4 ml4 mc4, .int .i64 (restart n).id, .int .i64 (restart n).n, .int .i64 (restart n).term, .int .i64 (restart n).vote, .slice la5 (restart n).log.length lc5, .int .i64 (restart n).commit, .int .i64 (restart n).role, .int .i64 (restart n).boss, .slice va5 vl5 vc5, .slice na5 nl5 nc5, .slice ma5 ml5 mc5] 25) = W' at *
          generalize W.heap.size = gn at *
          have HGN' := Lib.hid hnew
          clear hkn hnew HKW
          obtain ⟨W, rfl⟩ : ∃ W, W = W' := ⟨_, rfl⟩
          obtain ⟨HKW⟩ : Nonempty (Hid _) := ⟨HKW'⟩
          clear HKW'
          obtain ⟨HR5⟩ : Nonempty (Hid _) := ⟨HR5'⟩
          clear HR5'
          obtain ⟨HGN⟩ : Nonempty (Hid _) := ⟨HGN'⟩
          clear HGN'
          obtain ⟨HOWN⟩ : Nonempty (Hid _) := ⟨HOWN'⟩
          clear HOWN'
          apply Wc.wpAnyP_one (i := 11) (fuel := 4) (by kernel_rfl) rfl rfl
          obtain ⟨v', W', hrun, hown, hkw, hof, hgn, hnx⟩ := app_next HKW.out HOWN.out HOF.out HMS2.out.cells (msgs_one HMS2.out) (by have := HL1.out; have := HL2.out; omega) 28
          have HKW' := Lib.hid hkw
          have HOWN' := Lib.hid hown
          have HOF' := Lib.hid hof
          have HR5' := Lib.hid (hnx _ HR5.out)
          clear HR5 hnx
          have HGN' := Lib.hid (hgn _ _ HGN.out)
          clear HGN
          refine plain_append rfl rfl rfl hrun ⟨hkw, ?_⟩
          clear hrun hown hkw hof hgn HKW HOWN HOF
          go_simp
          obtain ⟨HOF⟩ : Nonempty (Hid _) := ⟨HOF'⟩
          clear HOF'
          obtain ⟨W, rfl⟩ : ∃ W, W = W' := ⟨_, rfl⟩
          obtain ⟨HKW⟩ : Nonempty (Hid _) := ⟨HKW'⟩
          clear HKW'
          obtain ⟨HR5⟩ : Nonempty (Hid _) := ⟨HR5'⟩
          clear HR5'
          obtain ⟨HGN⟩ : Nonempty (Hid _) := ⟨HGN'⟩
          clear HGN'
          obtain ⟨HOWN⟩ : Nonempty (Hid _) := ⟨HOWN'⟩
          clear HOWN'
          apply Wc.wpAnyP_one (i := 13) (fuel := 3) (by kernel_rfl) rfl rfl
          obtain ⟨v', W', hrun, hown, hkw, hof, hgn, hnx⟩ := app_next HKW.out HOWN.out HOF.out HMS3.out.cells (msgs_one HMS3.out) (by have := HL1.out; have := HL2.out; have := HL3.out; omega) 28
          have HKW' := Lib.hid hkw
          have HOWN' := Lib.hid hown
          have HOF' := Lib.hid hof
          have HR5' := Lib.hid (hnx _ HR5.out)
          clear HR5 hnx
          have HGN' := Lib.hid (hgn _ _ HGN.out)
          clear HGN
          refine plain_append rfl rfl rfl hrun ⟨hkw, ?_⟩
          clear hrun hown hkw hof hgn HKW HOWN HOF
          go_simp
          obtain ⟨HOF⟩ : Nonempty (Hid _) := ⟨HOF'⟩
          clear HOF'
          obtain ⟨W, rfl⟩ : ∃ W, W = W' := ⟨_, rfl⟩
          obtain ⟨HKW⟩ : Nonempty (Hid _) := ⟨HKW'⟩
          clear HKW'
          obtain ⟨HR5⟩ : Nonempty (Hid _) := ⟨HR5'⟩
          clear HR5'
          obtain ⟨HGN⟩ : Nonempty (Hid _) := ⟨HGN'⟩
          clear HGN'
          obtain ⟨HOWN⟩ : Nonempty (Hid _) := ⟨HOWN'⟩
          clear HOWN'
          apply Wc.wpAnyP_one (i := 15) (fuel := 2) (by kernel_rfl) rfl rfl
          obtain ⟨v', W', hrun, hown, hkw, hof, hgn, hnx⟩ := app_next HKW.out HOWN.out HOF.out HMS4.out.cells (msgs_one HMS4.out) (by have := HL1.out; have := HL2.out; have := HL3.out; have := HL4.out; omega) 28
          have HKW' := Lib.hid hkw
          have HOWN' := Lib.hid hown
          have HOF' := Lib.hid hof
          have HR5' := Lib.hid (hnx _ HR5.out)
          clear HR5 hnx
          have HGN' := Lib.hid (hgn _ _ HGN.out)
          clear HGN
          refine plain_append rfl rfl rfl hrun ⟨hkw, ?_⟩
          clear hrun hown hkw hof hgn HKW HOWN HOF
          go_simp
          obtain ⟨HOF⟩ : Nonempty (Hid _) := ⟨HOF'⟩
          clear HOF'
          obtain ⟨W, rfl⟩ : ∃ W, W = W' := ⟨_, rfl⟩
          obtain ⟨HKW⟩ : Nonempty (Hid _) := ⟨HKW'⟩
          clear HKW'
          obtain ⟨HR5⟩ : Nonempty (Hid _) := ⟨HR5'⟩
          clear HR5'
          obtain ⟨HGN⟩ : Nonempty (Hid _) := ⟨HGN'⟩
          clear HGN'
          obtain ⟨HOWN⟩ : Nonempty (Hid _) := ⟨HOWN'⟩
          clear HOWN'
          apply Wc.wpAnyP_stays (by kernel_rfl) [16, 17] _ _ _ 0 _ HKW.out (by kernel_rfl) ?hs ?hr
          case hs =>
            apply Wc.wpStays_step rfl rfl
            · intro w' hw'
              clear hw'
              go_simp
              exact ⟨rfl, rfl⟩
            go_simp
            apply Wc.wpStays_step rfl rfl
            · intro w' hw'
              clear hw'
              go_simp
              exact ⟨rfl, rfl⟩
            go_simp
            exact rfl
          case hr =>
            refine ⟨by kernel_rfl, ?_⟩
            go_wp2_with fail
            refine bodyPost_ret (v := .tuple #[.slice (some ⟨gn, 0, none⟩) 5 5, _]) (by simp [results, Try.results35, go_sem]; rfl) rfl ?_
            exact FIN.out _ _ _ _ _ _ _ _ _ _ _ _ _ _ HKW.out HGN.out HOWN.out HR5.out
        · obtain ⟨v', W', hrun, hown, hkw, hof, hgn, hnx⟩ := app_next HKW.out HOWN.out HOF.out HMS2.out.cells (msgs_one HMS2.out) (by have := HL1.out; have := HL2.out; omega) 28
          have HKW' := Lib.hid hkw
          have HOWN' := Lib.hid hown
          have HOF' := Lib.hid hof
          have HR5' := Lib.hid (hnx _ HR5.out)
          clear HR5 hnx
          refine plain_append rfl rfl rfl hrun ⟨hkw, ?_⟩
          clear hrun hown hkw hof hgn HKW HOWN HOF
          go_simp
          obtain ⟨HOF⟩ : Nonempty (Hid _) := ⟨HOF'⟩
          clear HOF'
          obtain ⟨W, rfl⟩ : ∃ W, W = W' := ⟨_, rfl⟩
          obtain ⟨HKW⟩ : Nonempty (Hid _) := ⟨HKW'⟩
          clear HKW'
          obtain ⟨HR5⟩ : Nonempty (Hid _) := ⟨HR5'⟩
          clear HR5'
          obtain ⟨HOWN⟩ : Nonempty (Hid _) := ⟨HOWN'⟩
          clear HOWN'
          apply Wc.wpAnyP_two (i := 6) (k := 13) (fuel := 4) (by kernel_rfl) rfl rfl rfl rfl
          · go_simp
            refine ⟨HKW.out.alloc _, ?_⟩
            have hkn : Keeps Free W (W.alloc (.cells #[.int .i64 (timeout n).1.id, .int .i64 (timeout n).1.n, .int .i64 (timeout n).1.term, .int .i64 (timeout n).1.vote, .slice la1 (timeout n).1.log.length lc1, .int .i64 (timeout n).1.commit, .int .i64 (timeout n).1.role, .int .i64 (timeout n).1.boss, .slice va1 vl1 vc1, .slice na1 nl1 nc1, .slice ma1 ml1 mc1, .int .i64 (beat n).1.id, .int .i64 (beat n).1.n, .int .i64 (beat n).1.term, .int .i64 (beat n).1.vote, .slice la2 (beat n).1.log.length lc2, .int .i64 (beat n).1.commit, .int .i64 (beat n).1.role, .int .i64 (beat n).1.boss, .slice va2 vl2 vc2, .slice na2 nl2 nc2, .slice ma2 ml2 mc2, .int .i64 (propose n cmd).1.id, .int .i64 (propose n cmd).1.n, .int .i64 (propose n cmd).1.term, .int .i64 (propose n cmd).1.vote, .slice la3 (propose n cmd).1.log.length lc3, .int .i64 (propose n cmd).1.commit, .int .i64 (propose n cmd).1.role, .int .i64 (propose n cmd).1.boss, .slice va3 vl3 vc3, .slice na3 nl3 nc3, .slice ma3 ml3 mc3, .int .i64 (receive n m).1.id, .int .i64 (receive n m).1.n, .int .i64 (receive n m).1.term, .int .i64 (receive n m).1.vote, .slice la4 (receive n m).1.log.length lc4, .int .i64 (receive n m).1.commit, .int .i64 (receive n m).1.role, .int .i64 (receive n m).1.boss, .slice va4 vl4 vc4, .slice na4 nl4 nc4, .slice ma4 ml4 mc4, .int .i64 (restart n).id, .int .i64 (restart n).n, .int .i64 (restart n).term, .int .i64 (restart n).vote, .slice la5 (restart n).log.length lc5, .int .i64 (restart n).commit, .int .i64 (restart n).role, .int .i64 (restart n).boss, .slice va5 vl5 vc5, .slice na5 nl5 nc5, .slice ma5 ml5 mc5] 25)) := (Keeps.refl Free W).alloc (.cells #[.int .i64 (timeout n).1.id, .int .i64 (timeout n).1.n, .int .i64 (timeout n).1.term, .int .i64 (timeout n).1.vote, .slice la1 (timeout n).1.log.length lc1, .int .i64 (timeout n).1.commit, .int .i64 (timeout n).1.role, .int .i64 (timeout n).1.boss, .slice va1 vl1 vc1, .slice na1 nl1 nc1, .slice ma1 ml1 mc1, .int .i64 (beat n).1.id, .int .i64 (beat n).1.n, .int .i64 (beat n).1.term, .int .i64 (beat n).1.vote, .slice la2 (beat n).1.log.length lc2, .int .i64 (beat n).1.commit, .int .i64 (beat n).1.role, .int .i64 (beat n).1.boss, .slice va2 vl2 vc2, .slice na2 nl2 nc2, .slice ma2 ml2 mc2, .int .i64 (propose n cmd).1.id, .int .i64 (propose n cmd).1.n, .int .i64 (propose n cmd).1.term, .int .i64 (propose n cmd).1.vote, .slice la3 (propose n cmd).1.log.length lc3, .int .i64 (propose n cmd).1.commit, .int .i64 (propose n cmd).1.role, .int .i64 (propose n cmd).1.boss, .slice va3 vl3 vc3, .slice na3 nl3 nc3, .slice ma3 ml3 mc3, .int .i64 (receive n m).1.id, .int .i64 (receive n m).1.n, .int .i64 (receive n m).1.term, .int .i64 (receive n m).1.vote, .slice la4 (receive n m).1.log.length lc4, .int .i64 (receive n m).1.commit, .int .i64 (receive n m).1.role, .int .i64 (receive n m).1.boss, .slice va4 vl4 vc4, .slice na4 nl4 nc4, .slice ma4 ml4 mc4, .int .i64 (restart n).id, .int .i64 (restart n).n, .int .i64 (restart n).term, .int .i64 (restart n).vote, .slice la5 (restart n).log.length lc5, .int .i64 (restart n).commit, .int .i64 (restart n).role, .int .i64 (restart n).boss, .slice va5 vl5 vc5, .slice na5 nl5 nc5, .slice ma5 ml5 mc5] 25)
            have HKW' := Lib.hid (HKW.out.alloc (.cells #[.int .i64 (timeout n).1.id, .int .i64 (timeout n).1.n, .int .i64 (timeout n).1.term, .int .i64 (timeout n).1.vote, .slice la1 (timeout n).1.log.length lc1, .int .i64 (timeout n).1.commit, .int .i64 (timeout n).1.role, .int .i64 (timeout n).1.boss, .slice va1 vl1 vc1, .slice na1 nl1 nc1, .slice ma1 ml1 mc1, .int .i64 (beat n).1.id, .int .i64 (beat n).1.n, .int .i64 (beat n).1.term, .int .i64 (beat n).1.vote, .slice la2 (beat n).1.log.length lc2, .int .i64 (beat n).1.commit, .int .i64 (beat n).1.role, .int .i64 (beat n).1.boss, .slice va2 vl2 vc2, .slice na2 nl2 nc2, .slice ma2 ml2 mc2, .int .i64 (propose n cmd).1.id, .int .i64 (propose n cmd).1.n, .int .i64 (propose n cmd).1.term, .int .i64 (propose n cmd).1.vote, .slice la3 (propose n cmd).1.log.length lc3, .int .i64 (propose n cmd).1.commit, .int .i64 (propose n cmd).1.role, .int .i64 (propose n cmd).1.boss, .slice va3 vl3 vc3, .slice na3 nl3 nc3, .slice ma3 ml3 mc3, .int .i64 (receive n m).1.id, .int .i64 (receive n m).1.n, .int .i64 (receive n m).1.term, .int .i64 (receive n m).1.vote, .slice la4 (receive n m).1.log.length lc4, .int .i64 (receive n m).1.commit, .int .i64 (receive n m).1.role, .int .i64 (receive n m).1.boss, .slice va4 vl4 vc4, .slice na4 nl4 nc4, .slice ma4 ml4 mc4, .int .i64 (restart n).id, .int .i64 (restart n).n, .int .i64 (restart n).term, .int .i64 (restart n).vote, .slice la5 (restart n).log.length lc5, .int .i64 (restart n).commit, .int .i64 (restart n).role, .int .i64 (restart n).boss, .slice va5 vl5 vc5, .slice na5 nl5 nc5, .slice ma5 ml5 mc5] 25))
            have hnew := heap_alloc_new W (.cells #[.int .i64 (timeout n).1.id, .int .i64 (timeout n).1.n, .int .i64 (timeout n).1.term, .int .i64 (timeout n).1.vote, .slice la1 (timeout n).1.log.length lc1, .int .i64 (timeout n).1.commit, .int .i64 (timeout n).1.role, .int .i64 (timeout n).1.boss, .slice va1 vl1 vc1, .slice na1 nl1 nc1, .slice ma1 ml1 mc1, .int .i64 (beat n).1.id, .int .i64 (beat n).1.n, .int .i64 (beat n).1.term, .int .i64 (beat n).1.vote, .slice la2 (beat n).1.log.length lc2, .int .i64 (beat n).1.commit, .int .i64 (beat n).1.role, .int .i64 (beat n).1.boss, .slice va2 vl2 vc2, .slice na2 nl2 nc2, .slice ma2 ml2 mc2, .int .i64 (propose n cmd).1.id, .int .i64 (propose n cmd).1.n, .int .i64 (propose n cmd).1.term, .int .i64 (propose n cmd).1.vote, .slice la3 (propose n cmd).1.log.length lc3, .int .i64 (propose n cmd).1.commit, .int .i64 (propose n cmd).1.role, .int .i64 (propose n cmd).1.boss, .slice va3 vl3 vc3, .slice na3 nl3 nc3, .slice ma3 ml3 mc3, .int .i64 (receive n m).1.id, .int .i64 (receive n m).1.n, .int .i64 (receive n m).1.term, .int .i64 (receive n m).1.vote, .slice la4 (receive n m).1.log.length lc4, .int .i64 (receive n m).1.commit, .int .i64 (receive n m).1.role, .int .i64 (receive n m).1.boss, .slice va4 vl4 vc4, .slice na4 nl4 nc4, .slice ma4 ml4 mc4, .int .i64 (restart n).id, .int .i64 (restart n).n, .int .i64 (restart n).term, .int .i64 (restart n).vote, .slice la5 (restart n).log.length lc5, .int .i64 (restart n).commit, .int .i64 (restart n).role, .int .i64 (restart n).boss, .slice va5 vl5 vc5, .slice na5 nl5 nc5, .slice ma5 ml5 mc5] 25)
            have HOWN' := Lib.hid (own_later HOWN.out hkn)
            clear HOWN
            have HR5' := Lib.hid (HR5.out.into (S' := fun k => some k = Value.ownBlock _) hkn (fun _ _ h => h.elim) fun _ _ h => h)
            clear HR5
            generalize W.alloc (.cells #[.int .i64 (timeout n).1.id, .int .i64 (timeout n).1.n, .int .i64 (timeout n).1.term, .int .i64 (timeout n).1.vote, .slice la1 (timeout n).1.log.length lc1, .int .i64 (timeout n).1.commit, .int .i64 (timeout n).1.role, .int .i64 (timeout n).1.boss, .slice va1 vl1 vc1, .slice na1 nl1 nc1, .slice ma1 ml1 mc1, .int .i64 (beat n).1.id, .int .i64 (beat n).1.n, .int .i64 (beat n).1.term, .int .i64 (beat n).1.vote, .slice la2 (beat n).1.log.length lc2, .int .i64 (beat n).1.commit, .int .i64 (beat n).1.role, .int .i64 (beat n).1.boss, .slice va2 vl2 vc2, .slice na2 nl2 nc2, .slice ma2 ml2 mc2, .int .i64 (propose n cmd).1.id, .int .i64 (propose n cmd).1.n, .int .i64 (propose n cmd).1.term, .int .i64 (propose n cmd).1.vote, .slice la3 (propose n cmd).1.log.length lc3, .int .i64 (propose n cmd).1.commit, .int .i64 (propose n cmd).1.role, .int .i64 (propose n cmd).1.boss, .slice va3 vl3 vc3, .slice na3 nl3 nc3, .slice ma3 ml3 mc3, .int .i64 (receive n m).1.id, .int .i64 (receive n m).1.n, .int .i64 (receive n m).1.term, .int .i64 (receive n m).1.vote, .slice la4 (receive n m).1.log.length lc4, .int .i64 (receive n m).1.commit, .int .i64 (receive n m).1.role, .int .i64 (receive n m).1.boss, .slice va4 vl4 vc4, .slice na4 nl4 nc4, .slice ma4 ml4 mc4, .int .i64 (restart n).id, .int .i64 (restart n).n, .int .i64 (restart n).term, .int .i64 (restart n).vote, .slice la5 (restart n).log.length lc5, .int .i64 (restart n).commit, .int .i64 (restart n).role, .int .i64 (restart n).boss, .slice va5 vl5 vc5, .slice na5 nl5 nc5, .slice ma5 ml5 mc5] 25) = W' at *
            generalize W.heap.size = gn at *
            have HGN' := Lib.hid hnew
            clear hkn hnew HKW
            obtain ⟨W, rfl⟩ : ∃ W, W = W' := ⟨_, rfl⟩
            obtain ⟨HKW⟩ : Nonempty (Hid _) := ⟨HKW'⟩
            clear HKW'
            obtain ⟨HR5⟩ : Nonempty (Hid _) := ⟨HR5'⟩
            clear HR5'
            obtain ⟨HGN⟩ : Nonempty (Hid _) := ⟨HGN'⟩
            clear HGN'
            obtain ⟨HOWN⟩ : Nonempty (Hid _) := ⟨HOWN'⟩
            clear HOWN'
            apply Wc.wpAnyP_one (i := 13) (fuel := 3) (by kernel_rfl) rfl rfl
            obtain ⟨v', W', hrun, hown, hkw, hof, hgn, hnx⟩ := app_next HKW.out HOWN.out HOF.out HMS3.out.cells (msgs_one HMS3.out) (by have := HL1.out; have := HL2.out; have := HL3.out; omega) 28
            have HKW' := Lib.hid hkw
            have HOWN' := Lib.hid hown
            have HOF' := Lib.hid hof
            have HR5' := Lib.hid (hnx _ HR5.out)
            clear HR5 hnx
            have HGN' := Lib.hid (hgn _ _ HGN.out)
            clear HGN
            refine plain_append rfl rfl rfl hrun ⟨hkw, ?_⟩
            clear hrun hown hkw hof hgn HKW HOWN HOF
            go_simp
            obtain ⟨HOF⟩ : Nonempty (Hid _) := ⟨HOF'⟩
            clear HOF'
            obtain ⟨W, rfl⟩ : ∃ W, W = W' := ⟨_, rfl⟩
            obtain ⟨HKW⟩ : Nonempty (Hid _) := ⟨HKW'⟩
            clear HKW'
            obtain ⟨HR5⟩ : Nonempty (Hid _) := ⟨HR5'⟩
            clear HR5'
            obtain ⟨HGN⟩ : Nonempty (Hid _) := ⟨HGN'⟩
            clear HGN'
            obtain ⟨HOWN⟩ : Nonempty (Hid _) := ⟨HOWN'⟩
            clear HOWN'
            apply Wc.wpAnyP_one (i := 15) (fuel := 2) (by kernel_rfl) rfl rfl
            obtain ⟨v', W', hrun, hown, hkw, hof, hgn, hnx⟩ := app_next HKW.out HOWN.out HOF.out HMS4.out.cells (msgs_one HMS4.out) (by have := HL1.out; have := HL2.out; have := HL3.out; have := HL4.out; omega) 28
            have HKW' := Lib.hid hkw
            have HOWN' := Lib.hid hown
            have HOF' := Lib.hid hof
            have HR5' := Lib.hid (hnx _ HR5.out)
            clear HR5 hnx
            have HGN' := Lib.hid (hgn _ _ HGN.out)
            clear HGN
            refine plain_append rfl rfl rfl hrun ⟨hkw, ?_⟩
            clear hrun hown hkw hof hgn HKW HOWN HOF
            go_simp
            obtain ⟨HOF⟩ : Nonempty (Hid _) := ⟨HOF'⟩
            clear HOF'
            obtain ⟨W, rfl⟩ : ∃ W, W = W' := ⟨_, rfl⟩
            obtain ⟨HKW⟩ : Nonempty (Hid _) := ⟨HKW'⟩
            clear HKW'
            obtain ⟨HR5⟩ : Nonempty (Hid _) := ⟨HR5'⟩
            clear HR5'
            obtain ⟨HGN⟩ : Nonempty (Hid _) := ⟨HGN'⟩
            clear HGN'
            obtain ⟨HOWN⟩ : Nonempty (Hid _) := ⟨HOWN'⟩
            clear HOWN'
            apply Wc.wpAnyP_stays (by kernel_rfl) [16, 17] _ _ _ 0 _ HKW.out (by kernel_rfl) ?hs ?hr
            case hs =>
              apply Wc.wpStays_step rfl rfl
              · intro w' hw'
                clear hw'
                go_simp
                exact ⟨rfl, rfl⟩
              go_simp
              apply Wc.wpStays_step rfl rfl
              · intro w' hw'
                clear hw'
                go_simp
                exact ⟨rfl, rfl⟩
              go_simp
              exact rfl
            case hr =>
              refine ⟨by kernel_rfl, ?_⟩
              go_wp2_with fail
              refine bodyPost_ret (v := .tuple #[.slice (some ⟨gn, 0, none⟩) 5 5, _]) (by simp [results, Try.results35, go_sem]; rfl) rfl ?_
              exact FIN.out _ _ _ _ _ _ _ _ _ _ _ _ _ _ HKW.out HGN.out HOWN.out HR5.out
          · obtain ⟨v', W', hrun, hown, hkw, hof, hgn, hnx⟩ := app_next HKW.out HOWN.out HOF.out HMS3.out.cells (msgs_one HMS3.out) (by have := HL1.out; have := HL2.out; have := HL3.out; omega) 28
            have HKW' := Lib.hid hkw
            have HOWN' := Lib.hid hown
            have HOF' := Lib.hid hof
            have HR5' := Lib.hid (hnx _ HR5.out)
            clear HR5 hnx
            refine plain_append rfl rfl rfl hrun ⟨hkw, ?_⟩
            clear hrun hown hkw hof hgn HKW HOWN HOF
            go_simp
            obtain ⟨HOF⟩ : Nonempty (Hid _) := ⟨HOF'⟩
            clear HOF'
            obtain ⟨W, rfl⟩ : ∃ W, W = W' := ⟨_, rfl⟩
            obtain ⟨HKW⟩ : Nonempty (Hid _) := ⟨HKW'⟩
            clear HKW'
            obtain ⟨HR5⟩ : Nonempty (Hid _) := ⟨HR5'⟩
            clear HR5'
            obtain ⟨HOWN⟩ : Nonempty (Hid _) := ⟨HOWN'⟩
            clear HOWN'
            apply Wc.wpAnyP_two (i := 6) (k := 15) (fuel := 3) (by kernel_rfl) rfl rfl rfl rfl
            · go_simp
              refine ⟨HKW.out.alloc _, ?_⟩
              have hkn : Keeps Free W (W.alloc (.cells #[.int .i64 (timeout n).1.id, .int .i64 (timeout n).1.n, .int .i64 (timeout n).1.term, .int .i64 (timeout n).1.vote, .slice la1 (timeout n).1.log.length lc1, .int .i64 (timeout n).1.commit, .int .i64 (timeout n).1.role, .int .i64 (timeout n).1.boss, .slice va1 vl1 vc1, .slice na1 nl1 nc1, .slice ma1 ml1 mc1, .int .i64 (beat n).1.id, .int .i64 (beat n).1.n, .int .i64 (beat n).1.term, .int .i64 (beat n).1.vote, .slice la2 (beat n).1.log.length lc2, .int .i64 (beat n).1.commit, .int .i64 (beat n).1.role, .int .i64 (beat n).1.boss, .slice va2 vl2 vc2, .slice na2 nl2 nc2, .slice ma2 ml2 mc2, .int .i64 (propose n cmd).1.id, .int .i64 (propose n cmd).1.n, .int .i64 (propose n cmd).1.term, .int .i64 (propose n cmd).1.vote, .slice la3 (propose n cmd).1.log.length lc3, .int .i64 (propose n cmd).1.commit, .int .i64 (propose n cmd).1.role, .int .i64 (propose n cmd).1.boss, .slice va3 vl3 vc3, .slice na3 nl3 nc3, .slice ma3 ml3 mc3, .int .i64 (receive n m).1.id, .int .i64 (receive n m).1.n, .int .i64 (receive n m).1.term, .int .i64 (receive n m).1.vote, .slice la4 (receive n m).1.log.length lc4, .int .i64 (receive n m).1.commit, .int .i64 (receive n m).1.role, .int .i64 (receive n m).1.boss, .slice va4 vl4 vc4, .slice na4 nl4 nc4, .slice ma4 ml4 mc4, .int .i64 (restart n).id, .int .i64 (restart n).n, .int .i64 (restart n).term, .int .i64 (restart n).vote, .slice la5 (restart n).log.length lc5, .int .i64 (restart n).commit, .int .i64 (restart n).role, .int .i64 (restart n).boss, .slice va5 vl5 vc5, .slice na5 nl5 nc5, .slice ma5 ml5 mc5] 25)) := (Keeps.refl Free W).alloc (.cells #[.int .i64 (timeout n).1.id, .int .i64 (timeout n).1.n, .int .i64 (timeout n).1.term, .int .i64 (timeout n).1.vote, .slice la1 (timeout n).1.log.length lc1, .int .i64 (timeout n).1.commit, .int .i64 (timeout n).1.role, .int .i64 (timeout n).1.boss, .slice va1 vl1 vc1, .slice na1 nl1 nc1, .slice ma1 ml1 mc1, .int .i64 (beat n).1.id, .int .i64 (beat n).1.n, .int .i64 (beat n).1.term, .int .i64 (beat n).1.vote, .slice la2 (beat n).1.log.length lc2, .int .i64 (beat n).1.commit, .int .i64 (beat n).1.role, .int .i64 (beat n).1.boss, .slice va2 vl2 vc2, .slice na2 nl2 nc2, .slice ma2 ml2 mc2, .int .i64 (propose n cmd).1.id, .int .i64 (propose n cmd).1.n, .int .i64 (propose n cmd).1.term, .int .i64 (propose n cmd).1.vote, .slice la3 (propose n cmd).1.log.length lc3, .int .i64 (propose n cmd).1.commit, .int .i64 (propose n cmd).1.role, .int .i64 (propose n cmd).1.boss, .slice va3 vl3 vc3, .slice na3 nl3 nc3, .slice ma3 ml3 mc3, .int .i64 (receive n m).1.id, .int .i64 (receive n m).1.n, .int .i64 (receive n m).1.term, .int .i64 (receive n m).1.vote, .slice la4 (receive n m).1.log.length lc4, .int .i64 (receive n m).1.commit, .int .i64 (receive n m).1.role, .int .i64 (receive n m).1.boss, .slice va4 vl4 vc4, .slice na4 nl4 nc4, .slice ma4 ml4 mc4, .int .i64 (restart n).id, .int .i64 (restart n).n, .int .i64 (restart n).term, .int .i64 (restart n).vote, .slice la5 (restart n).log.length lc5, .int .i64 (restart n).commit, .int .i64 (restart n).role, .int .i64 (restart n).boss, .slice va5 vl5 vc5, .slice na5 nl5 nc5, .slice ma5 ml5 mc5] 25)
              have HKW' := Lib.hid (HKW.out.alloc (.cells #[.int .i64 (timeout n).1.id, .int .i64 (timeout n).1.n, .int .i64 (timeout n).1.term, .int .i64 (timeout n).1.vote, .slice la1 (timeout n).1.log.length lc1, .int .i64 (timeout n).1.commit, .int .i64 (timeout n).1.role, .int .i64 (timeout n).1.boss, .slice va1 vl1 vc1, .slice na1 nl1 nc1, .slice ma1 ml1 mc1, .int .i64 (beat n).1.id, .int .i64 (beat n).1.n, .int .i64 (beat n).1.term, .int .i64 (beat n).1.vote, .slice la2 (beat n).1.log.length lc2, .int .i64 (beat n).1.commit, .int .i64 (beat n).1.role, .int .i64 (beat n).1.boss, .slice va2 vl2 vc2, .slice na2 nl2 nc2, .slice ma2 ml2 mc2, .int .i64 (propose n cmd).1.id, .int .i64 (propose n cmd).1.n, .int .i64 (propose n cmd).1.term, .int .i64 (propose n cmd).1.vote, .slice la3 (propose n cmd).1.log.length lc3, .int .i64 (propose n cmd).1.commit, .int .i64 (propose n cmd).1.role, .int .i64 (propose n cmd).1.boss, .slice va3 vl3 vc3, .slice na3 nl3 nc3, .slice ma3 ml3 mc3, .int .i64 (receive n m).1.id, .int .i64 (receive n m).1.n, .int .i64 (receive n m).1.term, .int .i64 (receive n m).1.vote, .slice la4 (receive n m).1.log.length lc4, .int .i64 (receive n m).1.commit, .int .i64 (receive n m).1.role, .int .i64 (receive n m).1.boss, .slice va4 vl4 vc4, .slice na4 nl4 nc4, .slice ma4 ml4 mc4, .int .i64 (restart n).id, .int .i64 (restart n).n, .int .i64 (restart n).term, .int .i64 (restart n).vote, .slice la5 (restart n).log.length lc5, .int .i64 (restart n).commit, .int .i64 (restart n).role, .int .i64 (restart n).boss, .slice va5 vl5 vc5, .slice na5 nl5 nc5, .slice ma5 ml5 mc5] 25))
              have hnew := heap_alloc_new W (.cells #[.int .i64 (timeout n).1.id, .int .i64 (timeout n).1.n, .int .i64 (timeout n).1.term, .int .i64 (timeout n).1.vote, .slice la1 (timeout n).1.log.length lc1, .int .i64 (timeout n).1.commit, .int .i64 (timeout n).1.role, .int .i64 (timeout n).1.boss, .slice va1 vl1 vc1, .slice na1 nl1 nc1, .slice ma1 ml1 mc1, .int .i64 (beat n).1.id, .int .i64 (beat n).1.n, .int .i64 (beat n).1.term, .int .i64 (beat n).1.vote, .slice la2 (beat n).1.log.length lc2, .int .i64 (beat n).1.commit, .int .i64 (beat n).1.role, .int .i64 (beat n).1.boss, .slice va2 vl2 vc2, .slice na2 nl2 nc2, .slice ma2 ml2 mc2, .int .i64 (propose n cmd).1.id, .int .i64 (propose n cmd).1.n, .int .i64 (propose n cmd).1.term, .int .i64 (propose n cmd).1.vote, .slice la3 (propose n cmd).1.log.length lc3, .int .i64 (propose n cmd).1.commit, .int .i64 (propose n cmd).1.role, .int .i64 (propose n cmd).1.boss, .slice va3 vl3 vc3, .slice na3 nl3 nc3, .slice ma3 ml3 mc3, .int .i64 (receive n m).1.id, .int .i64 (receive n m).1.n, .int .i64 (receive n m).1.term, .int .i64 (receive n m).1.vote, .slice la4 (receive n m).1.log.length lc4, .int .i64 (receive n m).1.commit, .int .i64 (receive n m).1.role, .int .i64 (receive n m).1.boss, .slice va4 vl4 vc4, .slice na4 nl4 nc4, .slice ma4 ml4 mc4, .int .i64 (restart n).id, .int .i64 (restart n).n, .int .i64 (restart n).term, .int .i64 (restart n).vote, .slice la5 (restart n).log.length lc5, .int .i64 (restart n).commit, .int .i64 (restart n).role, .int .i64 (restart n).boss, .slice va5 vl5 vc5, .slice na5 nl5 nc5, .slice ma5 ml5 mc5] 25)
              have HOWN' := Lib.hid (own_later HOWN.out hkn)
              clear HOWN
              have HR5' := Lib.hid (HR5.out.into (S' := fun k => some k = Value.ownBlock _) hkn (fun _ _ h => h.elim) fun _ _ h => h)
              clear HR5
              generalize W.alloc (.cells #[.int .i64 (timeout n).1.id, .int .i64 (timeout n).1.n, .int .i64 (timeout n).1.term, .int .i64 (timeout n).1.vote, .slice la1 (timeout n).1.log.length lc1, .int .i64 (timeout n).1.commit, .int .i64 (timeout n).1.role, .int .i64 (timeout n).1.boss, .slice va1 vl1 vc1, .slice na1 nl1 nc1, .slice ma1 ml1 mc1, .int .i64 (beat n).1.id, .int .i64 (beat n).1.n, .int .i64 (beat n).1.term, .int .i64 (beat n).1.vote, .slice la2 (beat n).1.log.length lc2, .int .i64 (beat n).1.commit, .int .i64 (beat n).1.role, .int .i64 (beat n).1.boss, .slice va2 vl2 vc2, .slice na2 nl2 nc2, .slice ma2 ml2 mc2, .int .i64 (propose n cmd).1.id, .int .i64 (propose n cmd).1.n, .int .i64 (propose n cmd).1.term, .int .i64 (propose n cmd).1.vote, .slice la3 (propose n cmd).1.log.length lc3, .int .i64 (propose n cmd).1.commit, .int .i64 (propose n cmd).1.role, .int .i64 (propose n cmd).1.boss, .slice va3 vl3 vc3, .slice na3 nl3 nc3, .slice ma3 ml3 mc3, .int .i64 (receive n m).1.id, .int .i64 (receive n m).1.n, .int .i64 (receive n m).1.term, .int .i64 (receive n m).1.vote, .slice la4 (receive n m).1.log.length lc4, .int .i64 (receive n m).1.commit, .int .i64 (receive n m).1.role, .int .i64 (receive n m).1.boss, .slice va4 vl4 vc4, .slice na4 nl4 nc4, .slice ma4 ml4 mc4, .int .i64 (restart n).id, .int .i64 (restart n).n, .int .i64 (restart n).term, .int .i64 (restart n).vote, .slice la5 (restart n).log.length lc5, .int .i64 (restart n).commit, .int .i64 (restart n).role, .int .i64 (restart n).boss, .slice va5 vl5 vc5, .slice na5 nl5 nc5, .slice ma5 ml5 mc5] 25) = W' at *
              generalize W.heap.size = gn at *
              have HGN' := Lib.hid hnew
              clear hkn hnew HKW
              obtain ⟨W, rfl⟩ : ∃ W, W = W' := ⟨_, rfl⟩
              obtain ⟨HKW⟩ : Nonempty (Hid _) := ⟨HKW'⟩
              clear HKW'
              obtain ⟨HR5⟩ : Nonempty (Hid _) := ⟨HR5'⟩
              clear HR5'
              obtain ⟨HGN⟩ : Nonempty (Hid _) := ⟨HGN'⟩
              clear HGN'
              obtain ⟨HOWN⟩ : Nonempty (Hid _) := ⟨HOWN'⟩
              clear HOWN'
              apply Wc.wpAnyP_one (i := 15) (fuel := 2) (by kernel_rfl) rfl rfl
              obtain ⟨v', W', hrun, hown, hkw, hof, hgn, hnx⟩ := app_next HKW.out HOWN.out HOF.out HMS4.out.cells (msgs_one HMS4.out) (by have := HL1.out; have := HL2.out; have := HL3.out; have := HL4.out; omega) 28
              have HKW' := Lib.hid hkw
              have HOWN' := Lib.hid hown
              have HOF' := Lib.hid hof
              have HR5' := Lib.hid (hnx _ HR5.out)
              clear HR5 hnx
              have HGN' := Lib.hid (hgn _ _ HGN.out)
              clear HGN
              refine plain_append rfl rfl rfl hrun ⟨hkw, ?_⟩
              clear hrun hown hkw hof hgn HKW HOWN HOF
              go_simp
              obtain ⟨HOF⟩ : Nonempty (Hid _) := ⟨HOF'⟩
              clear HOF'
              obtain ⟨W, rfl⟩ : ∃ W, W = W' := ⟨_, rfl⟩
              obtain ⟨HKW⟩ : Nonempty (Hid _) := ⟨HKW'⟩
              clear HKW'
              obtain ⟨HR5⟩ : Nonempty (Hid _) := ⟨HR5'⟩
              clear HR5'
              obtain ⟨HGN⟩ : Nonempty (Hid _) := ⟨HGN'⟩
              clear HGN'
              obtain ⟨HOWN⟩ : Nonempty (Hid _) := ⟨HOWN'⟩
              clear HOWN'
              apply Wc.wpAnyP_stays (by kernel_rfl) [16, 17] _ _ _ 0 _ HKW.out (by kernel_rfl) ?hs ?hr
              case hs =>
                apply Wc.wpStays_step rfl rfl
                · intro w' hw'
                  clear hw'
                  go_simp
                  exact ⟨rfl, rfl⟩
                go_simp
                apply Wc.wpStays_step rfl rfl
                · intro w' hw'
                  clear hw'
                  go_simp
                  exact ⟨rfl, rfl⟩
                go_simp
                exact rfl
              case hr =>
                refine ⟨by kernel_rfl, ?_⟩
                go_wp2_with fail
                refine bodyPost_ret (v := .tuple #[.slice (some ⟨gn, 0, none⟩) 5 5, _]) (by simp [results, Try.results35, go_sem]; rfl) rfl ?_
                exact FIN.out _ _ _ _ _ _ _ _ _ _ _ _ _ _ HKW.out HGN.out HOWN.out HR5.out
            · obtain ⟨v', W', hrun, hown, hkw, hof, hgn, hnx⟩ := app_next HKW.out HOWN.out HOF.out HMS4.out.cells (msgs_one HMS4.out) (by have := HL1.out; have := HL2.out; have := HL3.out; have := HL4.out; omega) 28
              have HKW' := Lib.hid hkw
              have HOWN' := Lib.hid hown
              have HOF' := Lib.hid hof
              have HR5' := Lib.hid (hnx _ HR5.out)
              clear HR5 hnx
              refine plain_append rfl rfl rfl hrun ⟨hkw, ?_⟩
              clear hrun hown hkw hof hgn HKW HOWN HOF
              go_simp
              obtain ⟨HOF⟩ : Nonempty (Hid _) := ⟨HOF'⟩
              clear HOF'
              obtain ⟨W, rfl⟩ : ∃ W, W = W' := ⟨_, rfl⟩
              obtain ⟨HKW⟩ : Nonempty (Hid _) := ⟨HKW'⟩
              clear HKW'
              obtain ⟨HR5⟩ : Nonempty (Hid _) := ⟨HR5'⟩
              clear HR5'
              obtain ⟨HOWN⟩ : Nonempty (Hid _) := ⟨HOWN'⟩
              clear HOWN'
              apply Wc.wpAnyP_one (i := 6) (fuel := 2) (by kernel_rfl) rfl rfl
              go_simp
              refine ⟨HKW.out.alloc _, ?_⟩
              have hkn : Keeps Free W (W.alloc (.cells #[.int .i64 (timeout n).1.id, .int .i64 (timeout n).1.n, .int .i64 (timeout n).1.term, .int .i64 (timeout n).1.vote, .slice la1 (timeout n).1.log.length lc1, .int .i64 (timeout n).1.commit, .int .i64 (timeout n).1.role, .int .i64 (timeout n).1.boss, .slice va1 vl1 vc1, .slice na1 nl1 nc1, .slice ma1 ml1 mc1, .int .i64 (beat n).1.id, .int .i64 (beat n).1.n, .int .i64 (beat n).1.term, .int .i64 (beat n).1.vote, .slice la2 (beat n).1.log.length lc2, .int .i64 (beat n).1.commit, .int .i64 (beat n).1.role, .int .i64 (beat n).1.boss, .slice va2 vl2 vc2, .slice na2 nl2 nc2, .slice ma2 ml2 mc2, .int .i64 (propose n cmd).1.id, .int .i64 (propose n cmd).1.n, .int .i64 (propose n cmd).1.term, .int .i64 (propose n cmd).1.vote, .slice la3 (propose n cmd).1.log.length lc3, .int .i64 (propose n cmd).1.commit, .int .i64 (propose n cmd).1.role, .int .i64 (propose n cmd).1.boss, .slice va3 vl3 vc3, .slice na3 nl3 nc3, .slice ma3 ml3 mc3, .int .i64 (receive n m).1.id, .int .i64 (receive n m).1.n, .int .i64 (receive n m).1.term, .int .i64 (receive n m).1.vote, .slice la4 (receive n m).1.log.length lc4, .int .i64 (receive n m).1.commit, .int .i64 (receive n m).1.role, .int .i64 (receive n m).1.boss, .slice va4 vl4 vc4, .slice na4 nl4 nc4, .slice ma4 ml4 mc4, .int .i64 (restart n).id, .int .i64 (restart n).n, .int .i64 (restart n).term, .int .i64 (restart n).vote, .slice la5 (restart n).log.length lc5, .int .i64 (restart n).commit, .int .i64 (restart n).role, .int .i64 (restart n).boss, .slice va5 vl5 vc5, .slice na5 nl5 nc5, .slice ma5 ml5 mc5] 25)) := (Keeps.refl Free W).alloc (.cells #[.int .i64 (timeout n).1.id, .int .i64 (timeout n).1.n, .int .i64 (timeout n).1.term, .int .i64 (timeout n).1.vote, .slice la1 (timeout n).1.log.length lc1, .int .i64 (timeout n).1.commit, .int .i64 (timeout n).1.role, .int .i64 (timeout n).1.boss, .slice va1 vl1 vc1, .slice na1 nl1 nc1, .slice ma1 ml1 mc1, .int .i64 (beat n).1.id, .int .i64 (beat n).1.n, .int .i64 (beat n).1.term, .int .i64 (beat n).1.vote, .slice la2 (beat n).1.log.length lc2, .int .i64 (beat n).1.commit, .int .i64 (beat n).1.role, .int .i64 (beat n).1.boss, .slice va2 vl2 vc2, .slice na2 nl2 nc2, .slice ma2 ml2 mc2, .int .i64 (propose n cmd).1.id, .int .i64 (propose n cmd).1.n, .int .i64 (propose n cmd).1.term, .int .i64 (propose n cmd).1.vote, .slice la3 (propose n cmd).1.log.length lc3, .int .i64 (propose n cmd).1.commit, .int .i64 (propose n cmd).1.role, .int .i64 (propose n cmd).1.boss, .slice va3 vl3 vc3, .slice na3 nl3 nc3, .slice ma3 ml3 mc3, .int .i64 (receive n m).1.id, .int .i64 (receive n m).1.n, .int .i64 (receive n m).1.term, .int .i64 (receive n m).1.vote, .slice la4 (receive n m).1.log.length lc4, .int .i64 (receive n m).1.commit, .int .i64 (receive n m).1.role, .int .i64 (receive n m).1.boss, .slice va4 vl4 vc4, .slice na4 nl4 nc4, .slice ma4 ml4 mc4, .int .i64 (restart n).id, .int .i64 (restart n).n, .int .i64 (restart n).term, .int .i64 (restart n).vote, .slice la5 (restart n).log.length lc5, .int .i64 (restart n).commit, .int .i64 (restart n).role, .int .i64 (restart n).boss, .slice va5 vl5 vc5, .slice na5 nl5 nc5, .slice ma5 ml5 mc5] 25)
              have HKW' := Lib.hid (HKW.out.alloc (.cells #[.int .i64 (timeout n).1.id, .int .i64 (timeout n).1.n, .int .i64 (timeout n).1.term, .int .i64 (timeout n).1.vote, .slice la1 (timeout n).1.log.length lc1, .int .i64 (timeout n).1.commit, .int .i64 (timeout n).1.role, .int .i64 (timeout n).1.boss, .slice va1 vl1 vc1, .slice na1 nl1 nc1, .slice ma1 ml1 mc1, .int .i64 (beat n).1.id, .int .i64 (beat n).1.n, .int .i64 (beat n).1.term, .int .i64 (beat n).1.vote, .slice la2 (beat n).1.log.length lc2, .int .i64 (beat n).1.commit, .int .i64 (beat n).1.role, .int .i64 (beat n).1.boss, .slice va2 vl2 vc2, .slice na2 nl2 nc2, .slice ma2 ml2 mc2, .int .i64 (propose n cmd).1.id, .int .i64 (propose n cmd).1.n, .int .i64 (propose n cmd).1.term, .int .i64 (propose n cmd).1.vote, .slice la3 (propose n cmd).1.log.length lc3, .int .i64 (propose n cmd).1.commit, .int .i64 (propose n cmd).1.role, .int .i64 (propose n cmd).1.boss, .slice va3 vl3 vc3, .slice na3 nl3 nc3, .slice ma3 ml3 mc3, .int .i64 (receive n m).1.id, .int .i64 (receive n m).1.n, .int .i64 (receive n m).1.term, .int .i64 (receive n m).1.vote, .slice la4 (receive n m).1.log.length lc4, .int .i64 (receive n m).1.commit, .int .i64 (receive n m).1.role, .int .i64 (receive n m).1.boss, .slice va4 vl4 vc4, .slice na4 nl4 nc4, .slice ma4 ml4 mc4, .int .i64 (restart n).id, .int .i64 (restart n).n, .int .i64 (restart n).term, .int .i64 (restart n).vote, .slice la5 (restart n).log.length lc5, .int .i64 (restart n).commit, .int .i64 (restart n).role, .int .i64 (restart n).boss, .slice va5 vl5 vc5, .slice na5 nl5 nc5, .slice ma5 ml5 mc5] 25))
              have hnew := heap_alloc_new W (.cells #[.int .i64 (timeout n).1.id, .int .i64 (timeout n).1.n, .int .i64 (timeout n).1.term, .int .i64 (timeout n).1.vote, .slice la1 (timeout n).1.log.length lc1, .int .i64 (timeout n).1.commit, .int .i64 (timeout n).1.role, .int .i64 (timeout n).1.boss, .slice va1 vl1 vc1, .slice na1 nl1 nc1, .slice ma1 ml1 mc1, .int .i64 (beat n).1.id, .int .i64 (beat n).1.n, .int .i64 (beat n).1.term, .int .i64 (beat n).1.vote, .slice la2 (beat n).1.log.length lc2, .int .i64 (beat n).1.commit, .int .i64 (beat n).1.role, .int .i64 (beat n).1.boss, .slice va2 vl2 vc2, .slice na2 nl2 nc2, .slice ma2 ml2 mc2, .int .i64 (propose n cmd).1.id, .int .i64 (propose n cmd).1.n, .int .i64 (propose n cmd).1.term, .int .i64 (propose n cmd).1.vote, .slice la3 (propose n cmd).1.log.length lc3, .int .i64 (propose n cmd).1.commit, .int .i64 (propose n cmd).1.role, .int .i64 (propose n cmd).1.boss, .slice va3 vl3 vc3, .slice na3 nl3 nc3, .slice ma3 ml3 mc3, .int .i64 (receive n m).1.id, .int .i64 (receive n m).1.n, .int .i64 (receive n m).1.term, .int .i64 (receive n m).1.vote, .slice la4 (receive n m).1.log.length lc4, .int .i64 (receive n m).1.commit, .int .i64 (receive n m).1.role, .int .i64 (receive n m).1.boss, .slice va4 vl4 vc4, .slice na4 nl4 nc4, .slice ma4 ml4 mc4, .int .i64 (restart n).id, .int .i64 (restart n).n, .int .i64 (restart n).term, .int .i64 (restart n).vote, .slice la5 (restart n).log.length lc5, .int .i64 (restart n).commit, .int .i64 (restart n).role, .int .i64 (restart n).boss, .slice va5 vl5 vc5, .slice na5 nl5 nc5, .slice ma5 ml5 mc5] 25)
              have HOWN' := Lib.hid (own_later HOWN.out hkn)
              clear HOWN
              have HR5' := Lib.hid (HR5.out.into (S' := fun k => some k = Value.ownBlock _) hkn (fun _ _ h => h.elim) fun _ _ h => h)
              clear HR5
              generalize W.alloc (.cells #[.int .i64 (timeout n).1.id, .int .i64 (timeout n).1.n, .int .i64 (timeout n).1.term, .int .i64 (timeout n).1.vote, .slice la1 (timeout n).1.log.length lc1, .int .i64 (timeout n).1.commit, .int .i64 (timeout n).1.role, .int .i64 (timeout n).1.boss, .slice va1 vl1 vc1, .slice na1 nl1 nc1, .slice ma1 ml1 mc1, .int .i64 (beat n).1.id, .int .i64 (beat n).1.n, .int .i64 (beat n).1.term, .int .i64 (beat n).1.vote, .slice la2 (beat n).1.log.length lc2, .int .i64 (beat n).1.commit, .int .i64 (beat n).1.role, .int .i64 (beat n).1.boss, .slice va2 vl2 vc2, .slice na2 nl2 nc2, .slice ma2 ml2 mc2, .int .i64 (propose n cmd).1.id, .int .i64 (propose n cmd).1.n, .int .i64 (propose n cmd).1.term, .int .i64 (propose n cmd).1.vote, .slice la3 (propose n cmd).1.log.length lc3, .int .i64 (propose n cmd).1.commit, .int .i64 (propose n cmd).1.role, .int .i64 (propose n cmd).1.boss, .slice va3 vl3 vc3, .slice na3 nl3 nc3, .slice ma3 ml3 mc3, .int .i64 (receive n m).1.id, .int .i64 (receive n m).1.n, .int .i64 (receive n m).1.term, .int .i64 (receive n m).1.vote, .slice la4 (receive n m).1.log.length lc4, .int .i64 (receive n m).1.commit, .int .i64 (receive n m).1.role, .int .i64 (receive n m).1.boss, .slice va4 vl4 vc4, .slice na4 nl4 nc4, .slice ma4 ml4 mc4, .int .i64 (restart n).id, .int .i64 (restart n).n, .int .i64 (restart n).term, .int .i64 (restart n).vote, .slice la5 (restart n).log.length lc5, .int .i64 (restart n).commit, .int .i64 (restart n).role, .int .i64 (restart n).boss, .slice va5 vl5 vc5, .slice na5 nl5 nc5, .slice ma5 ml5 mc5] 25) = W' at *
              generalize W.heap.size = gn at *
              have HGN' := Lib.hid hnew
              clear hkn hnew HKW
              obtain ⟨W, rfl⟩ : ∃ W, W = W' := ⟨_, rfl⟩
              obtain ⟨HKW⟩ : Nonempty (Hid _) := ⟨HKW'⟩
              clear HKW'
              obtain ⟨HR5⟩ : Nonempty (Hid _) := ⟨HR5'⟩
              clear HR5'
              obtain ⟨HGN⟩ : Nonempty (Hid _) := ⟨HGN'⟩
              clear HGN'
              obtain ⟨HOWN⟩ : Nonempty (Hid _) := ⟨HOWN'⟩
              clear HOWN'
              apply Wc.wpAnyP_stays (by kernel_rfl) [16, 17] _ _ _ 0 _ HKW.out (by kernel_rfl) ?hs ?hr
              case hs =>
                apply Wc.wpStays_step rfl rfl
                · intro w' hw'
                  clear hw'
                  go_simp
                  exact ⟨rfl, rfl⟩
                go_simp
                apply Wc.wpStays_step rfl rfl
                · intro w' hw'
                  clear hw'
                  go_simp
                  exact ⟨rfl, rfl⟩
                go_simp
                exact rfl
              case hr =>
                refine ⟨by kernel_rfl, ?_⟩
                go_wp2_with fail
                refine bodyPost_ret (v := .tuple #[.slice (some ⟨gn, 0, none⟩) 5 5, _]) (by simp [results, Try.results35, go_sem]; rfl) rfl ?_
                exact FIN.out _ _ _ _ _ _ _ _ _ _ _ _ _ _ HKW.out HGN.out HOWN.out HR5.out
end Go.Proofs.Ytibjbpakbfodaaa
