/- A node in a box, as the document's answer has it at work: what is kept, what is set. Lemmas on memory, no walk. The document's answer, chapter 15: an item put into a leader's log. -/
import Derived.Test.YtibjbpakbfodaaaXRefD
import Derived.Test.YtibjbpakbfodaaaXFirst
namespace Go.Proofs.Ytibjbpakbfodaaa
open Go.RowKit

/-- A node in block B; a result in block r; no list of the node in a block from B to r. -/
structure Boxed (w : World) (Q : Nat → Prop) (B r : Nat) (x : NodV) (wx : World) : Prop where
  keeps : Keeps Free w wx
  le : w.heap.size ≤ B
  lt : B < r
  old : ∀ k, Q k → k < w.heap.size
  blk : wx.heap[B]? = some (.cells (nodCells x).toArray 25 (0, 0))
  res : wx.heap[r]? = some (.cells zero11 25 (0, 0))
  ok : NodeOk wx (fun k => Q k ∨ (B ≤ k ∧ k ≤ r)) x

theorem NodeOk.weak {w : World} {S S' : Nat → Prop} {x : NodV} (h : NodeOk w S x) (hs : ∀ k, k < w.heap.size → S' k → S k) : NodeOk w S' x := h.into (Keeps.refl Free w) (fun _ _ h => h.elim) hs
theorem Sl.weak {w : World} {S S' : Nat → Prop} {v : Value} {size : Nat} {xs : List Value} (h : Sl w S v size xs) (hs : ∀ k, k < w.heap.size → S' k → S k) : Sl w S' v size xs := h.into (Keeps.refl Free w) (fun _ _ h => h.elim) hs
theorem MsgsOk.weak {w : World} {S S' : Nat → Prop} {v : Value} {l : List MesV} (h : MsgsOk w S v l) (hs : ∀ k, k < w.heap.size → S' k → S k) : MsgsOk w S' v l := h.into (Keeps.refl Free w) (fun _ _ h => h.elim) hs

theorem Boxed.start {w wx : World} {Q : Nat → Prop} {x : NodV} {r : Nat} (h : NodeOk w Q x) (hQ : ∀ k, Q k → k < w.heap.size) (hk : Keeps Free w wx) (hlt : w.heap.size < r) (hb : wx.heap[w.heap.size]? = some (.cells (nodCells x).toArray 25 (0, 0)))
    (hr : wx.heap[r]? = some (.cells zero11 25 (0, 0))) : Boxed w Q w.heap.size r x wx :=
  ⟨hk, Nat.le_refl _, hlt, hQ, hb, hr, h.into hk (fun _ _ h => h.elim) fun k hk' h => h.elim id fun h => by omega⟩

theorem Boxed.later {w wx wy : World} {Q : Nat → Prop} {B r : Nat} {x : NodV} (h : Boxed w Q B r x wx) (hk : Keeps Free wx wy) : Boxed w Q B r x wy :=
  ⟨h.keeps.trans hk (fun _ h => .inl h), h.le, h.lt, h.old, hk.blk h.blk, hk.blk h.res, h.ok.into hk (fun _ _ h => h.elim) (fun _ _ h => h)⟩

theorem Boxed.free {w wx : World} {Q : Nat → Prop} {B r : Nat} {x : NodV} (h : Boxed w Q B r x wx) : NodeOk wx Free x := h.ok.weak fun _ _ h => h.elim

theorem Boxed.rlt {w wx : World} {Q : Nat → Prop} {B r : Nat} {x : NodV} (h : Boxed w Q B r x wx) : r < wx.heap.size := laid_lt h.res

/-- The node's own block alone has been written. -/
theorem Boxed.put {w wx wy : World} {Q : Nat → Prop} {B r : Nat} {x y : NodV} (h : Boxed w Q B r x wx) (hk : Keeps (fun k => k = B) wx wy) (hb : wy.heap[B]? = some (.cells (nodCells y).toArray 25 (0, 0)))
    (hy : NodeOk wx (fun k => Q k ∨ (B ≤ k ∧ k ≤ r)) y) : Boxed w Q B r y wy :=
  ⟨h.keeps.trans hk (fun k e => .inr (by rw [e]; exact h.le)), h.le, h.lt, h.old, hb, (hk.block r h.rlt (fun e => by have := h.lt; omega)).trans h.res, hy.into hk (fun k _ e => .inr ⟨by omega, by have := h.lt; omega⟩) (fun _ _ h => h)⟩

/-- One field of it has been set. -/
theorem Boxed.set {w wx : World} {Q : Nat → Prop} {B r : Nat} {x : NodV} (h : Boxed w Q B r x wx) (k : Nat) (u : Value) (y : NodV) (hc : (nodCells y).toArray = (nodCells x).toArray.setIfInBounds k u)
    (hy : NodeOk wx (fun k => Q k ∨ (B ≤ k ∧ k ≤ r)) y) : Boxed w Q B r y (wx.setCell ⟨B, k, none⟩ u) :=
  h.put ((Keeps.refl (fun j => j = B) wx).setCell (p := ⟨B, k, none⟩) (.inl rfl) u) (by rw [setCell_blk h.blk, hc]) hy

/-- The result's block alone has been written. -/
theorem Boxed.done {w wx wy : World} {Q : Nat → Prop} {B r : Nat} {x : NodV} (h : Boxed w Q B r x wx) (hk : Keeps (fun k => k = r) wx wy) : NodeOk wy Q x ∧ Keeps Free w wy :=
  ⟨h.ok.into hk (fun k _ e => .inr ⟨by have := h.lt; omega, by omega⟩) (fun k _ h => .inl h), h.keeps.trans hk (fun k e => .inr (by have := h.lt; have := h.le; omega))⟩

theorem MesOk.weak {w : World} {S S' : Nat → Prop} {m : MesV} (h : MesOk w S m) (hs : ∀ k, k < w.heap.size → S' k → S k) : MesOk w S' m := Sl.weak h hs

set_option maxRecDepth 100000 in
/-- What a row's append comes to, in a world where the row is new. -/
theorem app_row {t ty e size bytes : Nat} {i0 : TypeInfo} {z : Value} (ht : Try.prog.underlying t = some (.slice e)) (hi : Try.prog.info? e = some i0) (hz : i0.zero = some z) (hsz : i0.size = size) (hby : i0.bytes = bytes) (hzs : z.cells.size = size) (hs0 : 0 < size) (hbb : bytes ≤ 1000)
    {base : Nat} {w : World} (hB : base ≤ w.heap.size) {v : Value} {n : Nat} {xs : List Value} (hown : w.ownsRow base e size v n xs) {A : Option Addr} {m c : Nat} {news : List Value}
    (hs : Sl w Free (.slice A m c) size news) (h1 : ∀ u ∈ news, u.oneCell' = true) (hnm : n + m ≤ 1000000) :
    ∃ v' w', (Builtin.append_ #[t, t] ty #[v, .slice A m c]).run Try.prog w = .ok v' w' ∧ w'.ownsRow base e size v' (n + m) (xs ++ news) ∧ Keeps (fun k => v.ownBlock = some k) w w' ∧ (v'.ownBlock = v.ownBlock ∨ v'.ownBlock = some w.heap.size) := by
  obtain ⟨A', m', c', e', hl, _, _, hc⟩ := hs
  injection e' with e1 e2 e3
  subst e1 e2 e3
  cases A with
  | none =>
    have hm0 : m = 0 := by
      rcases Nat.eq_zero_or_pos m with h0 | h0
      · exact h0
      · have : 0 < m * size := Nat.mul_pos h0 hs0
        obtain ⟨b, off, e, _⟩ := hc (by omega)
        cases e
    subst hm0
    obtain rfl : news = [] := List.eq_nil_of_length_eq_zero (by rw [hl, Nat.zero_mul])
    refine ⟨v, w, ?_, by simpa using hown, Keeps.refl _ _, .inl rfl⟩
    rcases hown.2 with ⟨rfl, rfl⟩ | ⟨g, cap, cur, rfl, _, _, hnc, _⟩
    · simp [Builtin.append_, run_underlying ht, sizeOf, typeInfo, hi, Builtin.lenOf, Builtin.firstCells]
    · simp [Builtin.append_, run_underlying ht, sizeOf, typeInfo, hi, Builtin.lenOf, Builtin.firstCells, hnc, storeCells]
  | some ad =>
    have hcell : ∀ j u, news[j]? = some u → w.cell? (ad.add j) = some u := fun j u hj => by
      have hp : 0 < news.length := Nat.lt_of_le_of_lt (Nat.zero_le _) (List.getElem?_eq_some_iff.1 hj).1
      obtain ⟨b, off, e, _, hcell⟩ := hc hp
      injection e with e
      subst e
      rw [Go.WideShapes.add_plain]
      exact hcell j u hj
    have hb : (n + m) * bytes ≤ 1000000 * 1000 := Nat.mul_le_mul (by omega) hbb
    obtain ⟨v', w', hr, h2, h3, _, h5⟩ := run_append_own_at (P := Try.prog) (w := w) base t ty e i0 _ size bytes ht hi hz hsz hby hzs hs0 v n xs hown ad m c news hl hcell h1 (by simp [maxLen]; omega) (Nat.le_trans hb (by decide)) hB
    exact ⟨v', w', hr, h2, ⟨h3.os, h3.tape, h3.output, h3.size, fun k hk' hne => h3.block k hk' (fun e => hne e.symm)⟩, h5⟩

theorem plainf_append {C : World → Prop} {o : Oper} {a : Act} {K : Act → World → Prop} {w w' : World} {s x : Operand} {v v' : Value} {A : Option Addr} {m c t : Nat}
    (hop : o.op = .call { callee := .builtin .append, args := #[s, x], argTypes := #[t, t] }) (hs : a.eval s = v) (hx : a.eval x = .slice A m c) (hr : (Builtin.append_ #[t, t] o.type #[v, .slice A m c]).run Try.prog w = .ok v' w')
    (h : C w' ∧ K (a.put o.dst v') w') : Wf.plainUpon Try.prog C o a K ((execOp a.eval o).run Try.prog w) := by
  have : (execOp a.eval o).run Try.prog w = .ok (.value v') w' := by simp [execOp, hop, resolve, invoke, builtin, hs, hx, hr, Result.andThen]
  rw [this]
  exact h
end Go.Proofs.Ytibjbpakbfodaaa
namespace Go.Proofs.Ytibjbpakbfodaaa
open Go.RowKit

/-- What a call of the document's answer that hands back a node and messages comes to. -/
def HandsR (w : World) (Q : Nat → Prop) (y : Nod) (ms : List Mes) (e : Ending) (w' : World) : Prop :=
  ∃ x' ov out, e = .returned (.tuple #[.agg (nodCells x').toArray, ov]) ∧ x'.n = y ∧ said out = ms ∧ NodeOk w' Q x' ∧ MsgsOk w' (fun k => k < w.heap.size) ov out ∧ Keeps Free w w'

theorem put11l {w : World} {r t : Nat} {cs : Array Value} {v0 v1 v2 v3 v4 v5 v6 v7 v8 v9 v10 : Value} (h : w.heap[r]? = some (.cells cs t (0, 0))) (hs : cs.size = 11) :
    ∃ w', (((((((((((w.setCell ⟨r, 0, none⟩ v0).setCell ⟨r, 1, none⟩ v1).setCell ⟨r, 2, none⟩ v2).setCell ⟨r, 3, none⟩ v3).setCell ⟨r, 4, none⟩ v4).setCell ⟨r, 5, none⟩ v5).setCell ⟨r, 6, none⟩ v6).setCell ⟨r, 7, none⟩ v7).setCell ⟨r, 8, none⟩ v8).setCell ⟨r, 9, none⟩ v9).setCell ⟨r, 10, none⟩ v10) = w' ∧ w'.heap[r]? = some (.cells #[v0, v1, v2, v3, v4, v5, v6, v7, v8, v9, v10] t (0, 0)) ∧ Keeps (fun k => k = r) w w' := by
  obtain ⟨w', h1, h2, h3⟩ := put11 (v0 := v0) (v1 := v1) (v2 := v2) (v3 := v3) (v4 := v4) (v5 := v5) (v6 := v6) (v7 := v7) (v8 := v8) (v9 := v9) (v10 := v10) h hs
  exact ⟨w', h1, h2, h3⟩

theorem one_slice {w : World} {S : Nat → Prop} {g t size : Nat} {cs : Array Value} (h : w.heap[g]? = some (.cells cs t (0, 0))) (hs : cs.size = 1 * size) (hS : ¬ S g) : Sl w S (.slice (some ⟨g, 0, none⟩) 1 1) size cs.toList :=
  ⟨some ⟨g, 0, none⟩, 1, 1, rfl, by simpa using hs, Nat.le_refl _, by simp [maxLen], fun _ => ⟨g, 0, rfl, hS, fun j u hj => by rw [Nat.zero_add, cell_of_row w g j _ _ _ h]; simpa using hj⟩⟩

theorem item_one (l : List Itm) : ∀ u ∈ itemCells l, u.oneCell' = true := by
  intro u hu
  unfold itemCells at hu
  obtain ⟨x, _, hx⟩ := List.mem_flatMap.1 hu
  simp only [List.mem_cons, List.not_mem_nil, or_false] at hx
  rcases hx with rfl | rfl <;> rfl

theorem grown_term (x : Nod) (c : Int) : (grown x c).term = x.term := by unfold grown; split <;> rfl
theorem grown_commit {x : Nod} {c : Int} (h : x.commit ≤ x.log.length) : (grown x c).commit ≤ (grown x c).log.length := by
  unfold grown
  split
  · simp only [List.length_append, List.length_cons, List.length_nil]; omega
  · exact h
theorem grown_rise {x : Nod} {c : Int} (h : rising x.log x.term = true) (ht : 1 ≤ x.term) : rising (grown x c).log (grown x c).term = true := by
  unfold grown
  split
  · obtain ⟨h1, h2⟩ := (rising_iff _ _).1 h
    refine (rising_iff _ _).2 ⟨List.pairwise_append.2 ⟨h1, by simp, fun a ha b hb => ?_⟩, fun a ha => ?_⟩
    · simp only [List.mem_singleton] at hb
      subst hb
      have := (h2 a ha).2
      show a.term ≤ x.term
      omega
    · rcases List.mem_append.1 ha with h | h
      · exact h2 a h
      · simp only [List.mem_singleton] at h
        subst h
        exact ⟨ht, by show x.term ≤ max 1 x.term; omega⟩
  · exact h

set_option maxRecDepth 100000 in
set_option maxHeartbeats 8000000 in
theorem putR_any {w : World} {Q : Nat → Prop} {x : NodV} (h : NodeOk w Q x) (hQ : ∀ k, Q k → k < w.heap.size) {N : Nat} (hf : Fit x.n N) (hcl : x.n.commit ≤ x.n.log.length) (hr : rising x.n.log x.n.term = true) (ht : 1 ≤ x.n.term) (cmd : Int) :
    Calls Try.prog 68 #[.agg (nodCells x).toArray, .int .i64 cmd] w (HandsR w Q (put x.n cmd) (putSays x.n cmd)) := by
  have H := Lib.hid h; have HF := Lib.hid hf; have HQ := Lib.hid hQ; have HCL := Lib.hid hcl; have HR := Lib.hid hr; have HT := Lib.hid ht
  have hl := hf.log
  obtain ⟨n, lv, vv, nv, mv⟩ := x
  simp only at hl HF HCL HR HT
  obtain ⟨LA, LC, VA, VC, NA, NC, MA, MC, rfl, rfl, rfl, rfl⟩ := h.shape
  clear h hf hQ hcl hr ht
  obtain ⟨i0, hi0, hz, hsz, hby⟩ := info_parts Try.info44
  have HI := Lib.hid hi0; have HZ := Lib.hid hz; have HS := Lib.hid hsz; have HBY := Lib.hid hby
  clear hi0 hz hsz hby
  simp only [nodCells]
  go_enter Try.func68, Try.ntmps68
  go_upto_region 1 with fail
  obtain ⟨k0, k1, k2⟩ := two_boxes w (.cells #[.int .i64 n.id, .int .i64 n.n, .int .i64 n.term, .int .i64 n.vote, .slice LA n.log.length LC, .int .i64 n.commit, .int .i64 n.role, .int .i64 n.boss, .slice VA n.votes.length VC, .slice NA n.next.length NC, .slice MA n.mtch.length MC] 25) (.cells zero11 25)
  obtain ⟨w2, hw2⟩ : ∃ w2, (w.alloc (.cells #[.int .i64 n.id, .int .i64 n.n, .int .i64 n.term, .int .i64 n.vote, .slice LA n.log.length LC, .int .i64 n.commit, .int .i64 n.role, .int .i64 n.boss, .slice VA n.votes.length VC, .slice NA n.next.length NC, .slice MA n.mtch.length MC] 25)).alloc (.cells zero11 25) = w2 := ⟨_, rfl⟩
  rw [hw2] at k0 k1 k2 ⊢
  have HBX := Lib.hid (Boxed.start H.out HQ.out k0 (Nat.lt_succ_self _) k1 k2)
  have HB1 := Lib.hid k1
  have hlt := laid_lt k2
  obtain ⟨b0, b1, b2, b3, b4, b5, b6, b7, b8, b9, b10, bf⟩ := cells11 k1
  obtain ⟨B, hB⟩ : ∃ B, w.heap.size = B := ⟨_, rfl⟩
  rw [hB] at HBX HB1 hlt b0 b1 b2 b3 b4 b5 b6 b7 b8 b9 b10 bf ⊢
  clear k0 k1 k2 hw2
  go_upto_if 9 with fail
  go_cut [10] (fun _ wx => ∃ lv', Boxed w Q B (B + 1) ⟨grown n cmd, lv', .slice VA n.votes.length VC, .slice NA n.next.length NC, .slice MA n.mtch.length MC⟩ wx)
  case first =>
    by_cases h60 : n.log.length < 60
    · have hg : grown n cmd = { n with log := n.log ++ [⟨n.term, cmd⟩] } := by unfold grown; rw [if_pos h60]
      have FINP := Lib.hid (show ∀ (W : World) (v : Value), Keeps Free w2 W → W.ownsRow w2.heap.size 44 2 v (n.log.length + 1) (itemCells n.log ++ [.int .i64 n.term, .int .i64 cmd]) →
          ∃ lv', Boxed w Q B (B + 1) ⟨grown n cmd, lv', .slice VA n.votes.length VC, .slice NA n.next.length NC, .slice MA n.mtch.length MC⟩ (W.setCell ⟨B, 4, none⟩ v) from fun W v hk ho => by
        rw [itemCells_snoc] at ho
        have hb := HBX.out.later hk
        rw [hg]
        refine ⟨v, hb.set 4 v _ rfl ⟨Sl.of_own ho fun g hg h => ?_, hb.ok.votes, hb.ok.next, hb.ok.mtch⟩⟩
        have h1 := (ho.lt g hg).1
        rcases h with h | h
        · have := hb.old g h; omega
        · omega)
      have HLG := Lib.hid (show ∀ W : World, Keeps Free w2 W → Sl W Free (.slice LA n.log.length LC) 2 (itemCells n.log) from fun W hk => (HBX.out.later hk).free.log)
      go_wp2_with fail
      clear b0 b1 b2 b3 b4 b5 b6 b7 b8 b9 b10 bf hg
      refine Wf.wp_region_first (C := fun w' => Keeps Free w2 w') (by kernel_rfl) 11 ?_
      have HKW := Lib.hid (show Keeps Free w2 { w2 with drawn := w2.drawn + 1 } from (Keeps.refl Free w2).drew)
      obtain ⟨W, hW⟩ : ∃ W : World, W = { w2 with drawn := w2.drawn + 1 } := ⟨_, rfl⟩
      rw [← hW] at HKW ⊢
      clear hW
      apply Wf.wpAnyP_stays (by kernel_rfl) [1, 2, 4, 5, 6, 7] _ _ _ 6 _ HKW.out (by kernel_rfl) ?hs ?hr
      case hs =>
        apply Wf.wpStays_step rfl rfl
        · intro w' hw'
          obtain ⟨e0, e1, e2, e3, e4, e5, e6, e7, e8, e9, e10, ef⟩ := cells11 (Keeps.blk hw' HB1.out)
          clear hw'
          go_simp
          exact ⟨rfl, rfl⟩
        go_simp
        apply Wf.wpStays_step rfl rfl
        · intro w' hw'
          obtain ⟨e0, e1, e2, e3, e4, e5, e6, e7, e8, e9, e10, ef⟩ := cells11 (Keeps.blk hw' HB1.out)
          clear hw'
          go_simp
          exact ⟨rfl, rfl⟩
        go_simp
        apply Wf.wpStays_step rfl rfl
        · intro w' hw'
          obtain ⟨e0, e1, e2, e3, e4, e5, e6, e7, e8, e9, e10, ef⟩ := cells11 (Keeps.blk hw' HB1.out)
          clear hw'
          go_simp
          exact ⟨rfl, rfl⟩
        go_simp
        apply Wf.wpStays_step rfl rfl
        · intro w' hw'
          obtain ⟨e0, e1, e2, e3, e4, e5, e6, e7, e8, e9, e10, ef⟩ := cells11 (Keeps.blk hw' HB1.out)
          clear hw'
          go_simp
          exact ⟨rfl, rfl⟩
        go_simp
        apply Wf.wpStays_step rfl rfl
        · intro w' hw'
          obtain ⟨e0, e1, e2, e3, e4, e5, e6, e7, e8, e9, e10, ef⟩ := cells11 (Keeps.blk hw' HB1.out)
          clear hw'
          go_simp
          exact ⟨rfl, rfl⟩
        go_simp
        apply Wf.wpStays_step rfl rfl
        · intro w' hw'
          obtain ⟨e0, e1, e2, e3, e4, e5, e6, e7, e8, e9, e10, ef⟩ := cells11 (Keeps.blk hw' HB1.out)
          clear hw'
          go_simp
          exact ⟨rfl, rfl⟩
        go_simp
        exact rfl
      case hr =>
        apply Wf.wpAnyP_two (i := 0) (k := 8) (fuel := 5) (by kernel_rfl) rfl rfl rfl rfl
        · skip
          go_simp
          refine ⟨HKW.out.alloc _, ?_⟩
          have HKW2 := Lib.hid (HKW.out.alloc (.cells #[] 44))
          have HV3 := Lib.hid (show (W.alloc (.cells #[] 44)).ownsRow w2.heap.size 44 2 (.slice (some ⟨W.heap.size, 0, none⟩) 0 0) 0 [] from World.ownsRow_lit (w := W) (base := w2.heap.size) (e := 44) (size := 2) #[] 0 HKW.out.size (by simp [maxLen]) rfl)
          clear HKW
          obtain ⟨W1, hW⟩ : ∃ W', W.alloc (.cells #[] 44) = W' := ⟨_, rfl⟩
          obtain ⟨g4, hg⟩ : ∃ g, W.heap.size = g := ⟨_, rfl⟩
          rw [hW] at HKW2 HV3 ⊢
          rw [hg] at HV3 ⊢
          clear hW hg
          apply Wf.wpAnyP_two (i := 3) (k := 8) (fuel := 4) (by kernel_rfl) rfl rfl rfl rfl
          · skip
            obtain ⟨v8, W5, hrun, hown, hkk, hat⟩ := app_row (ty := 22) Try.underlying22 HI.out HZ.out HS.out HBY.out rfl (by decide) (by decide) HKW2.out.size HV3.out (HLG.out W1 HKW2.out) (item_one _) (by omega)
            rw [Nat.zero_add, List.nil_append] at hown
            have HKW6 := Lib.hid (HKW2.out.trans hkk fun k hk => .inr (HV3.out.lt k hk).1)
            have HV7 := Lib.hid hown
            refine plainf_append rfl rfl rfl hrun ⟨.inr HKW6.out, ?_⟩
            clear hrun hown hkk hat HKW2 HV3
            go_simp
            apply Wf.wpAnyP_one (i := 8) (fuel := 3) (by kernel_rfl) rfl rfl
            go_simp
            refine ⟨HKW6.out.alloc _, ?_⟩
            have HKW10 := Lib.hid (HKW6.out.alloc (.cells #[.int .i64 n.term, .int .i64 cmd] 44))
            have H811 := Lib.hid (heap_alloc_new W5 (.cells #[.int .i64 n.term, .int .i64 cmd] 44))
            have HV13 := Lib.hid (HV7.out.alloc (.cells #[.int .i64 n.term, .int .i64 cmd] 44))
            clear HKW6 HV7
            obtain ⟨W9, hW⟩ : ∃ W', W5.alloc (.cells #[.int .i64 n.term, .int .i64 cmd] 44) = W' := ⟨_, rfl⟩
            obtain ⟨g12, hg⟩ : ∃ g, W5.heap.size = g := ⟨_, rfl⟩
            rw [hW] at HKW10 H811 HV13 ⊢
            rw [hg] at H811 ⊢
            clear hW hg
            apply Wf.wpAnyP_one (i := 9) (fuel := 2) (by kernel_rfl) rfl rfl
            obtain ⟨v17, W14, hrun, hown, hkk, hat⟩ := app_row (ty := 22) Try.underlying22 HI.out HZ.out HS.out HBY.out rfl (by decide) (by decide) HKW10.out.size HV13.out (one_slice (size := 2) H811.out rfl (fun h => h)) (by simp [Value.oneCell']) (by omega)
            have HKW15 := Lib.hid (HKW10.out.trans hkk fun k hk => .inr (HV13.out.lt k hk).1)
            have HV16 := Lib.hid hown
            refine plainf_append rfl rfl rfl hrun ⟨.inr HKW15.out, ?_⟩
            clear hrun hown hkk hat HKW10 HV13 H811
            go_simp
            apply Wf.wpAnyP_one (i := 10) (fuel := 1) (by kernel_rfl) rfl rfl
            go_simp
            refine ⟨HKW15.out, ?_⟩
            apply Wf.wpAnyP_one (i := 11) (fuel := 0) (by kernel_rfl) rfl rfl
            obtain ⟨e0, e1, e2, e3, e4, e5, e6, e7, e8, e9, e10, ef⟩ := cells11 (HKW15.out.blk HB1.out)
            have hfin := FINP.out W14 v17 HKW15.out HV16.out
            obtain ⟨_, _, hvv, _, _⟩ := own_slice HV16.out
            subst hvv
            go_simp
            first | refine ⟨trivial, ?_⟩ | skip
            refine ⟨by kernel_rfl, ?_⟩
            clear e0 e1 e2 e3 e4 e5 e6 e7 e8 e9 e10 ef
            go_wp2_with fail
            go_meet
            exact hfin
          · skip
            go_simp
            refine ⟨HKW2.out.alloc _, ?_⟩
            have HKW19 := Lib.hid (HKW2.out.alloc (.cells #[.int .i64 n.term, .int .i64 cmd] 44))
            have H820 := Lib.hid (heap_alloc_new W1 (.cells #[.int .i64 n.term, .int .i64 cmd] 44))
            have HV22 := Lib.hid (HV3.out.alloc (.cells #[.int .i64 n.term, .int .i64 cmd] 44))
            have hne : g4 ≠ W1.heap.size := fun e => by have := (HV3.out.lt g4 rfl).2; omega
            clear HKW2 HV3
            obtain ⟨W18, hW⟩ : ∃ W', W1.alloc (.cells #[.int .i64 n.term, .int .i64 cmd] 44) = W' := ⟨_, rfl⟩
            obtain ⟨g21, hg⟩ : ∃ g, W1.heap.size = g := ⟨_, rfl⟩
            rw [hW] at HKW19 H820 HV22 ⊢
            rw [hg] at H820 hne ⊢
            clear hW hg
            apply Wf.wpAnyP_one (i := 3) (fuel := 3) (by kernel_rfl) rfl rfl
            obtain ⟨v26, W23, hrun, hown, hkk, hat⟩ := app_row (ty := 22) Try.underlying22 HI.out HZ.out HS.out HBY.out rfl (by decide) (by decide) HKW19.out.size HV22.out (HLG.out W18 HKW19.out) (item_one _) (by omega)
            rw [Nat.zero_add, List.nil_append] at hown
            have HKW24 := Lib.hid (HKW19.out.trans hkk fun k hk => .inr (HV22.out.lt k hk).1)
            have HV25 := Lib.hid hown
            have H827 := Lib.hid ((hkk.block g21 (laid_lt H820.out) (fun e => hne (by simpa [Value.ownBlock] using e))).trans H820.out)
            refine plainf_append rfl rfl rfl hrun ⟨.inr HKW24.out, ?_⟩
            clear hrun hown hkk hat HKW19 HV22 H820
            go_simp
            apply Wf.wpAnyP_one (i := 9) (fuel := 2) (by kernel_rfl) rfl rfl
            obtain ⟨v31, W28, hrun, hown, hkk, hat⟩ := app_row (ty := 22) Try.underlying22 HI.out HZ.out HS.out HBY.out rfl (by decide) (by decide) HKW24.out.size HV25.out (one_slice (size := 2) H827.out rfl (fun h => h)) (by simp [Value.oneCell']) (by omega)
            have HKW29 := Lib.hid (HKW24.out.trans hkk fun k hk => .inr (HV25.out.lt k hk).1)
            have HV30 := Lib.hid hown
            refine plainf_append rfl rfl rfl hrun ⟨.inr HKW29.out, ?_⟩
            clear hrun hown hkk hat HKW24 HV25 H827
            go_simp
            apply Wf.wpAnyP_one (i := 10) (fuel := 1) (by kernel_rfl) rfl rfl
            go_simp
            refine ⟨HKW29.out, ?_⟩
            apply Wf.wpAnyP_one (i := 11) (fuel := 0) (by kernel_rfl) rfl rfl
            obtain ⟨e0, e1, e2, e3, e4, e5, e6, e7, e8, e9, e10, ef⟩ := cells11 (HKW29.out.blk HB1.out)
            have hfin := FINP.out W28 v31 HKW29.out HV30.out
            obtain ⟨_, _, hvv, _, _⟩ := own_slice HV30.out
            subst hvv
            go_simp
            first | refine ⟨trivial, ?_⟩ | skip
            refine ⟨by kernel_rfl, ?_⟩
            clear e0 e1 e2 e3 e4 e5 e6 e7 e8 e9 e10 ef
            go_wp2_with fail
            go_meet
            exact hfin
        · skip
          go_simp
          refine ⟨HKW.out.alloc _, ?_⟩
          have HKW33 := Lib.hid (HKW.out.alloc (.cells #[.int .i64 n.term, .int .i64 cmd] 44))
          have H834 := Lib.hid (heap_alloc_new W (.cells #[.int .i64 n.term, .int .i64 cmd] 44))
          clear HKW
          obtain ⟨W32, hW⟩ : ∃ W', W.alloc (.cells #[.int .i64 n.term, .int .i64 cmd] 44) = W' := ⟨_, rfl⟩
          obtain ⟨g35, hg⟩ : ∃ g, W.heap.size = g := ⟨_, rfl⟩
          rw [hW] at HKW33 H834 ⊢
          rw [hg] at H834 ⊢
          clear hW hg
          apply Wf.wpAnyP_one (i := 0) (fuel := 4) (by kernel_rfl) rfl rfl
          go_simp
          refine ⟨HKW33.out.alloc _, ?_⟩
          have HKW37 := Lib.hid (HKW33.out.alloc (.cells #[] 44))
          have HV38 := Lib.hid (show (W32.alloc (.cells #[] 44)).ownsRow w2.heap.size 44 2 (.slice (some ⟨W32.heap.size, 0, none⟩) 0 0) 0 [] from World.ownsRow_lit (w := W32) (base := w2.heap.size) (e := 44) (size := 2) #[] 0 HKW33.out.size (by simp [maxLen]) rfl)
          have H840 := Lib.hid (((Keeps.refl Free W32).alloc (.cells #[] 44)).blk H834.out)
          have hne : W32.heap.size ≠ g35 := fun e => by have := laid_lt H834.out; omega
          clear HKW33 H834
          obtain ⟨W36, hW⟩ : ∃ W', W32.alloc (.cells #[] 44) = W' := ⟨_, rfl⟩
          obtain ⟨g39, hg⟩ : ∃ g, W32.heap.size = g := ⟨_, rfl⟩
          rw [hW] at HKW37 HV38 H840 ⊢
          rw [hg] at HV38 hne ⊢
          clear hW hg
          apply Wf.wpAnyP_one (i := 3) (fuel := 3) (by kernel_rfl) rfl rfl
          obtain ⟨v44, W41, hrun, hown, hkk, hat⟩ := app_row (ty := 22) Try.underlying22 HI.out HZ.out HS.out HBY.out rfl (by decide) (by decide) HKW37.out.size HV38.out (HLG.out W36 HKW37.out) (item_one _) (by omega)
          rw [Nat.zero_add, List.nil_append] at hown
          have HKW42 := Lib.hid (HKW37.out.trans hkk fun k hk => .inr (HV38.out.lt k hk).1)
          have HV43 := Lib.hid hown
          have H845 := Lib.hid ((hkk.block g35 (laid_lt H840.out) (fun e => hne (by simpa [Value.ownBlock] using e))).trans H840.out)
          refine plainf_append rfl rfl rfl hrun ⟨.inr HKW42.out, ?_⟩
          clear hrun hown hkk hat HKW37 HV38 H840
          go_simp
          apply Wf.wpAnyP_one (i := 9) (fuel := 2) (by kernel_rfl) rfl rfl
          obtain ⟨v49, W46, hrun, hown, hkk, hat⟩ := app_row (ty := 22) Try.underlying22 HI.out HZ.out HS.out HBY.out rfl (by decide) (by decide) HKW42.out.size HV43.out (one_slice (size := 2) H845.out rfl (fun h => h)) (by simp [Value.oneCell']) (by omega)
          have HKW47 := Lib.hid (HKW42.out.trans hkk fun k hk => .inr (HV43.out.lt k hk).1)
          have HV48 := Lib.hid hown
          refine plainf_append rfl rfl rfl hrun ⟨.inr HKW47.out, ?_⟩
          clear hrun hown hkk hat HKW42 HV43 H845
          go_simp
          apply Wf.wpAnyP_one (i := 10) (fuel := 1) (by kernel_rfl) rfl rfl
          go_simp
          refine ⟨HKW47.out, ?_⟩
          apply Wf.wpAnyP_one (i := 11) (fuel := 0) (by kernel_rfl) rfl rfl
          obtain ⟨e0, e1, e2, e3, e4, e5, e6, e7, e8, e9, e10, ef⟩ := cells11 (HKW47.out.blk HB1.out)
          have hfin := FINP.out W46 v49 HKW47.out HV48.out
          obtain ⟨_, _, hvv, _, _⟩ := own_slice HV48.out
          subst hvv
          go_simp
          first | refine ⟨trivial, ?_⟩ | skip
          refine ⟨by kernel_rfl, ?_⟩
          clear e0 e1 e2 e3 e4 e5 e6 e7 e8 e9 e10 ef
          go_wp2_with fail
          go_meet
          exact hfin
    · have hg : grown n cmd = n := by unfold grown; rw [if_neg h60]
      go_wp2_with fail
      go_meet
      rw [hg]
      exact ⟨_, HBX.out⟩
  case rest =>
    obtain ⟨lv', hbx⟩ := hcut
    have hf1 := HF.out.grown cmd
    have hr1 : rising (grown n cmd).log (grown n cmd).term = true := grown_rise HR.out HT.out
    have ht1 : 1 ≤ (grown n cmd).term := by rw [grown_term]; exact HT.out
    have hc1 : (grown n cmd).commit ≤ (grown n cmd).log.length := grown_commit HCL.out
    obtain ⟨y, hy⟩ : ∃ y, grown n cmd = y := ⟨_, rfl⟩
    rw [hy] at hbx hf1 hr1 ht1 hc1
    have HY := Lib.hid hy
    clear hy HF HR HT HCL HI HZ HS HBY
    clear b0 b1 b2 b3 b4 b5 b6 b7 b8 b9 b10 bf
    obtain ⟨LA1, LC1, VA1, VC1, NA1, NC1, MA1, MC1, e1, e2, e3, e4⟩ := hbx.ok.shape
    rw [e1, e2, e3, e4] at hbx
    clear e1 e2 e3 e4
    obtain ⟨j, hj⟩ : ∃ j : Nat, y.id = (j : Int) + 1 := ⟨(y.id - 1).toNat, by have := hf1.id1; omega⟩
    have hjn : j < N := by have := hf1.idn; omega
    have hml := hf1.ml; have hnl := hf1.nl; have hn5 := hf1.n5; have hll := hf1.log
    have HJ := Lib.hid hj; have HF1 := Lib.hid hf1; have HR1 := Lib.hid hr1; have HT1 := Lib.hid ht1; have HC1 := Lib.hid hc1
    obtain ⟨b0, b1, b2, b3, b4, b5, b6, b7, b8, b9, b10, bf⟩ := cells11 hbx.blk
    simp only at b0 b1 b2 b3 b4 b5 b6 b7 b8 b9 b10
    rw [hj] at b0
    have hwith := with_any (hbx.ok.mtch) j (by simp only; omega) (by simp only; omega) (y.log.length : Int)
    have HBC := Lib.hid hbx
    have hrl := hbx.rlt
    have hwj : IntKind.i64.wrap (j : Int) = (j : Int) := IntWalk.i64_in _ (by omega)
    clear hj hf1 hr1 ht1 hc1 hbx hml hnl
    simp only at hwith
    go_upto_region 4 with (first
      | (go_at_call 93
         refine hwith.mono ?_
         rintro e w3 ⟨A3, C3, rfl, hs3, hk3⟩
         clear b0 b1 b2 b3 b4 b5 b6 b7 b8 b9 b10 bf hwith
         have hb3 := HBC.out.later hk3
         obtain ⟨b0, b1, b2, b3, b4, b5, b6, b7, b8, b9, b10, bf⟩ := cells11 hb3.blk
         simp only at b0 b1 b2 b3 b4 b5 b6 b7 b8 b9 b10
         rw [HJ.out] at b0))
    have hs3' : Sl w3 (fun k => Q k ∨ (B ≤ k ∧ k ≤ B + 1)) (.slice A3 y.mtch.length C3) 1 (intCells (y.mtch.set j (y.log.length : Int))) := hs3.weak fun k _ h => by
      rcases h with h | h
      · have := HBC.out.old k h; have := HBC.out.keeps.size; omega
      · omega
    have hb4 := hb3.set 10 (.slice A3 y.mtch.length C3) ⟨{ y with mtch := y.mtch.set j (y.log.length : Int) }, .slice LA1 y.log.length LC1, .slice VA1 y.votes.length VC1, .slice NA1 y.next.length NC1, .slice A3 y.mtch.length C3⟩ rfl ⟨hb3.ok.log, hb3.ok.votes, hb3.ok.next, hs3'⟩
    obtain ⟨w4, hw4⟩ : ∃ w4, w3.setCell ⟨B, 10, none⟩ (.slice A3 y.mtch.length C3) = w4 := ⟨_, rfl⟩
    rw [hw4] at hb4 ⊢
    clear b0 b1 b2 b3 b4 b5 b6 b7 b8 b9 b10 bf hw4 hs3 hs3' hb3 hk3
    obtain ⟨b0, b1, b2, b3, b4, b5, b6, b7, b8, b9, b10, bf⟩ := cells11 hb4.blk
    simp only at b0 b1 b2 b3 b4 b5 b6 b7 b8 b9 b10
    rw [HJ.out] at b0
    have hwith := with_any (hb4.ok.next) j (by have := HF1.out.nl; simp only; omega) (by have := HF1.out.nl; simp only; omega) ((y.log.length : Int) + 1)
    have HBD := Lib.hid hb4
    have hrl := hb4.rlt
    clear hb4
    simp only at hwith
    go_upto_region 5 with (first
      | (go_at_call 93
         refine hwith.mono ?_
         rintro e w5 ⟨A5, C5, rfl, hs5, hk5⟩
         clear b0 b1 b2 b3 b4 b5 b6 b7 b8 b9 b10 bf hwith
         have hb5 := HBD.out.later hk5
         obtain ⟨b0, b1, b2, b3, b4, b5, b6, b7, b8, b9, b10, bf⟩ := cells11 hb5.blk
         simp only at b0 b1 b2 b3 b4 b5 b6 b7 b8 b9 b10
         rw [HJ.out] at b0))
    have hs5' : Sl w5 (fun k => Q k ∨ (B ≤ k ∧ k ≤ B + 1)) (.slice A5 y.next.length C5) 1 (intCells (y.next.set j ((y.log.length : Int) + 1))) := hs5.weak fun k _ h => by
      rcases h with h | h
      · have := HBD.out.old k h; have := HBD.out.keeps.size; omega
      · omega
    have hno : noted y = { ({ y with mtch := y.mtch.set j (y.log.length : Int) } : Nod) with next := y.next.set j ((y.log.length : Int) + 1) } := by
      have hid' : (y.id - 1).toNat = j := by rw [HJ.out]; omega
      unfold noted
      rw [hid']
    have hb6 := hb5.set 9 (.slice A5 y.next.length C5) ⟨noted y, .slice LA1 y.log.length LC1, .slice VA1 y.votes.length VC1, .slice A5 y.next.length C5, .slice A3 y.mtch.length C3⟩ (by rw [hno]; rfl) (by rw [hno]; exact ⟨hb5.ok.log, hb5.ok.votes, hs5', hb5.ok.mtch⟩)
    obtain ⟨w6, hw6⟩ : ∃ w6, w5.setCell ⟨B, 9, none⟩ (.slice A5 y.next.length C5) = w6 := ⟨_, rfl⟩
    rw [hw6] at hb6 ⊢
    clear b0 b1 b2 b3 b4 b5 b6 b7 b8 b9 b10 bf hw6 hs5 hs5' hb5 hk5 hno
    have hf2 := HF1.out.noted
    have hc2 : (noted y).commit ≤ (noted y).log.length := HC1.out
    have hput : sure (noted y) = put n cmd := by unfold put; rw [HY.out]
    have hsu : sureUp (noted y) (noted y).log.length = sureAt (noted y) (noted y).log.length := sureUp_rise (x := noted y) HR1.out HT1.out
    have hsure := sureR_any hb6.ok hf2.log (by have := hf2.ml; have := hf2.n5; simp only at *; omega) hf2.commit hc2 (by have := hf2.n; show 0 ≤ (noted y).n; omega) (by have := hf2.n; have := hf2.n5; show (noted y).n ≤ 5; omega) hsu
    have hf3 := hf2.sure
    rw [hput] at hsure hf3
    have HF3 := Lib.hid hf3
    obtain ⟨b0, b1, b2, b3, b4, b5, b6, b7, b8, b9, b10, bf⟩ := cells11 hb6.blk
    have HBE := Lib.hid hb6
    have hrl := hb6.rlt
    clear hb6 hf2 hc2 hput hsu hf3 HR1 HT1 HC1 HF1 HJ
    generalize noted y = y2 at *
    simp only [nodCells] at hsure b0 b1 b2 b3 b4 b5 b6 b7 b8 b9 b10
    go_upto_region 6 with (first
      | (go_at_call 94
         refine hsure.mono ?_
         rintro e w7 ⟨⟨x3, lv3, vv3, nv3, mv3⟩, rfl, hx3, hok3, hk7⟩
         obtain ⟨LA3, LC3, VA3, VC3, NA3, NC3, MA3, MC3, e1, e2, e3, e4⟩ := hok3.shape
         simp only at e1 e2 e3 e4 hx3
         subst e1 e2 e3 e4
         have HX3 := Lib.hid hx3
         clear hx3
         have hb7 := HBE.out.later hk7
         obtain ⟨wf, hwf, hfb, hfk⟩ := put11l (v0 := .int .i64 x3.id) (v1 := .int .i64 x3.n) (v2 := .int .i64 x3.term) (v3 := .int .i64 x3.vote) (v4 := (.slice LA3 x3.log.length LC3)) (v5 := .int .i64 x3.commit) (v6 := .int .i64 x3.role) (v7 := .int .i64 x3.boss) (v8 := (.slice VA3 x3.votes.length VC3)) (v9 := (.slice NA3 x3.next.length NC3)) (v10 := (.slice MA3 x3.mtch.length MC3)) hb7.blk rfl
         clear b0 b1 b2 b3 b4 b5 b6 b7 b8 b9 b10 bf hsure
         obtain ⟨b0, b1, b2, b3, b4, b5, b6, b7, b8, b9, b10, bf⟩ := cells11 hb7.blk
         simp only at b0 b1 b2 b3 b4 b5 b6 b7 b8 b9 b10))
    first | rw [hwf] | skip
    have hf4 : Fit x3 N := by rw [HX3.out]; exact HF3.out
    have hb8 := hb7.put (y := ⟨x3, .slice LA3 x3.log.length LC3, .slice VA3 x3.votes.length VC3, .slice NA3 x3.next.length NC3, .slice MA3 x3.mtch.length MC3⟩) hfk hfb hok3
    have HBF := Lib.hid hb8; have HF4 := Lib.hid hf4
    clear b0 b1 b2 b3 b4 b5 b6 b7 b8 b9 b10 bf hb7 hfb hfk hok3 hwf hk7 hb8 hf4
    refine Wf.wp_region_first (C := fun w' => Keeps (fun k => k = B + 1) wf w') (by kernel_rfl) 99 ?_
    have HKF := Lib.hid (show Keeps Free wf { wf with drawn := wf.drawn + 1 } from (Keeps.refl Free wf).drew)
    obtain ⟨W, hW⟩ : ∃ W : World, W = { wf with drawn := wf.drawn + 1 } := ⟨_, rfl⟩
    rw [← hW] at HKF ⊢
    clear hW
    have HKW := Lib.hid (HKF.out.mono (S' := fun k => k = B + 1) (fun _ h => h.elim))
    apply Wf.wpAnyP_stays (by kernel_rfl) [0, 1] _ _ _ 3 _ HKW.out (by kernel_rfl) ?hs ?hr
    case hs =>
      apply Wf.wpStays_step rfl rfl
      · intro w' hw'
        have hbw := (hw'.block B (laid_lt HBF.out.blk) (by omega)).trans HBF.out.blk
        obtain ⟨e0, e1, e2, e3, e4, e5, e6, e7, e8, e9, e10, ef⟩ := cells11 hbw
        clear hw' hbw
        simp only at e0 e1 e2 e3 e4 e5 e6 e7 e8 e9 e10
        go_simp
        exact ⟨rfl, rfl⟩
      go_simp
      apply Wf.wpStays_step rfl rfl
      · intro w' hw'
        have hbw := (hw'.block B (laid_lt HBF.out.blk) (by omega)).trans HBF.out.blk
        obtain ⟨e0, e1, e2, e3, e4, e5, e6, e7, e8, e9, e10, ef⟩ := cells11 hbw
        clear hw' hbw
        simp only at e0 e1 e2 e3 e4 e5 e6 e7 e8 e9 e10
        go_simp
        exact ⟨rfl, rfl⟩
      go_simp
      exact rfl
    case hr =>
      apply Wf.wpAnyP_one (i := 2) (fuel := 2) (by kernel_rfl) rfl rfl
      have hbat := batches_any (HBF.out.later HKF.out).free HF4.out.n HF4.out.n5 HF4.out.nl HF4.out.nq HF4.out.log
      simp only [nodCells] at hbat
      go_simp
      refine hbat.mono ?_
      rintro e w9 ⟨ov, out, rfl, hso, hms, hk9⟩
      have HB9 := Lib.hid ((HBF.out.later HKF.out).later hk9)
      have HK9 := Lib.hid (HKW.out.trans hk9 (fun _ h => h.elim))
      have HSO := Lib.hid hso; have HMS := Lib.hid hms
      have hW2 := HKF.out.size
      have hrl := HBF.out.rlt
      clear hso hms hbat hk9
      refine ⟨_, rfl, HK9.out, ?_⟩
      obtain ⟨wr, hwr, hrb, hrk⟩ := put11l (v0 := .int .i64 x3.id) (v1 := .int .i64 x3.n) (v2 := .int .i64 x3.term) (v3 := .int .i64 x3.vote) (v4 := (.slice LA3 x3.log.length LC3)) (v5 := .int .i64 x3.commit) (v6 := .int .i64 x3.role) (v7 := .int .i64 x3.boss) (v8 := (.slice VA3 x3.votes.length VC3)) (v9 := (.slice NA3 x3.next.length NC3)) (v10 := (.slice MA3 x3.mtch.length MC3)) HB9.out.res rfl
      obtain ⟨r0, r1, r2, r3, r4, r5, r6, r7, r8, r9, r10, rf⟩ := cells11 HB9.out.res
      apply Wf.wpAnyP_one (i := 3) (fuel := 1) (by kernel_rfl) rfl rfl
      go_simp
      first | rw [hwr] | skip
      have HKR := Lib.hid (HK9.out.trans hrk (fun _ h => .inl h))
      refine ⟨HKR.out, ?_⟩
      apply Wf.wpAnyP_one (i := 4) (fuel := 0) (by kernel_rfl) rfl rfl
      go_simp
      refine ⟨HKR.out, ?_⟩
      refine ⟨by kernel_rfl, ?_⟩
      clear r0 r1 r2 r3 r4 r5 r6 r7 r8 r9 r10 rf hwr
      obtain ⟨q0, q1, q2, q3, q4, q5, q6, q7, q8, q9, q10, qf⟩ := cells11 hrb
      obtain ⟨hd1, hd2⟩ := HB9.out.done hrk
      have FIN := Lib.hid (show HandsR w Q (put n cmd) (putSays n cmd) (.returned (.tuple #[.agg #[.int .i64 x3.id, .int .i64 x3.n, .int .i64 x3.term, .int .i64 x3.vote, .slice LA3 x3.log.length LC3, .int .i64 x3.commit, .int .i64 x3.role, .int .i64 x3.boss, .slice VA3 x3.votes.length VC3, .slice NA3 x3.next.length NC3, .slice MA3 x3.mtch.length MC3], ov])) wr from
        ⟨⟨x3, (.slice LA3 x3.log.length LC3), (.slice VA3 x3.votes.length VC3), (.slice NA3 x3.next.length NC3), (.slice MA3 x3.mtch.length MC3)⟩, ov, out, rfl, HX3.out, by rw [HSO.out, HX3.out]; rfl, hd1,
          ⟨HMS.out.cells.into hrk (fun _ _ h => by omega) (fun k _ h => by have := HBF.out.keeps.size; omega), fun m hm => (HMS.out.each m hm).into hrk (fun _ _ h => by omega) (fun k _ h => by have := HBF.out.keeps.size; omega)⟩, hd2⟩)
      clear hd1 hd2 hrb hrk
      go_wp2_with fail
      refine bodyPost_ret (v := .tuple #[.agg #[.int .i64 x3.id, .int .i64 x3.n, .int .i64 x3.term, .int .i64 x3.vote, .slice LA3 x3.log.length LC3, .int .i64 x3.commit, .int .i64 x3.role, .int .i64 x3.boss, .slice VA3 x3.votes.length VC3, .slice NA3 x3.next.length NC3, .slice MA3 x3.mtch.length MC3], ov]) (by simp [results, Try.results68, go_sem, q0, q1, q2, q3, q4, q5, q6, q7, q8, q9, q10]) rfl ?_
      exact FIN.out
end Go.Proofs.Ytibjbpakbfodaaa
