/- cluster.Start, walked: so many nodes that know nothing. verdictlaw16.through, walked, whatever is looked at. cluster.Run, walked: what events make of so many nodes. -/
import Derived.Test.YtibjbpakbfodaaaXWld
import Derived.Deep.CutBlock
import Derived.Deep.LoopGhost
import Derived.Deep.RegionLaw
namespace Go.Proofs.Ytibjbpakbfodaaa
open Go.RowKit

/-- In a drawing region: a call that is met by its contract. -/
theorem step_call {P : Program} {ops : Array Oper} {o : Oper} {a : Act} {w : World} {K : Act → World → Prop} {Q : Exit → Act → World → Prop} {E : Prop} (hg : o.guard = none) (f : Nat) (vals : Array Value) {R : Ending → World → Prop} (hc : Calls P f vals w R)
    (hx : (execOp a.eval o).run P w = .ok (.enter f vals) w) (hK : ∀ e w', R e w' → ∃ v, e = .returned v ∧ K (a.put o.dst v) w') :
    if Region.wanted o (yielded ops a.tmps) = true then Oper.wp P o a w K Q else E := by
  have hw : Region.wanted o (yielded ops a.tmps) = true := by simp [Region.wanted, hg]
  rw [if_pos hw]
  unfold Oper.wp
  rw [hx, Oper.upon_enter]
  refine hc.mono fun e w' hr => ?_
  obtain ⟨v, rfl, hk⟩ := hK e w' hr
  exact hk
/-- In a drawing region: an append whose end is known. -/
theorem step_append_run {P : Program} {ops : Array Oper} {o : Oper} {a : Act} {w w' : World} {K : Act → World → Prop} {Q : Exit → Act → World → Prop} {E : Prop} {v vx v' : Value} (hg : o.guard = none) (s x : Operand) (t : TypeId)
    (hop : o.op = Op.call { callee := Callee.builtin Builtin.append, args := #[s, x], argTypes := #[t, t] }) (hs : a.eval s = v) (hx : a.eval x = vx) (hr : (Builtin.append_ #[t, t] o.type #[v, vx]).run P w = .ok v' w') (hK : K (a.put o.dst v') w') :
    if Region.wanted o (yielded ops a.tmps) = true then Oper.wp P o a w K Q else E := by
  have hw : Region.wanted o (yielded ops a.tmps) = true := by simp [Region.wanted, hg]
  rw [if_pos hw]
  unfold Oper.wp
  simp [execOp, hop, resolve, invoke, builtin, hs, hx, hr, Result.andThen]
  exact hK

/-- A node that knows nothing, and its cells. -/
def newV (id n : Int) : NodV := ⟨start id n, .slice none 0 0, .slice none 0 0, .slice none 0 0, .slice none 0 0⟩
def newsTo (n : Int) (k : Nat) : List NodV := (List.range k).map fun (i : Nat) => newV ((i : Int) + 1) n
theorem newsTo_succ (n : Int) (k : Nat) : newsTo n (k + 1) = newsTo n k ++ [newV ((k : Int) + 1) n] := by simp [newsTo, List.range_succ]
theorem newsTo_len (n : Int) (k : Nat) : (newsTo n k).length = k := by simp [newsTo]

theorem start_lit (w : World) (id n : Int) : Calls Try.prog 32 #[.int .i64 id, .int .i64 n] w fun e w' => e = .returned (.agg #[.int .i64 id, .int .i64 n, .int .i64 0, .int .i64 0, .slice none 0 0, .int .i64 0, .int .i64 1, .int .i64 0, .slice none 0 0, .slice none 0 0, .slice none 0 0]) ∧ Keeps Free w w' :=
  start_any w id n

theorem app_node {w : World} {v : Value} {n b : Nat} {xs : List Value} {cs : Array Value} (h : w.ownsRow 0 25 11 v n xs) (hb : w.heap[b]? = some (.cells cs 25 (0, 0))) (hs : cs.size = 11) (h1 : ∀ u ∈ cs.toList, u.oneCell' = true) (hn : n ≤ 1000) (ty : TypeId) :
    ∃ v' w', (Builtin.append_ #[47, 47] ty #[v, .slice (some ⟨b, 0, none⟩) 1 1]).run Try.prog w = .ok v' w' ∧ w'.ownsRow 0 25 11 v' (n + 1) (xs ++ cs.toList) ∧ Keeps (fun k => v.ownBlock = some k) w w' ∧ (v'.ownBlock = v.ownBlock ∨ v'.ownBlock = some w.heap.size) := by
  obtain ⟨i0, hi, hz, hsz, hby⟩ := info_parts Try.info25
  obtain ⟨v', w', hr, h2, h3, _, h5⟩ := run_append_own_at (P := Try.prog) (w := w) 0 47 ty 25 i0 _ 11 _ Try.underlying47 hi hz hsz hby rfl (by omega) v n xs h ⟨b, 0, none⟩ 1 1 cs.toList (by simp [hs]) (fun j u hj => by
    rw [Addr.add_lit, Nat.zero_add, cell_of_row w b j _ _ _ hb]; simpa using hj) h1 (by simp [maxLen]; omega) (by omega) (by omega)
  exact ⟨v', w', hr, h2, ⟨h3.os, h3.tape, h3.output, h3.size, fun k hk hne => h3.block k hk fun e => hne e.symm⟩, h5⟩

/-- The first k nodes have been made. -/
def StartAt (w : World) (B N k : Nat) (wr : World) : Prop :=
  ∃ A C, Keeps Free w wr ∧ wr.heap[B + 1]? = some (.cells #[.slice A k C, .slice none 0 0] 55 (0, 0)) ∧ wr.heap[B]? = some (.cells #[.slice none 0 0, .slice none 0 0] 55 (0, 0)) ∧ wr.ownsRow 0 25 11 (.slice A k C) k ((newsTo N k).flatMap nodCells) ∧
    ∀ g, (Value.slice A k C).ownBlock = some g → B + 2 ≤ g

theorem started_next {w wr w1 w2 w' : World} {B N k C C' : Nat} {A A' : Option Addr} (s1 : Keeps Free w wr) (s2 : wr.heap[B + 1]? = some (.cells #[.slice A k C, .slice none 0 0] 55 (0, 0))) (s3 : wr.heap[B]? = some (.cells #[.slice none 0 0, .slice none 0 0] 55 (0, 0)))
    (s5 : ∀ g, (Value.slice A k C).ownBlock = some g → B + 2 ≤ g) (hB : w.heap.size = B) (k1 : Keeps Free wr.drew w1) (h2 : w1.alloc (.cells (nodCells (newV ((k : Int) + 1) N)).toArray 25) = w2)
    (o : w'.ownsRow 0 25 11 (.slice A' (k + 1) C') (k + 1) ((newsTo N k).flatMap nodCells ++ (nodCells (newV ((k : Int) + 1) N)).toArray.toList)) (k2 : Keeps (fun j => (Value.slice A k C).ownBlock = some j) w2 w') (hv : (Value.slice A' (k + 1) C').ownBlock = (Value.slice A k C).ownBlock ∨ (Value.slice A' (k + 1) C').ownBlock = some w2.heap.size) :
    ∃ wn, w'.setCell ⟨B + 1, 0, none⟩ (.slice A' (k + 1) C') = wn ∧ w'.heap[B + 1]? = some (.cells #[.slice A k C, .slice none 0 0] 55 (0, 0)) ∧ StartAt w B N (k + 1) wn := by
  have hk : Keeps Free wr w2 := by rw [← h2]; exact ((Keeps.refl Free wr).drew.trans k1 fun _ h => .inl h).alloc _
  have hsz : B + 2 ≤ w2.heap.size := by have := laid_lt (hk.blk s2); omega
  have hof : ∀ g, (Value.slice A' (k + 1) C').ownBlock = some g → B + 2 ≤ g := fun g hg => by
    rcases hv with hv | hv
    · exact s5 g (hv ▸ hg)
    · rw [hv] at hg; injection hg with hg; omega
  have kB : ∀ j, (Value.slice A k C).ownBlock = some j → B + 2 ≤ j := s5
  have b1 := (k2.block (B + 1) (laid_lt (hk.blk s2)) fun e => by have := kB _ e; omega).trans (hk.blk s2)
  have b0 := (k2.block B (laid_lt (hk.blk s3)) fun e => by have := kB _ e; omega).trans (hk.blk s3)
  have hks : Keeps (fun j => j = B + 1) w' (w'.setCell ⟨B + 1, 0, none⟩ (.slice A' (k + 1) C')) := (Keeps.refl (fun j => j = B + 1) w').setCell (p := ⟨B + 1, 0, none⟩) (.inl rfl) _
  refine ⟨_, rfl, b1, A', C', ?_, ?_, (hks.block B (laid_lt b0) (by omega)).trans b0, ?_, hof⟩
  · exact ((s1.trans hk fun _ h => .inl h).trans k2 fun j e => .inr (by have := kB j e; omega)).trans hks fun j e => .inr (by omega)
  · rw [setCell_blk b1]; rfl
  · rw [newsTo_succ, List.flatMap_append]
    have := own_set (p := B + 1) (k := 0) o (.slice A' (k + 1) C') fun e => by have := hof _ e; omega
    simpa using this

set_option maxRecDepth 100000 in
set_option maxHeartbeats 8000000 in
theorem clStart_any (w : World) (n : Int) : Calls Try.prog 79 #[.int .i64 n] w fun e w' => Keeps Free w w' ∧
    ((n < 1 ∨ 5 < n) ∧ e = .returned (.tuple #[.agg #[.slice none 0 0, .slice none 0 0], .int .i64 3]) ∨
     ¬ (n < 1 ∨ 5 < n) ∧ ∃ W : WldV, e = .returned (.tuple #[.agg #[W.nv, W.ov], .int .i64 0]) ∧ W.w = firstWld n ∧ ∀ Q : Nat → Prop, (∀ k, Q k → k < w.heap.size) → WldOk w' Q W) := by
  by_cases hout : n < 1 ∨ 5 < n
  · obtain ⟨wz, wf, e1, e2, k, r0, r1, r2, r3, rf⟩ : ∃ wz wf, w.alloc (.cells #[.slice none 0 0, .slice none 0 0] 55) = wz ∧ (wz.setCell ⟨w.heap.size, 0, none⟩ (.slice none 0 0)).setCell ⟨w.heap.size, 1, none⟩ (.slice none 0 0) = wf ∧ Keeps Free w wf ∧ wz.cell? ⟨w.heap.size, 0, none⟩ = some (.slice none 0 0) ∧
        wz.cell? ⟨w.heap.size, 1, none⟩ = some (.slice none 0 0) ∧ wf.cell? ⟨w.heap.size, 0, none⟩ = some (.slice none 0 0) ∧ wf.cell? ⟨w.heap.size, 1, none⟩ = some (.slice none 0 0) ∧ (∀ k, wz.frozen? ⟨w.heap.size, k, none⟩ = false) := by
      have hb := heap_alloc_new w (.cells #[.slice none 0 0, .slice none 0 0] 55)
      obtain ⟨wf, hwf, hfb, hfk⟩ := put2 (v0 := .slice none 0 0) (v1 := .slice none 0 0) hb rfl
      exact ⟨_, wf, rfl, hwf, ((Keeps.refl Free w).alloc _).trans hfk fun j e => .inr (by omega), (cells2 hb).1, (cells2 hb).2.1, (cells2 hfb).1, (cells2 hfb).2.1, (cells2 hb).2.2⟩
    have K := Lib.hid k
    have hq : (decide (n < 1) || decide (5 < n)) = true := by simpa using hout
    have HO := Lib.hid hout
    clear k hout
    go_enter Try.func79, Try.ntmps79
    cases h1 : decide (n < 1)
    case true =>
      clear hq
      go_wp2_with fail
      refine bodyPost_ret (v := .tuple #[.agg #[.slice none 0 0, .slice none 0 0], .int .i64 3]) (by simp [results, Try.results79, go_sem, r2, r3]) rfl ?_
      exact ⟨K.out, .inl ⟨HO.out, rfl⟩⟩
    case false =>
      have h2 : decide (5 < n) = true := by rw [h1] at hq; exact hq
      clear hq
      go_wp2_with fail
      refine bodyPost_ret (v := .tuple #[.agg #[.slice none 0 0, .slice none 0 0], .int .i64 3]) (by simp [results, Try.results79, go_sem, r2, r3]) rfl ?_
      exact ⟨K.out, .inl ⟨HO.out, rfl⟩⟩
  · obtain ⟨N, rfl⟩ : ∃ N : Nat, n = N := ⟨n.toNat, by omega⟩
    have hN1 : 1 ≤ N := by omega
    have hN5 : N ≤ 5 := by omega
    clear hout
    obtain ⟨k0, k1, k2⟩ := two_boxes w (.cells #[.slice none 0 0, .slice none 0 0] 55) (.cells #[.slice none 0 0, .slice none 0 0] 55)
    obtain ⟨wz, hwz⟩ : ∃ wz, (w.alloc (.cells #[.slice none 0 0, .slice none 0 0] 55)).alloc (.cells #[.slice none 0 0, .slice none 0 0] 55) = wz := ⟨_, rfl⟩
    rw [hwz] at k0 k1 k2
    obtain ⟨B, hB⟩ : ∃ B, w.heap.size = B := ⟨_, rfl⟩
    rw [hB] at k1 k2
    have K0 := Lib.hid k0; have K1 := Lib.hid k1; have K2 := Lib.hid k2; have HB := Lib.hid hB
    clear k0 k1 k2
    go_enter Try.func79, Try.ntmps79
    go_wp2_with fail
    go_loopw [5] (fun i wr => ∃ k : Nat, k ≤ N ∧ i = .int .i64 ((k : Int) + 1) ∧ StartAt w B N k wr) (fun i _ => 7 - (intOf i).toNat)
    case atStart =>
      exact ⟨0, by omega, rfl, _, 0, K0.out, K2.out, K1.out, World.ownsRow_nil _ _ _ _, fun g hg => by simp [Value.ownBlock] at hg⟩
    case round =>
      obtain ⟨k, hk, rfl, A, C, s1, s2, s3, s4, s5⟩ := hrel
      obtain ⟨b0, b1, bf⟩ := cells2 s2
      have S1 := Lib.hid s1; have S2 := Lib.hid s2; have S3 := Lib.hid s3; have S4 := Lib.hid s4; have S5 := Lib.hid s5
      clear s1 s2 s3 s4 s5
      by_cases hlt : k < N
      · go_upto_region 7 with fail
        go_region_law (first
          | (obtain ⟨v', w', hr, o', kk2, hv⟩ := app_node (w := w1.alloc (.cells #[.int .i64 ((k : Int) + 1), .int .i64 (N : Int), .int .i64 0, .int .i64 0, .slice none 0 0, .int .i64 0, .int .i64 1, .int .i64 0, .slice none 0 0, .slice none 0 0, .slice none 0 0] 25)) (b := w1.heap.size) (own_later S4.out (((Keeps.refl Free wr).drew.trans kk1 fun _ h => .inl h).alloc _)) (heap_alloc_new _ _) rfl (by simp [Value.oneCell']) (by omega) 47; refine step_append_run rfl (.tmp 19) (.tmp 23) 47 rfl (by simp [Act.eval]) (by simp [Act.eval]) hr ?_; obtain ⟨A', C', rfl, -, -⟩ := own_slice o'; obtain ⟨wn, hwn, r⟩ := started_next S1.out S2.out S3.out S5.out HB.out kk1 rfl o' kk2 hv; obtain ⟨y0, y1, yf⟩ := cells2 r.1; have R := Lib.hid r.2; clear r o' kk2 hv)
          | (refine step_call rfl 32 #[.int .i64 ((k : Int) + 1), .int .i64 (N : Int)] (start_lit _ _ _) (by go_simp) ?_; rintro e w1 ⟨rfl, kk1⟩; have x0 := kk1.cell (w := wr.drew) (fun h => h) b0; have hx1 := Nat.lt_of_lt_of_le (laid_lt S2.out) kk1.size; refine ⟨_, rfl, ?_⟩))
        all_goals
          go_wp2_with fail
          go_roundw
          case rel => exact ⟨k + 1, by omega, by go_num, R.out⟩
          case measure => simp [intOf]; omega
      · have hkN : k = N := by omega
        subst hkN
        obtain ⟨wf, hwf, hfb, hfk⟩ := put2 (v0 := .slice A k C) (v1 := .slice none 0 0) S3.out rfl
        obtain ⟨c0, c1, cf⟩ := cells2 hfb
        obtain ⟨d0, d1, df⟩ := cells2 S3.out
        have HFK := Lib.hid hfk
        clear hfb hfk
        go_wp2_with fail
        refine bodyPost_ret (v := .tuple #[.agg #[.slice A k C, .slice none 0 0], .int .i64 0]) (by simp [results, Try.results79, go_sem, c0, c1]) rfl ?_
        have hkf : Keeps Free w wf := S1.out.trans HFK.out fun j e => .inr (by have := HB.out; omega)
        refine ⟨hkf, .inr ⟨by omega, ⟨newsTo k k, [], .slice A k C, .slice none 0 0⟩, rfl, ?_, fun Q hQ => ?_⟩⟩
        · simp [WldV.w, firstWld, newsTo, newV, said]
        · have hoB : ∀ g, (Value.slice A k C).ownBlock = some g → ¬ Q g := fun g hg hq => by have := S5.out g hg; have := hQ g hq; have := HB.out; omega
          have ho := own_keep S4.out fun g hg => HFK.out.block g (own_lt S4.out hg) fun e => by have := S5.out g hg; omega
          refine ⟨Sl.of_own (by simpa using ho) hoB, fun x hx => ?_, noMsgs _ _⟩
          simp only [newsTo, List.mem_map] at hx
          obtain ⟨j, _, rfl⟩ := hx
          have hnil : ∀ (s : Nat), Sl wf Q (.slice none 0 0) s [] := fun s => ⟨none, 0, 0, rfl, by simp, Nat.le_refl _, by simp [maxLen], fun h => by simp at h⟩
          exact ⟨hnil _, hnil _, hnil _, hnil _⟩
end Go.Proofs.Ytibjbpakbfodaaa
namespace Go.Proofs.Ytibjbpakbfodaaa
open Go.RowKit

def evtCells (e : Evt) : List Value := [.int .i64 e.kind, .int .i64 e.node, .int .i64 e.pick]
theorem evts_len (l : List Evt) : (l.flatMap evtCells).length = l.length * 3 := flat_length _ 3 (fun _ => rfl) l

/-- The cells of one event. -/
theorem Sl.evt {w : World} {S : Nat → Prop} {A : Option Addr} {len c : Nat} {l : List Evt} (h : Sl w S (.slice A len c) 3 (l.flatMap evtCells)) {j : Nat} (hj : j < l.length) :
    ∃ b off, A = some ⟨b, off, none⟩ ∧ w.cell? ⟨b, off + j * 3, none⟩ = some (.int .i64 l[j].kind) ∧ w.cell? ⟨b, off + j * 3 + 1, none⟩ = some (.int .i64 l[j].node) ∧ w.cell? ⟨b, off + j * 3 + 2, none⟩ = some (.int .i64 l[j].pick) := by
  obtain ⟨A', len', c', e, hl, _, _, hc⟩ := h
  injection e with e1 e2 e3
  subst e1
  obtain ⟨b, off, rfl, _, hcell⟩ := hc (by rw [evts_len]; omega)
  have hg : ∀ i u, i < 3 → (evtCells l[j])[i]? = some u → w.cell? ⟨b, off + (j * 3 + i), none⟩ = some u := fun i u hi hu =>
    hcell _ _ ((flat_get evtCells 3 (fun _ => rfl) l j l[j] i (List.getElem?_eq_getElem hj) hi).trans hu)
  exact ⟨b, off, rfl, hg 0 _ (by decide) rfl, by rw [Nat.add_assoc]; exact hg 1 _ (by decide) rfl, by rw [Nat.add_assoc]; exact hg 2 _ (by decide) rfl⟩

/-- What a step of the cluster says. -/
def StepSays : Prop := ∀ (w : World) (Q : Nat → Prop) (W : WldV) (ev : Evt), WldOk w Q W → (∀ k, Q k → k < w.heap.size) → W.nodes.length ≤ 1000 → W.net.length ≤ 1000 →
  Calls Try.prog 47 #[.agg #[W.nv, W.ov], .agg #[.int .i64 ev.kind, .int .i64 ev.node, .int .i64 ev.pick]] w fun e w' => ∃ W' : WldV, e = .returned (.agg #[W'.nv, W'.ov]) ∧ W'.w = cstep W.w ev ∧ WldOk w' Q W' ∧ Keeps Free w w'

/-- A world that is being looked at, in the variable B; what looks has its own blocks, S. -/
def ThruAt (Inv : (Nat → Prop) → Wld → World → Prop) (S0 : Nat → Prop) (w : World) (B : Nat) (wr : World) : Prop :=
  ∃ S W, Inv S (WldV.w W) wr ∧ WldOk wr (fun k => S k ∨ k = B) W ∧ wr.heap[B]? = some (.cells #[W.nv, W.ov] 55 (0, 0)) ∧ Keeps S0 w wr ∧ (∀ k, S k → S0 k ∨ w.heap.size ≤ k) ∧ ¬ S B

set_option maxRecDepth 100000 in
set_option maxHeartbeats 8000000 in
theorem through_anyK {w : World} {f : Nat} {cap : Array Value} {n : Int} {ev : Value} {evs : List Evt} {S0 : Nat → Prop} (Inv Inv' : Nat → (Nat → Prop) → Wld → World → Prop)
    (hstp : StepSays)
    (hev : Sl w S0 ev 3 (evs.flatMap evtCells)) (hf : ∀ (args : Array Value) (w : World), (callFunc f args).run Try.prog w = .ok (.enter f args) w)
    (hlt' : ∀ i S W w, Inv' i S W w → ∀ k, S k → k < w.heap.size) (hs : ∀ i S W w, Inv' i S W w → W.nodes.length ≤ 1000 ∧ W.net.length ≤ 1000)
    (hS0 : ∀ k, S0 k → k < w.heap.size) (h0 : ¬ (n < 1 ∨ 5 < n) → evs.length ≤ 300 → ∀ w', Keeps Free w w' → Inv 0 S0 (firstWld n) w')
    (hlook : ∀ i S (W : WldV) w1, i ≤ 300 → Inv i S W.w w1 → WldOk w1 S W → Calls Try.prog f (#[.agg #[W.nv, W.ov]] ++ cap) w1 fun e w2 => e = .returned (.bool true) ∧ ∃ S', Inv' i S' W.w w2 ∧ Keeps S w1 w2 ∧ ∀ k, S' k → S k ∨ w1.heap.size ≤ k)
    (hstep : ∀ i S W w w' e, Inv' i S W w → Keeps (fun k => ¬ S k) w w' → Inv (i + 1) S (cstep W e) w') :
    Calls Try.prog 37 #[.int .i64 n, ev, .func (.func f) #[] cap] w fun e w' => e = .returned (.bool true) ∧ Keeps S0 w w' := by
  have HSTP := Lib.hid hstp; have HEV := Lib.hid hev; have HLT' := Lib.hid hlt'; have HS := Lib.hid hs; have HS0 := Lib.hid hS0; have H0 := Lib.hid h0; have HLOOK := Lib.hid hlook; have HSTEP := Lib.hid hstep
  obtain ⟨A, C, rfl⟩ := hev.form (evts_len evs) (by decide)
  clear hstp hev hlt' hs hS0 h0 hlook hstep
  go_enter Try.func37, Try.ntmps37
  go_wp2_with fail
  refine (clStart_any w n).mono ?_
  rintro e w1 ⟨k1, hr⟩
  have K1 := Lib.hid k1
  clear k1
  rcases hr with ⟨ho, rfl⟩ | ⟨ho, W, rfl, hW, hok⟩
  · clear ho
    go_wp2_with fail
    go_ret
    exact ⟨rfl, (K1.out.mono fun _ h => h.elim).alloc _⟩
  · obtain ⟨nodes, net, nv, ov⟩ := W
    have hok2 := hok (fun k => S0 k) HS0.out
    obtain ⟨NA, NC, en1⟩ := hok2.cells.form (nods_len nodes) (by decide)
    obtain ⟨OA, OC, en2⟩ := hok2.msgs.cells.form (mess_len net) (by decide)
    simp only at en1 en2
    subst en1 en2
    simp only
    have HW := Lib.hid hW; have HOK := Lib.hid hok2; have HO := Lib.hid ho
    clear hW hok hok2 ho
    cases hl : decide (300 < evs.length)
    case true =>
      have hl' : decide (300 < (evs.length : Int)) = true := by simp at hl ⊢; omega
      go_wp2_with fail
      go_ret
      exact ⟨rfl, (K1.out.mono fun _ h => h.elim).alloc _⟩
    case false =>
      have hl1 : ¬ 300 < evs.length := by simpa using hl
      clear hl
      obtain ⟨B, hB⟩ : ∃ B, w1.heap.size = B := ⟨_, rfl⟩
      obtain ⟨w2, hal⟩ : ∃ w2, w1.alloc (.cells #[.slice NA nodes.length NC, .slice OA net.length OC] 55) = w2 := ⟨_, rfl⟩
      have hb2 : w2.heap[B]? = some (.cells #[.slice NA nodes.length NC, .slice OA net.length OC] 55 (0, 0)) := by rw [← hal, ← hB]; exact heap_alloc_new _ _
      have hk2 : Keeps Free w1 w2 := by rw [← hal]; exact (Keeps.refl _ w1).alloc _
      have HB2 := Lib.hid hb2; have HK2 := Lib.hid hk2
      clear hb2 hk2
      go_wp2_with fail
      have hBw : w.heap.size ≤ B := by have := K1.out.size; omega
      have HBW := Lib.hid hBw
      go_loopw [9] (fun i wr => ∃ k : Nat, k ≤ evs.length ∧ i = .int .i64 k ∧ ThruAt (Inv k) S0 w B wr) (fun i _ => evs.length + 1 - (intOf i).toNat)
      case atStart =>
        refine ⟨0, Nat.zero_le _, rfl, S0, ⟨nodes, net, _, _⟩, ?_, ?_, HB2.out, (K1.out.trans HK2.out fun _ h => .inl h).mono (fun _ h => h.elim), fun k h => .inl h, fun h => by have := HS0.out _ h; have := HBW.out; omega⟩
        · rw [HW.out]
          exact H0.out HO.out (by omega) w2 (K1.out.trans HK2.out fun _ h => .inl h)
        · refine HOK.out.into HK2.out (fun _ _ h => h.elim) fun k hk h => h.elim id fun e => by omega
      case round =>
        obtain ⟨k, hk, rfl, S, W, i1, i2, i3, i4, i5, i6⟩ := hrel
        obtain ⟨nd, nt, nv, ov⟩ := W
        obtain ⟨NA', NC', en1⟩ := i2.cells.form (nods_len nd) (by decide)
        obtain ⟨OA', OC', en2⟩ := i2.msgs.cells.form (mess_len nt) (by decide)
        simp only at en1 en2
        subst en1 en2
        obtain ⟨b0, b1, bf⟩ := cells2 i3
        have hlook := HLOOK.out k S _ wr (by omega) i1 (i2.into (Keeps.refl Free wr) (fun _ _ h => h.elim) fun _ _ h => .inl h)
        have I1 := Lib.hid i1; have I2 := Lib.hid i2; have I3 := Lib.hid i3; have I4 := Lib.hid i4; have I5 := Lib.hid i5; have I6 := Lib.hid i6; have HL := Lib.hid hlook
        clear i1 i2 i3 i4 i5 i6 hlook
        go_wp2_with fail
        refine HL.out.mono ?_
        rintro e w3 ⟨rfl, S', j1, j2, j3⟩
        have hBlt := laid_lt I3.out
        have hb3 := (j2.block B hBlt I6.out).trans I3.out
        have k3 : Keeps S0 w w3 := I4.out.trans j2 I5.out
        have hS3 : ∀ k, S' k → S0 k ∨ w.heap.size ≤ k := fun k h => (j3 k h).elim (I5.out k) fun h => .inr (Nat.le_trans I4.out.size h)
        have hB3 : ¬ S' B := fun h => (j3 B h).elim I6.out fun h => by omega
        have hok3 := I2.out.into (S' := fun k => S' k ∨ k = B) j2 (fun k _ h => .inl h) fun k hk h => h.elim (fun h => (j3 k h).elim .inl fun h => by omega) .inr
        obtain ⟨c0, c1, cf⟩ := cells2 hb3
        have J1 := Lib.hid j1; have HB3 := Lib.hid hb3; have K3 := Lib.hid k3; have HS3 := Lib.hid hS3; have HNB := Lib.hid hB3; have HOK3 := Lib.hid hok3
        clear j1 j2 j3 hb3 k3 hS3 hB3 hok3 hBlt b0 b1 bf
        by_cases hend : k = evs.length
        · subst hend
          go_wp2_with fail
          go_ret
          exact ⟨rfl, K3.out⟩
        · have hklt : k < evs.length := by omega
          obtain ⟨be, off, rfl, e0, e1, e2⟩ := (HEV.out.into (S' := S0) K3.out (fun _ _ h => h) fun _ _ h => h).evt hklt
          have hst : ∀ w4, Keeps Free w3 w4 → _ := fun w4 hk4 => HSTP.out w4 (fun k => S' k ∨ k = B) _ evs[k] (HOK3.out.into hk4 (fun _ _ h => h.elim) fun _ _ h => h) (fun k h => Nat.lt_of_lt_of_le (h.elim (HLT'.out _ _ _ _ J1.out k) fun h => h ▸ laid_lt HB3.out) hk4.size) (by have := (HS.out _ _ _ _ J1.out).1; simpa [WldV.w] using this) (by have := (HS.out _ _ _ _ J1.out).2; simpa [WldV.w, said] using this)
          have HST := Lib.hid (hst w3.drew (Keeps.refl Free w3).drew)
          have HNE := Lib.hid hend
          clear hst hend
          generalize evs[k] = evk at *
          obtain ⟨ek, en, ep⟩ := evk
          simp only at e0 e1 e2 HST
          go_upto_region 10 with fail
          go_region_with (go_at_call 47; refine HST.out.mono ?_; rintro e w5 ⟨W5, rfl, h51, h52, k5⟩; obtain ⟨nd5, nt5, nv5, ov5⟩ := W5; have H51 := Lib.hid h51; have H52 := Lib.hid h52; obtain ⟨NA5, NC5, en1⟩ := h52.cells.form (nods_len nd5) (by decide); obtain ⟨OA5, OC5, en2⟩ := h52.msgs.cells.form (mess_len nt5) (by decide); simp only at en1 en2; subst en1 en2; obtain ⟨wf, hwf, hfb, hfk⟩ := put2 (v0 := .slice NA5 nd5.length NC5) (v1 := .slice OA5 nt5.length OC5) (k5.blk (w := w3.drew) HB3.out) rfl; obtain ⟨d0, d1, df⟩ := cells2 (k5.blk (w := w3.drew) HB3.out); have HFB := Lib.hid hfb; have HFK := Lib.hid hfk; have K5 := Lib.hid k5; clear hfb hfk k5 h51 h52; simp only)
          all_goals
            go_wp2_with fail
            go_roundw
            case rel =>
              have hkk : Keeps Free w3 w5 := (Keeps.refl Free w3).drew.trans K5.out fun _ h => .inl h
              refine ⟨k + 1, by omega, by go_num, S', ⟨nd5, nt5, _, _⟩, ?_, ?_, HFB.out, ?_, HS3.out, HNB.out⟩
              · rw [H51.out]
                exact HSTEP.out _ S' _ w3 wf _ J1.out ((hkk.mono (S' := fun k => ¬ S' k) fun _ h => h.elim).trans HFK.out fun k e => .inl (e ▸ HNB.out))
              · exact H52.out.into HFK.out (fun k _ h => .inr h) fun _ _ h => h
              · exact (K3.out.trans hkk fun _ h => h.elim).trans HFK.out fun k e => .inr (by have := HBW.out; omega)
            case measure => simp [intOf]; omega

/-- The same, where it does not matter how many worlds have been looked at. -/
theorem through_any {w : World} {f : Nat} {cap : Array Value} {n : Int} {ev : Value} {evs : List Evt} {S0 : Nat → Prop} (Inv Inv' : (Nat → Prop) → Wld → World → Prop) (hstp : StepSays)
    (hev : Sl w S0 ev 3 (evs.flatMap evtCells)) (hf : ∀ (args : Array Value) (w : World), (callFunc f args).run Try.prog w = .ok (.enter f args) w)
    (_ : ∀ S W w, Inv S W w → ∀ k, S k → k < w.heap.size) (hlt' : ∀ S W w, Inv' S W w → ∀ k, S k → k < w.heap.size) (hs : ∀ S W w, Inv' S W w → W.nodes.length ≤ 1000 ∧ W.net.length ≤ 1000)
    (hS0 : ∀ k, S0 k → k < w.heap.size) (h0 : ¬ (n < 1 ∨ 5 < n) → evs.length ≤ 300 → ∀ w', Keeps Free w w' → Inv S0 (firstWld n) w')
    (hlook : ∀ S (W : WldV) w1, Inv S W.w w1 → WldOk w1 S W → Calls Try.prog f (#[.agg #[W.nv, W.ov]] ++ cap) w1 fun e w2 => e = .returned (.bool true) ∧ ∃ S', Inv' S' W.w w2 ∧ Keeps S w1 w2 ∧ ∀ k, S' k → S k ∨ w1.heap.size ≤ k)
    (hstep : ∀ S W w w' e, Inv' S W w → Keeps (fun k => ¬ S k) w w' → Inv S (cstep W e) w') :
    Calls Try.prog 37 #[.int .i64 n, ev, .func (.func f) #[] cap] w fun e w' => e = .returned (.bool true) ∧ Keeps S0 w w' :=
  through_anyK (fun _ => Inv) (fun _ => Inv') hstp hev hf (fun _ => hlt') (fun _ => hs) hS0 h0 (fun _ S W w1 _ => hlook S W w1) fun _ => hstep
end Go.Proofs.Ytibjbpakbfodaaa
namespace Go.Proofs.Ytibjbpakbfodaaa
open Go.RowKit

def ran (n : Int) (l : List Evt) : Wld := l.foldl cstep (firstWld n)

theorem ran_sound {n : Int} (h : ¬ (n < 1 ∨ 5 < n)) (l : List Evt) : Sound n (ran n l) := by
  have key : ∀ (l : List Evt) (w : Wld), Sound n w → Sound n (l.foldl cstep w) := by
    intro l
    induction l with
    | nil => exact fun w h => h
    | cons e t ih => exact fun w h => ih _ (cstep_sound h e)
  exact key l _ (firstWld_sound (by omega) (by omega))

theorem Sound.lens {n : Int} {w : Wld} (h : Sound n w) (hn : ¬ (n < 1 ∨ 5 < n)) : w.nodes.length ≤ 1000 ∧ w.net.length ≤ 1000 := ⟨by have := h.len; omega, by have := h.net; omega⟩

/-- After so many events: the world lies in the variable b, apart from blocks of Q. -/
def RunAt (w : World) (Q : Nat → Prop) (n : Int) (l : List Evt) (b r : Nat) (wr : World) : Prop :=
  ∃ W, WldOk wr (fun k => Q k ∨ k = b ∨ k = r) W ∧ WldV.w W = ran n l ∧ wr.heap[b]? = some (.cells #[W.nv, W.ov] 55 (0, 0)) ∧ wr.heap[r]? = some (.cells #[.slice none 0 0, .slice none 0 0] 55 (0, 0)) ∧ Keeps Free w wr

set_option maxRecDepth 100000 in
set_option maxHeartbeats 8000000 in
theorem clRun_any {w : World} {Q S : Nat → Prop} {n : Int} {ev : Value} {evs : List Evt} (hstp : StepSays) (hev : Sl w S ev 3 (evs.flatMap evtCells)) (hQ : ∀ k, Q k → k < w.heap.size) (hlen : evs.length ≤ 300) (hn : ¬ (n < 1 ∨ 5 < n)) :
    Calls Try.prog 44 #[.int .i64 n, ev] w fun e w' => ∃ W : WldV, e = .returned (.tuple #[.agg #[W.nv, W.ov], .int .i64 0]) ∧ W.w = ran n evs ∧ WldOk w' Q W ∧ Keeps Free w w' := by
  have HSTP := Lib.hid hstp; have HEV := Lib.hid hev; have HQ := Lib.hid hQ; have HN := Lib.hid hn
  obtain ⟨A, C, rfl⟩ := hev.form (evts_len evs) (by decide)
  clear hstp hev hQ hn
  obtain ⟨wz, hal⟩ : ∃ wz, w.alloc (.cells #[.slice none 0 0, .slice none 0 0] 55) = wz := ⟨_, rfl⟩
  obtain ⟨R, hR⟩ : ∃ R, w.heap.size = R := ⟨_, rfl⟩
  have hbz : wz.heap[R]? = some (.cells #[.slice none 0 0, .slice none 0 0] 55 (0, 0)) := by rw [← hal, ← hR]; exact heap_alloc_new _ _
  have hkz : Keeps Free w wz := by rw [← hal]; exact (Keeps.refl _ w).alloc _
  have HBZ := Lib.hid hbz; have HKZ := Lib.hid hkz; have HR := Lib.hid hR
  clear hbz hkz
  go_enter Try.func44, Try.ntmps44
  go_wp2_with fail
  refine (clStart_any wz n).mono ?_
  rintro e w1 ⟨k1, hr⟩
  have K1 := Lib.hid k1
  clear k1
  rcases hr with ⟨ho, rfl⟩ | ⟨ho, W, rfl, hW, hok⟩
  · exact absurd ho HN.out
  · obtain ⟨nodes, net, nv, ov⟩ := W
    have hok2 := hok (fun k => Q k ∨ k = R) (fun k h => h.elim (fun h => Nat.lt_of_lt_of_le (HQ.out k h) HKZ.out.size) fun h => h ▸ laid_lt HBZ.out)
    obtain ⟨NA, NC, en1⟩ := hok2.cells.form (nods_len nodes) (by decide)
    obtain ⟨OA, OC, en2⟩ := hok2.msgs.cells.form (mess_len net) (by decide)
    simp only at en1 en2
    subst en1 en2
    simp only
    have HW := Lib.hid hW; have HOK := Lib.hid hok2
    clear hW hok hok2 ho
    have hl' : decide (300 < (evs.length : Int)) = false := by simp; omega
    obtain ⟨B, hB⟩ : ∃ B, w1.heap.size = B := ⟨_, rfl⟩
    obtain ⟨w2, hal2⟩ : ∃ w2, w1.alloc (.cells #[.slice NA nodes.length NC, .slice OA net.length OC] 55) = w2 := ⟨_, rfl⟩
    have hb2 : w2.heap[B]? = some (.cells #[.slice NA nodes.length NC, .slice OA net.length OC] 55 (0, 0)) := by rw [← hal2, ← hB]; exact heap_alloc_new _ _
    have hk2 : Keeps Free w1 w2 := by rw [← hal2]; exact (Keeps.refl _ w1).alloc _
    have hRB : R < B := by have := laid_lt (K1.out.blk HBZ.out); omega
    have HB2 := Lib.hid hb2; have HK2 := Lib.hid hk2; have HRB := Lib.hid hRB
    clear hb2 hk2 hRB
    go_wp2_with fail
    go_loopw [25] (fun i wr => ∃ k : Nat, k ≤ evs.length ∧ i = .int .i64 k ∧ RunAt w Q n (evs.take k) B R wr) (fun i _ => evs.length + 1 - (intOf i).toNat)
    case atStart =>
      refine ⟨0, Nat.zero_le _, rfl, ⟨nodes, net, _, _⟩, ?_, HW.out, HB2.out, HK2.out.blk (K1.out.blk HBZ.out), (HKZ.out.trans K1.out fun _ h => .inl h).trans HK2.out fun _ h => .inl h⟩
      exact HOK.out.into HK2.out (fun _ _ h => h.elim) fun k hk h => h.elim .inl fun e => e.elim (fun e => by omega) .inr
    case round =>
      obtain ⟨k, hk, rfl, W, i1, i2, i3, i4, i5⟩ := hrel
      obtain ⟨nd, nt, nv, ov⟩ := W
      obtain ⟨NA', NC', en1⟩ := i1.cells.form (nods_len nd) (by decide)
      obtain ⟨OA', OC', en2⟩ := i1.msgs.cells.form (mess_len nt) (by decide)
      simp only at en1 en2
      subst en1 en2
      obtain ⟨b0, b1, bf⟩ := cells2 i3
      obtain ⟨r0, r1, rf⟩ := cells2 i4
      have I1 := Lib.hid i1; have I2 := Lib.hid i2; have I3 := Lib.hid i3; have I4 := Lib.hid i4; have I5 := Lib.hid i5
      clear i1 i2 i3 i4 i5
      by_cases hlt : k < evs.length
      · obtain ⟨be, off, rfl, e0, e1, e2⟩ := (HEV.out.into (S' := S) I5.out (fun _ _ h => h.elim) fun _ _ h => h).evt hlt
        have hlens := (ran_sound HN.out (evs.take k)).lens HN.out
        rw [← I2.out] at hlens
        have hst : ∀ w4, Keeps Free wr w4 → _ := fun w4 hk4 => HSTP.out w4 (fun k => Q k ∨ k = B ∨ k = R) _ evs[k] (I1.out.into hk4 (fun _ _ h => h.elim) fun _ _ h => h) (fun k h => Nat.lt_of_lt_of_le (h.elim (fun h => Nat.lt_of_lt_of_le (HQ.out k h) I5.out.size) fun h => h.elim (fun h => h ▸ laid_lt I3.out) fun h => h ▸ laid_lt I4.out) hk4.size) (by have := hlens.1; simpa [WldV.w] using this) (by have := hlens.2; simpa [WldV.w, said] using this)
        have HST := Lib.hid hst
        have htk : evs.take (k + 1) = evs.take k ++ [evs[k]] := List.take_succ_eq_append_getElem hlt
        have HTK := Lib.hid htk
        clear hst hlens htk
        generalize evs[k] = evk at *
        obtain ⟨ek, en, ep⟩ := evk
        simp only at e0 e1 e2
        obtain ⟨w4, hal4⟩ : ∃ w4, wr.alloc (.cells #[.int .i64 ek, .int .i64 en, .int .i64 ep] 63) = w4 := ⟨_, rfl⟩
        have hk4 : Keeps Free wr w4 := by rw [← hal4]; exact (Keeps.refl _ wr).alloc _
        have hb4 : w4.heap[wr.heap.size]? = some (.cells #[.int .i64 ek, .int .i64 en, .int .i64 ep] 63 (0, 0)) := by rw [← hal4]; exact heap_alloc_new _ _
        obtain ⟨g0, g1, g2, gf⟩ := cells3 hb4
        obtain ⟨x0, x1, xf⟩ := cells2 (hk4.blk I3.out)
        have hst4 := HST.out w4 hk4
        simp only at hst4
        have HST4 := Lib.hid hst4; have HK4 := Lib.hid hk4
        clear hst4 hk4 hb4
        go_wp2_with fail
        refine HST4.out.mono ?_
        rintro e w5 ⟨W5, rfl, h51, h52, k5⟩
        obtain ⟨nd5, nt5, nv5, ov5⟩ := W5
        have H51 := Lib.hid h51; have H52 := Lib.hid h52
        obtain ⟨NA5, NC5, en1⟩ := h52.cells.form (nods_len nd5) (by decide)
        obtain ⟨OA5, OC5, en2⟩ := h52.msgs.cells.form (mess_len nt5) (by decide)
        simp only at en1 en2
        subst en1 en2
        have hb5 := k5.blk (HK4.out.blk I3.out)
        obtain ⟨wf, hwf, hfb, hfk⟩ := put2 (v0 := .slice NA5 nd5.length NC5) (v1 := .slice OA5 nt5.length OC5) hb5 rfl
        obtain ⟨d0, d1, df⟩ := cells2 hb5
        have HFB := Lib.hid hfb; have HFK := Lib.hid hfk; have K5 := Lib.hid k5
        clear hfb hfk k5 h51 h52 hb5
        simp only
        go_wp2_with fail
        go_roundw
        case rel =>
          have hkk : Keeps Free wr w5 := HK4.out.trans K5.out fun _ h => .inl h
          refine ⟨k + 1, by omega, by go_num, ⟨nd5, nt5, _, _⟩, H52.out.into HFK.out (fun k _ h => .inr (.inl h)) fun _ _ h => h, ?_, HFB.out, (HFK.out.block R (laid_lt (hkk.blk I4.out)) (by have := HRB.out; omega)).trans (hkk.blk I4.out), (I5.out.trans hkk fun _ h => h.elim).trans HFK.out fun k e => .inr (by have := HRB.out; have := HR.out; omega)⟩
          rw [H51.out, I2.out, HTK.out]
          simp [ran, List.foldl_append]
        case measure => simp [intOf]; omega
      · have hkN : k = evs.length := by omega
        subst hkN
        rw [List.take_length] at I2
        obtain ⟨wf, hwf, hfb, hfk⟩ := put2 (v0 := .slice NA' nd.length NC') (v1 := .slice OA' nt.length OC') I4.out rfl
        obtain ⟨c0, c1, cf⟩ := cells2 hfb
        have HFK := Lib.hid hfk
        clear hfb hfk
        go_wp2_with fail
        refine bodyPost_ret (v := .tuple #[.agg #[.slice NA' nd.length NC', .slice OA' nt.length OC'], .int .i64 0]) (by simp [results, Try.results44, go_sem, c0, c1]) rfl ?_
        exact ⟨⟨nd, nt, _, _⟩, rfl, I2.out, I1.out.into HFK.out (fun k _ h => .inr (.inr h)) fun _ _ h => .inl h, I5.out.trans HFK.out fun k e => .inr (by have := HR.out; omega)⟩
end Go.Proofs.Ytibjbpakbfodaaa
