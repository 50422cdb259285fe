/- cluster.Start, walked: so many nodes that know nothing. -/
import Derived.Test.YtibjbpakbfodaaaStepL
import Derived.Deep.CutBlock
import Derived.Deep.LoopGhost
import Derived.Deep.RegionLaw
namespace Go.Proofs.Ytibjbpakbfodaaa
open Go.RowKit

/-- In a drawing region: a call that is met by its contract. -/
theorem step_call {P : Program} {ops : Array Oper} {o : Oper} {a : Act} {w : World} {K : Act → World → Prop} {Q : Exit → Act → World → Prop} {E : Prop} (hg : o.guard = none) (f : Nat) (vals : Array Value) {R : Ending → World → Prop} (hc : Calls P f vals w R)
    (hx : (execOp a.eval o).run P w = .ok (.enter f vals) w) (hK : ∀ e w', R e w' → ∃ v, e = .returned v ∧ K (a.put o.dst v) w') :
    if Region.wanted o (yielded ops a.tmps) = true then Oper.wp P o a w K Q else E := by
  have hw : Region.wanted o (yielded ops a.tmps) = true := by simp [Region.wanted, hg]
  rw [if_pos hw]
  unfold Oper.wp
  rw [hx, Oper.upon_enter]
  refine hc.mono fun e w' hr => ?_
  obtain ⟨v, rfl, hk⟩ := hK e w' hr
  exact hk
/-- In a drawing region: an append whose end is known. -/
theorem step_append_run {P : Program} {ops : Array Oper} {o : Oper} {a : Act} {w w' : World} {K : Act → World → Prop} {Q : Exit → Act → World → Prop} {E : Prop} {v vx v' : Value} (hg : o.guard = none) (s x : Operand) (t : TypeId)
    (hop : o.op = Op.call { callee := Callee.builtin Builtin.append, args := #[s, x], argTypes := #[t, t] }) (hs : a.eval s = v) (hx : a.eval x = vx) (hr : (Builtin.append_ #[t, t] o.type #[v, vx]).run P w = .ok v' w') (hK : K (a.put o.dst v') w') :
    if Region.wanted o (yielded ops a.tmps) = true then Oper.wp P o a w K Q else E := by
  have hw : Region.wanted o (yielded ops a.tmps) = true := by simp [Region.wanted, hg]
  rw [if_pos hw]
  unfold Oper.wp
  simp [execOp, hop, resolve, invoke, builtin, hs, hx, hr, Result.andThen]
  exact hK

/-- A node that knows nothing, and its cells. -/
def newV (id n : Int) : NodV := ⟨start id n, .slice none 0 0, .slice none 0 0, .slice none 0 0, .slice none 0 0⟩
def newsTo (n : Int) (k : Nat) : List NodV := (List.range k).map fun (i : Nat) => newV ((i : Int) + 1) n
theorem newsTo_succ (n : Int) (k : Nat) : newsTo n (k + 1) = newsTo n k ++ [newV ((k : Int) + 1) n] := by simp [newsTo, List.range_succ]
theorem newsTo_len (n : Int) (k : Nat) : (newsTo n k).length = k := by simp [newsTo]

theorem start_lit (w : World) (id n : Int) : Calls Try.prog 32 #[.int .i64 id, .int .i64 n] w fun e w' => e = .returned (.agg #[.int .i64 id, .int .i64 n, .int .i64 0, .int .i64 0, .slice none 0 0, .int .i64 0, .int .i64 1, .int .i64 0, .slice none 0 0, .slice none 0 0, .slice none 0 0]) ∧ Keeps Free w w' :=
  start_any w id n

theorem app_node {w : World} {v : Value} {n b : Nat} {xs : List Value} {cs : Array Value} (h : w.ownsRow 0 25 11 v n xs) (hb : w.heap[b]? = some (.cells cs 25 (0, 0))) (hs : cs.size = 11) (h1 : ∀ u ∈ cs.toList, u.oneCell' = true) (hn : n ≤ 1000) (ty : TypeId) :
    ∃ v' w', (Builtin.append_ #[47, 47] ty #[v, .slice (some ⟨b, 0, none⟩) 1 1]).run Try.prog w = .ok v' w' ∧ w'.ownsRow 0 25 11 v' (n + 1) (xs ++ cs.toList) ∧ Keeps (fun k => v.ownBlock = some k) w w' ∧ (v'.ownBlock = v.ownBlock ∨ v'.ownBlock = some w.heap.size) := by
  obtain ⟨i0, hi, hz, hsz, hby⟩ := info_parts Try.info25
  obtain ⟨v', w', hr, h2, h3, _, h5⟩ := run_append_own_at (P := Try.prog) (w := w) 0 47 ty 25 i0 _ 11 _ Try.underlying47 hi hz hsz hby rfl (by omega) v n xs h ⟨b, 0, none⟩ 1 1 cs.toList (by simp [hs]) (fun j u hj => by
    rw [Addr.add_lit, Nat.zero_add, cell_of_row w b j _ _ _ hb]; simpa using hj) h1 (by simp [maxLen]; omega) (by omega) (by omega)
  exact ⟨v', w', hr, h2, ⟨h3.os, h3.tape, h3.output, h3.size, fun k hk hne => h3.block k hk fun e => hne e.symm⟩, h5⟩

/-- The first k nodes have been made. -/
def StartAt (w : World) (B N k : Nat) (wr : World) : Prop :=
  ∃ A C, Keeps Free w wr ∧ wr.heap[B + 1]? = some (.cells #[.slice A k C, .slice none 0 0] 55 (0, 0)) ∧ wr.heap[B]? = some (.cells #[.slice none 0 0, .slice none 0 0] 55 (0, 0)) ∧ wr.ownsRow 0 25 11 (.slice A k C) k ((newsTo N k).flatMap nodCells) ∧
    ∀ g, (Value.slice A k C).ownBlock = some g → B + 2 ≤ g

theorem started_next {w wr w1 w2 w' : World} {B N k C C' : Nat} {A A' : Option Addr} (s1 : Keeps Free w wr) (s2 : wr.heap[B + 1]? = some (.cells #[.slice A k C, .slice none 0 0] 55 (0, 0))) (s3 : wr.heap[B]? = some (.cells #[.slice none 0 0, .slice none 0 0] 55 (0, 0)))
    (s5 : ∀ g, (Value.slice A k C).ownBlock = some g → B + 2 ≤ g) (hB : w.heap.size = B) (k1 : Keeps Free wr.drew w1) (h2 : w1.alloc (.cells (nodCells (newV ((k : Int) + 1) N)).toArray 25) = w2)
    (o : w'.ownsRow 0 25 11 (.slice A' (k + 1) C') (k + 1) ((newsTo N k).flatMap nodCells ++ (nodCells (newV ((k : Int) + 1) N)).toArray.toList)) (k2 : Keeps (fun j => (Value.slice A k C).ownBlock = some j) w2 w') (hv : (Value.slice A' (k + 1) C').ownBlock = (Value.slice A k C).ownBlock ∨ (Value.slice A' (k + 1) C').ownBlock = some w2.heap.size) :
    ∃ wn, w'.setCell ⟨B + 1, 0, none⟩ (.slice A' (k + 1) C') = wn ∧ w'.heap[B + 1]? = some (.cells #[.slice A k C, .slice none 0 0] 55 (0, 0)) ∧ StartAt w B N (k + 1) wn := by
  have hk : Keeps Free wr w2 := by rw [← h2]; exact ((Keeps.refl Free wr).drew.trans k1 fun _ h => .inl h).alloc _
  have hsz : B + 2 ≤ w2.heap.size := by have := laid_lt (hk.blk s2); omega
  have hof : ∀ g, (Value.slice A' (k + 1) C').ownBlock = some g → B + 2 ≤ g := fun g hg => by
    rcases hv with hv | hv
    · exact s5 g (hv ▸ hg)
    · rw [hv] at hg; injection hg with hg; omega
  have kB : ∀ j, (Value.slice A k C).ownBlock = some j → B + 2 ≤ j := s5
  have b1 := (k2.block (B + 1) (laid_lt (hk.blk s2)) fun e => by have := kB _ e; omega).trans (hk.blk s2)
  have b0 := (k2.block B (laid_lt (hk.blk s3)) fun e => by have := kB _ e; omega).trans (hk.blk s3)
  have hks : Keeps (fun j => j = B + 1) w' (w'.setCell ⟨B + 1, 0, none⟩ (.slice A' (k + 1) C')) := (Keeps.refl (fun j => j = B + 1) w').setCell (p := ⟨B + 1, 0, none⟩) (.inl rfl) _
  refine ⟨_, rfl, b1, A', C', ?_, ?_, (hks.block B (laid_lt b0) (by omega)).trans b0, ?_, hof⟩
  · exact ((s1.trans hk fun _ h => .inl h).trans k2 fun j e => .inr (by have := kB j e; omega)).trans hks fun j e => .inr (by omega)
  · rw [setCell_blk b1]; rfl
  · rw [newsTo_succ, List.flatMap_append]
    have := own_set (p := B + 1) (k := 0) o (.slice A' (k + 1) C') fun e => by have := hof _ e; omega
    simpa using this

set_option maxRecDepth 100000 in
set_option maxHeartbeats 8000000 in
theorem clStart_any (w : World) (n : Int) : Calls Try.prog 79 #[.int .i64 n] w fun e w' => Keeps Free w w' ∧
    ((n < 1 ∨ 5 < n) ∧ e = .returned (.tuple #[.agg #[.slice none 0 0, .slice none 0 0], .int .i64 3]) ∨
     ¬ (n < 1 ∨ 5 < n) ∧ ∃ W : WldV, e = .returned (.tuple #[.agg #[W.nv, W.ov], .int .i64 0]) ∧ W.w = firstWld n ∧ ∀ Q : Nat → Prop, (∀ k, Q k → k < w.heap.size) → WldOk w' Q W) := by
  by_cases hout : n < 1 ∨ 5 < n
  · obtain ⟨wz, wf, e1, e2, k, r0, r1, r2, r3, rf⟩ : ∃ wz wf, w.alloc (.cells #[.slice none 0 0, .slice none 0 0] 55) = wz ∧ (wz.setCell ⟨w.heap.size, 0, none⟩ (.slice none 0 0)).setCell ⟨w.heap.size, 1, none⟩ (.slice none 0 0) = wf ∧ Keeps Free w wf ∧ wz.cell? ⟨w.heap.size, 0, none⟩ = some (.slice none 0 0) ∧
        wz.cell? ⟨w.heap.size, 1, none⟩ = some (.slice none 0 0) ∧ wf.cell? ⟨w.heap.size, 0, none⟩ = some (.slice none 0 0) ∧ wf.cell? ⟨w.heap.size, 1, none⟩ = some (.slice none 0 0) ∧ (∀ k, wz.frozen? ⟨w.heap.size, k, none⟩ = false) := by
      have hb := heap_alloc_new w (.cells #[.slice none 0 0, .slice none 0 0] 55)
      obtain ⟨wf, hwf, hfb, hfk⟩ := put2 (v0 := .slice none 0 0) (v1 := .slice none 0 0) hb rfl
      exact ⟨_, wf, rfl, hwf, ((Keeps.refl Free w).alloc _).trans hfk fun j e => .inr (by omega), (cells2 hb).1, (cells2 hb).2.1, (cells2 hfb).1, (cells2 hfb).2.1, (cells2 hb).2.2⟩
    have K := Lib.hid k
    have hq : (decide (n < 1) || decide (5 < n)) = true := by simpa using hout
    have HO := Lib.hid hout
    clear k hout
    go_enter Try.func79, Try.ntmps79
    cases h1 : decide (n < 1)
    case true =>
      clear hq
      go_wp2_with fail
      refine bodyPost_ret (v := .tuple #[.agg #[.slice none 0 0, .slice none 0 0], .int .i64 3]) (by simp [results, Try.results79, go_sem, r2, r3]) rfl ?_
      exact ⟨K.out, .inl ⟨HO.out, rfl⟩⟩
    case false =>
      have h2 : decide (5 < n) = true := by rw [h1] at hq; exact hq
      clear hq
      go_wp2_with fail
      refine bodyPost_ret (v := .tuple #[.agg #[.slice none 0 0, .slice none 0 0], .int .i64 3]) (by simp [results, Try.results79, go_sem, r2, r3]) rfl ?_
      exact ⟨K.out, .inl ⟨HO.out, rfl⟩⟩
  · obtain ⟨N, rfl⟩ : ∃ N : Nat, n = N := ⟨n.toNat, by omega⟩
    have hN1 : 1 ≤ N := by omega
    have hN5 : N ≤ 5 := by omega
    clear hout
    obtain ⟨k0, k1, k2⟩ := two_boxes w (.cells #[.slice none 0 0, .slice none 0 0] 55) (.cells #[.slice none 0 0, .slice none 0 0] 55)
    obtain ⟨wz, hwz⟩ : ∃ wz, (w.alloc (.cells #[.slice none 0 0, .slice none 0 0] 55)).alloc (.cells #[.slice none 0 0, .slice none 0 0] 55) = wz := ⟨_, rfl⟩
    rw [hwz] at k0 k1 k2
    obtain ⟨B, hB⟩ : ∃ B, w.heap.size = B := ⟨_, rfl⟩
    rw [hB] at k1 k2
    have K0 := Lib.hid k0; have K1 := Lib.hid k1; have K2 := Lib.hid k2; have HB := Lib.hid hB
    clear k0 k1 k2
    go_enter Try.func79, Try.ntmps79
    go_wp2_with fail
    go_loopw [5] (fun i wr => ∃ k : Nat, k ≤ N ∧ i = .int .i64 ((k : Int) + 1) ∧ StartAt w B N k wr) (fun i _ => 7 - (intOf i).toNat)
    case atStart =>
      exact ⟨0, by omega, rfl, _, 0, K0.out, K2.out, K1.out, World.ownsRow_nil _ _ _ _, fun g hg => by simp [Value.ownBlock] at hg⟩
    case round =>
      obtain ⟨k, hk, rfl, A, C, s1, s2, s3, s4, s5⟩ := hrel
      obtain ⟨b0, b1, bf⟩ := cells2 s2
      have S1 := Lib.hid s1; have S2 := Lib.hid s2; have S3 := Lib.hid s3; have S4 := Lib.hid s4; have S5 := Lib.hid s5
      clear s1 s2 s3 s4 s5
      by_cases hlt : k < N
      · go_upto_region 7 with fail
        go_region_law (first
          | (obtain ⟨v', w', hr, o', kk2, hv⟩ := app_node (w := w1.alloc (.cells #[.int .i64 ((k : Int) + 1), .int .i64 (N : Int), .int .i64 0, .int .i64 0, .slice none 0 0, .int .i64 0, .int .i64 1, .int .i64 0, .slice none 0 0, .slice none 0 0, .slice none 0 0] 25)) (b := w1.heap.size) (own_later S4.out (((Keeps.refl Free wr).drew.trans kk1 fun _ h => .inl h).alloc _)) (heap_alloc_new _ _) rfl (by simp [Value.oneCell']) (by omega) 47; refine step_append_run rfl (.tmp 19) (.tmp 23) 47 rfl (by simp [Act.eval]) (by simp [Act.eval]) hr ?_; obtain ⟨A', C', rfl, -, -⟩ := own_slice o'; obtain ⟨wn, hwn, r⟩ := started_next S1.out S2.out S3.out S5.out HB.out kk1 rfl o' kk2 hv; obtain ⟨y0, y1, yf⟩ := cells2 r.1; have R := Lib.hid r.2; clear r o' kk2 hv)
          | (refine step_call rfl 32 #[.int .i64 ((k : Int) + 1), .int .i64 (N : Int)] (start_lit _ _ _) (by go_simp) ?_; rintro e w1 ⟨rfl, kk1⟩; have x0 := kk1.cell (w := wr.drew) (fun h => h) b0; have hx1 := Nat.lt_of_lt_of_le (laid_lt S2.out) kk1.size; refine ⟨_, rfl, ?_⟩))
        all_goals
          go_wp2_with fail
          go_roundw
          case rel => exact ⟨k + 1, by omega, by go_num, R.out⟩
          case measure => simp [intOf]; omega
      · have hkN : k = N := by omega
        subst hkN
        obtain ⟨wf, hwf, hfb, hfk⟩ := put2 (v0 := .slice A k C) (v1 := .slice none 0 0) S3.out rfl
        obtain ⟨c0, c1, cf⟩ := cells2 hfb
        obtain ⟨d0, d1, df⟩ := cells2 S3.out
        have HFK := Lib.hid hfk
        clear hfb hfk
        go_wp2_with fail
        refine bodyPost_ret (v := .tuple #[.agg #[.slice A k C, .slice none 0 0], .int .i64 0]) (by simp [results, Try.results79, go_sem, c0, c1]) rfl ?_
        have hkf : Keeps Free w wf := S1.out.trans HFK.out fun j e => .inr (by have := HB.out; omega)
        refine ⟨hkf, .inr ⟨by omega, ⟨newsTo k k, [], .slice A k C, .slice none 0 0⟩, rfl, ?_, fun Q hQ => ?_⟩⟩
        · simp [WldV.w, firstWld, newsTo, newV, said]
        · have hoB : ∀ g, (Value.slice A k C).ownBlock = some g → ¬ Q g := fun g hg hq => by have := S5.out g hg; have := hQ g hq; have := HB.out; omega
          have ho := own_keep S4.out fun g hg => HFK.out.block g (own_lt S4.out hg) fun e => by have := S5.out g hg; omega
          refine ⟨Sl.of_own (by simpa using ho) hoB, fun x hx => ?_, noMsgs _ _⟩
          simp only [newsTo, List.mem_map] at hx
          obtain ⟨j, _, rfl⟩ := hx
          have hnil : ∀ (s : Nat), Sl wf Q (.slice none 0 0) s [] := fun s => ⟨none, 0, 0, rfl, by simp, Nat.le_refl _, by simp [maxLen], fun h => by simp at h⟩
          exact ⟨hnil _, hnil _, hnil _, hnil _⟩
end Go.Proofs.Ytibjbpakbfodaaa
