/- ClusterRight, walked. -/
import Derived.Test.YtibjbpakbfodaaaAlivec
import Derived.Test.YtibjbpakbfodaaaSafeD
namespace Go.Proofs.Ytibjbpakbfodaaa
open Go.RowKit

theorem cells1 {w : World} {b : Nat} {t : TypeId} {v0 : Value} (h : w.heap[b]? = some (.cells #[v0] t (0, 0))) : w.cell? ⟨b, 0, none⟩ = some v0 := cell_of_row w b 0 _ _ _ h

set_option maxRecDepth 100000 in
set_option maxHeartbeats 8000000 in
theorem right_look {w : World} {S : Nat → Prop} {W : WldV} {n : Int} {bn : Nat} (hok : WldOk w S W) (hs : Sound n W.w) (hn : ¬ (n < 1 ∨ 5 < n)) (hb : w.cell? ⟨bn, 0, none⟩ = some (.int .i64 n)) :
    Calls Try.prog 43 #[.agg #[W.nv, W.ov], .pointer (some ⟨bn, 0, none⟩)] w fun e w' => e = .returned (.bool true) ∧ Keeps Free w w' := by
  obtain ⟨nodes, net, nv, ov⟩ := W
  obtain ⟨NA, NC, en1⟩ := hok.cells.form (nods_len nodes) (by decide)
  obtain ⟨OA, OC, en2⟩ := hok.msgs.cells.form (mess_len net) (by decide)
  simp only at en1 en2
  subst en1 en2
  have hl := hs.len
  have hnl := hs.net
  simp only [WldV.w, List.length_map, said] at hl hnl
  have hgood : ∀ (j : Nat) (h : j < nodes.length), Good nodes[j].n ∧ nodes[j].n.id = (j : Int) + 1 ∧ nodes[j].n.n = n := fun j h => by
    have h' : j < (WldV.w ⟨nodes, net, .slice NA nodes.length NC, .slice OA net.length OC⟩).nodes.length := by simpa [WldV.w] using h
    have g1 := hs.good j h'
    have g2 := hs.id j h'
    have g3 := hs.n j h'
    simp only [WldV.w, List.getElem_map] at g1 g2 g3
    exact ⟨g1, g2, g3⟩
  obtain ⟨wz, hal⟩ : ∃ wz, w.alloc (.cells #[.slice NA nodes.length NC, .slice OA net.length OC] 55) = wz := ⟨_, rfl⟩
  obtain ⟨B, hB⟩ : ∃ B, w.heap.size = B := ⟨_, rfl⟩
  have hbz : wz.heap[B]? = some (.cells #[.slice NA nodes.length NC, .slice OA net.length OC] 55 (0, 0)) := by rw [← hal, ← hB]; exact heap_alloc_new _ _
  have hkz : Keeps Free w wz := by rw [← hal]; exact (Keeps.refl _ w).alloc _
  obtain ⟨c0, c1, cf⟩ := cells2 hbz
  have hn5 : nodes.length ≤ 5 := by omega
  have HOK := Lib.hid hok; have HG := Lib.hid hgood; have HKZ := Lib.hid hkz; have HBN := Lib.hid hb; have HL := Lib.hid hl
  clear hok hs hgood hbz hkz hb hl
  go_enter Try.func43, Try.ntmps43
  go_wp2_with fail
  go_loopw [9] (fun i wr => ∃ k : Nat, k ≤ nodes.length ∧ i = .int .i64 k ∧ Keeps Free wz wr) (fun i _ => nodes.length + 1 - (intOf i).toNat)
  case atStart => exact ⟨0, Nat.zero_le _, rfl, Keeps.refl _ _⟩
  case round =>
    obtain ⟨k, hk, rfl, hkr⟩ := hrel
    have d0 := hkr.cell (fun h => h) c0
    have d1 := hkr.cell (fun h => h) c1
    have bn0 := hkr.cell (fun h => h) (HKZ.out.cell (fun h => h) HBN.out)
    have HKR := Lib.hid hkr
    clear hkr
    by_cases hlt : k < nodes.length
    · have hkw : Keeps Free w wr := HKZ.out.trans HKR.out fun _ h => .inl h
      have hw4 : ∀ w4, Keeps Free wr w4 → Calls Try.prog 18 #[.agg (nodCells nodes[k]).toArray] w4 fun e w' => e = .returned (.int .i64 (wrong nodes[k].n)) ∧ Keeps Free w4 w' := fun w4 h4 =>
        wrong_any ((HOK.out.each _ (List.getElem_mem hlt)).into (S' := Free) (hkw.trans h4 fun _ h => .inl h) (fun _ _ h => h.elim) fun _ _ h => h.elim)
      obtain ⟨b, off, hA, hcell⟩ := (HOK.out.cells.into (S' := S) hkw (fun _ _ h => h.elim) fun _ _ h => h).node (j := k) hlt
      subst hA
      obtain ⟨g1, g2', g3'⟩ := HG.out k hlt
      have hw0' := wrong_of_good g1
      have hxo := HOK.out.each _ (List.getElem_mem hlt)
      have HW4 := Lib.hid hw4
      clear hw4 g1
      generalize nodes[k] = xx at *
      obtain ⟨x, lv, vv, nv, mv⟩ := xx
      obtain ⟨⟨LA, LL, LC, rfl, -⟩, ⟨VA, VL, VC, rfl, -⟩, ⟨MA, ML, MC, rfl, -⟩, ⟨PA, PL, PC, rfl, -⟩⟩ := hxo
      have r0 : wr.cell? ⟨b, off + k * 11, none⟩ = some (.int .i64 x.id) := hcell 0 _ (by decide) rfl
      have r1 : wr.cell? ⟨b, off + k * 11 + 1, none⟩ = some (.int .i64 x.n) := hcell 1 _ (by decide) rfl
      have r2 := hcell 2 _ (by decide) rfl; have r3 := hcell 3 _ (by decide) rfl; have r4 := hcell 4 _ (by decide) rfl; have r5 := hcell 5 _ (by decide) rfl
      have r6 := hcell 6 _ (by decide) rfl; have r7 := hcell 7 _ (by decide) rfl; have r8 := hcell 8 _ (by decide) rfl; have r9 := hcell 9 _ (by decide) rfl; have r10 := hcell 10 _ (by decide) rfl
      have hw5 : ∀ w4, Keeps Free wr w4 → Calls Try.prog 18 #[.agg #[.int .i64 x.id, .int .i64 x.n, .int .i64 x.term, .int .i64 x.vote, .slice LA LL LC, .int .i64 x.commit, .int .i64 x.role, .int .i64 x.boss, .slice VA VL VC, .slice MA ML MC, .slice PA PL PC]] w4 fun e w' => e = .returned (.int .i64 (wrong x)) ∧ Keeps Free w4 w' := HW4.out
      have g2 : x.id = (k : Int) + 1 := g2'
      have g3 : x.n = n := g3'
      have hw0 : wrong x = 0 := hw0'
      rw [g2] at r0
      rw [g3] at r1
      rw [g2, g3, hw0] at hw5
      have HW5 := Lib.hid hw5
      clear hcell g2 g3 hw0 HW4 hw5 g2' g3' hw0'
      obtain ⟨w4, hal4⟩ : ∃ w4, wr.alloc (.cells #[.int .i64 ((k : Int) + 1), .int .i64 n, .int .i64 x.term, .int .i64 x.vote, .slice LA LL LC, .int .i64 x.commit, .int .i64 x.role, .int .i64 x.boss, .slice VA VL VC, .slice MA ML MC, .slice PA PL PC] 25) = w4 := ⟨_, rfl⟩
      obtain ⟨b5, hb5⟩ : ∃ b5, wr.heap.size = b5 := ⟨_, rfl⟩
      have hk4 : Keeps Free wr w4 := by rw [← hal4]; exact (Keeps.refl _ wr).alloc _
      have hb4 : w4.heap[b5]? = some (.cells #[.int .i64 ((k : Int) + 1), .int .i64 n, .int .i64 x.term, .int .i64 x.vote, .slice LA LL LC, .int .i64 x.commit, .int .i64 x.role, .int .i64 x.boss, .slice VA VL VC, .slice MA ML MC, .slice PA PL PC] 25 (0, 0)) := by rw [← hal4, ← hb5]; exact heap_alloc_new _ _
      obtain ⟨p0, p1, p2, p3, p4, p5, p6, p7, p8, p9, p10, pf⟩ := cells11 hb4
      have HK4 := Lib.hid hk4; have HB4 := Lib.hid hb4; have HC4 := Lib.hid (HW5.out w4 hk4)
      clear hk4 hb4 HW5
      go_wp2_with fail
      refine HC4.out.mono ?_
      rintro e w5 ⟨rfl, k5⟩
      obtain ⟨q0, q1, q2, q3, q4, q5, q6, q7, q8, q9, q10, qf⟩ := cells11 (k5.blk HB4.out)
      have bn5 := k5.cell (fun h => h) (HK4.out.cell (fun h => h) bn0)
      have K5 := Lib.hid k5
      clear k5
      go_wp2_with fail
      go_roundw
      case rel => exact ⟨k + 1, by omega, by go_num, (HKR.out.trans HK4.out fun _ h => .inl h).trans K5.out fun _ h => .inl h⟩
      case measure => simp [intOf]; omega
    · have hkN : k = nodes.length := by omega
      subst hkN
      have hb1 : decide ((net.length : Int) ≤ 60) = true := by simp; omega
      have hl := HL.out
      subst hl
      go_wp2_with fail
      go_ret
      exact ⟨rfl, HKZ.out.trans HKR.out fun _ h => .inl h⟩

theorem call43 (args : Array Value) (w : World) : (callFunc 43 args).run Try.prog w = .ok (.enter 43 args) w := by kernel_rfl

/-- The world is sound, and the number of nodes stands in its box. -/
def RightInv (n : Int) (bn : Nat) (S : Nat → Prop) (W : Wld) (w : World) : Prop :=
  (∀ k, S k ↔ k = bn) ∧ Sound n W ∧ ¬ (n < 1 ∨ 5 < n) ∧ w.heap[bn]? = some (.cells #[.int .i64 n] 3 (0, 0))

set_option maxRecDepth 100000 in
set_option maxHeartbeats 8000000 in
theorem clusterRight_walk {w : World} {ev : Value} {evs : List Evt} (hstp : StepSays) (n : Int) (hev : Sl w Free ev 3 (evs.flatMap evtCells)) :
    Calls Try.prog 15 #[.int .i64 n, ev] w fun e w' => e = .returned (.bool true) ∧ Keeps Free w w' := by
  obtain ⟨wz, hal⟩ : ∃ wz, w.alloc (.cells #[.int .i64 n] 3) = wz := ⟨_, rfl⟩
  obtain ⟨bn, hbn⟩ : ∃ bn, w.heap.size = bn := ⟨_, rfl⟩
  have hbz : wz.heap[bn]? = some (.cells #[.int .i64 n] 3 (0, 0)) := by rw [← hal, ← hbn]; exact heap_alloc_new _ _
  have hkz : Keeps Free w wz := by rw [← hal]; exact (Keeps.refl _ w).alloc _
  have hthru : ∀ w1, Keeps Free wz w1 → Calls Try.prog 37 #[.int .i64 n, ev, .func (.func 43) #[] #[.pointer (some ⟨bn, 0, none⟩)]] w1 fun e w' => e = .returned (.bool true) ∧ Keeps (fun k => k = bn) w1 w' := fun w1 h1 => by
    have hb1 := h1.blk hbz
    refine through_any (w := w1) (S0 := fun k => k = bn) (RightInv n bn) (RightInv n bn) hstp (hev.into (hkz.trans h1 fun _ h => .inl h) (fun _ _ h => h) fun k hk e => by omega) call43 ?_ ?_ ?_ ?_ ?_ ?_ ?_
    · intro S W w2 h k hk
      rw [h.1] at hk
      rw [hk]
      exact laid_lt h.2.2.2
    · intro S W w2 h k hk
      rw [h.1] at hk
      rw [hk]
      exact laid_lt h.2.2.2
    · intro S W w2 h
      exact h.2.1.lens h.2.2.1
    · intro k hk
      rw [hk]
      exact laid_lt hb1
    · intro hn _ w2 h2
      exact ⟨fun k => Iff.rfl, firstWld_sound (by omega) (by omega), hn, h2.blk hb1⟩
    · intro S W w2 h hok
      refine (right_look hok h.2.1 h.2.2.1 (cells1 h.2.2.2)).mono ?_
      rintro e w3 ⟨rfl, h3⟩
      exact ⟨rfl, S, ⟨h.1, h.2.1, h.2.2.1, h3.blk h.2.2.2⟩, h3.mono fun _ h => h.elim, fun k hk => .inl hk⟩
    · intro S W w2 w3 e h h3
      refine ⟨h.1, cstep_sound h.2.1 e, h.2.2.1, ?_⟩
      rw [h3.block bn (laid_lt h.2.2.2) (fun hS => hS ((h.1 bn).2 rfl))]
      exact h.2.2.2
  have c0 := cells1 hbz
  have HT := Lib.hid hthru; have HK := Lib.hid hkz; have HS := Lib.hid hstp; have HBN := Lib.hid hbn
  obtain ⟨A, C, rfl⟩ := hev.form (evts_len evs) (by decide)
  clear hthru hkz hstp hev hbz
  go_enter Try.func15, Try.ntmps15
  go_wp2_with fail
  refine (alive16_any HS.out _).mono ?_
  rintro e w2 ⟨rfl, k2⟩
  have d0 := k2.cell (fun h => h) c0
  have K2 := Lib.hid k2
  clear k2
  go_wp2_with fail
  refine (HT.out _ K2.out).mono ?_
  rintro e w3 ⟨rfl, k3⟩
  have K3 := Lib.hid k3
  clear k3
  go_wp2_with fail
  go_ret
  exact ⟨rfl, (HK.out.trans K2.out fun _ h => .inl h).trans K3.out fun k e => .inr (by have := HBN.out; omega)⟩
end Go.Proofs.Ytibjbpakbfodaaa
