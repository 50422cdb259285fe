/- cluster.Run, walked: what events make of so many nodes. -/
import Derived.Test.YtibjbpakbfodaaaThru
namespace Go.Proofs.Ytibjbpakbfodaaa
open Go.RowKit

def ran (n : Int) (l : List Evt) : Wld := l.foldl cstep (firstWld n)

theorem ran_sound {n : Int} (h : ¬ (n < 1 ∨ 5 < n)) (l : List Evt) : Sound n (ran n l) := by
  have key : ∀ (l : List Evt) (w : Wld), Sound n w → Sound n (l.foldl cstep w) := by
    intro l
    induction l with
    | nil => exact fun w h => h
    | cons e t ih => exact fun w h => ih _ (cstep_sound h e)
  exact key l _ (firstWld_sound (by omega) (by omega))

theorem Sound.lens {n : Int} {w : Wld} (h : Sound n w) (hn : ¬ (n < 1 ∨ 5 < n)) : w.nodes.length ≤ 1000 ∧ w.net.length ≤ 1000 := ⟨by have := h.len; omega, by have := h.net; omega⟩

/-- After so many events: the world lies in the variable b, apart from blocks of Q. -/
def RunAt (w : World) (Q : Nat → Prop) (n : Int) (l : List Evt) (b r : Nat) (wr : World) : Prop :=
  ∃ W, WldOk wr (fun k => Q k ∨ k = b ∨ k = r) W ∧ WldV.w W = ran n l ∧ wr.heap[b]? = some (.cells #[W.nv, W.ov] 55 (0, 0)) ∧ wr.heap[r]? = some (.cells #[.slice none 0 0, .slice none 0 0] 55 (0, 0)) ∧ Keeps Free w wr

set_option maxRecDepth 100000 in
set_option maxHeartbeats 8000000 in
theorem clRun_any {w : World} {Q S : Nat → Prop} {n : Int} {ev : Value} {evs : List Evt} (hstp : StepSays) (hev : Sl w S ev 3 (evs.flatMap evtCells)) (hQ : ∀ k, Q k → k < w.heap.size) (hlen : evs.length ≤ 300) (hn : ¬ (n < 1 ∨ 5 < n)) :
    Calls Try.prog 44 #[.int .i64 n, ev] w fun e w' => ∃ W : WldV, e = .returned (.tuple #[.agg #[W.nv, W.ov], .int .i64 0]) ∧ W.w = ran n evs ∧ WldOk w' Q W ∧ Keeps Free w w' := by
  have HSTP := Lib.hid hstp; have HEV := Lib.hid hev; have HQ := Lib.hid hQ; have HN := Lib.hid hn
  obtain ⟨A, C, rfl⟩ := hev.form (evts_len evs) (by decide)
  clear hstp hev hQ hn
  obtain ⟨wz, hal⟩ : ∃ wz, w.alloc (.cells #[.slice none 0 0, .slice none 0 0] 55) = wz := ⟨_, rfl⟩
  obtain ⟨R, hR⟩ : ∃ R, w.heap.size = R := ⟨_, rfl⟩
  have hbz : wz.heap[R]? = some (.cells #[.slice none 0 0, .slice none 0 0] 55 (0, 0)) := by rw [← hal, ← hR]; exact heap_alloc_new _ _
  have hkz : Keeps Free w wz := by rw [← hal]; exact (Keeps.refl _ w).alloc _
  have HBZ := Lib.hid hbz; have HKZ := Lib.hid hkz; have HR := Lib.hid hR
  clear hbz hkz
  go_enter Try.func44, Try.ntmps44
  go_wp2_with fail
  refine (clStart_any wz n).mono ?_
  rintro e w1 ⟨k1, hr⟩
  have K1 := Lib.hid k1
  clear k1
  rcases hr with ⟨ho, rfl⟩ | ⟨ho, W, rfl, hW, hok⟩
  · exact absurd ho HN.out
  · obtain ⟨nodes, net, nv, ov⟩ := W
    have hok2 := hok (fun k => Q k ∨ k = R) (fun k h => h.elim (fun h => Nat.lt_of_lt_of_le (HQ.out k h) HKZ.out.size) fun h => h ▸ laid_lt HBZ.out)
    obtain ⟨NA, NC, en1⟩ := hok2.cells.form (nods_len nodes) (by decide)
    obtain ⟨OA, OC, en2⟩ := hok2.msgs.cells.form (mess_len net) (by decide)
    simp only at en1 en2
    subst en1 en2
    simp only
    have HW := Lib.hid hW; have HOK := Lib.hid hok2
    clear hW hok hok2 ho
    have hl' : decide (300 < (evs.length : Int)) = false := by simp; omega
    obtain ⟨B, hB⟩ : ∃ B, w1.heap.size = B := ⟨_, rfl⟩
    obtain ⟨w2, hal2⟩ : ∃ w2, w1.alloc (.cells #[.slice NA nodes.length NC, .slice OA net.length OC] 55) = w2 := ⟨_, rfl⟩
    have hb2 : w2.heap[B]? = some (.cells #[.slice NA nodes.length NC, .slice OA net.length OC] 55 (0, 0)) := by rw [← hal2, ← hB]; exact heap_alloc_new _ _
    have hk2 : Keeps Free w1 w2 := by rw [← hal2]; exact (Keeps.refl _ w1).alloc _
    have hRB : R < B := by have := laid_lt (K1.out.blk HBZ.out); omega
    have HB2 := Lib.hid hb2; have HK2 := Lib.hid hk2; have HRB := Lib.hid hRB
    clear hb2 hk2 hRB
    go_wp2_with fail
    go_loopw [25] (fun i wr => ∃ k : Nat, k ≤ evs.length ∧ i = .int .i64 k ∧ RunAt w Q n (evs.take k) B R wr) (fun i _ => evs.length + 1 - (intOf i).toNat)
    case atStart =>
      refine ⟨0, Nat.zero_le _, rfl, ⟨nodes, net, _, _⟩, ?_, HW.out, HB2.out, HK2.out.blk (K1.out.blk HBZ.out), (HKZ.out.trans K1.out fun _ h => .inl h).trans HK2.out fun _ h => .inl h⟩
      exact HOK.out.into HK2.out (fun _ _ h => h.elim) fun k hk h => h.elim .inl fun e => e.elim (fun e => by omega) .inr
    case round =>
      obtain ⟨k, hk, rfl, W, i1, i2, i3, i4, i5⟩ := hrel
      obtain ⟨nd, nt, nv, ov⟩ := W
      obtain ⟨NA', NC', en1⟩ := i1.cells.form (nods_len nd) (by decide)
      obtain ⟨OA', OC', en2⟩ := i1.msgs.cells.form (mess_len nt) (by decide)
      simp only at en1 en2
      subst en1 en2
      obtain ⟨b0, b1, bf⟩ := cells2 i3
      obtain ⟨r0, r1, rf⟩ := cells2 i4
      have I1 := Lib.hid i1; have I2 := Lib.hid i2; have I3 := Lib.hid i3; have I4 := Lib.hid i4; have I5 := Lib.hid i5
      clear i1 i2 i3 i4 i5
      by_cases hlt : k < evs.length
      · obtain ⟨be, off, rfl, e0, e1, e2⟩ := (HEV.out.into (S' := S) I5.out (fun _ _ h => h.elim) fun _ _ h => h).evt hlt
        have hlens := (ran_sound HN.out (evs.take k)).lens HN.out
        rw [← I2.out] at hlens
        have hst : ∀ w4, Keeps Free wr w4 → _ := fun w4 hk4 => HSTP.out w4 (fun k => Q k ∨ k = B ∨ k = R) _ evs[k] (I1.out.into hk4 (fun _ _ h => h.elim) fun _ _ h => h) (fun k h => Nat.lt_of_lt_of_le (h.elim (fun h => Nat.lt_of_lt_of_le (HQ.out k h) I5.out.size) fun h => h.elim (fun h => h ▸ laid_lt I3.out) fun h => h ▸ laid_lt I4.out) hk4.size) (by have := hlens.1; simpa [WldV.w] using this) (by have := hlens.2; simpa [WldV.w, said] using this)
        have HST := Lib.hid hst
        have htk : evs.take (k + 1) = evs.take k ++ [evs[k]] := List.take_succ_eq_append_getElem hlt
        have HTK := Lib.hid htk
        clear hst hlens htk
        generalize evs[k] = evk at *
        obtain ⟨ek, en, ep⟩ := evk
        simp only at e0 e1 e2
        obtain ⟨w4, hal4⟩ : ∃ w4, wr.alloc (.cells #[.int .i64 ek, .int .i64 en, .int .i64 ep] 63) = w4 := ⟨_, rfl⟩
        have hk4 : Keeps Free wr w4 := by rw [← hal4]; exact (Keeps.refl _ wr).alloc _
        have hb4 : w4.heap[wr.heap.size]? = some (.cells #[.int .i64 ek, .int .i64 en, .int .i64 ep] 63 (0, 0)) := by rw [← hal4]; exact heap_alloc_new _ _
        obtain ⟨g0, g1, g2, gf⟩ := cells3 hb4
        obtain ⟨x0, x1, xf⟩ := cells2 (hk4.blk I3.out)
        have hst4 := HST.out w4 hk4
        simp only at hst4
        have HST4 := Lib.hid hst4; have HK4 := Lib.hid hk4
        clear hst4 hk4 hb4
        go_wp2_with fail
        refine HST4.out.mono ?_
        rintro e w5 ⟨W5, rfl, h51, h52, k5⟩
        obtain ⟨nd5, nt5, nv5, ov5⟩ := W5
        have H51 := Lib.hid h51; have H52 := Lib.hid h52
        obtain ⟨NA5, NC5, en1⟩ := h52.cells.form (nods_len nd5) (by decide)
        obtain ⟨OA5, OC5, en2⟩ := h52.msgs.cells.form (mess_len nt5) (by decide)
        simp only at en1 en2
        subst en1 en2
        have hb5 := k5.blk (HK4.out.blk I3.out)
        obtain ⟨wf, hwf, hfb, hfk⟩ := put2 (v0 := .slice NA5 nd5.length NC5) (v1 := .slice OA5 nt5.length OC5) hb5 rfl
        obtain ⟨d0, d1, df⟩ := cells2 hb5
        have HFB := Lib.hid hfb; have HFK := Lib.hid hfk; have K5 := Lib.hid k5
        clear hfb hfk k5 h51 h52 hb5
        simp only
        go_wp2_with fail
        go_roundw
        case rel =>
          have hkk : Keeps Free wr w5 := HK4.out.trans K5.out fun _ h => .inl h
          refine ⟨k + 1, by omega, by go_num, ⟨nd5, nt5, _, _⟩, H52.out.into HFK.out (fun k _ h => .inr (.inl h)) fun _ _ h => h, ?_, HFB.out, (HFK.out.block R (laid_lt (hkk.blk I4.out)) (by have := HRB.out; omega)).trans (hkk.blk I4.out), (I5.out.trans hkk fun _ h => h.elim).trans HFK.out fun k e => .inr (by have := HRB.out; have := HR.out; omega)⟩
          rw [H51.out, I2.out, HTK.out]
          simp [ran, List.foldl_append]
        case measure => simp [intOf]; omega
      · have hkN : k = evs.length := by omega
        subst hkN
        rw [List.take_length] at I2
        obtain ⟨wf, hwf, hfb, hfk⟩ := put2 (v0 := .slice NA' nd.length NC') (v1 := .slice OA' nt.length OC') I4.out rfl
        obtain ⟨c0, c1, cf⟩ := cells2 hfb
        have HFK := Lib.hid hfk
        clear hfb hfk
        go_wp2_with fail
        refine bodyPost_ret (v := .tuple #[.agg #[.slice NA' nd.length NC', .slice OA' nt.length OC'], .int .i64 0]) (by simp [results, Try.results44, go_sem, c0, c1]) rfl ?_
        exact ⟨⟨nd, nt, _, _⟩, rfl, I2.out, I1.out.into HFK.out (fun k _ h => .inr (.inr h)) fun _ _ h => .inl h, I5.out.trans HFK.out fun k e => .inr (by have := HR.out; omega)⟩
end Go.Proofs.Ytibjbpakbfodaaa
