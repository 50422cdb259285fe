/- The law's calm, walked: cluster.Calm up to ten times, as long as there are messages. -/
import Derived.Test.YtibjbpakbfodaaaXCalm
namespace Go.Proofs.Ytibjbpakbfodaaa
open Go.RowKit

/-- At work: the world lies in block B; Calm has been called some times. -/
def CalmsAt (w : World) (Q : Nat → Prop) (n : Int) (u : Wld) (B R k : Nat) (wr : World) : Prop :=
  ∃ W, WldOk wr (fun j => Q j ∨ j = B ∨ j = R) W ∧ calmN ((10 - k) * 300) (WldV.w W) = calmN 3000 u ∧ Sound n (WldV.w W) ∧ wr.heap[B]? = some (.cells #[W.nv, W.ov] 55 (0, 0)) ∧ wr.heap[R]? = some (.cells #[.slice none 0 0, .slice none 0 0] 55 (0, 0)) ∧ Keeps Free w wr

set_option maxRecDepth 100000 in
set_option maxHeartbeats 8000000 in
theorem lawCalm_any {w : World} {Q : Nat → Prop} {W : WldV} {n : Int} (hstp : StepSays) (hok : WldOk w Q W) (hQ : ∀ k, Q k → k < w.heap.size) (hs : Sound n W.w) (hn : ¬ (n < 1 ∨ 5 < n)) :
    Calls Try.prog 52 #[.agg #[W.nv, W.ov]] w fun e w' => ∃ W' : WldV, e = .returned (.agg #[W'.nv, W'.ov]) ∧ W'.w = calmN 3000 W.w ∧ WldOk w' Q W' ∧ Keeps Free w w' := by
  have HSTP := Lib.hid hstp; have HQ := Lib.hid hQ; have HN := Lib.hid hn
  obtain ⟨nodes, net, nv, ov⟩ := W
  obtain ⟨NA, NC, en1⟩ := hok.cells.form (nods_len nodes) (by decide)
  obtain ⟨OA, OC, en2⟩ := hok.msgs.cells.form (mess_len net) (by decide)
  simp only at en1 en2
  subst en1 en2
  simp only
  have HOK := Lib.hid hok; have HS := Lib.hid hs
  clear hstp hQ hn hok hs
  obtain ⟨k0, k1, k2⟩ := two_boxes w (.cells #[.slice NA nodes.length NC, .slice OA net.length OC] 55) (.cells #[.slice none 0 0, .slice none 0 0] 55)
  obtain ⟨w2, hw2⟩ : ∃ w2, (w.alloc (.cells #[.slice NA nodes.length NC, .slice OA net.length OC] 55)).alloc (.cells #[.slice none 0 0, .slice none 0 0] 55) = w2 := ⟨_, rfl⟩
  rw [hw2] at k0 k1 k2
  obtain ⟨B, hB⟩ : ∃ B, w.heap.size = B := ⟨_, rfl⟩
  rw [hB] at k1 k2
  have K2 := Lib.hid k0; have B2 := Lib.hid k1; have R2 := Lib.hid k2; have HB := Lib.hid hB
  obtain ⟨W0, hW0⟩ : ∃ W0, WldV.w ⟨nodes, net, .slice NA nodes.length NC, .slice OA net.length OC⟩ = W0 := ⟨_, rfl⟩
  have HS0 := Lib.hid (hW0 ▸ HS.out : Sound n W0)
  have HW0 := Lib.hid hW0
  rw [hW0]
  clear k0 k1 k2
  go_enter Try.func52, Try.ntmps52
  go_upto_region 1 with fail
  clear hw2 hB hW0
  obtain ⟨d0, d1, df⟩ := cells2 B2.out
  go_wp2_with fail
  go_loopw [3] (fun i wr => ∃ ki : Int, 0 ≤ ki ∧ ki ≤ 10 ∧ i = .int .i64 ki ∧ CalmsAt w Q n W0 B (B + 1) ki.toNat wr) (fun i _ => 11 - (intOf i).toNat)
  case atStart =>
    refine ⟨0, Int.le_refl _, by omega, rfl, ⟨nodes, net, .slice NA nodes.length NC, .slice OA net.length OC⟩, ?_, by rw [HW0.out]; rfl, HS.out, B2.out, R2.out, K2.out⟩
    exact HOK.out.into K2.out (fun _ _ h => h.elim) fun k hk h => h.elim id fun e => by have := HB.out; omega
  case round =>
    obtain ⟨ki, hk0, hk, rfl, W, i1, i2, i6, i3, i4, i5⟩ := hrel
    obtain ⟨nd, nt, nv, ov⟩ := W
    obtain ⟨NA', NC', en1⟩ := i1.cells.form (nods_len nd) (by decide)
    obtain ⟨OA', OC', en2⟩ := i1.msgs.cells.form (mess_len nt) (by decide)
    simp only at en1 en2
    subst en1 en2
    clear d0 d1 df
    obtain ⟨b0, b1, bf⟩ := cells2 i3
    obtain ⟨r0, r1, rf⟩ := cells2 i4
    have I1 := Lib.hid i1; have I2 := Lib.hid i2; have I3 := Lib.hid i3; have I4 := Lib.hid i4; have I5 := Lib.hid i5; have I6 := Lib.hid i6
    clear i1 i2 i3 i4 i5 i6
    by_cases hlt : ki < 10
    · have hlt' : decide (ki < 10) = true := by simp; omega
      by_cases hnt : nt.length = 0
      · have HFIN := Lib.hid (show (WldV.w ⟨nd, nt, .slice NA' nd.length NC', .slice OA' nt.length OC'⟩) = calmN 3000 W0 by
          rw [← I2.out, calmN_none]
          exact List.eq_nil_of_length_eq_zero (by simp [WldV.w, said, hnt]))
        obtain ⟨nl, hnl⟩ : ∃ nl : Int, (nt.length : Int) = nl := ⟨_, rfl⟩
        have hz : decide (0 < (nt.length : Int)) = false := by rw [hnt]; rfl
        have hz' : decide (0 < nt.length) = false := by rw [hnt]; rfl
        clear hnt hnl
        obtain ⟨wf, hwf, hfb, hfk⟩ := put2 (v0 := .slice NA' nd.length NC') (v1 := .slice OA' nt.length OC') I4.out rfl
        obtain ⟨c0, c1, cf⟩ := cells2 hfb
        have HFK := Lib.hid hfk
        clear hfb hfk
        go_wp2_with fail
        refine bodyPost_ret (v := .agg #[.slice NA' nd.length NC', .slice OA' nt.length OC']) (by simp [results, Try.results52, go_sem, c0, c1]) rfl ?_
        exact ⟨⟨nd, nt, _, _⟩, rfl, HFIN.out, I1.out.into HFK.out (fun k _ h => .inr (.inr h)) fun _ _ h => .inl h, I5.out.trans HFK.out fun k e => .inr (by have := HB.out; omega)⟩
      · have hz : decide (0 < (nt.length : Int)) = true := by simp; omega
        have hz' : decide (0 < nt.length) = true := by simp; omega
        have hst := clCalm_any (w := wr) (Q := fun j => Q j ∨ j = B ∨ j = B + 1) 300 HSTP.out I1.out (fun k h => h.elim (fun h => Nat.lt_of_lt_of_le (HQ.out k h) I5.out.size) fun h => h.elim (fun h => h ▸ laid_lt I3.out) fun h => h ▸ laid_lt I4.out) I6.out HN.out
        have HFIN := Lib.hid (show calmN ((10 - (ki + 1).toNat) * 300) (calmN (min (300 : Int) 300).toNat (WldV.w ⟨nd, nt, .slice NA' nd.length NC', .slice OA' nt.length OC'⟩)) = calmN 3000 W0 by
          rw [← I2.out, show (10 - ki.toNat) * 300 = (min (300 : Int) 300).toNat + (10 - (ki + 1).toNat) * 300 by omega, calmN_add])
        have HSN := Lib.hid (calmN_sound (min (300 : Int) 300).toNat I6.out)
        have HST := Lib.hid hst
        clear hst hnt
        go_wp2_with fail
        refine HST.out.mono ?_
        rintro e w5 ⟨W5, rfl, h51, h52, k5⟩
        obtain ⟨nd5, nt5, nv5, ov5⟩ := W5
        have H51 := Lib.hid h51; have H52 := Lib.hid h52
        obtain ⟨NA5, NC5, en1⟩ := h52.cells.form (nods_len nd5) (by decide)
        obtain ⟨OA5, OC5, en2⟩ := h52.msgs.cells.form (mess_len nt5) (by decide)
        simp only at en1 en2
        subst en1 en2
        have hb5 := k5.blk I3.out
        obtain ⟨wf, hwf, hfb, hfk⟩ := put2 (v0 := .slice NA5 nd5.length NC5) (v1 := .slice OA5 nt5.length OC5) hb5 rfl
        obtain ⟨d0, d1, df⟩ := cells2 hb5
        have HFB := Lib.hid hfb; have HFK := Lib.hid hfk; have K5 := Lib.hid k5
        clear hfb hfk k5 h51 h52 hb5 b0 b1 bf r0 r1 rf
        have hwk : IntKind.i64.wrap (ki + 1) = ki + 1 := IntWalk.i64_in _ (by omega)
        simp only
        go_wp2_with fail
        go_roundw
        case rel =>
          refine ⟨ki + 1, by omega, by omega, rfl, ⟨nd5, nt5, _, _⟩, H52.out.into HFK.out (fun k _ h => .inr (.inl h)) fun _ _ h => h, ?_, ?_, HFB.out, (HFK.out.block (B + 1) (laid_lt (K5.out.blk I4.out)) (by omega)).trans (K5.out.blk I4.out), (I5.out.trans K5.out fun _ h => h.elim).trans HFK.out fun k e => .inr (by have := HB.out; omega)⟩
          · rw [H51.out]; exact HFIN.out
          · rw [H51.out]; exact HSN.out
        case measure => simp [intOf]; omega
    · have hlt' : decide (ki < 10) = false := by simp; omega
      have HFIN := Lib.hid (show (WldV.w ⟨nd, nt, .slice NA' nd.length NC', .slice OA' nt.length OC'⟩) = calmN 3000 W0 by
        have := I2.out
        rw [show (10 - ki.toNat) * 300 = 0 by omega] at this
        exact this)
      obtain ⟨wf, hwf, hfb, hfk⟩ := put2 (v0 := .slice NA' nd.length NC') (v1 := .slice OA' nt.length OC') I4.out rfl
      obtain ⟨c0, c1, cf⟩ := cells2 hfb
      have HFK := Lib.hid hfk
      clear hfb hfk
      go_wp2_with fail
      refine bodyPost_ret (v := .agg #[.slice NA' nd.length NC', .slice OA' nt.length OC']) (by simp [results, Try.results52, go_sem, c0, c1]) rfl ?_
      exact ⟨⟨nd, nt, _, _⟩, rfl, HFIN.out, I1.out.into HFK.out (fun k _ h => .inr (.inr h)) fun _ _ h => .inl h, I5.out.trans HFK.out fun k e => .inr (by have := HB.out; omega)⟩
end Go.Proofs.Ytibjbpakbfodaaa
