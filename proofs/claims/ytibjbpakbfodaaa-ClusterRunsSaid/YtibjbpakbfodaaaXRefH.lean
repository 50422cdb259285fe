/- The document's answer, chapter 15: Beat, Propose, Restart. -/
import Derived.Test.YtibjbpakbfodaaaXRefG
import Derived.Test.YtibjbpakbfodaaaXRefW
namespace Go.Proofs.Ytibjbpakbfodaaa
open Go.RowKit

structure Sized (x : Nod) : Prop where
  log : x.log.length ≤ 2000000
  votes : x.votes.length ≤ 2000000
  next : x.next.length ≤ 2000000
  mtch : x.mtch.length ≤ 2000000

/-- The node in its box is handed back, and what a call has said. -/
theorem Boxed.both {w wx wy wr : World} {Q : Nat → Prop} {B r : Nat} {x : NodV} {y : Nod} {lv vv nv mv ov : Value} {out : List MesV} (h : Boxed w Q B r x wx) (hy : Boxed w Q B r ⟨y, lv, vv, nv, mv⟩ wy)
    (hms : MsgsOk wy (fun k => k < wx.heap.size) ov out) (hr : Keeps (fun k => k = r) wy wr) :
    HandsR w Q y (said out) (.returned (.tuple #[.agg #[.int .i64 y.id, .int .i64 y.n, .int .i64 y.term, .int .i64 y.vote, lv, .int .i64 y.commit, .int .i64 y.role, .int .i64 y.boss, vv, nv, mv], ov])) wr := by
  have h1 := h.rlt; have h2 := h.lt; have h3 := h.le; have h4 := h.keeps.size
  obtain ⟨h5, h6⟩ := hy.done hr
  exact ⟨⟨y, lv, vv, nv, mv⟩, ov, out, rfl, rfl, rfl, h5, ⟨hms.cells.into hr (fun k _ e => by omega) (fun k _ h => by omega), fun m hm => (hms.each m hm).into hr (fun k _ e => by omega) (fun k _ h => by omega)⟩, h6⟩

set_option maxRecDepth 100000 in
set_option maxHeartbeats 8000000 in
theorem beatR_any {w : World} {Q : Nat → Prop} {x : NodV} (h : NodeOk w Q x) (hQ : ∀ k, Q k → k < w.heap.size) (hs : Sized x.n) :
    Calls Try.prog 25 #[.agg (nodCells x).toArray] w (HandsR w Q (beat x.n).1 (beat x.n).2) := by
  have H := Lib.hid h; have HQ := Lib.hid hQ; have HSZ := Lib.hid hs
  have hwr : ∀ w1, Keeps Free w w1 → Calls Try.prog 19 #[.agg (nodCells x).toArray] w1 fun e w' => e = .returned (.int .i64 (wrong x.n)) ∧ Keeps Free w1 w' := fun w1 hk => wrongR_any (h.into hk (fun _ _ h => h.elim) (fun _ _ h => h.elim)) hs.log hs.votes hs.next hs.mtch
  have HWR := Lib.hid hwr
  have hsl := hs.log
  obtain ⟨n, lv, vv, nv, mv⟩ := x
  simp only at hsl HSZ
  obtain ⟨LA, LC, VA, VC, NA, NC, MA, MC, rfl, rfl, rfl, rfl⟩ := h.shape
  clear h hQ hs hwr
  simp only [nodCells] at HWR ⊢
  go_enter Try.func25, Try.ntmps25
  go_upto_region 1 with fail
  obtain ⟨k0, k1, k2⟩ := two_boxes w (.cells #[.int .i64 n.id, .int .i64 n.n, .int .i64 n.term, .int .i64 n.vote, .slice LA n.log.length LC, .int .i64 n.commit, .int .i64 n.role, .int .i64 n.boss, .slice VA n.votes.length VC, .slice NA n.next.length NC, .slice MA n.mtch.length MC] 25) (.cells zero11 25)
  obtain ⟨w2, hw2⟩ : ∃ w2, (w.alloc (.cells #[.int .i64 n.id, .int .i64 n.n, .int .i64 n.term, .int .i64 n.vote, .slice LA n.log.length LC, .int .i64 n.commit, .int .i64 n.role, .int .i64 n.boss, .slice VA n.votes.length VC, .slice NA n.next.length NC, .slice MA n.mtch.length MC] 25)).alloc (.cells zero11 25) = w2 := ⟨_, rfl⟩
  rw [hw2] at k0 k1 k2 ⊢
  have HBX := Lib.hid (show Boxed w Q w.heap.size (w.heap.size + 1) _ _ from Boxed.start H.out HQ.out k0 (Nat.lt_succ_self _) k1 k2)
  have hlt := laid_lt k2
  obtain ⟨b0, b1, b2, b3, b4, b5, b6, b7, b8, b9, b10, bf⟩ := cells11 k1
  obtain ⟨r0, r1, r2, r3, r4, r5, r6, r7, r8, r9, r10, rf⟩ := cells11 k2
  obtain ⟨B, hB⟩ : ∃ B, w.heap.size = B := ⟨_, rfl⟩
  rw [hB] at HBX hlt b0 b1 b2 b3 b4 b5 b6 b7 b8 b9 b10 bf r0 r1 r2 r3 r4 r5 r6 r7 r8 r9 r10 rf ⊢
  clear k0 k1 k2 hw2
  cases hq1 : (wrong n != 0)
  case true =>
    have HE := Lib.hid (show beat n = (n, []) by unfold beat; rw [if_pos (.inl (by simpa using hq1))])
    go_wp2_with (first
              | (go_at_call 19
                 refine (HWR.out _ HBX.out.keeps).mono ?_
                 rintro e w3 ⟨rfl, hk3⟩
                 have hb3 := HBX.out.later hk3
                 clear b0 b1 b2 b3 b4 b5 b6 b7 b8 b9 b10 bf
                 clear r0 r1 r2 r3 r4 r5 r6 r7 r8 r9 r10 rf
                 obtain ⟨b0, b1, b2, b3, b4, b5, b6, b7, b8, b9, b10, bf⟩ := cells11 hb3.blk
                 obtain ⟨r0, r1, r2, r3, r4, r5, r6, r7, r8, r9, r10, rf⟩ := cells11 hb3.res
                 simp only at b0 b1 b2 b3 b4 b5 b6 b7 b8 b9 b10
                 have HB3 := Lib.hid hb3
                 clear hk3 hb3
                 obtain ⟨wf, hwf, hfb, hfk⟩ := put11l (v0 := .int .i64 n.id) (v1 := .int .i64 n.n) (v2 := .int .i64 n.term) (v3 := .int .i64 n.vote) (v4 := .slice LA n.log.length LC) (v5 := .int .i64 n.commit) (v6 := .int .i64 n.role) (v7 := .int .i64 n.boss) (v8 := .slice VA n.votes.length VC) (v9 := .slice NA n.next.length NC) (v10 := .slice MA n.mtch.length MC) HB3.out.res rfl))
    obtain ⟨q0, q1, q2, q3, q4, q5, q6, q7, q8, q9, q10, qf⟩ := cells11 hfb
    have FIN := Lib.hid (HB3.out.quiet hfk)
    clear hfb hfk
    refine bodyPost_ret (v := .tuple #[.agg #[.int .i64 n.id, .int .i64 n.n, .int .i64 n.term, .int .i64 n.vote, .slice LA n.log.length LC, .int .i64 n.commit, .int .i64 n.role, .int .i64 n.boss, .slice VA n.votes.length VC, .slice NA n.next.length NC, .slice MA n.mtch.length MC], .slice none 0 0]) (by simp [results, Try.results25, go_sem, q0, q1, q2, q3, q4, q5, q6, q7, q8, q9, q10]) rfl ?_
    rw [HE.out]
    exact FIN.out
  cases hq2 : (n.role != 3)
  case true =>
    have HE := Lib.hid (show beat n = (n, []) by unfold beat; rw [if_pos (.inr (by simpa using hq2))])
    go_wp2_with (first
              | (go_at_call 19
                 refine (HWR.out _ HBX.out.keeps).mono ?_
                 rintro e w3 ⟨rfl, hk3⟩
                 have hb3 := HBX.out.later hk3
                 clear b0 b1 b2 b3 b4 b5 b6 b7 b8 b9 b10 bf
                 clear r0 r1 r2 r3 r4 r5 r6 r7 r8 r9 r10 rf
                 obtain ⟨b0, b1, b2, b3, b4, b5, b6, b7, b8, b9, b10, bf⟩ := cells11 hb3.blk
                 obtain ⟨r0, r1, r2, r3, r4, r5, r6, r7, r8, r9, r10, rf⟩ := cells11 hb3.res
                 simp only at b0 b1 b2 b3 b4 b5 b6 b7 b8 b9 b10
                 have HB3 := Lib.hid hb3
                 clear hk3 hb3
                 obtain ⟨wf, hwf, hfb, hfk⟩ := put11l (v0 := .int .i64 n.id) (v1 := .int .i64 n.n) (v2 := .int .i64 n.term) (v3 := .int .i64 n.vote) (v4 := .slice LA n.log.length LC) (v5 := .int .i64 n.commit) (v6 := .int .i64 n.role) (v7 := .int .i64 n.boss) (v8 := .slice VA n.votes.length VC) (v9 := .slice NA n.next.length NC) (v10 := .slice MA n.mtch.length MC) HB3.out.res rfl))
    obtain ⟨q0, q1, q2, q3, q4, q5, q6, q7, q8, q9, q10, qf⟩ := cells11 hfb
    have FIN := Lib.hid (HB3.out.quiet hfk)
    clear hfb hfk
    refine bodyPost_ret (v := .tuple #[.agg #[.int .i64 n.id, .int .i64 n.n, .int .i64 n.term, .int .i64 n.vote, .slice LA n.log.length LC, .int .i64 n.commit, .int .i64 n.role, .int .i64 n.boss, .slice VA n.votes.length VC, .slice NA n.next.length NC, .slice MA n.mtch.length MC], .slice none 0 0]) (by simp [results, Try.results25, go_sem, q0, q1, q2, q3, q4, q5, q6, q7, q8, q9, q10]) rfl ?_
    rw [HE.out]
    exact FIN.out
  have hw0 : wrong n = 0 := by simpa using hq1
  have hr3 : n.role = 3 := by simpa using hq2
  have HE := Lib.hid (show beat n = (n, (others n).map (sends n)) by unfold beat; rw [if_neg (by omega)])
  have HF4 := Lib.hid ((good_of_wrong hw0).fit hr3).1
  clear hw0 hr3
  go_upto_region 3 with (first
          | (go_at_call 19
             refine (HWR.out _ HBX.out.keeps).mono ?_
             rintro e w3 ⟨rfl, hk3⟩
             have hb3 := HBX.out.later hk3
             clear b0 b1 b2 b3 b4 b5 b6 b7 b8 b9 b10 bf
             clear r0 r1 r2 r3 r4 r5 r6 r7 r8 r9 r10 rf
             obtain ⟨b0, b1, b2, b3, b4, b5, b6, b7, b8, b9, b10, bf⟩ := cells11 hb3.blk
             obtain ⟨r0, r1, r2, r3, r4, r5, r6, r7, r8, r9, r10, rf⟩ := cells11 hb3.res
             simp only at b0 b1 b2 b3 b4 b5 b6 b7 b8 b9 b10
             have HB3 := Lib.hid hb3
             clear hk3 hb3))
  clear hq1 hq2 b0 b1 b2 b3 b4 b5 b6 b7 b8 b9 b10 bf r0 r1 r2 r3 r4 r5 r6 r7 r8 r9 r10 rf HBX HWR
  have HBF := Lib.hid HB3.out
  clear HB3
  refine Wf.wp_region_first (C := fun w' => Keeps (fun k => k = B + 1) w3 w') (by kernel_rfl) 99 ?_
  have HKF := Lib.hid (show Keeps Free w3 { w3 with drawn := w3.drawn + 1 } from (Keeps.refl Free w3).drew)
  obtain ⟨W, hW⟩ : ∃ W : World, W = { w3 with drawn := w3.drawn + 1 } := ⟨_, rfl⟩
  rw [← hW] at HKF ⊢
  clear hW
  have HKW := Lib.hid (HKF.out.mono (S' := fun k => k = B + 1) (fun _ h => h.elim))
  apply Wf.wpAnyP_stays (by kernel_rfl) [0, 1] _ _ _ 3 _ HKW.out (by kernel_rfl) ?hs ?hr
  case hs =>
    apply Wf.wpStays_step rfl rfl
    · intro w' hw'
      have hbw := (hw'.block B (laid_lt HBF.out.blk) (by omega)).trans HBF.out.blk
      obtain ⟨e0, e1, e2, e3, e4, e5, e6, e7, e8, e9, e10, ef⟩ := cells11 hbw
      clear hw' hbw
      simp only at e0 e1 e2 e3 e4 e5 e6 e7 e8 e9 e10
      go_simp
      exact ⟨rfl, rfl⟩
    go_simp
    apply Wf.wpStays_step rfl rfl
    · intro w' hw'
      have hbw := (hw'.block B (laid_lt HBF.out.blk) (by omega)).trans HBF.out.blk
      obtain ⟨e0, e1, e2, e3, e4, e5, e6, e7, e8, e9, e10, ef⟩ := cells11 hbw
      clear hw' hbw
      simp only at e0 e1 e2 e3 e4 e5 e6 e7 e8 e9 e10
      go_simp
      exact ⟨rfl, rfl⟩
    go_simp
    exact rfl
  case hr =>
    apply Wf.wpAnyP_one (i := 2) (fuel := 2) (by kernel_rfl) rfl rfl
    have hbat := batches_any (HBF.out.later HKF.out).free HF4.out.n HF4.out.n5 HF4.out.nl HF4.out.nq HF4.out.log
    simp only [nodCells] at hbat
    go_simp
    refine hbat.mono ?_
    rintro e w9 ⟨ov, out, rfl, hso, hms, hk9⟩
    have HB9 := Lib.hid ((HBF.out.later HKF.out).later hk9)
    have HK9 := Lib.hid (HKW.out.trans hk9 (fun _ h => h.elim))
    have HSO := Lib.hid hso; have HMS := Lib.hid hms
    have hW2 := HKF.out.size
    have hrl := HBF.out.rlt
    clear hso hms hbat hk9
    refine ⟨_, rfl, HK9.out, ?_⟩
    obtain ⟨wr, hwr, hrb, hrk⟩ := put11l (v0 := .int .i64 n.id) (v1 := .int .i64 n.n) (v2 := .int .i64 n.term) (v3 := .int .i64 n.vote) (v4 := .slice LA n.log.length LC) (v5 := .int .i64 n.commit) (v6 := .int .i64 n.role) (v7 := .int .i64 n.boss) (v8 := .slice VA n.votes.length VC) (v9 := .slice NA n.next.length NC) (v10 := .slice MA n.mtch.length MC) HB9.out.res rfl
    obtain ⟨r0, r1, r2, r3, r4, r5, r6, r7, r8, r9, r10, rf⟩ := cells11 HB9.out.res
    apply Wf.wpAnyP_one (i := 3) (fuel := 1) (by kernel_rfl) rfl rfl
    go_simp
    first | rw [hwr] | skip
    have HKR := Lib.hid (HK9.out.trans hrk (fun _ h => .inl h))
    refine ⟨HKR.out, ?_⟩
    apply Wf.wpAnyP_one (i := 4) (fuel := 0) (by kernel_rfl) rfl rfl
    go_simp
    refine ⟨HKR.out, ?_⟩
    refine ⟨by kernel_rfl, ?_⟩
    clear r0 r1 r2 r3 r4 r5 r6 r7 r8 r9 r10 rf hwr
    obtain ⟨q0, q1, q2, q3, q4, q5, q6, q7, q8, q9, q10, qf⟩ := cells11 hrb
    have FIN := Lib.hid ((HBF.out.later HKF.out).both (y := n) HB9.out HMS.out hrk)
    clear hrb hrk
    go_wp2_with fail
    refine bodyPost_ret (v := .tuple #[.agg #[.int .i64 n.id, .int .i64 n.n, .int .i64 n.term, .int .i64 n.vote, .slice LA n.log.length LC, .int .i64 n.commit, .int .i64 n.role, .int .i64 n.boss, .slice VA n.votes.length VC, .slice NA n.next.length NC, .slice MA n.mtch.length MC], ov]) (by simp [results, Try.results25, go_sem, q0, q1, q2, q3, q4, q5, q6, q7, q8, q9, q10]) rfl ?_
    rw [HE.out, ← HSO.out]
    exact FIN.out

/-- What a call of Propose comes to. -/
def HandsP (w : World) (Q : Nat → Prop) (y : Nod) (ms : List Mes) (ok : Bool) (e : Ending) (w' : World) : Prop :=
  ∃ x' ov out, e = .returned (.tuple #[.agg (nodCells x').toArray, ov, .bool ok]) ∧ x'.n = y ∧ said out = ms ∧ NodeOk w' Q x' ∧ MsgsOk w' (fun k => k < w.heap.size) ov out ∧ Keeps Free w w'

set_option maxRecDepth 100000 in
set_option maxHeartbeats 8000000 in
theorem proposeR_any {w : World} {Q : Nat → Prop} {x : NodV} (h : NodeOk w Q x) (hQ : ∀ k, Q k → k < w.heap.size) (hs : Sized x.n) (cmd : Int) :
    Calls Try.prog 27 #[.agg (nodCells x).toArray, .int .i64 cmd] w (HandsP w Q (propose x.n cmd).1 (propose x.n cmd).2.1 (propose x.n cmd).2.2) := by
  have H := Lib.hid h; have HQ := Lib.hid hQ; have HSZ := Lib.hid hs
  have hwr : ∀ w1, Keeps Free w w1 → Calls Try.prog 19 #[.agg (nodCells x).toArray] w1 fun e w' => e = .returned (.int .i64 (wrong x.n)) ∧ Keeps Free w1 w' := fun w1 hk => wrongR_any (h.into hk (fun _ _ h => h.elim) (fun _ _ h => h.elim)) hs.log hs.votes hs.next hs.mtch
  have HWR := Lib.hid hwr
  have hsl := hs.log
  obtain ⟨n, lv, vv, nv, mv⟩ := x
  simp only at hsl HSZ
  obtain ⟨LA, LC, VA, VC, NA, NC, MA, MC, rfl, rfl, rfl, rfl⟩ := h.shape
  clear h hQ hs hwr
  simp only [nodCells] at HWR ⊢
  go_enter Try.func27, Try.ntmps27
  go_upto_region 1 with fail
  obtain ⟨k0, k1, k2⟩ := two_boxes w (.cells #[.int .i64 n.id, .int .i64 n.n, .int .i64 n.term, .int .i64 n.vote, .slice LA n.log.length LC, .int .i64 n.commit, .int .i64 n.role, .int .i64 n.boss, .slice VA n.votes.length VC, .slice NA n.next.length NC, .slice MA n.mtch.length MC] 25) (.cells zero11 25)
  obtain ⟨w2, hw2⟩ : ∃ w2, (w.alloc (.cells #[.int .i64 n.id, .int .i64 n.n, .int .i64 n.term, .int .i64 n.vote, .slice LA n.log.length LC, .int .i64 n.commit, .int .i64 n.role, .int .i64 n.boss, .slice VA n.votes.length VC, .slice NA n.next.length NC, .slice MA n.mtch.length MC] 25)).alloc (.cells zero11 25) = w2 := ⟨_, rfl⟩
  rw [hw2] at k0 k1 k2 ⊢
  have HBX := Lib.hid (show Boxed w Q w.heap.size (w.heap.size + 1) _ _ from Boxed.start H.out HQ.out k0 (Nat.lt_succ_self _) k1 k2)
  have hlt := laid_lt k2
  obtain ⟨b0, b1, b2, b3, b4, b5, b6, b7, b8, b9, b10, bf⟩ := cells11 k1
  obtain ⟨r0, r1, r2, r3, r4, r5, r6, r7, r8, r9, r10, rf⟩ := cells11 k2
  obtain ⟨B, hB⟩ : ∃ B, w.heap.size = B := ⟨_, rfl⟩
  rw [hB] at HBX hlt b0 b1 b2 b3 b4 b5 b6 b7 b8 b9 b10 bf r0 r1 r2 r3 r4 r5 r6 r7 r8 r9 r10 rf ⊢
  clear k0 k1 k2 hw2
  cases hq1 : (wrong n != 0)
  case true =>
    have HE := Lib.hid (show propose n cmd = (n, [], false) by unfold propose; rw [if_pos (.inl (by simpa using hq1))])
    go_wp2_with (first
              | (go_at_call 19
                 refine (HWR.out _ HBX.out.keeps).mono ?_
                 rintro e w3 ⟨rfl, hk3⟩
                 have hb3 := HBX.out.later hk3
                 clear b0 b1 b2 b3 b4 b5 b6 b7 b8 b9 b10 bf
                 clear r0 r1 r2 r3 r4 r5 r6 r7 r8 r9 r10 rf
                 obtain ⟨b0, b1, b2, b3, b4, b5, b6, b7, b8, b9, b10, bf⟩ := cells11 hb3.blk
                 obtain ⟨r0, r1, r2, r3, r4, r5, r6, r7, r8, r9, r10, rf⟩ := cells11 hb3.res
                 simp only at b0 b1 b2 b3 b4 b5 b6 b7 b8 b9 b10
                 have HB3 := Lib.hid hb3
                 clear hk3 hb3
                 obtain ⟨wf, hwf, hfb, hfk⟩ := put11l (v0 := .int .i64 n.id) (v1 := .int .i64 n.n) (v2 := .int .i64 n.term) (v3 := .int .i64 n.vote) (v4 := .slice LA n.log.length LC) (v5 := .int .i64 n.commit) (v6 := .int .i64 n.role) (v7 := .int .i64 n.boss) (v8 := .slice VA n.votes.length VC) (v9 := .slice NA n.next.length NC) (v10 := .slice MA n.mtch.length MC) HB3.out.res rfl))
    obtain ⟨q0, q1, q2, q3, q4, q5, q6, q7, q8, q9, q10, qf⟩ := cells11 hfb
    have FIN := Lib.hid (HB3.out.quiet hfk)
    clear hfb hfk
    refine bodyPost_ret (v := .tuple #[.agg #[.int .i64 n.id, .int .i64 n.n, .int .i64 n.term, .int .i64 n.vote, .slice LA n.log.length LC, .int .i64 n.commit, .int .i64 n.role, .int .i64 n.boss, .slice VA n.votes.length VC, .slice NA n.next.length NC, .slice MA n.mtch.length MC], .slice none 0 0, .bool false]) (by simp [results, Try.results27, go_sem, q0, q1, q2, q3, q4, q5, q6, q7, q8, q9, q10]) rfl ?_
    rw [HE.out]
    obtain ⟨y, ov, out, e1, e2, e3, e4, e5, e6⟩ := FIN.out
    injection e1 with e1
    injection e1 with e1
    simp only [Array.mk.injEq, List.cons.injEq, and_true] at e1
    exact ⟨y, ov, out, by rw [e1.1, e1.2], e2, e3, e4, e5, e6⟩
  cases hq2 : (n.role != 3)
  case true =>
    have HE := Lib.hid (show propose n cmd = (n, [], false) by unfold propose; rw [if_pos (.inr (.inl (by simpa using hq2)))])
    go_wp2_with (first
              | (go_at_call 19
                 refine (HWR.out _ HBX.out.keeps).mono ?_
                 rintro e w3 ⟨rfl, hk3⟩
                 have hb3 := HBX.out.later hk3
                 clear b0 b1 b2 b3 b4 b5 b6 b7 b8 b9 b10 bf
                 clear r0 r1 r2 r3 r4 r5 r6 r7 r8 r9 r10 rf
                 obtain ⟨b0, b1, b2, b3, b4, b5, b6, b7, b8, b9, b10, bf⟩ := cells11 hb3.blk
                 obtain ⟨r0, r1, r2, r3, r4, r5, r6, r7, r8, r9, r10, rf⟩ := cells11 hb3.res
                 simp only at b0 b1 b2 b3 b4 b5 b6 b7 b8 b9 b10
                 have HB3 := Lib.hid hb3
                 clear hk3 hb3
                 obtain ⟨wf, hwf, hfb, hfk⟩ := put11l (v0 := .int .i64 n.id) (v1 := .int .i64 n.n) (v2 := .int .i64 n.term) (v3 := .int .i64 n.vote) (v4 := .slice LA n.log.length LC) (v5 := .int .i64 n.commit) (v6 := .int .i64 n.role) (v7 := .int .i64 n.boss) (v8 := .slice VA n.votes.length VC) (v9 := .slice NA n.next.length NC) (v10 := .slice MA n.mtch.length MC) HB3.out.res rfl))
    obtain ⟨q0, q1, q2, q3, q4, q5, q6, q7, q8, q9, q10, qf⟩ := cells11 hfb
    have FIN := Lib.hid (HB3.out.quiet hfk)
    clear hfb hfk
    refine bodyPost_ret (v := .tuple #[.agg #[.int .i64 n.id, .int .i64 n.n, .int .i64 n.term, .int .i64 n.vote, .slice LA n.log.length LC, .int .i64 n.commit, .int .i64 n.role, .int .i64 n.boss, .slice VA n.votes.length VC, .slice NA n.next.length NC, .slice MA n.mtch.length MC], .slice none 0 0, .bool false]) (by simp [results, Try.results27, go_sem, q0, q1, q2, q3, q4, q5, q6, q7, q8, q9, q10]) rfl ?_
    rw [HE.out]
    obtain ⟨y, ov, out, e1, e2, e3, e4, e5, e6⟩ := FIN.out
    injection e1 with e1
    injection e1 with e1
    simp only [Array.mk.injEq, List.cons.injEq, and_true] at e1
    exact ⟨y, ov, out, by rw [e1.1, e1.2], e2, e3, e4, e5, e6⟩
  cases hq3 : decide (60 ≤ (n.log.length : Int))
  case true =>
    have HE := Lib.hid (show propose n cmd = (n, [], false) by unfold propose; rw [if_pos (.inr (.inr (by simp at hq3; omega)))])
    go_wp2_with (first
              | (go_at_call 19
                 refine (HWR.out _ HBX.out.keeps).mono ?_
                 rintro e w3 ⟨rfl, hk3⟩
                 have hb3 := HBX.out.later hk3
                 clear b0 b1 b2 b3 b4 b5 b6 b7 b8 b9 b10 bf
                 clear r0 r1 r2 r3 r4 r5 r6 r7 r8 r9 r10 rf
                 obtain ⟨b0, b1, b2, b3, b4, b5, b6, b7, b8, b9, b10, bf⟩ := cells11 hb3.blk
                 obtain ⟨r0, r1, r2, r3, r4, r5, r6, r7, r8, r9, r10, rf⟩ := cells11 hb3.res
                 simp only at b0 b1 b2 b3 b4 b5 b6 b7 b8 b9 b10
                 have HB3 := Lib.hid hb3
                 clear hk3 hb3
                 obtain ⟨wf, hwf, hfb, hfk⟩ := put11l (v0 := .int .i64 n.id) (v1 := .int .i64 n.n) (v2 := .int .i64 n.term) (v3 := .int .i64 n.vote) (v4 := .slice LA n.log.length LC) (v5 := .int .i64 n.commit) (v6 := .int .i64 n.role) (v7 := .int .i64 n.boss) (v8 := .slice VA n.votes.length VC) (v9 := .slice NA n.next.length NC) (v10 := .slice MA n.mtch.length MC) HB3.out.res rfl))
    obtain ⟨q0, q1, q2, q3, q4, q5, q6, q7, q8, q9, q10, qf⟩ := cells11 hfb
    have FIN := Lib.hid (HB3.out.quiet hfk)
    clear hfb hfk
    refine bodyPost_ret (v := .tuple #[.agg #[.int .i64 n.id, .int .i64 n.n, .int .i64 n.term, .int .i64 n.vote, .slice LA n.log.length LC, .int .i64 n.commit, .int .i64 n.role, .int .i64 n.boss, .slice VA n.votes.length VC, .slice NA n.next.length NC, .slice MA n.mtch.length MC], .slice none 0 0, .bool false]) (by simp [results, Try.results27, go_sem, q0, q1, q2, q3, q4, q5, q6, q7, q8, q9, q10]) rfl ?_
    rw [HE.out]
    obtain ⟨y, ov, out, e1, e2, e3, e4, e5, e6⟩ := FIN.out
    injection e1 with e1
    injection e1 with e1
    simp only [Array.mk.injEq, List.cons.injEq, and_true] at e1
    exact ⟨y, ov, out, by rw [e1.1, e1.2], e2, e3, e4, e5, e6⟩
  have hw0 : wrong n = 0 := by simpa using hq1
  have hr3 : n.role = 3 := by simpa using hq2
  have hl6 : ¬ 60 ≤ n.log.length := by simp at hq3; omega
  have HE := Lib.hid (show propose n cmd = (put n cmd, putSays n cmd, true) by unfold propose; rw [if_neg (by omega)])
  have hgd := good_of_wrong hw0
  have HGD := Lib.hid hgd
  have HF4 := Lib.hid (hgd.fit hr3).1
  have HT1 : Hid (1 ≤ n.term) := Lib.hid (by have := hgd.fresh (by omega); have := hgd.term0; omega)
  clear hw0 hr3 hl6 hgd
  go_upto_region 3 with (first
          | (go_at_call 19
             refine (HWR.out _ HBX.out.keeps).mono ?_
             rintro e w3 ⟨rfl, hk3⟩
             have hb3 := HBX.out.later hk3
             clear b0 b1 b2 b3 b4 b5 b6 b7 b8 b9 b10 bf
             clear r0 r1 r2 r3 r4 r5 r6 r7 r8 r9 r10 rf
             obtain ⟨b0, b1, b2, b3, b4, b5, b6, b7, b8, b9, b10, bf⟩ := cells11 hb3.blk
             obtain ⟨r0, r1, r2, r3, r4, r5, r6, r7, r8, r9, r10, rf⟩ := cells11 hb3.res
             simp only at b0 b1 b2 b3 b4 b5 b6 b7 b8 b9 b10
             have HB3 := Lib.hid hb3
             clear hk3 hb3))
  clear hq1 hq2 hq3 HBX HWR r0 r1 r2 r3 r4 r5 r6 r7 r8 r9 r10 rf
  have hput := putR_any HB3.out.ok HB3.out.oldS HF4.out HGD.out.commitn HGD.out.rise HT1.out cmd
  simp only [nodCells] at hput
  have HPUT := Lib.hid hput
  have hrl := HB3.out.rlt
  clear hput
  go_upto_region 4 with (first
    | (go_at_call 68
       refine HPUT.out.mono ?_
       rintro e w9 ⟨⟨x3, lv3, vv3, nv3, mv3⟩, ov, out, rfl, hx3, hso, hok3, hms, hk9⟩
       obtain ⟨LA3, LC3, VA3, VC3, NA3, NC3, MA3, MC3, e1, e2, e3, e4⟩ := hok3.shape
       simp only at e1 e2 e3 e4 hx3
       subst e1 e2 e3 e4
       have HX3 := Lib.hid hx3; have HSO := Lib.hid hso; have HMS := Lib.hid hms; have HOK3 := Lib.hid hok3
       simp only [nodCells]
       clear b0 b1 b2 b3 b4 b5 b6 b7 b8 b9 b10 bf
       have hb9 := HB3.out.later hk9
       obtain ⟨wf, hwf, hfb, hfk⟩ := put11l (v0 := .int .i64 x3.id) (v1 := .int .i64 x3.n) (v2 := .int .i64 x3.term) (v3 := .int .i64 x3.vote) (v4 := .slice LA3 x3.log.length LC3) (v5 := .int .i64 x3.commit) (v6 := .int .i64 x3.role) (v7 := .int .i64 x3.boss) (v8 := .slice VA3 x3.votes.length VC3) (v9 := .slice NA3 x3.next.length NC3) (v10 := .slice MA3 x3.mtch.length MC3) hb9.blk rfl
       obtain ⟨b0, b1, b2, b3, b4, b5, b6, b7, b8, b9, b10, bf⟩ := cells11 hb9.blk
       simp only at b0 b1 b2 b3 b4 b5 b6 b7 b8 b9 b10
       have HB10 := Lib.hid (hb9.put (y := ⟨x3, .slice LA3 x3.log.length LC3, .slice VA3 x3.votes.length VC3, .slice NA3 x3.next.length NC3, .slice MA3 x3.mtch.length MC3⟩) hfk hfb hok3)
       have HK10 := Lib.hid hfk
       clear hx3 hso hms hok3 hfk hb9))
  first | rw [hwf] | skip
  clear HPUT hk9 b0 b1 b2 b3 b4 b5 b6 b7 b8 b9 b10 bf hfb hwf
  obtain ⟨b0, b1, b2, b3, b4, b5, b6, b7, b8, b9, b10, bf⟩ := cells11 HB10.out.blk
  obtain ⟨r0, r1, r2, r3, r4, r5, r6, r7, r8, r9, r10, rf⟩ := cells11 HB10.out.res
  simp only at b0 b1 b2 b3 b4 b5 b6 b7 b8 b9 b10
  obtain ⟨wr, hwr, hrb, hrk⟩ := put11l (v0 := .int .i64 x3.id) (v1 := .int .i64 x3.n) (v2 := .int .i64 x3.term) (v3 := .int .i64 x3.vote) (v4 := .slice LA3 x3.log.length LC3) (v5 := .int .i64 x3.commit) (v6 := .int .i64 x3.role) (v7 := .int .i64 x3.boss) (v8 := .slice VA3 x3.votes.length VC3) (v9 := .slice NA3 x3.next.length NC3) (v10 := .slice MA3 x3.mtch.length MC3) HB10.out.res rfl
  obtain ⟨hd1, hd2⟩ := HB10.out.done hrk
  have HMS2 := Lib.hid (show MsgsOk wr (fun k => k < w.heap.size) ov out from ⟨(HMS.out.cells.into HK10.out (fun k _ e => by omega) (fun _ _ h => h)).into hrk (fun k _ e => by omega) (fun k _ h => by have := HB3.out.keeps.size; omega), fun m hm => ((HMS.out.each m hm).into HK10.out (fun k _ e => by omega) (fun _ _ h => h)).into hrk (fun k _ e => by omega) (fun k _ h => by have := HB3.out.keeps.size; omega)⟩)
  have FIN := Lib.hid (show HandsP w Q x3 (said out) true (.returned (.tuple #[.agg #[.int .i64 x3.id, .int .i64 x3.n, .int .i64 x3.term, .int .i64 x3.vote, .slice LA3 x3.log.length LC3, .int .i64 x3.commit, .int .i64 x3.role, .int .i64 x3.boss, .slice VA3 x3.votes.length VC3, .slice NA3 x3.next.length NC3, .slice MA3 x3.mtch.length MC3], ov, .bool true])) wr from ⟨⟨x3, .slice LA3 x3.log.length LC3, .slice VA3 x3.votes.length VC3, .slice NA3 x3.next.length NC3, .slice MA3 x3.mtch.length MC3⟩, ov, out, rfl, rfl, rfl, hd1, HMS2.out, hd2⟩)
  clear hd1 hd2 hrk
  go_wp2_with fail
  obtain ⟨q0, q1, q2, q3, q4, q5, q6, q7, q8, q9, q10, qf⟩ := cells11 hrb
  refine bodyPost_ret (v := .tuple #[.agg #[.int .i64 x3.id, .int .i64 x3.n, .int .i64 x3.term, .int .i64 x3.vote, .slice LA3 x3.log.length LC3, .int .i64 x3.commit, .int .i64 x3.role, .int .i64 x3.boss, .slice VA3 x3.votes.length VC3, .slice NA3 x3.next.length NC3, .slice MA3 x3.mtch.length MC3], ov, .bool true]) (by simp [results, Try.results27, go_sem, q0, q1, q2, q3, q4, q5, q6, q7, q8, q9, q10]) rfl ?_
  rw [HE.out, ← HX3.out, ← HSO.out]
  exact FIN.out

set_option maxRecDepth 100000 in
set_option maxHeartbeats 8000000 in
theorem restartR_any {w : World} {Q : Nat → Prop} {x : NodV} (h : NodeOk w Q x) (hQ : ∀ k, Q k → k < w.heap.size) (hs : Sized x.n) :
    Calls Try.prog 29 #[.agg (nodCells x).toArray] w (fun e w' => ∃ x' : NodV, e = .returned (.agg (nodCells x').toArray) ∧ x'.n = restart x.n ∧ NodeOk w' Q x' ∧ Keeps Free w w') := by
  have H := Lib.hid h; have HQ := Lib.hid hQ; have HSZ := Lib.hid hs
  have hwr : ∀ w1, Keeps Free w w1 → Calls Try.prog 19 #[.agg (nodCells x).toArray] w1 fun e w' => e = .returned (.int .i64 (wrong x.n)) ∧ Keeps Free w1 w' := fun w1 hk => wrongR_any (h.into hk (fun _ _ h => h.elim) (fun _ _ h => h.elim)) hs.log hs.votes hs.next hs.mtch
  have HWR := Lib.hid hwr
  have hsl := hs.log
  obtain ⟨n, lv, vv, nv, mv⟩ := x
  simp only at hsl HSZ
  obtain ⟨LA, LC, VA, VC, NA, NC, MA, MC, rfl, rfl, rfl, rfl⟩ := h.shape
  clear h hQ hs hwr
  simp only [nodCells] at HWR ⊢
  go_enter Try.func29, Try.ntmps29
  go_upto_region 1 with fail
  obtain ⟨k0, k1, k2⟩ := two_boxes w (.cells #[.int .i64 n.id, .int .i64 n.n, .int .i64 n.term, .int .i64 n.vote, .slice LA n.log.length LC, .int .i64 n.commit, .int .i64 n.role, .int .i64 n.boss, .slice VA n.votes.length VC, .slice NA n.next.length NC, .slice MA n.mtch.length MC] 25) (.cells zero11 25)
  obtain ⟨w2, hw2⟩ : ∃ w2, (w.alloc (.cells #[.int .i64 n.id, .int .i64 n.n, .int .i64 n.term, .int .i64 n.vote, .slice LA n.log.length LC, .int .i64 n.commit, .int .i64 n.role, .int .i64 n.boss, .slice VA n.votes.length VC, .slice NA n.next.length NC, .slice MA n.mtch.length MC] 25)).alloc (.cells zero11 25) = w2 := ⟨_, rfl⟩
  rw [hw2] at k0 k1 k2 ⊢
  have HBX := Lib.hid (show Boxed w Q w.heap.size (w.heap.size + 1) _ _ from Boxed.start H.out HQ.out k0 (Nat.lt_succ_self _) k1 k2)
  have hlt := laid_lt k2
  obtain ⟨b0, b1, b2, b3, b4, b5, b6, b7, b8, b9, b10, bf⟩ := cells11 k1
  obtain ⟨r0, r1, r2, r3, r4, r5, r6, r7, r8, r9, r10, rf⟩ := cells11 k2
  obtain ⟨B, hB⟩ : ∃ B, w.heap.size = B := ⟨_, rfl⟩
  rw [hB] at HBX hlt b0 b1 b2 b3 b4 b5 b6 b7 b8 b9 b10 bf r0 r1 r2 r3 r4 r5 r6 r7 r8 r9 r10 rf ⊢
  clear k0 k1 k2 hw2
  cases hq1 : (wrong n != 0)
  case true =>
    have HE := Lib.hid (show restart n = n by unfold restart; rw [if_pos (by simpa using hq1)])
    go_wp2_with (first
          | (go_at_call 19
             refine (HWR.out _ HBX.out.keeps).mono ?_
             rintro e w3 ⟨rfl, hk3⟩
             have hb3 := HBX.out.later hk3
             clear b0 b1 b2 b3 b4 b5 b6 b7 b8 b9 b10 bf
             clear r0 r1 r2 r3 r4 r5 r6 r7 r8 r9 r10 rf
             obtain ⟨b0, b1, b2, b3, b4, b5, b6, b7, b8, b9, b10, bf⟩ := cells11 hb3.blk
             obtain ⟨r0, r1, r2, r3, r4, r5, r6, r7, r8, r9, r10, rf⟩ := cells11 hb3.res
             simp only at b0 b1 b2 b3 b4 b5 b6 b7 b8 b9 b10
             have HB3 := Lib.hid hb3
             clear hk3 hb3
             obtain ⟨wf, hwf, hfb, hfk⟩ := put11l (v0 := .int .i64 n.id) (v1 := .int .i64 n.n) (v2 := .int .i64 n.term) (v3 := .int .i64 n.vote) (v4 := .slice LA n.log.length LC) (v5 := .int .i64 n.commit) (v6 := .int .i64 n.role) (v7 := .int .i64 n.boss) (v8 := .slice VA n.votes.length VC) (v9 := .slice NA n.next.length NC) (v10 := .slice MA n.mtch.length MC) HB3.out.res rfl))
    obtain ⟨q0, q1, q2, q3, q4, q5, q6, q7, q8, q9, q10, qf⟩ := cells11 hfb
    have FIN := Lib.hid (HB3.out.done hfk)
    clear hfb hfk
    refine bodyPost_ret (v := .agg #[.int .i64 n.id, .int .i64 n.n, .int .i64 n.term, .int .i64 n.vote, .slice LA n.log.length LC, .int .i64 n.commit, .int .i64 n.role, .int .i64 n.boss, .slice VA n.votes.length VC, .slice NA n.next.length NC, .slice MA n.mtch.length MC]) (by simp [results, Try.results29, go_sem, q0, q1, q2, q3, q4, q5, q6, q7, q8, q9, q10]) rfl ?_
    exact ⟨⟨n, .slice LA n.log.length LC, .slice VA n.votes.length VC, .slice NA n.next.length NC, .slice MA n.mtch.length MC⟩, rfl, HE.out.symm, FIN.out.1, FIN.out.2⟩
  have hw0 : wrong n = 0 := by simpa using hq1
  have HE := Lib.hid (show restart n = { follow n n.term 0 with commit := 0 } by unfold restart; rw [if_neg (by omega)])
  have HFO := Lib.hid (show follow n n.term 0 = { n with role := 1, boss := 0, votes := [], next := [], mtch := [] } by unfold follow; rw [if_neg (by omega), if_neg (by omega)])
  clear hw0
  go_upto_region 3 with (first
          | (go_at_call 19
             refine (HWR.out _ HBX.out.keeps).mono ?_
             rintro e w3 ⟨rfl, hk3⟩
             have hb3 := HBX.out.later hk3
             clear b0 b1 b2 b3 b4 b5 b6 b7 b8 b9 b10 bf
             clear r0 r1 r2 r3 r4 r5 r6 r7 r8 r9 r10 rf
             obtain ⟨b0, b1, b2, b3, b4, b5, b6, b7, b8, b9, b10, bf⟩ := cells11 hb3.blk
             obtain ⟨r0, r1, r2, r3, r4, r5, r6, r7, r8, r9, r10, rf⟩ := cells11 hb3.res
             simp only at b0 b1 b2 b3 b4 b5 b6 b7 b8 b9 b10
             have HB3 := Lib.hid hb3
             clear hk3 hb3))
  clear hq1 HBX HWR r0 r1 r2 r3 r4 r5 r6 r7 r8 r9 r10 rf
  have hfl := follower_any HB3.out.ok 0
  simp only [nodCells] at hfl
  have HFL := Lib.hid hfl
  clear hfl
  have hrl := HB3.out.rlt
  go_upto_region 4 with (first
    | (go_at_call 70
       refine HFL.out.mono ?_
       rintro e w5 ⟨⟨x3, lv3, vv3, nv3, mv3⟩, rfl, hx3, hok3, hk5⟩
       obtain ⟨LA3, LC3, VA3, VC3, NA3, NC3, MA3, MC3, e1, e2, e3, e4⟩ := hok3.shape
       simp only at e1 e2 e3 e4 hx3
       subst e1 e2 e3 e4
       have HX3 := Lib.hid hx3
       clear b0 b1 b2 b3 b4 b5 b6 b7 b8 b9 b10 bf
       have hb9 := HB3.out.later hk5
       obtain ⟨wf, hwf, hfb, hfk⟩ := put11l (v0 := .int .i64 x3.id) (v1 := .int .i64 x3.n) (v2 := .int .i64 x3.term) (v3 := .int .i64 x3.vote) (v4 := .slice LA3 x3.log.length LC3) (v5 := .int .i64 x3.commit) (v6 := .int .i64 x3.role) (v7 := .int .i64 x3.boss) (v8 := .slice VA3 x3.votes.length VC3) (v9 := .slice NA3 x3.next.length NC3) (v10 := .slice MA3 x3.mtch.length MC3) hb9.blk rfl
       obtain ⟨b0, b1, b2, b3, b4, b5, b6, b7, b8, b9, b10, bf⟩ := cells11 hb9.blk
       simp only at b0 b1 b2 b3 b4 b5 b6 b7 b8 b9 b10
       have HB10 := Lib.hid (hb9.put (y := ⟨x3, .slice LA3 x3.log.length LC3, .slice VA3 x3.votes.length VC3, .slice NA3 x3.next.length NC3, .slice MA3 x3.mtch.length MC3⟩) hfk hfb hok3)
       clear hx3 hok3 hfk hb9))
  first | rw [hwf] | skip
  clear HFL hk5 b0 b1 b2 b3 b4 b5 b6 b7 b8 b9 b10 bf hfb hwf
  have hb11 := HB10.out.set 5 (.int .i64 0) ⟨{ x3 with commit := 0 }, .slice LA3 x3.log.length LC3, .slice VA3 x3.votes.length VC3, .slice NA3 x3.next.length NC3, .slice MA3 x3.mtch.length MC3⟩ rfl ⟨HB10.out.ok.log, HB10.out.ok.votes, HB10.out.ok.next, HB10.out.ok.mtch⟩
  obtain ⟨b0, b1, b2, b3, b4, b5, b6, b7, b8, b9, b10, bf⟩ := cells11 HB10.out.blk
  simp only at b0 b1 b2 b3 b4 b5 b6 b7 b8 b9 b10
  go_upto_region 5 with fail
  obtain ⟨w7, hw7⟩ : ∃ w7, wf.setCell ⟨B, 5, none⟩ (.int .i64 0) = w7 := ⟨_, rfl⟩
  rw [hw7] at hb11 ⊢
  clear hw7 b0 b1 b2 b3 b4 b5 b6 b7 b8 b9 b10 bf
  obtain ⟨b0, b1, b2, b3, b4, b5, b6, b7, b8, b9, b10, bf⟩ := cells11 hb11.blk
  obtain ⟨r0, r1, r2, r3, r4, r5, r6, r7, r8, r9, r10, rf⟩ := cells11 hb11.res
  simp only at b0 b1 b2 b3 b4 b5 b6 b7 b8 b9 b10
  obtain ⟨wr, hwr, hrb, hrk⟩ := put11l (v0 := .int .i64 x3.id) (v1 := .int .i64 x3.n) (v2 := .int .i64 x3.term) (v3 := .int .i64 x3.vote) (v4 := .slice LA3 x3.log.length LC3) (v5 := .int .i64 0) (v6 := .int .i64 x3.role) (v7 := .int .i64 x3.boss) (v8 := .slice VA3 x3.votes.length VC3) (v9 := .slice NA3 x3.next.length NC3) (v10 := .slice MA3 x3.mtch.length MC3) hb11.res rfl
  have FIN := Lib.hid (hb11.done hrk)
  clear hb11 hrk
  go_wp2_with fail
  obtain ⟨q0, q1, q2, q3, q4, q5, q6, q7, q8, q9, q10, qf⟩ := cells11 hrb
  refine bodyPost_ret (v := .agg #[.int .i64 x3.id, .int .i64 x3.n, .int .i64 x3.term, .int .i64 x3.vote, .slice LA3 x3.log.length LC3, .int .i64 0, .int .i64 x3.role, .int .i64 x3.boss, .slice VA3 x3.votes.length VC3, .slice NA3 x3.next.length NC3, .slice MA3 x3.mtch.length MC3]) (by simp [results, Try.results29, go_sem, q0, q1, q2, q3, q4, q5, q6, q7, q8, q9, q10]) rfl ?_
  exact ⟨⟨{ x3 with commit := 0 }, .slice LA3 x3.log.length LC3, .slice VA3 x3.votes.length VC3, .slice NA3 x3.next.length NC3, .slice MA3 x3.mtch.length MC3⟩, rfl, by rw [HE.out, HFO.out, HX3.out], FIN.out.1, FIN.out.2⟩
end Go.Proofs.Ytibjbpakbfodaaa
