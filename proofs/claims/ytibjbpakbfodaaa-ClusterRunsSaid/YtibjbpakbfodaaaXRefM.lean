/- The document's answer, chapter 15: a leader hears of what somebody has. -/
import Derived.Test.YtibjbpakbfodaaaXRefL
import Derived.Test.YtibjbpakbfodaaaXFirst
namespace Go.Proofs.Ytibjbpakbfodaaa
open Go.RowKit

/-- What a leader makes of what somebody tells it of its own term. -/
def heardP (x : Nod) (m : Mes) : Nod × List Mes :=
  if m.yes then (hears x m, if at_ (hears x m).next m.src ≤ x.log.length then [sends (hears x m) m.src] else []) else (backs x m, [sends (backs x m) m.src])

theorem Boxed.both2 {w wx wy wr wf : World} {Q : Nat → Prop} {B r : Nat} {x : NodV} {y : Nod} {lv vv nv mv ov : Value} {out : List MesV} (h : Boxed w Q B r x wx) (hy : Boxed w Q B r ⟨y, lv, vv, nv, mv⟩ wy)
    (hr : Keeps (fun k => k = r) wy wr) (hk : Keeps Free wr wf) (hms : MsgsOk wf (fun k => k < wx.heap.size) ov out) :
    HandsR w Q y (said out) (.returned (.tuple #[.agg #[.int .i64 y.id, .int .i64 y.n, .int .i64 y.term, .int .i64 y.vote, lv, .int .i64 y.commit, .int .i64 y.role, .int .i64 y.boss, vv, nv, mv], ov])) wf := by
  have h4 := h.keeps.size
  obtain ⟨h5, h6⟩ := hy.done hr
  exact ⟨⟨y, lv, vv, nv, mv⟩, ov, out, rfl, rfl, rfl, h5.into hk (fun _ _ h => h.elim) (fun _ _ h => h), hms.weak fun k _ h => by omega, h6.trans hk (fun _ h => .inl h)⟩

set_option maxRecDepth 100000 in
set_option maxHeartbeats 16000000 in
theorem heardR_any {w : World} {Q : Nat → Prop} {x : NodV} {m : MesV} (h : NodeOk w Q x) (hQ : ∀ k, Q k → k < w.heap.size) (hm : MesOk w Free m) (g : Good x.n) (hr : x.n.role = 3) (hs1 : 1 ≤ m.m.src) (hsn : m.m.src ≤ x.n.n) (hi0 : 0 ≤ m.m.index) (hi6 : m.m.index ≤ 60) :
    Calls Try.prog 78 #[.agg (nodCells x).toArray, .agg (mesCells m).toArray] w (HandsR w Q (heardP x.n m.m).1 (heardP x.n m.m).2) := by
  have H := Lib.hid h; have HQ := Lib.hid hQ; have HG := Lib.hid g
  obtain ⟨hfit, hmt⟩ := g.fit hr
  have hl := g.log60
  have ht1 : 1 ≤ x.n.term := by have := g.fresh (by omega); have := g.term0; omega
  obtain ⟨n, lv, vv, nv, mv⟩ := x
  obtain ⟨LA, LC, VA, VC, NA, NC, MA, MC, rfl, rfl, rfl, rfl⟩ := h.shape
  obtain ⟨m, iv⟩ := m
  obtain ⟨IA, IC, hiv⟩ := hm.shape
  simp only at hiv hfit hmt hl ht1 hs1 hsn hi0 hi6 HG hr
  subst hiv
  obtain ⟨j, hj⟩ : ∃ j : Nat, m.src = (j : Int) + 1 := ⟨(m.src - 1).toNat, by omega⟩
  have HSJ := Lib.hid hj
  have hnl := hfit.nl; have hml := hfit.ml; have hn5 := hfit.n5; have hnn := hfit.n
  have hjn : j < n.next.length := by omega
  have hjm : j < n.mtch.length := by omega
  have hnq := hfit.nq j hjn
  have hmq := hmt j hjm
  have HNL5 := Lib.hid (show n.next.length ≤ 5 by omega)
  have HF := Lib.hid hfit
  have hnx : at_ n.next m.src = n.next[j] := by unfold at_; rw [hj, show ((j : Int) + 1 - 1).toNat = j from by omega, List.getElem?_eq_getElem hjn]; rfl
  have hmx : at_ n.mtch m.src = n.mtch[j] := by unfold at_; rw [hj, show ((j : Int) + 1 - 1).toNat = j from by omega, List.getElem?_eq_getElem hjm]; rfl
  have HNX := Lib.hid hnx; have HMX := Lib.hid hmx
  have HT1 := Lib.hid ht1
  have hj5 : j < 5 := by omega
  have hwj : IntKind.i64.wrap (j : Int) = (j : Int) := IntWalk.i64_in _ (by omega)
  clear h hm hQ g hfit hmt hnx hmx hj hnn hr hs1 hsn hnl hml ht1
  simp only [nodCells, mesCells]
  go_enter Try.func78, Try.ntmps78
  go_upto_region 1 with fail
  obtain ⟨k0, k1, k2⟩ := two_boxes w (.cells #[.int .i64 n.id, .int .i64 n.n, .int .i64 n.term, .int .i64 n.vote, .slice LA n.log.length LC, .int .i64 n.commit, .int .i64 n.role, .int .i64 n.boss, .slice VA n.votes.length VC, .slice NA n.next.length NC, .slice MA n.mtch.length MC] 25) (.cells #[.int .i64 m.kind, .int .i64 m.src, .int .i64 m.dst, .int .i64 m.term, .int .i64 m.index, .int .i64 m.logTerm, .int .i64 m.commit, .slice IA m.items.length IC, .bool m.yes] 38)
  have k3 := (Keeps.refl Free ((w.alloc (.cells #[.int .i64 n.id, .int .i64 n.n, .int .i64 n.term, .int .i64 n.vote, .slice LA n.log.length LC, .int .i64 n.commit, .int .i64 n.role, .int .i64 n.boss, .slice VA n.votes.length VC, .slice NA n.next.length NC, .slice MA n.mtch.length MC] 25)).alloc (.cells #[.int .i64 m.kind, .int .i64 m.src, .int .i64 m.dst, .int .i64 m.term, .int .i64 m.index, .int .i64 m.logTerm, .int .i64 m.commit, .slice IA m.items.length IC, .bool m.yes] 38))).alloc (.cells zero11 25)
  have k4 := heap_alloc_new ((w.alloc (.cells #[.int .i64 n.id, .int .i64 n.n, .int .i64 n.term, .int .i64 n.vote, .slice LA n.log.length LC, .int .i64 n.commit, .int .i64 n.role, .int .i64 n.boss, .slice VA n.votes.length VC, .slice NA n.next.length NC, .slice MA n.mtch.length MC] 25)).alloc (.cells #[.int .i64 m.kind, .int .i64 m.src, .int .i64 m.dst, .int .i64 m.term, .int .i64 m.index, .int .i64 m.logTerm, .int .i64 m.commit, .slice IA m.items.length IC, .bool m.yes] 38)) (.cells zero11 25)
  simp only [World.size_alloc] at k4
  obtain ⟨w2, hw2⟩ : ∃ w2, ((w.alloc (.cells #[.int .i64 n.id, .int .i64 n.n, .int .i64 n.term, .int .i64 n.vote, .slice LA n.log.length LC, .int .i64 n.commit, .int .i64 n.role, .int .i64 n.boss, .slice VA n.votes.length VC, .slice NA n.next.length NC, .slice MA n.mtch.length MC] 25)).alloc (.cells #[.int .i64 m.kind, .int .i64 m.src, .int .i64 m.dst, .int .i64 m.term, .int .i64 m.index, .int .i64 m.logTerm, .int .i64 m.commit, .slice IA m.items.length IC, .bool m.yes] 38)).alloc (.cells zero11 25) = w2 := ⟨_, rfl⟩
  have k0 := k0.trans k3 (fun _ h => .inl h)
  have k1 := k3.blk k1
  have k2 := k3.blk k2
  clear k3
  rw [hw2] at k0 k1 k2 k4 ⊢
  have HBX := Lib.hid (show Boxed w Q w.heap.size (w.heap.size + 1 + 1) _ _ from Boxed.start H.out HQ.out k0 (by omega) k1 k4)
  have HMB := Lib.hid k2
  have hlt := laid_lt k4
  obtain ⟨b0, b1, b2, b3, b4, b5, b6, b7, b8, b9, b10, bf⟩ := cells11 k1
  obtain ⟨d0, d1, d2, d3, d4, d5, d6, d7, d8, df⟩ := cells9l k2
  obtain ⟨r0, r1, r2, r3, r4, r5, r6, r7, r8, r9, r10, rf⟩ := cells11 k4
  obtain ⟨B, hB⟩ : ∃ B, w.heap.size = B := ⟨_, rfl⟩
  simp only [hB] at HBX HMB hlt b0 b1 b2 b3 b4 b5 b6 b7 b8 b9 b10 bf d0 d1 d2 d3 d4 d5 d6 d7 d8 df r0 r1 r2 r3 r4 r5 r6 r7 r8 r9 r10 rf ⊢
  clear k0 k1 k2 k4 hw2
  rw [HSJ.out] at d1
  obtain ⟨nb, no, hna, -, c1⟩ := Sl.int (show Sl w2 Free (.slice NA n.next.length NC) 1 (intCells n.next) from HBX.out.free.next) hjn
  obtain ⟨mb, mo, hma, -, c2⟩ := Sl.int (show Sl w2 Free (.slice MA n.mtch.length MC) 1 (intCells n.mtch) from HBX.out.free.mtch) hjm
  subst hna hma
  have hjn' : (j : Int) < (n.next.length : Int) := by omega
  have hjm' : (j : Int) < (n.mtch.length : Int) := by omega
  have hrl := HBX.out.rlt
  cases hy : m.yes
  case false =>
    have HP := Lib.hid (show heardP n m = (backs n m, [sends (backs n m) m.src]) by unfold heardP; rw [hy]; rfl)
    obtain ⟨nx, hnx⟩ : ∃ nx, n.next[j] = nx := ⟨_, rfl⟩
    rw [hnx] at c1 hnq HNX
    clear c2 hmq hnx
    rw [hy] at d8
    have hwa : IntKind.i64.wrap (nx - 1) = nx - 1 := IntWalk.i64_in _ (by omega)
    have hwb : IntKind.i64.wrap (m.index + 1) = m.index + 1 := IntWalk.i64_in _ (by omega)
    go_upto_if 25 with fail
    go_cut [7] (fun s wx => s = .int .i64 (min (nx - 1) (m.index + 1)) ∧ wx = w2)
    case first =>
      by_cases hA : m.index + 1 < nx - 1
      · go_wp2_with fail
        go_meet
        exact ⟨by rw [Int.min_eq_right (by omega)], rfl⟩
      · go_wp2_with fail
        go_meet
        exact ⟨by rw [Int.min_eq_left (by omega)], rfl⟩
    case rest =>
      obtain ⟨rfl, rfl⟩ := hcut
      obtain ⟨mn, hmn⟩ : ∃ mn, min (nx - 1) (m.index + 1) = mn := ⟨_, rfl⟩
      rw [hmn]
      have hmb : 0 ≤ mn ∧ mn ≤ n.log.length := by omega
      have HMN := Lib.hid hmn
      clear hmn
      go_upto_if 30 with fail
      go_cut [7] (fun s wx => s = .int .i64 (max 1 mn) ∧ wx = wc)
      case first =>
        by_cases hA : mn < 1
        · go_wp2_with fail
          go_meet
          exact ⟨by rw [Int.max_eq_left (by omega)], rfl⟩
        · go_wp2_with fail
          go_meet
          exact ⟨by rw [Int.max_eq_right (by omega)], rfl⟩
      case rest =>
        rename_i wo
        obtain ⟨rfl, rfl⟩ := hcut
        obtain ⟨q, hq⟩ : ∃ q : Nat, max 1 mn = (q : Int) + 1 := ⟨(max 1 mn - 1).toNat, by omega⟩
        have hql : q ≤ n.log.length := by omega
        have hbk : backs n m = { n with next := n.next.set j ((q : Int) + 1) } := by unfold backs; rw [HNX.out, HMN.out, hq, HSJ.out, show ((j : Int) + 1 - 1).toNat = j from by omega]
        rw [hq]
        have HBK := Lib.hid hbk
        have hwith := with_any (HBX.out.ok.next) j hjn (by simp only; have := HNL5.out; omega) ((q : Int) + 1)
        simp only at hwith
        have HWI := Lib.hid hwith
        clear hwith hbk hq c1
        go_upto_region 9 with (first
          | (go_at_call 93
             refine HWI.out.mono ?_
             rintro e w3 ⟨A3, C3, rfl, hs3, hk3⟩
             have hb3 := HBX.out.later hk3
             have hm3 := hk3.blk HMB.out
             clear d0 d1 d2 d3 d4 d5 d6 d7 d8 df b0 b1 b2 b3 b4 b5 b6 b7 b8 b9 b10 bf r0 r1 r2 r3 r4 r5 r6 r7 r8 r9 r10 rf
             obtain ⟨b0, b1, b2, b3, b4, b5, b6, b7, b8, b9, b10, bf⟩ := cells11 hb3.blk
             simp only at b0 b1 b2 b3 b4 b5 b6 b7 b8 b9 b10))
        have hs3' : Sl w3 (fun k => Q k ∨ (B ≤ k ∧ k ≤ B + 1 + 1)) (.slice A3 n.next.length C3) 1 (intCells (n.next.set j ((q : Int) + 1))) := hs3.weak fun k _ h => HBX.out.oldS k h
        have hb4 := hb3.set 9 (.slice A3 n.next.length C3) ⟨{ n with next := n.next.set j ((q : Int) + 1) }, .slice LA n.log.length LC, .slice VA n.votes.length VC, .slice A3 n.next.length C3, .slice (some ⟨mb, mo, none⟩) n.mtch.length MC⟩ rfl ⟨hb3.ok.log, hb3.ok.votes, hs3', hb3.ok.mtch⟩
        have hm4 := (Below.heap_setCell w3 ⟨B, 9, none⟩ (.slice A3 n.next.length C3) (B + 1) (by simp)).trans hm3
        obtain ⟨w4, hw4⟩ : ∃ w4, w3.setCell ⟨B, 9, none⟩ (.slice A3 n.next.length C3) = w4 := ⟨_, rfl⟩
        rw [hw4] at hb4 hm4 ⊢
        clear b0 b1 b2 b3 b4 b5 b6 b7 b8 b9 b10 bf hw4 hs3 hs3' hb3 hk3 hm3 HWI
        rw [← HBK.out] at hb4
        have HB4 := Lib.hid hb4; have HM4 := Lib.hid hm4
        have HQN := Lib.hid (show ∃ (_ : j < (backs n m).next.length), (backs n m).next[j] = (q : Int) + 1 ∧ q ≤ (backs n m).log.length ∧ (backs n m).log.length ≤ 60 ∧ (backs n m).next.length ≤ 5 by
          rw [HBK.out]
          exact ⟨by simp only [List.length_set]; exact hjn, by simp, hql, hl, by simp only [List.length_set]; exact HNL5.out⟩)
        clear hb4 hm4
        generalize backs n m = y at *
        refine Wg.wp_region_first (C := fun w' => Keeps (fun k => k = B + 1 + 1) w4 w') (by kernel_rfl) 99 ?_
        have HKF := Lib.hid (show Keeps Free w4 { w4 with drawn := w4.drawn + 1 } from (Keeps.refl Free w4).drew)
        obtain ⟨W, hW⟩ : ∃ W : World, W = { w4 with drawn := w4.drawn + 1 } := ⟨_, rfl⟩
        rw [← hW] at HKF ⊢
        clear hW
        have HKW := Lib.hid (HKF.out.mono (S' := fun k => k = B + 1 + 1) (fun _ h => h.elim))
        apply Wg.wpAnyP_stays (by kernel_rfl) [0, 1, 2, 3] _ _ _ 4 _ HKW.out (by kernel_rfl) ?hs ?hr
        case hs =>
          apply Wg.wpStays_step rfl rfl
          · intro w' hw'
            have hbw := (hw'.block B (laid_lt HB4.out.blk) (by omega)).trans HB4.out.blk
            have hmw := (hw'.block (B + 1) (laid_lt HM4.out) (by omega)).trans HM4.out
            obtain ⟨e0, e1, e2, e3, e4, e5, e6, e7, e8, e9, e10, ef⟩ := cells11 hbw
            obtain ⟨d0, d1, d2, d3, d4, d5, d6, d7, d8, df⟩ := cells9l hmw
            clear hw' hbw hmw
            simp only at e0 e1 e2 e3 e4 e5 e6 e7 e8 e9 e10
            rw [HSJ.out] at d1
            go_simp
            exact ⟨rfl, rfl⟩
          go_simp
          apply Wg.wpStays_step rfl rfl
          · intro w' hw'
            have hbw := (hw'.block B (laid_lt HB4.out.blk) (by omega)).trans HB4.out.blk
            have hmw := (hw'.block (B + 1) (laid_lt HM4.out) (by omega)).trans HM4.out
            obtain ⟨e0, e1, e2, e3, e4, e5, e6, e7, e8, e9, e10, ef⟩ := cells11 hbw
            obtain ⟨d0, d1, d2, d3, d4, d5, d6, d7, d8, df⟩ := cells9l hmw
            clear hw' hbw hmw
            simp only at e0 e1 e2 e3 e4 e5 e6 e7 e8 e9 e10
            rw [HSJ.out] at d1
            go_simp
            exact ⟨rfl, rfl⟩
          go_simp
          apply Wg.wpStays_step rfl rfl
          · intro w' hw'
            have hbw := (hw'.block B (laid_lt HB4.out.blk) (by omega)).trans HB4.out.blk
            have hmw := (hw'.block (B + 1) (laid_lt HM4.out) (by omega)).trans HM4.out
            obtain ⟨e0, e1, e2, e3, e4, e5, e6, e7, e8, e9, e10, ef⟩ := cells11 hbw
            obtain ⟨d0, d1, d2, d3, d4, d5, d6, d7, d8, df⟩ := cells9l hmw
            clear hw' hbw hmw
            simp only at e0 e1 e2 e3 e4 e5 e6 e7 e8 e9 e10
            rw [HSJ.out] at d1
            go_simp
            exact ⟨rfl, rfl⟩
          go_simp
          apply Wg.wpStays_step rfl rfl
          · intro w' hw'
            have hbw := (hw'.block B (laid_lt HB4.out.blk) (by omega)).trans HB4.out.blk
            have hmw := (hw'.block (B + 1) (laid_lt HM4.out) (by omega)).trans HM4.out
            obtain ⟨e0, e1, e2, e3, e4, e5, e6, e7, e8, e9, e10, ef⟩ := cells11 hbw
            obtain ⟨d0, d1, d2, d3, d4, d5, d6, d7, d8, df⟩ := cells9l hmw
            clear hw' hbw hmw
            simp only at e0 e1 e2 e3 e4 e5 e6 e7 e8 e9 e10
            rw [HSJ.out] at d1
            go_simp
            exact ⟨rfl, rfl⟩
          go_simp
          exact rfl
        case hr =>
          apply Wg.wpAnyP_one (i := 4) (fuel := 3) (by kernel_rfl) rfl rfl
          obtain ⟨hq1, hq2, hq3, hq4, hq5⟩ := HQN.out
          have hbat := batch_any (HB4.out.later HKF.out).free j q (by simp only; exact hq1) (by simp only; exact hq2) (by simp only; exact hq3) (by simp only; exact hq4) (by simp only; exact hq5)
          simp only [nodCells] at hbat
          go_simp
          refine hbat.mono ?_
          rintro e w9 ⟨⟨mm, iv⟩, rfl, hmm, hmo, hk9⟩
          obtain ⟨JA, JC, hiv⟩ := hmo.shape
          simp only at hiv hmm
          subst hiv
          have HB9 := Lib.hid ((HB4.out.later HKF.out).later hk9)
          have HK9 := Lib.hid (HKW.out.trans hk9 (fun _ h => h.elim))
          have HMM := Lib.hid hmm; have HMO := Lib.hid hmo
          have hW2 := HKF.out.size
          have hrl := HB4.out.rlt
          have hwl := HB4.out.le
          have hw9 := hk9.size
          clear hmm hmo hbat hk9
          simp only [mesCells]
          refine ⟨_, rfl, HK9.out, ?_⟩
          go_simp
          apply Wg.wpAnyP_two (i := 5) (k := 6) (fuel := 2) (by kernel_rfl) rfl rfl rfl rfl
          · skip
            go_simp
            refine ⟨HK9.out.alloc _, ?_⟩
            have hka := (Keeps.refl Free w9).alloc (.cells #[.int .i64 mm.kind, .int .i64 mm.src, .int .i64 mm.dst, .int .i64 mm.term, .int .i64 mm.index, .int .i64 mm.logTerm, .int .i64 mm.commit, .slice JA mm.items.length JC, .bool mm.yes] 38)
            have hga := heap_alloc_new w9 (.cells #[.int .i64 mm.kind, .int .i64 mm.src, .int .i64 mm.dst, .int .i64 mm.term, .int .i64 mm.index, .int .i64 mm.logTerm, .int .i64 mm.commit, .slice JA mm.items.length JC, .bool mm.yes] 38)
            have hkc := HK9.out.alloc (.cells #[.int .i64 mm.kind, .int .i64 mm.src, .int .i64 mm.dst, .int .i64 mm.term, .int .i64 mm.index, .int .i64 mm.logTerm, .int .i64 mm.commit, .slice JA mm.items.length JC, .bool mm.yes] 38)
            obtain ⟨wa, hwa2⟩ : ∃ wa, w9.alloc (.cells #[.int .i64 mm.kind, .int .i64 mm.src, .int .i64 mm.dst, .int .i64 mm.term, .int .i64 mm.index, .int .i64 mm.logTerm, .int .i64 mm.commit, .slice JA mm.items.length JC, .bool mm.yes] 38) = wa := ⟨_, rfl⟩
            obtain ⟨ga, hga2⟩ : ∃ ga, w9.heap.size = ga := ⟨_, rfl⟩
            rw [hwa2] at hka hga hkc ⊢
            rw [hga2] at hga ⊢
            have HBA := Lib.hid (HB9.out.later hka)
            have HKC := Lib.hid hkc; have HGA := Lib.hid hga; have HKA := Lib.hid hka
            have HMA := Lib.hid (show MsgsOk wa (fun k => k < W.heap.size) (.slice (some ⟨ga, 0, none⟩) 1 1) [⟨mm, .slice JA mm.items.length JC⟩] from
              ⟨by
                have h1 := one_slice (S := fun k => k < W.heap.size) (size := 9) hga rfl (by omega)
                exact h1, fun s hs => by
                simp only [List.mem_singleton] at hs
                subst hs
                exact HMO.out.into hka (fun _ _ h => h.elim) (fun _ _ h => h)⟩)
            clear hka hga hkc hwa2
            obtain ⟨wr, hwr, hrb, hrk⟩ := put11l (v0 := .int .i64 y.id) (v1 := .int .i64 y.n) (v2 := .int .i64 y.term) (v3 := .int .i64 y.vote) (v4 := .slice LA n.log.length LC) (v5 := .int .i64 y.commit) (v6 := .int .i64 y.role) (v7 := .int .i64 y.boss) (v8 := .slice VA n.votes.length VC) (v9 := .slice A3 n.next.length C3) (v10 := .slice (some ⟨mb, mo, none⟩) n.mtch.length MC) HBA.out.res rfl
            obtain ⟨r0, r1, r2, r3, r4, r5, r6, r7, r8, r9, r10, rf⟩ := cells11 HBA.out.res
            apply Wg.wpAnyP_one (i := 6) (fuel := 1) (by kernel_rfl) rfl rfl
            go_simp
            first | rw [hwr] | skip
            have HKR := Lib.hid (HKC.out.trans hrk (fun _ h => .inl h))
            refine ⟨HKR.out, ?_⟩
            apply Wg.wpAnyP_one (i := 7) (fuel := 0) (by kernel_rfl) rfl rfl
            go_simp
            refine ⟨HKR.out, ?_⟩
            refine ⟨by kernel_rfl, ?_⟩
            clear r0 r1 r2 r3 r4 r5 r6 r7 r8 r9 r10 rf hwr
            obtain ⟨q0, q1, q2, q3, q4, q5, q6, q7, q8, q9, q10, qf⟩ := cells11 hrb
            have FIN := Lib.hid ((HB4.out.later HKF.out).both (y := y) HBA.out HMA.out hrk)
            clear hrb hrk
            go_wp2_with fail
            refine bodyPost_ret (v := .tuple #[.agg #[.int .i64 y.id, .int .i64 y.n, .int .i64 y.term, .int .i64 y.vote, .slice LA n.log.length LC, .int .i64 y.commit, .int .i64 y.role, .int .i64 y.boss, .slice VA n.votes.length VC, .slice A3 n.next.length C3, .slice (some ⟨mb, mo, none⟩) n.mtch.length MC], .slice (some ⟨ga, 0, none⟩) 1 1]) (by simp [results, Try.results78, go_sem, q0, q1, q2, q3, q4, q5, q6, q7, q8, q9, q10]) rfl ?_
            rw [HP.out]
            have e : said [(⟨mm, .slice JA mm.items.length JC⟩ : MesV)] = [sends y m.src] := by rw [HSJ.out, ← HMM.out]; rfl
            rw [← e]
            exact FIN.out
          · skip
            obtain ⟨wr, hwr, hrb, hrk⟩ := put11l (v0 := .int .i64 y.id) (v1 := .int .i64 y.n) (v2 := .int .i64 y.term) (v3 := .int .i64 y.vote) (v4 := .slice LA n.log.length LC) (v5 := .int .i64 y.commit) (v6 := .int .i64 y.role) (v7 := .int .i64 y.boss) (v8 := .slice VA n.votes.length VC) (v9 := .slice A3 n.next.length C3) (v10 := .slice (some ⟨mb, mo, none⟩) n.mtch.length MC) HB9.out.res rfl
            obtain ⟨r0, r1, r2, r3, r4, r5, r6, r7, r8, r9, r10, rf⟩ := cells11 HB9.out.res
            go_simp
            first | rw [hwr] | skip
            have HKR := Lib.hid (HK9.out.trans hrk (fun _ h => .inl h))
            refine ⟨HKR.out, ?_⟩
            clear r0 r1 r2 r3 r4 r5 r6 r7 r8 r9 r10 rf hwr
            apply Wg.wpAnyP_one (i := 5) (fuel := 1) (by kernel_rfl) rfl rfl
            go_simp
            refine ⟨HKR.out.alloc _, ?_⟩
            have hka := (Keeps.refl Free wr).alloc (.cells #[.int .i64 mm.kind, .int .i64 mm.src, .int .i64 mm.dst, .int .i64 mm.term, .int .i64 mm.index, .int .i64 mm.logTerm, .int .i64 mm.commit, .slice JA mm.items.length JC, .bool mm.yes] 38)
            have hga := heap_alloc_new wr (.cells #[.int .i64 mm.kind, .int .i64 mm.src, .int .i64 mm.dst, .int .i64 mm.term, .int .i64 mm.index, .int .i64 mm.logTerm, .int .i64 mm.commit, .slice JA mm.items.length JC, .bool mm.yes] 38)
            have hkc := HKR.out.alloc (.cells #[.int .i64 mm.kind, .int .i64 mm.src, .int .i64 mm.dst, .int .i64 mm.term, .int .i64 mm.index, .int .i64 mm.logTerm, .int .i64 mm.commit, .slice JA mm.items.length JC, .bool mm.yes] 38)
            obtain ⟨wa, hwa2⟩ : ∃ wa, wr.alloc (.cells #[.int .i64 mm.kind, .int .i64 mm.src, .int .i64 mm.dst, .int .i64 mm.term, .int .i64 mm.index, .int .i64 mm.logTerm, .int .i64 mm.commit, .slice JA mm.items.length JC, .bool mm.yes] 38) = wa := ⟨_, rfl⟩
            obtain ⟨ga, hga2⟩ : ∃ ga, wr.heap.size = ga := ⟨_, rfl⟩
            have hwr9 := hrk.size
            rw [hwa2] at hka hga hkc ⊢
            rw [hga2] at hga ⊢
            have HKC := Lib.hid hkc
            apply Wg.wpAnyP_one (i := 7) (fuel := 0) (by kernel_rfl) rfl rfl
            go_simp
            refine ⟨HKC.out, ?_⟩
            refine ⟨by kernel_rfl, ?_⟩
            have hma : MsgsOk wa (fun k => k < W.heap.size) (.slice (some ⟨ga, 0, none⟩) 1 1) [⟨mm, .slice JA mm.items.length JC⟩] :=
              ⟨by
                have h1 := one_slice (S := fun k => k < W.heap.size) (size := 9) hga rfl (by omega)
                exact h1, fun s hs => by
                simp only [List.mem_singleton] at hs
                subst hs
                exact (HMO.out.into hrk (fun k _ e => by omega) (fun _ _ h => h)).into hka (fun _ _ h => h.elim) (fun _ _ h => h)⟩
            obtain ⟨q0, q1, q2, q3, q4, q5, q6, q7, q8, q9, q10, qf⟩ := cells11 (hka.blk hrb)
            have FIN := Lib.hid ((HB4.out.later HKF.out).both2 (y := y) HB9.out hrk hka hma)
            clear hrb hrk hka hga hkc hma
            go_wp2_with fail
            refine bodyPost_ret (v := .tuple #[.agg #[.int .i64 y.id, .int .i64 y.n, .int .i64 y.term, .int .i64 y.vote, .slice LA n.log.length LC, .int .i64 y.commit, .int .i64 y.role, .int .i64 y.boss, .slice VA n.votes.length VC, .slice A3 n.next.length C3, .slice (some ⟨mb, mo, none⟩) n.mtch.length MC], .slice (some ⟨ga, 0, none⟩) 1 1]) (by simp [results, Try.results78, go_sem, q0, q1, q2, q3, q4, q5, q6, q7, q8, q9, q10]) rfl ?_
            rw [HP.out]
            have e : said [(⟨mm, .slice JA mm.items.length JC⟩ : MesV)] = [sends y m.src] := by rw [HSJ.out, ← HMM.out]; rfl
            rw [← e]
            exact FIN.out
  case true =>
    have HP := Lib.hid (show heardP n m = (hears n m, if at_ (hears n m).next m.src ≤ n.log.length then [sends (hears n m) m.src] else []) by unfold heardP; rw [hy]; rfl)
    obtain ⟨mx, hmx⟩ : ∃ mx, n.mtch[j] = mx := ⟨_, rfl⟩
    rw [hmx] at c2 hmq HMX
    clear c1 hnq hmx HNX
    rw [hy] at d8
    go_upto_if 49 with fail
    go_cut [8] (fun s wx => s = .int .i64 (min m.index (n.log.length : Int)) ∧ wx = w2)
    case first =>
      by_cases hA : (n.log.length : Int) < m.index
      · go_wp2_with fail
        go_meet
        exact ⟨by rw [Int.min_eq_right (by omega)], rfl⟩
      · go_wp2_with fail
        go_meet
        exact ⟨by rw [Int.min_eq_left (by omega)], rfl⟩
    case rest =>
      obtain ⟨rfl, rfl⟩ := hcut
      obtain ⟨mn, hmn⟩ : ∃ mn, min m.index (n.log.length : Int) = mn := ⟨_, rfl⟩
      rw [hmn]
      have hmb : 0 ≤ mn ∧ mn ≤ n.log.length := by omega
      have HMN := Lib.hid hmn
      clear hmn
      go_upto_if 59 with fail
      go_cut [8] (fun s wx => s = .int .i64 (max mx mn) ∧ wx = wc)
      case first =>
        by_cases hA : mn < mx
        · go_wp2_with fail
          go_meet
          exact ⟨by rw [Int.max_eq_left (by omega)], rfl⟩
        · go_wp2_with fail
          go_meet
          exact ⟨by rw [Int.max_eq_right (by omega)], rfl⟩
      case rest =>
        obtain ⟨rfl, rfl⟩ := hcut
        obtain ⟨q, hq⟩ : ∃ q : Nat, max mx mn = (q : Int) := ⟨(max mx mn).toNat, by omega⟩
        have hql : q ≤ n.log.length := by omega
        have hhe : hears n m = sure { n with mtch := n.mtch.set j (q : Int), next := n.next.set j ((q : Int) + 1) } := by unfold hears; rw [HMX.out, HMN.out, hq, HSJ.out, show ((j : Int) + 1 - 1).toNat = j from by omega]
        rw [hq]
        have HHE := Lib.hid hhe
        have hwq : IntKind.i64.wrap ((q : Int) + 1) = (q : Int) + 1 := IntWalk.i64_in _ (by omega)
        clear hhe hq c2 hmb hmq
        go_upto_region 15 with fail
        clear d0 d1 d2 d3 d4 d5 d6 d7 d8 df b0 b1 b2 b3 b4 b5 b6 b7 b8 b9 b10 bf r0 r1 r2 r3 r4 r5 r6 r7 r8 r9 r10 rf
        refine Wg.wp_region_first (C := fun w' => Keeps Free wc w') (by kernel_rfl) 12 ?_
        have HKF := Lib.hid (show Keeps Free wc { wc with drawn := wc.drawn + 1 } from (Keeps.refl Free wc).drew)
        obtain ⟨W, hW⟩ : ∃ W : World, W = { wc with drawn := wc.drawn + 1 } := ⟨_, rfl⟩
        rw [← hW] at HKF ⊢
        clear hW
        apply Wg.wpAnyP_stays (by kernel_rfl) [0, 1, 2, 3, 5, 6, 7, 8, 9] _ _ _ 6 _ HKF.out (by kernel_rfl) ?hs ?hr
        case hs =>
          apply Wg.wpStays_step rfl rfl
          · intro w' hw'
            obtain ⟨e0, e1, e2, e3, e4, e5, e6, e7, e8, e9, e10, ef⟩ := cells11 (Keeps.blk hw' HBX.out.blk)
            simp only at e0 e1 e2 e3 e4 e5 e6 e7 e8 e9 e10
            clear hw'
            go_simp
            exact ⟨rfl, rfl⟩
          go_simp
          apply Wg.wpStays_step rfl rfl
          · intro w' hw'
            obtain ⟨e0, e1, e2, e3, e4, e5, e6, e7, e8, e9, e10, ef⟩ := cells11 (Keeps.blk hw' HBX.out.blk)
            simp only at e0 e1 e2 e3 e4 e5 e6 e7 e8 e9 e10
            clear hw'
            go_simp
            exact ⟨rfl, rfl⟩
          go_simp
          apply Wg.wpStays_step rfl rfl
          · intro w' hw'
            obtain ⟨e0, e1, e2, e3, e4, e5, e6, e7, e8, e9, e10, ef⟩ := cells11 (Keeps.blk hw' HBX.out.blk)
            simp only at e0 e1 e2 e3 e4 e5 e6 e7 e8 e9 e10
            clear hw'
            go_simp
            exact ⟨rfl, rfl⟩
          go_simp
          apply Wg.wpStays_step rfl rfl
          · intro w' hw'
            obtain ⟨e0, e1, e2, e3, e4, e5, e6, e7, e8, e9, e10, ef⟩ := cells11 (Keeps.blk hw' HBX.out.blk)
            simp only at e0 e1 e2 e3 e4 e5 e6 e7 e8 e9 e10
            clear hw'
            go_simp
            exact ⟨rfl, rfl⟩
          go_simp
          apply Wg.wpStays_step rfl rfl
          · intro w' hw'
            obtain ⟨e0, e1, e2, e3, e4, e5, e6, e7, e8, e9, e10, ef⟩ := cells11 (Keeps.blk hw' HBX.out.blk)
            simp only at e0 e1 e2 e3 e4 e5 e6 e7 e8 e9 e10
            clear hw'
            go_simp
            exact ⟨rfl, rfl⟩
          go_simp
          apply Wg.wpStays_step rfl rfl
          · intro w' hw'
            obtain ⟨e0, e1, e2, e3, e4, e5, e6, e7, e8, e9, e10, ef⟩ := cells11 (Keeps.blk hw' HBX.out.blk)
            simp only at e0 e1 e2 e3 e4 e5 e6 e7 e8 e9 e10
            clear hw'
            go_simp
            exact ⟨rfl, rfl⟩
          go_simp
          apply Wg.wpStays_step rfl rfl
          · intro w' hw'
            obtain ⟨e0, e1, e2, e3, e4, e5, e6, e7, e8, e9, e10, ef⟩ := cells11 (Keeps.blk hw' HBX.out.blk)
            simp only at e0 e1 e2 e3 e4 e5 e6 e7 e8 e9 e10
            clear hw'
            go_simp
            exact ⟨rfl, rfl⟩
          go_simp
          apply Wg.wpStays_step rfl rfl
          · intro w' hw'
            obtain ⟨e0, e1, e2, e3, e4, e5, e6, e7, e8, e9, e10, ef⟩ := cells11 (Keeps.blk hw' HBX.out.blk)
            simp only at e0 e1 e2 e3 e4 e5 e6 e7 e8 e9 e10
            clear hw'
            go_simp
            exact ⟨rfl, rfl⟩
          go_simp
          apply Wg.wpStays_step rfl rfl
          · intro w' hw'
            obtain ⟨e0, e1, e2, e3, e4, e5, e6, e7, e8, e9, e10, ef⟩ := cells11 (Keeps.blk hw' HBX.out.blk)
            simp only at e0 e1 e2 e3 e4 e5 e6 e7 e8 e9 e10
            clear hw'
            go_simp
            exact ⟨rfl, rfl⟩
          go_simp
          exact rfl
        case hr =>
          apply Wg.wpAnyP_one (i := 4) (fuel := 5) (by kernel_rfl) rfl rfl
          have hw5 := with_any ((HBX.out.later HKF.out).ok.mtch) j hjm (by simp only; have := HF.out.ml; have := HF.out.n5; omega) (q : Int)
          simp only at hw5
          go_simp
          refine hw5.mono ?_
          rintro e w5 ⟨A5, C5, rfl, hs5, hk5⟩
          have HK5 := Lib.hid (HKF.out.trans hk5 (fun _ h => .inl h)); have HS5 := Lib.hid hs5
          have hz5 := HKF.out.size
          clear hk5 hs5 hw5
          refine ⟨_, rfl, HK5.out, ?_⟩
          go_simp
          apply Wg.wpAnyP_stays (by kernel_rfl) [11] _ _ _ 4 _ HK5.out (by kernel_rfl) ?hs ?hr
          case hs =>
            apply Wg.wpStays_step rfl rfl
            · intro w' hw'
              clear hw'
              go_simp
              exact ⟨rfl, rfl⟩
            go_simp
            exact rfl
          case hr =>
            apply Wg.wpAnyP_one (i := 10) (fuel := 3) (by kernel_rfl) rfl rfl
            have hw6 := with_any ((HBX.out.later HK5.out).ok.next) j hjn (by simp only; have := HNL5.out; omega) ((q : Int) + 1)
            simp only at hw6
            go_simp
            refine hw6.mono ?_
            rintro e w6 ⟨A6, C6, rfl, hs6, hk6⟩
            have HK6 := Lib.hid (HK5.out.trans hk6 (fun _ h => .inl h)); have HS6 := Lib.hid hs6
            have HS56 := Lib.hid (HS5.out.keep hk6 (fun _ _ h => h.elim))
            have hz6 := HK5.out.size
            clear hk6 hs6 hw6
            refine ⟨_, rfl, HK6.out, ?_⟩
            go_simp
            have hb6 := HBX.out.later HK6.out
            have hm6 := HK6.out.blk HMB.out
            have hs10 : Sl w6 (fun k => Q k ∨ (B ≤ k ∧ k ≤ B + 1 + 1)) (.slice A5 n.mtch.length C5) 1 (intCells (n.mtch.set j (q : Int))) := HS56.out.weak fun k _ h => by have := HBX.out.oldS k h; omega
            have hs9 : Sl w6 (fun k => Q k ∨ (B ≤ k ∧ k ≤ B + 1 + 1)) (.slice A6 n.next.length C6) 1 (intCells (n.next.set j ((q : Int) + 1))) := HS6.out.weak fun k _ h => by have := HBX.out.oldS k h; omega
            have hb7 := hb6.set 10 (.slice A5 n.mtch.length C5) ⟨{ n with mtch := n.mtch.set j (q : Int) }, .slice LA n.log.length LC, .slice VA n.votes.length VC, .slice (some ⟨nb, no, none⟩) n.next.length NC, .slice A5 n.mtch.length C5⟩ rfl ⟨hb6.ok.log, hb6.ok.votes, hb6.ok.next, hs10⟩
            have hb8 := hb7.set 9 (.slice A6 n.next.length C6) ⟨{ n with mtch := n.mtch.set j (q : Int), next := n.next.set j ((q : Int) + 1) }, .slice LA n.log.length LC, .slice VA n.votes.length VC, .slice A6 n.next.length C6, .slice A5 n.mtch.length C5⟩ rfl ⟨hb7.ok.log, hb7.ok.votes, hs9.into ((Keeps.refl (fun k => k = B) w6).setCell (p := ⟨B, 10, none⟩) (.inl rfl) _) (fun k _ e => .inr ⟨by omega, by omega⟩) (fun _ _ h => h), hb7.ok.mtch⟩
            have hm8 := (Below.heap_setCell (w6.setCell ⟨B, 10, none⟩ (.slice A5 n.mtch.length C5)) ⟨B, 9, none⟩ (.slice A6 n.next.length C6) (B + 1) (by simp)).trans ((Below.heap_setCell w6 ⟨B, 10, none⟩ (.slice A5 n.mtch.length C5) (B + 1) (by simp)).trans hm6)
            obtain ⟨b0, b1, b2, b3, b4, b5, b6, b7, b8, b9, b10, bf⟩ := cells11 hb6.blk
            simp only at b0 b1 b2 b3 b4 b5 b6 b7 b8 b9 b10
            have HB8 := Lib.hid hb8; have HM8 := Lib.hid hm8
            clear hb6 hb7 hb8 hs9 hs10 hm6 hm8
            apply Wg.wpAnyP_one (i := 12) (fuel := 2) (by kernel_rfl) rfl rfl
            go_simp
            first | refine ⟨trivial, ?_⟩ | skip
            apply Wg.wpAnyP_one (i := 13) (fuel := 1) (by kernel_rfl) rfl rfl
            go_simp
            first | refine ⟨trivial, ?_⟩ | skip
            apply Wg.wpAnyP_one (i := 14) (fuel := 0) (by kernel_rfl) rfl rfl
            go_simp
            first | refine ⟨trivial, ?_⟩ | skip
            refine ⟨by kernel_rfl, ?_⟩
            obtain ⟨w8, hw8⟩ : ∃ w8, (w6.setCell ⟨B, 10, none⟩ (.slice A5 n.mtch.length C5)).setCell ⟨B, 9, none⟩ (.slice A6 n.next.length C6) = w8 := ⟨_, rfl⟩
            rw [hw8] at HB8 HM8 ⊢
            clear hw8 HK6 HS6 HS56 HS5 HK5 b0 b1 b2 b3 b4 b5 b6 b7 b8 b9 b10 bf
            obtain ⟨b0, b1, b2, b3, b4, b5, b6, b7, b8, b9, b10, bf⟩ := cells11 HB8.out.blk
            have hsr := sureR_any HB8.out.ok (by simp only; exact hl) (by simp only [List.length_set]; have := HF.out.ml; have := HF.out.n5; omega) (by simp only; exact HG.out.commit0) (by simp only; exact HG.out.commitn) (by simp only; have := HG.out.n1; omega) (by simp only; exact HG.out.n5) (sureUp_rise (by simp only; exact HG.out.rise) (by simp only; exact HT1.out))
            rw [← HHE.out] at hsr
            simp only [nodCells] at hsr b0 b1 b2 b3 b4 b5 b6 b7 b8 b9 b10
            have HSR := Lib.hid hsr
            have hrl8 := HB8.out.rlt
            clear hsr
            go_upto_region 17 with (first
              | (go_at_call 94
                 refine HSR.out.mono ?_
                 rintro e w9 ⟨⟨y, lv3, vv3, nv3, mv3⟩, rfl, hy3, hok3, hk9⟩
                 obtain ⟨LA3, LC3, VA3, VC3, NA3, NC3, MA3, MC3, e1, e2, e3, e4⟩ := hok3.shape
                 simp only at e1 e2 e3 e4 hy3
                 subst e1 e2 e3 e4
                 have HY3 := Lib.hid hy3
                 clear b0 b1 b2 b3 b4 b5 b6 b7 b8 b9 b10 bf
                 have hb9 := HB8.out.later hk9
                 have hm9 := hk9.blk HM8.out
                 obtain ⟨wf, hwf, hfb, hfk⟩ := put11l (v0 := .int .i64 y.id) (v1 := .int .i64 y.n) (v2 := .int .i64 y.term) (v3 := .int .i64 y.vote) (v4 := .slice LA3 y.log.length LC3) (v5 := .int .i64 y.commit) (v6 := .int .i64 y.role) (v7 := .int .i64 y.boss) (v8 := .slice VA3 y.votes.length VC3) (v9 := .slice NA3 y.next.length NC3) (v10 := .slice MA3 y.mtch.length MC3) hb9.blk rfl
                 obtain ⟨b0, b1, b2, b3, b4, b5, b6, b7, b8, b9, b10, bf⟩ := cells11 hb9.blk
                 simp only at b0 b1 b2 b3 b4 b5 b6 b7 b8 b9 b10
                 have HB10 := Lib.hid (hb9.put (y := ⟨y, .slice LA3 y.log.length LC3, .slice VA3 y.votes.length VC3, .slice NA3 y.next.length NC3, .slice MA3 y.mtch.length MC3⟩) hfk hfb hok3)
                 have HM10 := Lib.hid ((hfk.block (B + 1) (laid_lt hm9) (by omega)).trans hm9)
                 clear hy3 hok3 hfk hb9 hm9))
            first | rw [hwf] | skip
            clear HSR hk9 b0 b1 b2 b3 b4 b5 b6 b7 b8 b9 b10 bf hfb hwf
            have hyl : y.log = n.log := by rw [HY3.out, HHE.out]; rfl
            have HQN := Lib.hid (show ∃ (_ : j < y.next.length), y.next[j] = (q : Int) + 1 ∧ q ≤ y.log.length ∧ y.log.length ≤ 60 ∧ y.next.length ≤ 5 by
              have hyn : y.next = n.next.set j ((q : Int) + 1) := by rw [HY3.out, HHE.out]; rfl
              rw [hyl]
              simp only [hyn]
              exact ⟨by simp only [List.length_set]; exact hjn, by simp, hql, hl, by simp only [List.length_set]; exact HNL5.out⟩)
            have hat : at_ y.next m.src = (q : Int) + 1 := by
              obtain ⟨h1, h2, _⟩ := HQN.out
              unfold at_; rw [HSJ.out, show ((j : Int) + 1 - 1).toNat = j from by omega, List.getElem?_eq_getElem h1, h2]; rfl
            have HYL := Lib.hid (congrArg List.length hyl); have HAT := Lib.hid hat
            obtain ⟨b0, b1, b2, b3, b4, b5, b6, b7, b8, b9, b10, bf⟩ := cells11 HB10.out.blk
            simp only at b0 b1 b2 b3 b4 b5 b6 b7 b8 b9 b10
            by_cases hlt2 : q < y.log.length
            · have HP2 := Lib.hid (show heardP n m = (y, [sends y m.src]) by rw [HP.out, ← HY3.out, HAT.out, if_pos (by rw [← HYL.out]; omega)])
              clear HP hyl hat HHE
              go_upto_region 18 with fail
              clear b0 b1 b2 b3 b4 b5 b6 b7 b8 b9 b10 bf
              refine Wg.wp_region_first (C := fun w' => Keeps (fun k => k = B + 1 + 1) wf w') (by kernel_rfl) 99 ?_
              have HKF := Lib.hid (show Keeps Free wf { wf with drawn := wf.drawn + 1 } from (Keeps.refl Free wf).drew)
              obtain ⟨W, hW⟩ : ∃ W : World, W = { wf with drawn := wf.drawn + 1 } := ⟨_, rfl⟩
              rw [← hW] at HKF ⊢
              clear hW
              have HKW := Lib.hid (HKF.out.mono (S' := fun k => k = B + 1 + 1) (fun _ h => h.elim))
              apply Wg.wpAnyP_stays (by kernel_rfl) [0, 1, 2, 3] _ _ _ 4 _ HKW.out (by kernel_rfl) ?hs ?hr
              case hs =>
                apply Wg.wpStays_step rfl rfl
                · intro w' hw'
                  have hbw := (hw'.block B (laid_lt HB10.out.blk) (by omega)).trans HB10.out.blk
                  have hmw := (hw'.block (B + 1) (laid_lt HM10.out) (by omega)).trans HM10.out
                  obtain ⟨e0, e1, e2, e3, e4, e5, e6, e7, e8, e9, e10, ef⟩ := cells11 hbw
                  obtain ⟨d0, d1, d2, d3, d4, d5, d6, d7, d8, df⟩ := cells9l hmw
                  clear hw' hbw hmw
                  simp only at e0 e1 e2 e3 e4 e5 e6 e7 e8 e9 e10
                  rw [HSJ.out] at d1
                  go_simp
                  exact ⟨rfl, rfl⟩
                go_simp
                apply Wg.wpStays_step rfl rfl
                · intro w' hw'
                  have hbw := (hw'.block B (laid_lt HB10.out.blk) (by omega)).trans HB10.out.blk
                  have hmw := (hw'.block (B + 1) (laid_lt HM10.out) (by omega)).trans HM10.out
                  obtain ⟨e0, e1, e2, e3, e4, e5, e6, e7, e8, e9, e10, ef⟩ := cells11 hbw
                  obtain ⟨d0, d1, d2, d3, d4, d5, d6, d7, d8, df⟩ := cells9l hmw
                  clear hw' hbw hmw
                  simp only at e0 e1 e2 e3 e4 e5 e6 e7 e8 e9 e10
                  rw [HSJ.out] at d1
                  go_simp
                  exact ⟨rfl, rfl⟩
                go_simp
                apply Wg.wpStays_step rfl rfl
                · intro w' hw'
                  have hbw := (hw'.block B (laid_lt HB10.out.blk) (by omega)).trans HB10.out.blk
                  have hmw := (hw'.block (B + 1) (laid_lt HM10.out) (by omega)).trans HM10.out
                  obtain ⟨e0, e1, e2, e3, e4, e5, e6, e7, e8, e9, e10, ef⟩ := cells11 hbw
                  obtain ⟨d0, d1, d2, d3, d4, d5, d6, d7, d8, df⟩ := cells9l hmw
                  clear hw' hbw hmw
                  simp only at e0 e1 e2 e3 e4 e5 e6 e7 e8 e9 e10
                  rw [HSJ.out] at d1
                  go_simp
                  exact ⟨rfl, rfl⟩
                go_simp
                apply Wg.wpStays_step rfl rfl
                · intro w' hw'
                  have hbw := (hw'.block B (laid_lt HB10.out.blk) (by omega)).trans HB10.out.blk
                  have hmw := (hw'.block (B + 1) (laid_lt HM10.out) (by omega)).trans HM10.out
                  obtain ⟨e0, e1, e2, e3, e4, e5, e6, e7, e8, e9, e10, ef⟩ := cells11 hbw
                  obtain ⟨d0, d1, d2, d3, d4, d5, d6, d7, d8, df⟩ := cells9l hmw
                  clear hw' hbw hmw
                  simp only at e0 e1 e2 e3 e4 e5 e6 e7 e8 e9 e10
                  rw [HSJ.out] at d1
                  go_simp
                  exact ⟨rfl, rfl⟩
                go_simp
                exact rfl
              case hr =>
                apply Wg.wpAnyP_one (i := 4) (fuel := 3) (by kernel_rfl) rfl rfl
                obtain ⟨hq1, hq2, hq3, hq4, hq5⟩ := HQN.out
                have hbat := batch_any (HB10.out.later HKF.out).free j q (by simp only; exact hq1) (by simp only; exact hq2) (by simp only; exact hq3) (by simp only; exact hq4) (by simp only; exact hq5)
                simp only [nodCells] at hbat
                go_simp
                refine hbat.mono ?_
                rintro e w9 ⟨⟨mm, iv⟩, rfl, hmm, hmo, hk9⟩
                obtain ⟨JA, JC, hiv⟩ := hmo.shape
                simp only at hiv hmm
                subst hiv
                have HB9 := Lib.hid ((HB10.out.later HKF.out).later hk9)
                have HK9 := Lib.hid (HKW.out.trans hk9 (fun _ h => h.elim))
                have HMM := Lib.hid hmm; have HMO := Lib.hid hmo
                have hW2 := HKF.out.size
                have hrl := HB10.out.rlt
                have hwl := HB10.out.le
                have hw9 := hk9.size
                clear hmm hmo hbat hk9
                simp only [mesCells]
                refine ⟨_, rfl, HK9.out, ?_⟩
                go_simp
                apply Wg.wpAnyP_two (i := 5) (k := 6) (fuel := 2) (by kernel_rfl) rfl rfl rfl rfl
                · skip
                  go_simp
                  refine ⟨HK9.out.alloc _, ?_⟩
                  have hka := (Keeps.refl Free w9).alloc (.cells #[.int .i64 mm.kind, .int .i64 mm.src, .int .i64 mm.dst, .int .i64 mm.term, .int .i64 mm.index, .int .i64 mm.logTerm, .int .i64 mm.commit, .slice JA mm.items.length JC, .bool mm.yes] 38)
                  have hga := heap_alloc_new w9 (.cells #[.int .i64 mm.kind, .int .i64 mm.src, .int .i64 mm.dst, .int .i64 mm.term, .int .i64 mm.index, .int .i64 mm.logTerm, .int .i64 mm.commit, .slice JA mm.items.length JC, .bool mm.yes] 38)
                  have hkc := HK9.out.alloc (.cells #[.int .i64 mm.kind, .int .i64 mm.src, .int .i64 mm.dst, .int .i64 mm.term, .int .i64 mm.index, .int .i64 mm.logTerm, .int .i64 mm.commit, .slice JA mm.items.length JC, .bool mm.yes] 38)
                  obtain ⟨wa, hwa2⟩ : ∃ wa, w9.alloc (.cells #[.int .i64 mm.kind, .int .i64 mm.src, .int .i64 mm.dst, .int .i64 mm.term, .int .i64 mm.index, .int .i64 mm.logTerm, .int .i64 mm.commit, .slice JA mm.items.length JC, .bool mm.yes] 38) = wa := ⟨_, rfl⟩
                  obtain ⟨ga, hga2⟩ : ∃ ga, w9.heap.size = ga := ⟨_, rfl⟩
                  rw [hwa2] at hka hga hkc ⊢
                  rw [hga2] at hga ⊢
                  have HBA := Lib.hid (HB9.out.later hka)
                  have HKC := Lib.hid hkc; have HGA := Lib.hid hga; have HKA := Lib.hid hka
                  have HMA := Lib.hid (show MsgsOk wa (fun k => k < W.heap.size) (.slice (some ⟨ga, 0, none⟩) 1 1) [⟨mm, .slice JA mm.items.length JC⟩] from
                    ⟨by
                      have h1 := one_slice (S := fun k => k < W.heap.size) (size := 9) hga rfl (by omega)
                      exact h1, fun s hs => by
                      simp only [List.mem_singleton] at hs
                      subst hs
                      exact HMO.out.into hka (fun _ _ h => h.elim) (fun _ _ h => h)⟩)
                  clear hka hga hkc hwa2
                  obtain ⟨wr, hwr, hrb, hrk⟩ := put11l (v0 := .int .i64 y.id) (v1 := .int .i64 y.n) (v2 := .int .i64 y.term) (v3 := .int .i64 y.vote) (v4 := .slice LA3 y.log.length LC3) (v5 := .int .i64 y.commit) (v6 := .int .i64 y.role) (v7 := .int .i64 y.boss) (v8 := .slice VA3 y.votes.length VC3) (v9 := .slice NA3 y.next.length NC3) (v10 := .slice MA3 y.mtch.length MC3) HBA.out.res rfl
                  obtain ⟨r0, r1, r2, r3, r4, r5, r6, r7, r8, r9, r10, rf⟩ := cells11 HBA.out.res
                  apply Wg.wpAnyP_one (i := 6) (fuel := 1) (by kernel_rfl) rfl rfl
                  go_simp
                  first | rw [hwr] | skip
                  have HKR := Lib.hid (HKC.out.trans hrk (fun _ h => .inl h))
                  refine ⟨HKR.out, ?_⟩
                  apply Wg.wpAnyP_one (i := 7) (fuel := 0) (by kernel_rfl) rfl rfl
                  go_simp
                  refine ⟨HKR.out, ?_⟩
                  refine ⟨by kernel_rfl, ?_⟩
                  clear r0 r1 r2 r3 r4 r5 r6 r7 r8 r9 r10 rf hwr
                  obtain ⟨q0, q1, q2, q3, q4, q5, q6, q7, q8, q9, q10, qf⟩ := cells11 hrb
                  have FIN := Lib.hid ((HB10.out.later HKF.out).both (y := y) HBA.out HMA.out hrk)
                  clear hrb hrk
                  go_wp2_with fail
                  refine bodyPost_ret (v := .tuple #[.agg #[.int .i64 y.id, .int .i64 y.n, .int .i64 y.term, .int .i64 y.vote, .slice LA3 y.log.length LC3, .int .i64 y.commit, .int .i64 y.role, .int .i64 y.boss, .slice VA3 y.votes.length VC3, .slice NA3 y.next.length NC3, .slice MA3 y.mtch.length MC3], .slice (some ⟨ga, 0, none⟩) 1 1]) (by simp [results, Try.results78, go_sem, q0, q1, q2, q3, q4, q5, q6, q7, q8, q9, q10]) rfl ?_
                  rw [HP2.out]
                  have e : said [(⟨mm, .slice JA mm.items.length JC⟩ : MesV)] = [sends y m.src] := by rw [HSJ.out, ← HMM.out]; rfl
                  rw [← e]
                  exact FIN.out
                · skip
                  obtain ⟨wr, hwr, hrb, hrk⟩ := put11l (v0 := .int .i64 y.id) (v1 := .int .i64 y.n) (v2 := .int .i64 y.term) (v3 := .int .i64 y.vote) (v4 := .slice LA3 y.log.length LC3) (v5 := .int .i64 y.commit) (v6 := .int .i64 y.role) (v7 := .int .i64 y.boss) (v8 := .slice VA3 y.votes.length VC3) (v9 := .slice NA3 y.next.length NC3) (v10 := .slice MA3 y.mtch.length MC3) HB9.out.res rfl
                  obtain ⟨r0, r1, r2, r3, r4, r5, r6, r7, r8, r9, r10, rf⟩ := cells11 HB9.out.res
                  go_simp
                  first | rw [hwr] | skip
                  have HKR := Lib.hid (HK9.out.trans hrk (fun _ h => .inl h))
                  refine ⟨HKR.out, ?_⟩
                  clear r0 r1 r2 r3 r4 r5 r6 r7 r8 r9 r10 rf hwr
                  apply Wg.wpAnyP_one (i := 5) (fuel := 1) (by kernel_rfl) rfl rfl
                  go_simp
                  refine ⟨HKR.out.alloc _, ?_⟩
                  have hka := (Keeps.refl Free wr).alloc (.cells #[.int .i64 mm.kind, .int .i64 mm.src, .int .i64 mm.dst, .int .i64 mm.term, .int .i64 mm.index, .int .i64 mm.logTerm, .int .i64 mm.commit, .slice JA mm.items.length JC, .bool mm.yes] 38)
                  have hga := heap_alloc_new wr (.cells #[.int .i64 mm.kind, .int .i64 mm.src, .int .i64 mm.dst, .int .i64 mm.term, .int .i64 mm.index, .int .i64 mm.logTerm, .int .i64 mm.commit, .slice JA mm.items.length JC, .bool mm.yes] 38)
                  have hkc := HKR.out.alloc (.cells #[.int .i64 mm.kind, .int .i64 mm.src, .int .i64 mm.dst, .int .i64 mm.term, .int .i64 mm.index, .int .i64 mm.logTerm, .int .i64 mm.commit, .slice JA mm.items.length JC, .bool mm.yes] 38)
                  obtain ⟨wa, hwa2⟩ : ∃ wa, wr.alloc (.cells #[.int .i64 mm.kind, .int .i64 mm.src, .int .i64 mm.dst, .int .i64 mm.term, .int .i64 mm.index, .int .i64 mm.logTerm, .int .i64 mm.commit, .slice JA mm.items.length JC, .bool mm.yes] 38) = wa := ⟨_, rfl⟩
                  obtain ⟨ga, hga2⟩ : ∃ ga, wr.heap.size = ga := ⟨_, rfl⟩
                  have hwr9 := hrk.size
                  rw [hwa2] at hka hga hkc ⊢
                  rw [hga2] at hga ⊢
                  have HKC := Lib.hid hkc
                  apply Wg.wpAnyP_one (i := 7) (fuel := 0) (by kernel_rfl) rfl rfl
                  go_simp
                  refine ⟨HKC.out, ?_⟩
                  refine ⟨by kernel_rfl, ?_⟩
                  have hma : MsgsOk wa (fun k => k < W.heap.size) (.slice (some ⟨ga, 0, none⟩) 1 1) [⟨mm, .slice JA mm.items.length JC⟩] :=
                    ⟨by
                      have h1 := one_slice (S := fun k => k < W.heap.size) (size := 9) hga rfl (by omega)
                      exact h1, fun s hs => by
                      simp only [List.mem_singleton] at hs
                      subst hs
                      exact (HMO.out.into hrk (fun k _ e => by omega) (fun _ _ h => h)).into hka (fun _ _ h => h.elim) (fun _ _ h => h)⟩
                  obtain ⟨q0, q1, q2, q3, q4, q5, q6, q7, q8, q9, q10, qf⟩ := cells11 (hka.blk hrb)
                  have FIN := Lib.hid ((HB10.out.later HKF.out).both2 (y := y) HB9.out hrk hka hma)
                  clear hrb hrk hka hga hkc hma
                  go_wp2_with fail
                  refine bodyPost_ret (v := .tuple #[.agg #[.int .i64 y.id, .int .i64 y.n, .int .i64 y.term, .int .i64 y.vote, .slice LA3 y.log.length LC3, .int .i64 y.commit, .int .i64 y.role, .int .i64 y.boss, .slice VA3 y.votes.length VC3, .slice NA3 y.next.length NC3, .slice MA3 y.mtch.length MC3], .slice (some ⟨ga, 0, none⟩) 1 1]) (by simp [results, Try.results78, go_sem, q0, q1, q2, q3, q4, q5, q6, q7, q8, q9, q10]) rfl ?_
                  rw [HP2.out]
                  have e : said [(⟨mm, .slice JA mm.items.length JC⟩ : MesV)] = [sends y m.src] := by rw [HSJ.out, ← HMM.out]; rfl
                  rw [← e]
                  exact FIN.out
            · have HP2 := Lib.hid (show heardP n m = (y, []) by rw [HP.out, ← HY3.out, HAT.out, if_neg (by rw [← HYL.out]; omega)])
              clear HP hyl hat HHE
              obtain ⟨wr, hwr, hrb, hrk⟩ := put11l (v0 := .int .i64 y.id) (v1 := .int .i64 y.n) (v2 := .int .i64 y.term) (v3 := .int .i64 y.vote) (v4 := .slice LA3 y.log.length LC3) (v5 := .int .i64 y.commit) (v6 := .int .i64 y.role) (v7 := .int .i64 y.boss) (v8 := .slice VA3 y.votes.length VC3) (v9 := .slice NA3 y.next.length NC3) (v10 := .slice MA3 y.mtch.length MC3) HB10.out.res rfl
              obtain ⟨r0, r1, r2, r3, r4, r5, r6, r7, r8, r9, r10, rf⟩ := cells11 HB10.out.res
              have FIN := Lib.hid (HB10.out.quiet hrk)
              clear hrk
              go_wp2_with fail
              obtain ⟨q0, q1, q2, q3, q4, q5, q6, q7, q8, q9, q10, qf⟩ := cells11 hrb
              refine bodyPost_ret (v := .tuple #[.agg #[.int .i64 y.id, .int .i64 y.n, .int .i64 y.term, .int .i64 y.vote, .slice LA3 y.log.length LC3, .int .i64 y.commit, .int .i64 y.role, .int .i64 y.boss, .slice VA3 y.votes.length VC3, .slice NA3 y.next.length NC3, .slice MA3 y.mtch.length MC3], .slice none 0 0]) (by simp [results, Try.results78, go_sem, q0, q1, q2, q3, q4, q5, q6, q7, q8, q9, q10]) rfl ?_
              rw [HP2.out]
              exact FIN.out

end Go.Proofs.Ytibjbpakbfodaaa
