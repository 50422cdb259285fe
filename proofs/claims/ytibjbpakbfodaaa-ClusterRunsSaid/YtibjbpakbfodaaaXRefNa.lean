/- The document's answer, chapter 15: Receive, kind 1. -/
import Derived.Test.YtibjbpakbfodaaaXRefM
namespace Go.Proofs.Ytibjbpakbfodaaa
open Go.RowKit

set_option maxRecDepth 100000 in
set_option maxHeartbeats 32000000 in
theorem receiveR_k1 {w : World} {Q : Nat → Prop} {x : NodV} {m : MesV} (h : NodeOk w Q x) (hQ : ∀ k, Q k → k < w.heap.size) (hs : Sized x.n) (hm : MesOk w Free m) (hi : m.m.items.length ≤ 2000000) (hkk : m.m.kind = 1) :
    Calls Try.prog 31 #[.agg (nodCells x).toArray, .agg (mesCells m).toArray] w (HandsR w Q (receive x.n m.m).1 (receive x.n m.m).2) := by
  have H := Lib.hid h; have HQ := Lib.hid hQ; have HM := Lib.hid hm
  have hwr : ∀ w1, Keeps Free w w1 → Calls Try.prog 19 #[.agg (nodCells x).toArray] w1 fun e w' => e = .returned (.int .i64 (wrong x.n)) ∧ Keeps Free w1 w' := fun w1 hk => wrongR_any (h.into hk (fun _ _ h => h.elim) (fun _ _ h => h.elim)) hs.log hs.votes hs.next hs.mtch
  have hla : ∀ w1, Keeps Free w w1 → Calls Try.prog 76 #[.agg (nodCells x).toArray, .agg (mesCells m).toArray] w1 fun e w' => e = .returned (.bool (lost x.n m.m)) ∧ Keeps Free w1 w' := fun w1 hk => lostR_any (h.into hk (fun _ _ h => h.elim) (fun _ _ h => h.elim)) (Sl.keep (show Sl w Free m.iv 2 (itemCells m.m.items) from hm) hk (fun _ _ h => h)) hi
  have HWR := Lib.hid hwr; have HLA := Lib.hid hla; have HKK := Lib.hid hkk
  have hsl := hs.log
  obtain ⟨n, lv, vv, nv, mv⟩ := x
  obtain ⟨LA, LC, VA, VC, NA, NC, MA, MC, rfl, rfl, rfl, rfl⟩ := h.shape
  obtain ⟨m, iv⟩ := m
  obtain ⟨IA, IC, hiv⟩ := hm.shape
  simp only at hiv hi hsl
  subst hiv
  clear h hm hQ hs hwr hla hkk
  simp only [nodCells, mesCells] at HWR HLA ⊢
  go_enter Try.func31, Try.ntmps31
  go_upto_region 1 with fail
  obtain ⟨k0, k1, k2⟩ := two_boxes w (.cells #[.int .i64 n.id, .int .i64 n.n, .int .i64 n.term, .int .i64 n.vote, .slice LA n.log.length LC, .int .i64 n.commit, .int .i64 n.role, .int .i64 n.boss, .slice VA n.votes.length VC, .slice NA n.next.length NC, .slice MA n.mtch.length MC] 25) (.cells #[.int .i64 m.kind, .int .i64 m.src, .int .i64 m.dst, .int .i64 m.term, .int .i64 m.index, .int .i64 m.logTerm, .int .i64 m.commit, .slice IA m.items.length IC, .bool m.yes] 38)
  have k3 := (Keeps.refl Free ((w.alloc (.cells #[.int .i64 n.id, .int .i64 n.n, .int .i64 n.term, .int .i64 n.vote, .slice LA n.log.length LC, .int .i64 n.commit, .int .i64 n.role, .int .i64 n.boss, .slice VA n.votes.length VC, .slice NA n.next.length NC, .slice MA n.mtch.length MC] 25)).alloc (.cells #[.int .i64 m.kind, .int .i64 m.src, .int .i64 m.dst, .int .i64 m.term, .int .i64 m.index, .int .i64 m.logTerm, .int .i64 m.commit, .slice IA m.items.length IC, .bool m.yes] 38))).alloc (.cells zero11 25)
  have k4 := heap_alloc_new ((w.alloc (.cells #[.int .i64 n.id, .int .i64 n.n, .int .i64 n.term, .int .i64 n.vote, .slice LA n.log.length LC, .int .i64 n.commit, .int .i64 n.role, .int .i64 n.boss, .slice VA n.votes.length VC, .slice NA n.next.length NC, .slice MA n.mtch.length MC] 25)).alloc (.cells #[.int .i64 m.kind, .int .i64 m.src, .int .i64 m.dst, .int .i64 m.term, .int .i64 m.index, .int .i64 m.logTerm, .int .i64 m.commit, .slice IA m.items.length IC, .bool m.yes] 38)) (.cells zero11 25)
  simp only [World.size_alloc] at k4
  obtain ⟨w2, hw2⟩ : ∃ w2, ((w.alloc (.cells #[.int .i64 n.id, .int .i64 n.n, .int .i64 n.term, .int .i64 n.vote, .slice LA n.log.length LC, .int .i64 n.commit, .int .i64 n.role, .int .i64 n.boss, .slice VA n.votes.length VC, .slice NA n.next.length NC, .slice MA n.mtch.length MC] 25)).alloc (.cells #[.int .i64 m.kind, .int .i64 m.src, .int .i64 m.dst, .int .i64 m.term, .int .i64 m.index, .int .i64 m.logTerm, .int .i64 m.commit, .slice IA m.items.length IC, .bool m.yes] 38)).alloc (.cells zero11 25) = w2 := ⟨_, rfl⟩
  have k0 := k0.trans k3 (fun _ h => .inl h)
  have k1 := k3.blk k1
  have k2 := k3.blk k2
  clear k3
  rw [hw2] at k0 k1 k2 k4 ⊢
  have HBX := Lib.hid (show Boxed w Q w.heap.size (w.heap.size + 1 + 1) _ _ from Boxed.start H.out HQ.out k0 (by omega) k1 k4)
  have HMB := Lib.hid k2
  have hlt := laid_lt k4
  obtain ⟨b0, b1, b2, b3, b4, b5, b6, b7, b8, b9, b10, bf⟩ := cells11 k1
  obtain ⟨d0, d1, d2, d3, d4, d5, d6, d7, d8, df⟩ := cells9l k2
  obtain ⟨r0, r1, r2, r3, r4, r5, r6, r7, r8, r9, r10, rf⟩ := cells11 k4
  obtain ⟨B, hB⟩ : ∃ B, w.heap.size = B := ⟨_, rfl⟩
  simp only [hB] at HBX HMB hlt b0 b1 b2 b3 b4 b5 b6 b7 b8 b9 b10 bf d0 d1 d2 d3 d4 d5 d6 d7 d8 df r0 r1 r2 r3 r4 r5 r6 r7 r8 r9 r10 rf ⊢
  clear k0 k1 k2 k4 hw2
  cases hq1 : (wrong n != 0)
  case true =>
    have HE := Lib.hid (show receive n m = (n, []) by unfold receive; rw [if_pos (.inl (by simpa using hq1))])
    go_wp2_with (first
      | (go_at_call 19
         refine (HWR.out _ HBX.out.keeps).mono ?_
         rintro e w3 ⟨rfl, hk3⟩
         have hb3 := HBX.out.later hk3
         have hm3 := hk3.blk HMB.out
         clear d0 d1 d2 d3 d4 d5 d6 d7 d8 df b0 b1 b2 b3 b4 b5 b6 b7 b8 b9 b10 bf r0 r1 r2 r3 r4 r5 r6 r7 r8 r9 r10 rf
         obtain ⟨b0, b1, b2, b3, b4, b5, b6, b7, b8, b9, b10, bf⟩ := cells11 hb3.blk
         obtain ⟨d0, d1, d2, d3, d4, d5, d6, d7, d8, df⟩ := cells9l hm3
         obtain ⟨r0, r1, r2, r3, r4, r5, r6, r7, r8, r9, r10, rf⟩ := cells11 hb3.res
         simp only at b0 b1 b2 b3 b4 b5 b6 b7 b8 b9 b10
         have HB3 := Lib.hid hb3; have HM3 := Lib.hid hm3
         clear hk3 hb3 hm3 HWR
         obtain ⟨wf, hwf, hfb, hfk⟩ := put11l (v0 := .int .i64 n.id) (v1 := .int .i64 n.n) (v2 := .int .i64 n.term) (v3 := .int .i64 n.vote) (v4 := .slice LA n.log.length LC) (v5 := .int .i64 n.commit) (v6 := .int .i64 n.role) (v7 := .int .i64 n.boss) (v8 := .slice VA n.votes.length VC) (v9 := .slice NA n.next.length NC) (v10 := .slice MA n.mtch.length MC) HB3.out.res rfl))
    obtain ⟨q0, q1, q2, q3, q4, q5, q6, q7, q8, q9, q10, qf⟩ := cells11 hfb
    have FIN := Lib.hid (HB3.out.quiet hfk)
    clear hfb hfk
    refine bodyPost_ret (v := .tuple #[.agg #[.int .i64 n.id, .int .i64 n.n, .int .i64 n.term, .int .i64 n.vote, .slice LA n.log.length LC, .int .i64 n.commit, .int .i64 n.role, .int .i64 n.boss, .slice VA n.votes.length VC, .slice NA n.next.length NC, .slice MA n.mtch.length MC], .slice none 0 0]) (by simp [results, Try.results31, go_sem, q0, q1, q2, q3, q4, q5, q6, q7, q8, q9, q10]) rfl ?_
    rw [HE.out]
    exact FIN.out
  have hw0 : wrong n = 0 := by simpa using hq1
  cases hq2 : lost n m
  case true =>
    have HE := Lib.hid (show receive n m = (n, []) by unfold receive; rw [if_pos (.inr hq2)])
    rw [hq2] at HLA
    go_wp2_with (first
      | (go_at_call 19
         refine (HWR.out _ HBX.out.keeps).mono ?_
         rintro e w3 ⟨rfl, hk3⟩
         have hb3 := HBX.out.later hk3
         have hm3 := hk3.blk HMB.out
         clear d0 d1 d2 d3 d4 d5 d6 d7 d8 df b0 b1 b2 b3 b4 b5 b6 b7 b8 b9 b10 bf r0 r1 r2 r3 r4 r5 r6 r7 r8 r9 r10 rf
         obtain ⟨b0, b1, b2, b3, b4, b5, b6, b7, b8, b9, b10, bf⟩ := cells11 hb3.blk
         obtain ⟨d0, d1, d2, d3, d4, d5, d6, d7, d8, df⟩ := cells9l hm3
         obtain ⟨r0, r1, r2, r3, r4, r5, r6, r7, r8, r9, r10, rf⟩ := cells11 hb3.res
         simp only at b0 b1 b2 b3 b4 b5 b6 b7 b8 b9 b10
         have HB3 := Lib.hid hb3; have HM3 := Lib.hid hm3
         clear hk3 hb3 hm3 HWR)
      | (go_at_call 76
         refine (HLA.out _ HB3.out.keeps).mono ?_
         rintro e w4 ⟨rfl, hk4⟩
         have hb4 := HB3.out.later hk4
         have hm4 := hk4.blk HM3.out
         clear d0 d1 d2 d3 d4 d5 d6 d7 d8 df b0 b1 b2 b3 b4 b5 b6 b7 b8 b9 b10 bf r0 r1 r2 r3 r4 r5 r6 r7 r8 r9 r10 rf
         obtain ⟨b0, b1, b2, b3, b4, b5, b6, b7, b8, b9, b10, bf⟩ := cells11 hb4.blk
         obtain ⟨d0, d1, d2, d3, d4, d5, d6, d7, d8, df⟩ := cells9l hm4
         obtain ⟨r0, r1, r2, r3, r4, r5, r6, r7, r8, r9, r10, rf⟩ := cells11 hb4.res
         simp only at b0 b1 b2 b3 b4 b5 b6 b7 b8 b9 b10
         have HB4 := Lib.hid hb4; have HM4 := Lib.hid hm4
         clear hk4 hb4 hm4 HLA
         obtain ⟨wf, hwf, hfb, hfk⟩ := put11l (v0 := .int .i64 n.id) (v1 := .int .i64 n.n) (v2 := .int .i64 n.term) (v3 := .int .i64 n.vote) (v4 := .slice LA n.log.length LC) (v5 := .int .i64 n.commit) (v6 := .int .i64 n.role) (v7 := .int .i64 n.boss) (v8 := .slice VA n.votes.length VC) (v9 := .slice NA n.next.length NC) (v10 := .slice MA n.mtch.length MC) HB4.out.res rfl))
    obtain ⟨q0, q1, q2, q3, q4, q5, q6, q7, q8, q9, q10, qf⟩ := cells11 hfb
    have FIN := Lib.hid (HB4.out.quiet hfk)
    clear hfb hfk
    refine bodyPost_ret (v := .tuple #[.agg #[.int .i64 n.id, .int .i64 n.n, .int .i64 n.term, .int .i64 n.vote, .slice LA n.log.length LC, .int .i64 n.commit, .int .i64 n.role, .int .i64 n.boss, .slice VA n.votes.length VC, .slice NA n.next.length NC, .slice MA n.mtch.length MC], .slice none 0 0]) (by simp [results, Try.results31, go_sem, q0, q1, q2, q3, q4, q5, q6, q7, q8, q9, q10]) rfl ?_
    rw [HE.out]
    exact FIN.out
  rw [hq2] at HLA
  obtain ⟨hgy, hfy⟩ := received_fits (good_of_wrong hw0) hq2
  have HRT := Lib.hid (receive_turned hw0 hq2)
  have HGY := Lib.hid hgy; have HFY := Lib.hid hfy
  clear hw0 hgy hfy
  go_upto_region 3 with (first
      | (go_at_call 19
         refine (HWR.out _ HBX.out.keeps).mono ?_
         rintro e w3 ⟨rfl, hk3⟩
         have hb3 := HBX.out.later hk3
         have hm3 := hk3.blk HMB.out
         clear d0 d1 d2 d3 d4 d5 d6 d7 d8 df b0 b1 b2 b3 b4 b5 b6 b7 b8 b9 b10 bf r0 r1 r2 r3 r4 r5 r6 r7 r8 r9 r10 rf
         obtain ⟨b0, b1, b2, b3, b4, b5, b6, b7, b8, b9, b10, bf⟩ := cells11 hb3.blk
         obtain ⟨d0, d1, d2, d3, d4, d5, d6, d7, d8, df⟩ := cells9l hm3
         obtain ⟨r0, r1, r2, r3, r4, r5, r6, r7, r8, r9, r10, rf⟩ := cells11 hb3.res
         simp only at b0 b1 b2 b3 b4 b5 b6 b7 b8 b9 b10
         have HB3 := Lib.hid hb3; have HM3 := Lib.hid hm3
         clear hk3 hb3 hm3 HWR)
      | (go_at_call 76
         refine (HLA.out _ HB3.out.keeps).mono ?_
         rintro e w4 ⟨rfl, hk4⟩
         have hb4 := HB3.out.later hk4
         have hm4 := hk4.blk HM3.out
         clear d0 d1 d2 d3 d4 d5 d6 d7 d8 df b0 b1 b2 b3 b4 b5 b6 b7 b8 b9 b10 bf r0 r1 r2 r3 r4 r5 r6 r7 r8 r9 r10 rf
         obtain ⟨b0, b1, b2, b3, b4, b5, b6, b7, b8, b9, b10, bf⟩ := cells11 hb4.blk
         obtain ⟨d0, d1, d2, d3, d4, d5, d6, d7, d8, df⟩ := cells9l hm4
         obtain ⟨r0, r1, r2, r3, r4, r5, r6, r7, r8, r9, r10, rf⟩ := cells11 hb4.res
         simp only at b0 b1 b2 b3 b4 b5 b6 b7 b8 b9 b10
         have HB4 := Lib.hid hb4; have HM4 := Lib.hid hm4
         clear hk4 hb4 hm4 HLA))
  clear hq1 hq2 HB3 HM3 HBX HMB r0 r1 r2 r3 r4 r5 r6 r7 r8 r9 r10 rf
  go_upto_if 29 with fail
  go_cut [30] (fun _ wx => ∃ lv vv nv mv, Boxed w Q B (B + 1 + 1) ⟨if n.term < m.term then follow n m.term 0 else n, lv, vv, nv, mv⟩ wx ∧ wx.heap[B + 1]? = some (.cells #[.int .i64 m.kind, .int .i64 m.src, .int .i64 m.dst, .int .i64 m.term, .int .i64 m.index, .int .i64 m.logTerm, .int .i64 m.commit, .slice IA m.items.length IC, .bool m.yes] 38 (0, 0)))
  case first =>
    by_cases hlt : n.term < m.term
    · have hfo : follow n m.term 0 = { n with term := m.term, vote := 0, role := 1, boss := 0, votes := [], next := [], mtch := [] } := by unfold follow; rw [if_pos hlt, if_pos hlt]
      have HFO := Lib.hid hfo
      have hfl := follower_any HB4.out.ok 0
      simp only [nodCells] at hfl
      have HFL := Lib.hid hfl
      have hrl := HB4.out.rlt
      clear hfl hfo
      go_upto_region 5 with (first
        | (go_at_call 70
           refine HFL.out.mono ?_
           rintro e w5 ⟨⟨y, lv3, vv3, nv3, mv3⟩, rfl, hx3, hok3, hk5⟩
           obtain ⟨LA1, LC1, VA1, VC1, NA1, NC1, MA1, MC1, e1, e2, e3, e4⟩ := hok3.shape
           simp only at e1 e2 e3 e4 hx3
           subst e1 e2 e3 e4
           have HX3 := Lib.hid hx3
           have hb9 := HB4.out.later hk5
           have hm9 := hk5.blk HM4.out
           clear d0 d1 d2 d3 d4 d5 d6 d7 d8 df b0 b1 b2 b3 b4 b5 b6 b7 b8 b9 b10 bf
           obtain ⟨wf, hwf, hfb, hfk⟩ := put11l (v0 := .int .i64 y.id) (v1 := .int .i64 y.n) (v2 := .int .i64 y.term) (v3 := .int .i64 y.vote) (v4 := .slice LA1 y.log.length LC1) (v5 := .int .i64 y.commit) (v6 := .int .i64 y.role) (v7 := .int .i64 y.boss) (v8 := .slice VA1 y.votes.length VC1) (v9 := .slice NA1 y.next.length NC1) (v10 := .slice MA1 y.mtch.length MC1) hb9.blk rfl
           obtain ⟨b0, b1, b2, b3, b4, b5, b6, b7, b8, b9, b10, bf⟩ := cells11 hb9.blk
           simp only at b0 b1 b2 b3 b4 b5 b6 b7 b8 b9 b10
           have HB10 := Lib.hid (hb9.put (y := ⟨y, .slice LA1 y.log.length LC1, .slice VA1 y.votes.length VC1, .slice NA1 y.next.length NC1, .slice MA1 y.mtch.length MC1⟩) hfk hfb hok3)
           have HM10 := Lib.hid ((hfk.block (B + 1) (laid_lt hm9) (by omega)).trans hm9)
           clear hx3 hok3 hfk hb9 hm9))
      first | rw [hwf] | skip
      clear HFL hk5 b0 b1 b2 b3 b4 b5 b6 b7 b8 b9 b10 bf hfb hwf
      obtain ⟨b0, b1, b2, b3, b4, b5, b6, b7, b8, b9, b10, bf⟩ := cells11 HB10.out.blk
      obtain ⟨d0, d1, d2, d3, d4, d5, d6, d7, d8, df⟩ := cells9l HM10.out
      simp only at b0 b1 b2 b3 b4 b5 b6 b7 b8 b9 b10
      have hb11 := (HB10.out.set 2 (.int .i64 m.term) ⟨{ y with term := m.term }, .slice LA1 y.log.length LC1, .slice VA1 y.votes.length VC1, .slice NA1 y.next.length NC1, .slice MA1 y.mtch.length MC1⟩ rfl ⟨HB10.out.ok.log, HB10.out.ok.votes, HB10.out.ok.next, HB10.out.ok.mtch⟩)
      have hb12 := hb11.set 3 (.int .i64 0) ⟨{ y with term := m.term, vote := 0 }, .slice LA1 y.log.length LC1, .slice VA1 y.votes.length VC1, .slice NA1 y.next.length NC1, .slice MA1 y.mtch.length MC1⟩ rfl ⟨hb11.ok.log, hb11.ok.votes, hb11.ok.next, hb11.ok.mtch⟩
      have hm12 := (Below.heap_setCell (wf.setCell ⟨B, 2, none⟩ (.int .i64 m.term)) ⟨B, 3, none⟩ (.int .i64 0) (B + 1) (by simp)).trans ((Below.heap_setCell wf ⟨B, 2, none⟩ (.int .i64 m.term) (B + 1) (by simp)).trans HM10.out)
      have hy12 : ({ y with term := m.term, vote := 0 } : Nod) = if n.term < m.term then follow n m.term 0 else n := by rw [if_pos hlt, HFO.out, HX3.out]
      rw [hy12] at hb12
      have HB12 := Lib.hid hb12; have HM12 := Lib.hid hm12
      clear hb11 hb12 hm12 hy12
      go_wp2_with fail
      go_meet
      exact ⟨_, _, _, _, HB12.out, HM12.out⟩
    · have hy12 : n = if n.term < m.term then follow n m.term 0 else n := by rw [if_neg hlt]
      have hb12 := HB4.out
      rw [hy12] at hb12
      have HB12 := Lib.hid hb12
      clear hb12 hy12
      go_wp2_with fail
      go_meet
      exact ⟨_, _, _, _, HB12.out, HM4.out⟩
  case rest =>
    obtain ⟨lv1, vv1, nv1, mv1, hb, hmb⟩ := hcut
    have hle : m.term ≤ (if n.term < m.term then follow n m.term 0 else n).term := by
      split
      · rename_i h; unfold follow; simp only [if_pos h]; omega
      · omega
    obtain ⟨y, hy⟩ : ∃ y, (if n.term < m.term then follow n m.term 0 else n) = y := ⟨_, rfl⟩
    rw [hy] at hb HRT HGY HFY hle
    clear hy HB4 HM4 d0 d1 d2 d3 d4 d5 d6 d7 d8 df b0 b1 b2 b3 b4 b5 b6 b7 b8 b9 b10 bf
    obtain ⟨LA1, LC1, VA1, VC1, NA1, NC1, MA1, MC1, e1, e2, e3, e4⟩ := hb.ok.shape
    subst e1 e2 e3 e4
    have HLE := Lib.hid hle; have HB5 := Lib.hid hb; have HM5 := Lib.hid hmb
    have hyl := HGY.out.log60
    have hat := at_any (w := wc.alloc (.cells #[.int .i64 0, .int .i64 y.id, .int .i64 m.src, .int .i64 y.term, .int .i64 0, .int .i64 0, .int .i64 0, .slice none 0 0, .bool false] 38)) (HB5.out.later ((Keeps.refl Free wc).alloc _)).free.log (y.log.length : Int) (by simp only; omega)
    simp only at hat
    have HAT := Lib.hid hat
    obtain ⟨b0, b1, b2, b3, b4, b5, b6, b7, b8, b9, b10, bf⟩ := cells11 hb.blk
    obtain ⟨d0, d1, d2, d3, d4, d5, d6, d7, d8, df⟩ := cells9l hmb
    simp only at b0 b1 b2 b3 b4 b5 b6 b7 b8 b9 b10
    have hrl := hb.rlt
    have hbl5 := laid_lt hb.blk
    have hbm5 := laid_lt hmb
    clear hle hb hmb hat
    go_upto_region 9 with (first
      | (go_at_call 51; refine HAT.out.mono ?_; rintro e w6 ⟨rfl, rfl⟩; clear HAT))
    obtain ⟨w7, hw7⟩ : ∃ w7, wc.alloc (.cells #[.int .i64 0, .int .i64 y.id, .int .i64 m.src, .int .i64 y.term, .int .i64 0, .int .i64 0, .int .i64 0, .slice none 0 0, .bool false] 38) = w7 := ⟨_, rfl⟩
    obtain ⟨P, hP⟩ : ∃ P, wc.heap.size = P := ⟨_, rfl⟩
    have hk7 := (Keeps.refl Free wc).alloc (.cells #[.int .i64 0, .int .i64 y.id, .int .i64 m.src, .int .i64 y.term, .int .i64 0, .int .i64 0, .int .i64 0, .slice none 0 0, .bool false] 38)
    have hp7 := heap_alloc_new wc (.cells #[.int .i64 0, .int .i64 y.id, .int .i64 m.src, .int .i64 y.term, .int .i64 0, .int .i64 0, .int .i64 0, .slice none 0 0, .bool false] 38)
    rw [hw7] at hk7 hp7 ⊢
    rw [hP] at hp7 hrl hbl5 hbm5 ⊢
    have HK7 := Lib.hid hk7; have HP7 := Lib.hid hp7; have HPS := Lib.hid hP
    have HB7 := Lib.hid (HB5.out.later hk7); have HM7 := Lib.hid (hk7.blk HM5.out)
    clear hw7 hk7 hp7 hP d0 d1 d2 d3 d4 d5 d6 d7 d8 df b0 b1 b2 b3 b4 b5 b6 b7 b8 b9 b10 bf
    obtain ⟨b0, b1, b2, b3, b4, b5, b6, b7, b8, b9, b10, bf⟩ := cells11 HB7.out.blk
    obtain ⟨d0, d1, d2, d3, d4, d5, d6, d7, d8, df⟩ := cells9l HM7.out
    obtain ⟨p0, p1, p2, p3, p4, p5, p6, p7, p8, pf⟩ := cells9l HP7.out
    simp only at b0 b1 b2 b3 b4 b5 b6 b7 b8 b9 b10
    have hml := HFY.out.items60
    have hbl := laid_lt HB7.out.blk
    have hk1 : (m.kind == 1) = true := by have := HKK.out; rw [beq_iff_eq]; exact this
    have hn1 : m.kind = 1 := by simpa using hk1
    have HE := Lib.hid (show receive n m = asked y m by rw [HRT.out]; unfold turned; rw [if_pos hn1])
    clear hn1
    go_upto_region 12 with fail
    have hb8 := setCell_blk (k := 0) (u := .int .i64 2) HP7.out
    have hk8 := (HK7.out.mono (S' := fun k => k = B) (fun _ h => h.elim)).setCell (p := ⟨P, 0, none⟩) (.inr (by rw [HPS.out]; exact Nat.le_refl _)) (.int .i64 2)
    obtain ⟨w8, hw8⟩ : ∃ w8, w7.setCell ⟨P, 0, none⟩ (.int .i64 2) = w8 := ⟨_, rfl⟩
    have hbb := (Below.heap_setCell w7 ⟨P, 0, none⟩ (.int .i64 2) B (by simp; omega)).trans HB7.out.blk
    have hmb8 := (Below.heap_setCell w7 ⟨P, 0, none⟩ (.int .i64 2) (B + 1) (by simp; omega)).trans HM7.out
    rw [hw8] at hb8 hk8 hbb hmb8 ⊢
    have HP8 := Lib.hid (hb8.trans rfl : w8.heap[P]? = some (.cells #[.int .i64 2, .int .i64 y.id, .int .i64 m.src, .int .i64 y.term, .int .i64 0, .int .i64 0, .int .i64 0, .slice none 0 0, .bool false] 38 (0, 0)))
    have HK8 := Lib.hid hk8; have HBB := Lib.hid hbb
    clear hw8 hb8 hk8 b0 b1 b2 b3 b4 b5 b6 b7 b8 b9 b10 bf d0 d1 d2 d3 d4 d5 d6 d7 d8 df p0 p1 p2 p3 p4 p5 p6 p7 p8 pf HB7 HM7 HP7
    obtain ⟨b0, b1, b2, b3, b4, b5, b6, b7, b8, b9, b10, bf⟩ := cells11 hbb
    obtain ⟨d0, d1, d2, d3, d4, d5, d6, d7, d8, df⟩ := cells9l hmb8
    obtain ⟨p0, p1, p2, p3, p4, p5, p6, p7, p8, pf⟩ := cells9l HP8.out
    simp only at b0 b1 b2 b3 b4 b5 b6 b7 b8 b9 b10
    clear hbb hmb8
    obtain ⟨last, hlast⟩ : ∃ last, termAt y.log (y.log.length : Int) = last := ⟨_, rfl⟩
    rw [hlast]
    obtain ⟨fb, hfb⟩ : ∃ fb, ((y.vote == 0) || (y.vote == m.src)) = fb := ⟨_, rfl⟩
    obtain ⟨ob, hob⟩ : ∃ ob, (decide (m.logTerm < last) || ((m.logTerm == last) && decide (m.index < (y.log.length : Int)))) = ob := ⟨_, rfl⟩
    obtain ⟨cb, hcb⟩ : ∃ cb, (m.term == y.term) = cb := ⟨_, rfl⟩
    have HV := Lib.hid (show votesFor y m = (cb && fb && !ob) by
      rw [← hcb, ← hfb, ← hob]
      unfold votesFor
      rw [hlast]
      apply Bool.eq_iff_iff.2
      simp only [Bool.and_eq_true, Bool.or_eq_true, decide_eq_true_eq, beq_iff_eq, Bool.not_eq_true', Bool.or_eq_false_iff, decide_eq_false_iff_not, Bool.and_eq_false_iff, beq_eq_false_iff_ne]
      omega)
    have HFB := Lib.hid hfb; have HOB := Lib.hid hob
    rw [hcb]
    clear hlast hfb hob hcb
    try simp only [hk1]
    go_cut [9] (fun s wx => s = .bool fb ∧ wx = w8)
    case first =>
      cases v0 : (y.vote == 0)
      case true =>
        as_aux_lemma =>
          go_wp2_with fail
          go_meet
          exact ⟨by rw [← HFB.out, v0]; rfl, rfl⟩
      cases v1 : (y.vote == m.src)
      case true =>
        as_aux_lemma =>
          go_wp2_with fail
          go_meet
          exact ⟨by rw [← HFB.out, v0, v1]; rfl, rfl⟩
      as_aux_lemma =>
        go_wp2_with fail
        go_meet
        exact ⟨by rw [← HFB.out, v0, v1]; rfl, rfl⟩
    case rest =>
      obtain ⟨rfl, rfl⟩ := hcut
      go_upto_region 13 with fail
      go_cut [10] (fun s wx => s = .bool ob ∧ wx = wc)
      case first =>
        cases o0 : decide (m.logTerm < last)
        case true =>
          as_aux_lemma =>
            go_wp2_with fail
            go_meet
            exact ⟨by rw [← HOB.out, o0]; rfl, rfl⟩
        cases o1 : (m.logTerm == last)
        case false =>
          as_aux_lemma =>
            go_wp2_with fail
            go_meet
            exact ⟨by rw [← HOB.out, o0, o1]; rfl, rfl⟩
        cases o2 : decide (m.index < (y.log.length : Int))
        case true =>
          as_aux_lemma =>
            go_wp2_with fail
            go_meet
            exact ⟨by rw [← HOB.out, o0, o1, o2]; rfl, rfl⟩
        as_aux_lemma =>
          go_wp2_with fail
          go_meet
          exact ⟨by rw [← HOB.out, o0, o1, o2]; rfl, rfl⟩
      case rest =>
        obtain ⟨rfl, rfl⟩ := hcut
        clear HFB HOB
        have HVV := Lib.hid HV.out
        go_upto_region 14 with fail
        go_cut [94] (fun s wx => s = .bool (votesFor y m) ∧ wx = wc)
        case first =>
          cases cb
          case false =>
            as_aux_lemma =>
              go_wp2_with fail
              go_meet
              exact ⟨by rw [HV.out]; rfl, rfl⟩
          cases fb
          case false =>
            as_aux_lemma =>
              go_wp2_with fail
              go_meet
              exact ⟨by rw [HV.out]; rfl, rfl⟩
          cases ob
          case false =>
            as_aux_lemma =>
              go_wp2_with fail
              go_meet
              exact ⟨by rw [HV.out]; rfl, rfl⟩
          as_aux_lemma =>
            go_wp2_with fail
            go_meet
            exact ⟨by rw [HV.out]; rfl, rfl⟩
        case rest =>
          obtain ⟨rfl, rfl⟩ := hcut
          clear HV HVV
          obtain ⟨vb, hvb⟩ : ∃ vb, votesFor y m = vb := ⟨_, rfl⟩
          rw [hvb]
          have hak : asked y m = ({ y with vote := if vb then m.src else y.vote }, [{ kind := 2, src := y.id, dst := m.src, term := y.term, index := 0, logTerm := 0, commit := 0, items := [], yes := vb }]) := by unfold asked; rw [hvb]
          have HAK := Lib.hid hak
          clear hvb hak
          cases vb
          case false =>
            go_upto_region 17 with fail
            clear b0 b1 b2 b3 b4 b5 b6 b7 b8 b9 b10 bf d0 d1 d2 d3 d4 d5 d6 d7 d8 df p0 p1 p2 p3 p4 p5 p6 p7 p8 pf
            have hb9 := HB5.out.put (y := ⟨y, .slice LA1 y.log.length LC1, .slice VA1 y.votes.length VC1, .slice NA1 y.next.length NC1, .slice MA1 y.mtch.length MC1⟩) HK8.out HBB.out HB5.out.ok
            have HB9 := Lib.hid hb9
            clear hb9
            refine Wg.wp_region_first (C := fun w' => Keeps (fun k => k = B + 1 + 1) wc w') (by kernel_rfl) 99 ?_
            have HKF := Lib.hid (show Keeps Free wc { wc with drawn := wc.drawn + 1 } from (Keeps.refl Free wc).drew)
            obtain ⟨W, hW⟩ : ∃ W : World, W = { wc with drawn := wc.drawn + 1 } := ⟨_, rfl⟩
            rw [← hW] at HKF ⊢
            clear hW
            have HKW := Lib.hid (HKF.out.mono (S' := fun k => k = B + 1 + 1) (fun _ h => h.elim))
            have hW2 := HKF.out.size
            have hrl := HB9.out.rlt
            have hwl := HB9.out.le
            apply Wg.wpAnyP_stays (by kernel_rfl) [0, 1] _ _ _ 3 _ HKW.out (by kernel_rfl) ?hs ?hr
            case hs =>
              apply Wg.wpStays_step rfl rfl
              · intro w' hw'
                have hbw := (hw'.block B (laid_lt HB9.out.blk) (by omega)).trans HB9.out.blk
                obtain ⟨e0, e1, e2, e3, e4, e5, e6, e7, e8, e9, e10, ef⟩ := cells11 hbw
                simp only at e0 e1 e2 e3 e4 e5 e6 e7 e8 e9 e10
                clear hbw
                clear hw'
                go_simp
                exact ⟨rfl, rfl⟩
              go_simp
              apply Wg.wpStays_step rfl rfl
              · intro w' hw'
                have hpw := (hw'.block P (laid_lt HP8.out) (by omega)).trans HP8.out
                obtain ⟨p0, p1, p2, p3, p4, p5, p6, p7, p8, pf⟩ := cells9l hpw
                clear hpw
                clear hw'
                go_simp
                exact ⟨rfl, rfl⟩
              go_simp
              exact rfl
            case hr =>
              have HBW := Lib.hid (HB9.out.later HKF.out)
              apply Wg.wpAnyP_two (i := 2) (k := 3) (fuel := 2) (by kernel_rfl) rfl rfl rfl rfl
              · go_simp
                refine ⟨HKW.out.alloc _, ?_⟩
                have hka := (Keeps.refl Free W).alloc (.cells #[.int .i64 2, .int .i64 y.id, .int .i64 m.src, .int .i64 y.term, .int .i64 0, .int .i64 0, .int .i64 0, .slice none 0 0, .bool false] 38)
                have hga := heap_alloc_new W (.cells #[.int .i64 2, .int .i64 y.id, .int .i64 m.src, .int .i64 y.term, .int .i64 0, .int .i64 0, .int .i64 0, .slice none 0 0, .bool false] 38)
                have hkc := HKW.out.alloc (.cells #[.int .i64 2, .int .i64 y.id, .int .i64 m.src, .int .i64 y.term, .int .i64 0, .int .i64 0, .int .i64 0, .slice none 0 0, .bool false] 38)
                obtain ⟨wa, hwa2⟩ : ∃ wa, W.alloc (.cells #[.int .i64 2, .int .i64 y.id, .int .i64 m.src, .int .i64 y.term, .int .i64 0, .int .i64 0, .int .i64 0, .slice none 0 0, .bool false] 38) = wa := ⟨_, rfl⟩
                obtain ⟨ga, hga2⟩ : ∃ ga, W.heap.size = ga := ⟨_, rfl⟩
                rw [hwa2] at hka hga hkc ⊢
                rw [hga2] at hga ⊢
                have HKC := Lib.hid hkc
                have hma : MsgsOk wa (fun k => k < W.heap.size) (.slice (some ⟨ga, 0, none⟩) 1 1) [⟨({ kind := 2, src := y.id, dst := m.src, term := y.term, index := 0, logTerm := 0, commit := 0, items := [], yes := false } : Mes), .slice none 0 0⟩] :=
                  ⟨by
                    have h1 := one_slice (S := fun k => k < W.heap.size) (size := 9) hga rfl (by omega)
                    exact h1, fun s hs => by
                    simp only [List.mem_singleton] at hs
                    subst hs
                    exact no_items _ _⟩
                have HBA := Lib.hid (HBW.out.later hka); have HMA := Lib.hid hma
                clear hka hga hkc hwa2 hma
                obtain ⟨wr, hwr, hrb, hrk⟩ := put11l (v0 := .int .i64 y.id) (v1 := .int .i64 y.n) (v2 := .int .i64 y.term) (v3 := .int .i64 y.vote) (v4 := .slice LA1 y.log.length LC1) (v5 := .int .i64 y.commit) (v6 := .int .i64 y.role) (v7 := .int .i64 y.boss) (v8 := .slice VA1 y.votes.length VC1) (v9 := .slice NA1 y.next.length NC1) (v10 := .slice MA1 y.mtch.length MC1) HBA.out.res rfl
                obtain ⟨r0, r1, r2, r3, r4, r5, r6, r7, r8, r9, r10, rf⟩ := cells11 HBA.out.res
                apply Wg.wpAnyP_one (i := 3) (fuel := 1) (by kernel_rfl) rfl rfl
                go_simp
                first | rw [hwr] | skip
                have HKR := Lib.hid (HKC.out.trans hrk (fun _ h => .inl h))
                refine ⟨HKR.out, ?_⟩
                apply Wg.wpAnyP_one (i := 4) (fuel := 0) (by kernel_rfl) rfl rfl
                go_simp
                refine ⟨HKR.out, ?_⟩
                refine ⟨by kernel_rfl, ?_⟩
                clear r0 r1 r2 r3 r4 r5 r6 r7 r8 r9 r10 rf hwr
                obtain ⟨q0, q1, q2, q3, q4, q5, q6, q7, q8, q9, q10, qf⟩ := cells11 hrb
                have FIN := Lib.hid (HBW.out.both (y := y) HBA.out HMA.out hrk)
                clear hrb hrk
                go_wp2_with fail
                refine bodyPost_ret (v := .tuple #[.agg #[.int .i64 y.id, .int .i64 y.n, .int .i64 y.term, .int .i64 y.vote, .slice LA1 y.log.length LC1, .int .i64 y.commit, .int .i64 y.role, .int .i64 y.boss, .slice VA1 y.votes.length VC1, .slice NA1 y.next.length NC1, .slice MA1 y.mtch.length MC1], .slice (some ⟨ga, 0, none⟩) 1 1]) (by simp [results, Try.results31, go_sem, q0, q1, q2, q3, q4, q5, q6, q7, q8, q9, q10]) rfl ?_
                rw [HE.out, HAK.out]
                exact FIN.out
              · skip
                obtain ⟨wr, hwr, hrb, hrk⟩ := put11l (v0 := .int .i64 y.id) (v1 := .int .i64 y.n) (v2 := .int .i64 y.term) (v3 := .int .i64 y.vote) (v4 := .slice LA1 y.log.length LC1) (v5 := .int .i64 y.commit) (v6 := .int .i64 y.role) (v7 := .int .i64 y.boss) (v8 := .slice VA1 y.votes.length VC1) (v9 := .slice NA1 y.next.length NC1) (v10 := .slice MA1 y.mtch.length MC1) HBW.out.res rfl
                obtain ⟨r0, r1, r2, r3, r4, r5, r6, r7, r8, r9, r10, rf⟩ := cells11 HBW.out.res
                go_simp
                first | rw [hwr] | skip
                have HKR := Lib.hid (HKW.out.trans hrk (fun _ h => .inl h))
                refine ⟨HKR.out, ?_⟩
                clear r0 r1 r2 r3 r4 r5 r6 r7 r8 r9 r10 rf hwr
                have hwr9 := hrk.size
                apply Wg.wpAnyP_one (i := 2) (fuel := 1) (by kernel_rfl) rfl rfl
                go_simp
                refine ⟨HKR.out.alloc _, ?_⟩
                have hka := (Keeps.refl Free wr).alloc (.cells #[.int .i64 2, .int .i64 y.id, .int .i64 m.src, .int .i64 y.term, .int .i64 0, .int .i64 0, .int .i64 0, .slice none 0 0, .bool false] 38)
                have hga := heap_alloc_new wr (.cells #[.int .i64 2, .int .i64 y.id, .int .i64 m.src, .int .i64 y.term, .int .i64 0, .int .i64 0, .int .i64 0, .slice none 0 0, .bool false] 38)
                have hkc := HKR.out.alloc (.cells #[.int .i64 2, .int .i64 y.id, .int .i64 m.src, .int .i64 y.term, .int .i64 0, .int .i64 0, .int .i64 0, .slice none 0 0, .bool false] 38)
                obtain ⟨wa, hwa2⟩ : ∃ wa, wr.alloc (.cells #[.int .i64 2, .int .i64 y.id, .int .i64 m.src, .int .i64 y.term, .int .i64 0, .int .i64 0, .int .i64 0, .slice none 0 0, .bool false] 38) = wa := ⟨_, rfl⟩
                obtain ⟨ga, hga2⟩ : ∃ ga, wr.heap.size = ga := ⟨_, rfl⟩
                rw [hwa2] at hka hga hkc ⊢
                rw [hga2] at hga ⊢
                have HKC := Lib.hid hkc
                have hma : MsgsOk wa (fun k => k < W.heap.size) (.slice (some ⟨ga, 0, none⟩) 1 1) [⟨({ kind := 2, src := y.id, dst := m.src, term := y.term, index := 0, logTerm := 0, commit := 0, items := [], yes := false } : Mes), .slice none 0 0⟩] :=
                  ⟨by
                    have h1 := one_slice (S := fun k => k < W.heap.size) (size := 9) hga rfl (by omega)
                    exact h1, fun s hs => by
                    simp only [List.mem_singleton] at hs
                    subst hs
                    exact no_items _ _⟩
                apply Wg.wpAnyP_one (i := 4) (fuel := 0) (by kernel_rfl) rfl rfl
                go_simp
                refine ⟨HKC.out, ?_⟩
                refine ⟨by kernel_rfl, ?_⟩
                obtain ⟨q0, q1, q2, q3, q4, q5, q6, q7, q8, q9, q10, qf⟩ := cells11 (hka.blk hrb)
                have FIN := Lib.hid (HBW.out.both2 (y := y) HBW.out hrk hka hma)
                clear hrb hrk hka hga hkc hma
                go_wp2_with fail
                refine bodyPost_ret (v := .tuple #[.agg #[.int .i64 y.id, .int .i64 y.n, .int .i64 y.term, .int .i64 y.vote, .slice LA1 y.log.length LC1, .int .i64 y.commit, .int .i64 y.role, .int .i64 y.boss, .slice VA1 y.votes.length VC1, .slice NA1 y.next.length NC1, .slice MA1 y.mtch.length MC1], .slice (some ⟨ga, 0, none⟩) 1 1]) (by simp [results, Try.results31, go_sem, q0, q1, q2, q3, q4, q5, q6, q7, q8, q9, q10]) rfl ?_
                rw [HE.out, HAK.out]
                exact FIN.out
          case true =>
            go_upto_region 17 with fail
            clear b0 b1 b2 b3 b4 b5 b6 b7 b8 b9 b10 bf d0 d1 d2 d3 d4 d5 d6 d7 d8 df p0 p1 p2 p3 p4 p5 p6 p7 p8 pf
            have hPB : P ≠ B := by omega
            have hk9 := (HK8.out.setCell (p := ⟨P, 8, none⟩) (.inr (by rw [HPS.out]; exact Nat.le_refl _)) (.bool true)).setCell (p := ⟨B, 3, none⟩) (.inl rfl) (.int .i64 m.src)
            have hp9 := (Below.heap_setCell (wc.setCell ⟨P, 8, none⟩ (.bool true)) ⟨B, 3, none⟩ (.int .i64 m.src) P hPB).trans (setCell_blk (k := 8) (u := .bool true) HP8.out)
            have hb9 := setCell_blk (k := 3) (u := .int .i64 m.src) ((Below.heap_setCell wc ⟨P, 8, none⟩ (.bool true) B (fun e => hPB e.symm)).trans HBB.out)
            obtain ⟨w9, hw9⟩ : ∃ w9, (wc.setCell ⟨P, 8, none⟩ (.bool true)).setCell ⟨B, 3, none⟩ (.int .i64 m.src) = w9 := ⟨_, rfl⟩
            rw [hw9] at hk9 hp9 hb9 ⊢
            have HP9 := Lib.hid (hp9.trans rfl : w9.heap[P]? = some (.cells #[.int .i64 2, .int .i64 y.id, .int .i64 m.src, .int .i64 y.term, .int .i64 0, .int .i64 0, .int .i64 0, .slice none 0 0, .bool true] 38 (0, 0)))
            have HB9 := Lib.hid (HB5.out.put (y := ⟨{ y with vote := m.src }, .slice LA1 y.log.length LC1, .slice VA1 y.votes.length VC1, .slice NA1 y.next.length NC1, .slice MA1 y.mtch.length MC1⟩) hk9 (hb9.trans rfl) ⟨HB5.out.ok.log, HB5.out.ok.votes, HB5.out.ok.next, HB5.out.ok.mtch⟩)
            clear hw9 hk9 hp9 hb9
            refine Wg.wp_region_first (C := fun w' => Keeps (fun k => k = B + 1 + 1) w9 w') (by kernel_rfl) 99 ?_
            have HKF := Lib.hid (show Keeps Free w9 { w9 with drawn := w9.drawn + 1 } from (Keeps.refl Free w9).drew)
            obtain ⟨W, hW⟩ : ∃ W : World, W = { w9 with drawn := w9.drawn + 1 } := ⟨_, rfl⟩
            rw [← hW] at HKF ⊢
            clear hW
            have HKW := Lib.hid (HKF.out.mono (S' := fun k => k = B + 1 + 1) (fun _ h => h.elim))
            have hW2 := HKF.out.size
            have hrl := HB9.out.rlt
            have hwl := HB9.out.le
            apply Wg.wpAnyP_stays (by kernel_rfl) [0, 1] _ _ _ 3 _ HKW.out (by kernel_rfl) ?hs ?hr
            case hs =>
              apply Wg.wpStays_step rfl rfl
              · intro w' hw'
                have hbw := (hw'.block B (laid_lt HB9.out.blk) (by omega)).trans HB9.out.blk
                obtain ⟨e0, e1, e2, e3, e4, e5, e6, e7, e8, e9, e10, ef⟩ := cells11 hbw
                simp only at e0 e1 e2 e3 e4 e5 e6 e7 e8 e9 e10
                clear hbw
                clear hw'
                go_simp
                exact ⟨rfl, rfl⟩
              go_simp
              apply Wg.wpStays_step rfl rfl
              · intro w' hw'
                have hpw := (hw'.block P (laid_lt HP9.out) (by omega)).trans HP9.out
                obtain ⟨p0, p1, p2, p3, p4, p5, p6, p7, p8, pf⟩ := cells9l hpw
                clear hpw
                clear hw'
                go_simp
                exact ⟨rfl, rfl⟩
              go_simp
              exact rfl
            case hr =>
              have HBW := Lib.hid (HB9.out.later HKF.out)
              apply Wg.wpAnyP_two (i := 2) (k := 3) (fuel := 2) (by kernel_rfl) rfl rfl rfl rfl
              · go_simp
                refine ⟨HKW.out.alloc _, ?_⟩
                have hka := (Keeps.refl Free W).alloc (.cells #[.int .i64 2, .int .i64 y.id, .int .i64 m.src, .int .i64 y.term, .int .i64 0, .int .i64 0, .int .i64 0, .slice none 0 0, .bool true] 38)
                have hga := heap_alloc_new W (.cells #[.int .i64 2, .int .i64 y.id, .int .i64 m.src, .int .i64 y.term, .int .i64 0, .int .i64 0, .int .i64 0, .slice none 0 0, .bool true] 38)
                have hkc := HKW.out.alloc (.cells #[.int .i64 2, .int .i64 y.id, .int .i64 m.src, .int .i64 y.term, .int .i64 0, .int .i64 0, .int .i64 0, .slice none 0 0, .bool true] 38)
                obtain ⟨wa, hwa2⟩ : ∃ wa, W.alloc (.cells #[.int .i64 2, .int .i64 y.id, .int .i64 m.src, .int .i64 y.term, .int .i64 0, .int .i64 0, .int .i64 0, .slice none 0 0, .bool true] 38) = wa := ⟨_, rfl⟩
                obtain ⟨ga, hga2⟩ : ∃ ga, W.heap.size = ga := ⟨_, rfl⟩
                rw [hwa2] at hka hga hkc ⊢
                rw [hga2] at hga ⊢
                have HKC := Lib.hid hkc
                have hma : MsgsOk wa (fun k => k < W.heap.size) (.slice (some ⟨ga, 0, none⟩) 1 1) [⟨({ kind := 2, src := y.id, dst := m.src, term := y.term, index := 0, logTerm := 0, commit := 0, items := [], yes := true } : Mes), .slice none 0 0⟩] :=
                  ⟨by
                    have h1 := one_slice (S := fun k => k < W.heap.size) (size := 9) hga rfl (by omega)
                    exact h1, fun s hs => by
                    simp only [List.mem_singleton] at hs
                    subst hs
                    exact no_items _ _⟩
                have HBA := Lib.hid (HBW.out.later hka); have HMA := Lib.hid hma
                clear hka hga hkc hwa2 hma
                obtain ⟨wr, hwr, hrb, hrk⟩ := put11l (v0 := .int .i64 y.id) (v1 := .int .i64 y.n) (v2 := .int .i64 y.term) (v3 := .int .i64 m.src) (v4 := .slice LA1 y.log.length LC1) (v5 := .int .i64 y.commit) (v6 := .int .i64 y.role) (v7 := .int .i64 y.boss) (v8 := .slice VA1 y.votes.length VC1) (v9 := .slice NA1 y.next.length NC1) (v10 := .slice MA1 y.mtch.length MC1) HBA.out.res rfl
                obtain ⟨r0, r1, r2, r3, r4, r5, r6, r7, r8, r9, r10, rf⟩ := cells11 HBA.out.res
                apply Wg.wpAnyP_one (i := 3) (fuel := 1) (by kernel_rfl) rfl rfl
                go_simp
                first | rw [hwr] | skip
                have HKR := Lib.hid (HKC.out.trans hrk (fun _ h => .inl h))
                refine ⟨HKR.out, ?_⟩
                apply Wg.wpAnyP_one (i := 4) (fuel := 0) (by kernel_rfl) rfl rfl
                go_simp
                refine ⟨HKR.out, ?_⟩
                refine ⟨by kernel_rfl, ?_⟩
                clear r0 r1 r2 r3 r4 r5 r6 r7 r8 r9 r10 rf hwr
                obtain ⟨q0, q1, q2, q3, q4, q5, q6, q7, q8, q9, q10, qf⟩ := cells11 hrb
                have FIN := Lib.hid (HBW.out.both (y := ({ y with vote := m.src } : Nod)) HBA.out HMA.out hrk)
                clear hrb hrk
                go_wp2_with fail
                refine bodyPost_ret (v := .tuple #[.agg #[.int .i64 y.id, .int .i64 y.n, .int .i64 y.term, .int .i64 m.src, .slice LA1 y.log.length LC1, .int .i64 y.commit, .int .i64 y.role, .int .i64 y.boss, .slice VA1 y.votes.length VC1, .slice NA1 y.next.length NC1, .slice MA1 y.mtch.length MC1], .slice (some ⟨ga, 0, none⟩) 1 1]) (by simp [results, Try.results31, go_sem, q0, q1, q2, q3, q4, q5, q6, q7, q8, q9, q10]) rfl ?_
                rw [HE.out, HAK.out]
                exact FIN.out
              · skip
                obtain ⟨wr, hwr, hrb, hrk⟩ := put11l (v0 := .int .i64 y.id) (v1 := .int .i64 y.n) (v2 := .int .i64 y.term) (v3 := .int .i64 m.src) (v4 := .slice LA1 y.log.length LC1) (v5 := .int .i64 y.commit) (v6 := .int .i64 y.role) (v7 := .int .i64 y.boss) (v8 := .slice VA1 y.votes.length VC1) (v9 := .slice NA1 y.next.length NC1) (v10 := .slice MA1 y.mtch.length MC1) HBW.out.res rfl
                obtain ⟨r0, r1, r2, r3, r4, r5, r6, r7, r8, r9, r10, rf⟩ := cells11 HBW.out.res
                go_simp
                first | rw [hwr] | skip
                have HKR := Lib.hid (HKW.out.trans hrk (fun _ h => .inl h))
                refine ⟨HKR.out, ?_⟩
                clear r0 r1 r2 r3 r4 r5 r6 r7 r8 r9 r10 rf hwr
                have hwr9 := hrk.size
                apply Wg.wpAnyP_one (i := 2) (fuel := 1) (by kernel_rfl) rfl rfl
                go_simp
                refine ⟨HKR.out.alloc _, ?_⟩
                have hka := (Keeps.refl Free wr).alloc (.cells #[.int .i64 2, .int .i64 y.id, .int .i64 m.src, .int .i64 y.term, .int .i64 0, .int .i64 0, .int .i64 0, .slice none 0 0, .bool true] 38)
                have hga := heap_alloc_new wr (.cells #[.int .i64 2, .int .i64 y.id, .int .i64 m.src, .int .i64 y.term, .int .i64 0, .int .i64 0, .int .i64 0, .slice none 0 0, .bool true] 38)
                have hkc := HKR.out.alloc (.cells #[.int .i64 2, .int .i64 y.id, .int .i64 m.src, .int .i64 y.term, .int .i64 0, .int .i64 0, .int .i64 0, .slice none 0 0, .bool true] 38)
                obtain ⟨wa, hwa2⟩ : ∃ wa, wr.alloc (.cells #[.int .i64 2, .int .i64 y.id, .int .i64 m.src, .int .i64 y.term, .int .i64 0, .int .i64 0, .int .i64 0, .slice none 0 0, .bool true] 38) = wa := ⟨_, rfl⟩
                obtain ⟨ga, hga2⟩ : ∃ ga, wr.heap.size = ga := ⟨_, rfl⟩
                rw [hwa2] at hka hga hkc ⊢
                rw [hga2] at hga ⊢
                have HKC := Lib.hid hkc
                have hma : MsgsOk wa (fun k => k < W.heap.size) (.slice (some ⟨ga, 0, none⟩) 1 1) [⟨({ kind := 2, src := y.id, dst := m.src, term := y.term, index := 0, logTerm := 0, commit := 0, items := [], yes := true } : Mes), .slice none 0 0⟩] :=
                  ⟨by
                    have h1 := one_slice (S := fun k => k < W.heap.size) (size := 9) hga rfl (by omega)
                    exact h1, fun s hs => by
                    simp only [List.mem_singleton] at hs
                    subst hs
                    exact no_items _ _⟩
                apply Wg.wpAnyP_one (i := 4) (fuel := 0) (by kernel_rfl) rfl rfl
                go_simp
                refine ⟨HKC.out, ?_⟩
                refine ⟨by kernel_rfl, ?_⟩
                obtain ⟨q0, q1, q2, q3, q4, q5, q6, q7, q8, q9, q10, qf⟩ := cells11 (hka.blk hrb)
                have FIN := Lib.hid (HBW.out.both2 (y := ({ y with vote := m.src } : Nod)) HBW.out hrk hka hma)
                clear hrb hrk hka hga hkc hma
                go_wp2_with fail
                refine bodyPost_ret (v := .tuple #[.agg #[.int .i64 y.id, .int .i64 y.n, .int .i64 y.term, .int .i64 m.src, .slice LA1 y.log.length LC1, .int .i64 y.commit, .int .i64 y.role, .int .i64 y.boss, .slice VA1 y.votes.length VC1, .slice NA1 y.next.length NC1, .slice MA1 y.mtch.length MC1], .slice (some ⟨ga, 0, none⟩) 1 1]) (by simp [results, Try.results31, go_sem, q0, q1, q2, q3, q4, q5, q6, q7, q8, q9, q10]) rfl ?_
                rw [HE.out, HAK.out]
                exact FIN.out
end Go.Proofs.Ytibjbpakbfodaaa
