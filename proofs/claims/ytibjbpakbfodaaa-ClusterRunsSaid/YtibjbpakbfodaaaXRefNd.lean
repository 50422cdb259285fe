/- The document's answer, chapter 15: Receive, kind 4. -/
import Derived.Test.YtibjbpakbfodaaaXRefM
namespace Go.Proofs.Ytibjbpakbfodaaa
open Go.RowKit

set_option maxRecDepth 100000 in
set_option maxHeartbeats 32000000 in
theorem receiveR_k4 {w : World} {Q : Nat → Prop} {x : NodV} {m : MesV} (h : NodeOk w Q x) (hQ : ∀ k, Q k → k < w.heap.size) (hs : Sized x.n) (hm : MesOk w Free m) (hi : m.m.items.length ≤ 2000000) (hkk : m.m.kind ≠ 1 ∧ m.m.kind ≠ 2 ∧ m.m.kind ≠ 3) :
    Calls Try.prog 31 #[.agg (nodCells x).toArray, .agg (mesCells m).toArray] w (HandsR w Q (receive x.n m.m).1 (receive x.n m.m).2) := by
  have H := Lib.hid h; have HQ := Lib.hid hQ; have HM := Lib.hid hm
  have hwr : ∀ w1, Keeps Free w w1 → Calls Try.prog 19 #[.agg (nodCells x).toArray] w1 fun e w' => e = .returned (.int .i64 (wrong x.n)) ∧ Keeps Free w1 w' := fun w1 hk => wrongR_any (h.into hk (fun _ _ h => h.elim) (fun _ _ h => h.elim)) hs.log hs.votes hs.next hs.mtch
  have hla : ∀ w1, Keeps Free w w1 → Calls Try.prog 76 #[.agg (nodCells x).toArray, .agg (mesCells m).toArray] w1 fun e w' => e = .returned (.bool (lost x.n m.m)) ∧ Keeps Free w1 w' := fun w1 hk => lostR_any (h.into hk (fun _ _ h => h.elim) (fun _ _ h => h.elim)) (Sl.keep (show Sl w Free m.iv 2 (itemCells m.m.items) from hm) hk (fun _ _ h => h)) hi
  have HWR := Lib.hid hwr; have HLA := Lib.hid hla; have HKK := Lib.hid hkk
  have hsl := hs.log
  obtain ⟨n, lv, vv, nv, mv⟩ := x
  obtain ⟨LA, LC, VA, VC, NA, NC, MA, MC, rfl, rfl, rfl, rfl⟩ := h.shape
  obtain ⟨m, iv⟩ := m
  obtain ⟨IA, IC, hiv⟩ := hm.shape
  simp only at hiv hi hsl
  subst hiv
  clear h hm hQ hs hwr hla hkk
  simp only [nodCells, mesCells] at HWR HLA ⊢
  go_enter Try.func31, Try.ntmps31
  go_upto_region 1 with fail
  obtain ⟨k0, k1, k2⟩ := two_boxes w (.cells #[.int .i64 n.id, .int .i64 n.n, .int .i64 n.term, .int .i64 n.vote, .slice LA n.log.length LC, .int .i64 n.commit, .int .i64 n.role, .int .i64 n.boss, .slice VA n.votes.length VC, .slice NA n.next.length NC, .slice MA n.mtch.length MC] 25) (.cells #[.int .i64 m.kind, .int .i64 m.src, .int .i64 m.dst, .int .i64 m.term, .int .i64 m.index, .int .i64 m.logTerm, .int .i64 m.commit, .slice IA m.items.length IC, .bool m.yes] 38)
  have k3 := (Keeps.refl Free ((w.alloc (.cells #[.int .i64 n.id, .int .i64 n.n, .int .i64 n.term, .int .i64 n.vote, .slice LA n.log.length LC, .int .i64 n.commit, .int .i64 n.role, .int .i64 n.boss, .slice VA n.votes.length VC, .slice NA n.next.length NC, .slice MA n.mtch.length MC] 25)).alloc (.cells #[.int .i64 m.kind, .int .i64 m.src, .int .i64 m.dst, .int .i64 m.term, .int .i64 m.index, .int .i64 m.logTerm, .int .i64 m.commit, .slice IA m.items.length IC, .bool m.yes] 38))).alloc (.cells zero11 25)
  have k4 := heap_alloc_new ((w.alloc (.cells #[.int .i64 n.id, .int .i64 n.n, .int .i64 n.term, .int .i64 n.vote, .slice LA n.log.length LC, .int .i64 n.commit, .int .i64 n.role, .int .i64 n.boss, .slice VA n.votes.length VC, .slice NA n.next.length NC, .slice MA n.mtch.length MC] 25)).alloc (.cells #[.int .i64 m.kind, .int .i64 m.src, .int .i64 m.dst, .int .i64 m.term, .int .i64 m.index, .int .i64 m.logTerm, .int .i64 m.commit, .slice IA m.items.length IC, .bool m.yes] 38)) (.cells zero11 25)
  simp only [World.size_alloc] at k4
  obtain ⟨w2, hw2⟩ : ∃ w2, ((w.alloc (.cells #[.int .i64 n.id, .int .i64 n.n, .int .i64 n.term, .int .i64 n.vote, .slice LA n.log.length LC, .int .i64 n.commit, .int .i64 n.role, .int .i64 n.boss, .slice VA n.votes.length VC, .slice NA n.next.length NC, .slice MA n.mtch.length MC] 25)).alloc (.cells #[.int .i64 m.kind, .int .i64 m.src, .int .i64 m.dst, .int .i64 m.term, .int .i64 m.index, .int .i64 m.logTerm, .int .i64 m.commit, .slice IA m.items.length IC, .bool m.yes] 38)).alloc (.cells zero11 25) = w2 := ⟨_, rfl⟩
  have k0 := k0.trans k3 (fun _ h => .inl h)
  have k1 := k3.blk k1
  have k2 := k3.blk k2
  clear k3
  rw [hw2] at k0 k1 k2 k4 ⊢
  have HBX := Lib.hid (show Boxed w Q w.heap.size (w.heap.size + 1 + 1) _ _ from Boxed.start H.out HQ.out k0 (by omega) k1 k4)
  have HMB := Lib.hid k2
  have hlt := laid_lt k4
  obtain ⟨b0, b1, b2, b3, b4, b5, b6, b7, b8, b9, b10, bf⟩ := cells11 k1
  obtain ⟨d0, d1, d2, d3, d4, d5, d6, d7, d8, df⟩ := cells9l k2
  obtain ⟨r0, r1, r2, r3, r4, r5, r6, r7, r8, r9, r10, rf⟩ := cells11 k4
  obtain ⟨B, hB⟩ : ∃ B, w.heap.size = B := ⟨_, rfl⟩
  simp only [hB] at HBX HMB hlt b0 b1 b2 b3 b4 b5 b6 b7 b8 b9 b10 bf d0 d1 d2 d3 d4 d5 d6 d7 d8 df r0 r1 r2 r3 r4 r5 r6 r7 r8 r9 r10 rf ⊢
  clear k0 k1 k2 k4 hw2
  cases hq1 : (wrong n != 0)
  case true =>
    have HE := Lib.hid (show receive n m = (n, []) by unfold receive; rw [if_pos (.inl (by simpa using hq1))])
    go_wp2_with (first
      | (go_at_call 19
         refine (HWR.out _ HBX.out.keeps).mono ?_
         rintro e w3 ⟨rfl, hk3⟩
         have hb3 := HBX.out.later hk3
         have hm3 := hk3.blk HMB.out
         clear d0 d1 d2 d3 d4 d5 d6 d7 d8 df b0 b1 b2 b3 b4 b5 b6 b7 b8 b9 b10 bf r0 r1 r2 r3 r4 r5 r6 r7 r8 r9 r10 rf
         obtain ⟨b0, b1, b2, b3, b4, b5, b6, b7, b8, b9, b10, bf⟩ := cells11 hb3.blk
         obtain ⟨d0, d1, d2, d3, d4, d5, d6, d7, d8, df⟩ := cells9l hm3
         obtain ⟨r0, r1, r2, r3, r4, r5, r6, r7, r8, r9, r10, rf⟩ := cells11 hb3.res
         simp only at b0 b1 b2 b3 b4 b5 b6 b7 b8 b9 b10
         have HB3 := Lib.hid hb3; have HM3 := Lib.hid hm3
         clear hk3 hb3 hm3 HWR
         obtain ⟨wf, hwf, hfb, hfk⟩ := put11l (v0 := .int .i64 n.id) (v1 := .int .i64 n.n) (v2 := .int .i64 n.term) (v3 := .int .i64 n.vote) (v4 := .slice LA n.log.length LC) (v5 := .int .i64 n.commit) (v6 := .int .i64 n.role) (v7 := .int .i64 n.boss) (v8 := .slice VA n.votes.length VC) (v9 := .slice NA n.next.length NC) (v10 := .slice MA n.mtch.length MC) HB3.out.res rfl))
    obtain ⟨q0, q1, q2, q3, q4, q5, q6, q7, q8, q9, q10, qf⟩ := cells11 hfb
    have FIN := Lib.hid (HB3.out.quiet hfk)
    clear hfb hfk
    refine bodyPost_ret (v := .tuple #[.agg #[.int .i64 n.id, .int .i64 n.n, .int .i64 n.term, .int .i64 n.vote, .slice LA n.log.length LC, .int .i64 n.commit, .int .i64 n.role, .int .i64 n.boss, .slice VA n.votes.length VC, .slice NA n.next.length NC, .slice MA n.mtch.length MC], .slice none 0 0]) (by simp [results, Try.results31, go_sem, q0, q1, q2, q3, q4, q5, q6, q7, q8, q9, q10]) rfl ?_
    rw [HE.out]
    exact FIN.out
  have hw0 : wrong n = 0 := by simpa using hq1
  cases hq2 : lost n m
  case true =>
    have HE := Lib.hid (show receive n m = (n, []) by unfold receive; rw [if_pos (.inr hq2)])
    rw [hq2] at HLA
    go_wp2_with (first
      | (go_at_call 19
         refine (HWR.out _ HBX.out.keeps).mono ?_
         rintro e w3 ⟨rfl, hk3⟩
         have hb3 := HBX.out.later hk3
         have hm3 := hk3.blk HMB.out
         clear d0 d1 d2 d3 d4 d5 d6 d7 d8 df b0 b1 b2 b3 b4 b5 b6 b7 b8 b9 b10 bf r0 r1 r2 r3 r4 r5 r6 r7 r8 r9 r10 rf
         obtain ⟨b0, b1, b2, b3, b4, b5, b6, b7, b8, b9, b10, bf⟩ := cells11 hb3.blk
         obtain ⟨d0, d1, d2, d3, d4, d5, d6, d7, d8, df⟩ := cells9l hm3
         obtain ⟨r0, r1, r2, r3, r4, r5, r6, r7, r8, r9, r10, rf⟩ := cells11 hb3.res
         simp only at b0 b1 b2 b3 b4 b5 b6 b7 b8 b9 b10
         have HB3 := Lib.hid hb3; have HM3 := Lib.hid hm3
         clear hk3 hb3 hm3 HWR)
      | (go_at_call 76
         refine (HLA.out _ HB3.out.keeps).mono ?_
         rintro e w4 ⟨rfl, hk4⟩
         have hb4 := HB3.out.later hk4
         have hm4 := hk4.blk HM3.out
         clear d0 d1 d2 d3 d4 d5 d6 d7 d8 df b0 b1 b2 b3 b4 b5 b6 b7 b8 b9 b10 bf r0 r1 r2 r3 r4 r5 r6 r7 r8 r9 r10 rf
         obtain ⟨b0, b1, b2, b3, b4, b5, b6, b7, b8, b9, b10, bf⟩ := cells11 hb4.blk
         obtain ⟨d0, d1, d2, d3, d4, d5, d6, d7, d8, df⟩ := cells9l hm4
         obtain ⟨r0, r1, r2, r3, r4, r5, r6, r7, r8, r9, r10, rf⟩ := cells11 hb4.res
         simp only at b0 b1 b2 b3 b4 b5 b6 b7 b8 b9 b10
         have HB4 := Lib.hid hb4; have HM4 := Lib.hid hm4
         clear hk4 hb4 hm4 HLA
         obtain ⟨wf, hwf, hfb, hfk⟩ := put11l (v0 := .int .i64 n.id) (v1 := .int .i64 n.n) (v2 := .int .i64 n.term) (v3 := .int .i64 n.vote) (v4 := .slice LA n.log.length LC) (v5 := .int .i64 n.commit) (v6 := .int .i64 n.role) (v7 := .int .i64 n.boss) (v8 := .slice VA n.votes.length VC) (v9 := .slice NA n.next.length NC) (v10 := .slice MA n.mtch.length MC) HB4.out.res rfl))
    obtain ⟨q0, q1, q2, q3, q4, q5, q6, q7, q8, q9, q10, qf⟩ := cells11 hfb
    have FIN := Lib.hid (HB4.out.quiet hfk)
    clear hfb hfk
    refine bodyPost_ret (v := .tuple #[.agg #[.int .i64 n.id, .int .i64 n.n, .int .i64 n.term, .int .i64 n.vote, .slice LA n.log.length LC, .int .i64 n.commit, .int .i64 n.role, .int .i64 n.boss, .slice VA n.votes.length VC, .slice NA n.next.length NC, .slice MA n.mtch.length MC], .slice none 0 0]) (by simp [results, Try.results31, go_sem, q0, q1, q2, q3, q4, q5, q6, q7, q8, q9, q10]) rfl ?_
    rw [HE.out]
    exact FIN.out
  rw [hq2] at HLA
  obtain ⟨hgy, hfy⟩ := received_fits (good_of_wrong hw0) hq2
  have HRT := Lib.hid (receive_turned hw0 hq2)
  have HGY := Lib.hid hgy; have HFY := Lib.hid hfy
  clear hw0 hgy hfy
  go_upto_region 3 with (first
      | (go_at_call 19
         refine (HWR.out _ HBX.out.keeps).mono ?_
         rintro e w3 ⟨rfl, hk3⟩
         have hb3 := HBX.out.later hk3
         have hm3 := hk3.blk HMB.out
         clear d0 d1 d2 d3 d4 d5 d6 d7 d8 df b0 b1 b2 b3 b4 b5 b6 b7 b8 b9 b10 bf r0 r1 r2 r3 r4 r5 r6 r7 r8 r9 r10 rf
         obtain ⟨b0, b1, b2, b3, b4, b5, b6, b7, b8, b9, b10, bf⟩ := cells11 hb3.blk
         obtain ⟨d0, d1, d2, d3, d4, d5, d6, d7, d8, df⟩ := cells9l hm3
         obtain ⟨r0, r1, r2, r3, r4, r5, r6, r7, r8, r9, r10, rf⟩ := cells11 hb3.res
         simp only at b0 b1 b2 b3 b4 b5 b6 b7 b8 b9 b10
         have HB3 := Lib.hid hb3; have HM3 := Lib.hid hm3
         clear hk3 hb3 hm3 HWR)
      | (go_at_call 76
         refine (HLA.out _ HB3.out.keeps).mono ?_
         rintro e w4 ⟨rfl, hk4⟩
         have hb4 := HB3.out.later hk4
         have hm4 := hk4.blk HM3.out
         clear d0 d1 d2 d3 d4 d5 d6 d7 d8 df b0 b1 b2 b3 b4 b5 b6 b7 b8 b9 b10 bf r0 r1 r2 r3 r4 r5 r6 r7 r8 r9 r10 rf
         obtain ⟨b0, b1, b2, b3, b4, b5, b6, b7, b8, b9, b10, bf⟩ := cells11 hb4.blk
         obtain ⟨d0, d1, d2, d3, d4, d5, d6, d7, d8, df⟩ := cells9l hm4
         obtain ⟨r0, r1, r2, r3, r4, r5, r6, r7, r8, r9, r10, rf⟩ := cells11 hb4.res
         simp only at b0 b1 b2 b3 b4 b5 b6 b7 b8 b9 b10
         have HB4 := Lib.hid hb4; have HM4 := Lib.hid hm4
         clear hk4 hb4 hm4 HLA))
  clear hq1 hq2 HB3 HM3 HBX HMB r0 r1 r2 r3 r4 r5 r6 r7 r8 r9 r10 rf
  go_upto_if 29 with fail
  go_cut [30] (fun _ wx => ∃ lv vv nv mv, Boxed w Q B (B + 1 + 1) ⟨if n.term < m.term then follow n m.term 0 else n, lv, vv, nv, mv⟩ wx ∧ wx.heap[B + 1]? = some (.cells #[.int .i64 m.kind, .int .i64 m.src, .int .i64 m.dst, .int .i64 m.term, .int .i64 m.index, .int .i64 m.logTerm, .int .i64 m.commit, .slice IA m.items.length IC, .bool m.yes] 38 (0, 0)))
  case first =>
    by_cases hlt : n.term < m.term
    · have hfo : follow n m.term 0 = { n with term := m.term, vote := 0, role := 1, boss := 0, votes := [], next := [], mtch := [] } := by unfold follow; rw [if_pos hlt, if_pos hlt]
      have HFO := Lib.hid hfo
      have hfl := follower_any HB4.out.ok 0
      simp only [nodCells] at hfl
      have HFL := Lib.hid hfl
      have hrl := HB4.out.rlt
      clear hfl hfo
      go_upto_region 5 with (first
        | (go_at_call 70
           refine HFL.out.mono ?_
           rintro e w5 ⟨⟨y, lv3, vv3, nv3, mv3⟩, rfl, hx3, hok3, hk5⟩
           obtain ⟨LA1, LC1, VA1, VC1, NA1, NC1, MA1, MC1, e1, e2, e3, e4⟩ := hok3.shape
           simp only at e1 e2 e3 e4 hx3
           subst e1 e2 e3 e4
           have HX3 := Lib.hid hx3
           have hb9 := HB4.out.later hk5
           have hm9 := hk5.blk HM4.out
           clear d0 d1 d2 d3 d4 d5 d6 d7 d8 df b0 b1 b2 b3 b4 b5 b6 b7 b8 b9 b10 bf
           obtain ⟨wf, hwf, hfb, hfk⟩ := put11l (v0 := .int .i64 y.id) (v1 := .int .i64 y.n) (v2 := .int .i64 y.term) (v3 := .int .i64 y.vote) (v4 := .slice LA1 y.log.length LC1) (v5 := .int .i64 y.commit) (v6 := .int .i64 y.role) (v7 := .int .i64 y.boss) (v8 := .slice VA1 y.votes.length VC1) (v9 := .slice NA1 y.next.length NC1) (v10 := .slice MA1 y.mtch.length MC1) hb9.blk rfl
           obtain ⟨b0, b1, b2, b3, b4, b5, b6, b7, b8, b9, b10, bf⟩ := cells11 hb9.blk
           simp only at b0 b1 b2 b3 b4 b5 b6 b7 b8 b9 b10
           have HB10 := Lib.hid (hb9.put (y := ⟨y, .slice LA1 y.log.length LC1, .slice VA1 y.votes.length VC1, .slice NA1 y.next.length NC1, .slice MA1 y.mtch.length MC1⟩) hfk hfb hok3)
           have HM10 := Lib.hid ((hfk.block (B + 1) (laid_lt hm9) (by omega)).trans hm9)
           clear hx3 hok3 hfk hb9 hm9))
      first | rw [hwf] | skip
      clear HFL hk5 b0 b1 b2 b3 b4 b5 b6 b7 b8 b9 b10 bf hfb hwf
      obtain ⟨b0, b1, b2, b3, b4, b5, b6, b7, b8, b9, b10, bf⟩ := cells11 HB10.out.blk
      obtain ⟨d0, d1, d2, d3, d4, d5, d6, d7, d8, df⟩ := cells9l HM10.out
      simp only at b0 b1 b2 b3 b4 b5 b6 b7 b8 b9 b10
      have hb11 := (HB10.out.set 2 (.int .i64 m.term) ⟨{ y with term := m.term }, .slice LA1 y.log.length LC1, .slice VA1 y.votes.length VC1, .slice NA1 y.next.length NC1, .slice MA1 y.mtch.length MC1⟩ rfl ⟨HB10.out.ok.log, HB10.out.ok.votes, HB10.out.ok.next, HB10.out.ok.mtch⟩)
      have hb12 := hb11.set 3 (.int .i64 0) ⟨{ y with term := m.term, vote := 0 }, .slice LA1 y.log.length LC1, .slice VA1 y.votes.length VC1, .slice NA1 y.next.length NC1, .slice MA1 y.mtch.length MC1⟩ rfl ⟨hb11.ok.log, hb11.ok.votes, hb11.ok.next, hb11.ok.mtch⟩
      have hm12 := (Below.heap_setCell (wf.setCell ⟨B, 2, none⟩ (.int .i64 m.term)) ⟨B, 3, none⟩ (.int .i64 0) (B + 1) (by simp)).trans ((Below.heap_setCell wf ⟨B, 2, none⟩ (.int .i64 m.term) (B + 1) (by simp)).trans HM10.out)
      have hy12 : ({ y with term := m.term, vote := 0 } : Nod) = if n.term < m.term then follow n m.term 0 else n := by rw [if_pos hlt, HFO.out, HX3.out]
      rw [hy12] at hb12
      have HB12 := Lib.hid hb12; have HM12 := Lib.hid hm12
      clear hb11 hb12 hm12 hy12
      go_wp2_with fail
      go_meet
      exact ⟨_, _, _, _, HB12.out, HM12.out⟩
    · have hy12 : n = if n.term < m.term then follow n m.term 0 else n := by rw [if_neg hlt]
      have hb12 := HB4.out
      rw [hy12] at hb12
      have HB12 := Lib.hid hb12
      clear hb12 hy12
      go_wp2_with fail
      go_meet
      exact ⟨_, _, _, _, HB12.out, HM4.out⟩
  case rest =>
    obtain ⟨lv1, vv1, nv1, mv1, hb, hmb⟩ := hcut
    have hle : m.term ≤ (if n.term < m.term then follow n m.term 0 else n).term := by
      split
      · rename_i h; unfold follow; simp only [if_pos h]; omega
      · omega
    obtain ⟨y, hy⟩ : ∃ y, (if n.term < m.term then follow n m.term 0 else n) = y := ⟨_, rfl⟩
    rw [hy] at hb HRT HGY HFY hle
    clear hy HB4 HM4 d0 d1 d2 d3 d4 d5 d6 d7 d8 df b0 b1 b2 b3 b4 b5 b6 b7 b8 b9 b10 bf
    obtain ⟨LA1, LC1, VA1, VC1, NA1, NC1, MA1, MC1, e1, e2, e3, e4⟩ := hb.ok.shape
    subst e1 e2 e3 e4
    have HLE := Lib.hid hle; have HB5 := Lib.hid hb; have HM5 := Lib.hid hmb
    have hyl := HGY.out.log60
    have hat := at_any (w := wc.alloc (.cells #[.int .i64 0, .int .i64 y.id, .int .i64 m.src, .int .i64 y.term, .int .i64 0, .int .i64 0, .int .i64 0, .slice none 0 0, .bool false] 38)) (HB5.out.later ((Keeps.refl Free wc).alloc _)).free.log (y.log.length : Int) (by simp only; omega)
    simp only at hat
    have HAT := Lib.hid hat
    obtain ⟨b0, b1, b2, b3, b4, b5, b6, b7, b8, b9, b10, bf⟩ := cells11 hb.blk
    obtain ⟨d0, d1, d2, d3, d4, d5, d6, d7, d8, df⟩ := cells9l hmb
    simp only at b0 b1 b2 b3 b4 b5 b6 b7 b8 b9 b10
    have hrl := hb.rlt
    have hbl5 := laid_lt hb.blk
    have hbm5 := laid_lt hmb
    clear hle hb hmb hat
    go_upto_region 9 with (first
      | (go_at_call 51; refine HAT.out.mono ?_; rintro e w6 ⟨rfl, rfl⟩; clear HAT))
    obtain ⟨w7, hw7⟩ : ∃ w7, wc.alloc (.cells #[.int .i64 0, .int .i64 y.id, .int .i64 m.src, .int .i64 y.term, .int .i64 0, .int .i64 0, .int .i64 0, .slice none 0 0, .bool false] 38) = w7 := ⟨_, rfl⟩
    obtain ⟨P, hP⟩ : ∃ P, wc.heap.size = P := ⟨_, rfl⟩
    have hk7 := (Keeps.refl Free wc).alloc (.cells #[.int .i64 0, .int .i64 y.id, .int .i64 m.src, .int .i64 y.term, .int .i64 0, .int .i64 0, .int .i64 0, .slice none 0 0, .bool false] 38)
    have hp7 := heap_alloc_new wc (.cells #[.int .i64 0, .int .i64 y.id, .int .i64 m.src, .int .i64 y.term, .int .i64 0, .int .i64 0, .int .i64 0, .slice none 0 0, .bool false] 38)
    rw [hw7] at hk7 hp7 ⊢
    rw [hP] at hp7 hrl hbl5 hbm5 ⊢
    have HK7 := Lib.hid hk7; have HP7 := Lib.hid hp7; have HPS := Lib.hid hP
    have HB7 := Lib.hid (HB5.out.later hk7); have HM7 := Lib.hid (hk7.blk HM5.out)
    clear hw7 hk7 hp7 hP d0 d1 d2 d3 d4 d5 d6 d7 d8 df b0 b1 b2 b3 b4 b5 b6 b7 b8 b9 b10 bf
    obtain ⟨b0, b1, b2, b3, b4, b5, b6, b7, b8, b9, b10, bf⟩ := cells11 HB7.out.blk
    obtain ⟨d0, d1, d2, d3, d4, d5, d6, d7, d8, df⟩ := cells9l HM7.out
    obtain ⟨p0, p1, p2, p3, p4, p5, p6, p7, p8, pf⟩ := cells9l HP7.out
    simp only at b0 b1 b2 b3 b4 b5 b6 b7 b8 b9 b10
    have hml := HFY.out.items60
    have hbl := laid_lt HB7.out.blk
    have hk1 : (m.kind == 1) = false := by have := HKK.out; rw [beq_eq_false_iff_ne]; omega
    have hk2 : (m.kind == 2) = false := by have := HKK.out; rw [beq_eq_false_iff_ne]; omega
    have hk3 : (m.kind == 3) = false := by have := HKK.out; rw [beq_eq_false_iff_ne]; omega
    have hn1 : ¬ m.kind = 1 := by simpa using hk1
    have hn2 : ¬ m.kind = 2 := by simpa using hk2
    have hn3 : ¬ m.kind = 3 := by simpa using hk3
    have HTU := Lib.hid (show receive n m = told y m by rw [HRT.out]; unfold turned; rw [if_neg hn1, if_neg hn2, if_neg hn3])
    clear hn1 hn2 hn3
    cases r0 : (y.role != 3)
    case true =>
      have HE := Lib.hid (show receive n m = (y, []) by rw [HTU.out]; unfold told; rw [if_pos (.inl (by simpa using r0))])
      obtain ⟨wf, hwf, hfb, hfk⟩ := put11l (v0 := .int .i64 y.id) (v1 := .int .i64 y.n) (v2 := .int .i64 y.term) (v3 := .int .i64 y.vote) (v4 := .slice LA1 y.log.length LC1) (v5 := .int .i64 y.commit) (v6 := .int .i64 y.role) (v7 := .int .i64 y.boss) (v8 := .slice VA1 y.votes.length VC1) (v9 := .slice NA1 y.next.length NC1) (v10 := .slice MA1 y.mtch.length MC1) HB7.out.res rfl
      obtain ⟨r0, r1, r2, r3, r4, r5, r6, r7, r8, r9, r10, rf⟩ := cells11 HB7.out.res
      go_wp2_with fail
      obtain ⟨q0, q1, q2, q3, q4, q5, q6, q7, q8, q9, q10, qf⟩ := cells11 hfb
      have FIN := Lib.hid (HB7.out.quiet hfk)
      clear hfb hfk
      refine bodyPost_ret (v := .tuple #[.agg #[.int .i64 y.id, .int .i64 y.n, .int .i64 y.term, .int .i64 y.vote, .slice LA1 y.log.length LC1, .int .i64 y.commit, .int .i64 y.role, .int .i64 y.boss, .slice VA1 y.votes.length VC1, .slice NA1 y.next.length NC1, .slice MA1 y.mtch.length MC1], .slice none 0 0]) (by simp [results, Try.results31, go_sem, q0, q1, q2, q3, q4, q5, q6, q7, q8, q9, q10]) rfl ?_
      rw [HE.out]
      exact FIN.out
    cases c0 : (m.term == y.term)
    case false =>
      have HE := Lib.hid (show receive n m = (y, []) by rw [HTU.out]; unfold told; rw [if_pos (.inr (by simpa using c0))])
      obtain ⟨wf, hwf, hfb, hfk⟩ := put11l (v0 := .int .i64 y.id) (v1 := .int .i64 y.n) (v2 := .int .i64 y.term) (v3 := .int .i64 y.vote) (v4 := .slice LA1 y.log.length LC1) (v5 := .int .i64 y.commit) (v6 := .int .i64 y.role) (v7 := .int .i64 y.boss) (v8 := .slice VA1 y.votes.length VC1) (v9 := .slice NA1 y.next.length NC1) (v10 := .slice MA1 y.mtch.length MC1) HB7.out.res rfl
      obtain ⟨r0, r1, r2, r3, r4, r5, r6, r7, r8, r9, r10, rf⟩ := cells11 HB7.out.res
      go_wp2_with fail
      obtain ⟨q0, q1, q2, q3, q4, q5, q6, q7, q8, q9, q10, qf⟩ := cells11 hfb
      have FIN := Lib.hid (HB7.out.quiet hfk)
      clear hfb hfk
      refine bodyPost_ret (v := .tuple #[.agg #[.int .i64 y.id, .int .i64 y.n, .int .i64 y.term, .int .i64 y.vote, .slice LA1 y.log.length LC1, .int .i64 y.commit, .int .i64 y.role, .int .i64 y.boss, .slice VA1 y.votes.length VC1, .slice NA1 y.next.length NC1, .slice MA1 y.mtch.length MC1], .slice none 0 0]) (by simp [results, Try.results31, go_sem, q0, q1, q2, q3, q4, q5, q6, q7, q8, q9, q10]) rfl ?_
      rw [HE.out]
      exact FIN.out
    have hr3 : y.role = 3 := by simpa using r0
    have hte : m.term = y.term := by simpa using c0
    have HE := Lib.hid (show receive n m = heardP y m by rw [HTU.out]; unfold told heardP; rw [if_neg (by omega)])
    have hms : MesOk w7 Free ⟨m, .slice IA m.items.length IC⟩ := Sl.keep (show Sl w Free (.slice IA m.items.length IC) 2 (itemCells m.items) from HM.out) HB7.out.keeps (fun _ _ h => h)
    have hhd := heardR_any HB7.out.ok HB7.out.oldS hms HGY.out hr3 HFY.out.src1 HFY.out.srcn HFY.out.index0 HFY.out.index60
    simp only [nodCells, mesCells] at hhd
    have HHD := Lib.hid hhd
    clear hr3 hte hms hhd
    go_wp2_with (first
      | (go_at_call 78
         refine HHD.out.mono ?_
         rintro e w9 ⟨⟨x3, lv3, vv3, nv3, mv3⟩, ov, out, rfl, hx3, hso, hok3, hms, hk9⟩
         obtain ⟨LA3, LC3, VA3, VC3, NA3, NC3, MA3, MC3, e1, e2, e3, e4⟩ := hok3.shape
         simp only at e1 e2 e3 e4 hx3
         subst e1 e2 e3 e4
         have HX3 := Lib.hid hx3; have HSO := Lib.hid hso
         simp only [nodCells]
         have hres := hk9.blk HB7.out.res
         obtain ⟨wf, hwf, hfb, hfk⟩ := put11l (v0 := .int .i64 x3.id) (v1 := .int .i64 x3.n) (v2 := .int .i64 x3.term) (v3 := .int .i64 x3.vote) (v4 := .slice LA3 x3.log.length LC3) (v5 := .int .i64 x3.commit) (v6 := .int .i64 x3.role) (v7 := .int .i64 x3.boss) (v8 := .slice VA3 x3.votes.length VC3) (v9 := .slice NA3 x3.next.length NC3) (v10 := .slice MA3 x3.mtch.length MC3) hres rfl
         have FIN := Lib.hid (HB7.out.pass hk9 hok3 hms hfk)
         clear b0 b1 b2 b3 b4 b5 b6 b7 b8 b9 b10 bf d0 d1 d2 d3 d4 d5 d6 d7 d8 df p0 p1 p2 p3 p4 p5 p6 p7 p8 pf
         obtain ⟨r0, r1, r2, r3, r4, r5, r6, r7, r8, r9, r10, rf⟩ := cells11 hres
         clear hx3 hso hk9 hms hok3 hfk hres))
    obtain ⟨q0, q1, q2, q3, q4, q5, q6, q7, q8, q9, q10, qf⟩ := cells11 hfb
    clear hfb
    refine bodyPost_ret (v := .tuple #[.agg #[.int .i64 x3.id, .int .i64 x3.n, .int .i64 x3.term, .int .i64 x3.vote, .slice LA3 x3.log.length LC3, .int .i64 x3.commit, .int .i64 x3.role, .int .i64 x3.boss, .slice VA3 x3.votes.length VC3, .slice NA3 x3.next.length NC3, .slice MA3 x3.mtch.length MC3], ov]) (by simp [results, Try.results31, go_sem, q0, q1, q2, q3, q4, q5, q6, q7, q8, q9, q10]) rfl ?_
    rw [HE.out, ← HX3.out, ← HSO.out]
    exact FIN.out
end Go.Proofs.Ytibjbpakbfodaaa
