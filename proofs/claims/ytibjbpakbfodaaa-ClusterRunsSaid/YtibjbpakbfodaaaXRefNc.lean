/- The document's answer, chapter 15: Receive, kind 3. -/
import Derived.Test.YtibjbpakbfodaaaXRefM
namespace Go.Proofs.Ytibjbpakbfodaaa
open Go.RowKit

/-- A block of no concern to it has been written. -/
theorem Boxed.sidek3 {w wx wy : World} {Q : Nat → Prop} {B r P : Nat} {x : NodV} (h : Boxed w Q B r x wx) (hP : r < P) (hk : Keeps (fun k => k = P) wx wy) (hx : NodeOk wx (fun k => (Q k ∨ (B ≤ k ∧ k ≤ r)) ∨ k = P) x) : Boxed w Q B r x wy :=
  ⟨h.keeps.trans hk (fun k e => .inr (by have := h.le; have := h.lt; omega)), h.le, h.lt, h.old, (hk.block B (laid_lt h.blk) (fun e => by have := h.lt; omega)).trans h.blk, (hk.block r h.rlt (fun e => by omega)).trans h.res, hx.into hk (fun k _ e => .inr e) (fun _ _ h => .inl h)⟩

set_option maxRecDepth 100000 in
set_option maxHeartbeats 32000000 in
theorem receiveR_k3 {w : World} {Q : Nat → Prop} {x : NodV} {m : MesV} (h : NodeOk w Q x) (hQ : ∀ k, Q k → k < w.heap.size) (hs : Sized x.n) (hm : MesOk w Free m) (hi : m.m.items.length ≤ 2000000) (hkk : m.m.kind = 3) :
    Calls Try.prog 31 #[.agg (nodCells x).toArray, .agg (mesCells m).toArray] w (HandsR w Q (receive x.n m.m).1 (receive x.n m.m).2) := by
  have H := Lib.hid h; have HQ := Lib.hid hQ; have HM := Lib.hid hm
  have hwr : ∀ w1, Keeps Free w w1 → Calls Try.prog 19 #[.agg (nodCells x).toArray] w1 fun e w' => e = .returned (.int .i64 (wrong x.n)) ∧ Keeps Free w1 w' := fun w1 hk => wrongR_any (h.into hk (fun _ _ h => h.elim) (fun _ _ h => h.elim)) hs.log hs.votes hs.next hs.mtch
  have hla : ∀ w1, Keeps Free w w1 → Calls Try.prog 76 #[.agg (nodCells x).toArray, .agg (mesCells m).toArray] w1 fun e w' => e = .returned (.bool (lost x.n m.m)) ∧ Keeps Free w1 w' := fun w1 hk => lostR_any (h.into hk (fun _ _ h => h.elim) (fun _ _ h => h.elim)) (Sl.keep (show Sl w Free m.iv 2 (itemCells m.m.items) from hm) hk (fun _ _ h => h)) hi
  have HWR := Lib.hid hwr; have HLA := Lib.hid hla; have HKK := Lib.hid hkk
  have hsl := hs.log
  obtain ⟨n, lv, vv, nv, mv⟩ := x
  obtain ⟨LA, LC, VA, VC, NA, NC, MA, MC, rfl, rfl, rfl, rfl⟩ := h.shape
  obtain ⟨m, iv⟩ := m
  obtain ⟨IA, IC, hiv⟩ := hm.shape
  simp only at hiv hi hsl
  subst hiv
  clear h hm hQ hs hwr hla hkk
  simp only [nodCells, mesCells] at HWR HLA ⊢
  go_enter Try.func31, Try.ntmps31
  go_upto_region 1 with fail
  obtain ⟨k0, k1, k2⟩ := two_boxes w (.cells #[.int .i64 n.id, .int .i64 n.n, .int .i64 n.term, .int .i64 n.vote, .slice LA n.log.length LC, .int .i64 n.commit, .int .i64 n.role, .int .i64 n.boss, .slice VA n.votes.length VC, .slice NA n.next.length NC, .slice MA n.mtch.length MC] 25) (.cells #[.int .i64 m.kind, .int .i64 m.src, .int .i64 m.dst, .int .i64 m.term, .int .i64 m.index, .int .i64 m.logTerm, .int .i64 m.commit, .slice IA m.items.length IC, .bool m.yes] 38)
  have k3 := (Keeps.refl Free ((w.alloc (.cells #[.int .i64 n.id, .int .i64 n.n, .int .i64 n.term, .int .i64 n.vote, .slice LA n.log.length LC, .int .i64 n.commit, .int .i64 n.role, .int .i64 n.boss, .slice VA n.votes.length VC, .slice NA n.next.length NC, .slice MA n.mtch.length MC] 25)).alloc (.cells #[.int .i64 m.kind, .int .i64 m.src, .int .i64 m.dst, .int .i64 m.term, .int .i64 m.index, .int .i64 m.logTerm, .int .i64 m.commit, .slice IA m.items.length IC, .bool m.yes] 38))).alloc (.cells zero11 25)
  have k4 := heap_alloc_new ((w.alloc (.cells #[.int .i64 n.id, .int .i64 n.n, .int .i64 n.term, .int .i64 n.vote, .slice LA n.log.length LC, .int .i64 n.commit, .int .i64 n.role, .int .i64 n.boss, .slice VA n.votes.length VC, .slice NA n.next.length NC, .slice MA n.mtch.length MC] 25)).alloc (.cells #[.int .i64 m.kind, .int .i64 m.src, .int .i64 m.dst, .int .i64 m.term, .int .i64 m.index, .int .i64 m.logTerm, .int .i64 m.commit, .slice IA m.items.length IC, .bool m.yes] 38)) (.cells zero11 25)
  simp only [World.size_alloc] at k4
  obtain ⟨w2, hw2⟩ : ∃ w2, ((w.alloc (.cells #[.int .i64 n.id, .int .i64 n.n, .int .i64 n.term, .int .i64 n.vote, .slice LA n.log.length LC, .int .i64 n.commit, .int .i64 n.role, .int .i64 n.boss, .slice VA n.votes.length VC, .slice NA n.next.length NC, .slice MA n.mtch.length MC] 25)).alloc (.cells #[.int .i64 m.kind, .int .i64 m.src, .int .i64 m.dst, .int .i64 m.term, .int .i64 m.index, .int .i64 m.logTerm, .int .i64 m.commit, .slice IA m.items.length IC, .bool m.yes] 38)).alloc (.cells zero11 25) = w2 := ⟨_, rfl⟩
  have k0 := k0.trans k3 (fun _ h => .inl h)
  have k1 := k3.blk k1
  have k2 := k3.blk k2
  clear k3
  rw [hw2] at k0 k1 k2 k4 ⊢
  have HBX := Lib.hid (show Boxed w Q w.heap.size (w.heap.size + 1 + 1) _ _ from Boxed.start H.out HQ.out k0 (by omega) k1 k4)
  have HMB := Lib.hid k2
  have hlt := laid_lt k4
  obtain ⟨b0, b1, b2, b3, b4, b5, b6, b7, b8, b9, b10, bf⟩ := cells11 k1
  obtain ⟨d0, d1, d2, d3, d4, d5, d6, d7, d8, df⟩ := cells9l k2
  obtain ⟨r0, r1, r2, r3, r4, r5, r6, r7, r8, r9, r10, rf⟩ := cells11 k4
  obtain ⟨B, hB⟩ : ∃ B, w.heap.size = B := ⟨_, rfl⟩
  simp only [hB] at HBX HMB hlt b0 b1 b2 b3 b4 b5 b6 b7 b8 b9 b10 bf d0 d1 d2 d3 d4 d5 d6 d7 d8 df r0 r1 r2 r3 r4 r5 r6 r7 r8 r9 r10 rf ⊢
  clear k0 k1 k2 k4 hw2
  cases hq1 : (wrong n != 0)
  case true =>
    have HE := Lib.hid (show receive n m = (n, []) by unfold receive; rw [if_pos (.inl (by simpa using hq1))])
    go_wp2_with (first
      | (go_at_call 19
         refine (HWR.out _ HBX.out.keeps).mono ?_
         rintro e w3 ⟨rfl, hk3⟩
         have hb3 := HBX.out.later hk3
         have hm3 := hk3.blk HMB.out
         clear d0 d1 d2 d3 d4 d5 d6 d7 d8 df b0 b1 b2 b3 b4 b5 b6 b7 b8 b9 b10 bf r0 r1 r2 r3 r4 r5 r6 r7 r8 r9 r10 rf
         obtain ⟨b0, b1, b2, b3, b4, b5, b6, b7, b8, b9, b10, bf⟩ := cells11 hb3.blk
         obtain ⟨d0, d1, d2, d3, d4, d5, d6, d7, d8, df⟩ := cells9l hm3
         obtain ⟨r0, r1, r2, r3, r4, r5, r6, r7, r8, r9, r10, rf⟩ := cells11 hb3.res
         simp only at b0 b1 b2 b3 b4 b5 b6 b7 b8 b9 b10
         have HB3 := Lib.hid hb3; have HM3 := Lib.hid hm3
         clear hk3 hb3 hm3 HWR
         obtain ⟨wf, hwf, hfb, hfk⟩ := put11l (v0 := .int .i64 n.id) (v1 := .int .i64 n.n) (v2 := .int .i64 n.term) (v3 := .int .i64 n.vote) (v4 := .slice LA n.log.length LC) (v5 := .int .i64 n.commit) (v6 := .int .i64 n.role) (v7 := .int .i64 n.boss) (v8 := .slice VA n.votes.length VC) (v9 := .slice NA n.next.length NC) (v10 := .slice MA n.mtch.length MC) HB3.out.res rfl))
    obtain ⟨q0, q1, q2, q3, q4, q5, q6, q7, q8, q9, q10, qf⟩ := cells11 hfb
    have FIN := Lib.hid (HB3.out.quiet hfk)
    clear hfb hfk
    refine bodyPost_ret (v := .tuple #[.agg #[.int .i64 n.id, .int .i64 n.n, .int .i64 n.term, .int .i64 n.vote, .slice LA n.log.length LC, .int .i64 n.commit, .int .i64 n.role, .int .i64 n.boss, .slice VA n.votes.length VC, .slice NA n.next.length NC, .slice MA n.mtch.length MC], .slice none 0 0]) (by simp [results, Try.results31, go_sem, q0, q1, q2, q3, q4, q5, q6, q7, q8, q9, q10]) rfl ?_
    rw [HE.out]
    exact FIN.out
  have hw0 : wrong n = 0 := by simpa using hq1
  cases hq2 : lost n m
  case true =>
    have HE := Lib.hid (show receive n m = (n, []) by unfold receive; rw [if_pos (.inr hq2)])
    rw [hq2] at HLA
    go_wp2_with (first
      | (go_at_call 19
         refine (HWR.out _ HBX.out.keeps).mono ?_
         rintro e w3 ⟨rfl, hk3⟩
         have hb3 := HBX.out.later hk3
         have hm3 := hk3.blk HMB.out
         clear d0 d1 d2 d3 d4 d5 d6 d7 d8 df b0 b1 b2 b3 b4 b5 b6 b7 b8 b9 b10 bf r0 r1 r2 r3 r4 r5 r6 r7 r8 r9 r10 rf
         obtain ⟨b0, b1, b2, b3, b4, b5, b6, b7, b8, b9, b10, bf⟩ := cells11 hb3.blk
         obtain ⟨d0, d1, d2, d3, d4, d5, d6, d7, d8, df⟩ := cells9l hm3
         obtain ⟨r0, r1, r2, r3, r4, r5, r6, r7, r8, r9, r10, rf⟩ := cells11 hb3.res
         simp only at b0 b1 b2 b3 b4 b5 b6 b7 b8 b9 b10
         have HB3 := Lib.hid hb3; have HM3 := Lib.hid hm3
         clear hk3 hb3 hm3 HWR)
      | (go_at_call 76
         refine (HLA.out _ HB3.out.keeps).mono ?_
         rintro e w4 ⟨rfl, hk4⟩
         have hb4 := HB3.out.later hk4
         have hm4 := hk4.blk HM3.out
         clear d0 d1 d2 d3 d4 d5 d6 d7 d8 df b0 b1 b2 b3 b4 b5 b6 b7 b8 b9 b10 bf r0 r1 r2 r3 r4 r5 r6 r7 r8 r9 r10 rf
         obtain ⟨b0, b1, b2, b3, b4, b5, b6, b7, b8, b9, b10, bf⟩ := cells11 hb4.blk
         obtain ⟨d0, d1, d2, d3, d4, d5, d6, d7, d8, df⟩ := cells9l hm4
         obtain ⟨r0, r1, r2, r3, r4, r5, r6, r7, r8, r9, r10, rf⟩ := cells11 hb4.res
         simp only at b0 b1 b2 b3 b4 b5 b6 b7 b8 b9 b10
         have HB4 := Lib.hid hb4; have HM4 := Lib.hid hm4
         clear hk4 hb4 hm4 HLA
         obtain ⟨wf, hwf, hfb, hfk⟩ := put11l (v0 := .int .i64 n.id) (v1 := .int .i64 n.n) (v2 := .int .i64 n.term) (v3 := .int .i64 n.vote) (v4 := .slice LA n.log.length LC) (v5 := .int .i64 n.commit) (v6 := .int .i64 n.role) (v7 := .int .i64 n.boss) (v8 := .slice VA n.votes.length VC) (v9 := .slice NA n.next.length NC) (v10 := .slice MA n.mtch.length MC) HB4.out.res rfl))
    obtain ⟨q0, q1, q2, q3, q4, q5, q6, q7, q8, q9, q10, qf⟩ := cells11 hfb
    have FIN := Lib.hid (HB4.out.quiet hfk)
    clear hfb hfk
    refine bodyPost_ret (v := .tuple #[.agg #[.int .i64 n.id, .int .i64 n.n, .int .i64 n.term, .int .i64 n.vote, .slice LA n.log.length LC, .int .i64 n.commit, .int .i64 n.role, .int .i64 n.boss, .slice VA n.votes.length VC, .slice NA n.next.length NC, .slice MA n.mtch.length MC], .slice none 0 0]) (by simp [results, Try.results31, go_sem, q0, q1, q2, q3, q4, q5, q6, q7, q8, q9, q10]) rfl ?_
    rw [HE.out]
    exact FIN.out
  rw [hq2] at HLA
  obtain ⟨hgy, hfy⟩ := received_fits (good_of_wrong hw0) hq2
  have HRT := Lib.hid (receive_turned hw0 hq2)
  have HGY := Lib.hid hgy; have HFY := Lib.hid hfy
  clear hw0 hgy hfy
  go_upto_region 3 with (first
      | (go_at_call 19
         refine (HWR.out _ HBX.out.keeps).mono ?_
         rintro e w3 ⟨rfl, hk3⟩
         have hb3 := HBX.out.later hk3
         have hm3 := hk3.blk HMB.out
         clear d0 d1 d2 d3 d4 d5 d6 d7 d8 df b0 b1 b2 b3 b4 b5 b6 b7 b8 b9 b10 bf r0 r1 r2 r3 r4 r5 r6 r7 r8 r9 r10 rf
         obtain ⟨b0, b1, b2, b3, b4, b5, b6, b7, b8, b9, b10, bf⟩ := cells11 hb3.blk
         obtain ⟨d0, d1, d2, d3, d4, d5, d6, d7, d8, df⟩ := cells9l hm3
         obtain ⟨r0, r1, r2, r3, r4, r5, r6, r7, r8, r9, r10, rf⟩ := cells11 hb3.res
         simp only at b0 b1 b2 b3 b4 b5 b6 b7 b8 b9 b10
         have HB3 := Lib.hid hb3; have HM3 := Lib.hid hm3
         clear hk3 hb3 hm3 HWR)
      | (go_at_call 76
         refine (HLA.out _ HB3.out.keeps).mono ?_
         rintro e w4 ⟨rfl, hk4⟩
         have hb4 := HB3.out.later hk4
         have hm4 := hk4.blk HM3.out
         clear d0 d1 d2 d3 d4 d5 d6 d7 d8 df b0 b1 b2 b3 b4 b5 b6 b7 b8 b9 b10 bf r0 r1 r2 r3 r4 r5 r6 r7 r8 r9 r10 rf
         obtain ⟨b0, b1, b2, b3, b4, b5, b6, b7, b8, b9, b10, bf⟩ := cells11 hb4.blk
         obtain ⟨d0, d1, d2, d3, d4, d5, d6, d7, d8, df⟩ := cells9l hm4
         obtain ⟨r0, r1, r2, r3, r4, r5, r6, r7, r8, r9, r10, rf⟩ := cells11 hb4.res
         simp only at b0 b1 b2 b3 b4 b5 b6 b7 b8 b9 b10
         have HB4 := Lib.hid hb4; have HM4 := Lib.hid hm4
         clear hk4 hb4 hm4 HLA))
  clear hq1 hq2 HB3 HM3 HBX HMB r0 r1 r2 r3 r4 r5 r6 r7 r8 r9 r10 rf
  go_upto_if 29 with fail
  go_cut [30] (fun _ wx => ∃ lv vv nv mv, Boxed w Q B (B + 1 + 1) ⟨if n.term < m.term then follow n m.term 0 else n, lv, vv, nv, mv⟩ wx ∧ wx.heap[B + 1]? = some (.cells #[.int .i64 m.kind, .int .i64 m.src, .int .i64 m.dst, .int .i64 m.term, .int .i64 m.index, .int .i64 m.logTerm, .int .i64 m.commit, .slice IA m.items.length IC, .bool m.yes] 38 (0, 0)))
  case first =>
    by_cases hlt : n.term < m.term
    · have hfo : follow n m.term 0 = { n with term := m.term, vote := 0, role := 1, boss := 0, votes := [], next := [], mtch := [] } := by unfold follow; rw [if_pos hlt, if_pos hlt]
      have HFO := Lib.hid hfo
      have hfl := follower_any HB4.out.ok 0
      simp only [nodCells] at hfl
      have HFL := Lib.hid hfl
      have hrl := HB4.out.rlt
      clear hfl hfo
      go_upto_region 5 with (first
        | (go_at_call 70
           refine HFL.out.mono ?_
           rintro e w5 ⟨⟨y, lv3, vv3, nv3, mv3⟩, rfl, hx3, hok3, hk5⟩
           obtain ⟨LA1, LC1, VA1, VC1, NA1, NC1, MA1, MC1, e1, e2, e3, e4⟩ := hok3.shape
           simp only at e1 e2 e3 e4 hx3
           subst e1 e2 e3 e4
           have HX3 := Lib.hid hx3
           have hb9 := HB4.out.later hk5
           have hm9 := hk5.blk HM4.out
           clear d0 d1 d2 d3 d4 d5 d6 d7 d8 df b0 b1 b2 b3 b4 b5 b6 b7 b8 b9 b10 bf
           obtain ⟨wf, hwf, hfb, hfk⟩ := put11l (v0 := .int .i64 y.id) (v1 := .int .i64 y.n) (v2 := .int .i64 y.term) (v3 := .int .i64 y.vote) (v4 := .slice LA1 y.log.length LC1) (v5 := .int .i64 y.commit) (v6 := .int .i64 y.role) (v7 := .int .i64 y.boss) (v8 := .slice VA1 y.votes.length VC1) (v9 := .slice NA1 y.next.length NC1) (v10 := .slice MA1 y.mtch.length MC1) hb9.blk rfl
           obtain ⟨b0, b1, b2, b3, b4, b5, b6, b7, b8, b9, b10, bf⟩ := cells11 hb9.blk
           simp only at b0 b1 b2 b3 b4 b5 b6 b7 b8 b9 b10
           have HB10 := Lib.hid (hb9.put (y := ⟨y, .slice LA1 y.log.length LC1, .slice VA1 y.votes.length VC1, .slice NA1 y.next.length NC1, .slice MA1 y.mtch.length MC1⟩) hfk hfb hok3)
           have HM10 := Lib.hid ((hfk.block (B + 1) (laid_lt hm9) (by omega)).trans hm9)
           clear hx3 hok3 hfk hb9 hm9))
      first | rw [hwf] | skip
      clear HFL hk5 b0 b1 b2 b3 b4 b5 b6 b7 b8 b9 b10 bf hfb hwf
      obtain ⟨b0, b1, b2, b3, b4, b5, b6, b7, b8, b9, b10, bf⟩ := cells11 HB10.out.blk
      obtain ⟨d0, d1, d2, d3, d4, d5, d6, d7, d8, df⟩ := cells9l HM10.out
      simp only at b0 b1 b2 b3 b4 b5 b6 b7 b8 b9 b10
      have hb11 := (HB10.out.set 2 (.int .i64 m.term) ⟨{ y with term := m.term }, .slice LA1 y.log.length LC1, .slice VA1 y.votes.length VC1, .slice NA1 y.next.length NC1, .slice MA1 y.mtch.length MC1⟩ rfl ⟨HB10.out.ok.log, HB10.out.ok.votes, HB10.out.ok.next, HB10.out.ok.mtch⟩)
      have hb12 := hb11.set 3 (.int .i64 0) ⟨{ y with term := m.term, vote := 0 }, .slice LA1 y.log.length LC1, .slice VA1 y.votes.length VC1, .slice NA1 y.next.length NC1, .slice MA1 y.mtch.length MC1⟩ rfl ⟨hb11.ok.log, hb11.ok.votes, hb11.ok.next, hb11.ok.mtch⟩
      have hm12 := (Below.heap_setCell (wf.setCell ⟨B, 2, none⟩ (.int .i64 m.term)) ⟨B, 3, none⟩ (.int .i64 0) (B + 1) (by simp)).trans ((Below.heap_setCell wf ⟨B, 2, none⟩ (.int .i64 m.term) (B + 1) (by simp)).trans HM10.out)
      have hy12 : ({ y with term := m.term, vote := 0 } : Nod) = if n.term < m.term then follow n m.term 0 else n := by rw [if_pos hlt, HFO.out, HX3.out]
      rw [hy12] at hb12
      have HB12 := Lib.hid hb12; have HM12 := Lib.hid hm12
      clear hb11 hb12 hm12 hy12
      go_wp2_with fail
      go_meet
      exact ⟨_, _, _, _, HB12.out, HM12.out⟩
    · have hy12 : n = if n.term < m.term then follow n m.term 0 else n := by rw [if_neg hlt]
      have hb12 := HB4.out
      rw [hy12] at hb12
      have HB12 := Lib.hid hb12
      clear hb12 hy12
      go_wp2_with fail
      go_meet
      exact ⟨_, _, _, _, HB12.out, HM4.out⟩
  case rest =>
    obtain ⟨lv1, vv1, nv1, mv1, hb, hmb⟩ := hcut
    have hle : m.term ≤ (if n.term < m.term then follow n m.term 0 else n).term := by
      split
      · rename_i h; unfold follow; simp only [if_pos h]; omega
      · omega
    obtain ⟨y, hy⟩ : ∃ y, (if n.term < m.term then follow n m.term 0 else n) = y := ⟨_, rfl⟩
    rw [hy] at hb HRT HGY HFY hle
    clear hy HB4 HM4 d0 d1 d2 d3 d4 d5 d6 d7 d8 df b0 b1 b2 b3 b4 b5 b6 b7 b8 b9 b10 bf
    obtain ⟨LA1, LC1, VA1, VC1, NA1, NC1, MA1, MC1, e1, e2, e3, e4⟩ := hb.ok.shape
    subst e1 e2 e3 e4
    have HLE := Lib.hid hle; have HB5 := Lib.hid hb; have HM5 := Lib.hid hmb
    have hyl := HGY.out.log60
    have hat := at_any (w := wc.alloc (.cells #[.int .i64 0, .int .i64 y.id, .int .i64 m.src, .int .i64 y.term, .int .i64 0, .int .i64 0, .int .i64 0, .slice none 0 0, .bool false] 38)) (HB5.out.later ((Keeps.refl Free wc).alloc _)).free.log (y.log.length : Int) (by simp only; omega)
    simp only at hat
    have HAT := Lib.hid hat
    obtain ⟨b0, b1, b2, b3, b4, b5, b6, b7, b8, b9, b10, bf⟩ := cells11 hb.blk
    obtain ⟨d0, d1, d2, d3, d4, d5, d6, d7, d8, df⟩ := cells9l hmb
    simp only at b0 b1 b2 b3 b4 b5 b6 b7 b8 b9 b10
    have hrl := hb.rlt
    have hbl5 := laid_lt hb.blk
    have hbm5 := laid_lt hmb
    clear hle hb hmb hat
    go_upto_region 9 with (first
      | (go_at_call 51; refine HAT.out.mono ?_; rintro e w6 ⟨rfl, rfl⟩; clear HAT))
    obtain ⟨w7, hw7⟩ : ∃ w7, wc.alloc (.cells #[.int .i64 0, .int .i64 y.id, .int .i64 m.src, .int .i64 y.term, .int .i64 0, .int .i64 0, .int .i64 0, .slice none 0 0, .bool false] 38) = w7 := ⟨_, rfl⟩
    obtain ⟨P, hP⟩ : ∃ P, wc.heap.size = P := ⟨_, rfl⟩
    have hk7 := (Keeps.refl Free wc).alloc (.cells #[.int .i64 0, .int .i64 y.id, .int .i64 m.src, .int .i64 y.term, .int .i64 0, .int .i64 0, .int .i64 0, .slice none 0 0, .bool false] 38)
    have hp7 := heap_alloc_new wc (.cells #[.int .i64 0, .int .i64 y.id, .int .i64 m.src, .int .i64 y.term, .int .i64 0, .int .i64 0, .int .i64 0, .slice none 0 0, .bool false] 38)
    rw [hw7] at hk7 hp7 ⊢
    rw [hP] at hp7 hrl hbl5 hbm5 ⊢
    have HK7 := Lib.hid hk7; have HP7 := Lib.hid hp7; have HPS := Lib.hid hP
    have HB7 := Lib.hid (HB5.out.later hk7); have HM7 := Lib.hid (hk7.blk HM5.out)
    clear hw7 hk7 hp7 hP d0 d1 d2 d3 d4 d5 d6 d7 d8 df b0 b1 b2 b3 b4 b5 b6 b7 b8 b9 b10 bf
    obtain ⟨b0, b1, b2, b3, b4, b5, b6, b7, b8, b9, b10, bf⟩ := cells11 HB7.out.blk
    obtain ⟨d0, d1, d2, d3, d4, d5, d6, d7, d8, df⟩ := cells9l HM7.out
    obtain ⟨p0, p1, p2, p3, p4, p5, p6, p7, p8, pf⟩ := cells9l HP7.out
    simp only at b0 b1 b2 b3 b4 b5 b6 b7 b8 b9 b10
    have hml := HFY.out.items60
    have hbl := laid_lt HB7.out.blk
    have hk1 : (m.kind == 1) = false := by have := HKK.out; rw [beq_eq_false_iff_ne]; omega
    have hk2 : (m.kind == 2) = false := by have := HKK.out; rw [beq_eq_false_iff_ne]; omega
    have hk3 : (m.kind == 3) = true := by have := HKK.out; rw [beq_iff_eq]; exact this
    have hn1 : m.kind = 3 := by simpa using hk3
    have HTU := Lib.hid (show receive n m = appended y m by rw [HRT.out]; unfold turned; rw [if_neg (by omega), if_neg (by omega), if_pos hn1])
    clear hn1
    go_upto_region 37 with fail
    have hb8 := setCell_blk (k := 0) (u := .int .i64 4) HP7.out
    have hk8 := (HK7.out.mono (S' := fun k => k = B) (fun _ h => h.elim)).setCell (p := ⟨P, 0, none⟩) (.inr (by rw [HPS.out]; exact Nat.le_refl _)) (.int .i64 4)
    have hkf8 := HK7.out.setCell (p := ⟨P, 0, none⟩) (.inr (by rw [HPS.out]; exact Nat.le_refl _)) (.int .i64 4)
    obtain ⟨w8, hw8⟩ : ∃ w8, w7.setCell ⟨P, 0, none⟩ (.int .i64 4) = w8 := ⟨_, rfl⟩
    rw [hw8] at hb8 hk8 hkf8 ⊢
    have HP8 := Lib.hid (hb8.trans rfl : w8.heap[P]? = some (.cells #[.int .i64 4, .int .i64 y.id, .int .i64 m.src, .int .i64 y.term, .int .i64 0, .int .i64 0, .int .i64 0, .slice none 0 0, .bool false] 38 (0, 0)))
    have HK8 := Lib.hid hk8; have HKF8 := Lib.hid hkf8
    have HB8 := Lib.hid (HB5.out.later hkf8); have HM8 := Lib.hid (hkf8.blk HM5.out)
    clear hw8 hb8 hk8 hkf8 b0 b1 b2 b3 b4 b5 b6 b7 b8 b9 b10 bf d0 d1 d2 d3 d4 d5 d6 d7 d8 df p0 p1 p2 p3 p4 p5 p6 p7 p8 pf HB7 HM7 HP7
    obtain ⟨b0, b1, b2, b3, b4, b5, b6, b7, b8, b9, b10, bf⟩ := cells11 HB8.out.blk
    obtain ⟨d0, d1, d2, d3, d4, d5, d6, d7, d8, df⟩ := cells9l HM8.out
    obtain ⟨p0, p1, p2, p3, p4, p5, p6, p7, p8, pf⟩ := cells9l HP8.out
    simp only at b0 b1 b2 b3 b4 b5 b6 b7 b8 b9 b10
    try simp only [hk1, hk2, hk3]
    obtain ⟨cb, hcb⟩ : ∃ cb, (m.term == y.term) = cb := ⟨_, rfl⟩
    have HCB := Lib.hid hcb
    rw [hcb]
    clear hcb
    go_cut [161] (fun s wx => s = .bool (!cb || (y.role == 3)) ∧ wx = w8)
    case first =>
      cases cb
      case false =>
        as_aux_lemma =>
          go_wp2_with fail
          go_meet
          exact ⟨by rfl, rfl⟩
      cases c1 : (y.role == 3)
      case true =>
        as_aux_lemma =>
          go_wp2_with fail
          go_meet
          exact ⟨by rw [c1]; rfl, rfl⟩
      as_aux_lemma =>
        go_wp2_with fail
        go_meet
        exact ⟨by rw [c1]; rfl, rfl⟩
    case rest =>
      obtain ⟨rfl, rfl⟩ := hcut
      obtain ⟨qb, hqb⟩ : ∃ qb, (!cb || (y.role == 3)) = qb := ⟨_, rfl⟩
      rw [hqb]
      have q1 : (!(m.term == y.term) || (y.role == 3)) = qb := by rw [HCB.out]; exact hqb
      clear hqb
      cases qb
      case true =>
        have HE := Lib.hid (show receive n m = (y, [says y m false y.log.length]) by
          rw [HTU.out]; unfold appended
          have hle := HLE.out
          rw [if_pos (by
            simp only [Bool.or_eq_true, Bool.not_eq_true', beq_eq_false_iff_ne, beq_iff_eq] at q1
            omega)])
        go_upto_region 39 with fail
        have hkf9 := HKF8.out.setCell (p := ⟨P, 4, none⟩) (.inr (by rw [HPS.out]; exact Nat.le_refl _)) (.int .i64 (y.log.length : Int))
        have hp9 := setCell_blk (k := 4) (u := .int .i64 (y.log.length : Int)) HP8.out
        obtain ⟨w9, hw9⟩ : ∃ w9, wc.setCell ⟨P, 4, none⟩ (.int .i64 (y.log.length : Int)) = w9 := ⟨_, rfl⟩
        rw [hw9] at hkf9 hp9 ⊢
        have HP9 := Lib.hid (hp9.trans rfl : w9.heap[P]? = some (.cells #[.int .i64 4, .int .i64 y.id, .int .i64 m.src, .int .i64 y.term, .int .i64 (y.log.length : Int), .int .i64 0, .int .i64 0, .slice none 0 0, .bool false] 38 (0, 0)))
        have HB9 := Lib.hid (HB5.out.later hkf9)
        clear hw9 hkf9 hp9 b0 b1 b2 b3 b4 b5 b6 b7 b8 b9 b10 bf d0 d1 d2 d3 d4 d5 d6 d7 d8 df p0 p1 p2 p3 p4 p5 p6 p7 p8 pf q1
        refine Wg.wp_region_first (C := fun w' => Keeps (fun k => k = B + 1 + 1) w9 w') (by kernel_rfl) 99 ?_
        have HKF := Lib.hid (show Keeps Free w9 { w9 with drawn := w9.drawn + 1 } from (Keeps.refl Free w9).drew)
        obtain ⟨W, hW⟩ : ∃ W : World, W = { w9 with drawn := w9.drawn + 1 } := ⟨_, rfl⟩
        rw [← hW] at HKF ⊢
        clear hW
        have HKW := Lib.hid (HKF.out.mono (S' := fun k => k = B + 1 + 1) (fun _ h => h.elim))
        have hW2 := HKF.out.size
        have hrl := HB9.out.rlt
        have hwl := HB9.out.le
        apply Wg.wpAnyP_stays (by kernel_rfl) [0, 1] _ _ _ 3 _ HKW.out (by kernel_rfl) ?hs ?hr
        case hs =>
          apply Wg.wpStays_step rfl rfl
          · intro w' hw'
            have hbw := (hw'.block B (laid_lt HB9.out.blk) (by omega)).trans HB9.out.blk
            obtain ⟨e0, e1, e2, e3, e4, e5, e6, e7, e8, e9, e10, ef⟩ := cells11 hbw
            simp only at e0 e1 e2 e3 e4 e5 e6 e7 e8 e9 e10
            clear hbw
            clear hw'
            go_simp
            exact ⟨rfl, rfl⟩
          go_simp
          apply Wg.wpStays_step rfl rfl
          · intro w' hw'
            have hpw := (hw'.block P (laid_lt HP9.out) (by omega)).trans HP9.out
            obtain ⟨p0, p1, p2, p3, p4, p5, p6, p7, p8, pf⟩ := cells9l hpw
            clear hpw
            clear hw'
            go_simp
            exact ⟨rfl, rfl⟩
          go_simp
          exact rfl
        case hr =>
          have HBW := Lib.hid (HB9.out.later HKF.out)
          apply Wg.wpAnyP_two (i := 2) (k := 3) (fuel := 2) (by kernel_rfl) rfl rfl rfl rfl
          · go_simp
            refine ⟨HKW.out.alloc _, ?_⟩
            have hka := (Keeps.refl Free W).alloc (.cells #[.int .i64 4, .int .i64 y.id, .int .i64 m.src, .int .i64 y.term, .int .i64 (y.log.length : Int), .int .i64 0, .int .i64 0, .slice none 0 0, .bool false] 38)
            have hga := heap_alloc_new W (.cells #[.int .i64 4, .int .i64 y.id, .int .i64 m.src, .int .i64 y.term, .int .i64 (y.log.length : Int), .int .i64 0, .int .i64 0, .slice none 0 0, .bool false] 38)
            have hkc := HKW.out.alloc (.cells #[.int .i64 4, .int .i64 y.id, .int .i64 m.src, .int .i64 y.term, .int .i64 (y.log.length : Int), .int .i64 0, .int .i64 0, .slice none 0 0, .bool false] 38)
            obtain ⟨wa, hwa2⟩ : ∃ wa, W.alloc (.cells #[.int .i64 4, .int .i64 y.id, .int .i64 m.src, .int .i64 y.term, .int .i64 (y.log.length : Int), .int .i64 0, .int .i64 0, .slice none 0 0, .bool false] 38) = wa := ⟨_, rfl⟩
            obtain ⟨ga, hga2⟩ : ∃ ga, W.heap.size = ga := ⟨_, rfl⟩
            rw [hwa2] at hka hga hkc ⊢
            rw [hga2] at hga ⊢
            have HKC := Lib.hid hkc
            have hma : MsgsOk wa (fun k => k < W.heap.size) (.slice (some ⟨ga, 0, none⟩) 1 1) [⟨({ kind := 4, src := y.id, dst := m.src, term := y.term, index := (y.log.length : Int), logTerm := 0, commit := 0, items := [], yes := false } : Mes), .slice none 0 0⟩] :=
              ⟨by
                have h1 := one_slice (S := fun k => k < W.heap.size) (size := 9) hga rfl (by omega)
                exact h1, fun s hs => by
                simp only [List.mem_singleton] at hs
                subst hs
                exact no_items _ _⟩
            have HBA := Lib.hid (HBW.out.later hka); have HMA := Lib.hid hma
            clear hka hga hkc hwa2 hma
            obtain ⟨wr, hwr, hrb, hrk⟩ := put11l (v0 := .int .i64 y.id) (v1 := .int .i64 y.n) (v2 := .int .i64 y.term) (v3 := .int .i64 y.vote) (v4 := .slice LA1 y.log.length LC1) (v5 := .int .i64 y.commit) (v6 := .int .i64 y.role) (v7 := .int .i64 y.boss) (v8 := .slice VA1 y.votes.length VC1) (v9 := .slice NA1 y.next.length NC1) (v10 := .slice MA1 y.mtch.length MC1) HBA.out.res rfl
            obtain ⟨r0, r1, r2, r3, r4, r5, r6, r7, r8, r9, r10, rf⟩ := cells11 HBA.out.res
            apply Wg.wpAnyP_one (i := 3) (fuel := 1) (by kernel_rfl) rfl rfl
            go_simp
            first | rw [hwr] | skip
            have HKR := Lib.hid (HKC.out.trans hrk (fun _ h => .inl h))
            refine ⟨HKR.out, ?_⟩
            apply Wg.wpAnyP_one (i := 4) (fuel := 0) (by kernel_rfl) rfl rfl
            go_simp
            refine ⟨HKR.out, ?_⟩
            refine ⟨by kernel_rfl, ?_⟩
            clear r0 r1 r2 r3 r4 r5 r6 r7 r8 r9 r10 rf hwr
            obtain ⟨q0, q1, q2, q3, q4, q5, q6, q7, q8, q9, q10, qf⟩ := cells11 hrb
            have FIN := Lib.hid (HBW.out.both (y := y) HBA.out HMA.out hrk)
            clear hrb hrk
            go_wp2_with fail
            refine bodyPost_ret (v := .tuple #[.agg #[.int .i64 y.id, .int .i64 y.n, .int .i64 y.term, .int .i64 y.vote, .slice LA1 y.log.length LC1, .int .i64 y.commit, .int .i64 y.role, .int .i64 y.boss, .slice VA1 y.votes.length VC1, .slice NA1 y.next.length NC1, .slice MA1 y.mtch.length MC1], .slice (some ⟨ga, 0, none⟩) 1 1]) (by simp [results, Try.results31, go_sem, q0, q1, q2, q3, q4, q5, q6, q7, q8, q9, q10]) rfl ?_
            rw [HE.out]
            exact FIN.out
          · skip
            obtain ⟨wr, hwr, hrb, hrk⟩ := put11l (v0 := .int .i64 y.id) (v1 := .int .i64 y.n) (v2 := .int .i64 y.term) (v3 := .int .i64 y.vote) (v4 := .slice LA1 y.log.length LC1) (v5 := .int .i64 y.commit) (v6 := .int .i64 y.role) (v7 := .int .i64 y.boss) (v8 := .slice VA1 y.votes.length VC1) (v9 := .slice NA1 y.next.length NC1) (v10 := .slice MA1 y.mtch.length MC1) HBW.out.res rfl
            obtain ⟨r0, r1, r2, r3, r4, r5, r6, r7, r8, r9, r10, rf⟩ := cells11 HBW.out.res
            go_simp
            first | rw [hwr] | skip
            have HKR := Lib.hid (HKW.out.trans hrk (fun _ h => .inl h))
            refine ⟨HKR.out, ?_⟩
            clear r0 r1 r2 r3 r4 r5 r6 r7 r8 r9 r10 rf hwr
            have hwr9 := hrk.size
            apply Wg.wpAnyP_one (i := 2) (fuel := 1) (by kernel_rfl) rfl rfl
            go_simp
            refine ⟨HKR.out.alloc _, ?_⟩
            have hka := (Keeps.refl Free wr).alloc (.cells #[.int .i64 4, .int .i64 y.id, .int .i64 m.src, .int .i64 y.term, .int .i64 (y.log.length : Int), .int .i64 0, .int .i64 0, .slice none 0 0, .bool false] 38)
            have hga := heap_alloc_new wr (.cells #[.int .i64 4, .int .i64 y.id, .int .i64 m.src, .int .i64 y.term, .int .i64 (y.log.length : Int), .int .i64 0, .int .i64 0, .slice none 0 0, .bool false] 38)
            have hkc := HKR.out.alloc (.cells #[.int .i64 4, .int .i64 y.id, .int .i64 m.src, .int .i64 y.term, .int .i64 (y.log.length : Int), .int .i64 0, .int .i64 0, .slice none 0 0, .bool false] 38)
            obtain ⟨wa, hwa2⟩ : ∃ wa, wr.alloc (.cells #[.int .i64 4, .int .i64 y.id, .int .i64 m.src, .int .i64 y.term, .int .i64 (y.log.length : Int), .int .i64 0, .int .i64 0, .slice none 0 0, .bool false] 38) = wa := ⟨_, rfl⟩
            obtain ⟨ga, hga2⟩ : ∃ ga, wr.heap.size = ga := ⟨_, rfl⟩
            rw [hwa2] at hka hga hkc ⊢
            rw [hga2] at hga ⊢
            have HKC := Lib.hid hkc
            have hma : MsgsOk wa (fun k => k < W.heap.size) (.slice (some ⟨ga, 0, none⟩) 1 1) [⟨({ kind := 4, src := y.id, dst := m.src, term := y.term, index := (y.log.length : Int), logTerm := 0, commit := 0, items := [], yes := false } : Mes), .slice none 0 0⟩] :=
              ⟨by
                have h1 := one_slice (S := fun k => k < W.heap.size) (size := 9) hga rfl (by omega)
                exact h1, fun s hs => by
                simp only [List.mem_singleton] at hs
                subst hs
                exact no_items _ _⟩
            apply Wg.wpAnyP_one (i := 4) (fuel := 0) (by kernel_rfl) rfl rfl
            go_simp
            refine ⟨HKC.out, ?_⟩
            refine ⟨by kernel_rfl, ?_⟩
            obtain ⟨q0, q1, q2, q3, q4, q5, q6, q7, q8, q9, q10, qf⟩ := cells11 (hka.blk hrb)
            have FIN := Lib.hid (HBW.out.both2 (y := y) HBW.out hrk hka hma)
            clear hrb hrk hka hga hkc hma
            go_wp2_with fail
            refine bodyPost_ret (v := .tuple #[.agg #[.int .i64 y.id, .int .i64 y.n, .int .i64 y.term, .int .i64 y.vote, .slice LA1 y.log.length LC1, .int .i64 y.commit, .int .i64 y.role, .int .i64 y.boss, .slice VA1 y.votes.length VC1, .slice NA1 y.next.length NC1, .slice MA1 y.mtch.length MC1], .slice (some ⟨ga, 0, none⟩) 1 1]) (by simp [results, Try.results31, go_sem, q0, q1, q2, q3, q4, q5, q6, q7, q8, q9, q10]) rfl ?_
            rw [HE.out]
            exact FIN.out
      case false =>
        have hte : m.term = y.term ∧ y.role ≠ 3 := by
          simp only [Bool.or_eq_false_iff, Bool.not_eq_false', beq_eq_false_iff_ne, beq_iff_eq] at q1
          exact q1
        have hfo : follow y m.term m.src = { y with role := 1, boss := m.src, votes := [], next := [], mtch := [] } := by unfold follow; rw [if_neg (by omega), if_neg (by omega)]
        have HFO := Lib.hid hfo
        have HAP := Lib.hid (show receive n m = (let z := follow y m.term m.src
          if (z.log.length : Int) < m.index ∨ (termAt z.log m.index ≠ m.logTerm ∧ 0 < m.index) then
            (z, [says z m false (max 0 (min (z.log.length : Int) (m.index - 1)))])
          else
            let r := taken m.index.toNat m.items z.log z.commit
            ({ z with log := r.1, commit := max r.2 (min m.commit (m.index + m.items.length)) }, [says z m true (m.index + m.items.length)])) by
          rw [HTU.out]; unfold appended; rw [if_neg (by omega)])
        have hin8 : NodeOk wc (fun k => (Q k ∨ (B ≤ k ∧ k ≤ B + 1 + 1)) ∨ k = P) ⟨y, .slice LA1 y.log.length LC1, .slice VA1 y.votes.length VC1, .slice NA1 y.next.length NC1, .slice MA1 y.mtch.length MC1⟩ := HB5.out.ok.into HKF8.out (fun _ _ h => h.elim) (fun k hk h => h.elim id fun e => by have := HPS.out; omega)
        have hfl := follower_any hin8 m.src
        simp only [nodCells] at hfl
        have HFL := Lib.hid hfl
        have hrl8 := HB8.out.rlt
        have hP8 := laid_lt HP8.out
        clear hfl hfo hte q1 HTU hin8
        go_upto_region 41 with (first
          | (go_at_call 70
             refine HFL.out.mono ?_
             rintro e w9 ⟨⟨z, lv3, vv3, nv3, mv3⟩, rfl, hx3, hok3, hk5⟩
             obtain ⟨LA3, LC3, VA3, VC3, NA3, NC3, MA3, MC3, e1, e2, e3, e4⟩ := hok3.shape
             simp only at e1 e2 e3 e4 hx3
             subst e1 e2 e3 e4
             have HX3 := Lib.hid hx3
             have hb9 := HB8.out.later hk5
             have hm9 := hk5.blk HM8.out
             have hp9 := hk5.blk HP8.out
             clear b0 b1 b2 b3 b4 b5 b6 b7 b8 b9 b10 bf d0 d1 d2 d3 d4 d5 d6 d7 d8 df p0 p1 p2 p3 p4 p5 p6 p7 p8 pf
             obtain ⟨wf, hwf, hfb, hfk⟩ := put11l (v0 := .int .i64 z.id) (v1 := .int .i64 z.n) (v2 := .int .i64 z.term) (v3 := .int .i64 z.vote) (v4 := .slice LA3 z.log.length LC3) (v5 := .int .i64 z.commit) (v6 := .int .i64 z.role) (v7 := .int .i64 z.boss) (v8 := .slice VA3 z.votes.length VC3) (v9 := .slice NA3 z.next.length NC3) (v10 := .slice MA3 z.mtch.length MC3) hb9.blk rfl
             obtain ⟨b0, b1, b2, b3, b4, b5, b6, b7, b8, b9, b10, bf⟩ := cells11 hb9.blk
             simp only at b0 b1 b2 b3 b4 b5 b6 b7 b8 b9 b10
             have HB10 := Lib.hid (hb9.put (y := ⟨z, .slice LA3 z.log.length LC3, .slice VA3 z.votes.length VC3, .slice NA3 z.next.length NC3, .slice MA3 z.mtch.length MC3⟩) hfk hfb (hok3.weak fun _ _ h => .inl h))
             have HZ10 := Lib.hid (hok3.into hfk (fun k _ e => .inl (.inr ⟨by omega, by omega⟩)) (fun _ _ h => h))
             have HM10 := Lib.hid ((hfk.block (B + 1) (laid_lt hm9) (by omega)).trans hm9)
             have HP10 := Lib.hid ((hfk.block P (laid_lt hp9) (by omega)).trans hp9)
             clear hx3 hok3 hfk hb9 hm9 hp9))
        first | rw [hwf] | skip
        clear HFL hk5 b0 b1 b2 b3 b4 b5 b6 b7 b8 b9 b10 bf hfb hwf
        have HAZ := Lib.hid (show receive n m = (if (z.log.length : Int) < m.index ∨ (termAt z.log m.index ≠ m.logTerm ∧ 0 < m.index) then
            (z, [says z m false (max 0 (min (z.log.length : Int) (m.index - 1)))])
          else ({ z with log := (taken m.index.toNat m.items z.log z.commit).1, commit := max (taken m.index.toNat m.items z.log z.commit).2 (min m.commit (m.index + m.items.length)) }, [says z m true (m.index + m.items.length)])) by
          rw [HAP.out, HFO.out, ← HX3.out])
        have hzl : z.log.length ≤ 60 := by rw [HX3.out]; exact hyl
        have hi0 := HFY.out.index0
        have HYI := Lib.hid (show y.id = z.id ∧ y.term = z.term by rw [HX3.out]; exact ⟨rfl, rfl⟩)
        obtain ⟨b0, b1, b2, b3, b4, b5, b6, b7, b8, b9, b10, bf⟩ := cells11 HB10.out.blk
        obtain ⟨d0, d1, d2, d3, d4, d5, d6, d7, d8, df⟩ := cells9l HM10.out
        simp only at b0 b1 b2 b3 b4 b5 b6 b7 b8 b9 b10
        clear HAP HFO
        go_cut [193] (fun s wx => s = .bool (decide ((z.log.length : Int) < m.index) || (decide (0 < m.index) && (termAt z.log m.index != m.logTerm))) ∧ Keeps Free wf wx)
        case first =>
          cases cA : decide ((z.log.length : Int) < m.index)
          case true =>
            as_aux_lemma =>
              go_quiet (fail)
              go_wp2_with fail
              go_meet
              exact ⟨by rw [cA]; rfl, (Keeps.refl Free wf).drewN _⟩
          cases cB : decide (0 < m.index)
          case false =>
            as_aux_lemma =>
              go_quiet (fail)
              go_wp2_with fail
              go_meet
              exact ⟨by rw [cA, cB]; rfl, (Keeps.refl Free wf).drewN _⟩
          obtain ⟨ta, hta⟩ : ∃ ta, termAt z.log m.index = ta := ⟨_, rfl⟩
          have HTA := Lib.hid (fun (w1 : World) (hk : Keeps Free wf w1) => (hta ▸ at_any ((HB10.out.later hk).free.log) m.index (by simp only; omega) : Calls Try.prog 51 #[.slice LA3 z.log.length LC3, .int .i64 m.index] w1 fun e w' => e = .returned (.int .i64 ta) ∧ w' = w1))
          have HTT := Lib.hid hta
          clear hta
          cases cC : (ta != m.logTerm)
          case true =>
            as_aux_lemma =>
              go_quiet ((go_at_call 51; exact Calls.quiet_of_same (HTA.out _ ((Keeps.refl _ _).drewN _))))
              go_wp2_with fail
              go_meet
              exact ⟨by rw [cA, cB, HTT.out, cC]; rfl, (Keeps.refl Free wf).drewN _⟩
          as_aux_lemma =>
            go_quiet ((go_at_call 51; exact Calls.quiet_of_same (HTA.out _ ((Keeps.refl _ _).drewN _))))
            go_wp2_with fail
            go_meet
            exact ⟨by rw [cA, cB, HTT.out, cC]; rfl, (Keeps.refl Free wf).drewN _⟩
        case rest =>
          obtain ⟨rfl, hkx⟩ := hcut
          have HZ11 := Lib.hid (HZ10.out.into hkx (fun _ _ h => h.elim) (fun _ _ h => h))
          have HB11 := Lib.hid (HB10.out.later hkx); have HM11 := Lib.hid (hkx.blk HM10.out); have HP11 := Lib.hid (hkx.blk HP10.out)
          clear hkx b0 b1 b2 b3 b4 b5 b6 b7 b8 b9 b10 bf d0 d1 d2 d3 d4 d5 d6 d7 d8 df
          obtain ⟨b0, b1, b2, b3, b4, b5, b6, b7, b8, b9, b10, bf⟩ := cells11 HB11.out.blk
          obtain ⟨d0, d1, d2, d3, d4, d5, d6, d7, d8, df⟩ := cells9l HM11.out
          obtain ⟨p0, p1, p2, p3, p4, p5, p6, p7, p8, pf⟩ := cells9l HP11.out
          simp only at b0 b1 b2 b3 b4 b5 b6 b7 b8 b9 b10
          cases q2 : (decide ((z.log.length : Int) < m.index) || (decide (0 < m.index) && (termAt z.log m.index != m.logTerm)))
          case true =>
            have hrf : (z.log.length : Int) < m.index ∨ (termAt z.log m.index ≠ m.logTerm ∧ 0 < m.index) := by
              simp only [Bool.or_eq_true, Bool.and_eq_true, decide_eq_true_eq, bne_iff_ne] at q2
              omega
            have hi1 : 1 ≤ m.index := by omega
            have hi6 := HFY.out.index60
            have hwi : IntKind.i64.wrap (m.index - 1) = m.index - 1 := IntWalk.i64_in _ (by omega)
            by_cases hI : m.index - 1 < (z.log.length : Int)
            · (
              have HE := Lib.hid (show receive n m = (z, [({ kind := 4, src := y.id, dst := m.src, term := y.term, index := (m.index - 1), logTerm := 0, commit := 0, items := [], yes := false } : Mes)]) by
                rw [HAZ.out, if_pos hrf, show max 0 (min (z.log.length : Int) (m.index - 1)) = (m.index - 1) by omega]
                unfold says
                rw [HYI.out.1, HYI.out.2])
              go_upto_region 45 with fail
              have hk9 : Keeps (fun k => k = P) wc ((wc.setCell ⟨P, 4, none⟩ (.int .i64 (z.log.length : Int))).setCell ⟨P, 4, none⟩ (.int .i64 (m.index - 1))) := ((Keeps.refl (fun k => k = P) wc).setCell (p := ⟨P, 4, none⟩) (.inl rfl) _).setCell (p := ⟨P, 4, none⟩) (.inl rfl) _
              have hp9 : ((wc.setCell ⟨P, 4, none⟩ (.int .i64 (z.log.length : Int))).setCell ⟨P, 4, none⟩ (.int .i64 (m.index - 1))).heap[P]? = some (.cells #[.int .i64 4, .int .i64 y.id, .int .i64 m.src, .int .i64 y.term, .int .i64 (m.index - 1), .int .i64 0, .int .i64 0, .slice none 0 0, .bool false] 38 (0, 0)) := by
                first | exact (setCell_blk (setCell_blk HP11.out)).trans rfl | exact (setCell_blk HP11.out).trans rfl
              obtain ⟨w9, hw9⟩ : ∃ w9, (wc.setCell ⟨P, 4, none⟩ (.int .i64 (z.log.length : Int))).setCell ⟨P, 4, none⟩ (.int .i64 (m.index - 1)) = w9 := ⟨_, rfl⟩
              rw [hw9] at hk9 hp9 ⊢
              have HP9 := Lib.hid hp9
              have HB9 := Lib.hid (HB11.out.sidek3 hrl hk9 HZ11.out)
              clear hw9 hk9 hp9 b0 b1 b2 b3 b4 b5 b6 b7 b8 b9 b10 bf d0 d1 d2 d3 d4 d5 d6 d7 d8 df p0 p1 p2 p3 p4 p5 p6 p7 p8 pf q2
              refine Wg.wp_region_first (C := fun w' => Keeps (fun k => k = B + 1 + 1) w9 w') (by kernel_rfl) 99 ?_
              have HKF := Lib.hid (show Keeps Free w9 { w9 with drawn := w9.drawn + 1 } from (Keeps.refl Free w9).drew)
              obtain ⟨W, hW⟩ : ∃ W : World, W = { w9 with drawn := w9.drawn + 1 } := ⟨_, rfl⟩
              rw [← hW] at HKF ⊢
              clear hW
              have HKW := Lib.hid (HKF.out.mono (S' := fun k => k = B + 1 + 1) (fun _ h => h.elim))
              have hW2 := HKF.out.size
              have hrl := HB9.out.rlt
              have hwl := HB9.out.le
              apply Wg.wpAnyP_stays (by kernel_rfl) [0, 1] _ _ _ 3 _ HKW.out (by kernel_rfl) ?hs ?hr
              case hs =>
                apply Wg.wpStays_step rfl rfl
                · intro w' hw'
                  have hbw := (hw'.block B (laid_lt HB9.out.blk) (by omega)).trans HB9.out.blk
                  obtain ⟨e0, e1, e2, e3, e4, e5, e6, e7, e8, e9, e10, ef⟩ := cells11 hbw
                  simp only at e0 e1 e2 e3 e4 e5 e6 e7 e8 e9 e10
                  clear hbw
                  clear hw'
                  go_simp
                  exact ⟨rfl, rfl⟩
                go_simp
                apply Wg.wpStays_step rfl rfl
                · intro w' hw'
                  have hpw := (hw'.block P (laid_lt HP9.out) (by omega)).trans HP9.out
                  obtain ⟨p0, p1, p2, p3, p4, p5, p6, p7, p8, pf⟩ := cells9l hpw
                  clear hpw
                  clear hw'
                  go_simp
                  exact ⟨rfl, rfl⟩
                go_simp
                exact rfl
              case hr =>
                have HBW := Lib.hid (HB9.out.later HKF.out)
                apply Wg.wpAnyP_two (i := 2) (k := 3) (fuel := 2) (by kernel_rfl) rfl rfl rfl rfl
                · go_simp
                  refine ⟨HKW.out.alloc _, ?_⟩
                  have hka := (Keeps.refl Free W).alloc (.cells #[.int .i64 4, .int .i64 y.id, .int .i64 m.src, .int .i64 y.term, .int .i64 (m.index - 1), .int .i64 0, .int .i64 0, .slice none 0 0, .bool false] 38)
                  have hga := heap_alloc_new W (.cells #[.int .i64 4, .int .i64 y.id, .int .i64 m.src, .int .i64 y.term, .int .i64 (m.index - 1), .int .i64 0, .int .i64 0, .slice none 0 0, .bool false] 38)
                  have hkc := HKW.out.alloc (.cells #[.int .i64 4, .int .i64 y.id, .int .i64 m.src, .int .i64 y.term, .int .i64 (m.index - 1), .int .i64 0, .int .i64 0, .slice none 0 0, .bool false] 38)
                  obtain ⟨wa, hwa2⟩ : ∃ wa, W.alloc (.cells #[.int .i64 4, .int .i64 y.id, .int .i64 m.src, .int .i64 y.term, .int .i64 (m.index - 1), .int .i64 0, .int .i64 0, .slice none 0 0, .bool false] 38) = wa := ⟨_, rfl⟩
                  obtain ⟨ga, hga2⟩ : ∃ ga, W.heap.size = ga := ⟨_, rfl⟩
                  rw [hwa2] at hka hga hkc ⊢
                  rw [hga2] at hga ⊢
                  have HKC := Lib.hid hkc
                  have hma : MsgsOk wa (fun k => k < W.heap.size) (.slice (some ⟨ga, 0, none⟩) 1 1) [⟨({ kind := 4, src := y.id, dst := m.src, term := y.term, index := (m.index - 1), logTerm := 0, commit := 0, items := [], yes := false } : Mes), .slice none 0 0⟩] :=
                    ⟨by
                      have h1 := one_slice (S := fun k => k < W.heap.size) (size := 9) hga rfl (by omega)
                      exact h1, fun s hs => by
                      simp only [List.mem_singleton] at hs
                      subst hs
                      exact no_items _ _⟩
                  have HBA := Lib.hid (HBW.out.later hka); have HMA := Lib.hid hma
                  clear hka hga hkc hwa2 hma
                  obtain ⟨wr, hwr, hrb, hrk⟩ := put11l (v0 := .int .i64 z.id) (v1 := .int .i64 z.n) (v2 := .int .i64 z.term) (v3 := .int .i64 z.vote) (v4 := .slice LA3 z.log.length LC3) (v5 := .int .i64 z.commit) (v6 := .int .i64 z.role) (v7 := .int .i64 z.boss) (v8 := .slice VA3 z.votes.length VC3) (v9 := .slice NA3 z.next.length NC3) (v10 := .slice MA3 z.mtch.length MC3) HBA.out.res rfl
                  obtain ⟨r0, r1, r2, r3, r4, r5, r6, r7, r8, r9, r10, rf⟩ := cells11 HBA.out.res
                  apply Wg.wpAnyP_one (i := 3) (fuel := 1) (by kernel_rfl) rfl rfl
                  go_simp
                  first | rw [hwr] | skip
                  have HKR := Lib.hid (HKC.out.trans hrk (fun _ h => .inl h))
                  refine ⟨HKR.out, ?_⟩
                  apply Wg.wpAnyP_one (i := 4) (fuel := 0) (by kernel_rfl) rfl rfl
                  go_simp
                  refine ⟨HKR.out, ?_⟩
                  refine ⟨by kernel_rfl, ?_⟩
                  clear r0 r1 r2 r3 r4 r5 r6 r7 r8 r9 r10 rf hwr
                  obtain ⟨q0, q1, q2, q3, q4, q5, q6, q7, q8, q9, q10, qf⟩ := cells11 hrb
                  have FIN := Lib.hid (HBW.out.both (y := z) HBA.out HMA.out hrk)
                  clear hrb hrk
                  go_wp2_with fail
                  refine bodyPost_ret (v := .tuple #[.agg #[.int .i64 z.id, .int .i64 z.n, .int .i64 z.term, .int .i64 z.vote, .slice LA3 z.log.length LC3, .int .i64 z.commit, .int .i64 z.role, .int .i64 z.boss, .slice VA3 z.votes.length VC3, .slice NA3 z.next.length NC3, .slice MA3 z.mtch.length MC3], .slice (some ⟨ga, 0, none⟩) 1 1]) (by simp [results, Try.results31, go_sem, q0, q1, q2, q3, q4, q5, q6, q7, q8, q9, q10]) rfl ?_
                  rw [HE.out]
                  exact FIN.out
                · skip
                  obtain ⟨wr, hwr, hrb, hrk⟩ := put11l (v0 := .int .i64 z.id) (v1 := .int .i64 z.n) (v2 := .int .i64 z.term) (v3 := .int .i64 z.vote) (v4 := .slice LA3 z.log.length LC3) (v5 := .int .i64 z.commit) (v6 := .int .i64 z.role) (v7 := .int .i64 z.boss) (v8 := .slice VA3 z.votes.length VC3) (v9 := .slice NA3 z.next.length NC3) (v10 := .slice MA3 z.mtch.length MC3) HBW.out.res rfl
                  obtain ⟨r0, r1, r2, r3, r4, r5, r6, r7, r8, r9, r10, rf⟩ := cells11 HBW.out.res
                  go_simp
                  first | rw [hwr] | skip
                  have HKR := Lib.hid (HKW.out.trans hrk (fun _ h => .inl h))
                  refine ⟨HKR.out, ?_⟩
                  clear r0 r1 r2 r3 r4 r5 r6 r7 r8 r9 r10 rf hwr
                  have hwr9 := hrk.size
                  apply Wg.wpAnyP_one (i := 2) (fuel := 1) (by kernel_rfl) rfl rfl
                  go_simp
                  refine ⟨HKR.out.alloc _, ?_⟩
                  have hka := (Keeps.refl Free wr).alloc (.cells #[.int .i64 4, .int .i64 y.id, .int .i64 m.src, .int .i64 y.term, .int .i64 (m.index - 1), .int .i64 0, .int .i64 0, .slice none 0 0, .bool false] 38)
                  have hga := heap_alloc_new wr (.cells #[.int .i64 4, .int .i64 y.id, .int .i64 m.src, .int .i64 y.term, .int .i64 (m.index - 1), .int .i64 0, .int .i64 0, .slice none 0 0, .bool false] 38)
                  have hkc := HKR.out.alloc (.cells #[.int .i64 4, .int .i64 y.id, .int .i64 m.src, .int .i64 y.term, .int .i64 (m.index - 1), .int .i64 0, .int .i64 0, .slice none 0 0, .bool false] 38)
                  obtain ⟨wa, hwa2⟩ : ∃ wa, wr.alloc (.cells #[.int .i64 4, .int .i64 y.id, .int .i64 m.src, .int .i64 y.term, .int .i64 (m.index - 1), .int .i64 0, .int .i64 0, .slice none 0 0, .bool false] 38) = wa := ⟨_, rfl⟩
                  obtain ⟨ga, hga2⟩ : ∃ ga, wr.heap.size = ga := ⟨_, rfl⟩
                  rw [hwa2] at hka hga hkc ⊢
                  rw [hga2] at hga ⊢
                  have HKC := Lib.hid hkc
                  have hma : MsgsOk wa (fun k => k < W.heap.size) (.slice (some ⟨ga, 0, none⟩) 1 1) [⟨({ kind := 4, src := y.id, dst := m.src, term := y.term, index := (m.index - 1), logTerm := 0, commit := 0, items := [], yes := false } : Mes), .slice none 0 0⟩] :=
                    ⟨by
                      have h1 := one_slice (S := fun k => k < W.heap.size) (size := 9) hga rfl (by omega)
                      exact h1, fun s hs => by
                      simp only [List.mem_singleton] at hs
                      subst hs
                      exact no_items _ _⟩
                  apply Wg.wpAnyP_one (i := 4) (fuel := 0) (by kernel_rfl) rfl rfl
                  go_simp
                  refine ⟨HKC.out, ?_⟩
                  refine ⟨by kernel_rfl, ?_⟩
                  obtain ⟨q0, q1, q2, q3, q4, q5, q6, q7, q8, q9, q10, qf⟩ := cells11 (hka.blk hrb)
                  have FIN := Lib.hid (HBW.out.both2 (y := z) HBW.out hrk hka hma)
                  clear hrb hrk hka hga hkc hma
                  go_wp2_with fail
                  refine bodyPost_ret (v := .tuple #[.agg #[.int .i64 z.id, .int .i64 z.n, .int .i64 z.term, .int .i64 z.vote, .slice LA3 z.log.length LC3, .int .i64 z.commit, .int .i64 z.role, .int .i64 z.boss, .slice VA3 z.votes.length VC3, .slice NA3 z.next.length NC3, .slice MA3 z.mtch.length MC3], .slice (some ⟨ga, 0, none⟩) 1 1]) (by simp [results, Try.results31, go_sem, q0, q1, q2, q3, q4, q5, q6, q7, q8, q9, q10]) rfl ?_
                  rw [HE.out]
                  exact FIN.out
              )
            · (
              have HE := Lib.hid (show receive n m = (z, [({ kind := 4, src := y.id, dst := m.src, term := y.term, index := (z.log.length : Int), logTerm := 0, commit := 0, items := [], yes := false } : Mes)]) by
                rw [HAZ.out, if_pos hrf, show max 0 (min (z.log.length : Int) (m.index - 1)) = (z.log.length : Int) by omega]
                unfold says
                rw [HYI.out.1, HYI.out.2])
              go_upto_region 45 with fail
              have hk9 : Keeps (fun k => k = P) wc (wc.setCell ⟨P, 4, none⟩ (.int .i64 (z.log.length : Int))) := (Keeps.refl (fun k => k = P) wc).setCell (p := ⟨P, 4, none⟩) (.inl rfl) _
              have hp9 : (wc.setCell ⟨P, 4, none⟩ (.int .i64 (z.log.length : Int))).heap[P]? = some (.cells #[.int .i64 4, .int .i64 y.id, .int .i64 m.src, .int .i64 y.term, .int .i64 (z.log.length : Int), .int .i64 0, .int .i64 0, .slice none 0 0, .bool false] 38 (0, 0)) := by
                first | exact (setCell_blk (setCell_blk HP11.out)).trans rfl | exact (setCell_blk HP11.out).trans rfl
              obtain ⟨w9, hw9⟩ : ∃ w9, wc.setCell ⟨P, 4, none⟩ (.int .i64 (z.log.length : Int)) = w9 := ⟨_, rfl⟩
              rw [hw9] at hk9 hp9 ⊢
              have HP9 := Lib.hid hp9
              have HB9 := Lib.hid (HB11.out.sidek3 hrl hk9 HZ11.out)
              clear hw9 hk9 hp9 b0 b1 b2 b3 b4 b5 b6 b7 b8 b9 b10 bf d0 d1 d2 d3 d4 d5 d6 d7 d8 df p0 p1 p2 p3 p4 p5 p6 p7 p8 pf q2
              refine Wg.wp_region_first (C := fun w' => Keeps (fun k => k = B + 1 + 1) w9 w') (by kernel_rfl) 99 ?_
              have HKF := Lib.hid (show Keeps Free w9 { w9 with drawn := w9.drawn + 1 } from (Keeps.refl Free w9).drew)
              obtain ⟨W, hW⟩ : ∃ W : World, W = { w9 with drawn := w9.drawn + 1 } := ⟨_, rfl⟩
              rw [← hW] at HKF ⊢
              clear hW
              have HKW := Lib.hid (HKF.out.mono (S' := fun k => k = B + 1 + 1) (fun _ h => h.elim))
              have hW2 := HKF.out.size
              have hrl := HB9.out.rlt
              have hwl := HB9.out.le
              apply Wg.wpAnyP_stays (by kernel_rfl) [0, 1] _ _ _ 3 _ HKW.out (by kernel_rfl) ?hs ?hr
              case hs =>
                apply Wg.wpStays_step rfl rfl
                · intro w' hw'
                  have hbw := (hw'.block B (laid_lt HB9.out.blk) (by omega)).trans HB9.out.blk
                  obtain ⟨e0, e1, e2, e3, e4, e5, e6, e7, e8, e9, e10, ef⟩ := cells11 hbw
                  simp only at e0 e1 e2 e3 e4 e5 e6 e7 e8 e9 e10
                  clear hbw
                  clear hw'
                  go_simp
                  exact ⟨rfl, rfl⟩
                go_simp
                apply Wg.wpStays_step rfl rfl
                · intro w' hw'
                  have hpw := (hw'.block P (laid_lt HP9.out) (by omega)).trans HP9.out
                  obtain ⟨p0, p1, p2, p3, p4, p5, p6, p7, p8, pf⟩ := cells9l hpw
                  clear hpw
                  clear hw'
                  go_simp
                  exact ⟨rfl, rfl⟩
                go_simp
                exact rfl
              case hr =>
                have HBW := Lib.hid (HB9.out.later HKF.out)
                apply Wg.wpAnyP_two (i := 2) (k := 3) (fuel := 2) (by kernel_rfl) rfl rfl rfl rfl
                · go_simp
                  refine ⟨HKW.out.alloc _, ?_⟩
                  have hka := (Keeps.refl Free W).alloc (.cells #[.int .i64 4, .int .i64 y.id, .int .i64 m.src, .int .i64 y.term, .int .i64 (z.log.length : Int), .int .i64 0, .int .i64 0, .slice none 0 0, .bool false] 38)
                  have hga := heap_alloc_new W (.cells #[.int .i64 4, .int .i64 y.id, .int .i64 m.src, .int .i64 y.term, .int .i64 (z.log.length : Int), .int .i64 0, .int .i64 0, .slice none 0 0, .bool false] 38)
                  have hkc := HKW.out.alloc (.cells #[.int .i64 4, .int .i64 y.id, .int .i64 m.src, .int .i64 y.term, .int .i64 (z.log.length : Int), .int .i64 0, .int .i64 0, .slice none 0 0, .bool false] 38)
                  obtain ⟨wa, hwa2⟩ : ∃ wa, W.alloc (.cells #[.int .i64 4, .int .i64 y.id, .int .i64 m.src, .int .i64 y.term, .int .i64 (z.log.length : Int), .int .i64 0, .int .i64 0, .slice none 0 0, .bool false] 38) = wa := ⟨_, rfl⟩
                  obtain ⟨ga, hga2⟩ : ∃ ga, W.heap.size = ga := ⟨_, rfl⟩
                  rw [hwa2] at hka hga hkc ⊢
                  rw [hga2] at hga ⊢
                  have HKC := Lib.hid hkc
                  have hma : MsgsOk wa (fun k => k < W.heap.size) (.slice (some ⟨ga, 0, none⟩) 1 1) [⟨({ kind := 4, src := y.id, dst := m.src, term := y.term, index := (z.log.length : Int), logTerm := 0, commit := 0, items := [], yes := false } : Mes), .slice none 0 0⟩] :=
                    ⟨by
                      have h1 := one_slice (S := fun k => k < W.heap.size) (size := 9) hga rfl (by omega)
                      exact h1, fun s hs => by
                      simp only [List.mem_singleton] at hs
                      subst hs
                      exact no_items _ _⟩
                  have HBA := Lib.hid (HBW.out.later hka); have HMA := Lib.hid hma
                  clear hka hga hkc hwa2 hma
                  obtain ⟨wr, hwr, hrb, hrk⟩ := put11l (v0 := .int .i64 z.id) (v1 := .int .i64 z.n) (v2 := .int .i64 z.term) (v3 := .int .i64 z.vote) (v4 := .slice LA3 z.log.length LC3) (v5 := .int .i64 z.commit) (v6 := .int .i64 z.role) (v7 := .int .i64 z.boss) (v8 := .slice VA3 z.votes.length VC3) (v9 := .slice NA3 z.next.length NC3) (v10 := .slice MA3 z.mtch.length MC3) HBA.out.res rfl
                  obtain ⟨r0, r1, r2, r3, r4, r5, r6, r7, r8, r9, r10, rf⟩ := cells11 HBA.out.res
                  apply Wg.wpAnyP_one (i := 3) (fuel := 1) (by kernel_rfl) rfl rfl
                  go_simp
                  first | rw [hwr] | skip
                  have HKR := Lib.hid (HKC.out.trans hrk (fun _ h => .inl h))
                  refine ⟨HKR.out, ?_⟩
                  apply Wg.wpAnyP_one (i := 4) (fuel := 0) (by kernel_rfl) rfl rfl
                  go_simp
                  refine ⟨HKR.out, ?_⟩
                  refine ⟨by kernel_rfl, ?_⟩
                  clear r0 r1 r2 r3 r4 r5 r6 r7 r8 r9 r10 rf hwr
                  obtain ⟨q0, q1, q2, q3, q4, q5, q6, q7, q8, q9, q10, qf⟩ := cells11 hrb
                  have FIN := Lib.hid (HBW.out.both (y := z) HBA.out HMA.out hrk)
                  clear hrb hrk
                  go_wp2_with fail
                  refine bodyPost_ret (v := .tuple #[.agg #[.int .i64 z.id, .int .i64 z.n, .int .i64 z.term, .int .i64 z.vote, .slice LA3 z.log.length LC3, .int .i64 z.commit, .int .i64 z.role, .int .i64 z.boss, .slice VA3 z.votes.length VC3, .slice NA3 z.next.length NC3, .slice MA3 z.mtch.length MC3], .slice (some ⟨ga, 0, none⟩) 1 1]) (by simp [results, Try.results31, go_sem, q0, q1, q2, q3, q4, q5, q6, q7, q8, q9, q10]) rfl ?_
                  rw [HE.out]
                  exact FIN.out
                · skip
                  obtain ⟨wr, hwr, hrb, hrk⟩ := put11l (v0 := .int .i64 z.id) (v1 := .int .i64 z.n) (v2 := .int .i64 z.term) (v3 := .int .i64 z.vote) (v4 := .slice LA3 z.log.length LC3) (v5 := .int .i64 z.commit) (v6 := .int .i64 z.role) (v7 := .int .i64 z.boss) (v8 := .slice VA3 z.votes.length VC3) (v9 := .slice NA3 z.next.length NC3) (v10 := .slice MA3 z.mtch.length MC3) HBW.out.res rfl
                  obtain ⟨r0, r1, r2, r3, r4, r5, r6, r7, r8, r9, r10, rf⟩ := cells11 HBW.out.res
                  go_simp
                  first | rw [hwr] | skip
                  have HKR := Lib.hid (HKW.out.trans hrk (fun _ h => .inl h))
                  refine ⟨HKR.out, ?_⟩
                  clear r0 r1 r2 r3 r4 r5 r6 r7 r8 r9 r10 rf hwr
                  have hwr9 := hrk.size
                  apply Wg.wpAnyP_one (i := 2) (fuel := 1) (by kernel_rfl) rfl rfl
                  go_simp
                  refine ⟨HKR.out.alloc _, ?_⟩
                  have hka := (Keeps.refl Free wr).alloc (.cells #[.int .i64 4, .int .i64 y.id, .int .i64 m.src, .int .i64 y.term, .int .i64 (z.log.length : Int), .int .i64 0, .int .i64 0, .slice none 0 0, .bool false] 38)
                  have hga := heap_alloc_new wr (.cells #[.int .i64 4, .int .i64 y.id, .int .i64 m.src, .int .i64 y.term, .int .i64 (z.log.length : Int), .int .i64 0, .int .i64 0, .slice none 0 0, .bool false] 38)
                  have hkc := HKR.out.alloc (.cells #[.int .i64 4, .int .i64 y.id, .int .i64 m.src, .int .i64 y.term, .int .i64 (z.log.length : Int), .int .i64 0, .int .i64 0, .slice none 0 0, .bool false] 38)
                  obtain ⟨wa, hwa2⟩ : ∃ wa, wr.alloc (.cells #[.int .i64 4, .int .i64 y.id, .int .i64 m.src, .int .i64 y.term, .int .i64 (z.log.length : Int), .int .i64 0, .int .i64 0, .slice none 0 0, .bool false] 38) = wa := ⟨_, rfl⟩
                  obtain ⟨ga, hga2⟩ : ∃ ga, wr.heap.size = ga := ⟨_, rfl⟩
                  rw [hwa2] at hka hga hkc ⊢
                  rw [hga2] at hga ⊢
                  have HKC := Lib.hid hkc
                  have hma : MsgsOk wa (fun k => k < W.heap.size) (.slice (some ⟨ga, 0, none⟩) 1 1) [⟨({ kind := 4, src := y.id, dst := m.src, term := y.term, index := (z.log.length : Int), logTerm := 0, commit := 0, items := [], yes := false } : Mes), .slice none 0 0⟩] :=
                    ⟨by
                      have h1 := one_slice (S := fun k => k < W.heap.size) (size := 9) hga rfl (by omega)
                      exact h1, fun s hs => by
                      simp only [List.mem_singleton] at hs
                      subst hs
                      exact no_items _ _⟩
                  apply Wg.wpAnyP_one (i := 4) (fuel := 0) (by kernel_rfl) rfl rfl
                  go_simp
                  refine ⟨HKC.out, ?_⟩
                  refine ⟨by kernel_rfl, ?_⟩
                  obtain ⟨q0, q1, q2, q3, q4, q5, q6, q7, q8, q9, q10, qf⟩ := cells11 (hka.blk hrb)
                  have FIN := Lib.hid (HBW.out.both2 (y := z) HBW.out hrk hka hma)
                  clear hrb hrk hka hga hkc hma
                  go_wp2_with fail
                  refine bodyPost_ret (v := .tuple #[.agg #[.int .i64 z.id, .int .i64 z.n, .int .i64 z.term, .int .i64 z.vote, .slice LA3 z.log.length LC3, .int .i64 z.commit, .int .i64 z.role, .int .i64 z.boss, .slice VA3 z.votes.length VC3, .slice NA3 z.next.length NC3, .slice MA3 z.mtch.length MC3], .slice (some ⟨ga, 0, none⟩) 1 1]) (by simp [results, Try.results31, go_sem, q0, q1, q2, q3, q4, q5, q6, q7, q8, q9, q10]) rfl ?_
                  rw [HE.out]
                  exact FIN.out
              )
          case false =>
            have hrf : ¬ ((z.log.length : Int) < m.index ∨ (termAt z.log m.index ≠ m.logTerm ∧ 0 < m.index)) := by
              intro h
              have h2 : (decide ((z.log.length : Int) < m.index) || (decide (0 < m.index) && (termAt z.log m.index != m.logTerm))) = true := by
                simp only [Bool.or_eq_true, Bool.and_eq_true, decide_eq_true_eq, bne_iff_ne]
                omega
              rw [q2] at h2
              cases h2
            obtain ⟨ix, hix⟩ : ∃ ix : Nat, m.index = ix := ⟨m.index.toNat, by omega⟩
            have HE := Lib.hid (show receive n m = ({ z with log := (taken ix m.items z.log z.commit).1, commit := max (taken ix m.items z.log z.commit).2 (min m.commit (m.index + m.items.length)) }, [({ kind := 4, src := y.id, dst := m.src, term := y.term, index := (m.index + m.items.length), logTerm := 0, commit := 0, items := [], yes := true } : Mes)]) by
              rw [HAZ.out, if_neg hrf, show m.index.toNat = ix by omega]
              unfold says
              rw [HYI.out.1, HYI.out.2])
            have htk := takenR_any HZ11.out (fun k hk => hk.elim (HB11.out.oldS k) fun e => by rw [e]; exact laid_lt HP11.out) (Sl.keep (show Sl w Free (.slice IA m.items.length IC) 2 (itemCells m.items) from HM.out) HB11.out.keeps (fun _ _ h => h) : MesOk wc Free ⟨m, .slice IA m.items.length IC⟩) ix hix (by simp only; omega) (by simp only; omega) (by simp only; omega) (by simp only; rw [HX3.out]; exact HGY.out.commit0) (by simp only; rw [HX3.out]; exact HGY.out.commitn) HFY.out.commit0
            simp only [nodCells, mesCells] at htk
            have HTK := Lib.hid htk
            have hP11 := laid_lt HP11.out
            clear hrf q2 htk hix
            go_upto_region 47 with (first
              | (go_at_call 77
                 refine HTK.out.mono ?_
                 rintro e w9 ⟨⟨u, lv4, vv4, nv4, mv4⟩, rfl, hu, hok4, hk9⟩
                 obtain ⟨LA4, LC4, VA4, VC4, NA4, NC4, MA4, MC4, e1, e2, e3, e4⟩ := hok4.shape
                 simp only at e1 e2 e3 e4 hu
                 subst e1 e2 e3 e4
                 have HU := Lib.hid hu
                 have hb9 := HB11.out.later hk9
                 have hm9 := hk9.blk HM11.out
                 have hp9 := hk9.blk HP11.out
                 clear b0 b1 b2 b3 b4 b5 b6 b7 b8 b9 b10 bf d0 d1 d2 d3 d4 d5 d6 d7 d8 df p0 p1 p2 p3 p4 p5 p6 p7 p8 pf
                 obtain ⟨wg, hwg, hgb, hgk⟩ := put11l (v0 := .int .i64 u.id) (v1 := .int .i64 u.n) (v2 := .int .i64 u.term) (v3 := .int .i64 u.vote) (v4 := .slice LA4 u.log.length LC4) (v5 := .int .i64 u.commit) (v6 := .int .i64 u.role) (v7 := .int .i64 u.boss) (v8 := .slice VA4 u.votes.length VC4) (v9 := .slice NA4 u.next.length NC4) (v10 := .slice MA4 u.mtch.length MC4) hb9.blk rfl
                 obtain ⟨b0, b1, b2, b3, b4, b5, b6, b7, b8, b9, b10, bf⟩ := cells11 hb9.blk
                 simp only at b0 b1 b2 b3 b4 b5 b6 b7 b8 b9 b10
                 have HB12 := Lib.hid (hb9.put (y := ⟨u, .slice LA4 u.log.length LC4, .slice VA4 u.votes.length VC4, .slice NA4 u.next.length NC4, .slice MA4 u.mtch.length MC4⟩) hgk hgb (hok4.weak fun _ _ h => .inl h))
                 have HZ12 := Lib.hid (hok4.into hgk (fun k _ e => .inl (.inr ⟨by omega, by omega⟩)) (fun _ _ h => h))
                 have HM12 := Lib.hid ((hgk.block (B + 1) (laid_lt hm9) (by omega)).trans hm9)
                 have HP12 := Lib.hid ((hgk.block P (laid_lt hp9) (by omega)).trans hp9)
                 clear hu hok4 hgk hb9 hm9 hp9))
            first | rw [hwg] | skip
            clear HTK hk9 b0 b1 b2 b3 b4 b5 b6 b7 b8 b9 b10 bf hgb hwg
            have hwp2 : IntKind.i64.wrap (m.index + (m.items.length : Int)) = m.index + (m.items.length : Int) := IntWalk.i64_in _ (by omega)
            refine Wg.wp_region_first (C := fun w' => Keeps (fun k => k = P) wg w') (by kernel_rfl) 99 ?_
            have HKF := Lib.hid (show Keeps Free wg { wg with drawn := wg.drawn + 1 } from (Keeps.refl Free wg).drew)
            obtain ⟨W, hW⟩ : ∃ W : World, W = { wg with drawn := wg.drawn + 1 } := ⟨_, rfl⟩
            rw [← hW] at HKF ⊢
            clear hW
            have HKW := Lib.hid (HKF.out.mono (S' := fun k => k = P) (fun _ h => h.elim))
            apply Wg.wpAnyP_stays (by kernel_rfl) [0, 1, 2, 3, 4, 5, 6] _ _ _ 3 _ HKW.out (by kernel_rfl) ?hs ?hr
            case hs =>
              apply Wg.wpStays_step rfl rfl
              · intro w' hw'
                have hmw := (hw'.block (B + 1) (laid_lt HM12.out) (by omega)).trans HM12.out
                obtain ⟨d0, d1, d2, d3, d4, d5, d6, d7, d8, df⟩ := cells9l hmw
                clear hw' hmw
                go_simp
                exact ⟨rfl, rfl⟩
              go_simp
              apply Wg.wpStays_step rfl rfl
              · intro w' hw'
                have hmw := (hw'.block (B + 1) (laid_lt HM12.out) (by omega)).trans HM12.out
                obtain ⟨d0, d1, d2, d3, d4, d5, d6, d7, d8, df⟩ := cells9l hmw
                clear hw' hmw
                go_simp
                exact ⟨rfl, rfl⟩
              go_simp
              apply Wg.wpStays_step rfl rfl
              · intro w' hw'
                have hmw := (hw'.block (B + 1) (laid_lt HM12.out) (by omega)).trans HM12.out
                obtain ⟨d0, d1, d2, d3, d4, d5, d6, d7, d8, df⟩ := cells9l hmw
                clear hw' hmw
                go_simp
                exact ⟨rfl, rfl⟩
              go_simp
              apply Wg.wpStays_step rfl rfl
              · intro w' hw'
                have hmw := (hw'.block (B + 1) (laid_lt HM12.out) (by omega)).trans HM12.out
                obtain ⟨d0, d1, d2, d3, d4, d5, d6, d7, d8, df⟩ := cells9l hmw
                clear hw' hmw
                go_simp
                exact ⟨rfl, rfl⟩
              go_simp
              apply Wg.wpStays_step rfl rfl
              · intro w' hw'
                have hmw := (hw'.block (B + 1) (laid_lt HM12.out) (by omega)).trans HM12.out
                obtain ⟨d0, d1, d2, d3, d4, d5, d6, d7, d8, df⟩ := cells9l hmw
                clear hw' hmw
                go_simp
                exact ⟨rfl, rfl⟩
              go_simp
              apply Wg.wpStays_step rfl rfl
              · intro w' hw'
                have hmw := (hw'.block (B + 1) (laid_lt HM12.out) (by omega)).trans HM12.out
                obtain ⟨d0, d1, d2, d3, d4, d5, d6, d7, d8, df⟩ := cells9l hmw
                clear hw' hmw
                go_simp
                exact ⟨rfl, rfl⟩
              go_simp
              apply Wg.wpStays_step rfl rfl
              · intro w' hw'
                have hmw := (hw'.block (B + 1) (laid_lt HM12.out) (by omega)).trans HM12.out
                obtain ⟨d0, d1, d2, d3, d4, d5, d6, d7, d8, df⟩ := cells9l hmw
                clear hw' hmw
                go_simp
                exact ⟨rfl, rfl⟩
              go_simp
              exact rfl
            case hr =>
              have HPW := Lib.hid (HKF.out.blk HP12.out)
              obtain ⟨p0, p1, p2, p3, p4, p5, p6, p7, p8, pf⟩ := cells9l HPW.out
              apply Wg.wpAnyP_one (i := 7) (fuel := 2) (by kernel_rfl) rfl rfl
              go_simp
              refine ⟨HKW.out.setCell (p := ⟨P, 8, none⟩) (.inl rfl) _, ?_⟩
              apply Wg.wpAnyP_one (i := 8) (fuel := 1) (by kernel_rfl) rfl rfl
              go_simp
              refine ⟨HKW.out.setCell (p := ⟨P, 8, none⟩) (.inl rfl) _, ?_⟩
              apply Wg.wpAnyP_one (i := 9) (fuel := 0) (by kernel_rfl) rfl rfl
              go_simp
              refine ⟨(HKW.out.setCell (p := ⟨P, 8, none⟩) (.inl rfl) _).setCell (p := ⟨P, 4, none⟩) (.inl rfl) _, ?_⟩
              refine ⟨by kernel_rfl, ?_⟩
              have hk14 : Keeps (fun k => k = P) W ((W.setCell ⟨P, 8, none⟩ (.bool true)).setCell ⟨P, 4, none⟩ (.int .i64 (m.index + (m.items.length : Int)))) := ((Keeps.refl (fun k => k = P) W).setCell (p := ⟨P, 8, none⟩) (.inl rfl) _).setCell (p := ⟨P, 4, none⟩) (.inl rfl) _
              have hp14 := setCell_blk (k := 4) (u := .int .i64 (m.index + (m.items.length : Int))) (setCell_blk (k := 8) (u := .bool true) HPW.out)
              go_upto_region 48 with fail
              obtain ⟨w14, hw14⟩ : ∃ w14, (W.setCell ⟨P, 8, none⟩ (.bool true)).setCell ⟨P, 4, none⟩ (.int .i64 (m.index + (m.items.length : Int))) = w14 := ⟨_, rfl⟩
              rw [hw14] at hk14 hp14 ⊢
              have HP14 := Lib.hid (hp14.trans rfl : w14.heap[P]? = some (.cells #[.int .i64 4, .int .i64 y.id, .int .i64 m.src, .int .i64 y.term, .int .i64 (m.index + (m.items.length : Int)), .int .i64 0, .int .i64 0, .slice none 0 0, .bool true] 38 (0, 0)))
              have HB14 := Lib.hid ((HB12.out.later HKF.out).sidek3 hrl hk14 (HZ12.out.into HKF.out (fun _ _ h => h.elim) (fun _ _ h => h)))
              clear hw14 hk14 hp14 p0 p1 p2 p3 p4 p5 p6 p7 p8 pf HKF HKW HPW W
              refine Wg.wp_region_first (C := fun w' => Keeps (fun k => k = B + 1 + 1) w14 w') (by kernel_rfl) 99 ?_
              have HKF := Lib.hid (show Keeps Free w14 { w14 with drawn := w14.drawn + 1 } from (Keeps.refl Free w14).drew)
              obtain ⟨W, hW⟩ : ∃ W : World, W = { w14 with drawn := w14.drawn + 1 } := ⟨_, rfl⟩
              rw [← hW] at HKF ⊢
              clear hW
              have HKW := Lib.hid (HKF.out.mono (S' := fun k => k = B + 1 + 1) (fun _ h => h.elim))
              have hW2 := HKF.out.size
              have hrl := HB14.out.rlt
              have hwl := HB14.out.le
              apply Wg.wpAnyP_stays (by kernel_rfl) [0, 1] _ _ _ 3 _ HKW.out (by kernel_rfl) ?hs ?hr
              case hs =>
                apply Wg.wpStays_step rfl rfl
                · intro w' hw'
                  have hbw := (hw'.block B (laid_lt HB14.out.blk) (by omega)).trans HB14.out.blk
                  obtain ⟨e0, e1, e2, e3, e4, e5, e6, e7, e8, e9, e10, ef⟩ := cells11 hbw
                  simp only at e0 e1 e2 e3 e4 e5 e6 e7 e8 e9 e10
                  clear hbw
                  clear hw'
                  go_simp
                  exact ⟨rfl, rfl⟩
                go_simp
                apply Wg.wpStays_step rfl rfl
                · intro w' hw'
                  have hpw := (hw'.block P (laid_lt HP14.out) (by omega)).trans HP14.out
                  obtain ⟨p0, p1, p2, p3, p4, p5, p6, p7, p8, pf⟩ := cells9l hpw
                  clear hpw
                  clear hw'
                  go_simp
                  exact ⟨rfl, rfl⟩
                go_simp
                exact rfl
              case hr =>
                have HBW := Lib.hid (HB14.out.later HKF.out)
                apply Wg.wpAnyP_two (i := 2) (k := 3) (fuel := 2) (by kernel_rfl) rfl rfl rfl rfl
                · go_simp
                  refine ⟨HKW.out.alloc _, ?_⟩
                  have hka := (Keeps.refl Free W).alloc (.cells #[.int .i64 4, .int .i64 y.id, .int .i64 m.src, .int .i64 y.term, .int .i64 (m.index + (m.items.length : Int)), .int .i64 0, .int .i64 0, .slice none 0 0, .bool true] 38)
                  have hga := heap_alloc_new W (.cells #[.int .i64 4, .int .i64 y.id, .int .i64 m.src, .int .i64 y.term, .int .i64 (m.index + (m.items.length : Int)), .int .i64 0, .int .i64 0, .slice none 0 0, .bool true] 38)
                  have hkc := HKW.out.alloc (.cells #[.int .i64 4, .int .i64 y.id, .int .i64 m.src, .int .i64 y.term, .int .i64 (m.index + (m.items.length : Int)), .int .i64 0, .int .i64 0, .slice none 0 0, .bool true] 38)
                  obtain ⟨wa, hwa2⟩ : ∃ wa, W.alloc (.cells #[.int .i64 4, .int .i64 y.id, .int .i64 m.src, .int .i64 y.term, .int .i64 (m.index + (m.items.length : Int)), .int .i64 0, .int .i64 0, .slice none 0 0, .bool true] 38) = wa := ⟨_, rfl⟩
                  obtain ⟨ga, hga2⟩ : ∃ ga, W.heap.size = ga := ⟨_, rfl⟩
                  rw [hwa2] at hka hga hkc ⊢
                  rw [hga2] at hga ⊢
                  have HKC := Lib.hid hkc
                  have hma : MsgsOk wa (fun k => k < W.heap.size) (.slice (some ⟨ga, 0, none⟩) 1 1) [⟨({ kind := 4, src := y.id, dst := m.src, term := y.term, index := (m.index + m.items.length), logTerm := 0, commit := 0, items := [], yes := true } : Mes), .slice none 0 0⟩] :=
                    ⟨by
                      have h1 := one_slice (S := fun k => k < W.heap.size) (size := 9) hga rfl (by omega)
                      exact h1, fun s hs => by
                      simp only [List.mem_singleton] at hs
                      subst hs
                      exact no_items _ _⟩
                  have HBA := Lib.hid (HBW.out.later hka); have HMA := Lib.hid hma
                  clear hka hga hkc hwa2 hma
                  obtain ⟨wr, hwr, hrb, hrk⟩ := put11l (v0 := .int .i64 u.id) (v1 := .int .i64 u.n) (v2 := .int .i64 u.term) (v3 := .int .i64 u.vote) (v4 := .slice LA4 u.log.length LC4) (v5 := .int .i64 u.commit) (v6 := .int .i64 u.role) (v7 := .int .i64 u.boss) (v8 := .slice VA4 u.votes.length VC4) (v9 := .slice NA4 u.next.length NC4) (v10 := .slice MA4 u.mtch.length MC4) HBA.out.res rfl
                  obtain ⟨r0, r1, r2, r3, r4, r5, r6, r7, r8, r9, r10, rf⟩ := cells11 HBA.out.res
                  apply Wg.wpAnyP_one (i := 3) (fuel := 1) (by kernel_rfl) rfl rfl
                  go_simp
                  first | rw [hwr] | skip
                  have HKR := Lib.hid (HKC.out.trans hrk (fun _ h => .inl h))
                  refine ⟨HKR.out, ?_⟩
                  apply Wg.wpAnyP_one (i := 4) (fuel := 0) (by kernel_rfl) rfl rfl
                  go_simp
                  refine ⟨HKR.out, ?_⟩
                  refine ⟨by kernel_rfl, ?_⟩
                  clear r0 r1 r2 r3 r4 r5 r6 r7 r8 r9 r10 rf hwr
                  obtain ⟨q0, q1, q2, q3, q4, q5, q6, q7, q8, q9, q10, qf⟩ := cells11 hrb
                  have FIN := Lib.hid (HBW.out.both (y := u) HBA.out HMA.out hrk)
                  clear hrb hrk
                  go_wp2_with fail
                  refine bodyPost_ret (v := .tuple #[.agg #[.int .i64 u.id, .int .i64 u.n, .int .i64 u.term, .int .i64 u.vote, .slice LA4 u.log.length LC4, .int .i64 u.commit, .int .i64 u.role, .int .i64 u.boss, .slice VA4 u.votes.length VC4, .slice NA4 u.next.length NC4, .slice MA4 u.mtch.length MC4], .slice (some ⟨ga, 0, none⟩) 1 1]) (by simp [results, Try.results31, go_sem, q0, q1, q2, q3, q4, q5, q6, q7, q8, q9, q10]) rfl ?_
                  rw [HE.out, ← HU.out]
                  exact FIN.out
                · skip
                  obtain ⟨wr, hwr, hrb, hrk⟩ := put11l (v0 := .int .i64 u.id) (v1 := .int .i64 u.n) (v2 := .int .i64 u.term) (v3 := .int .i64 u.vote) (v4 := .slice LA4 u.log.length LC4) (v5 := .int .i64 u.commit) (v6 := .int .i64 u.role) (v7 := .int .i64 u.boss) (v8 := .slice VA4 u.votes.length VC4) (v9 := .slice NA4 u.next.length NC4) (v10 := .slice MA4 u.mtch.length MC4) HBW.out.res rfl
                  obtain ⟨r0, r1, r2, r3, r4, r5, r6, r7, r8, r9, r10, rf⟩ := cells11 HBW.out.res
                  go_simp
                  first | rw [hwr] | skip
                  have HKR := Lib.hid (HKW.out.trans hrk (fun _ h => .inl h))
                  refine ⟨HKR.out, ?_⟩
                  clear r0 r1 r2 r3 r4 r5 r6 r7 r8 r9 r10 rf hwr
                  have hwr9 := hrk.size
                  apply Wg.wpAnyP_one (i := 2) (fuel := 1) (by kernel_rfl) rfl rfl
                  go_simp
                  refine ⟨HKR.out.alloc _, ?_⟩
                  have hka := (Keeps.refl Free wr).alloc (.cells #[.int .i64 4, .int .i64 y.id, .int .i64 m.src, .int .i64 y.term, .int .i64 (m.index + (m.items.length : Int)), .int .i64 0, .int .i64 0, .slice none 0 0, .bool true] 38)
                  have hga := heap_alloc_new wr (.cells #[.int .i64 4, .int .i64 y.id, .int .i64 m.src, .int .i64 y.term, .int .i64 (m.index + (m.items.length : Int)), .int .i64 0, .int .i64 0, .slice none 0 0, .bool true] 38)
                  have hkc := HKR.out.alloc (.cells #[.int .i64 4, .int .i64 y.id, .int .i64 m.src, .int .i64 y.term, .int .i64 (m.index + (m.items.length : Int)), .int .i64 0, .int .i64 0, .slice none 0 0, .bool true] 38)
                  obtain ⟨wa, hwa2⟩ : ∃ wa, wr.alloc (.cells #[.int .i64 4, .int .i64 y.id, .int .i64 m.src, .int .i64 y.term, .int .i64 (m.index + (m.items.length : Int)), .int .i64 0, .int .i64 0, .slice none 0 0, .bool true] 38) = wa := ⟨_, rfl⟩
                  obtain ⟨ga, hga2⟩ : ∃ ga, wr.heap.size = ga := ⟨_, rfl⟩
                  rw [hwa2] at hka hga hkc ⊢
                  rw [hga2] at hga ⊢
                  have HKC := Lib.hid hkc
                  have hma : MsgsOk wa (fun k => k < W.heap.size) (.slice (some ⟨ga, 0, none⟩) 1 1) [⟨({ kind := 4, src := y.id, dst := m.src, term := y.term, index := (m.index + m.items.length), logTerm := 0, commit := 0, items := [], yes := true } : Mes), .slice none 0 0⟩] :=
                    ⟨by
                      have h1 := one_slice (S := fun k => k < W.heap.size) (size := 9) hga rfl (by omega)
                      exact h1, fun s hs => by
                      simp only [List.mem_singleton] at hs
                      subst hs
                      exact no_items _ _⟩
                  apply Wg.wpAnyP_one (i := 4) (fuel := 0) (by kernel_rfl) rfl rfl
                  go_simp
                  refine ⟨HKC.out, ?_⟩
                  refine ⟨by kernel_rfl, ?_⟩
                  obtain ⟨q0, q1, q2, q3, q4, q5, q6, q7, q8, q9, q10, qf⟩ := cells11 (hka.blk hrb)
                  have FIN := Lib.hid (HBW.out.both2 (y := u) HBW.out hrk hka hma)
                  clear hrb hrk hka hga hkc hma
                  go_wp2_with fail
                  refine bodyPost_ret (v := .tuple #[.agg #[.int .i64 u.id, .int .i64 u.n, .int .i64 u.term, .int .i64 u.vote, .slice LA4 u.log.length LC4, .int .i64 u.commit, .int .i64 u.role, .int .i64 u.boss, .slice VA4 u.votes.length VC4, .slice NA4 u.next.length NC4, .slice MA4 u.mtch.length MC4], .slice (some ⟨ga, 0, none⟩) 1 1]) (by simp [results, Try.results31, go_sem, q0, q1, q2, q3, q4, q5, q6, q7, q8, q9, q10]) rfl ?_
                  rw [HE.out, ← HU.out]
                  exact FIN.out
end Go.Proofs.Ytibjbpakbfodaaa
