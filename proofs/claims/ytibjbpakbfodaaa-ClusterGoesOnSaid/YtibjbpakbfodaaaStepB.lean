/- cluster.Step, walked, where a message is delivered. -/
import Derived.Test.YtibjbpakbfodaaaStepL
import Derived.Deep.CutBlock
namespace Go.Proofs.Ytibjbpakbfodaaa
open Go.RowKit

set_option maxRecDepth 100000 in
set_option maxHeartbeats 8000000 in
theorem step_4 {w : World} {Q : Nat → Prop} {W : WldV} {ev : Evt} (h0 : WldOk w Q W) (hQ : ∀ k, Q k → k < w.heap.size) (hn : W.nodes.length ≤ 1000) (hm : W.net.length ≤ 1000) (hkind : ev.kind = 4) :
    Calls Try.prog 47 #[.agg #[W.nv, W.ov], .agg #[.int .i64 ev.kind, .int .i64 ev.node, .int .i64 ev.pick]] w fun e w' => ∃ W' : WldV, e = .returned (.agg #[W'.nv, W'.ov]) ∧ W'.w = cstep W.w ev ∧ WldOk w' Q W' ∧ Keeps Free w w' := by
  have H0 := Lib.hid h0
  obtain ⟨nodes, net, nv, ov⟩ := W
  simp only at hn hm
  obtain ⟨NA, NC, rfl⟩ := h0.cells.form (nods_len nodes) (by decide)
  obtain ⟨OA, OC, rfl⟩ := h0.msgs.cells.form (mess_len net) (by decide)
  obtain ⟨k, nd, pk⟩ := ev
  simp only at hkind ⊢
  have k1 : (k == 1) = false := by rw [beq_eq_false_iff_ne]; omega
  have k2 : (k == 2) = false := by rw [beq_eq_false_iff_ne]; omega
  have k3 : (k == 3) = false := by rw [beq_eq_false_iff_ne]; omega
  have k7 : (k == 7) = false := by rw [beq_eq_false_iff_ne]; omega
  have k5 : (k == 5) = false := by rw [beq_eq_false_iff_ne]; omega
  have k6 : (k == 6) = false := by rw [beq_eq_false_iff_ne]; omega
  have k4 : (k == 4) = true := by rw [hkind]; rfl
  clear hkind
  have hc1 := fun (w' : World) (hk : Keeps Free w w') => cloneNode_any (w := w') (Sl.into (S' := Free) h0.cells hk (fun _ _ h => h.elim) (fun _ _ h => h.elim)) nodes.length (nods_len nodes) (nods_one h0.each) (by omega)
  have hc2 := fun (w' : World) (hk : Keeps Free w w') => cloneMsg_any (w := w') (Sl.into (S' := Free) h0.msgs.cells hk (fun _ _ h => h.elim) (fun _ _ h => h.elim)) net.length (mess_len net) (mess_one h0.msgs.each) (by omega)
  have HC1 := Lib.hid hc1; have HC2 := Lib.hid hc2
  clear h0 hc1 hc2
  obtain ⟨wa, wb, wz, e1, e2, e3, s1, s2, s3, hk3, b1, b2, b3⟩ := three_boxes w (Obj.cells #[Value.slice NA nodes.length NC, Value.slice OA net.length OC] 55) (Obj.cells #[Value.int IntKind.i64 k, Value.int IntKind.i64 nd, Value.int IntKind.i64 pk] 63) (Obj.cells #[Value.slice none 0 0, Value.slice none 0 0] 55)
  obtain ⟨B, hB⟩ : ∃ B, w.heap.size = B := ⟨_, rfl⟩
  rw [hB] at s1 s2 s3 b1 b2 b3 hQ
  have HQ := Lib.hid hQ; have HK3 := Lib.hid hk3; have HB1 := Lib.hid b1; have HB2 := Lib.hid b2; have HB3 := Lib.hid b3; have HS3 := Lib.hid s3; have HBW := Lib.hid hB
  obtain ⟨c0, c1, cf⟩ := cells2 b1
  clear hk3 b1 b2 b3 hQ
  go_enter Try.func47, Try.ntmps47
  go_upto_region 1 with fail
  go_cut [6] (fun _ wx => ∃ A1 C1 A2 C2, wx.ownsRow 0 25 11 (.slice A1 nodes.length C1) nodes.length (nodes.flatMap nodCells) ∧ wx.ownsRow 0 38 9 (.slice A2 net.length C2) net.length (net.flatMap mesCells) ∧
      (∀ g, (Value.slice A1 nodes.length C1).ownBlock = some g → B + 3 ≤ g) ∧ (∀ g, (Value.slice A2 net.length C2).ownBlock = some g → B + 3 ≤ g) ∧
      Keeps Free w wx ∧ B + 3 ≤ wx.heap.size ∧ wx.heap[B]? = some (.cells #[.slice A1 nodes.length C1, .slice A2 net.length C2] 55 (0, 0)) ∧ wx.heap[B + 1]? = some (.cells #[.int .i64 k, .int .i64 nd, .int .i64 pk] 63 (0, 0)) ∧ wx.heap[B + 2]? = some (.cells #[.slice none 0 0, .slice none 0 0] 55 (0, 0)))
  case first =>
    go_region_with (first
      | (go_at_call 81; refine (HC1.out _ HK3.out.drew).mono ?_; rintro e w1 ⟨A1, C1, rfl, o1, g1, kk1⟩; obtain ⟨x0, x1, xf⟩ := cells2 (kk1.blk HB1.out))
      | (go_at_call 82; refine (HC2.out _ (HK3.out.drew.trans kk1 (fun _ h => h.elim))).mono ?_; rintro e w2 ⟨A2, C2, rfl, o2, g2, kk2⟩; obtain ⟨y0, y1, yf⟩ := cells2 (kk2.blk (kk1.blk HB1.out))))
    all_goals
      go_wp2_with fail
      go_meet
      obtain ⟨X, rfl, r⟩ := cloned_rows HBW.out HS3.out HK3.out HB1.out HB2.out HB3.out o1 g1 kk1 o2 g2 kk2
      exact ⟨A1, C1, A2, C2, r⟩
  case rest =>
    obtain ⟨wo, rfl⟩ : ∃ wo : World, wo = wc := ⟨_, rfl⟩
    obtain ⟨A1, C1, A2, C2, q1, q2, q3, q4, q5, q6, q7, q8, q9⟩ := hcut
    obtain ⟨d0, d1, df⟩ := cells2 q7
    obtain ⟨f0, f1, f2, ff⟩ := cells3 q8
    obtain ⟨t0, t1, tf⟩ := cells2 q9
    have hnd := node_any (w := wo) (b := B) d0 hn nd
    have hsp := spot_cases nodes.length nd
    obtain ⟨sp, hspe⟩ : ∃ sp, spot nodes.length nd = sp := ⟨_, rfl⟩
    rw [hspe] at hnd hsp
    have HSP := Lib.hid hsp
    clear hspe hsp
    have Q1 := Lib.hid q1; have Q2 := Lib.hid q2; have Q3 := Lib.hid q3; have Q4 := Lib.hid q4; have Q5 := Lib.hid q5; have Q6 := Lib.hid q6; have Q7 := Lib.hid q7; have Q9 := Lib.hid q9; have HND := Lib.hid hnd
    clear q1 q2 q3 q4 q5 q6 q7 q8 q9 hnd HC1 HC2 HB1 HB2 HB3 HK3 HS3 hB e1 e2 e3 s1 s2 s3 c0 c1 cf
    go_upto_block 0 with (go_at_call 83; refine HND.out.mono ?_; rintro e w4 ⟨rfl, hw⟩; have hw := hw.symm; subst hw)
    go_cut [6] (fun o wx => Mid w Q B ⟨nodes, net, .slice NA nodes.length NC, .slice OA net.length OC⟩ ⟨k, nd, pk⟩ o wx)
    case first =>
      cases qa : decide (pk < 0)
      case true =>
        obtain ⟨wf, hwf, hfb, hfk⟩ := put2 (v0 := .slice A1 nodes.length C1) (v1 := .slice A2 net.length C2) Q9.out rfl
        obtain ⟨z0, z1, zf⟩ := cells2 hfb
        have HWF := Lib.hid hfk
        have HCS := Lib.hid (show (WldV.w ⟨nodes, net, .slice NA nodes.length NC, .slice OA net.length OC⟩) = cstep (WldV.w ⟨nodes, net, .slice NA nodes.length NC, .slice OA net.length OC⟩) ⟨k, nd, pk⟩ from (cstep_nopick (ev := ⟨k, nd, pk⟩) (.inl (by simpa using k4)) (.inl (by simpa using qa))).symm)
        clear hfb hfk
        go_wp2_with fail
        refine bodyPost_ret (v := .agg #[.slice A1 nodes.length C1, .slice A2 net.length C2]) (by simp [results, Try.results47, go_sem, z0, z1]) rfl ?_
        exact ⟨⟨nodes, net, _, _⟩, rfl, HCS.out, idle_end H0.out HQ.out HBW.out Q1.out Q2.out Q3.out Q4.out Q5.out Q6.out Q7.out HWF.out⟩
      case false =>
        cases qb : decide ((net.length : Int) ≤ pk)
        case true =>
          obtain ⟨wf, hwf, hfb, hfk⟩ := put2 (v0 := .slice A1 nodes.length C1) (v1 := .slice A2 net.length C2) Q9.out rfl
          obtain ⟨z0, z1, zf⟩ := cells2 hfb
          have HWF := Lib.hid hfk
          have HCS := Lib.hid (show (WldV.w ⟨nodes, net, .slice NA nodes.length NC, .slice OA net.length OC⟩) = cstep (WldV.w ⟨nodes, net, .slice NA nodes.length NC, .slice OA net.length OC⟩) ⟨k, nd, pk⟩ from (cstep_nopick (ev := ⟨k, nd, pk⟩) (.inl (by simpa using k4)) (.inr (by simpa using qb))).symm)
          clear hfb hfk
          go_wp2_with fail
          refine bodyPost_ret (v := .agg #[.slice A1 nodes.length C1, .slice A2 net.length C2]) (by simp [results, Try.results47, go_sem, z0, z1]) rfl ?_
          exact ⟨⟨nodes, net, _, _⟩, rfl, HCS.out, idle_end H0.out HQ.out HBW.out Q1.out Q2.out Q3.out Q4.out Q5.out Q6.out Q7.out HWF.out⟩
        case false =>
          have ha : ¬ pk < 0 := by simpa using qa
          have hbb : ¬ (net.length : Int) ≤ pk := by simpa using qb
          obtain ⟨j, rfl⟩ : ∃ j : Nat, pk = j := ⟨pk.toNat, by omega⟩
          have hj : j < net.length := by omega
          have hkn : k = 4 := by simpa using k4
          have n5 : (k != 5) = true := by rw [hkn]; rfl
          have n6 : (k != 6) = true := by rw [hkn]; rfl
          have HKN := Lib.hid hkn
          clear ha hbb qa qb hkn HSP
          obtain ⟨g2, rfl, hgc, hgf⟩ := own_at (f := mesCells) (s := 9) (fun _ => rfl) Q2.out hj
          have hm0 := H0.out.msgs.each net[j] (List.getElem_mem hj)
          obtain ⟨mm, hmm⟩ : ∃ mm, net[j] = mm := ⟨_, rfl⟩
          rw [hmm] at hgc hm0
          have HM0 := Lib.hid hm0
          obtain ⟨m, iv⟩ := mm
          obtain ⟨IA, IL, IC, rfl, -⟩ := hm0
          have r0 : wo.cell? ⟨g2, j * 9, none⟩ = some (.int .i64 m.kind) := hgc 0 _ (by decide) rfl
          have r1 := hgc 1 _ (by decide) rfl; have r2 := hgc 2 _ (by decide) rfl; have r3 := hgc 3 _ (by decide) rfl; have r4 := hgc 4 _ (by decide) rfl; have r5 := hgc 5 _ (by decide) rfl
          have r6 := hgc 6 _ (by decide) rfl; have r7 := hgc 7 _ (by decide) rfl; have r8 := hgc 8 _ (by decide) rfl
          have HMM := Lib.hid hmm
          clear hgc hmm hgf
          have hk5 : Keeps Free wo (wo.alloc (.cells #[.int .i64 m.kind, .int .i64 m.src, .int .i64 m.dst, .int .i64 m.term, .int .i64 m.index, .int .i64 m.logTerm, .int .i64 m.commit, .slice IA IL IC, .bool m.yes] 38)) := (Keeps.refl _ wo).alloc _
          have hb5 := heap_alloc_new wo (.cells #[.int .i64 m.kind, .int .i64 m.src, .int .i64 m.dst, .int .i64 m.term, .int .i64 m.index, .int .i64 m.logTerm, .int .i64 m.commit, .slice IA IL IC, .bool m.yes] 38)
          have hs5 := World.size_alloc wo (.cells #[.int .i64 m.kind, .int .i64 m.src, .int .i64 m.dst, .int .i64 m.term, .int .i64 m.index, .int .i64 m.logTerm, .int .i64 m.commit, .slice IA IL IC, .bool m.yes] 38)
          obtain ⟨w5, hal⟩ : ∃ w5, wo.alloc (.cells #[.int .i64 m.kind, .int .i64 m.src, .int .i64 m.dst, .int .i64 m.term, .int .i64 m.index, .int .i64 m.logTerm, .int .i64 m.commit, .slice IA IL IC, .bool m.yes] 38) = w5 := ⟨_, rfl⟩
          obtain ⟨b8, hb8⟩ : ∃ b8, wo.heap.size = b8 := ⟨_, rfl⟩
          rw [hal] at hk5 hb5 hs5
          rw [hb8] at hb5 hs5
          have p0 := hk5.cell (fun h => h) f0
          have p2 := hk5.cell (fun h => h) f2
          have u0 := hk5.cell (fun h => h) d0
          have u1 := hk5.cell (fun h => h) d1
          have uf : ∀ k, w5.frozen? ⟨B, k, none⟩ = false := fun k => frozen_of_row w5 B k _ _ (hk5.blk Q7.out)
          have HK5 := Lib.hid hk5; have HB5 := Lib.hid hb5; have HS5 := Lib.hid hs5; have HB8 := Lib.hid hb8
          clear hk5 hb5 hs5
          have hdel := deleteMsg_any (own_later Q2.out HK5.out) (i := j) (j := j + 1) (by omega) hj (fun mm hmm => by obtain ⟨A, l, c, e, _⟩ := H0.out.msgs.each mm hmm; exact ⟨A, l, c, e⟩)
          rw [show ((j + 1 : Nat) : Int) = (j : Int) + 1 from by omega] at hdel
          have HDEL := Lib.hid hdel
          clear hdel
          obtain ⟨net1, hnet1⟩ : ∃ net1, net.take j ++ net.drop (j + 1) = net1 := ⟨_, rfl⟩
          have hno : netOf net k j = net1 := by unfold netOf; rw [if_neg (by rw [HKN.out]; decide)]; exact hnet1
          rw [hnet1] at HDEL
          have HNO := Lib.hid hno
          clear hnet1 hno
          obtain ⟨c0, c1, c2, c3, c4, c5, c6, c7, c8⟩ := mes9 HB5.out
          go_wp2_with fail
          refine HDEL.out.mono ?_
          rintro e w6 ⟨v3, rfl, o3, hv3, k6⟩
          have k6 : Keeps (fun k => k = g2) w5 w6 := k6.mono fun k e => .inl (by simpa [Value.ownBlock] using e.symm)
          obtain ⟨A3, C3, rfl, -, -⟩ := own_slice o3
          obtain ⟨w7, hw7, e1, e2, e3, k7⟩ := deleted (g2 := g2) (HK5.out.blk Q7.out) (own_later Q1.out HK5.out) (fun g hg => ⟨Q3.out g hg, fun e => own_ne Q1.out Q2.out (by decide) hg (by rw [e]; rfl)⟩) o3 hv3 k6 (Q4.out g2 rfl)
          have v0 := (k6.cell (b := B) (fun e => by have := Q4.out g2 rfl; omega) u0)
          have v1 := (k6.cell (b := B) (fun e => by have := Q4.out g2 rfl; omega) u1)
          have vf : ∀ k, w6.frozen? ⟨B, k, none⟩ = false := fun k => frozen_of_row w6 B k _ _ ((k6.block B (laid_lt (HK5.out.blk Q7.out)) (fun e => by have := Q4.out g2 rfl; omega)).trans (HK5.out.blk Q7.out))
          have hbg : b8 ≠ B ∧ b8 ≠ g2 := ⟨by have := Q6.out; have := HB8.out; omega, by have := own_lt Q2.out (g := g2) rfl; have := HB8.out; omega⟩
          have k7b := (k7.block b8 (laid_lt HB5.out) (fun e => e.elim hbg.1 hbg.2)).trans HB5.out
          have k79 := (k7.block (B + 2) (laid_lt (HK5.out.blk Q9.out)) (fun e => e.elim (by omega) fun e => by have := Q4.out g2 rfl; omega)).trans (HK5.out.blk Q9.out)
          have p7 := k7.cell (b := B + 1) (fun e => e.elim (by omega) fun e => by have := Q4.out g2 rfl; omega) p0
          have HV3 := Lib.hid hv3; have E1 := Lib.hid e1; have E2 := Lib.hid e2; have E3 := Lib.hid e3; have HK7 := Lib.hid k7; have E9 := Lib.hid k79
          obtain ⟨x0, x1, xf⟩ := cells2 e1
          clear c0 c1 c2 c3 c4 c5 c6 c7 c8
          obtain ⟨c0, c1, c2, c3, c4, c5, c6, c7, c8⟩ := mes9 k7b
          have K7B := Lib.hid k7b
          clear e1 e2 e3 k7 k79 k7b hbg o3 hv3
          have hnd2 := node_any (w := w7) (b := B) x0 hn m.dst
          have hsp := spot_cases nodes.length m.dst
          obtain ⟨sp2, hspe⟩ : ∃ sp, spot nodes.length m.dst = sp := ⟨_, rfl⟩
          rw [hspe] at hnd2 hsp
          have HND2 := Lib.hid hnd2; have HSP2 := Lib.hid hsp; have HK6 := Lib.hid k6
          have HS7 := Lib.hid (show w7.heap.size = w6.heap.size by rw [← hw7]; exact setCell_size _ _ _)
          clear hnd2 hsp hspe k6 u0 u1 uf d0 d1 df p0 p2 f0 f1 f2 ff t0 t1 tf r0 r1 r2 r3 r4 r5 r6 r7 r8
          have hsz7 : B + 3 ≤ w7.heap.size := by have := HS7.out; have := HK6.out.size; have := HS5.out; have := HB8.out; have := Q6.out; omega
          have hkw : Keeps Free w w7 := ((Q5.out.trans HK5.out fun _ h => .inl h)).trans HK7.out fun k e => .inr (by have := HBW.out; have := Q4.out g2 rfl; omega)
          have st := recv_stage (net1 := net1) H0.out HQ.out HBW.out hkw hsz7 E1.out E2.out E3.out (fun g hg => by have := Q3.out g hg; omega) (fun g hg => by rw [HV3.out] at hg; simp [Value.ownBlock] at hg; have := Q4.out g2 rfl; omega) (fun mm hmm => netOf_sub (k := k) (j := j) mm (by rw [HNO.out]; exact hmm))
          have hml : net1.length ≤ 1000 := by have := netOf_len (net := net) (k := k) (j := j); rw [HNO.out] at this; omega
          have HST := Lib.hid st; have HKW := Lib.hid hkw; have HSZ7 := Lib.hid hsz7
          have HO3 := Lib.hid (show ∀ g, (Value.slice A3 net1.length C3).ownBlock = some g → B + 3 ≤ g from fun g hg => by rw [HV3.out] at hg; simp [Value.ownBlock] at hg; have := Q4.out g2 rfl; omega)
          clear st hkw hsz7
          rcases HSP2.out with ⟨hneg, hout⟩ | ⟨i, hi, rfl, hin, hie⟩
          · go_wp2_with (go_at_call 83; refine HND2.out.mono ?_; rintro e w8 ⟨rfl, hw⟩; have hw := hw.symm; subst hw)
            go_meet
            exact still_mid (ev := ⟨k, nd, j⟩) HST.out HKW.out HSZ7.out E9.out hn hml Q3.out HO3.out (by rw [cstep_lost (ev := ⟨k, nd, j⟩) (m := ⟨m, .slice IA IL IC⟩) (.inl HKN.out) rfl hj HMM.out (.inr hout)]; rw [HNO.out])
          · obtain ⟨g1, rfl, hgc, hgf⟩ := own_at (f := nodCells) (s := 11) (fun _ => rfl) E2.out hi
            have hx0 := HST.out.each nodes[i] (List.getElem_mem hi)
            have hm1 : MesOk w7 (Apart Q B w7.heap.size) ⟨m, .slice IA IL IC⟩ := Sl.into HM0.out HKW.out (fun _ _ h => h.elim) fun k hk h => h.elim id fun h => by have := HBW.out; omega
            obtain ⟨xx, hxx⟩ : ∃ xx, nodes[i] = xx := ⟨_, rfl⟩
            rw [hxx] at hgc hx0
            have hrc : Calls Try.prog 30 #[.agg (nodCells xx).toArray, .agg (mesCells ⟨m, .slice IA IL IC⟩).toArray] w7.drew (Hands w7.drew (Apart Q B w7.heap.size) (receive xx.n m).1 (receive xx.n m).2) :=
              receive_any (w := w7.drew) (hx0.into (Keeps.refl Free w7).drew (fun _ _ h => h.elim) fun _ _ h => h) (fun k h => h.elim (fun h => by have h1 := HQ.out k h; have := HSZ7.out; exact Nat.lt_of_lt_of_le h1 (by show B ≤ w7.heap.size; omega)) fun h => h.2) (Sl.into hm1 (Keeps.refl Free w7).drew (fun _ _ h => h.elim) fun _ _ h => h.elim)
            obtain ⟨x, lv, vv, nv, mv⟩ := xx
            obtain ⟨⟨LA, LL, LC, rfl, -⟩, ⟨VA, VL, VC, rfl, -⟩, ⟨MA, ML, MC, rfl, -⟩, ⟨PA, PL, PC, rfl, -⟩⟩ := hx0
            have r0 : w7.cell? ⟨g1, i * 11, none⟩ = some (.int .i64 x.id) := hgc 0 _ (by decide) rfl
            have r1 := hgc 1 _ (by decide) rfl; have r2 := hgc 2 _ (by decide) rfl; have r3 := hgc 3 _ (by decide) rfl; have r4 := hgc 4 _ (by decide) rfl; have r5 := hgc 5 _ (by decide) rfl
            have r6 := hgc 6 _ (by decide) rfl; have r7 := hgc 7 _ (by decide) rfl; have r8 := hgc 8 _ (by decide) rfl; have r9 := hgc 9 _ (by decide) rfl; have r10 := hgc 10 _ (by decide) rfl
            have HXX := Lib.hid hxx; have HRC := Lib.hid hrc; have HIN := Lib.hid hin; have HIE := Lib.hid hie
            have hgl := own_lt E2.out (g := g1) rfl
            have HGL := Lib.hid hgl
            clear hgc hxx hrc hm1 hin hie hgl HSP2
            go_upto_region 31 with (go_at_call 83; refine HND2.out.mono ?_; rintro e w8 ⟨rfl, hw⟩; have hw := hw.symm; subst hw)
            go_region_with (go_at_call 30; refine HRC.out.mono ?_; rintro e w8 ⟨x', o, out, rfl, hxe, hout, hxo, hmo, k8⟩; have k8 := (Keeps.refl Free w7).drew.trans k8 (fun _ h => .inl h); have HXO := Lib.hid hxo; have HMO := Lib.hid hmo; have HXE := Lib.hid hxe; have HOU := Lib.hid hout; obtain ⟨x1, lv, vv, nv, mv⟩ := x'; obtain ⟨⟨LA1, LL1, LC1, rfl, -⟩, ⟨VA1, VL1, VC1, rfl, -⟩, ⟨MA1, ML1, MC1, rfl, -⟩, ⟨PA1, PL1, PC1, rfl, -⟩⟩ := hxo; obtain ⟨⟨OA1, OL1, OC1, rfl, -⟩, -⟩ := hmo; obtain ⟨w9, hw9, hw9e⟩ := row11 w8 g1 (i * 11) (.int .i64 x1.id) (.int .i64 x1.n) (.int .i64 x1.term) (.int .i64 x1.vote) (.slice LA1 LL1 LC1) (.int .i64 x1.commit) (.int .i64 x1.role) (.int .i64 x1.boss) (.slice VA1 VL1 VC1) (.slice MA1 ML1 MC1) (.slice PA1 PL1 PC1); have y0 := k8.cell (fun h => h) x0; have z0 := k8.cell (fun h => h) r0; have z1 := k8.cell (fun h => h) r1; have z2 := k8.cell (fun h => h) r2; have z3 := k8.cell (fun h => h) r3; have z4 := k8.cell (fun h => h) r4; have z5 := k8.cell (fun h => h) r5; have z6 := k8.cell (fun h => h) r6; have z7 := k8.cell (fun h => h) r7; have z8 := k8.cell (fun h => h) r8; have z9 := k8.cell (fun h => h) r9; have z10 := k8.cell (fun h => h) r10; have zf : ∀ j, w8.frozen? ⟨g1, j, none⟩ = false := own_free (b := w8.heap.size) (own_later E2.out k8) (by omega) ((Keeps.refl (fun k => k = w8.heap.size) w8)) (by have := HGL.out; have := k8.size; omega); have HW9 := Lib.hid hw9e; have HK8 := Lib.hid k8; clear hw9e k8 hxe hout; simp only [nodCells])
            all_goals
              go_wp2_with fail
              go_meet
              rw [HW9.out]
              have hle := receive_len x m
              have hmid := recv_mid (nv := .slice NA nodes.length NC) (ov := .slice OA net.length OC) (net := net) (ev := ⟨k, nd, j⟩) (x' := ⟨x1, .slice LA1 LL1 LC1, .slice VA1 VL1 VC1, .slice MA1 ML1 MC1, .slice PA1 PL1 PC1⟩) HST.out HBW.out HKW.out HSZ7.out E9.out (Q3.out g1 rfl) HK8.out HXO.out HMO.out hn hml hi (by rw [← HOU.out] at hle; simp only [said, List.length_map] at hle; omega) HO3.out (by
                rw [cstep_recv (ev := ⟨k, nd, j⟩) (x := ⟨x, .slice LA LL LC, .slice VA VL VC, .slice MA ML MC, .slice PA PL PC⟩) (m := ⟨m, .slice IA IL IC⟩) (.inl HKN.out) rfl hj HMM.out HIN.out HIE.out hi HXX.out, ← HXE.out, ← HOU.out]
                rw [HNO.out])
              exact hmid
    case rest =>
      obtain ⟨wt, rfl⟩ : ∃ wt : World, wt = wc := ⟨_, rfl⟩
      obtain ⟨C, W', out, st, hmo, t9, hC, hkw, hl1, hl2, hl3, hn3, ho3, hcs⟩ := hcut
      obtain ⟨nodes', net', nv', ov'⟩ := W'
      simp only at hl1 hl2 hn3 ho3 hcs
      obtain ⟨NA', NC', en1, -, -⟩ := own_slice st.nodes
      simp only at en1
      subst en1
      obtain ⟨OA', OC', en2, -, -⟩ := own_slice st.net
      simp only at en2
      subst en2
      obtain ⟨A0, C0, rfl⟩ := hmo.cells.form (mess_len out) (by decide)
      obtain ⟨v', w', hrun, wz, S, hset, htl, kz, kw'⟩ := st.said hC hn3 ho3 hmo (by omega) 28
      obtain ⟨x0, x1, xf⟩ := cells2 st.blk
      have hbw' := (kw'.block B (laid_lt st.blk) fun e => by have := ho3 _ e; omega).trans st.blk
      obtain ⟨y0, y1, yf⟩ := cells2 hbw'
      obtain ⟨VA, VC, en3, -, -⟩ := own_slice htl.net
      simp only at en3
      subst en3
      obtain ⟨z0, z1, zf⟩ := cells2 htl.blk
      have t9' := (kz.block (B + 2) (laid_lt t9) fun e => e.elim (by omega) fun e => by have := ho3 _ e; omega).trans t9
      have hKZ : Keeps Free w wz := hkw.trans kz fun k e => .inr (by have := HBW.out; exact e.elim (fun e => by omega) fun e => by have := ho3 _ e; omega)
      have HKZ := Lib.hid hKZ; have HT9 := Lib.hid t9'; have HCS := Lib.hid hcs
      have hL : (net' ++ out).length ≤ 2000 := by rw [List.length_append]; omega
      obtain ⟨L, hLL⟩ : ∃ L, (net' ++ out).length = L := ⟨_, rfl⟩
      rw [hLL] at hL hset hrun z1 htl
      have HLL := Lib.hid hLL; have HT := Lib.hid htl
      clear st hmo t9 hC hkw hl1 hl2 hl3 hn3 ho3 hcs htl kz kw' hbw' t9' hKZ hLL d0 d1 df f0 f1 f2 ff t0 t1 tf
      cases hq : decide (60 < (L : Int))
      case false =>
        obtain ⟨wf, hwf, hfb, hfk⟩ := put2 (v0 := .slice NA' nodes'.length NC') (v1 := .slice VA L VC) HT9.out rfl
        obtain ⟨r0, r1, rf⟩ := cells2 hfb
        obtain ⟨s0, s1, sf⟩ := cells2 HT9.out
        have HFK := Lib.hid hfk
        clear hfb hfk
        have HR := Lib.hid hrun
        clear hrun
        go_wp2_with (at_builtin; refine wpList_append_run rfl _ _ 28 rfl rfl rfl HR.out ?_)
        refine bodyPost_ret (v := .agg #[.slice NA' nodes'.length NC', .slice VA L VC]) (by simp [results, Try.results47, go_sem, r0, r1]) rfl ?_
        have hnt : ¬ 60 < L := by simp at hq; omega
        refine ⟨⟨nodes', net' ++ out, _, _⟩, rfl, ?_, HT.out.done HFK.out, HKZ.out.trans HFK.out fun k e => .inr (by have := HBW.out; omega)⟩
        rw [HCS.out]
        unfold trim WldV.w
        simp only [said, List.map_append]
        rw [show (net'.map MesV.m ++ out.map MesV.m).length - 60 = 0 by have := HLL.out; simp at this ⊢; omega, List.drop_zero]
      case true =>
        have hgt : 60 < L := by simp at hq; omega
        have hdel := deleteMsg_any (w := wz) (v := .slice VA L VC) (out := net' ++ out) HT.out.net (i := 0) (j := L - 60) (by omega) (by rw [HLL.out]; omega) (fun mm hmm => by obtain ⟨A, l, c, e, _⟩ := HT.out.items mm hmm; exact ⟨A, l, c, e⟩)
        rw [show ((L - 60 : Nat) : Int) = (L : Int) - 60 from by omega, show ((0 : Nat) : Int) = 0 from rfl] at hdel
        have HDEL := Lib.hid hdel; have HR := Lib.hid hrun
        have hw6 : IntKind.i64.wrap ((L : Int) - 60) = (L : Int) - 60 := IntWalk.i64_in _ (by omega)
        clear hdel hrun hw6
        have hq2 : decide (0 < (L : Int) - 60) = true := by simp; omega
        clear hq
        go_wp2_with (at_builtin; refine wpList_append_run rfl _ _ 28 rfl rfl rfl HR.out ?_)
        refine HDEL.out.mono ?_
        rintro e w6 ⟨v3, rfl, o3, hv3, k6⟩
        rw [List.take_zero, List.nil_append] at o3
        obtain ⟨n3, hn3⟩ : ∃ n3, (net' ++ out).drop (L - 60) = n3 := ⟨_, rfl⟩
        rw [hn3] at o3
        obtain ⟨A3, C3, rfl, -, -⟩ := own_slice o3
        obtain ⟨w7, hw7, ht7, k7⟩ := HT.out.cut o3 hv3 k6 (fun m hm => List.mem_of_mem_drop (hn3 ▸ hm))
        have hb6 := (k6.block B (laid_lt HT.out.blk) fun e => by have := (HT.out.oS _ e).2; omega).trans HT.out.blk
        obtain ⟨p0, p1, pf⟩ := cells2 hb6
        obtain ⟨q0, q1, qf⟩ := cells2 ht7.blk
        have t97 := (k7.block (B + 2) (laid_lt HT9.out) fun e => e.elim (by omega) fun e => by have := (HT.out.oS _ e).2; omega).trans HT9.out
        obtain ⟨s0, s1, sf⟩ := cells2 t97
        obtain ⟨wf, hwf, hfb, hfk⟩ := put2 (v0 := .slice NA' nodes'.length NC') (v1 := .slice A3 n3.length C3) t97 rfl
        obtain ⟨r0, r1, rf⟩ := cells2 hfb
        have HFK := Lib.hid hfk; have HT7 := Lib.hid ht7; have HK7 := Lib.hid k7; have HN3 := Lib.hid hn3
        clear hfb hfk ht7 k7 hn3 hb6 t97 o3 hv3 k6
        go_wp2_with fail
        refine bodyPost_ret (v := .agg #[.slice NA' nodes'.length NC', .slice A3 n3.length C3]) (by simp [results, Try.results47, go_sem, r0, r1]) rfl ?_
        refine ⟨⟨nodes', n3, _, _⟩, rfl, ?_, HT7.out.done HFK.out, (HKZ.out.trans HK7.out fun k e => .inr (by have := HBW.out; exact e.elim (fun e => by omega) fun e => by have := (HT.out.oS _ e).2; omega)).trans HFK.out fun k e => .inr (by have := HBW.out; omega)⟩
        rw [HCS.out, ← HN3.out]
        unfold trim WldV.w
        simp only [said, List.map_drop, List.map_append]
        rw [show (net'.map MesV.m ++ out.map MesV.m).length - 60 = L - 60 by have := HLL.out; simp at this ⊢; omega]
end Go.Proofs.Ytibjbpakbfodaaa
