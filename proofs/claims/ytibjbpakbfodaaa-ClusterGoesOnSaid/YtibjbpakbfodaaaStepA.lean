/- cluster.Step, walked, where an event is of a node: Timeout, Beat, Propose, Restart. -/
import Derived.Test.YtibjbpakbfodaaaStepL
import Derived.Deep.CutBlock
namespace Go.Proofs.Ytibjbpakbfodaaa
open Go.RowKit

set_option maxRecDepth 100000 in
set_option maxHeartbeats 8000000 in
theorem step_acts {w : World} {Q : Nat → Prop} {W : WldV} {ev : Evt} (h0 : WldOk w Q W) (hQ : ∀ k, Q k → k < w.heap.size) (hn : W.nodes.length ≤ 1000) (hm : W.net.length ≤ 1000) (hkind : ev.kind = 1 ∨ ev.kind = 2 ∨ ev.kind = 3 ∨ ev.kind = 7) :
    Calls Try.prog 47 #[.agg #[W.nv, W.ov], .agg #[.int .i64 ev.kind, .int .i64 ev.node, .int .i64 ev.pick]] w fun e w' => ∃ W' : WldV, e = .returned (.agg #[W'.nv, W'.ov]) ∧ W'.w = cstep W.w ev ∧ WldOk w' Q W' ∧ Keeps Free w w' := by
  have H0 := Lib.hid h0
  obtain ⟨nodes, net, nv, ov⟩ := W
  simp only at hn hm
  obtain ⟨NA, NC, rfl⟩ := h0.cells.form (nods_len nodes) (by decide)
  obtain ⟨OA, OC, rfl⟩ := h0.msgs.cells.form (mess_len net) (by decide)
  obtain ⟨k, nd, pk⟩ := ev
  simp only at hkind ⊢
  have HKIND := Lib.hid hkind
  clear hkind
  have hc1 := fun (w' : World) (hk : Keeps Free w w') => cloneNode_any (w := w') (Sl.into (S' := Free) h0.cells hk (fun _ _ h => h.elim) (fun _ _ h => h.elim)) nodes.length (nods_len nodes) (nods_one h0.each) (by omega)
  have hc2 := fun (w' : World) (hk : Keeps Free w w') => cloneMsg_any (w := w') (Sl.into (S' := Free) h0.msgs.cells hk (fun _ _ h => h.elim) (fun _ _ h => h.elim)) net.length (mess_len net) (mess_one h0.msgs.each) (by omega)
  have HC1 := Lib.hid hc1; have HC2 := Lib.hid hc2
  clear h0 hc1 hc2
  obtain ⟨wa, wb, wz, e1, e2, e3, s1, s2, s3, hk3, b1, b2, b3⟩ := three_boxes w (Obj.cells #[Value.slice NA nodes.length NC, Value.slice OA net.length OC] 55) (Obj.cells #[Value.int IntKind.i64 k, Value.int IntKind.i64 nd, Value.int IntKind.i64 pk] 63) (Obj.cells #[Value.slice none 0 0, Value.slice none 0 0] 55)
  obtain ⟨B, hB⟩ : ∃ B, w.heap.size = B := ⟨_, rfl⟩
  rw [hB] at s1 s2 s3 b1 b2 b3 hQ
  have HQ := Lib.hid hQ; have HK3 := Lib.hid hk3; have HB1 := Lib.hid b1; have HB2 := Lib.hid b2; have HB3 := Lib.hid b3; have HS3 := Lib.hid s3; have HBW := Lib.hid hB
  obtain ⟨c0, c1, cf⟩ := cells2 b1
  clear hk3 b1 b2 b3 hQ
  go_enter Try.func47, Try.ntmps47
  go_upto_region 1 with fail
  go_cut [6] (fun _ wx => ∃ A1 C1 A2 C2, wx.ownsRow 0 25 11 (.slice A1 nodes.length C1) nodes.length (nodes.flatMap nodCells) ∧ wx.ownsRow 0 38 9 (.slice A2 net.length C2) net.length (net.flatMap mesCells) ∧
      (∀ g, (Value.slice A1 nodes.length C1).ownBlock = some g → B + 3 ≤ g) ∧ (∀ g, (Value.slice A2 net.length C2).ownBlock = some g → B + 3 ≤ g) ∧
      Keeps Free w wx ∧ B + 3 ≤ wx.heap.size ∧ wx.heap[B]? = some (.cells #[.slice A1 nodes.length C1, .slice A2 net.length C2] 55 (0, 0)) ∧ wx.heap[B + 1]? = some (.cells #[.int .i64 k, .int .i64 nd, .int .i64 pk] 63 (0, 0)) ∧ wx.heap[B + 2]? = some (.cells #[.slice none 0 0, .slice none 0 0] 55 (0, 0)))
  case first =>
    go_region_with (first
      | (go_at_call 81; refine (HC1.out _ HK3.out.drew).mono ?_; rintro e w1 ⟨A1, C1, rfl, o1, g1, kk1⟩; obtain ⟨x0, x1, xf⟩ := cells2 (kk1.blk HB1.out))
      | (go_at_call 82; refine (HC2.out _ (HK3.out.drew.trans kk1 (fun _ h => h.elim))).mono ?_; rintro e w2 ⟨A2, C2, rfl, o2, g2, kk2⟩; obtain ⟨y0, y1, yf⟩ := cells2 (kk2.blk (kk1.blk HB1.out))))
    all_goals
      go_wp2_with fail
      go_meet
      obtain ⟨X, rfl, r⟩ := cloned_rows HBW.out HS3.out HK3.out HB1.out HB2.out HB3.out o1 g1 kk1 o2 g2 kk2
      exact ⟨A1, C1, A2, C2, r⟩
  case rest =>
    obtain ⟨wo, rfl⟩ : ∃ wo : World, wo = wc := ⟨_, rfl⟩
    obtain ⟨A1, C1, A2, C2, q1, q2, q3, q4, q5, q6, q7, q8, q9⟩ := hcut
    obtain ⟨d0, d1, df⟩ := cells2 q7
    obtain ⟨f0, f1, f2, ff⟩ := cells3 q8
    obtain ⟨t0, t1, tf⟩ := cells2 q9
    have hnd := node_any (w := wo) (b := B) d0 hn nd
    have hsp := spot_cases nodes.length nd
    obtain ⟨sp, hspe⟩ : ∃ sp, spot nodes.length nd = sp := ⟨_, rfl⟩
    rw [hspe] at hnd hsp
    have HSP := Lib.hid hsp
    clear hspe hsp
    have Q1 := Lib.hid q1; have Q2 := Lib.hid q2; have Q3 := Lib.hid q3; have Q4 := Lib.hid q4; have Q5 := Lib.hid q5; have Q6 := Lib.hid q6; have Q7 := Lib.hid q7; have Q9 := Lib.hid q9; have HND := Lib.hid hnd
    clear q1 q2 q3 q4 q5 q6 q7 q8 q9 hnd HC1 HC2 HB1 HB2 HB3 HK3 HS3 hB e1 e2 e3 s1 s2 s3 c0 c1 cf
    go_upto_block 0 with (go_at_call 83; refine HND.out.mono ?_; rintro e w4 ⟨rfl, hw⟩; have hw := hw.symm; subst hw)
    go_cut [6] (fun o wx => Mid w Q B ⟨nodes, net, .slice NA nodes.length NC, .slice OA net.length OC⟩ ⟨k, nd, pk⟩ o wx)
    case first =>
      cases k1 : (k == 1)
      case true =>
        rcases HSP.out with ⟨hneg, hout⟩ | ⟨i, hi, rfl, hin, hie⟩
        · obtain ⟨wf, hwf, hfb, hfk⟩ := put2 (v0 := .slice A1 nodes.length C1) (v1 := .slice A2 net.length C2) Q9.out rfl
          obtain ⟨z0, z1, zf⟩ := cells2 hfb
          have HWF := Lib.hid hfk
          have HCS := Lib.hid (show (WldV.w ⟨nodes, net, .slice NA nodes.length NC, .slice OA net.length OC⟩) = cstep (WldV.w ⟨nodes, net, .slice NA nodes.length NC, .slice OA net.length OC⟩) ⟨k, nd, pk⟩ from (cstep_out (ev := ⟨k, nd, pk⟩) (by simp only [beq_iff_eq] at k1; exact .inl k1) hout).symm)
          clear hfb hfk
          go_wp2_with fail
          refine bodyPost_ret (v := .agg #[.slice A1 nodes.length C1, .slice A2 net.length C2]) (by simp [results, Try.results47, go_sem, z0, z1]) rfl ?_
          exact ⟨⟨nodes, net, _, _⟩, rfl, HCS.out, idle_end H0.out HQ.out HBW.out Q1.out Q2.out Q3.out Q4.out Q5.out Q6.out Q7.out HWF.out⟩
        · obtain ⟨g1, rfl, hgc, hgf⟩ := own_at (f := nodCells) (s := 11) (fun _ => rfl) Q1.out hi
          have hx0 := H0.out.each nodes[i] (List.getElem_mem hi)
          obtain ⟨xx, hxx⟩ : ∃ xx, nodes[i] = xx := ⟨_, rfl⟩
          rw [hxx] at hgc hx0
          have HX0 := Lib.hid hx0
          obtain ⟨x, lv, vv, nv, mv⟩ := xx
          obtain ⟨⟨LA, LL, LC, rfl, -⟩, ⟨VA, VL, VC, rfl, -⟩, ⟨MA, ML, MC, rfl, -⟩, ⟨PA, PL, PC, rfl, -⟩⟩ := hx0
          have r0 : wo.cell? ⟨g1, i * 11, none⟩ = some (.int .i64 x.id) := hgc 0 _ (by decide) rfl
          have r1 := hgc 1 _ (by decide) rfl; have r2 := hgc 2 _ (by decide) rfl; have r3 := hgc 3 _ (by decide) rfl; have r4 := hgc 4 _ (by decide) rfl; have r5 := hgc 5 _ (by decide) rfl
          have r6 := hgc 6 _ (by decide) rfl; have r7 := hgc 7 _ (by decide) rfl; have r8 := hgc 8 _ (by decide) rfl; have r9 := hgc 9 _ (by decide) rfl; have r10 := hgc 10 _ (by decide) rfl
          have HXX := Lib.hid hxx
          clear hgc hxx
          have hk5 : Keeps Free wo (wo.alloc (.cells #[.int .i64 x.id, .int .i64 x.n, .int .i64 x.term, .int .i64 x.vote, .slice LA LL LC, .int .i64 x.commit, .int .i64 x.role, .int .i64 x.boss, .slice VA VL VC, .slice MA ML MC, .slice PA PL PC] 25)) := (Keeps.refl _ wo).alloc _
          have hb5 := heap_alloc_new wo (.cells #[.int .i64 x.id, .int .i64 x.n, .int .i64 x.term, .int .i64 x.vote, .slice LA LL LC, .int .i64 x.commit, .int .i64 x.role, .int .i64 x.boss, .slice VA VL VC, .slice MA ML MC, .slice PA PL PC] 25)
          have hs5 := World.size_alloc wo (.cells #[.int .i64 x.id, .int .i64 x.n, .int .i64 x.term, .int .i64 x.vote, .slice LA LL LC, .int .i64 x.commit, .int .i64 x.role, .int .i64 x.boss, .slice VA VL VC, .slice MA ML MC, .slice PA PL PC] 25)
          obtain ⟨w5, hal⟩ : ∃ w5, wo.alloc (.cells #[.int .i64 x.id, .int .i64 x.n, .int .i64 x.term, .int .i64 x.vote, .slice LA LL LC, .int .i64 x.commit, .int .i64 x.role, .int .i64 x.boss, .slice VA VL VC, .slice MA ML MC, .slice PA PL PC] 25) = w5 := ⟨_, rfl⟩
          obtain ⟨b7, hb7⟩ : ∃ b7, wo.heap.size = b7 := ⟨_, rfl⟩
          rw [hal] at hk5 hb5 hs5
          rw [hb7] at hb5 hs5
          obtain ⟨b0, b1, b2, b3, b4, b5, b6, b7', b8, b9, b10, bf⟩ := cells11 hb5
          have p0 := hk5.cell (fun h => h) f0
          have p2 := hk5.cell (fun h => h) f2
          have u0 := hk5.cell (fun h => h) d0
          have HK5 := Lib.hid hk5; have HB5 := Lib.hid hb5; have HS5 := Lib.hid hs5; have HB7 := Lib.hid hb7
          clear hk5 hb5 hs5
          have hx5 : NodeOk w5 (Apart Q B w5.heap.size) ⟨x, .slice LA LL LC, .slice VA VL VC, .slice MA ML MC, .slice PA PL PC⟩ := HX0.out.into (Q5.out.trans HK5.out fun _ h => .inl h) (fun _ _ h => h.elim) fun k hk h => h.elim id fun h => by have := HBW.out; omega
          have hq5 : ∀ k, Apart Q B w5.heap.size k → k < w5.heap.size := fun k h => h.elim (fun h => by have := HQ.out k h; have := Q6.out; have := HB7.out; have := HS5.out; omega) fun h => h.2
          have HX5 := Lib.hid hx5; have HQ5 := Lib.hid hq5
          have HIN := Lib.hid hin; have HIE := Lib.hid hie
          clear hx5 hq5 hin hie
          go_wp2_with fail
          refine (timeout_any HX5.out HQ5.out).mono ?_
          rintro e w6 ⟨x', o, out, rfl, hxe, hout, hxo, hmo, k6⟩
          have HXO := Lib.hid hxo; have HXE := Lib.hid hxe; have HK6 := Lib.hid k6
          have HMO := Lib.hid hmo; have HOU := Lib.hid hout
          have hb6 := k6.blk HB5.out
          have v0 := k6.cell (fun h => h) u0
          obtain ⟨x1, lv, vv, nv, mv⟩ := x'
          obtain ⟨⟨LA1, LL1, LC1, rfl, -⟩, ⟨VA1, VL1, VC1, rfl, -⟩, ⟨MA1, ML1, MC1, rfl, -⟩, ⟨PA1, PL1, PC1, rfl, -⟩⟩ := hxo
          obtain ⟨⟨OA1, OL1, OC1, rfl, -⟩, -⟩ := hmo
          obtain ⟨w7, hw7, hb7c, k7⟩ := put11 (v0 := .int .i64 x1.id) (v1 := .int .i64 x1.n) (v2 := .int .i64 x1.term) (v3 := .int .i64 x1.vote) (v4 := .slice LA1 LL1 LC1) (v5 := .int .i64 x1.commit) (v6 := .int .i64 x1.role) (v7 := .int .i64 x1.boss) (v8 := .slice VA1 VL1 VC1) (v9 := .slice MA1 ML1 MC1) (v10 := .slice PA1 PL1 PC1) hb6 rfl
          simp only [sets] at hw7
          simp only [nodCells]
          obtain ⟨c0, c1, c2, c3, c4, c5, c6, c7, c8, c9, c10, cf⟩ := cells11 hb7c
          obtain ⟨e0, e1, e2, e3, e4, e5, e6, e7, e8, e9, e10, ef⟩ := cells11 hb6
          have hne : B ≠ b7 := by have := Q6.out; have := HB7.out; omega
          have hne1 : g1 ≠ b7 := by have := own_lt Q1.out (g := g1) rfl; have := HB7.out; omega
          have y0 := k7.cell hne v0
          have mvr : ∀ {j u}, wo.cell? ⟨g1, j, none⟩ = some u → w7.cell? ⟨g1, j, none⟩ = some u := fun h => k7.cell hne1 (HK6.out.cell (fun h => h) (HK5.out.cell (fun h => h) h))
          have z0 := mvr r0; have z1 := mvr r1; have z2 := mvr r2; have z3 := mvr r3; have z4 := mvr r4; have z5 := mvr r5; have z6 := mvr r6; have z7 := mvr r7; have z8 := mvr r8; have z9 := mvr r9; have z10 := mvr r10
          have zf : ∀ j, w7.frozen? ⟨g1, j, none⟩ = false := own_free (own_later (own_later Q1.out HK5.out) HK6.out) (by omega) k7 hne1
          obtain ⟨w8, hw8, hw8e⟩ := row11 w7 g1 (i * 11) (.int .i64 x1.id) (.int .i64 x1.n) (.int .i64 x1.term) (.int .i64 x1.vote) (.slice LA1 LL1 LC1) (.int .i64 x1.commit) (.int .i64 x1.role) (.int .i64 x1.boss) (.slice VA1 VL1 VC1) (.slice MA1 ML1 MC1) (.slice PA1 PL1 PC1)
          have HW8 := Lib.hid hw8e; have HK7 := Lib.hid k7
          clear hw8e k7 hb7c hb6 k6 hxe hout mvr r0 r1 r2 r3 r4 r5 r6 r7 r8 r9 r10 b0 b1 b2 b3 b4 b5 b6 b7' b8 b9 b10 bf u0 v0 hgf d0 d1 df
          go_wp2_with fail
          go_meet
          rw [HW8.out]
          have hac : acted x ⟨k, nd, pk⟩ = timeout x := by unfold acted; rw [if_pos (by simpa using k1)]
          have hle := acted_len x ⟨k, nd, pk⟩
          rw [hac] at hle
          have hmid := acted_mid (ev := ⟨k, nd, pk⟩) H0.out HQ.out HBW.out hn hm Q1.out Q2.out Q3.out Q4.out Q5.out Q6.out Q7.out Q9.out HB7.out HK5.out HK6.out HS5.out HXO.out HMO.out HK7.out hi (by rw [← HOU.out] at hle; simp only [said, List.length_map] at hle; omega) (by rw [acted_cstep (ev := ⟨k, nd, pk⟩) (x := ⟨x, .slice LA LL LC, .slice VA VL VC, .slice MA ML MC, .slice PA PL PC⟩) (by simp only [beq_iff_eq] at k1; exact .inl k1) HIN.out HIE.out hi HXX.out, hac, ← HXE.out, ← HOU.out])
          exact hmid
      case false =>
        cases k2 : (k == 2)
        case true =>
          rcases HSP.out with ⟨hneg, hout⟩ | ⟨i, hi, rfl, hin, hie⟩
          · obtain ⟨wf, hwf, hfb, hfk⟩ := put2 (v0 := .slice A1 nodes.length C1) (v1 := .slice A2 net.length C2) Q9.out rfl
            obtain ⟨z0, z1, zf⟩ := cells2 hfb
            have HWF := Lib.hid hfk
            have HCS := Lib.hid (show (WldV.w ⟨nodes, net, .slice NA nodes.length NC, .slice OA net.length OC⟩) = cstep (WldV.w ⟨nodes, net, .slice NA nodes.length NC, .slice OA net.length OC⟩) ⟨k, nd, pk⟩ from (cstep_out (ev := ⟨k, nd, pk⟩) (by simp only [beq_iff_eq] at k2; exact .inr (.inl k2)) hout).symm)
            clear hfb hfk
            go_wp2_with fail
            refine bodyPost_ret (v := .agg #[.slice A1 nodes.length C1, .slice A2 net.length C2]) (by simp [results, Try.results47, go_sem, z0, z1]) rfl ?_
            exact ⟨⟨nodes, net, _, _⟩, rfl, HCS.out, idle_end H0.out HQ.out HBW.out Q1.out Q2.out Q3.out Q4.out Q5.out Q6.out Q7.out HWF.out⟩
          · obtain ⟨g1, rfl, hgc, hgf⟩ := own_at (f := nodCells) (s := 11) (fun _ => rfl) Q1.out hi
            have hx0 := H0.out.each nodes[i] (List.getElem_mem hi)
            obtain ⟨xx, hxx⟩ : ∃ xx, nodes[i] = xx := ⟨_, rfl⟩
            rw [hxx] at hgc hx0
            have HX0 := Lib.hid hx0
            obtain ⟨x, lv, vv, nv, mv⟩ := xx
            obtain ⟨⟨LA, LL, LC, rfl, -⟩, ⟨VA, VL, VC, rfl, -⟩, ⟨MA, ML, MC, rfl, -⟩, ⟨PA, PL, PC, rfl, -⟩⟩ := hx0
            have r0 : wo.cell? ⟨g1, i * 11, none⟩ = some (.int .i64 x.id) := hgc 0 _ (by decide) rfl
            have r1 := hgc 1 _ (by decide) rfl; have r2 := hgc 2 _ (by decide) rfl; have r3 := hgc 3 _ (by decide) rfl; have r4 := hgc 4 _ (by decide) rfl; have r5 := hgc 5 _ (by decide) rfl
            have r6 := hgc 6 _ (by decide) rfl; have r7 := hgc 7 _ (by decide) rfl; have r8 := hgc 8 _ (by decide) rfl; have r9 := hgc 9 _ (by decide) rfl; have r10 := hgc 10 _ (by decide) rfl
            have HXX := Lib.hid hxx
            clear hgc hxx
            have hk5 : Keeps Free wo (wo.alloc (.cells #[.int .i64 x.id, .int .i64 x.n, .int .i64 x.term, .int .i64 x.vote, .slice LA LL LC, .int .i64 x.commit, .int .i64 x.role, .int .i64 x.boss, .slice VA VL VC, .slice MA ML MC, .slice PA PL PC] 25)) := (Keeps.refl _ wo).alloc _
            have hb5 := heap_alloc_new wo (.cells #[.int .i64 x.id, .int .i64 x.n, .int .i64 x.term, .int .i64 x.vote, .slice LA LL LC, .int .i64 x.commit, .int .i64 x.role, .int .i64 x.boss, .slice VA VL VC, .slice MA ML MC, .slice PA PL PC] 25)
            have hs5 := World.size_alloc wo (.cells #[.int .i64 x.id, .int .i64 x.n, .int .i64 x.term, .int .i64 x.vote, .slice LA LL LC, .int .i64 x.commit, .int .i64 x.role, .int .i64 x.boss, .slice VA VL VC, .slice MA ML MC, .slice PA PL PC] 25)
            obtain ⟨w5, hal⟩ : ∃ w5, wo.alloc (.cells #[.int .i64 x.id, .int .i64 x.n, .int .i64 x.term, .int .i64 x.vote, .slice LA LL LC, .int .i64 x.commit, .int .i64 x.role, .int .i64 x.boss, .slice VA VL VC, .slice MA ML MC, .slice PA PL PC] 25) = w5 := ⟨_, rfl⟩
            obtain ⟨b7, hb7⟩ : ∃ b7, wo.heap.size = b7 := ⟨_, rfl⟩
            rw [hal] at hk5 hb5 hs5
            rw [hb7] at hb5 hs5
            obtain ⟨b0, b1, b2, b3, b4, b5, b6, b7', b8, b9, b10, bf⟩ := cells11 hb5
            have p0 := hk5.cell (fun h => h) f0
            have p2 := hk5.cell (fun h => h) f2
            have u0 := hk5.cell (fun h => h) d0
            have HK5 := Lib.hid hk5; have HB5 := Lib.hid hb5; have HS5 := Lib.hid hs5; have HB7 := Lib.hid hb7
            clear hk5 hb5 hs5
            have hx5 : NodeOk w5 (Apart Q B w5.heap.size) ⟨x, .slice LA LL LC, .slice VA VL VC, .slice MA ML MC, .slice PA PL PC⟩ := HX0.out.into (Q5.out.trans HK5.out fun _ h => .inl h) (fun _ _ h => h.elim) fun k hk h => h.elim id fun h => by have := HBW.out; omega
            have hq5 : ∀ k, Apart Q B w5.heap.size k → k < w5.heap.size := fun k h => h.elim (fun h => by have := HQ.out k h; have := Q6.out; have := HB7.out; have := HS5.out; omega) fun h => h.2
            have HX5 := Lib.hid hx5; have HQ5 := Lib.hid hq5
            have HIN := Lib.hid hin; have HIE := Lib.hid hie
            clear hx5 hq5 hin hie
            go_wp2_with fail
            refine (beat_any HX5.out HQ5.out).mono ?_
            rintro e w6 ⟨x', o, out, rfl, hxe, hout, hxo, hmo, k6⟩
            have HXO := Lib.hid hxo; have HXE := Lib.hid hxe; have HK6 := Lib.hid k6
            have HMO := Lib.hid hmo; have HOU := Lib.hid hout
            have hb6 := k6.blk HB5.out
            have v0 := k6.cell (fun h => h) u0
            obtain ⟨x1, lv, vv, nv, mv⟩ := x'
            obtain ⟨⟨LA1, LL1, LC1, rfl, -⟩, ⟨VA1, VL1, VC1, rfl, -⟩, ⟨MA1, ML1, MC1, rfl, -⟩, ⟨PA1, PL1, PC1, rfl, -⟩⟩ := hxo
            obtain ⟨⟨OA1, OL1, OC1, rfl, -⟩, -⟩ := hmo
            obtain ⟨w7, hw7, hb7c, k7⟩ := put11 (v0 := .int .i64 x1.id) (v1 := .int .i64 x1.n) (v2 := .int .i64 x1.term) (v3 := .int .i64 x1.vote) (v4 := .slice LA1 LL1 LC1) (v5 := .int .i64 x1.commit) (v6 := .int .i64 x1.role) (v7 := .int .i64 x1.boss) (v8 := .slice VA1 VL1 VC1) (v9 := .slice MA1 ML1 MC1) (v10 := .slice PA1 PL1 PC1) hb6 rfl
            simp only [sets] at hw7
            simp only [nodCells]
            obtain ⟨c0, c1, c2, c3, c4, c5, c6, c7, c8, c9, c10, cf⟩ := cells11 hb7c
            obtain ⟨e0, e1, e2, e3, e4, e5, e6, e7, e8, e9, e10, ef⟩ := cells11 hb6
            have hne : B ≠ b7 := by have := Q6.out; have := HB7.out; omega
            have hne1 : g1 ≠ b7 := by have := own_lt Q1.out (g := g1) rfl; have := HB7.out; omega
            have y0 := k7.cell hne v0
            have mvr : ∀ {j u}, wo.cell? ⟨g1, j, none⟩ = some u → w7.cell? ⟨g1, j, none⟩ = some u := fun h => k7.cell hne1 (HK6.out.cell (fun h => h) (HK5.out.cell (fun h => h) h))
            have z0 := mvr r0; have z1 := mvr r1; have z2 := mvr r2; have z3 := mvr r3; have z4 := mvr r4; have z5 := mvr r5; have z6 := mvr r6; have z7 := mvr r7; have z8 := mvr r8; have z9 := mvr r9; have z10 := mvr r10
            have zf : ∀ j, w7.frozen? ⟨g1, j, none⟩ = false := own_free (own_later (own_later Q1.out HK5.out) HK6.out) (by omega) k7 hne1
            obtain ⟨w8, hw8, hw8e⟩ := row11 w7 g1 (i * 11) (.int .i64 x1.id) (.int .i64 x1.n) (.int .i64 x1.term) (.int .i64 x1.vote) (.slice LA1 LL1 LC1) (.int .i64 x1.commit) (.int .i64 x1.role) (.int .i64 x1.boss) (.slice VA1 VL1 VC1) (.slice MA1 ML1 MC1) (.slice PA1 PL1 PC1)
            have HW8 := Lib.hid hw8e; have HK7 := Lib.hid k7
            clear hw8e k7 hb7c hb6 k6 hxe hout mvr r0 r1 r2 r3 r4 r5 r6 r7 r8 r9 r10 b0 b1 b2 b3 b4 b5 b6 b7' b8 b9 b10 bf u0 v0 hgf d0 d1 df
            go_wp2_with fail
            go_meet
            rw [HW8.out]
            have hac : acted x ⟨k, nd, pk⟩ = beat x := by unfold acted; rw [if_neg (by simpa using k1), if_pos (by simpa using k2)]
            have hle := acted_len x ⟨k, nd, pk⟩
            rw [hac] at hle
            have hmid := acted_mid (ev := ⟨k, nd, pk⟩) H0.out HQ.out HBW.out hn hm Q1.out Q2.out Q3.out Q4.out Q5.out Q6.out Q7.out Q9.out HB7.out HK5.out HK6.out HS5.out HXO.out HMO.out HK7.out hi (by rw [← HOU.out] at hle; simp only [said, List.length_map] at hle; omega) (by rw [acted_cstep (ev := ⟨k, nd, pk⟩) (x := ⟨x, .slice LA LL LC, .slice VA VL VC, .slice MA ML MC, .slice PA PL PC⟩) (by simp only [beq_iff_eq] at k2; exact .inr (.inl k2)) HIN.out HIE.out hi HXX.out, hac, ← HXE.out, ← HOU.out])
            exact hmid
        case false =>
          cases k3 : (k == 3)
          case true =>
            rcases HSP.out with ⟨hneg, hout⟩ | ⟨i, hi, rfl, hin, hie⟩
            · obtain ⟨wf, hwf, hfb, hfk⟩ := put2 (v0 := .slice A1 nodes.length C1) (v1 := .slice A2 net.length C2) Q9.out rfl
              obtain ⟨z0, z1, zf⟩ := cells2 hfb
              have HWF := Lib.hid hfk
              have HCS := Lib.hid (show (WldV.w ⟨nodes, net, .slice NA nodes.length NC, .slice OA net.length OC⟩) = cstep (WldV.w ⟨nodes, net, .slice NA nodes.length NC, .slice OA net.length OC⟩) ⟨k, nd, pk⟩ from (cstep_out (ev := ⟨k, nd, pk⟩) (by simp only [beq_iff_eq] at k3; exact .inr (.inr (.inl k3))) hout).symm)
              clear hfb hfk
              go_wp2_with fail
              refine bodyPost_ret (v := .agg #[.slice A1 nodes.length C1, .slice A2 net.length C2]) (by simp [results, Try.results47, go_sem, z0, z1]) rfl ?_
              exact ⟨⟨nodes, net, _, _⟩, rfl, HCS.out, idle_end H0.out HQ.out HBW.out Q1.out Q2.out Q3.out Q4.out Q5.out Q6.out Q7.out HWF.out⟩
            · obtain ⟨g1, rfl, hgc, hgf⟩ := own_at (f := nodCells) (s := 11) (fun _ => rfl) Q1.out hi
              have hx0 := H0.out.each nodes[i] (List.getElem_mem hi)
              obtain ⟨xx, hxx⟩ : ∃ xx, nodes[i] = xx := ⟨_, rfl⟩
              rw [hxx] at hgc hx0
              have HX0 := Lib.hid hx0
              obtain ⟨x, lv, vv, nv, mv⟩ := xx
              obtain ⟨⟨LA, LL, LC, rfl, -⟩, ⟨VA, VL, VC, rfl, -⟩, ⟨MA, ML, MC, rfl, -⟩, ⟨PA, PL, PC, rfl, -⟩⟩ := hx0
              have r0 : wo.cell? ⟨g1, i * 11, none⟩ = some (.int .i64 x.id) := hgc 0 _ (by decide) rfl
              have r1 := hgc 1 _ (by decide) rfl; have r2 := hgc 2 _ (by decide) rfl; have r3 := hgc 3 _ (by decide) rfl; have r4 := hgc 4 _ (by decide) rfl; have r5 := hgc 5 _ (by decide) rfl
              have r6 := hgc 6 _ (by decide) rfl; have r7 := hgc 7 _ (by decide) rfl; have r8 := hgc 8 _ (by decide) rfl; have r9 := hgc 9 _ (by decide) rfl; have r10 := hgc 10 _ (by decide) rfl
              have HXX := Lib.hid hxx
              clear hgc hxx
              have hk5 : Keeps Free wo (wo.alloc (.cells #[.int .i64 x.id, .int .i64 x.n, .int .i64 x.term, .int .i64 x.vote, .slice LA LL LC, .int .i64 x.commit, .int .i64 x.role, .int .i64 x.boss, .slice VA VL VC, .slice MA ML MC, .slice PA PL PC] 25)) := (Keeps.refl _ wo).alloc _
              have hb5 := heap_alloc_new wo (.cells #[.int .i64 x.id, .int .i64 x.n, .int .i64 x.term, .int .i64 x.vote, .slice LA LL LC, .int .i64 x.commit, .int .i64 x.role, .int .i64 x.boss, .slice VA VL VC, .slice MA ML MC, .slice PA PL PC] 25)
              have hs5 := World.size_alloc wo (.cells #[.int .i64 x.id, .int .i64 x.n, .int .i64 x.term, .int .i64 x.vote, .slice LA LL LC, .int .i64 x.commit, .int .i64 x.role, .int .i64 x.boss, .slice VA VL VC, .slice MA ML MC, .slice PA PL PC] 25)
              obtain ⟨w5, hal⟩ : ∃ w5, wo.alloc (.cells #[.int .i64 x.id, .int .i64 x.n, .int .i64 x.term, .int .i64 x.vote, .slice LA LL LC, .int .i64 x.commit, .int .i64 x.role, .int .i64 x.boss, .slice VA VL VC, .slice MA ML MC, .slice PA PL PC] 25) = w5 := ⟨_, rfl⟩
              obtain ⟨b7, hb7⟩ : ∃ b7, wo.heap.size = b7 := ⟨_, rfl⟩
              rw [hal] at hk5 hb5 hs5
              rw [hb7] at hb5 hs5
              obtain ⟨b0, b1, b2, b3, b4, b5, b6, b7', b8, b9, b10, bf⟩ := cells11 hb5
              have p0 := hk5.cell (fun h => h) f0
              have p2 := hk5.cell (fun h => h) f2
              have u0 := hk5.cell (fun h => h) d0
              have HK5 := Lib.hid hk5; have HB5 := Lib.hid hb5; have HS5 := Lib.hid hs5; have HB7 := Lib.hid hb7
              clear hk5 hb5 hs5
              have hx5 : NodeOk w5 (Apart Q B w5.heap.size) ⟨x, .slice LA LL LC, .slice VA VL VC, .slice MA ML MC, .slice PA PL PC⟩ := HX0.out.into (Q5.out.trans HK5.out fun _ h => .inl h) (fun _ _ h => h.elim) fun k hk h => h.elim id fun h => by have := HBW.out; omega
              have hq5 : ∀ k, Apart Q B w5.heap.size k → k < w5.heap.size := fun k h => h.elim (fun h => by have := HQ.out k h; have := Q6.out; have := HB7.out; have := HS5.out; omega) fun h => h.2
              have HX5 := Lib.hid hx5; have HQ5 := Lib.hid hq5
              have HIN := Lib.hid hin; have HIE := Lib.hid hie
              clear hx5 hq5 hin hie
              go_wp2_with fail
              refine (propose_any HX5.out HQ5.out pk).mono ?_
              rintro e w6 ⟨x', o, out, rfl, hxe, hout, hxo, hmo, k6⟩
              have HXO := Lib.hid hxo; have HXE := Lib.hid hxe; have HK6 := Lib.hid k6
              have HMO := Lib.hid hmo; have HOU := Lib.hid hout
              have hb6 := k6.blk HB5.out
              have v0 := k6.cell (fun h => h) u0
              obtain ⟨x1, lv, vv, nv, mv⟩ := x'
              obtain ⟨⟨LA1, LL1, LC1, rfl, -⟩, ⟨VA1, VL1, VC1, rfl, -⟩, ⟨MA1, ML1, MC1, rfl, -⟩, ⟨PA1, PL1, PC1, rfl, -⟩⟩ := hxo
              obtain ⟨⟨OA1, OL1, OC1, rfl, -⟩, -⟩ := hmo
              obtain ⟨w7, hw7, hb7c, k7⟩ := put11 (v0 := .int .i64 x1.id) (v1 := .int .i64 x1.n) (v2 := .int .i64 x1.term) (v3 := .int .i64 x1.vote) (v4 := .slice LA1 LL1 LC1) (v5 := .int .i64 x1.commit) (v6 := .int .i64 x1.role) (v7 := .int .i64 x1.boss) (v8 := .slice VA1 VL1 VC1) (v9 := .slice MA1 ML1 MC1) (v10 := .slice PA1 PL1 PC1) hb6 rfl
              simp only [sets] at hw7
              simp only [nodCells]
              obtain ⟨c0, c1, c2, c3, c4, c5, c6, c7, c8, c9, c10, cf⟩ := cells11 hb7c
              obtain ⟨e0, e1, e2, e3, e4, e5, e6, e7, e8, e9, e10, ef⟩ := cells11 hb6
              have hne : B ≠ b7 := by have := Q6.out; have := HB7.out; omega
              have hne1 : g1 ≠ b7 := by have := own_lt Q1.out (g := g1) rfl; have := HB7.out; omega
              have y0 := k7.cell hne v0
              have mvr : ∀ {j u}, wo.cell? ⟨g1, j, none⟩ = some u → w7.cell? ⟨g1, j, none⟩ = some u := fun h => k7.cell hne1 (HK6.out.cell (fun h => h) (HK5.out.cell (fun h => h) h))
              have z0 := mvr r0; have z1 := mvr r1; have z2 := mvr r2; have z3 := mvr r3; have z4 := mvr r4; have z5 := mvr r5; have z6 := mvr r6; have z7 := mvr r7; have z8 := mvr r8; have z9 := mvr r9; have z10 := mvr r10
              have zf : ∀ j, w7.frozen? ⟨g1, j, none⟩ = false := own_free (own_later (own_later Q1.out HK5.out) HK6.out) (by omega) k7 hne1
              obtain ⟨w8, hw8, hw8e⟩ := row11 w7 g1 (i * 11) (.int .i64 x1.id) (.int .i64 x1.n) (.int .i64 x1.term) (.int .i64 x1.vote) (.slice LA1 LL1 LC1) (.int .i64 x1.commit) (.int .i64 x1.role) (.int .i64 x1.boss) (.slice VA1 VL1 VC1) (.slice MA1 ML1 MC1) (.slice PA1 PL1 PC1)
              have HW8 := Lib.hid hw8e; have HK7 := Lib.hid k7
              clear hw8e k7 hb7c hb6 k6 hxe hout mvr r0 r1 r2 r3 r4 r5 r6 r7 r8 r9 r10 b0 b1 b2 b3 b4 b5 b6 b7' b8 b9 b10 bf u0 v0 hgf d0 d1 df
              go_wp2_with fail
              go_meet
              rw [HW8.out]
              have hac : acted x ⟨k, nd, pk⟩ = ((propose x pk).1, (propose x pk).2.1) := by unfold acted; rw [if_neg (by simpa using k1), if_neg (by simpa using k2), if_pos (by simpa using k3)]
              have hle := acted_len x ⟨k, nd, pk⟩
              rw [hac] at hle
              have hmid := acted_mid (ev := ⟨k, nd, pk⟩) H0.out HQ.out HBW.out hn hm Q1.out Q2.out Q3.out Q4.out Q5.out Q6.out Q7.out Q9.out HB7.out HK5.out HK6.out HS5.out HXO.out HMO.out HK7.out hi (by rw [← HOU.out] at hle; simp only [said, List.length_map] at hle; omega) (by rw [acted_cstep (ev := ⟨k, nd, pk⟩) (x := ⟨x, .slice LA LL LC, .slice VA VL VC, .slice MA ML MC, .slice PA PL PC⟩) (by simp only [beq_iff_eq] at k3; exact .inr (.inr (.inl k3))) HIN.out HIE.out hi HXX.out, hac, ← HXE.out, ← HOU.out])
              exact hmid
          case false =>
            cases k7 : (k == 7)
            case true =>
              rcases HSP.out with ⟨hneg, hout⟩ | ⟨i, hi, rfl, hin, hie⟩
              · obtain ⟨wf, hwf, hfb, hfk⟩ := put2 (v0 := .slice A1 nodes.length C1) (v1 := .slice A2 net.length C2) Q9.out rfl
                obtain ⟨z0, z1, zf⟩ := cells2 hfb
                have HWF := Lib.hid hfk
                have HCS := Lib.hid (show (WldV.w ⟨nodes, net, .slice NA nodes.length NC, .slice OA net.length OC⟩) = cstep (WldV.w ⟨nodes, net, .slice NA nodes.length NC, .slice OA net.length OC⟩) ⟨k, nd, pk⟩ from (cstep_out (ev := ⟨k, nd, pk⟩) (by simp only [beq_iff_eq] at k7; exact .inr (.inr (.inr k7))) hout).symm)
                clear hfb hfk
                go_wp2_with fail
                refine bodyPost_ret (v := .agg #[.slice A1 nodes.length C1, .slice A2 net.length C2]) (by simp [results, Try.results47, go_sem, z0, z1]) rfl ?_
                exact ⟨⟨nodes, net, _, _⟩, rfl, HCS.out, idle_end H0.out HQ.out HBW.out Q1.out Q2.out Q3.out Q4.out Q5.out Q6.out Q7.out HWF.out⟩
              · obtain ⟨g1, rfl, hgc, hgf⟩ := own_at (f := nodCells) (s := 11) (fun _ => rfl) Q1.out hi
                have hx0 := H0.out.each nodes[i] (List.getElem_mem hi)
                obtain ⟨xx, hxx⟩ : ∃ xx, nodes[i] = xx := ⟨_, rfl⟩
                rw [hxx] at hgc hx0
                have HX0 := Lib.hid hx0
                obtain ⟨x, lv, vv, nv, mv⟩ := xx
                obtain ⟨⟨LA, LL, LC, rfl, -⟩, ⟨VA, VL, VC, rfl, -⟩, ⟨MA, ML, MC, rfl, -⟩, ⟨PA, PL, PC, rfl, -⟩⟩ := hx0
                have r0 : wo.cell? ⟨g1, i * 11, none⟩ = some (.int .i64 x.id) := hgc 0 _ (by decide) rfl
                have r1 := hgc 1 _ (by decide) rfl; have r2 := hgc 2 _ (by decide) rfl; have r3 := hgc 3 _ (by decide) rfl; have r4 := hgc 4 _ (by decide) rfl; have r5 := hgc 5 _ (by decide) rfl
                have r6 := hgc 6 _ (by decide) rfl; have r7 := hgc 7 _ (by decide) rfl; have r8 := hgc 8 _ (by decide) rfl; have r9 := hgc 9 _ (by decide) rfl; have r10 := hgc 10 _ (by decide) rfl
                have HXX := Lib.hid hxx
                clear hgc hxx
                have hk5 : Keeps Free wo (wo.alloc (.cells #[.int .i64 x.id, .int .i64 x.n, .int .i64 x.term, .int .i64 x.vote, .slice LA LL LC, .int .i64 x.commit, .int .i64 x.role, .int .i64 x.boss, .slice VA VL VC, .slice MA ML MC, .slice PA PL PC] 25)) := (Keeps.refl _ wo).alloc _
                have hb5 := heap_alloc_new wo (.cells #[.int .i64 x.id, .int .i64 x.n, .int .i64 x.term, .int .i64 x.vote, .slice LA LL LC, .int .i64 x.commit, .int .i64 x.role, .int .i64 x.boss, .slice VA VL VC, .slice MA ML MC, .slice PA PL PC] 25)
                have hs5 := World.size_alloc wo (.cells #[.int .i64 x.id, .int .i64 x.n, .int .i64 x.term, .int .i64 x.vote, .slice LA LL LC, .int .i64 x.commit, .int .i64 x.role, .int .i64 x.boss, .slice VA VL VC, .slice MA ML MC, .slice PA PL PC] 25)
                obtain ⟨w5, hal⟩ : ∃ w5, wo.alloc (.cells #[.int .i64 x.id, .int .i64 x.n, .int .i64 x.term, .int .i64 x.vote, .slice LA LL LC, .int .i64 x.commit, .int .i64 x.role, .int .i64 x.boss, .slice VA VL VC, .slice MA ML MC, .slice PA PL PC] 25) = w5 := ⟨_, rfl⟩
                obtain ⟨b7, hb7⟩ : ∃ b7, wo.heap.size = b7 := ⟨_, rfl⟩
                rw [hal] at hk5 hb5 hs5
                rw [hb7] at hb5 hs5
                obtain ⟨b0, b1, b2, b3, b4, b5, b6, b7', b8, b9, b10, bf⟩ := cells11 hb5
                have p0 := hk5.cell (fun h => h) f0
                have p2 := hk5.cell (fun h => h) f2
                have u0 := hk5.cell (fun h => h) d0
                have HK5 := Lib.hid hk5; have HB5 := Lib.hid hb5; have HS5 := Lib.hid hs5; have HB7 := Lib.hid hb7
                clear hk5 hb5 hs5
                have hx5 : NodeOk w5 (Apart Q B w5.heap.size) ⟨x, .slice LA LL LC, .slice VA VL VC, .slice MA ML MC, .slice PA PL PC⟩ := HX0.out.into (Q5.out.trans HK5.out fun _ h => .inl h) (fun _ _ h => h.elim) fun k hk h => h.elim id fun h => by have := HBW.out; omega
                have hq5 : ∀ k, Apart Q B w5.heap.size k → k < w5.heap.size := fun k h => h.elim (fun h => by have := HQ.out k h; have := Q6.out; have := HB7.out; have := HS5.out; omega) fun h => h.2
                have HX5 := Lib.hid hx5; have HQ5 := Lib.hid hq5
                have HIN := Lib.hid hin; have HIE := Lib.hid hie
                clear hx5 hq5 hin hie
                go_wp2_with fail
                refine (restart_any HX5.out HQ5.out).mono ?_
                rintro e w6 ⟨x', rfl, hxe, hxo, k6⟩
                have HXO := Lib.hid hxo; have HXE := Lib.hid hxe; have HK6 := Lib.hid k6
                have hb6 := k6.blk HB5.out
                have v0 := k6.cell (fun h => h) u0
                obtain ⟨x1, lv, vv, nv, mv⟩ := x'
                obtain ⟨⟨LA1, LL1, LC1, rfl, -⟩, ⟨VA1, VL1, VC1, rfl, -⟩, ⟨MA1, ML1, MC1, rfl, -⟩, ⟨PA1, PL1, PC1, rfl, -⟩⟩ := hxo
                obtain ⟨w7, hw7, hb7c, k7⟩ := put11 (v0 := .int .i64 x1.id) (v1 := .int .i64 x1.n) (v2 := .int .i64 x1.term) (v3 := .int .i64 x1.vote) (v4 := .slice LA1 LL1 LC1) (v5 := .int .i64 x1.commit) (v6 := .int .i64 x1.role) (v7 := .int .i64 x1.boss) (v8 := .slice VA1 VL1 VC1) (v9 := .slice MA1 ML1 MC1) (v10 := .slice PA1 PL1 PC1) hb6 rfl
                simp only [sets] at hw7
                simp only [nodCells]
                obtain ⟨c0, c1, c2, c3, c4, c5, c6, c7, c8, c9, c10, cf⟩ := cells11 hb7c
                obtain ⟨e0, e1, e2, e3, e4, e5, e6, e7, e8, e9, e10, ef⟩ := cells11 hb6
                have hne : B ≠ b7 := by have := Q6.out; have := HB7.out; omega
                have hne1 : g1 ≠ b7 := by have := own_lt Q1.out (g := g1) rfl; have := HB7.out; omega
                have y0 := k7.cell hne v0
                have mvr : ∀ {j u}, wo.cell? ⟨g1, j, none⟩ = some u → w7.cell? ⟨g1, j, none⟩ = some u := fun h => k7.cell hne1 (HK6.out.cell (fun h => h) (HK5.out.cell (fun h => h) h))
                have z0 := mvr r0; have z1 := mvr r1; have z2 := mvr r2; have z3 := mvr r3; have z4 := mvr r4; have z5 := mvr r5; have z6 := mvr r6; have z7 := mvr r7; have z8 := mvr r8; have z9 := mvr r9; have z10 := mvr r10
                have zf : ∀ j, w7.frozen? ⟨g1, j, none⟩ = false := own_free (own_later (own_later Q1.out HK5.out) HK6.out) (by omega) k7 hne1
                obtain ⟨w8, hw8, hw8e⟩ := row11 w7 g1 (i * 11) (.int .i64 x1.id) (.int .i64 x1.n) (.int .i64 x1.term) (.int .i64 x1.vote) (.slice LA1 LL1 LC1) (.int .i64 x1.commit) (.int .i64 x1.role) (.int .i64 x1.boss) (.slice VA1 VL1 VC1) (.slice MA1 ML1 MC1) (.slice PA1 PL1 PC1)
                have HW8 := Lib.hid hw8e; have HK7 := Lib.hid k7
                clear hw8e k7 hb7c hb6 k6 hxe mvr r0 r1 r2 r3 r4 r5 r6 r7 r8 r9 r10 b0 b1 b2 b3 b4 b5 b6 b7' b8 b9 b10 bf u0 v0 hgf d0 d1 df
                go_wp2_with fail
                go_meet
                rw [HW8.out]
                have hac : acted x ⟨k, nd, pk⟩ = (restart x, []) := by unfold acted; rw [if_neg (by simpa using k1), if_neg (by simpa using k2), if_neg (by simpa using k3)]
                have hle := acted_len x ⟨k, nd, pk⟩
                rw [hac] at hle
                have hmid := acted_mid (ev := ⟨k, nd, pk⟩) (out := []) H0.out HQ.out HBW.out hn hm Q1.out Q2.out Q3.out Q4.out Q5.out Q6.out Q7.out Q9.out HB7.out HK5.out HK6.out HS5.out HXO.out (noMsgs _ _) HK7.out hi (by simp) (by rw [acted_cstep (ev := ⟨k, nd, pk⟩) (x := ⟨x, .slice LA LL LC, .slice VA VL VC, .slice MA ML MC, .slice PA PL PC⟩) (by simp only [beq_iff_eq] at k7; exact .inr (.inr (.inr k7))) HIN.out HIE.out hi HXX.out, hac, ← HXE.out]; rfl)
                exact hmid
            case false =>
              have h := HKIND.out
              simp only [beq_eq_false_iff_ne] at k1 k2 k3 k7
              omega
    case rest =>
      obtain ⟨wt, rfl⟩ : ∃ wt : World, wt = wc := ⟨_, rfl⟩
      obtain ⟨C, W', out, st, hmo, t9, hC, hkw, hl1, hl2, hl3, hn3, ho3, hcs⟩ := hcut
      obtain ⟨nodes', net', nv', ov'⟩ := W'
      simp only at hl1 hl2 hn3 ho3 hcs
      obtain ⟨NA', NC', en1, -, -⟩ := own_slice st.nodes
      simp only at en1
      subst en1
      obtain ⟨OA', OC', en2, -, -⟩ := own_slice st.net
      simp only at en2
      subst en2
      obtain ⟨A0, C0, rfl⟩ := hmo.cells.form (mess_len out) (by decide)
      obtain ⟨v', w', hrun, wz, S, hset, htl, kz, kw'⟩ := st.said hC hn3 ho3 hmo (by omega) 28
      obtain ⟨x0, x1, xf⟩ := cells2 st.blk
      have hbw' := (kw'.block B (laid_lt st.blk) fun e => by have := ho3 _ e; omega).trans st.blk
      obtain ⟨y0, y1, yf⟩ := cells2 hbw'
      obtain ⟨VA, VC, en3, -, -⟩ := own_slice htl.net
      simp only at en3
      subst en3
      obtain ⟨z0, z1, zf⟩ := cells2 htl.blk
      have t9' := (kz.block (B + 2) (laid_lt t9) fun e => e.elim (by omega) fun e => by have := ho3 _ e; omega).trans t9
      have hKZ : Keeps Free w wz := hkw.trans kz fun k e => .inr (by have := HBW.out; exact e.elim (fun e => by omega) fun e => by have := ho3 _ e; omega)
      have HKZ := Lib.hid hKZ; have HT9 := Lib.hid t9'; have HCS := Lib.hid hcs
      have hL : (net' ++ out).length ≤ 2000 := by rw [List.length_append]; omega
      obtain ⟨L, hLL⟩ : ∃ L, (net' ++ out).length = L := ⟨_, rfl⟩
      rw [hLL] at hL hset hrun z1 htl
      have HLL := Lib.hid hLL; have HT := Lib.hid htl
      clear st hmo t9 hC hkw hl1 hl2 hl3 hn3 ho3 hcs htl kz kw' hbw' t9' hKZ hLL d0 d1 df f0 f1 f2 ff t0 t1 tf
      cases hq : decide (60 < (L : Int))
      case false =>
        obtain ⟨wf, hwf, hfb, hfk⟩ := put2 (v0 := .slice NA' nodes'.length NC') (v1 := .slice VA L VC) HT9.out rfl
        obtain ⟨r0, r1, rf⟩ := cells2 hfb
        obtain ⟨s0, s1, sf⟩ := cells2 HT9.out
        have HFK := Lib.hid hfk
        clear hfb hfk
        have HR := Lib.hid hrun
        clear hrun
        go_wp2_with (at_builtin; refine wpList_append_run rfl _ _ 28 rfl rfl rfl HR.out ?_)
        refine bodyPost_ret (v := .agg #[.slice NA' nodes'.length NC', .slice VA L VC]) (by simp [results, Try.results47, go_sem, r0, r1]) rfl ?_
        have hnt : ¬ 60 < L := by simp at hq; omega
        refine ⟨⟨nodes', net' ++ out, _, _⟩, rfl, ?_, HT.out.done HFK.out, HKZ.out.trans HFK.out fun k e => .inr (by have := HBW.out; omega)⟩
        rw [HCS.out]
        unfold trim WldV.w
        simp only [said, List.map_append]
        rw [show (net'.map MesV.m ++ out.map MesV.m).length - 60 = 0 by have := HLL.out; simp at this ⊢; omega, List.drop_zero]
      case true =>
        have hgt : 60 < L := by simp at hq; omega
        have hdel := deleteMsg_any (w := wz) (v := .slice VA L VC) (out := net' ++ out) HT.out.net (i := 0) (j := L - 60) (by omega) (by rw [HLL.out]; omega) (fun mm hmm => by obtain ⟨A, l, c, e, _⟩ := HT.out.items mm hmm; exact ⟨A, l, c, e⟩)
        rw [show ((L - 60 : Nat) : Int) = (L : Int) - 60 from by omega, show ((0 : Nat) : Int) = 0 from rfl] at hdel
        have HDEL := Lib.hid hdel; have HR := Lib.hid hrun
        have hw6 : IntKind.i64.wrap ((L : Int) - 60) = (L : Int) - 60 := IntWalk.i64_in _ (by omega)
        clear hdel hrun hw6
        have hq2 : decide (0 < (L : Int) - 60) = true := by simp; omega
        clear hq
        go_wp2_with (at_builtin; refine wpList_append_run rfl _ _ 28 rfl rfl rfl HR.out ?_)
        refine HDEL.out.mono ?_
        rintro e w6 ⟨v3, rfl, o3, hv3, k6⟩
        rw [List.take_zero, List.nil_append] at o3
        obtain ⟨n3, hn3⟩ : ∃ n3, (net' ++ out).drop (L - 60) = n3 := ⟨_, rfl⟩
        rw [hn3] at o3
        obtain ⟨A3, C3, rfl, -, -⟩ := own_slice o3
        obtain ⟨w7, hw7, ht7, k7⟩ := HT.out.cut o3 hv3 k6 (fun m hm => List.mem_of_mem_drop (hn3 ▸ hm))
        have hb6 := (k6.block B (laid_lt HT.out.blk) fun e => by have := (HT.out.oS _ e).2; omega).trans HT.out.blk
        obtain ⟨p0, p1, pf⟩ := cells2 hb6
        obtain ⟨q0, q1, qf⟩ := cells2 ht7.blk
        have t97 := (k7.block (B + 2) (laid_lt HT9.out) fun e => e.elim (by omega) fun e => by have := (HT.out.oS _ e).2; omega).trans HT9.out
        obtain ⟨s0, s1, sf⟩ := cells2 t97
        obtain ⟨wf, hwf, hfb, hfk⟩ := put2 (v0 := .slice NA' nodes'.length NC') (v1 := .slice A3 n3.length C3) t97 rfl
        obtain ⟨r0, r1, rf⟩ := cells2 hfb
        have HFK := Lib.hid hfk; have HT7 := Lib.hid ht7; have HK7 := Lib.hid k7; have HN3 := Lib.hid hn3
        clear hfb hfk ht7 k7 hn3 hb6 t97 o3 hv3 k6
        go_wp2_with fail
        refine bodyPost_ret (v := .agg #[.slice NA' nodes'.length NC', .slice A3 n3.length C3]) (by simp [results, Try.results47, go_sem, r0, r1]) rfl ?_
        refine ⟨⟨nodes', n3, _, _⟩, rfl, ?_, HT7.out.done HFK.out, (HKZ.out.trans HK7.out fun k e => .inr (by have := HBW.out; exact e.elim (fun e => by omega) fun e => by have := (HT.out.oS _ e).2; omega)).trans HFK.out fun k e => .inr (by have := HBW.out; omega)⟩
        rw [HCS.out, ← HN3.out]
        unfold trim WldV.w
        simp only [said, List.map_drop, List.map_append]
        rw [show (net'.map MesV.m ++ out.map MesV.m).length - 60 = L - 60 by have := HLL.out; simp at this ⊢; omega]
end Go.Proofs.Ytibjbpakbfodaaa
