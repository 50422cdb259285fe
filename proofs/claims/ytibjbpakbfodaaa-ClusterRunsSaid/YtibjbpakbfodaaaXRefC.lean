/- The document's answer, chapter 15: what a leader sends. -/
import Derived.Test.YtibjbpakbfodaaaXRefS
import Derived.Test.YtibjbpakbfodaaaXFirst
import Derived.Test.YtibjbpakbfodaaaXExpc
namespace Go.Proofs.Ytibjbpakbfodaaa
open Go.RowKit

abbrev zero9 : Array Value := #[.int .i64 0, .int .i64 0, .int .i64 0, .int .i64 0, .int .i64 0, .int .i64 0, .int .i64 0, .slice none 0 0, .bool false]

theorem put9 {w : World} {r t : Nat} {cs : Array Value} {v0 v1 v2 v3 v4 v5 v6 v7 v8 : Value} (h : w.heap[r]? = some (.cells cs t (0, 0))) (hs : cs.size = 9) :
    ∃ w', sets w r 0 [v0, v1, v2, v3, v4, v5, v6, v7, v8] = w' ∧ w'.heap[r]? = some (.cells #[v0, v1, v2, v3, v4, v5, v6, v7, v8] t (0, 0)) ∧ Keeps (fun k => k = r) w w' := by
  obtain ⟨h1, h2⟩ := sets_blk r t [v0, v1, v2, v3, v4, v5, v6, v7, v8] w 0 cs h (by simp [hs])
  exact ⟨_, rfl, h1, h2⟩

set_option maxRecDepth 100000 in
set_option maxHeartbeats 4000000 in
theorem batch_any {w : World} {x : NodV} (h : NodeOk w Free x) (j q : Nat) (hj : j < x.n.next.length) (hq : x.n.next[j] = (q : Int) + 1) (hql : q ≤ x.n.log.length) (hl : x.n.log.length ≤ 60) (hn : x.n.next.length ≤ 5) :
    Calls Try.prog 91 #[.agg (nodCells x).toArray, .int .i64 ((j : Int) + 1)] w fun e w' => ∃ m : MesV, e = .returned (.agg (mesCells m).toArray) ∧ m.m = sends x.n ((j : Int) + 1) ∧ MesOk w' (fun k => k < w.heap.size) m ∧ Keeps Free w w' := by
  have HSE := Lib.hid (sends_at hj hq)
  have H := Lib.hid h
  obtain ⟨n, lv, vv, nv, mv⟩ := x
  simp only at hj hq hql hl hn HSE
  obtain ⟨LA, LC, VA, VC, NA, NC, MA, MC, rfl, rfl, rfl, rfl⟩ := h.shape
  obtain ⟨nb, no, rfl, -, hn0⟩ := Sl.int h.next hj
  rw [hq] at hn0
  have hnb := cell_lt hn0
  have HAT := Lib.hid (fun (w1 : World) (hk : Keeps Free w w1) => at_any (h.log.keep hk (fun _ _ h => h)) (q : Int) (by simp only; omega))
  clear h hq
  simp only [nodCells]
  simp only at HAT
  go_enter Try.func91, Try.ntmps91
  go_upto_region 2 with fail
  obtain ⟨k0, k1, k2⟩ := two_boxes w (.cells #[.int .i64 n.id, .int .i64 n.n, .int .i64 n.term, .int .i64 n.vote, .slice LA n.log.length LC, .int .i64 n.commit, .int .i64 n.role, .int .i64 n.boss, .slice VA n.votes.length VC, .slice (some ⟨nb, no, none⟩) n.next.length NC, .slice MA n.mtch.length MC] 25) (.cells zero9 38)
  obtain ⟨w2, hw2⟩ : ∃ w2, (w.alloc (.cells #[.int .i64 n.id, .int .i64 n.n, .int .i64 n.term, .int .i64 n.vote, .slice LA n.log.length LC, .int .i64 n.commit, .int .i64 n.role, .int .i64 n.boss, .slice VA n.votes.length VC, .slice (some ⟨nb, no, none⟩) n.next.length NC, .slice MA n.mtch.length MC] 25)).alloc (.cells zero9 38) = w2 := ⟨_, rfl⟩
  rw [hw2] at k0 k1 k2 ⊢
  have HK2 := Lib.hid k0; have HB1 := Lib.hid k1; have HB2 := Lib.hid k2
  have hlt := laid_lt k2
  obtain ⟨b0, b1, b2, b3, b4, b5, b6, b7, b8, b9, b10, bf⟩ := cells11 k1
  generalize hB : w.heap.size = B at *
  clear k0 k1 k2 hw2
  go_cut [6] from 6 to 7 (fun s6 wx => ∃ p, s6 = .pointer (some ⟨p, 0, none⟩) ∧ Keeps Free w2 wx ∧ w2.heap.size ≤ p ∧
    wx.heap[p]? = some (.cells #[.int .i64 3, .int .i64 n.id, .int .i64 ((j : Int) + 1), .int .i64 n.term, .int .i64 q, .int .i64 (termAt n.log q), .int .i64 n.commit, .slice none 0 0, .bool false] 38 (0, 0)))
  case first =>
    have hwq : IntKind.i64.wrap (q : Int) = (q : Int) := IntWalk.i64_in _ (by omega)
    refine Wc.wp_region_first (C := fun w' => Keeps Free w2 w') (by kernel_rfl) ?_
    have HKW := Lib.hid (show Keeps Free w2 { w2 with drawn := w2.drawn + 1 } from (Keeps.refl Free w2).drew)
    obtain ⟨W, hW⟩ : ∃ W : World, W = { w2 with drawn := w2.drawn + 1 } := ⟨_, rfl⟩
    rw [← hW] at HKW ⊢
    clear hW
    clear b0 b1 b2 b3 b4 b5 b6 b7 b8 b9 b10 bf
    apply Wc.wpAnyP_stays (by kernel_rfl) [0, 1, 2, 3, 4, 5, 6, 7, 8, 9, 10, 12, 13] _ _ _ 4 _ HKW.out (by kernel_rfl) ?hs ?hr
    case hs =>
      apply Wc.wpStays_step rfl rfl
      · intro w' hw'
        obtain ⟨e0, e1, e2, e3, e4, e5, e6, e7, e8, e9, e10, ef⟩ := cells11 (Keeps.blk hw' HB1.out)
        clear hw'
        go_simp
        exact ⟨rfl, rfl⟩
      go_simp
      apply Wc.wpStays_step rfl rfl
      · intro w' hw'
        obtain ⟨e0, e1, e2, e3, e4, e5, e6, e7, e8, e9, e10, ef⟩ := cells11 (Keeps.blk hw' HB1.out)
        clear hw'
        go_simp
        exact ⟨rfl, rfl⟩
      go_simp
      apply Wc.wpStays_step rfl rfl
      · intro w' hw'
        obtain ⟨e0, e1, e2, e3, e4, e5, e6, e7, e8, e9, e10, ef⟩ := cells11 (Keeps.blk hw' HB1.out)
        clear hw'
        go_simp
        exact ⟨rfl, rfl⟩
      go_simp
      apply Wc.wpStays_step rfl rfl
      · intro w' hw'
        obtain ⟨e0, e1, e2, e3, e4, e5, e6, e7, e8, e9, e10, ef⟩ := cells11 (Keeps.blk hw' HB1.out)
        clear hw'
        go_simp
        exact ⟨rfl, rfl⟩
      go_simp
      apply Wc.wpStays_step rfl rfl
      · intro w' hw'
        obtain ⟨e0, e1, e2, e3, e4, e5, e6, e7, e8, e9, e10, ef⟩ := cells11 (Keeps.blk hw' HB1.out)
        clear hw'
        go_simp
        exact ⟨rfl, rfl⟩
      go_simp
      apply Wc.wpStays_step rfl rfl
      · intro w' hw'
        obtain ⟨e0, e1, e2, e3, e4, e5, e6, e7, e8, e9, e10, ef⟩ := cells11 (Keeps.blk hw' HB1.out)
        clear hw'
        go_simp
        exact ⟨rfl, rfl⟩
      go_simp
      apply Wc.wpStays_step rfl rfl
      · intro w' hw'
        obtain ⟨e0, e1, e2, e3, e4, e5, e6, e7, e8, e9, e10, ef⟩ := cells11 (Keeps.blk hw' HB1.out)
        clear hw'
        go_simp
        exact ⟨rfl, rfl⟩
      go_simp
      apply Wc.wpStays_step rfl rfl
      · intro w' hw'
        obtain ⟨e0, e1, e2, e3, e4, e5, e6, e7, e8, e9, e10, ef⟩ := cells11 (Keeps.blk hw' HB1.out)
        clear hw'
        go_simp
        exact ⟨rfl, rfl⟩
      go_simp
      apply Wc.wpStays_step rfl rfl
      · intro w' hw'
        obtain ⟨e0, e1, e2, e3, e4, e5, e6, e7, e8, e9, e10, ef⟩ := cells11 (Keeps.blk hw' HB1.out)
        clear hw'
        go_simp
        exact ⟨rfl, rfl⟩
      go_simp
      apply Wc.wpStays_step rfl rfl
      · intro w' hw'
        obtain ⟨e0, e1, e2, e3, e4, e5, e6, e7, e8, e9, e10, ef⟩ := cells11 (Keeps.blk hw' HB1.out)
        clear hw'
        go_simp
        exact ⟨rfl, rfl⟩
      go_simp
      apply Wc.wpStays_step rfl rfl
      · intro w' hw'
        obtain ⟨e0, e1, e2, e3, e4, e5, e6, e7, e8, e9, e10, ef⟩ := cells11 (Keeps.blk hw' HB1.out)
        clear hw'
        go_simp
        exact ⟨rfl, rfl⟩
      go_simp
      apply Wc.wpStays_step rfl rfl
      · intro w' hw'
        obtain ⟨e0, e1, e2, e3, e4, e5, e6, e7, e8, e9, e10, ef⟩ := cells11 (Keeps.blk hw' HB1.out)
        clear hw'
        go_simp
        exact ⟨rfl, rfl⟩
      go_simp
      apply Wc.wpStays_step rfl rfl
      · intro w' hw'
        obtain ⟨e0, e1, e2, e3, e4, e5, e6, e7, e8, e9, e10, ef⟩ := cells11 (Keeps.blk hw' HB1.out)
        clear hw'
        go_simp
        exact ⟨rfl, rfl⟩
      go_simp
      exact rfl
    case hr =>
      apply Wc.wpAnyP_two (i := 11) (k := 15) (fuel := 3) (by kernel_rfl) rfl rfl rfl rfl
      · go_simp
        refine (HAT.out _ (HK2.out.trans HKW.out (fun _ h => .inl h))).mono ?_
        rintro e W' ⟨rfl, rfl⟩
        refine ⟨_, rfl, HKW.out, ?_⟩
        go_simp
        apply Wc.wpAnyP_stays (by kernel_rfl) [14] _ _ _ 2 _ HKW.out (by kernel_rfl) ?hs ?hr
        case hs =>
          apply Wc.wpStays_step rfl rfl
          · intro w' hw'
            clear hw'
            go_simp
            exact ⟨rfl, rfl⟩
          go_simp
          exact rfl
        case hr =>
          apply Wc.wpAnyP_one (i := 15) (fuel := 1) (by kernel_rfl) rfl rfl
          go_simp
          refine ⟨HKW.out.alloc _, ?_⟩
          apply Wc.wpAnyP_one (i := 16) (fuel := 0) (by kernel_rfl) rfl rfl
          go_simp
          refine ⟨HKW.out.alloc _, ?_⟩
          refine ⟨by kernel_rfl, ?_⟩
          go_wp2_with fail
          go_meet
          exact ⟨_, rfl, HKW.out.alloc _, HKW.out.size, heap_alloc_new _ _⟩
      · go_simp
        refine ⟨HKW.out.alloc _, ?_⟩
        apply Wc.wpAnyP_one (i := 11) (fuel := 2) (by kernel_rfl) rfl rfl
        go_simp
        refine (HAT.out _ (HK2.out.trans (HKW.out.alloc _) (fun _ h => .inl h))).mono ?_
        rintro e W' ⟨rfl, rfl⟩
        refine ⟨_, rfl, HKW.out.alloc _, ?_⟩
        go_simp
        apply Wc.wpAnyP_stays (by kernel_rfl) [14] _ _ _ 1 _ (HKW.out.alloc _) (by kernel_rfl) ?hs ?hr
        case hs =>
          apply Wc.wpStays_step rfl rfl
          · intro w' hw'
            clear hw'
            go_simp
            exact ⟨rfl, rfl⟩
          go_simp
          exact rfl
        case hr =>
          apply Wc.wpAnyP_one (i := 16) (fuel := 0) (by kernel_rfl) rfl rfl
          go_simp
          refine ⟨HKW.out.alloc _, ?_⟩
          refine ⟨by kernel_rfl, ?_⟩
          go_wp2_with fail
          go_meet
          exact ⟨_, rfl, HKW.out.alloc _, HKW.out.size, heap_alloc_new _ _⟩
  case rest =>
    obtain ⟨p, rfl, hkx, hBp, hbp⟩ := hcut
    have hpl := laid_lt hbp
    have KX := Lib.hid hkx; have BP := Lib.hid hbp
    clear hkx hbp b0 b1 b2 b3 b4 b5 b6 b7 b8 b9 b10 bf HAT hn0
    obtain ⟨i0, hi0, hz, hsz, hby⟩ := info_parts Try.info44
    have HI := Lib.hid hi0; have HZ := Lib.hid hz; have HS := Lib.hid hsz; have HB := Lib.hid hby
    clear hi0 hz hsz hby
    go_wp2_with fail
    go_loopw [7] (fun i wr => ∃ (t k : Nat) (iv : Value), t ≤ 3 ∧ q + t = k ∧ k ≤ n.log.length ∧ i = .int .i64 ((k : Int) + 1) ∧ Keeps Free w2 wr ∧
      wr.heap[p]? = some (.cells #[.int .i64 3, .int .i64 n.id, .int .i64 ((j : Int) + 1), .int .i64 n.term, .int .i64 q, .int .i64 (termAt n.log q), .int .i64 n.commit, iv, .bool false] 38 (0, 0)) ∧
      wr.ownsRow w2.heap.size 44 2 iv t (itemCells ((n.log.drop q).take t)) ∧ iv.ownBlock ≠ some p) (fun i _ => 100 - (intOf i).toNat)
    case atStart => exact ⟨0, q, .slice none 0 0, by omega, by omega, by omega, by go_num, KX.out, BP.out, World.ownsRow_nil _ _ _ _, by simp [Value.ownBlock]⟩
    case round =>
      obtain ⟨t, k, iv, ht, hkt, htl, rfl, hk, hb, ho, hne⟩ := hrel
      obtain ⟨IA, IC, rfl, hic1, hic2⟩ := own_slice ho
      have HO := Lib.hid ho; have HNE := Lib.hid hne; have HKR := Lib.hid hk; have BPR := Lib.hid hb
      have hBr := hk.blk HB1.out
      have hplr := laid_lt hb
      by_cases h3 : t < 3
      · by_cases h4 : k < n.log.length
        · obtain ⟨b, off, rfl, -, i1, i2⟩ := (H.out.log.keep (HK2.out.trans hk (fun _ h => .inl h)) (fun _ _ h => h) : Sl wr Free _ 2 _).item' (j := k) h4
          obtain ⟨b0, b1, b2, b3, b4, b5, b6, b7, b8, b9, b10, bf⟩ := cells11 hBr
          obtain ⟨c0, c1, c2, c3, c4, c5, c6, c7, c8⟩ := cells9 hb
          have hf7 : wr.frozen? ⟨p, 7, none⟩ = false := frozen_of_row wr p 7 _ _ hb
          have HSN := Lib.hid (show itemCells ((n.log.drop q).take t) ++ [.int .i64 n.log[k].term, .int .i64 n.log[k].cmd] = itemCells ((n.log.drop q).take (t + 1)) by
            rw [itemCells_snoc, List.take_succ_eq_append_getElem (by rw [List.length_drop]; omega), List.getElem_drop]
            congr 3
            have e : q + t = k := by omega
            simp only [e])
          have hbl := cell_lt i1
          clear ho hne hk hb hBr c0 c1 c2 c3 c4 c5 c6 c8 b0 b1 b2 b3 b5 b6 b7 b8 b9 b10 bf
          generalize n.log[k] = it at *
          obtain ⟨tt, tc⟩ := it
          simp only at i1 i2 HSN
          have hwk : IntKind.i64.wrap (k : Int) = (k : Int) := IntWalk.i64_in _ (by omega)
          have hkl : (k : Int) < (n.log.length : Int) := by omega
          go_upto_region 6 with fail
          have K2 := Lib.hid ((Keeps.refl (fun _ => False) wr).alloc (.cells #[.int .i64 tt, .int .i64 tc] 44)).drew
          go_region_law (
            (refine step_append_lies _ (by rfl) _ _ _ (by rfl) w2.heap.size 44 i0 _ 2 16 Try.underlying22 HI.out HZ.out HS.out HB.out rfl (by omega) (.slice IA t IC) t _ (by rfl) (HO.out.alloc _)
                ⟨wr.heap.size, 0, none⟩ 1 1 [.int .i64 tt, .int .i64 tc] (by rfl) (by rfl)
                (World.news_of_block (cs := #[.int .i64 tt, .int .i64 tc]) (t := 44) (fr := (0, 0)) (heap_alloc_new wr _)) (by simp [Value.oneCell'])
                (by omega) (by simp [maxLen]; omega) (by omega) (by have := HKR.out.size; simp; omega) (wr.heap.size + 1) (by simp) ?_
             intro gg cap w1 hown1 hgrow hat hltg
             have k7 := cell_grown K2.out hgrow c7 HNE.out
             have f7 := frozen_grown K2.out hgrow hplr hf7 HNE.out))
          all_goals
            go_wp2_with fail
            have hgp : gg ≠ p := by
              rcases hat with e | e
              · exact fun h => HNE.out (h ▸ e)
              · omega
            have hw1 : Keeps (fun k => (Value.slice IA t IC).ownBlock = some k) wr w1 := (K2.out.mono (fun _ h => h.elim)).trans (Keeps.of_grown hgrow fun g hg => .inl hg) (fun _ h => .inl h)
            have hk1 : Keeps Free w2 w1 := HKR.out.trans hw1 (fun k hk => .inr (HO.out.lt k hk).1)
            have hk2 := hk1.setCell (p := ⟨p, 7, none⟩) (.inr hBp) (.slice (some ⟨gg, 0, none⟩) (t + 1) cap)
            have hbl2 := setCell_blk (k := 7) (u := .slice (some ⟨gg, 0, none⟩) (t + 1) cap) ((hw1.block p hplr (fun e => HNE.out e)).trans BPR.out)
            rw [HSN.out] at hown1
            have ho2 := own_set (k := 7) hown1 (.slice (some ⟨gg, 0, none⟩) (t + 1) cap) (p := p) (by simp [Value.ownBlock]; exact hgp)
            go_roundw
            case measure => simp [intOf]; omega
            case rel => exact ⟨t + 1, k + 1, _, by omega, by omega, by omega, by go_num, hk2, hbl2.trans rfl, ho2, by simp [Value.ownBlock]; exact hgp⟩
        · have hE : (n.log.drop q).take t = (n.log.drop q).take 3 := by
            rw [List.take_of_length_le (by rw [List.length_drop]; omega), List.take_of_length_le (by rw [List.length_drop]; omega)]
          have hz := hk.blk HB2.out
          obtain ⟨wf, hwf, hfb, hfk⟩ := put9 (v0 := .int .i64 3) (v1 := .int .i64 n.id) (v2 := .int .i64 ((j : Int) + 1)) (v3 := .int .i64 n.term) (v4 := .int .i64 q) (v5 := .int .i64 (termAt n.log q)) (v6 := .int .i64 n.commit) (v7 := .slice IA t IC) (v8 := .bool false) hz rfl
          simp only [sets] at hwf
          obtain ⟨q0, q1, q2, q3, q4, q5, q6, q7, q8⟩ := cells9 hfb
          have FIN := Lib.hid (show ∃ m : MesV, Ending.returned (.agg #[.int .i64 3, .int .i64 n.id, .int .i64 ((j : Int) + 1), .int .i64 n.term, .int .i64 q, .int .i64 (termAt n.log q), .int .i64 n.commit, .slice IA t IC, .bool false]) = .returned (.agg (mesCells m).toArray) ∧ m.m = sends n ((j : Int) + 1) ∧ MesOk wf (fun k => k < B) m ∧ Keeps Free w wf from
            ⟨⟨⟨3, n.id, (j : Int) + 1, n.term, q, termAt n.log q, n.commit, (n.log.drop q).take 3, false⟩, .slice IA t IC⟩, rfl, HSE.out.symm, by
              have hs := (Sl.of_own (S := fun k => k ≤ B + 1) ho (fun g hg e => by have := (ho.lt g hg).1; omega)).into (S' := fun k => k < B) hfk (fun _ _ h => by omega) (fun _ _ h => by omega)
              rw [hE] at hs
              exact hs, (HK2.out.trans hk (fun _ h => .inl h)).trans hfk (fun k e => .inr (by omega))⟩)
          obtain ⟨b0, b1, b2, b3, b4, b5, b6, b7, b8, b9, b10, bf⟩ := cells11 hBr
          obtain ⟨c0, c1, c2, c3, c4, c5, c6, c7, c8⟩ := cells9 hb
          have r7 := cells9 hz
          obtain ⟨r0, r1, r2, r3, r4, r5, r6, r7, r8⟩ := r7
          have rf := fun k => frozen_of_row wr (B + 1) k _ _ hz
          clear ho hne hk hb hBr hz hfb hfk hE H HSE HO HNE HKR BPR
          go_wp2_with fail
          refine bodyPost_ret (v := .agg #[.int .i64 3, .int .i64 n.id, .int .i64 ((j : Int) + 1), .int .i64 n.term, .int .i64 q, .int .i64 (termAt n.log q), .int .i64 n.commit, .slice IA t IC, .bool false]) (by simp [results, Try.results91, go_sem, q0, q1, q2, q3, q4, q5, q6, q7, q8]) rfl ?_
          first | exact FIN.out | (have F := FIN.out; rw [← hB] at F; exact F)
      · obtain rfl : t = 3 := by omega
        have hE : (n.log.drop q).take 3 = (n.log.drop q).take 3 := rfl
        have hz := hk.blk HB2.out
        obtain ⟨wf, hwf, hfb, hfk⟩ := put9 (v0 := .int .i64 3) (v1 := .int .i64 n.id) (v2 := .int .i64 ((j : Int) + 1)) (v3 := .int .i64 n.term) (v4 := .int .i64 q) (v5 := .int .i64 (termAt n.log q)) (v6 := .int .i64 n.commit) (v7 := .slice IA 3 IC) (v8 := .bool false) hz rfl
        simp only [sets] at hwf
        obtain ⟨q0, q1, q2, q3, q4, q5, q6, q7, q8⟩ := cells9 hfb
        have FIN := Lib.hid (show ∃ m : MesV, Ending.returned (.agg #[.int .i64 3, .int .i64 n.id, .int .i64 ((j : Int) + 1), .int .i64 n.term, .int .i64 q, .int .i64 (termAt n.log q), .int .i64 n.commit, .slice IA 3 IC, .bool false]) = .returned (.agg (mesCells m).toArray) ∧ m.m = sends n ((j : Int) + 1) ∧ MesOk wf (fun k => k < B) m ∧ Keeps Free w wf from
          ⟨⟨⟨3, n.id, (j : Int) + 1, n.term, q, termAt n.log q, n.commit, (n.log.drop q).take 3, false⟩, .slice IA 3 IC⟩, rfl, HSE.out.symm, by
            have hs := (Sl.of_own (S := fun k => k ≤ B + 1) ho (fun g hg e => by have := (ho.lt g hg).1; omega)).into (S' := fun k => k < B) hfk (fun _ _ h => by omega) (fun _ _ h => by omega)
            rw [hE] at hs
            exact hs, (HK2.out.trans hk (fun _ h => .inl h)).trans hfk (fun k e => .inr (by omega))⟩)
        obtain ⟨b0, b1, b2, b3, b4, b5, b6, b7, b8, b9, b10, bf⟩ := cells11 hBr
        obtain ⟨c0, c1, c2, c3, c4, c5, c6, c7, c8⟩ := cells9 hb
        have r7 := cells9 hz
        obtain ⟨r0, r1, r2, r3, r4, r5, r6, r7, r8⟩ := r7
        have rf := fun k => frozen_of_row wr (B + 1) k _ _ hz
        clear ho hne hk hb hBr hz hfb hfk hE H HSE HO HNE HKR BPR
        go_wp2_with fail
        refine bodyPost_ret (v := .agg #[.int .i64 3, .int .i64 n.id, .int .i64 ((j : Int) + 1), .int .i64 n.term, .int .i64 q, .int .i64 (termAt n.log q), .int .i64 n.commit, .slice IA 3 IC, .bool false]) (by simp [results, Try.results91, go_sem, q0, q1, q2, q3, q4, q5, q6, q7, q8]) rfl ?_
        first | exact FIN.out | (have F := FIN.out; rw [← hB] at F; exact F)
end Go.Proofs.Ytibjbpakbfodaaa
