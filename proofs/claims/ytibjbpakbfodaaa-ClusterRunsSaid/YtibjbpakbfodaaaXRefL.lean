/- The document's answer, chapter 15: the items of a message, taken. -/
import Derived.Test.YtibjbpakbfodaaaXRefK
namespace Go.Proofs.Ytibjbpakbfodaaa
open Go.RowKit

/-- Does a place go on with the same terms? -/
def goesOn (items log : List Itm) (idx j : Nat) : Bool :=
  match items[j]?, log[idx + j]? with
  | some x, some y => y.term == x.term
  | _, _ => false

theorem goesOn_yes {items log : List Itm} {idx j : Nat} (h : goesOn items log idx j = true) (ha : agree items (log.drop idx) = j + agree (items.drop j) ((log.drop idx).drop j)) : j < items.length ∧ idx + j < log.length ∧ agree items (log.drop idx) = (j + 1) + agree (items.drop (j + 1)) ((log.drop idx).drop (j + 1)) := by
  unfold goesOn at h
  rcases Nat.lt_or_ge j items.length with h1 | h1
  · rcases Nat.lt_or_ge (idx + j) log.length with h2 | h2
    · rw [List.getElem?_eq_getElem h1, List.getElem?_eq_getElem h2] at h
      have h3 : j < (log.drop idx).length := by rw [List.length_drop]; omega
      refine ⟨h1, h2, agree_step ha h1 h3 ?_⟩
      simp only [List.getElem_drop]
      simpa using h
    · rw [List.getElem?_eq_none h2] at h
      cases items[j]? <;> simp at h
  · rw [List.getElem?_eq_none h1] at h
    simp at h

theorem goesOn_no {items log : List Itm} {idx j : Nat} (h : goesOn items log idx j = false) (ha : agree items (log.drop idx) = j + agree (items.drop j) ((log.drop idx).drop j)) : agree items (log.drop idx) = j := by
  unfold goesOn at h
  refine agree_stop ha ?_
  rcases Nat.lt_or_ge j items.length with h1 | h1
  · rcases Nat.lt_or_ge (idx + j) log.length with h2 | h2
    · rw [List.getElem?_eq_getElem h1, List.getElem?_eq_getElem h2] at h
      refine .inr (.inr ⟨h1, by rw [List.length_drop]; omega, ?_⟩)
      simp only [List.getElem_drop]
      simpa using h
    · exact .inr (.inl (by rw [List.length_drop]; omega))
  · exact .inl h1

set_option maxRecDepth 100000 in
set_option maxHeartbeats 16000000 in
theorem takenR_any {w : World} {Q : Nat → Prop} {x : NodV} {m : MesV} (h : NodeOk w Q x) (hQ : ∀ k, Q k → k < w.heap.size) (hm : MesOk w Free m) (idx : Nat) (hix : m.m.index = idx) (hil : idx ≤ x.n.log.length) (hl : x.n.log.length ≤ 60) (hml : idx + m.m.items.length ≤ 60) (hc0 : 0 ≤ x.n.commit) (hcn : x.n.commit ≤ x.n.log.length) (hmc : 0 ≤ m.m.commit) :
    Calls Try.prog 77 #[.agg (nodCells x).toArray, .agg (mesCells m).toArray] w fun e w' => ∃ x' : NodV, e = .returned (.agg (nodCells x').toArray) ∧
      x'.n = { x.n with log := (taken idx m.m.items x.n.log x.n.commit).1, commit := max (taken idx m.m.items x.n.log x.n.commit).2 (min m.m.commit (m.m.index + m.m.items.length)) } ∧ NodeOk w' Q x' ∧ Keeps Free w w' := by
  have H := Lib.hid h; have HQ := Lib.hid hQ; have HM := Lib.hid hm
  obtain ⟨n, lv, vv, nv, mv⟩ := x
  obtain ⟨LA, LC, VA, VC, NA, NC, MA, MC, rfl, rfl, rfl, rfl⟩ := h.shape
  obtain ⟨m, iv⟩ := m
  obtain ⟨IA, IC, hiv⟩ := hm.shape
  simp only at hiv hix hil hl hml hc0 hcn hmc
  subst hiv
  have HIX := Lib.hid hix
  have HTA := Lib.hid (taken_agree m.items idx n.log n.commit hil hcn)
  clear h hm hQ hix
  simp only [nodCells, mesCells]
  go_enter Try.func77, Try.ntmps77
  go_upto_region 1 with fail
  obtain ⟨k0, k1, k2⟩ := two_boxes w (.cells #[.int .i64 n.id, .int .i64 n.n, .int .i64 n.term, .int .i64 n.vote, .slice LA n.log.length LC, .int .i64 n.commit, .int .i64 n.role, .int .i64 n.boss, .slice VA n.votes.length VC, .slice NA n.next.length NC, .slice MA n.mtch.length MC] 25) (.cells #[.int .i64 m.kind, .int .i64 m.src, .int .i64 m.dst, .int .i64 m.term, .int .i64 m.index, .int .i64 m.logTerm, .int .i64 m.commit, .slice IA m.items.length IC, .bool m.yes] 38)
  have k3 := (Keeps.refl Free ((w.alloc (.cells #[.int .i64 n.id, .int .i64 n.n, .int .i64 n.term, .int .i64 n.vote, .slice LA n.log.length LC, .int .i64 n.commit, .int .i64 n.role, .int .i64 n.boss, .slice VA n.votes.length VC, .slice NA n.next.length NC, .slice MA n.mtch.length MC] 25)).alloc (.cells #[.int .i64 m.kind, .int .i64 m.src, .int .i64 m.dst, .int .i64 m.term, .int .i64 m.index, .int .i64 m.logTerm, .int .i64 m.commit, .slice IA m.items.length IC, .bool m.yes] 38))).alloc (.cells zero11 25)
  have k4 := heap_alloc_new ((w.alloc (.cells #[.int .i64 n.id, .int .i64 n.n, .int .i64 n.term, .int .i64 n.vote, .slice LA n.log.length LC, .int .i64 n.commit, .int .i64 n.role, .int .i64 n.boss, .slice VA n.votes.length VC, .slice NA n.next.length NC, .slice MA n.mtch.length MC] 25)).alloc (.cells #[.int .i64 m.kind, .int .i64 m.src, .int .i64 m.dst, .int .i64 m.term, .int .i64 m.index, .int .i64 m.logTerm, .int .i64 m.commit, .slice IA m.items.length IC, .bool m.yes] 38)) (.cells zero11 25)
  simp only [World.size_alloc] at k4
  obtain ⟨w2, hw2⟩ : ∃ w2, ((w.alloc (.cells #[.int .i64 n.id, .int .i64 n.n, .int .i64 n.term, .int .i64 n.vote, .slice LA n.log.length LC, .int .i64 n.commit, .int .i64 n.role, .int .i64 n.boss, .slice VA n.votes.length VC, .slice NA n.next.length NC, .slice MA n.mtch.length MC] 25)).alloc (.cells #[.int .i64 m.kind, .int .i64 m.src, .int .i64 m.dst, .int .i64 m.term, .int .i64 m.index, .int .i64 m.logTerm, .int .i64 m.commit, .slice IA m.items.length IC, .bool m.yes] 38)).alloc (.cells zero11 25) = w2 := ⟨_, rfl⟩
  have k0 := k0.trans k3 (fun _ h => .inl h)
  have k1 := k3.blk k1
  have k2 := k3.blk k2
  clear k3
  rw [hw2] at k0 k1 k2 k4 ⊢
  have HBX := Lib.hid (show Boxed w Q w.heap.size (w.heap.size + 1 + 1) _ _ from Boxed.start H.out HQ.out k0 (by omega) k1 k4)
  have HMB := Lib.hid k2
  have hlt := laid_lt k4
  obtain ⟨b0, b1, b2, b3, b4, b5, b6, b7, b8, b9, b10, bf⟩ := cells11 k1
  obtain ⟨d0, d1, d2, d3, d4, d5, d6, d7, d8, df⟩ := cells9l k2
  obtain ⟨r0, r1, r2, r3, r4, r5, r6, r7, r8, r9, r10, rf⟩ := cells11 k4
  obtain ⟨B, hB⟩ : ∃ B, w.heap.size = B := ⟨_, rfl⟩
  simp only [hB] at HBX HMB hlt b0 b1 b2 b3 b4 b5 b6 b7 b8 b9 b10 bf d0 d1 d2 d3 d4 d5 d6 d7 d8 df r0 r1 r2 r3 r4 r5 r6 r7 r8 r9 r10 rf ⊢
  clear k0 k1 k2 k4 hw2
  rw [HIX.out] at d4
  have hmsl := Lib.hid (show ∀ W : World, Keeps Free w W → Sl W Free (.slice IA m.items.length IC) 2 (itemCells m.items) from fun W hk => Sl.keep HM.out hk (fun _ _ h => h))
  go_wp2_with fail
  go_loopw [5, 6] (fun s5 s6 wr => ∃ j : Nat, j ≤ m.items.length ∧ idx + j ≤ n.log.length ∧ s5 = .int .i64 ((idx + j : Nat) : Int) ∧ s6 = .int .i64 (j : Int) ∧ Keeps Free w2 wr ∧ agree m.items (n.log.drop idx) = j + agree (m.items.drop j) ((n.log.drop idx).drop j)) (fun _ s6 _ => 100 - (intOf s6).toNat)
  case atStart => exact ⟨0, by omega, by omega, by go_num, rfl, Keeps.refl _ _, by simp⟩
  case round =>
    obtain ⟨j, hj, hjl, rfl, rfl, hkr, hag⟩ := hrel
    have hb := HBX.out.later hkr
    have hmb := hkr.blk HMB.out
    clear d0 d1 d2 d3 d4 d5 d6 d7 d8 df b0 b1 b2 b3 b4 b5 b6 b7 b8 b9 b10 bf r0 r1 r2 r3 r4 r5 r6 r7 r8 r9 r10 rf
    obtain ⟨b0, b1, b2, b3, b4, b5, b6, b7, b8, b9, b10, bf⟩ := cells11 hb.blk
    obtain ⟨d0, d1, d2, d3, d4, d5, d6, d7, d8, df⟩ := cells9l hmb
    simp only at b0 b1 b2 b3 b4 b5 b6 b7 b8 b9 b10
    have hls : Sl wr Free (.slice LA n.log.length LC) 2 (itemCells n.log) := hb.free.log
    have his := hmsl.out wr hb.keeps
    have HKR := Lib.hid hkr; have HAG := Lib.hid hag
    clear hb hmb hkr hag
    rw [HIX.out] at d4
    obtain ⟨kp, hkp⟩ : ∃ kp, idx + j = kp := ⟨_, rfl⟩
    have hon : goesOn m.items n.log idx j = match m.items[j]?, n.log[kp]? with | some x, some y => y.term == x.term | _, _ => false := by rw [← hkp]; rfl
    rw [hkp] at hjl ⊢
    have HKP := Lib.hid hkp; have HON := Lib.hid hon
    clear hon
    go_upto_region 3 with fail
    go_cut [36] from 36 to 37 (fun s wx => s = .bool (goesOn m.items n.log idx j) ∧ Keeps Free wr wx)
    case first =>
      by_cases h1 : j < m.items.length
      · by_cases h2 : kp < n.log.length
        · obtain ⟨lb, lo, rfl, -, l1, -⟩ := hls.item' h2
          obtain ⟨ib, io, rfl, -, i1, -⟩ := his.item' h1
          rw [List.getElem?_eq_getElem h1, List.getElem?_eq_getElem h2] at HON
          simp only at HON
          clear hls his
          generalize n.log[kp].term = ta at *
          generalize m.items[j].term = tb at *
          cases q : (ta == tb)
          case true =>
            rw [q] at HON
            go_quiet (fail)
            go_wp2_with fail
            go_meet
            exact ⟨by rw [HON.out], (Keeps.refl Free wr).drewN _⟩
          rw [q] at HON
          go_quiet (fail)
          go_wp2_with fail
          go_meet
          exact ⟨by rw [HON.out], (Keeps.refl Free wr).drewN _⟩
        · (
            rw [List.getElem?_eq_none (show n.log.length ≤ kp by omega), List.getElem?_eq_getElem h1] at HON
            simp only at HON
            have hd : decide ((kp : Int) < (n.log.length : Int)) = false := by simp; omega
            clear hls his
            go_quiet (fail)
            go_wp2_with fail
            go_meet
            exact ⟨by rw [HON.out], (Keeps.refl Free wr).drewN _⟩)
      · (
          rw [List.getElem?_eq_none (show m.items.length ≤ j by omega)] at HON
          simp only at HON
          have hd : decide ((j : Int) < (m.items.length : Int)) = false := by simp; omega
          clear hls his
          go_quiet (fail)
          go_wp2_with fail
          go_meet
          exact ⟨by rw [HON.out], (Keeps.refl Free wr).drewN _⟩)
    case rest =>
      obtain ⟨rfl, hkx⟩ := hcut
      have HKX := Lib.hid (HKR.out.trans hkx (fun _ h => .inl h))
      clear hkx d0 d1 d2 d3 d4 d5 d6 d7 d8 df b0 b1 b2 b3 b4 b5 b6 b7 b8 b9 b10 bf hls his
      cases q : goesOn m.items n.log idx j
      case true =>
        obtain ⟨g1, g2, g3⟩ := goesOn_yes q HAG.out
        have G3 := Lib.hid g3
        have hks := HKP.out
        go_wp2_with fail
        go_roundw
        case measure => simp [intOf]; omega
        case rel => exact ⟨j + 1, by omega, by omega, by go_num, by go_num, HKX.out, G3.out⟩
      case false =>
        have hst := goesOn_no q HAG.out
        have HST := Lib.hid hst
        clear hst q
        have HTJ := Lib.hid (show taken idx m.items n.log n.commit = if j < m.items.length then (n.log.take kp ++ m.items.drop j, min n.commit (kp : Int)) else (n.log, n.commit) by rw [HTA.out, HST.out, HKP.out])
        have HBB := Lib.hid (HBX.out.later HKX.out)
        have HMB2 := Lib.hid (HKX.out.blk HMB.out)
        obtain ⟨b0, b1, b2, b3, b4, b5, b6, b7, b8, b9, b10, bf⟩ := cells11 HBB.out.blk
        obtain ⟨d0, d1, d2, d3, d4, d5, d6, d7, d8, df⟩ := cells9l HMB2.out
        simp only at b0 b1 b2 b3 b4 b5 b6 b7 b8 b9 b10
        have hrl := HBB.out.rlt
        clear HTA HST HON HAG HKR
        go_upto_if 45 with fail
        go_cut [46] from 45 to 64 (fun _ wx => ∃ lv', Boxed w Q B (B + 1 + 1) ⟨{ n with log := (taken idx m.items n.log n.commit).1, commit := (taken idx m.items n.log n.commit).2 }, lv', .slice VA n.votes.length VC, .slice NA n.next.length NC, .slice MA n.mtch.length MC⟩ wx ∧ wx.heap[B + 1]? = some (.cells #[.int .i64 m.kind, .int .i64 m.src, .int .i64 m.dst, .int .i64 m.term, .int .i64 m.index, .int .i64 m.logTerm, .int .i64 m.commit, .slice IA m.items.length IC, .bool m.yes] 38 (0, 0)))
        case first =>
          by_cases h1 : j < m.items.length
          · have hsl := HBB.out.free.log
            have hsi := hmsl.out _ HBB.out.keeps
            simp only at hsl
            obtain ⟨ib, io, rfl, -, -, -⟩ := hsi.item' h1
            have hcap : n.log.length ≤ LC := by
              obtain ⟨_, _, _, e, _, h, _⟩ := hsl
              injection e with _ _ e; omega
            have hcai : m.items.length ≤ IC := by
              obtain ⟨_, _, _, e, _, h, _⟩ := hsi
              injection e with _ _ e; omega
            have hs1 := hsl.part (lo := 0) (hi := kp) (by omega) hjl (by decide) (B := LA) (fun _ => by cases LA <;> simp [Addr.add])
            have hs2 := hsi.part (lo := j) (hi := m.items.length) (by omega) (Nat.le_refl _) (by decide) (B := some ⟨ib, io + j * 2, none⟩) (fun _ => by simp [Addr.add])
            simp only [Nat.sub_zero, Nat.zero_mul, List.drop_zero] at hs1
            rw [itemCells_take] at hs1
            rw [itemCells_drop, show (m.items.length - j) * 2 = (m.items.drop j).length * 2 by rw [List.length_drop], itemCells_take, List.take_length] at hs2
            have HS1 := Lib.hid hs1; have HS2 := Lib.hid hs2
            clear hsl hsi hs1 hs2
            have hij : ¬ IC = j := by omega
            have hjc : (j : Int) ≤ (m.items.length : Int) := by omega
            have hkc : (kp : Int) ≤ (LC : Int) := by omega
            have hlc : (m.items.length : Int) ≤ (IC : Int) := by omega
            go_upto_region 7 with fail
            obtain ⟨i0, hi0, hz, hsz, hby⟩ := info_parts Try.info44
            have HI := Lib.hid hi0; have HZ := Lib.hid hz; have HS := Lib.hid hsz; have HBYT := Lib.hid hby
            clear hi0 hz hsz hby d0 d1 d2 d3 d4 d5 d6 d7 d8 df b0 b1 b2 b3 b4 b5 b6 b7 b8 b9 b10 bf
            refine Wf.wp_region_first (C := fun w' => Keeps Free wc w') (by kernel_rfl) 12 ?_
            have HKW := Lib.hid (show Keeps Free wc { wc with drawn := wc.drawn + 1 } from (Keeps.refl Free wc).drew)
            obtain ⟨W, hW⟩ : ∃ W : World, W = { wc with drawn := wc.drawn + 1 } := ⟨_, rfl⟩
            rw [← hW] at HKW ⊢
            clear hW
            apply Wf.wpAnyP_stays (by kernel_rfl) [1, 2, 3, 4, 6, 7, 8, 9] _ _ _ 5 _ HKW.out (by kernel_rfl) ?hs ?hr
            case hs =>
              apply Wf.wpStays_step rfl rfl
              · intro w' hw'
                obtain ⟨e0, e1, e2, e3, e4, e5, e6, e7, e8, e9, e10, ef⟩ := cells11 (Keeps.blk hw' HBB.out.blk)
                obtain ⟨d0, d1, d2, d3, d4, d5, d6, d7, d8, df⟩ := cells9l (Keeps.blk hw' HMB2.out)
                clear hw'
                simp only at e4
                go_simp
                exact ⟨rfl, rfl⟩
              go_simp
              apply Wf.wpStays_step rfl rfl
              · intro w' hw'
                obtain ⟨e0, e1, e2, e3, e4, e5, e6, e7, e8, e9, e10, ef⟩ := cells11 (Keeps.blk hw' HBB.out.blk)
                obtain ⟨d0, d1, d2, d3, d4, d5, d6, d7, d8, df⟩ := cells9l (Keeps.blk hw' HMB2.out)
                clear hw'
                simp only at e4
                go_simp
                exact ⟨rfl, rfl⟩
              go_simp
              apply Wf.wpStays_step rfl rfl
              · intro w' hw'
                obtain ⟨e0, e1, e2, e3, e4, e5, e6, e7, e8, e9, e10, ef⟩ := cells11 (Keeps.blk hw' HBB.out.blk)
                obtain ⟨d0, d1, d2, d3, d4, d5, d6, d7, d8, df⟩ := cells9l (Keeps.blk hw' HMB2.out)
                clear hw'
                simp only at e4
                go_simp
                exact ⟨rfl, rfl⟩
              go_simp
              apply Wf.wpStays_step rfl rfl
              · intro w' hw'
                obtain ⟨e0, e1, e2, e3, e4, e5, e6, e7, e8, e9, e10, ef⟩ := cells11 (Keeps.blk hw' HBB.out.blk)
                obtain ⟨d0, d1, d2, d3, d4, d5, d6, d7, d8, df⟩ := cells9l (Keeps.blk hw' HMB2.out)
                clear hw'
                simp only at e4
                go_simp
                exact ⟨rfl, rfl⟩
              go_simp
              apply Wf.wpStays_step rfl rfl
              · intro w' hw'
                obtain ⟨e0, e1, e2, e3, e4, e5, e6, e7, e8, e9, e10, ef⟩ := cells11 (Keeps.blk hw' HBB.out.blk)
                obtain ⟨d0, d1, d2, d3, d4, d5, d6, d7, d8, df⟩ := cells9l (Keeps.blk hw' HMB2.out)
                clear hw'
                simp only at e4
                go_simp
                exact ⟨rfl, rfl⟩
              go_simp
              apply Wf.wpStays_step rfl rfl
              · intro w' hw'
                obtain ⟨e0, e1, e2, e3, e4, e5, e6, e7, e8, e9, e10, ef⟩ := cells11 (Keeps.blk hw' HBB.out.blk)
                obtain ⟨d0, d1, d2, d3, d4, d5, d6, d7, d8, df⟩ := cells9l (Keeps.blk hw' HMB2.out)
                clear hw'
                simp only at e4
                go_simp
                exact ⟨rfl, rfl⟩
              go_simp
              apply Wf.wpStays_step rfl rfl
              · intro w' hw'
                obtain ⟨e0, e1, e2, e3, e4, e5, e6, e7, e8, e9, e10, ef⟩ := cells11 (Keeps.blk hw' HBB.out.blk)
                obtain ⟨d0, d1, d2, d3, d4, d5, d6, d7, d8, df⟩ := cells9l (Keeps.blk hw' HMB2.out)
                clear hw'
                simp only at e4
                go_simp
                exact ⟨rfl, rfl⟩
              go_simp
              apply Wf.wpStays_step rfl rfl
              · intro w' hw'
                obtain ⟨e0, e1, e2, e3, e4, e5, e6, e7, e8, e9, e10, ef⟩ := cells11 (Keeps.blk hw' HBB.out.blk)
                obtain ⟨d0, d1, d2, d3, d4, d5, d6, d7, d8, df⟩ := cells9l (Keeps.blk hw' HMB2.out)
                clear hw'
                simp only at e4
                go_simp
                exact ⟨rfl, rfl⟩
              go_simp
              exact rfl
            case hr =>
              apply Wf.wpAnyP_one (i := 0) (fuel := 4) (by kernel_rfl) rfl rfl
              go_simp
              refine ⟨HKW.out.alloc _, ?_⟩
              have HKA := Lib.hid (HKW.out.alloc (.cells #[] 44))
              have HV0 := Lib.hid (show (W.alloc (.cells #[] 44)).ownsRow wc.heap.size 44 2 (.slice (some ⟨W.heap.size, 0, none⟩) 0 0) 0 [] from World.ownsRow_lit (w := W) (base := wc.heap.size) (e := 44) (size := 2) #[] 0 HKW.out.size (by simp [maxLen]) rfl)
              apply Wf.wpAnyP_one (i := 5) (fuel := 3) (by kernel_rfl) rfl rfl
              obtain ⟨v1, W1, hrun, hown, hkk, hat⟩ := app_row (ty := 22) Try.underlying22 HI.out HZ.out HS.out HBYT.out rfl (by decide) (by decide) HKA.out.size HV0.out (HS1.out.keep HKA.out (fun _ _ h => h)) (item_one _) (by omega)
              have HK1 := Lib.hid (HKA.out.trans hkk fun k hk => .inr (HV0.out.lt k hk).1)
              have HV1 := Lib.hid hown
              refine plainf_append rfl rfl rfl hrun ⟨.inr HK1.out, ?_⟩
              clear hrun hown hkk hat HV0 HKA
              go_simp
              apply Wf.wpAnyP_one (i := 10) (fuel := 2) (by kernel_rfl) rfl rfl
              obtain ⟨v2, W2, hrun, hown, hkk, hat⟩ := app_row (ty := 22) Try.underlying22 HI.out HZ.out HS.out HBYT.out rfl (by decide) (by decide) HK1.out.size HV1.out (HS2.out.keep HK1.out (fun _ _ h => h)) (item_one _) (by omega)
              have HK2 := Lib.hid (HK1.out.trans hkk fun k hk => .inr (HV1.out.lt k hk).1)
              simp only [Nat.zero_add, List.nil_append] at hown
              rw [show itemCells (n.log.take kp) ++ itemCells (m.items.drop j) = itemCells (n.log.take kp ++ m.items.drop j) by simp [itemCells]] at hown
              have HV2 := Lib.hid hown
              refine plainf_append rfl rfl rfl hrun ⟨.inr HK2.out, ?_⟩
              clear hrun hown hkk hat HV1 HK1
              go_simp
              obtain ⟨VA2, VC2, hvv, hv1, hv2⟩ := own_slice HV2.out
              subst hvv
              apply Wf.wpAnyP_one (i := 11) (fuel := 1) (by kernel_rfl) rfl rfl
              go_simp
              refine ⟨HK2.out, ?_⟩
              apply Wf.wpAnyP_one (i := 12) (fuel := 0) (by kernel_rfl) rfl rfl
              have hbw := HBB.out.later HK2.out
              obtain ⟨b0, b1, b2, b3, b4, b5, b6, b7, b8, b9, b10, bf⟩ := cells11 hbw.blk
              simp only at b0 b1 b2 b3 b4 b5 b6 b7 b8 b9 b10
              go_simp
              first | refine ⟨trivial, ?_⟩ | skip
              refine ⟨by kernel_rfl, ?_⟩
              have hb4 := hbw.set 4 (.slice VA2 (kp + (m.items.length - j)) VC2) ⟨{ n with log := n.log.take kp ++ m.items.drop j }, .slice VA2 (kp + (m.items.length - j)) VC2, .slice VA n.votes.length VC, .slice NA n.next.length NC, .slice MA n.mtch.length MC⟩ rfl ⟨Sl.of_own HV2.out fun g hg h => by have h1 := (HV2.out.lt g hg).1; have h2 := HBB.out.oldS g h; omega, hbw.ok.votes, hbw.ok.next, hbw.ok.mtch⟩
              have hm4 := (Below.heap_setCell W2 ⟨B, 4, none⟩ (.slice VA2 (kp + (m.items.length - j)) VC2) (B + 1) (by simp)).trans (HK2.out.blk HMB2.out)
              obtain ⟨w4, hw4⟩ : ∃ w4, W2.setCell ⟨B, 4, none⟩ (.slice VA2 (kp + (m.items.length - j)) VC2) = w4 := ⟨_, rfl⟩
              rw [hw4] at hb4 hm4 ⊢
              have HB4 := Lib.hid hb4; have HM4 := Lib.hid hm4
              have HTY := Lib.hid (show taken idx m.items n.log n.commit = (n.log.take kp ++ m.items.drop j, min n.commit (kp : Int)) by rw [HTJ.out, if_pos h1])
              clear b0 b1 b2 b3 b4 b5 b6 b7 b8 b9 b10 bf hw4 hb4 hm4 hbw hv1 hv2
              obtain ⟨b0, b1, b2, b3, b4, b5, b6, b7, b8, b9, b10, bf⟩ := cells11 HB4.out.blk
              simp only at b0 b1 b2 b3 b4 b5 b6 b7 b8 b9 b10
              by_cases hcm : (kp : Int) < n.commit
              · go_wp2_with fail
                go_meet
                rw [HTY.out]
                have e : min n.commit (kp : Int) = kp := by omega
                simp only [e]
                exact ⟨_, HB4.out.set 5 (.int .i64 (kp : Int)) ⟨{ n with log := n.log.take kp ++ m.items.drop j, commit := (kp : Int) }, .slice VA2 (kp + (m.items.length - j)) VC2, .slice VA n.votes.length VC, .slice NA n.next.length NC, .slice MA n.mtch.length MC⟩ rfl ⟨HB4.out.ok.log, HB4.out.ok.votes, HB4.out.ok.next, HB4.out.ok.mtch⟩, (Below.heap_setCell w4 ⟨B, 5, none⟩ _ (B + 1) (by simp)).trans HM4.out⟩
              · go_wp2_with fail
                go_meet
                rw [HTY.out]
                have e : min n.commit (kp : Int) = n.commit := by omega
                simp only [e]
                exact ⟨_, HB4.out, HM4.out⟩
          · have hne : taken idx m.items n.log n.commit = (n.log, n.commit) := by rw [HTJ.out, if_neg h1]
            have HNE := Lib.hid hne
            clear hne
            go_wp2_with fail
            go_meet
            rw [HNE.out]
            exact ⟨_, HBB.out, HMB2.out⟩
        case rest =>
          obtain ⟨lv', hb, hmb⟩ := hcut
          obtain ⟨LA1, LC1, VA1, VC1, NA1, NC1, MA1, MC1, e1, e2, e3, e4⟩ := hb.ok.shape
          rw [e1, e2, e3, e4] at hb
          clear e1 e2 e3 e4
          have HBZ := Lib.hid hb; have HMZ := Lib.hid hmb
          clear hb hmb d0 d1 d2 d3 d4 d5 d6 d7 d8 df b0 b1 b2 b3 b4 b5 b6 b7 b8 b9 b10 bf HBB HMB2
          have HYC := Lib.hid (show ({ n with log := (taken idx m.items n.log n.commit).1, commit := (taken idx m.items n.log n.commit).2 } : Nod).commit = (taken idx m.items n.log n.commit).2 from rfl)
          have hix2 : 0 ≤ (idx : Int) := by omega
          have hws : IntKind.i64.wrap ((idx : Int) + (m.items.length : Int)) = (idx : Int) + (m.items.length : Int) := IntWalk.i64_in _ (by omega)
          have FINS := Lib.hid (show ∀ (c : Int), c = max (taken idx m.items n.log n.commit).2 (min m.commit ((idx : Int) + m.items.length)) → ({ ({ n with log := (taken idx m.items n.log n.commit).1, commit := (taken idx m.items n.log n.commit).2 } : Nod) with commit := c } : Nod) = { n with log := (taken idx m.items n.log n.commit).1, commit := max (taken idx m.items n.log n.commit).2 (min m.commit (m.index + m.items.length)) } from fun c hc => by rw [hc, HIX.out])
          obtain ⟨tk, htk⟩ : ∃ tk, taken idx m.items n.log n.commit = tk := ⟨_, rfl⟩
          obtain ⟨y, hy⟩ : ∃ y, ({ n with log := (taken idx m.items n.log n.commit).1, commit := (taken idx m.items n.log n.commit).2 } : Nod) = y := ⟨_, rfl⟩
          rw [hy] at HBZ HYC
          have FINT := Lib.hid (show ∀ (c : Int), c = max y.commit (min m.commit ((idx : Int) + m.items.length)) → ({ y with commit := c } : Nod) = { n with log := (taken idx m.items n.log n.commit).1, commit := max (taken idx m.items n.log n.commit).2 (min m.commit (m.index + m.items.length)) } from fun c hc => by rw [← FINS.out c (by rw [hc, HYC.out]), ← hy])
          clear hy htk FINS HYC HTJ
          obtain ⟨b0, b1, b2, b3, b4, b5, b6, b7, b8, b9, b10, bf⟩ := cells11 HBZ.out.blk
          obtain ⟨d0, d1, d2, d3, d4, d5, d6, d7, d8, df⟩ := cells9l HMZ.out
          simp only at b0 b1 b2 b3 b4 b5 b6 b7 b8 b9 b10
          rw [HIX.out] at d4
          by_cases hA : m.commit < (idx : Int) + (m.items.length : Int)
          · by_cases hC : y.commit < m.commit
            · (
              have hb5 := HBZ.out.set 5 (.int .i64 m.commit) ⟨{ y with commit := m.commit }, .slice LA1 y.log.length LC1, .slice VA1 y.votes.length VC1, .slice NA1 y.next.length NC1, .slice MA1 y.mtch.length MC1⟩ rfl ⟨HBZ.out.ok.log, HBZ.out.ok.votes, HBZ.out.ok.next, HBZ.out.ok.mtch⟩
              go_upto_region 15 with fail
              obtain ⟨w7, hw7⟩ : ∃ w7, wc.setCell ⟨B, 5, none⟩ (.int .i64 m.commit) = w7 := ⟨_, rfl⟩
              rw [hw7] at hb5 ⊢
              clear hw7 b0 b1 b2 b3 b4 b5 b6 b7 b8 b9 b10 bf d0 d1 d2 d3 d4 d5 d6 d7 d8 df
              obtain ⟨b0, b1, b2, b3, b4, b5, b6, b7, b8, b9, b10, bf⟩ := cells11 hb5.blk
              obtain ⟨r0, r1, r2, r3, r4, r5, r6, r7, r8, r9, r10, rf⟩ := cells11 hb5.res
              simp only at b0 b1 b2 b3 b4 b5 b6 b7 b8 b9 b10
              obtain ⟨wr2, hwr, hrb, hrk⟩ := put11l (v0 := .int .i64 y.id) (v1 := .int .i64 y.n) (v2 := .int .i64 y.term) (v3 := .int .i64 y.vote) (v4 := .slice LA1 y.log.length LC1) (v5 := .int .i64 m.commit) (v6 := .int .i64 y.role) (v7 := .int .i64 y.boss) (v8 := .slice VA1 y.votes.length VC1) (v9 := .slice NA1 y.next.length NC1) (v10 := .slice MA1 y.mtch.length MC1) hb5.res rfl
              have FIN := Lib.hid (hb5.done hrk)
              clear hb5 hrk
              go_wp2_with fail
              obtain ⟨q0, q1, q2, q3, q4, q5, q6, q7, q8, q9, q10, qf⟩ := cells11 hrb
              refine bodyPost_ret (v := .agg #[.int .i64 y.id, .int .i64 y.n, .int .i64 y.term, .int .i64 y.vote, .slice LA1 y.log.length LC1, .int .i64 m.commit, .int .i64 y.role, .int .i64 y.boss, .slice VA1 y.votes.length VC1, .slice NA1 y.next.length NC1, .slice MA1 y.mtch.length MC1]) (by simp [results, Try.results77, go_sem, q0, q1, q2, q3, q4, q5, q6, q7, q8, q9, q10]) rfl ?_
              exact ⟨⟨{ y with commit := m.commit }, .slice LA1 y.log.length LC1, .slice VA1 y.votes.length VC1, .slice NA1 y.next.length NC1, .slice MA1 y.mtch.length MC1⟩, rfl, FINT.out _ (by omega), FIN.out.1, FIN.out.2⟩)
            · (
              obtain ⟨r0, r1, r2, r3, r4, r5, r6, r7, r8, r9, r10, rf⟩ := cells11 HBZ.out.res
              obtain ⟨wr2, hwr, hrb, hrk⟩ := put11l (v0 := .int .i64 y.id) (v1 := .int .i64 y.n) (v2 := .int .i64 y.term) (v3 := .int .i64 y.vote) (v4 := .slice LA1 y.log.length LC1) (v5 := .int .i64 y.commit) (v6 := .int .i64 y.role) (v7 := .int .i64 y.boss) (v8 := .slice VA1 y.votes.length VC1) (v9 := .slice NA1 y.next.length NC1) (v10 := .slice MA1 y.mtch.length MC1) HBZ.out.res rfl
              have FIN := Lib.hid (HBZ.out.done hrk)
              clear hrk
              go_wp2_with fail
              obtain ⟨q0, q1, q2, q3, q4, q5, q6, q7, q8, q9, q10, qf⟩ := cells11 hrb
              refine bodyPost_ret (v := .agg #[.int .i64 y.id, .int .i64 y.n, .int .i64 y.term, .int .i64 y.vote, .slice LA1 y.log.length LC1, .int .i64 y.commit, .int .i64 y.role, .int .i64 y.boss, .slice VA1 y.votes.length VC1, .slice NA1 y.next.length NC1, .slice MA1 y.mtch.length MC1]) (by simp [results, Try.results77, go_sem, q0, q1, q2, q3, q4, q5, q6, q7, q8, q9, q10]) rfl ?_
              exact ⟨⟨y, .slice LA1 y.log.length LC1, .slice VA1 y.votes.length VC1, .slice NA1 y.next.length NC1, .slice MA1 y.mtch.length MC1⟩, rfl, (show y = { y with commit := y.commit } from rfl).trans (FINT.out y.commit (by omega)), FIN.out.1, FIN.out.2⟩)
          · by_cases hC : y.commit < (idx : Int) + (m.items.length : Int)
            · (
              have hb5 := HBZ.out.set 5 (.int .i64 ((idx : Int) + (m.items.length : Int))) ⟨{ y with commit := ((idx : Int) + (m.items.length : Int)) }, .slice LA1 y.log.length LC1, .slice VA1 y.votes.length VC1, .slice NA1 y.next.length NC1, .slice MA1 y.mtch.length MC1⟩ rfl ⟨HBZ.out.ok.log, HBZ.out.ok.votes, HBZ.out.ok.next, HBZ.out.ok.mtch⟩
              go_upto_region 15 with fail
              obtain ⟨w7, hw7⟩ : ∃ w7, wc.setCell ⟨B, 5, none⟩ (.int .i64 ((idx : Int) + (m.items.length : Int))) = w7 := ⟨_, rfl⟩
              rw [hw7] at hb5 ⊢
              clear hw7 b0 b1 b2 b3 b4 b5 b6 b7 b8 b9 b10 bf d0 d1 d2 d3 d4 d5 d6 d7 d8 df
              obtain ⟨b0, b1, b2, b3, b4, b5, b6, b7, b8, b9, b10, bf⟩ := cells11 hb5.blk
              obtain ⟨r0, r1, r2, r3, r4, r5, r6, r7, r8, r9, r10, rf⟩ := cells11 hb5.res
              simp only at b0 b1 b2 b3 b4 b5 b6 b7 b8 b9 b10
              obtain ⟨wr2, hwr, hrb, hrk⟩ := put11l (v0 := .int .i64 y.id) (v1 := .int .i64 y.n) (v2 := .int .i64 y.term) (v3 := .int .i64 y.vote) (v4 := .slice LA1 y.log.length LC1) (v5 := .int .i64 ((idx : Int) + (m.items.length : Int))) (v6 := .int .i64 y.role) (v7 := .int .i64 y.boss) (v8 := .slice VA1 y.votes.length VC1) (v9 := .slice NA1 y.next.length NC1) (v10 := .slice MA1 y.mtch.length MC1) hb5.res rfl
              have FIN := Lib.hid (hb5.done hrk)
              clear hb5 hrk
              go_wp2_with fail
              obtain ⟨q0, q1, q2, q3, q4, q5, q6, q7, q8, q9, q10, qf⟩ := cells11 hrb
              refine bodyPost_ret (v := .agg #[.int .i64 y.id, .int .i64 y.n, .int .i64 y.term, .int .i64 y.vote, .slice LA1 y.log.length LC1, .int .i64 ((idx : Int) + (m.items.length : Int)), .int .i64 y.role, .int .i64 y.boss, .slice VA1 y.votes.length VC1, .slice NA1 y.next.length NC1, .slice MA1 y.mtch.length MC1]) (by simp [results, Try.results77, go_sem, q0, q1, q2, q3, q4, q5, q6, q7, q8, q9, q10]) rfl ?_
              exact ⟨⟨{ y with commit := ((idx : Int) + (m.items.length : Int)) }, .slice LA1 y.log.length LC1, .slice VA1 y.votes.length VC1, .slice NA1 y.next.length NC1, .slice MA1 y.mtch.length MC1⟩, rfl, FINT.out _ (by omega), FIN.out.1, FIN.out.2⟩)
            · (
              obtain ⟨r0, r1, r2, r3, r4, r5, r6, r7, r8, r9, r10, rf⟩ := cells11 HBZ.out.res
              obtain ⟨wr2, hwr, hrb, hrk⟩ := put11l (v0 := .int .i64 y.id) (v1 := .int .i64 y.n) (v2 := .int .i64 y.term) (v3 := .int .i64 y.vote) (v4 := .slice LA1 y.log.length LC1) (v5 := .int .i64 y.commit) (v6 := .int .i64 y.role) (v7 := .int .i64 y.boss) (v8 := .slice VA1 y.votes.length VC1) (v9 := .slice NA1 y.next.length NC1) (v10 := .slice MA1 y.mtch.length MC1) HBZ.out.res rfl
              have FIN := Lib.hid (HBZ.out.done hrk)
              clear hrk
              go_wp2_with fail
              obtain ⟨q0, q1, q2, q3, q4, q5, q6, q7, q8, q9, q10, qf⟩ := cells11 hrb
              refine bodyPost_ret (v := .agg #[.int .i64 y.id, .int .i64 y.n, .int .i64 y.term, .int .i64 y.vote, .slice LA1 y.log.length LC1, .int .i64 y.commit, .int .i64 y.role, .int .i64 y.boss, .slice VA1 y.votes.length VC1, .slice NA1 y.next.length NC1, .slice MA1 y.mtch.length MC1]) (by simp [results, Try.results77, go_sem, q0, q1, q2, q3, q4, q5, q6, q7, q8, q9, q10]) rfl ?_
              exact ⟨⟨y, .slice LA1 y.log.length LC1, .slice VA1 y.votes.length VC1, .slice NA1 y.next.length NC1, .slice MA1 y.mtch.length MC1⟩, rfl, (show y = { y with commit := y.commit } from rfl).trans (FINT.out y.commit (by omega)), FIN.out.1, FIN.out.2⟩)
end Go.Proofs.Ytibjbpakbfodaaa
