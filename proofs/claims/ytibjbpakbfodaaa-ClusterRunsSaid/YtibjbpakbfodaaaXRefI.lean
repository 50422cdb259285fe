/- The document's answer, chapter 15: Timeout. -/
import Derived.Test.YtibjbpakbfodaaaXRefH
namespace Go.Proofs.Ytibjbpakbfodaaa
open Go.RowKit

theorem Boxed.putN {w wx wy : World} {Q : Nat → Prop} {B r : Nat} {x y : NodV} (h : Boxed w Q B r x wx) (hk : Keeps (fun k => k = B) wx wy) (hb : wy.heap[B]? = some (.cells (nodCells y).toArray 25 (0, 0)))
    (hy : NodeOk wy (fun k => Q k ∨ (B ≤ k ∧ k ≤ r)) y) : Boxed w Q B r y wy :=
  ⟨h.keeps.trans hk (fun k e => .inr (by rw [e]; exact h.le)), h.le, h.lt, h.old, hb, (hk.block r h.rlt (fun e => by have := h.lt; omega)).trans h.res, hy⟩

theorem no_items (w : World) (S : Nat → Prop) : Sl w S (.slice none 0 0) 2 [] := ⟨none, 0, 0, rfl, rfl, Nat.le_refl _, by simp [maxLen], fun h => by simp at h⟩

set_option maxRecDepth 100000 in
set_option maxHeartbeats 8000000 in
theorem timeoutR_any {w : World} {Q : Nat → Prop} {x : NodV} (h : NodeOk w Q x) (hQ : ∀ k, Q k → k < w.heap.size) (hs : Sized x.n) :
    Calls Try.prog 21 #[.agg (nodCells x).toArray] w (HandsR w Q (timeout x.n).1 (timeout x.n).2) := by
  have H := Lib.hid h; have HQ := Lib.hid hQ; have HSZ := Lib.hid hs
  have hwr : ∀ w1, Keeps Free w w1 → Calls Try.prog 19 #[.agg (nodCells x).toArray] w1 fun e w' => e = .returned (.int .i64 (wrong x.n)) ∧ Keeps Free w1 w' := fun w1 hk => wrongR_any (h.into hk (fun _ _ h => h.elim) (fun _ _ h => h.elim)) hs.log hs.votes hs.next hs.mtch
  have HWR := Lib.hid hwr
  have hsl := hs.log
  obtain ⟨n, lv, vv, nv, mv⟩ := x
  simp only at hsl HSZ
  obtain ⟨LA, LC, VA, VC, NA, NC, MA, MC, rfl, rfl, rfl, rfl⟩ := h.shape
  clear h hQ hs hwr
  simp only [nodCells] at HWR ⊢
  go_enter Try.func21, Try.ntmps21
  go_upto_region 1 with fail
  obtain ⟨k0, k1, k2⟩ := two_boxes w (.cells #[.int .i64 n.id, .int .i64 n.n, .int .i64 n.term, .int .i64 n.vote, .slice LA n.log.length LC, .int .i64 n.commit, .int .i64 n.role, .int .i64 n.boss, .slice VA n.votes.length VC, .slice NA n.next.length NC, .slice MA n.mtch.length MC] 25) (.cells zero11 25)
  obtain ⟨w2, hw2⟩ : ∃ w2, (w.alloc (.cells #[.int .i64 n.id, .int .i64 n.n, .int .i64 n.term, .int .i64 n.vote, .slice LA n.log.length LC, .int .i64 n.commit, .int .i64 n.role, .int .i64 n.boss, .slice VA n.votes.length VC, .slice NA n.next.length NC, .slice MA n.mtch.length MC] 25)).alloc (.cells zero11 25) = w2 := ⟨_, rfl⟩
  rw [hw2] at k0 k1 k2 ⊢
  have HBX := Lib.hid (show Boxed w Q w.heap.size (w.heap.size + 1) _ _ from Boxed.start H.out HQ.out k0 (Nat.lt_succ_self _) k1 k2)
  have hlt := laid_lt k2
  obtain ⟨b0, b1, b2, b3, b4, b5, b6, b7, b8, b9, b10, bf⟩ := cells11 k1
  obtain ⟨r0, r1, r2, r3, r4, r5, r6, r7, r8, r9, r10, rf⟩ := cells11 k2
  obtain ⟨B, hB⟩ : ∃ B, w.heap.size = B := ⟨_, rfl⟩
  rw [hB] at HBX hlt b0 b1 b2 b3 b4 b5 b6 b7 b8 b9 b10 bf r0 r1 r2 r3 r4 r5 r6 r7 r8 r9 r10 rf ⊢
  clear k0 k1 k2 hw2
  cases hq1 : (wrong n != 0)
  case true =>
    have HE := Lib.hid (show timeout n = (n, []) by unfold timeout; rw [if_pos (.inl (by simpa using hq1))])
    go_wp2_with (first
              | (go_at_call 19
                 refine (HWR.out _ HBX.out.keeps).mono ?_
                 rintro e w3 ⟨rfl, hk3⟩
                 have hb3 := HBX.out.later hk3
                 clear b0 b1 b2 b3 b4 b5 b6 b7 b8 b9 b10 bf
                 clear r0 r1 r2 r3 r4 r5 r6 r7 r8 r9 r10 rf
                 obtain ⟨b0, b1, b2, b3, b4, b5, b6, b7, b8, b9, b10, bf⟩ := cells11 hb3.blk
                 obtain ⟨r0, r1, r2, r3, r4, r5, r6, r7, r8, r9, r10, rf⟩ := cells11 hb3.res
                 simp only at b0 b1 b2 b3 b4 b5 b6 b7 b8 b9 b10
                 have HB3 := Lib.hid hb3
                 clear hk3 hb3
                 obtain ⟨wf, hwf, hfb, hfk⟩ := put11l (v0 := .int .i64 n.id) (v1 := .int .i64 n.n) (v2 := .int .i64 n.term) (v3 := .int .i64 n.vote) (v4 := .slice LA n.log.length LC) (v5 := .int .i64 n.commit) (v6 := .int .i64 n.role) (v7 := .int .i64 n.boss) (v8 := .slice VA n.votes.length VC) (v9 := .slice NA n.next.length NC) (v10 := .slice MA n.mtch.length MC) HB3.out.res rfl))
    obtain ⟨q0, q1, q2, q3, q4, q5, q6, q7, q8, q9, q10, qf⟩ := cells11 hfb
    have FIN := Lib.hid (HB3.out.quiet hfk)
    clear hfb hfk
    refine bodyPost_ret (v := .tuple #[.agg #[.int .i64 n.id, .int .i64 n.n, .int .i64 n.term, .int .i64 n.vote, .slice LA n.log.length LC, .int .i64 n.commit, .int .i64 n.role, .int .i64 n.boss, .slice VA n.votes.length VC, .slice NA n.next.length NC, .slice MA n.mtch.length MC], .slice none 0 0]) (by simp [results, Try.results21, go_sem, q0, q1, q2, q3, q4, q5, q6, q7, q8, q9, q10]) rfl ?_
    rw [HE.out]
    exact FIN.out
  cases hq2 : (n.role == 3)
  case true =>
    have HE := Lib.hid (show timeout n = (n, []) by unfold timeout; rw [if_pos (.inr (.inl (by simpa using hq2)))])
    go_wp2_with (first
              | (go_at_call 19
                 refine (HWR.out _ HBX.out.keeps).mono ?_
                 rintro e w3 ⟨rfl, hk3⟩
                 have hb3 := HBX.out.later hk3
                 clear b0 b1 b2 b3 b4 b5 b6 b7 b8 b9 b10 bf
                 clear r0 r1 r2 r3 r4 r5 r6 r7 r8 r9 r10 rf
                 obtain ⟨b0, b1, b2, b3, b4, b5, b6, b7, b8, b9, b10, bf⟩ := cells11 hb3.blk
                 obtain ⟨r0, r1, r2, r3, r4, r5, r6, r7, r8, r9, r10, rf⟩ := cells11 hb3.res
                 simp only at b0 b1 b2 b3 b4 b5 b6 b7 b8 b9 b10
                 have HB3 := Lib.hid hb3
                 clear hk3 hb3
                 obtain ⟨wf, hwf, hfb, hfk⟩ := put11l (v0 := .int .i64 n.id) (v1 := .int .i64 n.n) (v2 := .int .i64 n.term) (v3 := .int .i64 n.vote) (v4 := .slice LA n.log.length LC) (v5 := .int .i64 n.commit) (v6 := .int .i64 n.role) (v7 := .int .i64 n.boss) (v8 := .slice VA n.votes.length VC) (v9 := .slice NA n.next.length NC) (v10 := .slice MA n.mtch.length MC) HB3.out.res rfl))
    obtain ⟨q0, q1, q2, q3, q4, q5, q6, q7, q8, q9, q10, qf⟩ := cells11 hfb
    have FIN := Lib.hid (HB3.out.quiet hfk)
    clear hfb hfk
    refine bodyPost_ret (v := .tuple #[.agg #[.int .i64 n.id, .int .i64 n.n, .int .i64 n.term, .int .i64 n.vote, .slice LA n.log.length LC, .int .i64 n.commit, .int .i64 n.role, .int .i64 n.boss, .slice VA n.votes.length VC, .slice NA n.next.length NC, .slice MA n.mtch.length MC], .slice none 0 0]) (by simp [results, Try.results21, go_sem, q0, q1, q2, q3, q4, q5, q6, q7, q8, q9, q10]) rfl ?_
    rw [HE.out]
    exact FIN.out
  cases hq3 : (n.term == 1000000)
  case true =>
    have HE := Lib.hid (show timeout n = (n, []) by unfold timeout; rw [if_pos (.inr (.inr (by simpa using hq3)))])
    go_wp2_with (first
              | (go_at_call 19
                 refine (HWR.out _ HBX.out.keeps).mono ?_
                 rintro e w3 ⟨rfl, hk3⟩
                 have hb3 := HBX.out.later hk3
                 clear b0 b1 b2 b3 b4 b5 b6 b7 b8 b9 b10 bf
                 clear r0 r1 r2 r3 r4 r5 r6 r7 r8 r9 r10 rf
                 obtain ⟨b0, b1, b2, b3, b4, b5, b6, b7, b8, b9, b10, bf⟩ := cells11 hb3.blk
                 obtain ⟨r0, r1, r2, r3, r4, r5, r6, r7, r8, r9, r10, rf⟩ := cells11 hb3.res
                 simp only at b0 b1 b2 b3 b4 b5 b6 b7 b8 b9 b10
                 have HB3 := Lib.hid hb3
                 clear hk3 hb3
                 obtain ⟨wf, hwf, hfb, hfk⟩ := put11l (v0 := .int .i64 n.id) (v1 := .int .i64 n.n) (v2 := .int .i64 n.term) (v3 := .int .i64 n.vote) (v4 := .slice LA n.log.length LC) (v5 := .int .i64 n.commit) (v6 := .int .i64 n.role) (v7 := .int .i64 n.boss) (v8 := .slice VA n.votes.length VC) (v9 := .slice NA n.next.length NC) (v10 := .slice MA n.mtch.length MC) HB3.out.res rfl))
    obtain ⟨q0, q1, q2, q3, q4, q5, q6, q7, q8, q9, q10, qf⟩ := cells11 hfb
    have FIN := Lib.hid (HB3.out.quiet hfk)
    clear hfb hfk
    refine bodyPost_ret (v := .tuple #[.agg #[.int .i64 n.id, .int .i64 n.n, .int .i64 n.term, .int .i64 n.vote, .slice LA n.log.length LC, .int .i64 n.commit, .int .i64 n.role, .int .i64 n.boss, .slice VA n.votes.length VC, .slice NA n.next.length NC, .slice MA n.mtch.length MC], .slice none 0 0]) (by simp [results, Try.results21, go_sem, q0, q1, q2, q3, q4, q5, q6, q7, q8, q9, q10]) rfl ?_
    rw [HE.out]
    exact FIN.out
  have hw0 : wrong n = 0 := by simpa using hq1
  have hr3 : n.role ≠ 3 := by simpa using hq2
  have ht3 : n.term ≠ 1000000 := by simpa using hq3
  have HE := Lib.hid (show timeout n = (lead (stood n), (others (stood n)).map (asks (stood n)) ++ leadSays (stood n)) by unfold timeout; rw [if_neg (by omega)])
  have hgd := good_of_wrong hw0
  have HGS := Lib.hid (stood_good hgd hr3 ht3)
  have hn1 := hgd.n1; have hn5 := hgd.n5; have hl6 := hgd.log60; have ht0 := hgd.term0; have ht6 := hgd.termn
  clear hw0 hr3 hgd
  go_upto_region 3 with (first
          | (go_at_call 19
             refine (HWR.out _ HBX.out.keeps).mono ?_
             rintro e w3 ⟨rfl, hk3⟩
             have hb3 := HBX.out.later hk3
             clear b0 b1 b2 b3 b4 b5 b6 b7 b8 b9 b10 bf
             clear r0 r1 r2 r3 r4 r5 r6 r7 r8 r9 r10 rf
             obtain ⟨b0, b1, b2, b3, b4, b5, b6, b7, b8, b9, b10, bf⟩ := cells11 hb3.blk
             obtain ⟨r0, r1, r2, r3, r4, r5, r6, r7, r8, r9, r10, rf⟩ := cells11 hb3.res
             simp only at b0 b1 b2 b3 b4 b5 b6 b7 b8 b9 b10
             have HB3 := Lib.hid hb3
             clear hk3 hb3))
  clear hq1 hq2 hq3 HBX HWR r0 r1 r2 r3 r4 r5 r6 r7 r8 r9 r10 rf
  go_upto_region 4 with fail
  have hb4 := HB3.out.set 2 (.int .i64 (n.term + 1)) ⟨{ n with term := n.term + 1 }, .slice LA n.log.length LC, .slice VA n.votes.length VC, .slice NA n.next.length NC, .slice MA n.mtch.length MC⟩ rfl ⟨HB3.out.ok.log, HB3.out.ok.votes, HB3.out.ok.next, HB3.out.ok.mtch⟩
  obtain ⟨w4, hw4⟩ : ∃ w4, w3.setCell ⟨B, 2, none⟩ (.int .i64 (n.term + 1)) = w4 := ⟨_, rfl⟩
  rw [hw4] at hb4 ⊢
  clear hw4 HB3 b0 b1 b2 b3 b4 b5 b6 b7 b8 b9 b10 bf
  obtain ⟨b0, b1, b2, b3, b4, b5, b6, b7, b8, b9, b10, bf⟩ := cells11 hb4.blk
  simp only at b0 b1 b2 b3 b4 b5 b6 b7 b8 b9 b10
  have HB4 := Lib.hid hb4
  have hrl := hb4.rlt
  have hbl4 := laid_lt hb4.blk
  clear hb4
  go_upto_region 5 with fail
  obtain ⟨w5, hw5⟩ : ∃ w5, (((((w4.setCell ⟨B, 6, none⟩ (.int .i64 2)).setCell ⟨B, 7, none⟩ (.int .i64 0)).setCell ⟨B, 3, none⟩ (.int .i64 n.id)).setCell ⟨B, 8, none⟩ (.slice (some ⟨w4.heap.size, 0, none⟩) 1 1)).alloc (.cells #[.int .i64 n.id] 3)) = w5 := ⟨_, rfl⟩
  obtain ⟨G, hG⟩ : ∃ G, w4.heap.size = G := ⟨_, rfl⟩
  have hk45 : Keeps (fun k => k = B) w4 w5 := by
    rw [← hw5]
    exact ((((((Keeps.refl (fun k => k = B) w4).setCell (p := ⟨B, 6, none⟩) (.inl rfl) _).setCell (p := ⟨B, 7, none⟩) (.inl rfl) _).setCell (p := ⟨B, 3, none⟩) (.inl rfl) _).setCell (p := ⟨B, 8, none⟩) (.inl rfl) _).alloc _)
  have hg5 : w5.heap[G]? = some (.cells #[.int .i64 n.id] 3 (0, 0)) := by
    have h1 := heap_alloc_new ((((w4.setCell ⟨B, 6, none⟩ (.int .i64 2)).setCell ⟨B, 7, none⟩ (.int .i64 0)).setCell ⟨B, 3, none⟩ (.int .i64 n.id)).setCell ⟨B, 8, none⟩ (.slice (some ⟨w4.heap.size, 0, none⟩) 1 1)) (.cells #[.int .i64 n.id] 3)
    rw [hw5] at h1
    simp only [setCell_size, hG] at h1
    exact h1
  have hb5 : w5.heap[B]? = some (.cells (nodCells ⟨stood n, .slice LA n.log.length LC, .slice (some ⟨G, 0, none⟩) 1 1, .slice NA n.next.length NC, .slice MA n.mtch.length MC⟩).toArray 25 (0, 0)) := by
    rw [← hw5]
    refine ((Keeps.refl Free _).alloc _).blk ?_
    rw [hG]
    exact (setCell_blk (setCell_blk (setCell_blk (setCell_blk HB4.out.blk)))).trans rfl
  rw [hw5, hG]
  have hby : Boxed w Q B (B + 1) ⟨stood n, .slice LA n.log.length LC, .slice (some ⟨G, 0, none⟩) 1 1, .slice NA n.next.length NC, .slice MA n.mtch.length MC⟩ w5 := HB4.out.putN hk45 hb5 ⟨HB4.out.ok.log.into hk45 (fun k _ e => .inr (by omega)) (fun _ _ h => h), by
      have h1 := one_slice (S := fun k => Q k ∨ (B ≤ k ∧ k ≤ B + 1)) (size := 1) hg5 rfl (fun h => by have := HB4.out.oldS G h; omega)
      exact h1, HB4.out.ok.next.into hk45 (fun k _ e => .inr (by omega)) (fun _ _ h => h), HB4.out.ok.mtch.into hk45 (fun k _ e => .inr (by omega)) (fun _ _ h => h)⟩
  have HBY := Lib.hid hby
  have hr5 := hby.rlt
  clear hk45 hg5 hb5 hw5 hby HB4 hG hrl hbl4 b0 b1 b2 b3 b4 b5 b6 b7 b8 b9 b10 bf
  obtain ⟨N, hN⟩ : ∃ N : Nat, n.n = N := ⟨n.n.toNat, by omega⟩
  have HN := Lib.hid hN
  have HOT := Lib.hid (show others (stood n) = othersTo n.id N by unfold others othersTo; rw [show (stood n).n = n.n from rfl, hN]; rfl)
  have hN5 : N ≤ 5 := by omega
  clear hN
  obtain ⟨i0, hi0, hz, hsz, hbyt⟩ := info_parts Try.info38
  have HI := Lib.hid hi0; have HZ := Lib.hid hz; have HS := Lib.hid hsz; have HBYT := Lib.hid hbyt
  clear hi0 hz hsz hbyt
  have hwt : IntKind.i64.wrap (n.log.length : Int) = (n.log.length : Int) := IntWalk.i64_in _ (by omega)
  go_wp2_with fail
  go_loopw [4, 5] (fun o i wr => ∃ (k : Nat) (out : List MesV), k ≤ N ∧ i = .int .i64 ((k : Int) + 1) ∧ Keeps Free w5 wr ∧ wr.ownsRow w5.heap.size 38 9 o out.length (out.flatMap mesCells) ∧
    said out = (othersTo n.id k).map (asks (stood n)) ∧ ∀ m ∈ out, m.iv = .slice none 0 0 ∧ m.m.items = []) (fun _ i _ => 100 - (intOf i).toNat)
  case atStart => exact ⟨0, [], by omega, by go_num, Keeps.refl _ _, World.ownsRow_nil _ _ _ _, by simp [said, othersTo], fun m h => by simp at h⟩
  case round =>
    obtain ⟨k, out, hk, rfl, hkr, ho, hso, hev⟩ := hrel
    obtain ⟨b0, b1, b2, b3, b4, b5, b6, b7, b8, b9, b10, bf⟩ := cells11 (HBY.out.later hkr).blk
    simp only [stood] at b0 b1 b2 b3 b4 b5 b6 b7 b8 b9 b10
    have hout : out.length ≤ k := by
      have := congrArg List.length hso
      simp only [said, List.length_map] at this
      rw [this]; exact othersTo_len _ _
    have hsu := othersTo_succ n.id k
    obtain ⟨OA, OC, rfl, -, -⟩ := own_slice ho
    have HKR := Lib.hid hkr; have HO := Lib.hid ho; have HSO := Lib.hid hso; have HEV := Lib.hid hev; have HSU := Lib.hid hsu
    clear hkr ho hso hev hsu
    by_cases hlt : k < N
    · have hlt' : (k : Int) + 1 ≤ n.n := by rw [HN.out]; omega
      by_cases hid : (k : Int) + 1 = n.id
      · go_wp2_with fail
        go_roundw
        case measure => simp [intOf]; omega
        case rel => exact ⟨k + 1, out, by omega, by go_num, HKR.out, HO.out, by rw [HSU.out, if_pos hid, List.append_nil]; exact HSO.out, HEV.out⟩
      · have hb : ((k : Int) + 1 != n.id) = true := by rw [bne_iff_ne]; exact hid
        go_upto_region 10 with fail
        clear b0 b1 b2 b3 b4 b5 b6 b7 b8 b9 b10 bf hb
        refine Wf.wp_region_first (C := fun w' => Keeps Free w5 w') (by kernel_rfl) 99 ?_
        have HKW := Lib.hid (show Keeps Free w5 { wr with drawn := wr.drawn + 1 } from HKR.out.drew)
        have HOW := Lib.hid (show World.ownsRow { wr with drawn := wr.drawn + 1 } w5.heap.size 38 9 _ out.length (out.flatMap mesCells) from own_later HO.out (Keeps.refl Free wr).drew)
        obtain ⟨W, hW⟩ : ∃ W : World, W = { wr with drawn := wr.drawn + 1 } := ⟨_, rfl⟩
        rw [← hW] at HKW HOW ⊢
        clear hW
        apply Wf.wpAnyP_stays (by kernel_rfl) [0, 1, 2, 3, 4, 5, 6, 7, 8, 9, 10, 11, 12, 13] _ _ _ 5 _ HKW.out (by kernel_rfl) ?hs ?hr
        case hs =>
          apply Wf.wpStays_step rfl rfl
          · intro w' hw'
            have hbw := (hw'.blk HBY.out.blk)
            obtain ⟨e0, e1, e2, e3, e4, e5, e6, e7, e8, e9, e10, ef⟩ := cells11 hbw
            clear hw' hbw
            simp only [stood] at e0 e1 e2 e3 e4 e5 e6 e7 e8 e9 e10
            go_simp
            exact ⟨rfl, rfl⟩
          go_simp
          apply Wf.wpStays_step rfl rfl
          · intro w' hw'
            have hbw := (hw'.blk HBY.out.blk)
            obtain ⟨e0, e1, e2, e3, e4, e5, e6, e7, e8, e9, e10, ef⟩ := cells11 hbw
            clear hw' hbw
            simp only [stood] at e0 e1 e2 e3 e4 e5 e6 e7 e8 e9 e10
            go_simp
            exact ⟨rfl, rfl⟩
          go_simp
          apply Wf.wpStays_step rfl rfl
          · intro w' hw'
            have hbw := (hw'.blk HBY.out.blk)
            obtain ⟨e0, e1, e2, e3, e4, e5, e6, e7, e8, e9, e10, ef⟩ := cells11 hbw
            clear hw' hbw
            simp only [stood] at e0 e1 e2 e3 e4 e5 e6 e7 e8 e9 e10
            go_simp
            exact ⟨rfl, rfl⟩
          go_simp
          apply Wf.wpStays_step rfl rfl
          · intro w' hw'
            have hbw := (hw'.blk HBY.out.blk)
            obtain ⟨e0, e1, e2, e3, e4, e5, e6, e7, e8, e9, e10, ef⟩ := cells11 hbw
            clear hw' hbw
            simp only [stood] at e0 e1 e2 e3 e4 e5 e6 e7 e8 e9 e10
            go_simp
            exact ⟨rfl, rfl⟩
          go_simp
          apply Wf.wpStays_step rfl rfl
          · intro w' hw'
            have hbw := (hw'.blk HBY.out.blk)
            obtain ⟨e0, e1, e2, e3, e4, e5, e6, e7, e8, e9, e10, ef⟩ := cells11 hbw
            clear hw' hbw
            simp only [stood] at e0 e1 e2 e3 e4 e5 e6 e7 e8 e9 e10
            go_simp
            exact ⟨rfl, rfl⟩
          go_simp
          apply Wf.wpStays_step rfl rfl
          · intro w' hw'
            have hbw := (hw'.blk HBY.out.blk)
            obtain ⟨e0, e1, e2, e3, e4, e5, e6, e7, e8, e9, e10, ef⟩ := cells11 hbw
            clear hw' hbw
            simp only [stood] at e0 e1 e2 e3 e4 e5 e6 e7 e8 e9 e10
            go_simp
            exact ⟨rfl, rfl⟩
          go_simp
          apply Wf.wpStays_step rfl rfl
          · intro w' hw'
            have hbw := (hw'.blk HBY.out.blk)
            obtain ⟨e0, e1, e2, e3, e4, e5, e6, e7, e8, e9, e10, ef⟩ := cells11 hbw
            clear hw' hbw
            simp only [stood] at e0 e1 e2 e3 e4 e5 e6 e7 e8 e9 e10
            go_simp
            exact ⟨rfl, rfl⟩
          go_simp
          apply Wf.wpStays_step rfl rfl
          · intro w' hw'
            have hbw := (hw'.blk HBY.out.blk)
            obtain ⟨e0, e1, e2, e3, e4, e5, e6, e7, e8, e9, e10, ef⟩ := cells11 hbw
            clear hw' hbw
            simp only [stood] at e0 e1 e2 e3 e4 e5 e6 e7 e8 e9 e10
            go_simp
            exact ⟨rfl, rfl⟩
          go_simp
          apply Wf.wpStays_step rfl rfl
          · intro w' hw'
            have hbw := (hw'.blk HBY.out.blk)
            obtain ⟨e0, e1, e2, e3, e4, e5, e6, e7, e8, e9, e10, ef⟩ := cells11 hbw
            clear hw' hbw
            simp only [stood] at e0 e1 e2 e3 e4 e5 e6 e7 e8 e9 e10
            go_simp
            exact ⟨rfl, rfl⟩
          go_simp
          apply Wf.wpStays_step rfl rfl
          · intro w' hw'
            have hbw := (hw'.blk HBY.out.blk)
            obtain ⟨e0, e1, e2, e3, e4, e5, e6, e7, e8, e9, e10, ef⟩ := cells11 hbw
            clear hw' hbw
            simp only [stood] at e0 e1 e2 e3 e4 e5 e6 e7 e8 e9 e10
            go_simp
            exact ⟨rfl, rfl⟩
          go_simp
          apply Wf.wpStays_step rfl rfl
          · intro w' hw'
            have hbw := (hw'.blk HBY.out.blk)
            obtain ⟨e0, e1, e2, e3, e4, e5, e6, e7, e8, e9, e10, ef⟩ := cells11 hbw
            clear hw' hbw
            simp only [stood] at e0 e1 e2 e3 e4 e5 e6 e7 e8 e9 e10
            go_simp
            exact ⟨rfl, rfl⟩
          go_simp
          apply Wf.wpStays_step rfl rfl
          · intro w' hw'
            have hbw := (hw'.blk HBY.out.blk)
            obtain ⟨e0, e1, e2, e3, e4, e5, e6, e7, e8, e9, e10, ef⟩ := cells11 hbw
            clear hw' hbw
            simp only [stood] at e0 e1 e2 e3 e4 e5 e6 e7 e8 e9 e10
            go_simp
            exact ⟨rfl, rfl⟩
          go_simp
          apply Wf.wpStays_step rfl rfl
          · intro w' hw'
            have hbw := (hw'.blk HBY.out.blk)
            obtain ⟨e0, e1, e2, e3, e4, e5, e6, e7, e8, e9, e10, ef⟩ := cells11 hbw
            clear hw' hbw
            simp only [stood] at e0 e1 e2 e3 e4 e5 e6 e7 e8 e9 e10
            go_simp
            exact ⟨rfl, rfl⟩
          go_simp
          apply Wf.wpStays_step rfl rfl
          · intro w' hw'
            have hbw := (hw'.blk HBY.out.blk)
            obtain ⟨e0, e1, e2, e3, e4, e5, e6, e7, e8, e9, e10, ef⟩ := cells11 hbw
            clear hw' hbw
            simp only [stood] at e0 e1 e2 e3 e4 e5 e6 e7 e8 e9 e10
            go_simp
            exact ⟨rfl, rfl⟩
          go_simp
          exact rfl
        case hr =>
          apply Wf.wpAnyP_one (i := 14) (fuel := 4) (by kernel_rfl) rfl rfl
          have hat := at_any (HBY.out.later HKW.out).free.log (n.log.length : Int) (by simp only [stood]; omega)
          simp only [stood] at hat
          go_simp
          refine hat.mono ?_
          rintro e W' ⟨rfl, rfl⟩
          refine ⟨_, rfl, HKW.out, ?_⟩
          clear hat
          go_simp
          apply Wf.wpAnyP_stays (by kernel_rfl) [15] _ _ _ 3 _ HKW.out (by kernel_rfl) ?hs ?hr
          case hs =>
            apply Wf.wpStays_step rfl rfl
            · intro w' hw'
              clear hw'
              go_simp
              exact ⟨rfl, rfl⟩
            go_simp
            exact rfl
          case hr =>
            apply Wf.wpAnyP_one (i := 16) (fuel := 2) (by kernel_rfl) rfl rfl
            go_simp
            refine ⟨HKW.out.alloc _, ?_⟩
            have HKA := Lib.hid (HKW.out.alloc (.cells #[.int .i64 1, .int .i64 n.id, .int .i64 ((k : Int) + 1), .int .i64 (n.term + 1), .int .i64 (n.log.length : Int), .int .i64 (termAt n.log (n.log.length : Int)), .int .i64 0, .slice none 0 0, .bool false] 38))
            have HOA := Lib.hid (HOW.out.alloc (.cells #[.int .i64 1, .int .i64 n.id, .int .i64 ((k : Int) + 1), .int .i64 (n.term + 1), .int .i64 (n.log.length : Int), .int .i64 (termAt n.log (n.log.length : Int)), .int .i64 0, .slice none 0 0, .bool false] 38))
            have HG8 := Lib.hid (heap_alloc_new W' (.cells #[.int .i64 1, .int .i64 n.id, .int .i64 ((k : Int) + 1), .int .i64 (n.term + 1), .int .i64 (n.log.length : Int), .int .i64 (termAt n.log (n.log.length : Int)), .int .i64 0, .slice none 0 0, .bool false] 38))
            apply Wf.wpAnyP_one (i := 17) (fuel := 1) (by kernel_rfl) rfl rfl
            obtain ⟨v', W2, hrun, hown, hkk, hat⟩ := app_row (ty := 28) Try.underlying28 HI.out HZ.out HS.out HBYT.out rfl (by decide) (by decide) HKA.out.size HOA.out (one_slice (S := Free) (size := 9) HG8.out rfl (fun h => h)) (by simp [Value.oneCell']) (by omega)
            have HK2 := Lib.hid (HKA.out.trans hkk fun k hk => .inr (HOA.out.lt k hk).1)
            have HV2 := Lib.hid hown
            refine plainf_append rfl rfl rfl hrun ⟨.inr HK2.out, ?_⟩
            clear hrun hown hkk hat
            go_simp
            apply Wf.wpAnyP_one (i := 18) (fuel := 0) (by kernel_rfl) rfl rfl
            go_simp
            refine ⟨HK2.out, ?_⟩
            refine ⟨by kernel_rfl, ?_⟩
            have hcell : out.flatMap mesCells ++ [.int .i64 1, .int .i64 n.id, .int .i64 ((k : Int) + 1), .int .i64 (n.term + 1), .int .i64 (n.log.length : Int), .int .i64 (termAt n.log (n.log.length : Int)), .int .i64 0, .slice none 0 0, .bool false] = (out ++ [(⟨asks (stood n) ((k : Int) + 1), .slice none 0 0⟩ : MesV)]).flatMap mesCells := by simp [mesCells, asks, stood]
            have hv2 := HV2.out
            simp only at hv2
            rw [hcell] at hv2
            have hs1 := said_snoc out ⟨asks (stood n) ((k : Int) + 1), .slice none 0 0⟩
            rw [HSO.out] at hs1
            have HV3 := Lib.hid hv2
            clear hv2 hcell HV2 HOA HKA HG8 HOW
            go_wp2_with fail
            go_roundw
            case measure => simp [intOf]; omega
            case rel => exact ⟨k + 1, out ++ [⟨asks (stood n) ((k : Int) + 1), .slice none 0 0⟩], by omega, by go_num, HK2.out, by rw [List.length_append]; exact HV3.out, by rw [HSU.out, if_neg hid, List.map_append]; exact hs1, fun m hm => (List.mem_append.1 hm).elim (HEV.out m) fun h => by simp only [List.mem_singleton] at h; subst h; exact ⟨rfl, rfl⟩⟩
    · obtain rfl : k = N := by omega
      have hlt' : ¬ (k : Int) + 1 ≤ n.n := by rw [HN.out]; omega
      have hbr := HBY.out.later HKR.out
      have hin := HBY.out.ok.into (S' := fun k => (Q k ∨ (B ≤ k ∧ k ≤ B + 1)) ∨ (Value.slice OA out.length OC).ownBlock = some k) HKR.out (fun _ _ h => h.elim) (fun k hk h => h.elim id fun h => by have := (HO.out.lt k h).1; omega)
      have hel := electR_any hin (fun k h => h.elim (hbr.oldS k) fun h => own_lt HO.out h) HGS.out (by show n.term + 1 ≠ 0; omega)
      have HBR := Lib.hid hbr
      have hrl := hbr.rlt
      clear hbr
      simp only [nodCells, stood] at hel
      have HEL := Lib.hid (show Calls Try.prog 63 #[.agg #[.int .i64 n.id, .int .i64 n.n, .int .i64 (n.term + 1), .int .i64 n.id, .slice LA n.log.length LC, .int .i64 n.commit, .int .i64 2, .int .i64 0, .slice (some ⟨G, 0, none⟩) 1 1, .slice NA n.next.length NC, .slice MA n.mtch.length MC]] wr (HandsR wr (fun k => (Q k ∨ (B ≤ k ∧ k ≤ B + 1)) ∨ (Value.slice OA out.length OC).ownBlock = some k) (lead (stood n)) (leadSays (stood n))) from hel)
      clear hel hin
      obtain ⟨y, hy⟩ : ∃ y, lead (stood n) = y := ⟨_, rfl⟩
      obtain ⟨ys, hys⟩ : ∃ ys, leadSays (stood n) = ys := ⟨_, rfl⟩
      have hyl : ys.length ≤ 10 := by
        rw [← hys]
        unfold leadSays
        split
        · unfold putSays
          rw [List.length_map]
          unfold others
          refine Nat.le_trans (List.length_filter_le _ _) ?_
          rw [List.length_map, List.length_range, (put_fields (crowned (stood n)) 0).2.1]
          show n.n.toNat ≤ 10
          omega
        · simp
      rw [hy, hys] at HEL
      have HYY := Lib.hid hy; have HYS := Lib.hid hys
      clear hy hys
      go_upto_region 12 with (first
        | (go_at_call 63
           refine HEL.out.mono ?_
           rintro e w9 ⟨⟨x3, lv3, vv3, nv3, mv3⟩, ov, out3, rfl, hx3, hso3, hok3, hms, hk9⟩
           obtain ⟨LA3, LC3, VA3, VC3, NA3, NC3, MA3, MC3, e1, e2, e3, e4⟩ := hok3.shape
           obtain ⟨OA3, OC3, e5⟩ := hms.cells.form9
           simp only at e1 e2 e3 e4 hx3
           subst e1 e2 e3 e4 e5
           have HX3 := Lib.hid hx3; have HSO3 := Lib.hid hso3; have HMS := Lib.hid hms; have HOK3 := Lib.hid hok3
           simp only [nodCells]
           clear b0 b1 b2 b3 b4 b5 b6 b7 b8 b9 b10 bf
           have hb9 := HBR.out.later hk9
           obtain ⟨wf, hwf, hfb, hfk⟩ := put11l (v0 := .int .i64 x3.id) (v1 := .int .i64 x3.n) (v2 := .int .i64 x3.term) (v3 := .int .i64 x3.vote) (v4 := .slice LA3 x3.log.length LC3) (v5 := .int .i64 x3.commit) (v6 := .int .i64 x3.role) (v7 := .int .i64 x3.boss) (v8 := .slice VA3 x3.votes.length VC3) (v9 := .slice NA3 x3.next.length NC3) (v10 := .slice MA3 x3.mtch.length MC3) hb9.blk rfl
           obtain ⟨b0, b1, b2, b3, b4, b5, b6, b7, b8, b9, b10, bf⟩ := cells11 hb9.blk
           simp only [stood] at b0 b1 b2 b3 b4 b5 b6 b7 b8 b9 b10
           have HB10 := Lib.hid (hb9.put (y := ⟨x3, .slice LA3 x3.log.length LC3, .slice VA3 x3.votes.length VC3, .slice NA3 x3.next.length NC3, .slice MA3 x3.mtch.length MC3⟩) hfk hfb (hok3.weak fun _ _ h => .inl h))
           have HK10 := Lib.hid hfk
           have HKF9 := Lib.hid ((HKR.out.trans hk9 (fun _ h => .inl h)).mono (S' := fun k => k = B) (fun _ h => h.elim))
           have HO10 := Lib.hid (own_keep (w' := wf) (own_later HO.out hk9) (fun g hg => hfk.block g (own_lt (own_later HO.out hk9) hg) (fun e => by have := (HO.out.lt g hg).1; omega)))
           clear hx3 hso3 hms hok3 hfk hb9 hk9))
      first | rw [hwf] | skip
      have hol3 : out3.length ≤ 10 := by
        have h1 := congrArg List.length HSO3.out
        simp only [said, List.length_map] at h1
        omega
      clear HEL b0 b1 b2 b3 b4 b5 b6 b7 b8 b9 b10 bf hfb hwf
      refine Wf.wp_region_first (C := fun w' => Keeps (fun k => k = B + 1 ∨ w5.heap.size ≤ k) wf w') (by kernel_rfl) 99 ?_
      have HKF := Lib.hid (show Keeps Free wf { wf with drawn := wf.drawn + 1 } from (Keeps.refl Free wf).drew)
      obtain ⟨W, hW⟩ : ∃ W : World, W = { wf with drawn := wf.drawn + 1 } := ⟨_, rfl⟩
      rw [← hW] at HKF ⊢
      clear hW
      have HKW := Lib.hid (HKF.out.mono (S' := fun k => k = B + 1 ∨ w5.heap.size ≤ k) (fun _ h => h.elim))
      have hr5' : B < w5.heap.size := by omega
      apply Wf.wpAnyP_stays (by kernel_rfl) [0, 1, 2] _ _ _ 3 _ HKW.out (by kernel_rfl) ?hs ?hr
      case hs =>
        apply Wf.wpStays_step rfl rfl
        · intro w' hw'
          have hbw := (hw'.block B (laid_lt HB10.out.blk) (by omega)).trans HB10.out.blk
          obtain ⟨e0, e1, e2, e3, e4, e5, e6, e7, e8, e9, e10, ef⟩ := cells11 hbw
          clear hw' hbw
          simp only at e0 e1 e2 e3 e4 e5 e6 e7 e8 e9 e10
          go_simp
          exact ⟨rfl, rfl⟩
        go_simp
        apply Wf.wpStays_step rfl rfl
        · intro w' hw'
          have hbw := (hw'.block B (laid_lt HB10.out.blk) (by omega)).trans HB10.out.blk
          obtain ⟨e0, e1, e2, e3, e4, e5, e6, e7, e8, e9, e10, ef⟩ := cells11 hbw
          clear hw' hbw
          simp only at e0 e1 e2 e3 e4 e5 e6 e7 e8 e9 e10
          go_simp
          exact ⟨rfl, rfl⟩
        go_simp
        apply Wf.wpStays_step rfl rfl
        · intro w' hw'
          have hbw := (hw'.block B (laid_lt HB10.out.blk) (by omega)).trans HB10.out.blk
          obtain ⟨e0, e1, e2, e3, e4, e5, e6, e7, e8, e9, e10, ef⟩ := cells11 hbw
          clear hw' hbw
          simp only at e0 e1 e2 e3 e4 e5 e6 e7 e8 e9 e10
          go_simp
          exact ⟨rfl, rfl⟩
        go_simp
        exact rfl
      case hr =>
        apply Wf.wpAnyP_one (i := 3) (fuel := 2) (by kernel_rfl) rfl rfl
        have HOW := Lib.hid (own_later HO10.out HKF.out)
        have hm3 : MsgsOk W (fun k => k < wr.heap.size) (.slice OA3 out3.length OC3) out3 :=
          ⟨(HMS.out.cells.into HK10.out (fun k _ e => by omega) (fun _ _ h => h)).keep HKF.out (fun _ _ h => h.elim), fun m hm => ((HMS.out.each m hm).into HK10.out (fun k _ e => by omega) (fun _ _ h => h)).keep HKF.out (fun _ _ h => h.elim)⟩
        have HM3 := Lib.hid hm3
        have hszw : w5.heap.size ≤ W.heap.size := by
          have h1 := HKF.out.size; have h2 := HK10.out.size; have h3 := HKF9.out.size; omega
        obtain ⟨v', W2, hrun, hown, hkk, hat⟩ := app_row (ty := 28) Try.underlying28 HI.out HZ.out HS.out HBYT.out rfl (by decide) (by decide) hszw HOW.out (hm3.cells.weak (S' := Free) fun _ _ h => h.elim) (fun u hu => by
          obtain ⟨m, hm, hu⟩ := List.mem_flatMap.1 hu
          obtain ⟨A, c, e⟩ := (hm3.each m hm).shape
          simp only [mesCells, e, List.mem_cons, List.not_mem_nil, or_false] at hu
          rcases hu with rfl | rfl | rfl | rfl | rfl | rfl | rfl | rfl | rfl <;> rfl) (by omega)
        have HK2 := Lib.hid (HKW.out.trans hkk fun k hk => .inl (.inr (HOW.out.lt k hk).1))
        have HV2 := Lib.hid hown
        have HKK := Lib.hid (hkk.mono (S' := fun k => w5.heap.size ≤ k) fun k hk => .inl (HOW.out.lt k hk).1)
        have HKO := Lib.hid hkk
        refine plainf_append rfl rfl rfl hrun ⟨.inr HK2.out, ?_⟩
        clear hrun hown hkk hat hm3
        go_simp
        have hb2 : Boxed w Q B (B + 1) ⟨x3, .slice LA3 x3.log.length LC3, .slice VA3 x3.votes.length VC3, .slice NA3 x3.next.length NC3, .slice MA3 x3.mtch.length MC3⟩ W := HB10.out.later HKF.out
        have hres2 : W2.heap[B + 1]? = some (.cells zero11 25 (0, 0)) := (HKK.out.block (B + 1) hb2.rlt (by omega)).trans hb2.res
        obtain ⟨wr2, hwr, hrb, hrk⟩ := put11l (v0 := .int .i64 x3.id) (v1 := .int .i64 x3.n) (v2 := .int .i64 x3.term) (v3 := .int .i64 x3.vote) (v4 := .slice LA3 x3.log.length LC3) (v5 := .int .i64 x3.commit) (v6 := .int .i64 x3.role) (v7 := .int .i64 x3.boss) (v8 := .slice VA3 x3.votes.length VC3) (v9 := .slice NA3 x3.next.length NC3) (v10 := .slice MA3 x3.mtch.length MC3) hres2 rfl
        obtain ⟨r0, r1, r2, r3, r4, r5, r6, r7, r8, r9, r10, rf⟩ := cells11 hres2
        apply Wf.wpAnyP_one (i := 4) (fuel := 1) (by kernel_rfl) rfl rfl
        go_simp
        first | rw [hwr] | skip
        have HKR2 := Lib.hid (HK2.out.trans hrk (fun k h => .inl (.inl h)))
        refine ⟨HKR2.out, ?_⟩
        apply Wf.wpAnyP_one (i := 5) (fuel := 0) (by kernel_rfl) rfl rfl
        go_simp
        refine ⟨HKR2.out, ?_⟩
        refine ⟨by kernel_rfl, ?_⟩
        clear r0 r1 r2 r3 r4 r5 r6 r7 r8 r9 r10 rf hwr
        obtain ⟨q0, q1, q2, q3, q4, q5, q6, q7, q8, q9, q10, qf⟩ := cells11 hrb
        have hwle : w.heap.size ≤ B := HB10.out.le
        have hw5 : w.heap.size ≤ w5.heap.size := HBY.out.keeps.size
        have hwr5 : w5.heap.size ≤ wr.heap.size := HKR.out.size
        have hn1 : NodeOk W (fun k => (Q k ∨ (B ≤ k ∧ k ≤ B + 1)) ∨ (Value.slice OA out.length OC).ownBlock = some k) ⟨x3, .slice LA3 x3.log.length LC3, .slice VA3 x3.votes.length VC3, .slice NA3 x3.next.length NC3, .slice MA3 x3.mtch.length MC3⟩ := (HOK3.out.into HK10.out (fun k _ e => .inl (.inr (by omega))) (fun _ _ h => h)).into HKF.out (fun _ _ h => h.elim) (fun _ _ h => h)
        have hn2 : NodeOk wr2 Q ⟨x3, .slice LA3 x3.log.length LC3, .slice VA3 x3.votes.length VC3, .slice NA3 x3.next.length NC3, .slice MA3 x3.mtch.length MC3⟩ := (hn1.into HKO.out (fun _ _ h => .inr h) (fun _ _ h => h)).into hrk (fun k _ e => .inl (.inr (by omega))) (fun _ _ h => .inl (.inl h))
        have ho2 := own_keep (w' := wr2) HV2.out (fun g hg => hrk.block g (own_lt HV2.out hg) (fun e => by have := (HV2.out.lt g hg).1; omega))
        rw [← List.flatMap_append] at ho2
        have hm2 : MsgsOk wr2 (fun k => k < w.heap.size) v' (out ++ out3) := ⟨Sl.of_own ho2 fun g hg h => by have := (ho2.lt g hg).1; omega, fun m hm => by
          rcases List.mem_append.1 hm with h | h
          · obtain ⟨e1, e2⟩ := HEV.out m h
            unfold MesOk
            rw [e1, e2]
            exact no_items _ _
          · exact MesOk.weak (S := fun k => k < wr.heap.size) (((HM3.out.each m h).into HKO.out (fun k _ hk => own_lt HO.out hk) (fun _ _ h => h)).into hrk (fun k _ e => by omega) (fun k _ h => h)) (fun k _ h => by omega)⟩
        have hk2 : Keeps Free w wr2 := (HB10.out.keeps.trans (HKF.out.mono (S' := fun k => (Value.slice OA out.length OC).ownBlock = some k) (fun _ h => h.elim) |>.trans HKO.out (fun k hk => .inl hk)) (fun k hk => .inr (by have := (HO.out.lt k hk).1; omega)) |>.trans hrk (fun k e => .inr (by omega)))
        have FIN := Lib.hid (show HandsR w Q x3 (said out ++ said out3) (.returned (.tuple #[.agg #[.int .i64 x3.id, .int .i64 x3.n, .int .i64 x3.term, .int .i64 x3.vote, .slice LA3 x3.log.length LC3, .int .i64 x3.commit, .int .i64 x3.role, .int .i64 x3.boss, .slice VA3 x3.votes.length VC3, .slice NA3 x3.next.length NC3, .slice MA3 x3.mtch.length MC3], v'])) wr2 from ⟨⟨x3, .slice LA3 x3.log.length LC3, .slice VA3 x3.votes.length VC3, .slice NA3 x3.next.length NC3, .slice MA3 x3.mtch.length MC3⟩, v', out ++ out3, rfl, rfl, by simp [said], hn2, hm2, hk2⟩)
        clear hn1 hn2 ho2 hm2 hk2 hrb hrk hb2 hres2
        go_wp2_with fail
        refine bodyPost_ret (v := .tuple #[.agg #[.int .i64 x3.id, .int .i64 x3.n, .int .i64 x3.term, .int .i64 x3.vote, .slice LA3 x3.log.length LC3, .int .i64 x3.commit, .int .i64 x3.role, .int .i64 x3.boss, .slice VA3 x3.votes.length VC3, .slice NA3 x3.next.length NC3, .slice MA3 x3.mtch.length MC3], v']) (by simp [results, Try.results21, go_sem, q0, q1, q2, q3, q4, q5, q6, q7, q8, q9, q10]) rfl ?_
        rw [HE.out, HOT.out, ← HSO.out, HYY.out, HYS.out, ← HX3.out, ← HSO3.out]
        exact FIN.out
end Go.Proofs.Ytibjbpakbfodaaa
