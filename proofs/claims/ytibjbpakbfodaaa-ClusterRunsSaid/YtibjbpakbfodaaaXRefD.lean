/- The document's answer, chapter 15: what is sure. -/
import Derived.Test.YtibjbpakbfodaaaXRefC
namespace Go.Proofs.Ytibjbpakbfodaaa
open Go.RowKit

set_option maxRecDepth 100000 in
set_option maxHeartbeats 4000000 in
theorem sureR_any {w : World} {S : Nat → Prop} {x : NodV} (h0 : NodeOk w S x) (hl : x.n.log.length ≤ 60) (hm : x.n.mtch.length ≤ 5) (hc : 0 ≤ x.n.commit) (hcl : x.n.commit ≤ x.n.log.length) (h1 : 0 ≤ x.n.n) (h5 : x.n.n ≤ 5) (hs : sureUp x.n x.n.log.length = sureAt x.n x.n.log.length) :
    Calls Try.prog 94 #[.agg (nodCells x).toArray] w fun e w' => ∃ x' : NodV, e = .returned (.agg (nodCells x').toArray) ∧ x'.n = sure x.n ∧ NodeOk w' S x' ∧ Keeps Free w w' := by
  have h : NodeOk w Free x := h0.into (Keeps.refl Free w) (fun _ _ h => h.elim) (fun _ _ h => h.elim)
  have H0 := Lib.hid h0
  clear h0
  have H := Lib.hid h
  have HSU := Lib.hid hs
  obtain ⟨n, lv, vv, nv, mv⟩ := x
  simp only at hl hm hc hcl h1 h5 HSU
  obtain ⟨LA, LC, VA, VC, NA, NC, MA, MC, rfl, rfl, rfl, rfl⟩ := h.shape
  clear h hs
  obtain ⟨c, hcc⟩ : ∃ c : Nat, n.commit = c := ⟨n.commit.toNat, by omega⟩
  have HCC := Lib.hid hcc
  have hcl' : c ≤ n.log.length := by omega
  clear hcc hc hcl
  simp only [nodCells]
  go_enter Try.func94, Try.ntmps94
  go_upto_region 1 with fail
  obtain ⟨k0, k1, k2⟩ := two_boxes w (.cells #[.int .i64 n.id, .int .i64 n.n, .int .i64 n.term, .int .i64 n.vote, .slice LA n.log.length LC, .int .i64 n.commit, .int .i64 n.role, .int .i64 n.boss, .slice VA n.votes.length VC, .slice NA n.next.length NC, .slice MA n.mtch.length MC] 25) (.cells zero11 25)
  obtain ⟨w2, hw2⟩ : ∃ w2, (w.alloc (.cells #[.int .i64 n.id, .int .i64 n.n, .int .i64 n.term, .int .i64 n.vote, .slice LA n.log.length LC, .int .i64 n.commit, .int .i64 n.role, .int .i64 n.boss, .slice VA n.votes.length VC, .slice NA n.next.length NC, .slice MA n.mtch.length MC] 25)).alloc (.cells zero11 25) = w2 := ⟨_, rfl⟩
  rw [hw2] at k0 k1 k2 ⊢
  have HK2 := Lib.hid k0; have HB1 := Lib.hid k1; have HB2 := Lib.hid k2
  have hlt := laid_lt k2
  obtain ⟨b0, b1, b2, b3, b4, b5, b6, b7, b8, b9, b10, bf⟩ := cells11 k1
  generalize hB : w.heap.size = B at *
  clear k0 k1 k2 hw2
  have e5 : w2.cell? ⟨B, 5, none⟩ = some (.int .i64 (c : Int)) := by rw [← HCC.out]; exact b5
  clear b5
  go_wp2_with fail
  go_loopw [3] (fun i wr => ∃ (k : Nat), k ≤ n.log.length ∧ c ≤ k ∧ i = .int .i64 ((k : Int) + 1) ∧ Keeps Free w wr ∧ wr.heap[B + 1]? = some (.cells zero11 25 (0, 0)) ∧
    wr.heap[B]? = some (.cells #[.int .i64 n.id, .int .i64 n.n, .int .i64 n.term, .int .i64 n.vote, .slice LA n.log.length LC, .int .i64 (sureUp n k), .int .i64 n.role, .int .i64 n.boss, .slice VA n.votes.length VC, .slice NA n.next.length NC, .slice MA n.mtch.length MC] 25 (0, 0)))
    (fun i _ => 100 - (intOf i).toNat)
  case atStart => exact ⟨c, hcl', Nat.le_refl _, by go_num, HK2.out, HB2.out, by rw [sureUp_low n c (by rw [HCC.out]; omega)]; exact HB1.out⟩
  case round =>
    obtain ⟨k, hk, hck, rfl, hkr, hz, hb⟩ := hrel
    clear b0 b1 b2 b3 b4 e5 b6 b7 b8 b9 b10 bf
    obtain ⟨b0, b1, b2, b3, b4, b5, b6, b7, b8, b9, b10, bf⟩ := cells11 hb
    have HKR := Lib.hid hkr; have HZ := Lib.hid hz; have HB := Lib.hid hb
    have hlr := laid_lt hb
    have HMT := Lib.hid (H.out.mtch.keep hkr (fun _ _ h => h) : Sl wr Free _ 1 _)
    have HAT := Lib.hid (fun (w1 : World) (hk1 : Keeps Free wr w1) => at_any (H.out.log.keep (hkr.trans hk1 (fun _ h => .inl h)) (fun _ _ h => h) : Sl w1 Free _ 2 _) ((k : Int) + 1) (by simp only; omega))
    clear hkr hz hb
    simp only at HAT HMT
    have hup : sureUp n (k + 1) = if n.commit < (k : Int) + 1 ∧ n.n < 2 * (have_ n.mtch ((k : Int) + 1) : Int) ∧ termAt n.log ((k : Int) + 1) = n.term then (k : Int) + 1 else sureUp n k := rfl
    rw [HCC.out] at hup
    have HUP := Lib.hid hup
    clear hup
    obtain ⟨su, hsu⟩ : ∃ su, sureUp n k = su := ⟨_, rfl⟩
    rw [hsu] at HUP HB b5
    have HSE := Lib.hid hsu
    clear hsu
    by_cases hlt2 : k < n.log.length
    · go_wp2_with fail
      go_loop [4, 20] (fun hv i => ∃ j : Nat, j ≤ n.mtch.length ∧ i = .int .i64 j ∧ hv = .int .i64 (have_ (n.mtch.take j) ((k : Int) + 1))) (fun _ i => 70 - (intOf i).toNat)
      case atStart => exact ⟨0, by omega, rfl, rfl⟩
      case round =>
        obtain ⟨j, hj, rfl, rfl⟩ := hrel
        have hle := have_le (n.mtch.take j) ((k : Int) + 1)
        have hle2 : (n.mtch.take j).length ≤ 5 := by rw [List.length_take]; omega
        by_cases hlt : j < n.mtch.length
        · obtain ⟨g, go, rfl, -, hgc⟩ := HMT.out.int hlt
          have hs := have_snoc n.mtch j hlt ((k : Int) + 1)
          have HS := Lib.hid hs
          clear hs
          generalize n.mtch[j] = z at *
          by_cases hz : (k : Int) + 1 ≤ z
          · go_wp2
            go_round
            case rel => exact ⟨j + 1, by omega, by go_num, by rw [HS.out, if_pos hz]; go_num⟩
            case measure => simp [intOf]; omega
          · go_wp2
            go_round
            case rel => exact ⟨j + 1, by omega, by go_num, by rw [HS.out, if_neg hz]; rfl⟩
            case measure => simp [intOf]; omega
        · obtain rfl : j = n.mtch.length := by omega
          rw [List.take_length] at hle hle2 ⊢
          have hmo : ∀ ξ : Kp wr, Calls Try.prog 89 #[.agg #[.int .i64 n.id, .int .i64 n.n, .int .i64 n.term, .int .i64 n.vote, .slice LA n.log.length LC, .int .i64 su, .int .i64 n.role, .int .i64 n.boss, .slice VA n.votes.length VC, .slice NA n.next.length NC, .slice MA n.mtch.length MC], .int .i64 (have_ n.mtch ((k : Int) + 1) : Int)] ξ.val fun e w'' => e = .returned (.bool (decide (n.n < 2 * (have_ n.mtch ((k : Int) + 1) : Int)))) ∧ ∃ ξ' : Kp wr, w'' = ξ'.val := fun ξ => by
            refine (most_any (w := ξ.val) ⟨{ n with commit := su }, .slice LA n.log.length LC, .slice VA n.votes.length VC, .slice NA n.next.length NC, .slice MA n.mtch.length MC⟩ (have_ n.mtch ((k : Int) + 1) : Int) (by omega) (by omega) h1 h5).mono ?_
            rintro e w'' ⟨rfl, hk⟩
            exact ⟨rfl, ⟨w'', ξ.keeps.trans hk (fun _ h => .inl h)⟩, rfl⟩
          have hat : ∀ ξ : Kp wr, Calls Try.prog 51 #[.slice LA n.log.length LC, .int .i64 ((k : Int) + 1)] ξ.val fun e w'' => e = .returned (.int .i64 (termAt n.log ((k : Int) + 1))) ∧ ∃ ξ' : Kp wr, w'' = ξ'.val := fun ξ => by
            refine (HAT.out ξ.val (ξ.keeps.mono (fun _ h => h.elim))).mono ?_
            rintro e w'' ⟨rfl, rfl⟩
            exact ⟨rfl, ξ, rfl⟩
          have HMO := Lib.hid hmo; have HATK := Lib.hid hat
          clear hmo hat HAT HMT
          go_upto_region 11 with fail
          have hdk : decide ((k : Int) + 1 ≤ (n.log.length : Int)) = true := by simp; omega
          simp only [hdk]
          go_cut [41] from 41 to 42 (fun s wx => s = .bool (decide (n.n < 2 * (have_ n.mtch ((k : Int) + 1) : Int)) && decide (termAt n.log ((k : Int) + 1) = n.term)) ∧ Keeps (fun _ => False) wr wx)
          case first =>
            have f0 : ∀ ξ : Kp wr, ξ.val.cell? ⟨B, 0, none⟩ = some (.int .i64 n.id) := fun ξ => ξ.keeps.cell (fun h => h) b0
            have f1 : ∀ ξ : Kp wr, ξ.val.cell? ⟨B, 1, none⟩ = some (.int .i64 n.n) := fun ξ => ξ.keeps.cell (fun h => h) b1
            have f2 : ∀ ξ : Kp wr, ξ.val.cell? ⟨B, 2, none⟩ = some (.int .i64 n.term) := fun ξ => ξ.keeps.cell (fun h => h) b2
            have f3 : ∀ ξ : Kp wr, ξ.val.cell? ⟨B, 3, none⟩ = some (.int .i64 n.vote) := fun ξ => ξ.keeps.cell (fun h => h) b3
            have f4 : ∀ ξ : Kp wr, ξ.val.cell? ⟨B, 4, none⟩ = some (.slice LA n.log.length LC) := fun ξ => ξ.keeps.cell (fun h => h) b4
            have f5 : ∀ ξ : Kp wr, ξ.val.cell? ⟨B, 5, none⟩ = some (.int .i64 su) := fun ξ => ξ.keeps.cell (fun h => h) b5
            have f6 : ∀ ξ : Kp wr, ξ.val.cell? ⟨B, 6, none⟩ = some (.int .i64 n.role) := fun ξ => ξ.keeps.cell (fun h => h) b6
            have f7 : ∀ ξ : Kp wr, ξ.val.cell? ⟨B, 7, none⟩ = some (.int .i64 n.boss) := fun ξ => ξ.keeps.cell (fun h => h) b7
            have f8 : ∀ ξ : Kp wr, ξ.val.cell? ⟨B, 8, none⟩ = some (.slice VA n.votes.length VC) := fun ξ => ξ.keeps.cell (fun h => h) b8
            have f9 : ∀ ξ : Kp wr, ξ.val.cell? ⟨B, 9, none⟩ = some (.slice NA n.next.length NC) := fun ξ => ξ.keeps.cell (fun h => h) b9
            have f10 : ∀ ξ : Kp wr, ξ.val.cell? ⟨B, 10, none⟩ = some (.slice MA n.mtch.length MC) := fun ξ => ξ.keeps.cell (fun h => h) b10
            clear b0 b1 b2 b3 b4 b5 b6 b7 b8 b9 b10 bf
            cases q0 : decide (n.n < 2 * (have_ n.mtch ((k : Int) + 1) : Int))
            case false =>
              rw [q0] at HMO
              refine wp_region_quiet_k (by kernel_rfl) (by kernel_rfl) ?_
              repeat (go_big_quiet_step (first | (go_at_call 89; exact HMO.out _)))
              refine wpQuiet_nil ?_
              intro _ hw'
              obtain ⟨ξ, hw''⟩ := hw'
              subst hw''
              go_wp2_with fail
              go_meet
              exact ⟨by rw [q0]; rfl, ξ.keeps⟩
            case true =>
              rw [q0] at HMO
              generalize termAt n.log ((k : Int) + 1) = ta at *
              cases q1 : (ta == n.term)
              case true =>
                have q1' : decide (ta = n.term) = true := by simpa using q1
                refine wp_region_quiet_k (by kernel_rfl) (by kernel_rfl) ?_
                repeat (go_big_quiet_step (first | (go_at_call 89; exact HMO.out _) | (go_at_call 51; exact HATK.out _)))
                refine wpQuiet_nil ?_
                intro _ hw'
                obtain ⟨ξ, hw''⟩ := hw'
                subst hw''
                go_wp2_with fail
                go_meet
                exact ⟨by rw [q0, q1']; rfl, ξ.keeps⟩
              case false =>
                have q1' : decide (ta = n.term) = false := by simpa using q1
                refine wp_region_quiet_k (by kernel_rfl) (by kernel_rfl) ?_
                repeat (go_big_quiet_step (first | (go_at_call 89; exact HMO.out _) | (go_at_call 51; exact HATK.out _)))
                refine wpQuiet_nil ?_
                intro _ hw'
                obtain ⟨ξ, hw''⟩ := hw'
                subst hw''
                go_wp2_with fail
                go_meet
                exact ⟨by rw [q0, q1']; rfl, ξ.keeps⟩
          case rest =>
            obtain ⟨rfl, hkx⟩ := hcut
            have hbx := (hkx.mono (S' := Free) (fun _ h => h.elim)).blk HB.out
            have hzx := (hkx.mono (S' := Free) (fun _ h => h.elim)).blk HZ.out
            have hkxx := HKR.out.trans hkx (fun _ h => h.elim)
            clear b0 b1 b2 b3 b4 b5 b6 b7 b8 b9 b10 bf
            obtain ⟨b0, b1, b2, b3, b4, b5, b6, b7, b8, b9, b10, bf⟩ := cells11 hbx
            have HBX := Lib.hid hbx; have HZX := Lib.hid hzx; have HKXX := Lib.hid hkxx
            clear hbx hzx hkxx hkx
            cases q : (decide (n.n < 2 * (have_ n.mtch ((k : Int) + 1) : Int)) && decide (termAt n.log ((k : Int) + 1) = n.term))
            case true =>
              have hq := q
              simp only [Bool.and_eq_true, decide_eq_true_eq] at hq
              go_wp2_with fail
              go_roundw
              case measure => simp [intOf]; omega
              case rel =>
                refine ⟨k + 1, by omega, by omega, by go_num, HKXX.out.setCell (p := ⟨B, 5, none⟩) (.inr (show w.heap.size ≤ B by omega)) _, (Below.heap_setCell _ _ _ _ (show B + 1 ≠ B by omega)).trans HZX.out, ?_⟩
                rw [HUP.out, if_pos ⟨by omega, hq.1, hq.2⟩]
                exact (setCell_blk HBX.out).trans rfl
            case false =>
              go_wp2_with fail
              go_roundw
              case measure => simp [intOf]; omega
              case rel =>
                refine ⟨k + 1, by omega, by omega, by go_num, HKXX.out, HZX.out, ?_⟩
                rw [HUP.out, if_neg (fun h => by simp [h.2.1, h.2.2] at q)]
                exact HBX.out
    · obtain rfl : k = n.log.length := by omega
      have hkr := HKR.out
      obtain ⟨wf, hwf, hfb, hfk⟩ := put11 (v0 := .int .i64 n.id) (v1 := .int .i64 n.n) (v2 := .int .i64 n.term) (v3 := .int .i64 n.vote) (v4 := .slice LA n.log.length LC) (v5 := .int .i64 su) (v6 := .int .i64 n.role) (v7 := .int .i64 n.boss) (v8 := .slice VA n.votes.length VC) (v9 := .slice NA n.next.length NC) (v10 := .slice MA n.mtch.length MC) HZ.out rfl
      simp only [sets] at hwf
      obtain ⟨q0, q1, q2, q3, q4, q5, q6, q7, q8, q9, q10, qf⟩ := cells11 hfb
      have hkw : Keeps Free w wf := hkr.trans hfk (fun k e => .inr (by omega))
      have FIN := Lib.hid (show ∃ x' : NodV, Ending.returned (.agg #[.int .i64 n.id, .int .i64 n.n, .int .i64 n.term, .int .i64 n.vote, .slice LA n.log.length LC, .int .i64 su, .int .i64 n.role, .int .i64 n.boss, .slice VA n.votes.length VC, .slice NA n.next.length NC, .slice MA n.mtch.length MC]) = .returned (.agg (nodCells x').toArray) ∧ x'.n = sure n ∧ NodeOk wf S x' ∧ Keeps Free w wf from
        ⟨⟨sure n, .slice LA n.log.length LC, .slice VA n.votes.length VC, .slice NA n.next.length NC, .slice MA n.mtch.length MC⟩, by unfold sure; rw [← HSU.out, ← HSE.out]; rfl, rfl, ⟨H0.out.log.keep hkw (fun _ _ h => h.elim), H0.out.votes.keep hkw (fun _ _ h => h.elim), H0.out.next.keep hkw (fun _ _ h => h.elim), H0.out.mtch.keep hkw (fun _ _ h => h.elim)⟩, hkw⟩)
      obtain ⟨r0, r1, r2, r3, r4, r5, r6, r7, r8, r9, r10, rf⟩ := cells11 HZ.out
      clear hkr hfb hfk hkw H H0 HSU HUP HAT HMT
      go_wp2_with fail
      refine bodyPost_ret (v := .agg #[.int .i64 n.id, .int .i64 n.n, .int .i64 n.term, .int .i64 n.vote, .slice LA n.log.length LC, .int .i64 su, .int .i64 n.role, .int .i64 n.boss, .slice VA n.votes.length VC, .slice NA n.next.length NC, .slice MA n.mtch.length MC]) (by simp [results, Try.results94, go_sem, q0, q1, q2, q3, q4, q5, q6, q7, q8, q9, q10]) rfl ?_
      exact FIN.out

/-- What may be sent to each. -/
def Span (x : Nod) : Prop := ∀ j (hj : j < x.next.length), 1 ≤ x.next[j] ∧ x.next[j] ≤ (x.log.length : Int) + 1

theorem said_snoc (l : List MesV) (m : MesV) : said (l ++ [m]) = said l ++ [m.m] := by simp [said]

set_option maxRecDepth 100000 in
set_option maxHeartbeats 4000000 in
theorem batches_any {w : World} {x : NodV} (h : NodeOk w Free x) {N : Nat} (hN : x.n.n = N) (hN5 : N ≤ 5) (hnl : x.n.next.length = N) (hq : Span x.n) (hl : x.n.log.length ≤ 60) :
    Calls Try.prog 66 #[.agg (nodCells x).toArray] w fun e w' => ∃ ov out, e = .returned ov ∧ said out = (others x.n).map (sends x.n) ∧ MsgsOk w' (fun k => k < w.heap.size) ov out ∧ Keeps Free w w' := by
  have H := Lib.hid h
  have HB91 := Lib.hid (fun (w1 : World) (hk : Keeps Free w w1) (k : Nat) (hkN : k < N) => batch_any (h.into hk (fun _ _ h => h) (fun _ _ h => h) : NodeOk w1 Free x) k (x.n.next[k]'(by omega) - 1).toNat (by omega) (by have := hq k (by omega); omega) (by have := hq k (by omega); omega) hl (by omega))
  obtain ⟨n, lv, vv, nv, mv⟩ := x
  simp only at hN hnl hl HB91
  have hot : (others n) = othersTo n.id N := by unfold others othersTo; rw [hN]; rfl
  have HOT := Lib.hid hot; have HN := Lib.hid hN
  have hn0 : 0 ≤ n.n := by omega
  have hn5 : n.n ≤ 5 := by omega
  have hnl5 : n.next.length ≤ 5 := by omega
  clear hot hq hN hnl
  obtain ⟨LA, LC, VA, VC, NA, NC, MA, MC, rfl, rfl, rfl, rfl⟩ := h.shape
  clear h H
  obtain ⟨i0, hi0, hz, hsz, hby⟩ := info_parts Try.info38
  have HI := Lib.hid hi0; have HZ := Lib.hid hz; have HS := Lib.hid hsz; have HBY := Lib.hid hby
  clear hi0 hz hsz hby
  simp only [nodCells] at HB91 ⊢
  go_enter Try.func66, Try.ntmps66
  go_upto_region 1 with fail
  have hb0 := heap_alloc_new w (.cells #[.int .i64 n.id, .int .i64 n.n, .int .i64 n.term, .int .i64 n.vote, .slice LA n.log.length LC, .int .i64 n.commit, .int .i64 n.role, .int .i64 n.boss, .slice VA n.votes.length VC, .slice NA n.next.length NC, .slice MA n.mtch.length MC] 25)
  have hk0 := (Keeps.refl Free w).alloc (.cells #[.int .i64 n.id, .int .i64 n.n, .int .i64 n.term, .int .i64 n.vote, .slice LA n.log.length LC, .int .i64 n.commit, .int .i64 n.role, .int .i64 n.boss, .slice VA n.votes.length VC, .slice NA n.next.length NC, .slice MA n.mtch.length MC] 25)
  obtain ⟨w2, hw2⟩ : ∃ w2, w.alloc (.cells #[.int .i64 n.id, .int .i64 n.n, .int .i64 n.term, .int .i64 n.vote, .slice LA n.log.length LC, .int .i64 n.commit, .int .i64 n.role, .int .i64 n.boss, .slice VA n.votes.length VC, .slice NA n.next.length NC, .slice MA n.mtch.length MC] 25) = w2 := ⟨_, rfl⟩
  rw [hw2] at hb0 hk0 ⊢
  obtain ⟨B, hB⟩ : ∃ B, w.heap.size = B := ⟨_, rfl⟩
  rw [hB] at hb0 ⊢
  have hblt := laid_lt hb0
  have HK0 := Lib.hid hk0; have HB0 := Lib.hid hb0
  clear hb0 hk0 hw2
  go_wp2_with fail
  go_loopw [3, 4] (fun o i wr => ∃ (k : Nat) (out : List MesV), k ≤ N ∧ i = .int .i64 ((k : Int) + 1) ∧ Keeps Free w2 wr ∧ wr.ownsRow w2.heap.size 38 9 o out.length (out.flatMap mesCells) ∧
    said out = (othersTo n.id k).map (sends n) ∧ ∀ m ∈ out, MesOk wr (fun g => o.ownBlock = some g ∨ g < B) m) (fun _ i _ => 100 - (intOf i).toNat)
  case atStart => exact ⟨0, [], by omega, by go_num, Keeps.refl _ _, World.ownsRow_nil _ _ _ _, by simp [said, othersTo], fun m h => by simp at h⟩
  case round =>
    obtain ⟨k, out, hk, rfl, hkr, ho, hso, hev⟩ := hrel
    obtain ⟨b0, b1, b2, b3, b4, b5, b6, b7, b8, b9, b10, bf⟩ := cells11 (hkr.blk HB0.out)
    have hout : out.length ≤ k := by
      have := congrArg List.length hso
      simp only [said, List.length_map] at this
      rw [this]; exact othersTo_len _ _
    obtain ⟨OA, OC, rfl, ho1, ho2⟩ := own_slice ho
    have hlr := Nat.lt_of_lt_of_le hblt hkr.size
    have hsu := othersTo_succ n.id k
    have HKR := Lib.hid hkr; have HO := Lib.hid ho; have HSO := Lib.hid hso; have HEV := Lib.hid hev; have HSU := Lib.hid hsu
    clear hkr ho hso hev ho1 ho2 hsu
    by_cases hlt : k < N
    · have hlt' : (k : Int) + 1 ≤ n.n := by rw [HN.out]; omega
      by_cases hid : (k : Int) + 1 = n.id
      · go_wp2_with fail
        go_roundw
        case measure => simp [intOf]; omega
        case rel => exact ⟨k + 1, out, by omega, by go_num, HKR.out, HO.out, by rw [HSU.out, if_pos hid, List.append_nil]; exact HSO.out, HEV.out⟩
      · have hb : ((k : Int) + 1 != n.id) = true := by rw [bne_iff_ne]; exact hid
        have hc91 := HB91.out wr (HK0.out.trans HKR.out (fun _ h => .inl h)) k hlt
        clear HB91
        go_wp2_with (first
          | (go_at_call 91
             refine hc91.mono ?_
             rintro e w3 ⟨m, rfl, hms, hmo, hk3⟩
             obtain ⟨mm, iv⟩ := m
             obtain ⟨IA, IC, hiv⟩ := hmo.shape
             simp only at hiv hms
             subst hiv
             have HMS := Lib.hid hms; have HMO := Lib.hid hmo; have HK3 := Lib.hid hk3
             have HO3 := Lib.hid (own_later HO.out hk3)
             have hlt3 := Nat.lt_of_lt_of_le hlr hk3.size
             simp only [mesCells]
             clear hms hmo hk3 hc91)
          | (at_builtin
             refine wpList_append_lies _ (by rfl) _ _ _ (by rfl) w2.heap.size 38 i0 _ 9 88 Try.underlying28 HI.out HZ.out HS.out HBY.out rfl (by omega) (.slice OA out.length OC) out.length _ (by rfl) (HO3.out.alloc _)
               ⟨w3.heap.size, 0, none⟩ 1 1 [.int .i64 mm.kind, .int .i64 mm.src, .int .i64 mm.dst, .int .i64 mm.term, .int .i64 mm.index, .int .i64 mm.logTerm, .int .i64 mm.commit, .slice IA mm.items.length IC, .bool mm.yes] (by rfl) (by rfl) (World.news_of_block (cs := #[.int .i64 mm.kind, .int .i64 mm.src, .int .i64 mm.dst, .int .i64 mm.term, .int .i64 mm.index, .int .i64 mm.logTerm, .int .i64 mm.commit, .slice IA mm.items.length IC, .bool mm.yes]) (t := 38) (fr := (0, 0)) (heap_alloc_new w3 _)) (by simp [Value.oneCell'])
               (by omega) (by simp [maxLen]; omega) (by omega) ?c4 (w3.heap.size + 1) (by simp) ?_
             (case c4 => (have h1 := HK3.out.size; have h2 := HKR.out.size; simp; omega))
             intro gg cap w1 hown1 hgrow hat hltg))
        have hcell : out.flatMap mesCells ++ [Value.int .i64 mm.kind, .int .i64 mm.src, .int .i64 mm.dst, .int .i64 mm.term, .int .i64 mm.index, .int .i64 mm.logTerm, .int .i64 mm.commit, .slice IA mm.items.length IC, .bool mm.yes] = (out ++ [(⟨mm, .slice IA mm.items.length IC⟩ : MesV)]).flatMap mesCells := by simp [mesCells]
        rw [hcell] at hown1
        have hs1 := said_snoc out ⟨mm, .slice IA mm.items.length IC⟩
        rw [HSO.out] at hs1
        have e1 : List.map (sends n) [(k : Int) + 1] = [mm] := by rw [HMS.out]; rfl
        have hw1 : Keeps (fun g => (Value.slice OA out.length OC).ownBlock = some g) w3 w1 := ((Keeps.refl (fun g => (Value.slice OA out.length OC).ownBlock = some g) w3).alloc _).trans (Keeps.of_grown hgrow fun g hg => .inl hg) (fun _ h => .inl h)
        have hk1 : Keeps Free w2 w1 := (HKR.out.trans HK3.out (fun _ h => .inl h)).trans hw1 (fun g hg => .inr (HO.out.lt g hg).1)
        have hev1 : ∀ m ∈ out ++ [(⟨mm, .slice IA mm.items.length IC⟩ : MesV)], MesOk w1 (fun g => (Value.slice (some ⟨gg, 0, none⟩) (out.length + 1) cap).ownBlock = some g ∨ g < B) m := fun m hm => by
          have h2 : ∀ g, g < w3.heap.size → ((Value.slice (some ⟨gg, 0, none⟩) (out.length + 1) cap).ownBlock = some g ∨ g < B) → ((Value.slice OA out.length OC).ownBlock = some g ∨ g < B) := fun g hg he => by
            refine he.imp (fun he => ?_) (fun h => h)
            have : gg = g := by simpa [Value.ownBlock] using he
            subst this
            rcases hat with e | e
            · exact e
            · omega
          rcases List.mem_append.1 hm with h | h
          · exact ((HEV.out m h).keep HK3.out (fun _ _ h => h.elim) : MesOk w3 _ m).into hw1 (fun _ _ h => .inl h) h2
          · simp only [List.mem_singleton] at h
            subst h
            exact HMO.out.into hw1 (fun g hg he => own_lt HO.out he) (fun g hg he => (h2 g hg he).elim (fun h => own_lt HO.out h) (fun h => by omega))
        go_roundw
        case measure => simp [intOf]; omega
        case rel => exact ⟨k + 1, out ++ [⟨mm, .slice IA mm.items.length IC⟩], by omega, by go_num, hk1, by rw [List.length_append]; exact hown1, by rw [HSU.out, if_neg hid, List.map_append, e1]; exact hs1, hev1⟩
    · obtain rfl : k = N := by omega
      have hlt' : ¬ (k : Int) + 1 ≤ n.n := by rw [HN.out]; omega
      clear HB91
      go_wp2_with fail
      go_ret
      exact ⟨_, rfl, out, by rw [HSO.out, HOT.out], ⟨Sl.of_own HO.out fun g hg h => by have := (HO.out.lt g hg).1; omega, fun m hm => (HEV.out m hm).into (Keeps.refl Free wr) (fun _ _ h => h.elim) (fun _ _ h => .inr (by omega))⟩, HK0.out.trans HKR.out (fun _ h => .inl h)⟩
end Go.Proofs.Ytibjbpakbfodaaa
