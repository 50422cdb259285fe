/- The document's answer, chapter 15: a candidate that most have voted for. -/
import Derived.Test.YtibjbpakbfodaaaXRefF
namespace Go.Proofs.Ytibjbpakbfodaaa
open Go.RowKit

theorem noMsgsQ (w : World) (S : Nat → Prop) : MsgsOk w S (.slice none 0 0) [] := noMsgs w S

/-- The node as it stands is handed back, and nothing is said. -/
theorem Boxed.quiet {w wx wr : World} {Q : Nat → Prop} {B r : Nat} {n : Nod} {lv vv nv mv : Value} (h : Boxed w Q B r ⟨n, lv, vv, nv, mv⟩ wx) (hk : Keeps (fun k => k = r) wx wr) :
    HandsR w Q n [] (.returned (.tuple #[.agg #[.int .i64 n.id, .int .i64 n.n, .int .i64 n.term, .int .i64 n.vote, lv, .int .i64 n.commit, .int .i64 n.role, .int .i64 n.boss, vv, nv, mv], .slice none 0 0])) wr := by
  obtain ⟨h1, h2⟩ := h.done hk
  exact ⟨⟨n, lv, vv, nv, mv⟩, _, [], rfl, rfl, rfl, h1, noMsgs _ _, h2⟩

/-- What a call has handed back is handed on. -/
theorem Boxed.pass {w wx wy wr : World} {Q : Nat → Prop} {B r : Nat} {x : NodV} (h : Boxed w Q B r x wx) (hk : Keeps Free wx wy) {n : Nod} {lv vv nv mv ov : Value} {out : List MesV} (hx : NodeOk wy (fun k => Q k ∨ (B ≤ k ∧ k ≤ r)) ⟨n, lv, vv, nv, mv⟩)
    (hms : MsgsOk wy (fun k => k < wx.heap.size) ov out) (hr : Keeps (fun k => k = r) wy wr) :
    HandsR w Q n (said out) (.returned (.tuple #[.agg #[.int .i64 n.id, .int .i64 n.n, .int .i64 n.term, .int .i64 n.vote, lv, .int .i64 n.commit, .int .i64 n.role, .int .i64 n.boss, vv, nv, mv], ov])) wr := by
  have h1 := h.rlt; have h2 := h.lt; have h3 := h.le; have h4 := h.keeps.size
  refine ⟨⟨n, lv, vv, nv, mv⟩, ov, out, rfl, rfl, rfl, hx.into hr (fun k _ e => .inr (by omega)) (fun k _ h => .inl h), ⟨hms.cells.into hr (fun k _ e => by omega) (fun k _ h => by omega), fun m hm => (hms.each m hm).into hr (fun k _ e => by omega) (fun k _ h => by omega)⟩,
    (h.keeps.trans hk (fun _ h => .inl h)).trans hr (fun k e => .inr (by omega))⟩

theorem Boxed.oldS {w wx : World} {Q : Nat → Prop} {B r : Nat} {x : NodV} (h : Boxed w Q B r x wx) : ∀ k, (Q k ∨ (B ≤ k ∧ k ≤ r)) → k < wx.heap.size := fun k hk => by
  have h1 := h.rlt; have h4 := h.keeps.size
  rcases hk with hk | hk
  · have := h.old k hk; omega
  · omega

set_option maxRecDepth 100000 in
set_option maxHeartbeats 8000000 in
theorem electR_any {w : World} {Q : Nat → Prop} {x : NodV} (h : NodeOk w Q x) (hQ : ∀ k, Q k → k < w.heap.size) (g : Good x.n) (ht : x.n.term ≠ 0) :
    Calls Try.prog 63 #[.agg (nodCells x).toArray] w (HandsR w Q (lead x.n) (leadSays x.n)) := by
  have H := Lib.hid h; have HQ := Lib.hid hQ; have HG := Lib.hid g; have HT := Lib.hid ht
  have hv := g.votes_len; have hn1 := g.n1; have hn5 := g.n5; have hl := g.log60
  obtain ⟨n, lv, vv, nv, mv⟩ := x
  simp only at hv hn1 hn5 hl HG HT
  obtain ⟨LA, LC, VA, VC, NA, NC, MA, MC, rfl, rfl, rfl, rfl⟩ := h.shape
  clear h g hQ ht
  simp only [nodCells]
  go_enter Try.func63, Try.ntmps63
  go_upto_region 1 with fail
  obtain ⟨k0, k1, k2⟩ := two_boxes w (.cells #[.int .i64 n.id, .int .i64 n.n, .int .i64 n.term, .int .i64 n.vote, .slice LA n.log.length LC, .int .i64 n.commit, .int .i64 n.role, .int .i64 n.boss, .slice VA n.votes.length VC, .slice NA n.next.length NC, .slice MA n.mtch.length MC] 25) (.cells zero11 25)
  obtain ⟨w2, hw2⟩ : ∃ w2, (w.alloc (.cells #[.int .i64 n.id, .int .i64 n.n, .int .i64 n.term, .int .i64 n.vote, .slice LA n.log.length LC, .int .i64 n.commit, .int .i64 n.role, .int .i64 n.boss, .slice VA n.votes.length VC, .slice NA n.next.length NC, .slice MA n.mtch.length MC] 25)).alloc (.cells zero11 25) = w2 := ⟨_, rfl⟩
  rw [hw2] at k0 k1 k2 ⊢
  have HBX := Lib.hid (show Boxed w Q w.heap.size (w.heap.size + 1) _ _ from Boxed.start H.out HQ.out k0 (Nat.lt_succ_self _) k1 k2)
  have hlt := laid_lt k2
  obtain ⟨b0, b1, b2, b3, b4, b5, b6, b7, b8, b9, b10, bf⟩ := cells11 k1
  obtain ⟨r0, r1, r2, r3, r4, r5, r6, r7, r8, r9, r10, rf⟩ := cells11 k2
  obtain ⟨B, hB⟩ : ∃ B, w.heap.size = B := ⟨_, rfl⟩
  rw [hB] at HBX hlt b0 b1 b2 b3 b4 b5 b6 b7 b8 b9 b10 bf r0 r1 r2 r3 r4 r5 r6 r7 r8 r9 r10 rf ⊢
  clear k0 k1 k2 hw2
  have hmo := most_any (w := w2) ⟨n, .slice LA n.log.length LC, .slice VA n.votes.length VC, .slice NA n.next.length NC, .slice MA n.mtch.length MC⟩ (n.votes.length : Int) (by omega) (by omega) (by simp only; omega) (by simp only; omega)
  simp only [nodCells] at hmo
  cases hq : decide (n.n < 2 * (n.votes.length : Int))
  case false =>
    rw [hq] at hmo
    have hle : lead n = n := by unfold lead; rw [if_neg (by simpa using hq)]
    have hls : leadSays n = [] := by unfold leadSays; rw [if_neg (by simpa using hq)]
    have HMO := Lib.hid hmo; have HLE := Lib.hid hle; have HLS := Lib.hid hls
    clear hmo hle hls hq
    go_wp2_with (first
      | (go_at_call 89
         refine HMO.out.mono ?_
         rintro e w3 ⟨rfl, hk3⟩
         have hb3 := HBX.out.later hk3
         clear b0 b1 b2 b3 b4 b5 b6 b7 b8 b9 b10 bf
         clear r0 r1 r2 r3 r4 r5 r6 r7 r8 r9 r10 rf
         obtain ⟨b0, b1, b2, b3, b4, b5, b6, b7, b8, b9, b10, bf⟩ := cells11 hb3.blk
         obtain ⟨r0, r1, r2, r3, r4, r5, r6, r7, r8, r9, r10, rf⟩ := cells11 hb3.res
         simp only at b0 b1 b2 b3 b4 b5 b6 b7 b8 b9 b10
         obtain ⟨wf, hwf, hfb, hfk⟩ := put11l (v0 := .int .i64 n.id) (v1 := .int .i64 n.n) (v2 := .int .i64 n.term) (v3 := .int .i64 n.vote) (v4 := .slice LA n.log.length LC) (v5 := .int .i64 n.commit) (v6 := .int .i64 n.role) (v7 := .int .i64 n.boss) (v8 := .slice VA n.votes.length VC) (v9 := .slice NA n.next.length NC) (v10 := .slice MA n.mtch.length MC) hb3.res rfl
         clear hk3))
    obtain ⟨q0, q1, q2, q3, q4, q5, q6, q7, q8, q9, q10, qf⟩ := cells11 hfb
    have FIN := Lib.hid (hb3.quiet hfk)
    clear hb3 hfb hfk
    refine bodyPost_ret (v := .tuple #[.agg #[.int .i64 n.id, .int .i64 n.n, .int .i64 n.term, .int .i64 n.vote, .slice LA n.log.length LC, .int .i64 n.commit, .int .i64 n.role, .int .i64 n.boss, .slice VA n.votes.length VC, .slice NA n.next.length NC, .slice MA n.mtch.length MC], .slice none 0 0]) (by simp [results, Try.results63, go_sem, q0, q1, q2, q3, q4, q5, q6, q7, q8, q9, q10]) rfl ?_
    rw [HLE.out, HLS.out]
    exact FIN.out
  case true =>
    rw [hq] at hmo
    have hle : lead n = put (crowned n) 0 := by unfold lead; rw [if_pos (by simpa using hq)]
    have hls : leadSays n = putSays (crowned n) 0 := by unfold leadSays; rw [if_pos (by simpa using hq)]
    have HMO := Lib.hid hmo; have HLE := Lib.hid hle; have HLS := Lib.hid hls
    clear hmo hle hls hq
    clear r0 r1 r2 r3 r4 r5 r6 r7 r8 r9 r10 rf
    go_upto_region 4 with (first
      | (go_at_call 89
         refine HMO.out.mono ?_
         rintro e w3 ⟨rfl, hk3⟩
         have hb3 := HBX.out.later hk3
         clear b0 b1 b2 b3 b4 b5 b6 b7 b8 b9 b10 bf
         obtain ⟨b0, b1, b2, b3, b4, b5, b6, b7, b8, b9, b10, bf⟩ := cells11 hb3.blk
         simp only at b0 b1 b2 b3 b4 b5 b6 b7 b8 b9 b10
         clear hk3))
    have hcr : Good (crowned n) := crowned_good HG.out HT.out
    have hb4 := (hb3.set 6 (.int .i64 3) ⟨{ n with role := 3 }, .slice LA n.log.length LC, .slice VA n.votes.length VC, .slice NA n.next.length NC, .slice MA n.mtch.length MC⟩ rfl ⟨hb3.ok.log, hb3.ok.votes, hb3.ok.next, hb3.ok.mtch⟩)
    have hb4 := hb4.set 7 (.int .i64 n.id) ⟨{ n with role := 3, boss := n.id }, .slice LA n.log.length LC, .slice VA n.votes.length VC, .slice NA n.next.length NC, .slice MA n.mtch.length MC⟩ rfl ⟨hb4.ok.log, hb4.ok.votes, hb4.ok.next, hb4.ok.mtch⟩
    have hb4 := hb4.set 8 (.slice none 0 0) ⟨{ n with role := 3, boss := n.id, votes := [] }, .slice LA n.log.length LC, .slice none 0 0, .slice NA n.next.length NC, .slice MA n.mtch.length MC⟩ rfl ⟨hb4.ok.log, ⟨none, 0, 0, rfl, rfl, Nat.le_refl _, by simp [maxLen], fun h => by simp [intCells] at h⟩, hb4.ok.next, hb4.ok.mtch⟩
    obtain ⟨w4, hw4⟩ : ∃ w4, ((w3.setCell ⟨B, 6, none⟩ (.int .i64 3)).setCell ⟨B, 7, none⟩ (.int .i64 n.id)).setCell ⟨B, 8, none⟩ (.slice none 0 0) = w4 := ⟨_, rfl⟩
    rw [hw4] at hb4 ⊢
    have HB4 := Lib.hid hb4
    obtain ⟨N, hN⟩ : ∃ N : Nat, n.n = N := ⟨n.n.toNat, by omega⟩
    have HN := Lib.hid hN; have HCR := Lib.hid hcr
    have hN5 : N ≤ 5 := by omega
    have hwl : IntKind.i64.wrap ((n.log.length : Int) + 1) = (n.log.length : Int) + 1 := IntWalk.i64_in _ (by omega)
    clear b0 b1 b2 b3 b4 b5 b6 b7 b8 b9 b10 bf hw4 hb3 hb4 hcr
    obtain ⟨b0, b1, b2, b3, b4, b5, b6, b7, b8, b9, b10, bf⟩ := cells11 HB4.out.blk
    simp only at b0 b1 b2 b3 b4 b5 b6 b7 b8 b9 b10
    rw [hN] at b1
    clear hN
    refine Wf.wp_region_first (C := fun w' => Keeps (fun k => k = B) w4 w' ∧ w'.cell? ⟨B, 1, none⟩ = some (.int .i64 (N : Int)) ∧ w'.cell? ⟨B, 4, none⟩ = some (.slice LA n.log.length LC)) (by kernel_rfl) 99 ?_
    have HKF := Lib.hid (show Keeps Free w4 { w4 with drawn := w4.drawn + 1 } from (Keeps.refl Free w4).drew)
    obtain ⟨W, hW⟩ : ∃ W : World, W = { w4 with drawn := w4.drawn + 1 } := ⟨_, rfl⟩
    rw [← hW] at HKF ⊢
    clear hW
    have hcls : ∀ W', Keeps Free w4 W' → Keeps (fun k => k = B) w4 W' ∧ W'.cell? ⟨B, 1, none⟩ = some (.int .i64 (N : Int)) ∧ W'.cell? ⟨B, 4, none⟩ = some (.slice LA n.log.length LC) := fun W' hk => ⟨hk.mono (fun _ h => h.elim), hk.cell (fun h => h) b1, hk.cell (fun h => h) b4⟩
    have HCLS := Lib.hid hcls
    clear b0 b1 b2 b3 b4 b5 b6 b7 b8 b9 b10 bf hcls
    apply Wf.wpAnyP_stays (by kernel_rfl) [0, 1, 2, 3, 4, 5, 7, 8] _ _ _ 6 _ (HCLS.out _ HKF.out) (by kernel_rfl) ?hs ?hr
    case hs =>
      apply Wf.wpStays_step rfl rfl
      · intro w' hw'
        obtain ⟨_, e1, e4⟩ := hw'
        go_simp
        exact ⟨rfl, rfl⟩
      go_simp
      apply Wf.wpStays_step rfl rfl
      · intro w' hw'
        obtain ⟨_, e1, e4⟩ := hw'
        go_simp
        exact ⟨rfl, rfl⟩
      go_simp
      apply Wf.wpStays_step rfl rfl
      · intro w' hw'
        obtain ⟨_, e1, e4⟩ := hw'
        go_simp
        exact ⟨rfl, rfl⟩
      go_simp
      apply Wf.wpStays_step rfl rfl
      · intro w' hw'
        obtain ⟨_, e1, e4⟩ := hw'
        go_simp
        exact ⟨rfl, rfl⟩
      go_simp
      apply Wf.wpStays_step rfl rfl
      · intro w' hw'
        obtain ⟨_, e1, e4⟩ := hw'
        go_simp
        exact ⟨rfl, rfl⟩
      go_simp
      apply Wf.wpStays_step rfl rfl
      · intro w' hw'
        obtain ⟨_, e1, e4⟩ := hw'
        go_simp
        exact ⟨rfl, rfl⟩
      go_simp
      apply Wf.wpStays_step rfl rfl
      · intro w' hw'
        obtain ⟨_, e1, e4⟩ := hw'
        go_simp
        exact ⟨rfl, rfl⟩
      go_simp
      apply Wf.wpStays_step rfl rfl
      · intro w' hw'
        obtain ⟨_, e1, e4⟩ := hw'
        go_simp
        exact ⟨rfl, rfl⟩
      go_simp
      exact rfl
    case hr =>
      apply Wf.wpAnyP_one (i := 6) (fuel := 5) (by kernel_rfl) rfl rfl
      go_simp
      refine (copy_any (w := W) ((n.log.length : Int) + 1) N (by omega)).mono ?_
      rintro e w5 ⟨A5, C5, rfl, hs5, hk5⟩
      have HK5 := Lib.hid (HKF.out.trans hk5 (fun _ h => .inl h)); have HS5 := Lib.hid hs5
      have hz5 := HKF.out.size
      clear hk5 hs5
      refine ⟨_, rfl, HCLS.out _ HK5.out, ?_⟩
      go_simp
      apply Wf.wpAnyP_stays (by kernel_rfl) [10] _ _ _ 4 _ (HCLS.out _ HK5.out) (by kernel_rfl) ?hs ?hr
      case hs =>
        apply Wf.wpStays_step rfl rfl
        · intro w' hw'
          obtain ⟨_, e1, e4⟩ := hw'
          go_simp
          exact ⟨rfl, rfl⟩
        go_simp
        exact rfl
      case hr =>
        apply Wf.wpAnyP_one (i := 9) (fuel := 3) (by kernel_rfl) rfl rfl
        go_simp
        refine (copy_any (w := w5) 0 N (by omega)).mono ?_
        rintro e w6 ⟨A6, C6, rfl, hs6, hk6⟩
        have HK6 := Lib.hid (HK5.out.trans hk6 (fun _ h => .inl h)); have HS6 := Lib.hid hs6
        have HS56 := Lib.hid (HS5.out.keep hk6 (fun _ _ h => h.elim))
        have hz6 := HK5.out.size
        clear hk6 hs6
        refine ⟨_, rfl, HCLS.out _ HK6.out, ?_⟩
        have hb6 := HB4.out.later HK6.out
        have hrl := HB4.out.rlt
        have hs9 : Sl w6 (fun k => Q k ∨ (B ≤ k ∧ k ≤ B + 1)) (.slice A5 N C5) 1 (intCells (List.replicate N ((n.log.length : Int) + 1))) := HS56.out.weak fun k _ h => by have := HB4.out.oldS k h; omega
        have hs10 : Sl w6 (fun k => Q k ∨ (B ≤ k ∧ k ≤ B + 1)) (.slice A6 N C6) 1 (intCells (List.replicate N 0)) := HS6.out.weak fun k _ h => by have := HB4.out.oldS k h; omega
        have hcw : crowned n = { n with role := 3, boss := n.id, votes := [], next := List.replicate N ((n.log.length : Int) + 1), mtch := List.replicate N 0 } := by unfold crowned; rw [HN.out]; rfl
        have hb7 := hb6.set 9 (.slice A5 N C5) ⟨{ n with role := 3, boss := n.id, votes := [], next := List.replicate N ((n.log.length : Int) + 1) }, .slice LA n.log.length LC, .slice none 0 0, .slice A5 N C5, .slice MA n.mtch.length MC⟩ rfl ⟨hb6.ok.log, hb6.ok.votes, hs9, hb6.ok.mtch⟩
        have hb8 := hb7.set 10 (.slice A6 N C6) ⟨crowned n, .slice LA n.log.length LC, .slice none 0 0, .slice A5 N C5, .slice A6 N C6⟩ (by rw [hcw]; rfl) (by rw [hcw]; exact ⟨hb7.ok.log, hb7.ok.votes, hb7.ok.next, hs10.into ((Keeps.refl (fun k => k = B) w6).setCell (p := ⟨B, 9, none⟩) (.inl rfl) _) (fun k _ e => .inr ⟨by omega, by omega⟩) (fun _ _ h => h)⟩)
        obtain ⟨b0, b1, b2, b3, b4, b5, b6, b7, b8, b9, b10, bf⟩ := cells11 hb6.blk
        simp only at b0 b1 b2 b3 b4 b5 b6 b7 b8 b9 b10
        have hc9 : Keeps (fun k => k = B) w4 (w6.setCell ⟨B, 9, none⟩ (.slice A5 N C5)) ∧ (w6.setCell ⟨B, 9, none⟩ (.slice A5 N C5)).cell? ⟨B, 1, none⟩ = some (.int .i64 (N : Int)) ∧ (w6.setCell ⟨B, 9, none⟩ (.slice A5 N C5)).cell? ⟨B, 4, none⟩ = some (.slice LA n.log.length LC) := by
          obtain ⟨_, c1, _, _, c4, _⟩ := cells11 hb7.blk
          exact ⟨(HK6.out.mono (S' := fun k => k = B) (fun _ h => h.elim)).setCell (p := ⟨B, 9, none⟩) (.inl rfl) _, by rw [← HN.out]; exact c1, c4⟩
        have hc10 : Keeps (fun k => k = B) w4 ((w6.setCell ⟨B, 9, none⟩ (.slice A5 N C5)).setCell ⟨B, 10, none⟩ (.slice A6 N C6)) ∧ ((w6.setCell ⟨B, 9, none⟩ (.slice A5 N C5)).setCell ⟨B, 10, none⟩ (.slice A6 N C6)).cell? ⟨B, 1, none⟩ = some (.int .i64 (N : Int)) ∧ ((w6.setCell ⟨B, 9, none⟩ (.slice A5 N C5)).setCell ⟨B, 10, none⟩ (.slice A6 N C6)).cell? ⟨B, 4, none⟩ = some (.slice LA n.log.length LC) := by
          obtain ⟨_, c1, _, _, c4, _⟩ := cells11 hb8.blk
          exact ⟨hc9.1.setCell (p := ⟨B, 10, none⟩) (.inl rfl) _, by rw [← HN.out]; exact c1, c4⟩
        have HB8 := Lib.hid hb8; have HC9 := Lib.hid hc9; have HC10 := Lib.hid hc10
        clear hb6 hb7 hb8 hs9 hs10 hc9 hc10 hcw
        go_simp
        apply Wf.wpAnyP_one (i := 11) (fuel := 2) (by kernel_rfl) rfl rfl
        go_simp
        refine ⟨HC9.out, ?_⟩
        apply Wf.wpAnyP_one (i := 12) (fuel := 1) (by kernel_rfl) rfl rfl
        go_simp
        refine ⟨HC9.out, ?_⟩
        apply Wf.wpAnyP_one (i := 13) (fuel := 0) (by kernel_rfl) rfl rfl
        go_simp
        refine ⟨HC10.out, ?_⟩
        refine ⟨by kernel_rfl, ?_⟩
        obtain ⟨w8, hw8⟩ : ∃ w8, (w6.setCell ⟨B, 9, none⟩ (.slice A5 N C5)).setCell ⟨B, 10, none⟩ (.slice A6 N C6) = w8 := ⟨_, rfl⟩
        rw [hw8] at HB8 ⊢
        clear hw8 HC9 HC10 HK6 HS6 HS56 HS5 HK5
        clear b0 b1 b2 b3 b4 b5 b6 b7 b8 b9 b10 bf
        obtain ⟨b0, b1, b2, b3, b4, b5, b6, b7, b8, b9, b10, bf⟩ := cells11 HB8.out.blk
        obtain ⟨hft, _⟩ := HCR.out.fit rfl
        have hput := putR_any HB8.out.ok HB8.out.oldS hft HCR.out.commitn HCR.out.rise (by have := HCR.out.term0; have h9 : (crowned n).term ≠ 0 := HT.out; simp only at *; omega) 0
        have hrl8 := HB8.out.rlt
        clear hft
        generalize crowned n = y at *
        simp only [nodCells] at hput b0 b1 b2 b3 b4 b5 b6 b7 b8 b9 b10
        have HPUT := Lib.hid hput
        clear hput
        go_wp2_with (first
          | (go_at_call 68
             refine HPUT.out.mono ?_
             rintro e w9 ⟨⟨x3, lv3, vv3, nv3, mv3⟩, ov, out, rfl, hx3, hso, hok3, hms, hk9⟩
             obtain ⟨LA3, LC3, VA3, VC3, NA3, NC3, MA3, MC3, e1, e2, e3, e4⟩ := hok3.shape
             simp only at e1 e2 e3 e4 hx3
             subst e1 e2 e3 e4
             have HX3 := Lib.hid hx3; have HSO := Lib.hid hso
             have hres := hk9.blk HB8.out.res
             simp only [nodCells]
             obtain ⟨wf, hwf, hfb, hfk⟩ := put11l (v0 := .int .i64 x3.id) (v1 := .int .i64 x3.n) (v2 := .int .i64 x3.term) (v3 := .int .i64 x3.vote) (v4 := .slice LA3 x3.log.length LC3) (v5 := .int .i64 x3.commit) (v6 := .int .i64 x3.role) (v7 := .int .i64 x3.boss) (v8 := .slice VA3 x3.votes.length VC3) (v9 := .slice NA3 x3.next.length NC3) (v10 := .slice MA3 x3.mtch.length MC3) hres rfl
             have FIN := Lib.hid (HB8.out.pass hk9 hok3 hms hfk)
             clear b0 b1 b2 b3 b4 b5 b6 b7 b8 b9 b10 bf
             obtain ⟨r0, r1, r2, r3, r4, r5, r6, r7, r8, r9, r10, rf⟩ := cells11 hres
             clear hx3 hso hk9 hms hok3 hfk hres))
        obtain ⟨q0, q1, q2, q3, q4, q5, q6, q7, q8, q9, q10, qf⟩ := cells11 hfb
        clear hfb
        refine bodyPost_ret (v := .tuple #[.agg #[.int .i64 x3.id, .int .i64 x3.n, .int .i64 x3.term, .int .i64 x3.vote, .slice LA3 x3.log.length LC3, .int .i64 x3.commit, .int .i64 x3.role, .int .i64 x3.boss, .slice VA3 x3.votes.length VC3, .slice NA3 x3.next.length NC3, .slice MA3 x3.mtch.length MC3], ov]) (by simp [results, Try.results63, go_sem, q0, q1, q2, q3, q4, q5, q6, q7, q8, q9, q10]) rfl ?_
        rw [HLE.out, HLS.out, ← HX3.out, ← HSO.out]
        exact FIN.out
end Go.Proofs.Ytibjbpakbfodaaa
