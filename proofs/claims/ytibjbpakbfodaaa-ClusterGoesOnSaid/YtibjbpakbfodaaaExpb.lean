/- Receive, walked: what it hands back is what the plain model says. -/
import Derived.Test.YtibjbpakbfodaaaExpa
namespace Go.Proofs.Ytibjbpakbfodaaa
open Go.RowKit

theorem putSays_terms {x : Nod} (c : Int) (h : Good (put x c)) : ∀ m ∈ putSays x c, ∀ it ∈ m.items, 1 ≤ it.term := by
  intro m hm it hit
  obtain ⟨k, _, rfl⟩ := List.mem_map.1 hm
  exact h.sends_terms hit

theorem leadSays_terms {x : Nod} (h : Good x) (ht : x.term ≠ 0) : ∀ m ∈ leadSays x, ∀ it ∈ m.items, 1 ≤ it.term := by
  unfold leadSays
  split
  · exact putSays_terms 0 (put_good 0 (crowned_good h ht) ht)
  · intro m hm; simp at hm

theorem timeout_terms {x : Nod} (h : Good x) : ∀ m ∈ (timeout x).2, ∀ it ∈ m.items, 1 ≤ it.term := by
  unfold timeout
  split
  · intro m hm; simp at hm
  · have h0 := h.term0
    intro m hm it hit
    rcases List.mem_append.1 hm with hm | hm
    · obtain ⟨k, _, rfl⟩ := List.mem_map.1 hm
      simp [asks] at hit
    · exact leadSays_terms (stood_good h (by omega) (by omega)) (by show x.term + 1 ≠ 0; omega) m hm it hit

/-- What is so of a node that takes a message in. -/
theorem received_fits {x : Nod} {m : Mes} (hx : Good x) (hl : lost x m = false) : Good (if x.term < m.term then follow x m.term 0 else x) ∧ Fits (if x.term < m.term then follow x m.term 0 else x) m := by
  have hf := fits_of_lost hl
  split
  · exact ⟨follow_good hx hf.termn (by omega) (by have := hx.n1; omega), { hf with }⟩
  · exact ⟨hx, hf⟩

/-- What a node does with a message by its kind. -/
def turned (y : Nod) (m : Mes) : Nod × List Mes := if m.kind = 1 then asked y m else if m.kind = 2 then voted y m else if m.kind = 3 then appended y m else told y m

theorem receive_turned {x : Nod} {m : Mes} (hw : wrong x = 0) (hl : lost x m = false) : receive x m = turned (if x.term < m.term then follow x m.term 0 else x) m := by
  unfold receive turned
  rw [if_neg (by rw [hl]; simp; exact hw)]

theorem turned_terms {y : Nod} {m : Mes} (h : Good y) (hf : Fits y m) : ∀ s ∈ (turned y m).2, ∀ it ∈ s.items, 1 ≤ it.term := by
  have h0 := h.term0
  unfold turned
  split
  · intro s hs it hit; simp [asked] at hs; subst hs; simp at hit
  split
  · unfold voted
    split
    · intro s hs; simp at hs
    · rename_i hc
      have hr : y.role = 2 := by omega
      exact leadSays_terms (x := { y with votes := insertB m.src y.votes }) { h with votes0 := fun _ => hr, votes := insertB_ok hf.src1 hf.srcn _ _ (by have := hf.src1; omega) h.votes } (h.fresh (by omega))
  split
  · unfold appended
    split
    · intro s hs it hit; simp at hs; subst hs; simp [says] at hit
    · simp only
      split
      · intro s hs it hit; simp at hs; subst hs; simp [says] at hit
      · intro s hs it hit; simp at hs; subst hs; simp [says] at hit
  · have hg := told_good h hf
    unfold told at hg ⊢
    split
    · intro s hs; simp at hs
    rename_i hc
    rw [if_neg hc] at hg
    split
    · rename_i hyes
      rw [if_pos hyes] at hg
      intro s hs it hit
      simp only at hs
      split at hs
      · simp at hs; subst hs; exact Good.sends_terms hg hit
      · simp at hs
    · rename_i hno
      rw [if_neg hno] at hg
      intro s hs it hit
      simp only at hs
      simp at hs; subst hs; exact Good.sends_terms hg hit

set_option maxRecDepth 100000 in
set_option maxHeartbeats 8000000 in
theorem receive_any {w : World} {Q : Nat → Prop} {x : NodV} {m : MesV} (h0 : NodeOk w Q x) (hQ : ∀ k, Q k → k < w.heap.size) (hm : MesOk w Free m) :
    Calls Try.prog 30 #[.agg (nodCells x).toArray, .agg (mesCells m).toArray] w (Hands w Q (receive x.n m.m).1 (receive x.n m.m).2) := by
  have HN0 := Lib.hid h0
  have HQQ := Lib.hid hQ
  have h : NodeOk w Free x := h0.into (Keeps.refl Free w) (fun _ _ h => h.elim) (fun _ _ h => h.elim)
  clear h0 hQ
  have hwr : ∀ w1, Keeps Free w w1 → Calls Try.prog 18 #[.agg (nodCells x).toArray] w1 fun e w' => e = .returned (.int .i64 (wrong x.n)) ∧ Keeps Free w1 w' := fun w1 hk => wrong_any (h.into hk (fun _ _ h => h) (fun _ _ h => h))
  have HW := Lib.hid hwr
  have H := Lib.hid h
  obtain ⟨n, lv, vv, nv, mv⟩ := x
  obtain ⟨⟨LA, LL, LC, rfl, hll, -⟩, ⟨VA, VL, VC, rfl, -⟩, ⟨NA, NL, NC, rfl, -⟩, ⟨MA, ML, MC, rfl, -⟩⟩ := h
  simp only [nodCells] at HW
  simp only [nodCells]
  obtain rfl : LL = n.log.length := by rw [itemCells_length] at hll; simp only at hll; omega
  clear hwr hll
  have HM := Lib.hid hm
  obtain ⟨m, iv⟩ := m
  obtain ⟨IA, IL, IC, rfl, hil, -⟩ := hm
  obtain rfl : IL = m.items.length := by rw [itemCells_length] at hil; simp only at hil; omega
  simp only [mesCells]
  clear hil
  go_enter Try.func30, Try.ntmps30
  go_wp2_with fail
  have k0 : Keeps Free w (((w.alloc (.cells #[.int .i64 n.id, .int .i64 n.n, .int .i64 n.term, .int .i64 n.vote, .slice LA n.log.length LC, .int .i64 n.commit, .int .i64 n.role, .int .i64 n.boss, .slice VA VL VC, .slice NA NL NC, .slice MA ML MC] 25)).alloc (.cells #[.int .i64 m.kind, .int .i64 m.src, .int .i64 m.dst, .int .i64 m.term, .int .i64 m.index, .int .i64 m.logTerm, .int .i64 m.commit, .slice IA m.items.length IC, .bool m.yes] 38)).alloc (.cells zero11 25)) := (((Keeps.refl _ w).alloc _).alloc _).alloc _
  have k2 : (((w.alloc (.cells #[.int .i64 n.id, .int .i64 n.n, .int .i64 n.term, .int .i64 n.vote, .slice LA n.log.length LC, .int .i64 n.commit, .int .i64 n.role, .int .i64 n.boss, .slice VA VL VC, .slice NA NL NC, .slice MA ML MC] 25)).alloc (.cells #[.int .i64 m.kind, .int .i64 m.src, .int .i64 m.dst, .int .i64 m.term, .int .i64 m.index, .int .i64 m.logTerm, .int .i64 m.commit, .slice IA m.items.length IC, .bool m.yes] 38)).alloc (.cells zero11 25)).heap[w.heap.size + 2]? = some (.cells zero11 25) := by
    have := heap_alloc2 (w.alloc (.cells #[.int .i64 n.id, .int .i64 n.n, .int .i64 n.term, .int .i64 n.vote, .slice LA n.log.length LC, .int .i64 n.commit, .int .i64 n.role, .int .i64 n.boss, .slice VA VL VC, .slice NA NL NC, .slice MA ML MC] 25)) (.cells #[.int .i64 m.kind, .int .i64 m.src, .int .i64 m.dst, .int .i64 m.term, .int .i64 m.index, .int .i64 m.logTerm, .int .i64 m.commit, .slice IA m.items.length IC, .bool m.yes] 38) (.cells zero11 25)
    rwa [World.size_alloc] at this
  have ka : Keeps (fun _ => False) ((w.alloc (.cells #[.int .i64 n.id, .int .i64 n.n, .int .i64 n.term, .int .i64 n.vote, .slice LA n.log.length LC, .int .i64 n.commit, .int .i64 n.role, .int .i64 n.boss, .slice VA VL VC, .slice NA NL NC, .slice MA ML MC] 25)).alloc (.cells #[.int .i64 m.kind, .int .i64 m.src, .int .i64 m.dst, .int .i64 m.term, .int .i64 m.index, .int .i64 m.logTerm, .int .i64 m.commit, .slice IA m.items.length IC, .bool m.yes] 38)) (((w.alloc (.cells #[.int .i64 n.id, .int .i64 n.n, .int .i64 n.term, .int .i64 n.vote, .slice LA n.log.length LC, .int .i64 n.commit, .int .i64 n.role, .int .i64 n.boss, .slice VA VL VC, .slice NA NL NC, .slice MA ML MC] 25)).alloc (.cells #[.int .i64 m.kind, .int .i64 m.src, .int .i64 m.dst, .int .i64 m.term, .int .i64 m.index, .int .i64 m.logTerm, .int .i64 m.commit, .slice IA m.items.length IC, .bool m.yes] 38)).alloc (.cells zero11 25)) := (Keeps.refl _ _).alloc _
  have k1 := ka.blk (two_boxes w (.cells #[.int .i64 n.id, .int .i64 n.n, .int .i64 n.term, .int .i64 n.vote, .slice LA n.log.length LC, .int .i64 n.commit, .int .i64 n.role, .int .i64 n.boss, .slice VA VL VC, .slice NA NL NC, .slice MA ML MC] 25) (.cells #[.int .i64 m.kind, .int .i64 m.src, .int .i64 m.dst, .int .i64 m.term, .int .i64 m.index, .int .i64 m.logTerm, .int .i64 m.commit, .slice IA m.items.length IC, .bool m.yes] 38)).2.1
  have k3 := ka.blk (two_boxes w (.cells #[.int .i64 n.id, .int .i64 n.n, .int .i64 n.term, .int .i64 n.vote, .slice LA n.log.length LC, .int .i64 n.commit, .int .i64 n.role, .int .i64 n.boss, .slice VA VL VC, .slice NA NL NC, .slice MA ML MC] 25) (.cells #[.int .i64 m.kind, .int .i64 m.src, .int .i64 m.dst, .int .i64 m.term, .int .i64 m.index, .int .i64 m.logTerm, .int .i64 m.commit, .slice IA m.items.length IC, .bool m.yes] 38)).2.2
  refine (HW.out _ k0).mono ?_
  rintro e w3 ⟨rfl, hk3⟩
  have hkk := k0.trans hk3 (fun _ h => .inl h)
  have hb1 := hk3.blk k1
  have hb2 := hk3.blk k2
  have hb3 := hk3.blk k3
  have HK := Lib.hid hkk
  clear k0 k1 k2 k3 ka hk3 hkk
  have hlt : w.heap.size + 2 < w3.heap.size := (Array.getElem?_eq_some_iff.1 hb2).1
  generalize hB : w.heap.size = B at *
  obtain ⟨b0, b1, b2, b3, b4, b5, b6, b7, b8, b9, b10, bf⟩ := cells11 hb1
  obtain ⟨r0, r1, r2, r3, r4, r5, r6, r7, r8, r9, r10, rf⟩ := cells11 hb2
  cases hq1 : (wrong n != 0)
  case true =>
    have hc : wrong n ≠ 0 ∨ lost n m = true := by simp only [bne_iff_ne] at hq1; exact .inl hq1
    have hbt : receive n m = (n, []) := by unfold receive; rw [if_pos hc]
    have fin : ∀ (w' : World), Keeps (fun k => k = B + 2) w3 w' → Hands w Q (receive n m).1 (receive n m).2 (.returned (.tuple #[.agg #[.int .i64 n.id, .int .i64 n.n, .int .i64 n.term, .int .i64 n.vote, .slice LA n.log.length LC, .int .i64 n.commit, .int .i64 n.role, .int .i64 n.boss, .slice VA VL VC, .slice NA NL NC, .slice MA ML MC], .slice none 0 0])) w' := fun w' hk => by
      have hkw := HK.out.trans hk fun k hk => .inr (by omega)
      rw [hbt]
      exact ⟨⟨n, .slice LA n.log.length LC, .slice VA VL VC, .slice NA NL NC, .slice MA ML MC⟩, .slice none 0 0, [], rfl, rfl, rfl, HN0.out.into hkw (fun _ _ h => h.elim) (fun _ _ h => h), noMsgs _ _, hkw⟩
    obtain ⟨wf, hwf, hfb, hfk⟩ := put11 (v0 := .int .i64 n.id) (v1 := .int .i64 n.n) (v2 := .int .i64 n.term) (v3 := .int .i64 n.vote) (v4 := .slice LA n.log.length LC) (v5 := .int .i64 n.commit) (v6 := .int .i64 n.role) (v7 := .int .i64 n.boss) (v8 := .slice VA VL VC) (v9 := .slice NA NL NC) (v10 := .slice MA ML MC) hb2 rfl
    simp only [sets] at hwf
    obtain ⟨q0, q1, q2, q3, q4, q5, q6, q7, q8, q9, q10, qf⟩ := cells11 hfb
    have FIN := Lib.hid fin
    clear fin hbt hc
    go_wp2_with fail
    refine bodyPost_ret (v := (.tuple #[.agg #[.int .i64 n.id, .int .i64 n.n, .int .i64 n.term, .int .i64 n.vote, .slice LA n.log.length LC, .int .i64 n.commit, .int .i64 n.role, .int .i64 n.boss, .slice VA VL VC, .slice NA NL NC, .slice MA ML MC], .slice none 0 0])) (by simp [results, Try.results30, go_sem, q0, q1, q2, q3, q4, q5, q6, q7, q8, q9, q10]) rfl ?_
    exact FIN.out _ hfk
  case false =>
    have hw0 : wrong n = 0 := by simpa using hq1
    have hma : MesAt w3 (fun k => w3.heap.size ≤ k) (B + 1) ⟨m, .slice IA m.items.length IC⟩ := ⟨hb3, by omega, HM.out.into HK.out (fun _ _ h => h) fun k h1 h2 => by omega⟩
    have hlo := lost_any (x := n) hma b0 b1
    have HMA := Lib.hid hma
    have HLO := Lib.hid hlo
    clear hma hlo hb3
    go_wp2_with fail
    refine HLO.out.mono ?_
    rintro e w4 ⟨rfl, hk4⟩
    have hb1' := hk4.blk hb1
    have hb2' := hk4.blk hb2
    have HK4 := Lib.hid (HK.out.trans hk4 (fun _ h => .inl h))
    have HMA4 := Lib.hid (HMA.out.keep hk4 fun _ _ h => h.elim)
    have hlt' : B + 2 < w4.heap.size := Nat.lt_of_lt_of_le hlt hk4.size
    have HSZ4 := Lib.hid hk4.size
    clear hb1 hb2 hk4 HMA HLO b0 b1 b2 b3 b4 b5 b6 b7 b8 b9 b10 bf r0 r1 r2 r3 r4 r5 r6 r7 r8 r9 r10 rf hq1
    obtain ⟨b0, b1, b2, b3, b4, b5, b6, b7, b8, b9, b10, bf⟩ := cells11 hb1'
    obtain ⟨r0, r1, r2, r3, r4, r5, r6, r7, r8, r9, r10, rf⟩ := cells11 hb2'
    clear hb1'
    cases hlost : lost n m
    case true =>
      have hc : wrong n ≠ 0 ∨ lost n m = true := .inr hlost
      have hbt : receive n m = (n, []) := by unfold receive; rw [if_pos hc]
      have fin : ∀ (w' : World), Keeps (fun k => k = B + 2) w4 w' → Hands w Q (receive n m).1 (receive n m).2 (.returned (.tuple #[.agg #[.int .i64 n.id, .int .i64 n.n, .int .i64 n.term, .int .i64 n.vote, .slice LA n.log.length LC, .int .i64 n.commit, .int .i64 n.role, .int .i64 n.boss, .slice VA VL VC, .slice NA NL NC, .slice MA ML MC], .slice none 0 0])) w' := fun w' hk => by
        have hkw := HK4.out.trans hk fun k hk => .inr (by omega)
        rw [hbt]
        exact ⟨⟨n, .slice LA n.log.length LC, .slice VA VL VC, .slice NA NL NC, .slice MA ML MC⟩, .slice none 0 0, [], rfl, rfl, rfl, HN0.out.into hkw (fun _ _ h => h.elim) (fun _ _ h => h), noMsgs _ _, hkw⟩
      obtain ⟨wf, hwf, hfb, hfk⟩ := put11 (v0 := .int .i64 n.id) (v1 := .int .i64 n.n) (v2 := .int .i64 n.term) (v3 := .int .i64 n.vote) (v4 := .slice LA n.log.length LC) (v5 := .int .i64 n.commit) (v6 := .int .i64 n.role) (v7 := .int .i64 n.boss) (v8 := .slice VA VL VC) (v9 := .slice NA NL NC) (v10 := .slice MA ML MC) hb2' rfl
      simp only [sets] at hwf
      obtain ⟨q0, q1, q2, q3, q4, q5, q6, q7, q8, q9, q10, qf⟩ := cells11 hfb
      have FIN := Lib.hid fin
      clear fin hbt hc
      go_wp2_with fail
      refine bodyPost_ret (v := (.tuple #[.agg #[.int .i64 n.id, .int .i64 n.n, .int .i64 n.term, .int .i64 n.vote, .slice LA n.log.length LC, .int .i64 n.commit, .int .i64 n.role, .int .i64 n.boss, .slice VA VL VC, .slice NA NL NC, .slice MA ML MC], .slice none 0 0])) (by simp [results, Try.results30, go_sem, q0, q1, q2, q3, q4, q5, q6, q7, q8, q9, q10]) rfl ?_
      exact FIN.out _ hfk
    case false =>
      have g := good_of_wrong hw0
      have hbg := begin_any (H.out.into HK4.out (fun _ _ h => h) (fun _ _ h => h)) g.log60 (Nat.le_trans g.votes_len (by omega)) (Nat.le_trans g.next_len (by omega)) (Nat.le_trans g.mtch_len (by omega))
      simp only [nodCells] at hbg
      have HG := Lib.hid g; have HBG := Lib.hid hbg; have HL := Lib.hid hlost; have HW0 := Lib.hid hw0
      clear g hbg hw0
      go_wp2_with fail
      refine HBG.out.mono ?_
      rintro e w5 ⟨p, x5, S5, rfl, hp, hx5, hk5, hS5⟩
      have hn5 : x5.n = n := hx5
      have hz5 := hk5.blk hb2'
      have hR5 : ¬ S5 (B + 2) := fun h => by have := hS5 _ h; omega
      have HK5 := Lib.hid (HK4.out.trans hk5 (fun _ h => .inl h))
      have hm5 := (HMA4.out.keep hk5 fun _ _ h => h.elim)
      have hm5 : MesAt w5 S5 (B + 1) ⟨m, .slice IA m.items.length IC⟩ := ⟨hm5.blk, fun h => by have := hS5 _ h; have := hm5.bS; omega, hm5.ok.into (Keeps.refl Free w5) (fun _ _ h => h.elim) fun k _ h => Nat.le_trans HSZ4.out (hS5 k h)⟩
      have c2 : w5.cell? ⟨p, 2, none⟩ = some (.int .i64 n.term) := by rw [← hn5]; exact hp.cell 2
      obtain ⟨d0, d1, d2, d3, d4, d5, d6, d7, d8⟩ := hm5.cells
      have HP5 := Lib.hid hp; have HM5 := Lib.hid hm5; have HN5 := Lib.hid hn5; have HS5 := Lib.hid hS5; have HZ5 := Lib.hid hz5; have HR5 := Lib.hid hR5; have HH := Lib.hid H.out
      clear b0 b1 b2 b3 b4 b5 b6 b7 b8 b9 b10 bf r0 r1 r2 r3 r4 r5 r6 r7 r8 r9 r10 rf hb2' hp hx5 hk5 hS5 hz5 hR5 hm5 hn5 H HW HBG hlost d0 d1 d2 d4 d5 d6 d7 d8
      go_upto_region 4 with fail
      go_cut [23] (fun s wx => s = .bool (decide (n.term < m.term)) ∧ Keeps (fun _ => False) w5 wx)
      case first =>
        cases hd : decide (n.term < m.term)
        all_goals
          go_quiet (fail)
          have HD := Lib.hid hd
          clear hd
          go_wp2_with fail
          go_meet
          exact ⟨by rw [HD.out], (Keeps.refl _ _).drewN _⟩
      case rest =>
        obtain ⟨wo, rfl⟩ : ∃ wo : World, wo = wc := ⟨_, rfl⟩
        obtain ⟨rfl, hk6⟩ := hcut
        have hp6 := HP5.out.later hk6
        have hm6 := HM5.out.keep hk6 fun _ _ h => h.elim
        have hz6 := hk6.blk HZ5.out
        have HK6 := Lib.hid (HK5.out.trans hk6 (fun _ h => .inl h))
        have d3' := hm6.cells.2.2.2.1
        have HP6 := Lib.hid hp6; have HM6 := Lib.hid hm6; have HZ6 := Lib.hid hz6; have HS6 := Lib.hid hk6.size
        clear c2 d3 hp6 hm6 hz6 hk6
        go_upto_if 23 with fail
        go_cut [27] (fun _ wx => ∃ x7, Peer wx S5 p x7 (.slice none 0 0) [] ∧ x7.n = (if n.term < m.term then follow n m.term 0 else n) ∧ Keeps S5 wo wx)
        case first =>
          by_cases hd : n.term < m.term
          · have HD := Lib.hid (show (if n.term < m.term then follow n m.term 0 else n) = follow n m.term 0 from if_pos hd)
            go_wp2_with (go_at_call 69; refine (follow_any HP6.out m.term 0).mono ?_; rintro e w7 ⟨rfl, hp7, hk7⟩)
            go_meet
            exact ⟨_, hp7, by rw [HN5.out, HD.out], hk7⟩
          · have HD := Lib.hid (show (if n.term < m.term then follow n m.term 0 else n) = n from if_neg hd)
            go_wp2_with fail
            go_meet
            exact ⟨_, HP6.out, by rw [HN5.out, HD.out], Keeps.refl _ _⟩
        case rest =>
          obtain ⟨w6, rfl⟩ : ∃ w6 : World, w6 = wo := ⟨_, rfl⟩
          obtain ⟨w7, rfl⟩ : ∃ w7 : World, w7 = wc := ⟨_, rfl⟩
          obtain ⟨x7, hp7, hx7, hk7⟩ := hcut
          have hz7 := (hk7.block (B + 2) (Array.getElem?_eq_some_iff.1 HZ6.out).1 HR5.out).trans HZ6.out
          have hm7 := HM6.out.keep hk7 fun _ _ h => h
          have HK7 := Lib.hid (HK6.out.trans hk7 fun k hk => .inr (Nat.le_trans HK4.out.size (HS5.out k hk)))
          obtain ⟨d0, d1, d2, d3, d4, d5, d6, d7, d8⟩ := hm7.cells
          obtain ⟨hgy, hfy⟩ := received_fits HG.out HL.out
          have hre := receive_turned HW0.out HL.out
          obtain ⟨y, hy⟩ : ∃ y, y = (if n.term < m.term then follow n m.term 0 else n) := ⟨_, rfl⟩
          rw [← hy] at hgy hfy hre hx7
          have HG7 := Lib.hid hgy; have HF7 := Lib.hid hfy; have HRE := Lib.hid hre; have HX7 := Lib.hid hx7; have HP7 := Lib.hid hp7; have HM7 := Lib.hid hm7; have HZ7 := Lib.hid hz7; have HS7 := Lib.hid hk7.size
          clear hgy hfy hre hx7 hp7 hm7 hz7 hk7 hy d1 d2 d3 d4 d5 d6 d7 d8 d3'
          have kd1 := HF7.out.kind1
          have kd4 := HF7.out.kind4
          by_cases h1 : m.kind = 1
          · have b1 : (m.kind == 1) = true := by simpa using h1
            have ht : turned y m = asked y m := by unfold turned; rw [if_pos h1]
            have HT := Lib.hid ht
            clear ht h1 kd1 kd4
            go_upto_region 15 with (go_at_call 72; refine (asked_any HP7.out HM7.out (by rw [HX7.out]; exact HG7.out.log60) (by simp)).mono ?_; rintro e w8 ⟨rfl, S8, x8, ov8, ms, hp8, hq8, hk8, hS8⟩)
            rw [List.nil_append] at hp8
            rw [HX7.out, ← HT.out] at hq8
            have hz8 := (hk8.block (B + 2) (Array.getElem?_eq_some_iff.1 HZ7.out).1 HR5.out).trans HZ7.out
            have hR8 : ¬ S8 (B + 2) := fun h => (hS8 _ h).elim HR5.out fun h => by have := (Array.getElem?_eq_some_iff.1 HZ7.out).1; omega
            have HL8 : Hid (∀ k, S8 k → B ≤ k) := Lib.hid fun k hk => (hS8 _ hk).elim (fun h => by have := HS5.out _ h; omega) fun h => by have := (Array.getElem?_eq_some_iff.1 HZ7.out).1; omega
            have HK8 := Lib.hid (HK7.out.trans hk8 fun k hk => .inr (Nat.le_trans HK4.out.size (HS5.out k hk)))
            obtain ⟨r0, r1, r2, r3, r4, r5, r6, r7, r8, r9, r10, rf⟩ := cells11 hz8
            obtain ⟨LA, LC, VA, VC, NA, NC, MA, MC, OA, OC, e1, e2, e3, e4, e5, c0, c1, c2, c3, c4, c5, c6, c7, c8, c9, c10, c11, cf, hpl⟩ := hp8.open_
            have HP8 := Lib.hid hp8; have HQ8 := Lib.hid hq8
            have hne : p ≠ B + 2 := fun e => hR8 (e ▸ hp8.pS)
            clear hp8 hq8 hk8 hS8 d0
            go_upto_region 15 with fail
            go_region
            go_wp2_with fail
            obtain ⟨wf, hwf, hfb, hfk⟩ := put11 (v0 := .int .i64 x8.n.id) (v1 := .int .i64 x8.n.n) (v2 := .int .i64 x8.n.term) (v3 := .int .i64 x8.n.vote) (v4 := .slice LA x8.n.log.length LC) (v5 := .int .i64 x8.n.commit) (v6 := .int .i64 x8.n.role) (v7 := .int .i64 x8.n.boss) (v8 := .slice VA x8.n.votes.length VC) (v9 := .slice NA x8.n.next.length NC) (v10 := .slice MA x8.n.mtch.length MC) hz8 rfl
            simp only [sets] at hwf
            rw [hwf]
            obtain ⟨q0, q1, q2, q3, q4, q5, q6, q7, q8, q9, q10, qf⟩ := cells11 hfb
            have hx8 : x8.n = (turned y m).1 := by rw [← HQ8.out]
            have hs8 : said ms = (turned y m).2 := by rw [← HQ8.out]
            have hd := HP8.out.doneQ HL8.out HQQ.out hR8 hz8 (by rw [hs8]; exact turned_terms HG7.out HF7.out) hfk
            refine bodyPost_ret (v := .tuple #[.agg (nodCells x8).toArray, ov8]) (by simp [results, Try.results30, go_sem, nodCells, q0, q1, q2, q3, q4, q5, q6, q7, q8, q9, q10, e1, e2, e3, e4, e5]) rfl ?_
            exact ⟨x8, ov8, ms, rfl, by rw [HRE.out, hx8], by rw [HRE.out, hs8], hd.1.into (Keeps.refl Free wf).drew (fun _ _ h => h.elim) (fun _ _ h => h), hd.2.into (Keeps.refl Free wf).drew (fun _ _ h => h.elim) (fun _ _ h => h), (HK8.out.trans hfk fun k hk => .inr (by omega)).drew⟩
          · have b1 : (m.kind == 1) = false := by simpa using h1
            by_cases h2 : m.kind = 2
            · have b2 : (m.kind == 2) = true := by simpa using h2
              have ht : turned y m = voted y m := by unfold turned; rw [if_neg h1, if_pos h2]
              have HT := Lib.hid ht
              have HH1 := Lib.hid h1
              clear ht h1 h2 kd1 kd4
              go_upto_region 15 with (go_at_call 73; refine (voted_any HP7.out HM7.out (by rw [HX7.out]; exact (votesOk_rising _ _ HG7.out.votes).1) (by rw [HX7.out]; exact Nat.le_trans HG7.out.votes_len (by omega)) (N := y.n.toNat) (by rw [HX7.out]; have := HG7.out.n1; omega) (by have := HG7.out.n5; omega) (by rw [HX7.out]; exact HG7.out.id1) (by rw [HX7.out]; have := HG7.out.idn; have := HG7.out.n1; omega) (by rw [HX7.out]; exact HG7.out.log60) (by rw [HX7.out]; exact HG7.out.commit0) (by simp)).mono ?_; rintro e w8 ⟨rfl, S8, x8, ov8, ms, hp8, hq8, hk8, hS8⟩)
              rw [List.nil_append] at hp8
              rw [HX7.out, ← HT.out] at hq8
              have hz8 := (hk8.block (B + 2) (Array.getElem?_eq_some_iff.1 HZ7.out).1 HR5.out).trans HZ7.out
              have hR8 : ¬ S8 (B + 2) := fun h => (hS8 _ h).elim HR5.out fun h => by have := (Array.getElem?_eq_some_iff.1 HZ7.out).1; omega
              have HL8 : Hid (∀ k, S8 k → B ≤ k) := Lib.hid fun k hk => (hS8 _ hk).elim (fun h => by have := HS5.out _ h; omega) fun h => by have := (Array.getElem?_eq_some_iff.1 HZ7.out).1; omega
              have HK8 := Lib.hid (HK7.out.trans hk8 fun k hk => .inr (Nat.le_trans HK4.out.size (HS5.out k hk)))
              obtain ⟨r0, r1, r2, r3, r4, r5, r6, r7, r8, r9, r10, rf⟩ := cells11 hz8
              obtain ⟨LA, LC, VA, VC, NA, NC, MA, MC, OA, OC, e1, e2, e3, e4, e5, c0, c1, c2, c3, c4, c5, c6, c7, c8, c9, c10, c11, cf, hpl⟩ := hp8.open_
              have HP8 := Lib.hid hp8; have HQ8 := Lib.hid hq8
              have hne : p ≠ B + 2 := fun e => hR8 (e ▸ hp8.pS)
              clear hp8 hq8 hk8 hS8 d0
              go_upto_region 15 with fail
              go_region
              go_wp2_with fail
              obtain ⟨wf, hwf, hfb, hfk⟩ := put11 (v0 := .int .i64 x8.n.id) (v1 := .int .i64 x8.n.n) (v2 := .int .i64 x8.n.term) (v3 := .int .i64 x8.n.vote) (v4 := .slice LA x8.n.log.length LC) (v5 := .int .i64 x8.n.commit) (v6 := .int .i64 x8.n.role) (v7 := .int .i64 x8.n.boss) (v8 := .slice VA x8.n.votes.length VC) (v9 := .slice NA x8.n.next.length NC) (v10 := .slice MA x8.n.mtch.length MC) hz8 rfl
              simp only [sets] at hwf
              rw [hwf]
              obtain ⟨q0, q1, q2, q3, q4, q5, q6, q7, q8, q9, q10, qf⟩ := cells11 hfb
              have hx8 : x8.n = (turned y m).1 := by rw [← HQ8.out]
              have hs8 : said ms = (turned y m).2 := by rw [← HQ8.out]
              have hd := HP8.out.doneQ HL8.out HQQ.out hR8 hz8 (by rw [hs8]; exact turned_terms HG7.out HF7.out) hfk
              refine bodyPost_ret (v := .tuple #[.agg (nodCells x8).toArray, ov8]) (by simp [results, Try.results30, go_sem, nodCells, q0, q1, q2, q3, q4, q5, q6, q7, q8, q9, q10, e1, e2, e3, e4, e5]) rfl ?_
              exact ⟨x8, ov8, ms, rfl, by rw [HRE.out, hx8], by rw [HRE.out, hs8], hd.1.into (Keeps.refl Free wf).drew (fun _ _ h => h.elim) (fun _ _ h => h), hd.2.into (Keeps.refl Free wf).drew (fun _ _ h => h.elim) (fun _ _ h => h), (HK8.out.trans hfk fun k hk => .inr (by omega)).drew⟩
            · have b2 : (m.kind == 2) = false := by simpa using h2
              by_cases h3 : m.kind = 3
              · have b3 : (m.kind == 3) = true := by simpa using h3
                have ht : turned y m = appended y m := by unfold turned; rw [if_neg h1, if_neg h2, if_pos h3]
                have HT := Lib.hid ht
                clear ht h1 h2 h3 kd1 kd4
                go_upto_region 15 with (go_at_call 74; refine (appended_any HP7.out HM7.out (by rw [HX7.out]; exact HG7.out.log60) HF7.out.index0 HF7.out.items60 (by rw [HX7.out]; exact HG7.out.commit0) (by rw [HX7.out]; have := HG7.out.commitn; have := HG7.out.log60; omega) (by simp)).mono ?_; rintro e w8 ⟨rfl, S8, x8, ov8, ms, hp8, hq8, hk8, hS8⟩)
                rw [List.nil_append] at hp8
                rw [HX7.out, ← HT.out] at hq8
                have hz8 := (hk8.block (B + 2) (Array.getElem?_eq_some_iff.1 HZ7.out).1 HR5.out).trans HZ7.out
                have hR8 : ¬ S8 (B + 2) := fun h => (hS8 _ h).elim HR5.out fun h => by have := (Array.getElem?_eq_some_iff.1 HZ7.out).1; omega
                have HL8 : Hid (∀ k, S8 k → B ≤ k) := Lib.hid fun k hk => (hS8 _ hk).elim (fun h => by have := HS5.out _ h; omega) fun h => by have := (Array.getElem?_eq_some_iff.1 HZ7.out).1; omega
                have HK8 := Lib.hid (HK7.out.trans hk8 fun k hk => .inr (Nat.le_trans HK4.out.size (HS5.out k hk)))
                obtain ⟨r0, r1, r2, r3, r4, r5, r6, r7, r8, r9, r10, rf⟩ := cells11 hz8
                obtain ⟨LA, LC, VA, VC, NA, NC, MA, MC, OA, OC, e1, e2, e3, e4, e5, c0, c1, c2, c3, c4, c5, c6, c7, c8, c9, c10, c11, cf, hpl⟩ := hp8.open_
                have HP8 := Lib.hid hp8; have HQ8 := Lib.hid hq8
                have hne : p ≠ B + 2 := fun e => hR8 (e ▸ hp8.pS)
                clear hp8 hq8 hk8 hS8 d0
                go_upto_region 15 with fail
                go_region
                go_wp2_with fail
                obtain ⟨wf, hwf, hfb, hfk⟩ := put11 (v0 := .int .i64 x8.n.id) (v1 := .int .i64 x8.n.n) (v2 := .int .i64 x8.n.term) (v3 := .int .i64 x8.n.vote) (v4 := .slice LA x8.n.log.length LC) (v5 := .int .i64 x8.n.commit) (v6 := .int .i64 x8.n.role) (v7 := .int .i64 x8.n.boss) (v8 := .slice VA x8.n.votes.length VC) (v9 := .slice NA x8.n.next.length NC) (v10 := .slice MA x8.n.mtch.length MC) hz8 rfl
                simp only [sets] at hwf
                rw [hwf]
                obtain ⟨q0, q1, q2, q3, q4, q5, q6, q7, q8, q9, q10, qf⟩ := cells11 hfb
                have hx8 : x8.n = (turned y m).1 := by rw [← HQ8.out]
                have hs8 : said ms = (turned y m).2 := by rw [← HQ8.out]
                have hd := HP8.out.doneQ HL8.out HQQ.out hR8 hz8 (by rw [hs8]; exact turned_terms HG7.out HF7.out) hfk
                refine bodyPost_ret (v := .tuple #[.agg (nodCells x8).toArray, ov8]) (by simp [results, Try.results30, go_sem, nodCells, q0, q1, q2, q3, q4, q5, q6, q7, q8, q9, q10, e1, e2, e3, e4, e5]) rfl ?_
                exact ⟨x8, ov8, ms, rfl, by rw [HRE.out, hx8], by rw [HRE.out, hs8], hd.1.into (Keeps.refl Free wf).drew (fun _ _ h => h.elim) (fun _ _ h => h), hd.2.into (Keeps.refl Free wf).drew (fun _ _ h => h.elim) (fun _ _ h => h), (HK8.out.trans hfk fun k hk => .inr (by omega)).drew⟩
              · have b3 : (m.kind == 3) = false := by simpa using h3
                have b4 : (m.kind == 4) = true := by simp; omega
                have ht : turned y m = told y m := by unfold turned; rw [if_neg h1, if_neg h2, if_neg h3]
                have hj : m.src = ((m.src - 1).toNat : Int) + 1 := by have := HF7.out.src1; omega
                have HT := Lib.hid ht; have HJ := Lib.hid hj
                clear ht h1 h2 h3 kd1 kd4 hj
                go_upto_region 15 with (go_at_call 75; refine (told_any HP7.out HM7.out (N := y.n.toNat) (by rw [HX7.out]; exact HG7.out.fit) HJ.out (by have := HF7.out.src1; have := HF7.out.srcn; omega) HF7.out.index0 HF7.out.index60 (by simp)).mono ?_; rintro e w8 ⟨rfl, S8, x8, ov8, ms, hp8, hq8, hk8, hS8⟩)
                rw [List.nil_append] at hp8
                rw [HX7.out, ← HT.out] at hq8
                have hz8 := (hk8.block (B + 2) (Array.getElem?_eq_some_iff.1 HZ7.out).1 HR5.out).trans HZ7.out
                have hR8 : ¬ S8 (B + 2) := fun h => (hS8 _ h).elim HR5.out fun h => by have := (Array.getElem?_eq_some_iff.1 HZ7.out).1; omega
                have HL8 : Hid (∀ k, S8 k → B ≤ k) := Lib.hid fun k hk => (hS8 _ hk).elim (fun h => by have := HS5.out _ h; omega) fun h => by have := (Array.getElem?_eq_some_iff.1 HZ7.out).1; omega
                have HK8 := Lib.hid (HK7.out.trans hk8 fun k hk => .inr (Nat.le_trans HK4.out.size (HS5.out k hk)))
                obtain ⟨r0, r1, r2, r3, r4, r5, r6, r7, r8, r9, r10, rf⟩ := cells11 hz8
                obtain ⟨LA, LC, VA, VC, NA, NC, MA, MC, OA, OC, e1, e2, e3, e4, e5, c0, c1, c2, c3, c4, c5, c6, c7, c8, c9, c10, c11, cf, hpl⟩ := hp8.open_
                have HP8 := Lib.hid hp8; have HQ8 := Lib.hid hq8
                have hne : p ≠ B + 2 := fun e => hR8 (e ▸ hp8.pS)
                clear hp8 hq8 hk8 hS8 d0
                go_upto_region 15 with fail
                go_region
                go_wp2_with fail
                obtain ⟨wf, hwf, hfb, hfk⟩ := put11 (v0 := .int .i64 x8.n.id) (v1 := .int .i64 x8.n.n) (v2 := .int .i64 x8.n.term) (v3 := .int .i64 x8.n.vote) (v4 := .slice LA x8.n.log.length LC) (v5 := .int .i64 x8.n.commit) (v6 := .int .i64 x8.n.role) (v7 := .int .i64 x8.n.boss) (v8 := .slice VA x8.n.votes.length VC) (v9 := .slice NA x8.n.next.length NC) (v10 := .slice MA x8.n.mtch.length MC) hz8 rfl
                simp only [sets] at hwf
                rw [hwf]
                obtain ⟨q0, q1, q2, q3, q4, q5, q6, q7, q8, q9, q10, qf⟩ := cells11 hfb
                have hx8 : x8.n = (turned y m).1 := by rw [← HQ8.out]
                have hs8 : said ms = (turned y m).2 := by rw [← HQ8.out]
                have hd := HP8.out.doneQ HL8.out HQQ.out hR8 hz8 (by rw [hs8]; exact turned_terms HG7.out HF7.out) hfk
                refine bodyPost_ret (v := .tuple #[.agg (nodCells x8).toArray, ov8]) (by simp [results, Try.results30, go_sem, nodCells, q0, q1, q2, q3, q4, q5, q6, q7, q8, q9, q10, e1, e2, e3, e4, e5]) rfl ?_
                exact ⟨x8, ov8, ms, rfl, by rw [HRE.out, hx8], by rw [HRE.out, hs8], hd.1.into (Keeps.refl Free wf).drew (fun _ _ h => h.elim) (fun _ _ h => h), hd.2.into (Keeps.refl Free wf).drew (fun _ _ h => h.elim) (fun _ _ h => h), (HK8.out.trans hfk fun k hk => .inr (by omega)).drew⟩
end Go.Proofs.Ytibjbpakbfodaaa
