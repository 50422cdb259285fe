/- Timeout, walked: what it hands back is what the plain model says. -/
import Derived.Test.YtibjbpakbfodaaaExpb
import Derived.Test.YtibjbpakbfodaaaFirst
namespace Go.Proofs.Ytibjbpakbfodaaa
open Go.RowKit

/-- A candidate: its fields, and the new row with its own vote. -/
theorem Peer.stand {w w' : World} {S : Nat → Prop} {p : Nat} {x : NodV} {ov : Value} {out : List MesV} (h : Peer w S p x ov out) {g : Nat} (hk : Keeps (fun k => k = p) w w')
    (hbg : w'.heap[g]? = some (.cells #[.int .i64 x.n.id] 3 (0, 0))) (h1 : w.heap.size ≤ g)
    (hb : w'.heap[p]? = some (.cells (nodCells ⟨stood x.n, x.lv, .slice (some ⟨g, 0, none⟩) 1 1, x.nv, x.mv⟩ ++ [ov]).toArray 79 (0, 0))) :
    Peer w' (fun k => S k ∨ k = g) p ⟨stood x.n, x.lv, .slice (some ⟨g, 0, none⟩) 1 1, x.nv, x.mv⟩ ov out ∧ Keeps S w w' ∧ ∀ k, (S k ∨ k = g) → S k ∨ w.heap.size ≤ k := by
  have hS : Keeps S w w' := hk.mono (fun k e => .inl (e ▸ h.pS))
  have hpl := h.lt p h.pS
  have hlt' : g < w'.heap.size := (Array.getElem?_eq_some_iff.1 hbg).1
  have mv : ∀ {base e size : Nat} {v : Value} {n : Nat} {xs : List Value}, w.ownsRow base e size v n xs → v.ownBlock ≠ some p → w'.ownsRow base e size v n xs := fun hr hne =>
    own_keep hr fun g hg => hk.block g (own_lt hr hg) (fun e => hne (by rw [hg, e]))
  refine ⟨{ blk := hb, log := mv h.log h.log_ne, votes := ?_, next := mv h.next h.next_ne, mtch := mv h.mtch h.mtch_ne, outs := mv h.outs h.out_ne, items := fun m hm => ?_, late := h.late, pS := .inl h.pS,
            lS := fun g hg => .inl (h.lS g hg), vS := fun k hg => ?_, nS := fun g hg => .inl (h.nS g hg), mS := fun g hg => .inl (h.mS g hg), oS := fun g hg => .inl (h.oS g hg), vn := fun k hg hg' => ?_, vm := fun k hg hg' => ?_,
            nm := h.nm, lt := fun k hk' => ?_ }, hS, fun k hk' => ?_⟩
  · exact ⟨rfl, .inr ⟨g, 1, _, rfl, Nat.zero_le _, hbg, Nat.le_refl _, by simp [maxLen], rfl, rfl⟩⟩
  · refine (h.items m hm).into hS (fun _ _ h => h) fun k hlt hk' => ?_
    rcases hk' with h2 | h2
    · exact h2
    · omega
  · simp [Value.ownBlock] at hg; exact .inr hg.symm
  · simp [Value.ownBlock] at hg; have := h.lt k (h.nS k hg'); omega
  · simp [Value.ownBlock] at hg; have := h.lt k (h.mS k hg'); omega
  · rcases hk' with h2 | h2
    · exact Nat.lt_of_lt_of_le (h.lt k h2) hk.size
    · rw [h2]; exact hlt'
  · rcases hk' with h2 | h2
    · exact .inl h2
    · exact .inr (by omega)


/-- A node at work, four of whose fields are being written. -/
structure Stand (w6 : World) (p : Nat) (x : NodV) (c3 c6 c7 c8 : Value) (w : World) : Prop where
  keeps : Keeps (fun k => k = p) w6 w
  blk : w.heap[p]? = some (.cells #[.int .i64 x.n.id, .int .i64 x.n.n, .int .i64 (x.n.term + 1), c3, x.lv, .int .i64 x.n.commit, c6, c7, c8, x.nv, x.mv, .slice none 0 0] 79 (0, 0))


theorem Stand.set3 {w6 w : World} {p : Nat} {x : NodV} {c3 c6 c7 c8 : Value} (h : Stand w6 p x c3 c6 c7 c8 w) (u : Value) : Stand w6 p x u c6 c7 c8 (w.setCell ⟨p, 3, none⟩ u) := ⟨h.keeps.setCell (p := ⟨p, 3, none⟩) (.inl rfl) u, (setCell_blk h.blk).trans rfl⟩
theorem Stand.set6 {w6 w : World} {p : Nat} {x : NodV} {c3 c6 c7 c8 : Value} (h : Stand w6 p x c3 c6 c7 c8 w) (u : Value) : Stand w6 p x c3 u c7 c8 (w.setCell ⟨p, 6, none⟩ u) := ⟨h.keeps.setCell (p := ⟨p, 6, none⟩) (.inl rfl) u, (setCell_blk h.blk).trans rfl⟩
theorem Stand.set7 {w6 w : World} {p : Nat} {x : NodV} {c3 c6 c7 c8 : Value} (h : Stand w6 p x c3 c6 c7 c8 w) (u : Value) : Stand w6 p x c3 c6 u c8 (w.setCell ⟨p, 7, none⟩ u) := ⟨h.keeps.setCell (p := ⟨p, 7, none⟩) (.inl rfl) u, (setCell_blk h.blk).trans rfl⟩
theorem Stand.set8 {w6 w : World} {p : Nat} {x : NodV} {c3 c6 c7 c8 : Value} (h : Stand w6 p x c3 c6 c7 c8 w) (u : Value) : Stand w6 p x c3 c6 c7 u (w.setCell ⟨p, 8, none⟩ u) := ⟨h.keeps.setCell (p := ⟨p, 8, none⟩) (.inl rfl) u, (setCell_blk h.blk).trans rfl⟩
theorem Stand.laid {w6 w : World} {p : Nat} {x : NodV} {c3 c6 c7 c8 : Value} (h : Stand w6 p x c3 c6 c7 c8 w) (o : Obj) : Stand w6 p x c3 c6 c7 c8 (w.alloc o) := ⟨h.keeps.alloc o, ((Keeps.refl (fun _ => False) w).alloc o).blk h.blk⟩
theorem other_blk {w : World} {p g k : Nat} {u : Value} {o : Obj} (h : w.heap[g]? = some o) (hne : g ≠ p) : (w.setCell ⟨p, k, none⟩ u).heap[g]? = some o := (Below.heap_setCell _ _ _ _ hne).trans h
theorem laid_lt {w : World} {g : Nat} {o : Obj} (h : w.heap[g]? = some o) : g < w.heap.size := (Array.getElem?_eq_some_iff.1 h).1

theorem call59 (args : Array Value) (w : World) : (callFunc 59 args).run Try.prog w = .ok (.enter 59 args) w := by kernel_rfl

theorem lead_both {w : World} {S : Nat → Prop} {p : Nat} {x : NodV} {ov : Value} {out : List MesV} (h : Peer w S p x ov out) (hv : x.n.votes.length ≤ 60) {N : Nat} (hN : x.n.n = N) (hN5 : N ≤ 5)
    (hid1 : 1 ≤ x.n.id) (hidn : x.n.id ≤ N) (hl : x.n.log.length ≤ 60) (hcm : 0 ≤ x.n.commit) (hout : out.length ≤ 90) :
    Calls Try.prog 62 #[.pointer (some ⟨p, 0, none⟩)] w fun e w' => e = .returned (.tuple #[]) ∧
      ∃ S' x' ov' ms, Peer w' S' p x' ov' (out ++ ms) ∧ x'.n = lead x.n ∧ said ms = leadSays x.n ∧ Keeps S w w' ∧ ∀ k, S' k → S k ∨ w.heap.size ≤ k := by
  by_cases hy : x.n.n < 2 * (x.n.votes.length : Int)
  · refine (lead_yes h hv hy hN hN5 hid1 hidn hl hcm hout).mono ?_
    rintro e w' ⟨he, S', x', ov', ms, h1, h2, h3, h4, h5⟩
    exact ⟨he, S', x', ov', ms, h1, by rw [h2]; unfold lead; rw [if_pos hy], by rw [h3]; unfold leadSays; rw [if_pos hy], h4, h5⟩
  · refine (lead_no h hv hy).mono ?_
    rintro e w' ⟨he, rfl⟩
    exact ⟨he, S, x, ov, [], by rw [List.append_nil]; exact h, by unfold lead; rw [if_neg hy], by unfold leadSays; rw [if_neg hy]; rfl, Keeps.refl _ _, fun k hk => .inl hk⟩

theorem Stand.peer {w5 w6 w : World} {S : Nat → Prop} {p g : Nat} {x : NodV} (h : Peer w5 S p x (.slice none 0 0) []) (hk : Keeps (fun k => k = p) w5 w6) (hs : Stand w6 p x (.int .i64 x.n.id) (.int .i64 2) (.int .i64 0) (.slice (some ⟨g, 0, none⟩) 1 1) w)
    (hg : w6.heap.size ≤ g) (hb : w.heap[g]? = some (.cells #[.int .i64 x.n.id] 3 (0, 0))) :
    ∃ x5 S5, Peer w S5 p x5 (.slice none 0 0) [] ∧ x5.n = stood x.n ∧ Keeps S w5 w ∧ ∀ k, S5 k → S k ∨ w5.heap.size ≤ k := by
  obtain ⟨r1, r2, r3⟩ := h.stand (hk.trans hs.keeps fun _ h => .inl h) hb (Nat.le_trans hk.size hg) hs.blk
  exact ⟨_, _, r1, rfl, r2, r3⟩

set_option maxRecDepth 100000 in
set_option maxHeartbeats 8000000 in
theorem timeout_any {w : World} {Q : Nat → Prop} {x : NodV} (h0 : NodeOk w Q x) (hQ : ∀ k, Q k → k < w.heap.size) :
    Calls Try.prog 20 #[.agg (nodCells x).toArray] w (Hands w Q (timeout x.n).1 (timeout x.n).2) := by
  have HN0 := Lib.hid h0
  have HQQ := Lib.hid hQ
  have h : NodeOk w Free x := h0.into (Keeps.refl Free w) (fun _ _ h => h.elim) (fun _ _ h => h.elim)
  clear h0 hQ
  have hwr : ∀ w1, Keeps Free w w1 → Calls Try.prog 18 #[.agg (nodCells x).toArray] w1 fun e w' => e = .returned (.int .i64 (wrong x.n)) ∧ Keeps Free w1 w' := fun w1 hk => wrong_any (h.into hk (fun _ _ h => h) (fun _ _ h => h))
  have HW := Lib.hid hwr
  have H := Lib.hid h
  obtain ⟨n, lv, vv, nv, mv⟩ := x
  obtain ⟨⟨LA, LL, LC, rfl, hll, -⟩, ⟨VA, VL, VC, rfl, -⟩, ⟨NA, NL, NC, rfl, -⟩, ⟨MA, ML, MC, rfl, -⟩⟩ := h
  simp only [nodCells] at HW
  simp only [nodCells]
  obtain rfl : LL = n.log.length := by rw [itemCells_length] at hll; simp only at hll; omega
  clear hwr hll
  go_enter Try.func20, Try.ntmps20
  go_wp2_with fail
  obtain ⟨k0, k1, k2⟩ := two_boxes w (.cells #[.int .i64 n.id, .int .i64 n.n, .int .i64 n.term, .int .i64 n.vote, .slice LA n.log.length LC, .int .i64 n.commit, .int .i64 n.role, .int .i64 n.boss, .slice VA VL VC, .slice NA NL NC, .slice MA ML MC] 25) (.cells zero11 25)
  refine (HW.out _ k0).mono ?_
  rintro e w3 ⟨rfl, hk3⟩
  have hkk := k0.trans hk3 (fun _ h => .inl h)
  have hb1 := hk3.blk k1
  have hb2 := hk3.blk k2
  have HK := Lib.hid hkk
  clear k0 k1 k2 hk3 hkk
  have hlt : w.heap.size + 1 < w3.heap.size := (Array.getElem?_eq_some_iff.1 hb2).1
  generalize hB : w.heap.size = B at *
  obtain ⟨b0, b1, b2, b3, b4, b5, b6, b7, b8, b9, b10, bf⟩ := cells11 hb1
  obtain ⟨r0, r1, r2, r3, r4, r5, r6, r7, r8, r9, r10, rf⟩ := cells11 hb2
  cases hq : (wrong n != 0) || (n.role == 3) || (n.term == 1000000)
  case true =>
    have hc : wrong n ≠ 0 ∨ n.role = 3 ∨ n.term = 1000000 := by
      simp only [Bool.or_eq_true, bne_iff_ne, beq_iff_eq] at hq; omega
    have hbt : timeout n = (n, []) := by unfold timeout; rw [if_pos hc]
    have fin : ∀ (w' : World), Keeps (fun k => k = B + 1) w3 w' → Hands w Q (timeout n).1 (timeout n).2 (.returned (.tuple #[.agg #[.int .i64 n.id, .int .i64 n.n, .int .i64 n.term, .int .i64 n.vote, .slice LA n.log.length LC, .int .i64 n.commit, .int .i64 n.role, .int .i64 n.boss, .slice VA VL VC, .slice NA NL NC, .slice MA ML MC], .slice none 0 0])) w' := fun w' hk => by
      have hkw := HK.out.trans hk fun k hk => .inr (by omega)
      rw [hbt]
      exact ⟨⟨n, .slice LA n.log.length LC, .slice VA VL VC, .slice NA NL NC, .slice MA ML MC⟩, .slice none 0 0, [], rfl, rfl, rfl, HN0.out.into hkw (fun _ _ h => h.elim) (fun _ _ h => h), noMsgs _ _, hkw⟩
    obtain ⟨wf, hwf, hfb, hfk⟩ := put11 (v0 := .int .i64 n.id) (v1 := .int .i64 n.n) (v2 := .int .i64 n.term) (v3 := .int .i64 n.vote) (v4 := .slice LA n.log.length LC) (v5 := .int .i64 n.commit) (v6 := .int .i64 n.role) (v7 := .int .i64 n.boss) (v8 := .slice VA VL VC) (v9 := .slice NA NL NC) (v10 := .slice MA ML MC) hb2 rfl
    simp only [sets] at hwf
    obtain ⟨q0, q1, q2, q3, q4, q5, q6, q7, q8, q9, q10, qf⟩ := cells11 hfb
    have FIN := Lib.hid fin
    clear fin hbt hc
    cases hq1 : (wrong n != 0)
    case true =>
      clear hq
      go_wp2_with fail
      refine bodyPost_ret (v := (.tuple #[.agg #[.int .i64 n.id, .int .i64 n.n, .int .i64 n.term, .int .i64 n.vote, .slice LA n.log.length LC, .int .i64 n.commit, .int .i64 n.role, .int .i64 n.boss, .slice VA VL VC, .slice NA NL NC, .slice MA ML MC], .slice none 0 0])) (by simp [results, Try.results20, go_sem, q0, q1, q2, q3, q4, q5, q6, q7, q8, q9, q10]) rfl ?_
      exact FIN.out _ hfk
    case false =>
      cases hq2 : (n.role == 3)
      case true =>
        clear hq
        go_wp2_with fail
        refine bodyPost_ret (v := (.tuple #[.agg #[.int .i64 n.id, .int .i64 n.n, .int .i64 n.term, .int .i64 n.vote, .slice LA n.log.length LC, .int .i64 n.commit, .int .i64 n.role, .int .i64 n.boss, .slice VA VL VC, .slice NA NL NC, .slice MA ML MC], .slice none 0 0])) (by simp [results, Try.results20, go_sem, q0, q1, q2, q3, q4, q5, q6, q7, q8, q9, q10]) rfl ?_
        exact FIN.out _ hfk
      case false =>
        have hq3 : (n.term == 1000000) = true := by rw [hq1, hq2] at hq; exact hq
        clear hq
        go_wp2_with fail
        refine bodyPost_ret (v := (.tuple #[.agg #[.int .i64 n.id, .int .i64 n.n, .int .i64 n.term, .int .i64 n.vote, .slice LA n.log.length LC, .int .i64 n.commit, .int .i64 n.role, .int .i64 n.boss, .slice VA VL VC, .slice NA NL NC, .slice MA ML MC], .slice none 0 0])) (by simp [results, Try.results20, go_sem, q0, q1, q2, q3, q4, q5, q6, q7, q8, q9, q10]) rfl ?_
        exact FIN.out _ hfk
  case false =>
    simp only [Bool.or_eq_false_iff, bne_eq_false_iff_eq] at hq
    have hw0 : wrong n = 0 := hq.1.1
    have hb : (wrong n != 0) = false := by rw [hw0]; rfl
    have hb' : (n.role == 3) = false := hq.1.2
    have hb'' : (n.term == 1000000) = false := hq.2
    clear hq
    have hr3 : n.role ≠ 3 := by simpa using hb'
    have htm : n.term ≠ 1000000 := by simpa using hb''
    have HR3 := Lib.hid hr3; have HTM := Lib.hid htm
    clear hr3 htm
    have g := good_of_wrong hw0
    have hbg := begin_any (H.out.into HK.out (fun _ _ h => h) (fun _ _ h => h)) g.log60 (Nat.le_trans g.votes_len (by omega)) (Nat.le_trans g.next_len (by omega)) (Nat.le_trans g.mtch_len (by omega))
    simp only [nodCells] at hbg
    have HG := Lib.hid g; have HBG := Lib.hid hbg
    clear g hbg
    go_wp2_with fail
    refine HBG.out.mono ?_
    rintro e w4 ⟨p, x4, S4, rfl, hp, hx4, hk4, hS4⟩
    clear b0 b1 b2 b3 b4 b5 b6 b7 b8 b9 b10 bf r0 r1 r2 r3 r4 r5 r6 r7 r8 r9 r10 rf hb1 HW HBG
    have hn4 : x4.n = n := hx4
    have HP := Lib.hid hp; have HK4 := Lib.hid (HK.out.trans hk4 (fun _ h => .inl h))
    have hz4 := hk4.blk hb2
    have hR4 : ¬ S4 (B + 1) := fun h => by have := hS4 _ h; omega
    have HS4 := Lib.hid hS4
    have HN4 := Lib.hid hn4
    have hlp := hp.lt p hp.pS
    clear hp hk4 hx4 hb2 hS4 hn4 hb hb' hb''
    have hk4a : Keeps (fun _ => False) w4 (w4.alloc (.cells #[.pointer (some ⟨p, 0, none⟩)] 76)) := (Keeps.refl _ w4).alloc _
    have hcb := heap_alloc_new w4 (.cells #[.pointer (some ⟨p, 0, none⟩)] 76)
    have hsz := World.size_alloc w4 (.cells #[.pointer (some ⟨p, 0, none⟩)] 76)
    obtain ⟨w5, hal⟩ : ∃ w5, w4.alloc (.cells #[.pointer (some ⟨p, 0, none⟩)] 76) = w5 := ⟨_, rfl⟩
    obtain ⟨cb, hcbe⟩ : ∃ cb, w4.heap.size = cb := ⟨_, rfl⟩
    rw [hal] at hk4a hcb hsz
    rw [hcbe] at hcb hsz
    have hp5 := HP.out.later hk4a
    have hz5 := hk4a.blk hz4
    have HK5 := Lib.hid (HK4.out.trans hk4a (fun _ h => .inl h))
    have hcbS : ¬ S4 cb := fun h => by have := HP.out.lt _ h; omega
    have g0 : w5.cell? ⟨cb, 0, none⟩ = some (.pointer (some ⟨p, 0, none⟩)) := cell_of_row w5 cb 0 _ _ _ hcb
    have c0 : w5.cell? ⟨p, 0, none⟩ = some (.int .i64 x4.n.id) := hp5.cell 0
    have c2 : w5.cell? ⟨p, 2, none⟩ = some (.int .i64 x4.n.term) := hp5.cell 2
    have cf := hp5.frozen
    have hne : p ≠ cb := by omega
    have hne' : cb ≠ p := by omega
    have hw : IntKind.i64.wrap (n.term + 1) = n.term + 1 := IntWalk.i64_in _ (by have := HG.out.term0; have := HG.out.termn; omega)
    rw [← HN4.out] at hw
    have hb6 := setCell_blk (k := 2) (u := .int .i64 (x4.n.term + 1)) hp5.cells12
    have g6 : (w5.setCell ⟨p, 2, none⟩ (.int .i64 (x4.n.term + 1))).cell? ⟨cb, 0, none⟩ = some (.pointer (some ⟨p, 0, none⟩)) := ((Keeps.refl (fun k => k = p) w5).setCell (p := ⟨p, 2, none⟩) (.inl rfl) _).cell hne' g0
    have hs6 := setCell_size w5 ⟨p, 2, none⟩ (.int .i64 (x4.n.term + 1))
    have hk6 : Keeps (fun k => k = p) w5 (w5.setCell ⟨p, 2, none⟩ (.int .i64 (x4.n.term + 1))) := (Keeps.refl (fun k => k = p) w5).setCell (p := ⟨p, 2, none⟩) (.inl rfl) _
    obtain ⟨w6, hset⟩ : ∃ w6, w5.setCell ⟨p, 2, none⟩ (.int .i64 (x4.n.term + 1)) = w6 := ⟨_, rfl⟩
    rw [hset] at hb6 g6 hs6 hk6
    have hb6 : w6.heap[p]? = some (.cells #[.int .i64 x4.n.id, .int .i64 x4.n.n, .int .i64 (x4.n.term + 1), .int .i64 x4.n.vote, x4.lv, .int .i64 x4.n.commit, .int .i64 x4.n.role, .int .i64 x4.n.boss, x4.vv, x4.nv, x4.mv, .slice none 0 0] 79 (0, 0)) := hb6
    obtain ⟨d0, d1, d2, d3, d4, d5, d6, d7, d8, d9, d10, d11, df⟩ := cells12 hb6
    obtain ⟨VA1, VC1, ev, _⟩ := own_slice hp5.votes
    rw [ev] at d8
    have hp6 : p < w6.heap.size := by omega
    have hc6 : cb < w6.heap.size := by omega
    have hpA : p ≠ cb + 1 := by omega
    have hpB : p < cb + 1 := by omega
    have hpC : ¬ cb + 1 = p := by omega
    have hpD : cb < cb + 1 := by omega
    have HP5 := Lib.hid hp5; have HB6 := Lib.hid hb6
    clear hk4a hp5 hz4 H hb6 d1 d2 d4 d5 d9 d10 d11
    go_upto_region 5 with fail
    clear hal hcbe c0 c2 cf g0 hw
    clear hne
    have HSET := Lib.hid hset; have HK6 := Lib.hid hk6; have HZ4 := Lib.hid hz5; have HR := Lib.hid hR4; have HG6 := Lib.hid g6; have HCS := Lib.hid hcbS; have HSZ := Lib.hid hsz; have HEV := Lib.hid ev; have HLT := Lib.hid hlt; have HBB := Lib.hid hB; have HPP := Lib.hid hlp
    have hs7 : w6.heap.size = cb + 1 := by omega
    clear hset hk6 hz5 hR4 hcbS hsz ev hlt hB hlp hs6 hp6 hc6 hw0 hpC hpD
    go_cut [44] (fun s wx => ∃ x5 S5, Peer wx S5 p x5 (.slice none 0 0) [] ∧ x5.n = stood x4.n ∧ Keeps S4 w5 wx ∧ ∀ k, S5 k → S4 k ∨ w5.heap.size ≤ k)
    case first =>
      have G1 : ∀ w', (∃ c3 c6 c7 c8, Stand w6 p x4 c3 c6 c7 c8 w') → w'.cell? ⟨cb, 0, none⟩ = some (.pointer (some ⟨p, 0, none⟩)) := fun w' ⟨_, _, _, _, h⟩ => h.keeps.cell hne' g6
      have G2 : ∀ w', (∃ c3 c6 c7 c8, Stand w6 p x4 c3 c6 c7 c8 w') → w'.cell? ⟨p, 0, none⟩ = some (.int .i64 x4.n.id) := fun w' ⟨_, _, _, _, h⟩ => (cells12 h.blk).1
      have HG1 := Lib.hid G1; have HG2 := Lib.hid G2
      clear G1 G2
      clear g6 d0 d3 d6 d7 d8 df hpA hpB hs7 hcb hne'
      refine wp_region_first (C := fun w' => ∃ c3 c6 c7 c8, Stand w6 p x4 c3 c6 c7 c8 w') (by kernel_rfl) ?_
      have hst0 : Stand w6 p x4 (.int .i64 x4.n.vote) (.int .i64 x4.n.role) (.int .i64 x4.n.boss) x4.vv { w6 with drawn := w6.drawn + 1 } := ⟨(Keeps.refl _ w6).drew, HB6.out⟩
      have HST := Lib.hid hst0
      clear hst0
      obtain ⟨W, hW⟩ : ∃ W : World, W = { w6 with drawn := w6.drawn + 1 } := ⟨_, rfl⟩
      rw [← hW] at HST ⊢
      clear hW hb6
      apply wpAnyP_stays (by kernel_rfl) [0, 1, 2, 3, 4, 5, 6, 7, 8, 9, 10, 11, 12, 13, 15, 16, 17] _ _ _ 14 _ ?hC (by kernel_rfl) ?hs ?hr
      case hC => exact ⟨_, _, _, _, HST.out⟩
      case hs =>
        apply wpStays_step rfl rfl
        · intro w' hw'
          have e1 := HG1.out w' hw'
          have e2 := HG2.out w' hw'
          clear hw'
          go_simp
          exact ⟨rfl, rfl⟩
        go_simp
        apply wpStays_step rfl rfl
        · intro w' hw'
          have e1 := HG1.out w' hw'
          have e2 := HG2.out w' hw'
          clear hw'
          go_simp
          exact ⟨rfl, rfl⟩
        go_simp
        apply wpStays_step rfl rfl
        · intro w' hw'
          have e1 := HG1.out w' hw'
          have e2 := HG2.out w' hw'
          clear hw'
          go_simp
          exact ⟨rfl, rfl⟩
        go_simp
        apply wpStays_step rfl rfl
        · intro w' hw'
          have e1 := HG1.out w' hw'
          have e2 := HG2.out w' hw'
          clear hw'
          go_simp
          exact ⟨rfl, rfl⟩
        go_simp
        apply wpStays_step rfl rfl
        · intro w' hw'
          have e1 := HG1.out w' hw'
          have e2 := HG2.out w' hw'
          clear hw'
          go_simp
          exact ⟨rfl, rfl⟩
        go_simp
        apply wpStays_step rfl rfl
        · intro w' hw'
          have e1 := HG1.out w' hw'
          have e2 := HG2.out w' hw'
          clear hw'
          go_simp
          exact ⟨rfl, rfl⟩
        go_simp
        apply wpStays_step rfl rfl
        · intro w' hw'
          have e1 := HG1.out w' hw'
          have e2 := HG2.out w' hw'
          clear hw'
          go_simp
          exact ⟨rfl, rfl⟩
        go_simp
        apply wpStays_step rfl rfl
        · intro w' hw'
          have e1 := HG1.out w' hw'
          have e2 := HG2.out w' hw'
          clear hw'
          go_simp
          exact ⟨rfl, rfl⟩
        go_simp
        apply wpStays_step rfl rfl
        · intro w' hw'
          have e1 := HG1.out w' hw'
          have e2 := HG2.out w' hw'
          clear hw'
          go_simp
          exact ⟨rfl, rfl⟩
        go_simp
        apply wpStays_step rfl rfl
        · intro w' hw'
          have e1 := HG1.out w' hw'
          have e2 := HG2.out w' hw'
          clear hw'
          go_simp
          exact ⟨rfl, rfl⟩
        go_simp
        apply wpStays_step rfl rfl
        · intro w' hw'
          have e1 := HG1.out w' hw'
          have e2 := HG2.out w' hw'
          clear hw'
          go_simp
          exact ⟨rfl, rfl⟩
        go_simp
        apply wpStays_step rfl rfl
        · intro w' hw'
          have e1 := HG1.out w' hw'
          have e2 := HG2.out w' hw'
          clear hw'
          go_simp
          exact ⟨rfl, rfl⟩
        go_simp
        apply wpStays_step rfl rfl
        · intro w' hw'
          have e1 := HG1.out w' hw'
          have e2 := HG2.out w' hw'
          clear hw'
          go_simp
          exact ⟨rfl, rfl⟩
        go_simp
        apply wpStays_step rfl rfl
        · intro w' hw'
          have e1 := HG1.out w' hw'
          have e2 := HG2.out w' hw'
          clear hw'
          go_simp
          exact ⟨rfl, rfl⟩
        go_simp
        apply wpStays_step rfl rfl
        · intro w' hw'
          have e1 := HG1.out w' hw'
          have e2 := HG2.out w' hw'
          clear hw'
          go_simp
          exact ⟨rfl, rfl⟩
        go_simp
        apply wpStays_step rfl rfl
        · intro w' hw'
          have e1 := HG1.out w' hw'
          have e2 := HG2.out w' hw'
          clear hw'
          go_simp
          exact ⟨rfl, rfl⟩
        go_simp
        apply wpStays_step rfl rfl
        · intro w' hw'
          have e1 := HG1.out w' hw'
          have e2 := HG2.out w' hw'
          clear hw'
          go_simp
          exact ⟨rfl, rfl⟩
        go_simp
        exact rfl
      case hr =>
        apply wpAnyP_two (i := 14) (k := 18) (fuel := 13) (by kernel_rfl) rfl rfl rfl rfl
        · go_simp
          refine ⟨⟨_, _, _, _, HST.out.laid _⟩, ?_⟩
          have hst' := HST.out.laid (.cells #[.int .i64 x4.n.id] 3)
          have hbt := heap_alloc_new W (.cells #[.int .i64 x4.n.id] 3)
          have hgs := HST.out.keeps.size
          have hpl := laid_lt HST.out.blk
          have hgp : W.heap.size ≠ p := by omega
          generalize W.alloc (.cells #[.int .i64 x4.n.id] 3) = W' at *
          generalize W.heap.size = gg at *
          have HST' := Lib.hid hst'; have HBT := Lib.hid hbt; have HGS := Lib.hid hgs; have HGP := Lib.hid hgp
          clear hst' hbt hgs hpl hgp HST
          obtain ⟨W, rfl⟩ : ∃ W, W = W' := ⟨_, rfl⟩
          obtain ⟨HST⟩ : Nonempty (Hid _) := ⟨HST'⟩
          clear HST'
          apply wpAnyP_one (i := 18) (fuel := 12) (by kernel_rfl) rfl rfl
          obtain ⟨f0, f1, f2, f3, f4, f5, f6, f7, f8, f9, f10, f11, ff⟩ := cells12 HST.out.blk
          clear f0 f1 f2 f4 f5 f9 f10 f11
          go_simp
          refine ⟨⟨_, _, _, _, HST.out.set6 _⟩, ?_⟩
          have hst' := HST.out.set6 (.int .i64 2)
          have hbt' := other_blk (k := 6) (u := (.int .i64 2)) HBT.out HGP.out
          generalize W.setCell ⟨p, 6, none⟩ (.int .i64 2) = W' at *
          have HST' := Lib.hid hst'
          have HBT' := Lib.hid hbt'
          clear hbt' HBT
          clear hst' HST f3 f6 f7 f8 ff
          obtain ⟨W, rfl⟩ : ∃ W, W = W' := ⟨_, rfl⟩
          obtain ⟨HST⟩ : Nonempty (Hid _) := ⟨HST'⟩
          clear HST'
          obtain ⟨HBT⟩ : Nonempty (Hid _) := ⟨HBT'⟩
          clear HBT'
          apply wpAnyP_stays (by kernel_rfl) [19, 20, 21] _ _ _ 9 _ ⟨_, _, _, _, HST.out⟩ (by kernel_rfl) ?hs ?hr
          case hs =>
            apply wpStays_step rfl rfl
            · intro w' hw'
              have e1 := HG1.out w' hw'
              have e2 := HG2.out w' hw'
              clear hw'
              go_simp
              exact ⟨rfl, rfl⟩
            go_simp
            apply wpStays_step rfl rfl
            · intro w' hw'
              have e1 := HG1.out w' hw'
              have e2 := HG2.out w' hw'
              clear hw'
              go_simp
              exact ⟨rfl, rfl⟩
            go_simp
            apply wpStays_step rfl rfl
            · intro w' hw'
              have e1 := HG1.out w' hw'
              have e2 := HG2.out w' hw'
              clear hw'
              go_simp
              exact ⟨rfl, rfl⟩
            go_simp
            exact rfl
          case hr =>
            apply wpAnyP_one (i := 22) (fuel := 8) (by kernel_rfl) rfl rfl
            obtain ⟨f0, f1, f2, f3, f4, f5, f6, f7, f8, f9, f10, f11, ff⟩ := cells12 HST.out.blk
            clear f0 f1 f2 f4 f5 f9 f10 f11
            go_simp
            refine ⟨⟨_, _, _, _, HST.out.set7 _⟩, ?_⟩
            have hst' := HST.out.set7 (.int .i64 0)
            have hbt' := other_blk (k := 7) (u := (.int .i64 0)) HBT.out HGP.out
            generalize W.setCell ⟨p, 7, none⟩ (.int .i64 0) = W' at *
            have HST' := Lib.hid hst'
            have HBT' := Lib.hid hbt'
            clear hbt' HBT
            clear hst' HST f3 f6 f7 f8 ff
            obtain ⟨W, rfl⟩ : ∃ W, W = W' := ⟨_, rfl⟩
            obtain ⟨HST⟩ : Nonempty (Hid _) := ⟨HST'⟩
            clear HST'
            obtain ⟨HBT⟩ : Nonempty (Hid _) := ⟨HBT'⟩
            clear HBT'
            apply wpAnyP_stays (by kernel_rfl) [23, 24, 25] _ _ _ 5 _ ⟨_, _, _, _, HST.out⟩ (by kernel_rfl) ?hs ?hr
            case hs =>
              apply wpStays_step rfl rfl
              · intro w' hw'
                have e1 := HG1.out w' hw'
                have e2 := HG2.out w' hw'
                clear hw'
                go_simp
                exact ⟨rfl, rfl⟩
              go_simp
              apply wpStays_step rfl rfl
              · intro w' hw'
                have e1 := HG1.out w' hw'
                have e2 := HG2.out w' hw'
                clear hw'
                go_simp
                exact ⟨rfl, rfl⟩
              go_simp
              apply wpStays_step rfl rfl
              · intro w' hw'
                have e1 := HG1.out w' hw'
                have e2 := HG2.out w' hw'
                clear hw'
                go_simp
                exact ⟨rfl, rfl⟩
              go_simp
              exact rfl
            case hr =>
              apply wpAnyP_one (i := 26) (fuel := 4) (by kernel_rfl) rfl rfl
              obtain ⟨f0, f1, f2, f3, f4, f5, f6, f7, f8, f9, f10, f11, ff⟩ := cells12 HST.out.blk
              clear f0 f1 f2 f4 f5 f9 f10 f11
              go_simp
              refine ⟨⟨_, _, _, _, HST.out.set3 _⟩, ?_⟩
              have hst' := HST.out.set3 (.int .i64 x4.n.id)
              have hbt' := other_blk (k := 3) (u := (.int .i64 x4.n.id)) HBT.out HGP.out
              generalize W.setCell ⟨p, 3, none⟩ (.int .i64 x4.n.id) = W' at *
              have HST' := Lib.hid hst'
              have HBT' := Lib.hid hbt'
              clear hbt' HBT
              clear hst' HST f3 f6 f7 f8 ff
              obtain ⟨W, rfl⟩ : ∃ W, W = W' := ⟨_, rfl⟩
              obtain ⟨HST⟩ : Nonempty (Hid _) := ⟨HST'⟩
              clear HST'
              obtain ⟨HBT⟩ : Nonempty (Hid _) := ⟨HBT'⟩
              clear HBT'
              apply wpAnyP_stays (by kernel_rfl) [27, 28, 29] _ _ _ 1 _ ⟨_, _, _, _, HST.out⟩ (by kernel_rfl) ?hs ?hr
              case hs =>
                apply wpStays_step rfl rfl
                · intro w' hw'
                  have e1 := HG1.out w' hw'
                  have e2 := HG2.out w' hw'
                  clear hw'
                  go_simp
                  exact ⟨rfl, rfl⟩
                go_simp
                apply wpStays_step rfl rfl
                · intro w' hw'
                  have e1 := HG1.out w' hw'
                  have e2 := HG2.out w' hw'
                  clear hw'
                  go_simp
                  exact ⟨rfl, rfl⟩
                go_simp
                apply wpStays_step rfl rfl
                · intro w' hw'
                  have e1 := HG1.out w' hw'
                  have e2 := HG2.out w' hw'
                  clear hw'
                  go_simp
                  exact ⟨rfl, rfl⟩
                go_simp
                exact rfl
              case hr =>
                apply wpAnyP_one (i := 30) (fuel := 0) (by kernel_rfl) rfl rfl
                obtain ⟨f0, f1, f2, f3, f4, f5, f6, f7, f8, f9, f10, f11, ff⟩ := cells12 HST.out.blk
                clear f0 f1 f2 f4 f5 f9 f10 f11
                go_simp
                refine ⟨⟨_, _, _, _, HST.out.set8 _⟩, ?_⟩
                have hst' := HST.out.set8 (.slice (some ⟨gg, 0, none⟩) 1 1)
                have hbt' := other_blk (k := 8) (u := (.slice (some ⟨gg, 0, none⟩) 1 1)) HBT.out HGP.out
                generalize W.setCell ⟨p, 8, none⟩ (.slice (some ⟨gg, 0, none⟩) 1 1) = W' at *
                have HST' := Lib.hid hst'
                have HBT' := Lib.hid hbt'
                clear hbt' HBT
                clear hst' HST f3 f6 f7 f8 ff
                obtain ⟨W, rfl⟩ : ∃ W, W = W' := ⟨_, rfl⟩
                obtain ⟨HST⟩ : Nonempty (Hid _) := ⟨HST'⟩
                clear HST'
                obtain ⟨HBT⟩ : Nonempty (Hid _) := ⟨HBT'⟩
                clear HBT'
                refine ⟨by kernel_rfl, ?_⟩
                go_wp2_with fail
                go_meet
                exact Stand.peer HP5.out HK6.out HST.out HGS.out HBT.out
        · obtain ⟨f0, f1, f2, f3, f4, f5, f6, f7, f8, f9, f10, f11, ff⟩ := cells12 HST.out.blk
          clear f0 f1 f2 f4 f5 f9 f10 f11
          go_simp
          refine ⟨⟨_, _, _, _, HST.out.set6 _⟩, ?_⟩
          have hst' := HST.out.set6 (.int .i64 2)
          generalize W.setCell ⟨p, 6, none⟩ (.int .i64 2) = W' at *
          have HST' := Lib.hid hst'
          clear hst' HST f3 f6 f7 f8 ff
          obtain ⟨W, rfl⟩ : ∃ W, W = W' := ⟨_, rfl⟩
          obtain ⟨HST⟩ : Nonempty (Hid _) := ⟨HST'⟩
          clear HST'
          apply wpAnyP_stays (by kernel_rfl) [19, 20, 21] _ _ _ 10 _ ⟨_, _, _, _, HST.out⟩ (by kernel_rfl) ?hs ?hr
          case hs =>
            apply wpStays_step rfl rfl
            · intro w' hw'
              have e1 := HG1.out w' hw'
              have e2 := HG2.out w' hw'
              clear hw'
              go_simp
              exact ⟨rfl, rfl⟩
            go_simp
            apply wpStays_step rfl rfl
            · intro w' hw'
              have e1 := HG1.out w' hw'
              have e2 := HG2.out w' hw'
              clear hw'
              go_simp
              exact ⟨rfl, rfl⟩
            go_simp
            apply wpStays_step rfl rfl
            · intro w' hw'
              have e1 := HG1.out w' hw'
              have e2 := HG2.out w' hw'
              clear hw'
              go_simp
              exact ⟨rfl, rfl⟩
            go_simp
            exact rfl
          case hr =>
            apply wpAnyP_two (i := 14) (k := 22) (fuel := 9) (by kernel_rfl) rfl rfl rfl rfl
            · go_simp
              refine ⟨⟨_, _, _, _, HST.out.laid _⟩, ?_⟩
              have hst' := HST.out.laid (.cells #[.int .i64 x4.n.id] 3)
              have hbt := heap_alloc_new W (.cells #[.int .i64 x4.n.id] 3)
              have hgs := HST.out.keeps.size
              have hpl := laid_lt HST.out.blk
              have hgp : W.heap.size ≠ p := by omega
              generalize W.alloc (.cells #[.int .i64 x4.n.id] 3) = W' at *
              generalize W.heap.size = gg at *
              have HST' := Lib.hid hst'; have HBT := Lib.hid hbt; have HGS := Lib.hid hgs; have HGP := Lib.hid hgp
              clear hst' hbt hgs hpl hgp HST
              obtain ⟨W, rfl⟩ : ∃ W, W = W' := ⟨_, rfl⟩
              obtain ⟨HST⟩ : Nonempty (Hid _) := ⟨HST'⟩
              clear HST'
              apply wpAnyP_one (i := 22) (fuel := 8) (by kernel_rfl) rfl rfl
              obtain ⟨f0, f1, f2, f3, f4, f5, f6, f7, f8, f9, f10, f11, ff⟩ := cells12 HST.out.blk
              clear f0 f1 f2 f4 f5 f9 f10 f11
              go_simp
              refine ⟨⟨_, _, _, _, HST.out.set7 _⟩, ?_⟩
              have hst' := HST.out.set7 (.int .i64 0)
              have hbt' := other_blk (k := 7) (u := (.int .i64 0)) HBT.out HGP.out
              generalize W.setCell ⟨p, 7, none⟩ (.int .i64 0) = W' at *
              have HST' := Lib.hid hst'
              have HBT' := Lib.hid hbt'
              clear hbt' HBT
              clear hst' HST f3 f6 f7 f8 ff
              obtain ⟨W, rfl⟩ : ∃ W, W = W' := ⟨_, rfl⟩
              obtain ⟨HST⟩ : Nonempty (Hid _) := ⟨HST'⟩
              clear HST'
              obtain ⟨HBT⟩ : Nonempty (Hid _) := ⟨HBT'⟩
              clear HBT'
              apply wpAnyP_stays (by kernel_rfl) [23, 24, 25] _ _ _ 5 _ ⟨_, _, _, _, HST.out⟩ (by kernel_rfl) ?hs ?hr
              case hs =>
                apply wpStays_step rfl rfl
                · intro w' hw'
                  have e1 := HG1.out w' hw'
                  have e2 := HG2.out w' hw'
                  clear hw'
                  go_simp
                  exact ⟨rfl, rfl⟩
                go_simp
                apply wpStays_step rfl rfl
                · intro w' hw'
                  have e1 := HG1.out w' hw'
                  have e2 := HG2.out w' hw'
                  clear hw'
                  go_simp
                  exact ⟨rfl, rfl⟩
                go_simp
                apply wpStays_step rfl rfl
                · intro w' hw'
                  have e1 := HG1.out w' hw'
                  have e2 := HG2.out w' hw'
                  clear hw'
                  go_simp
                  exact ⟨rfl, rfl⟩
                go_simp
                exact rfl
              case hr =>
                apply wpAnyP_one (i := 26) (fuel := 4) (by kernel_rfl) rfl rfl
                obtain ⟨f0, f1, f2, f3, f4, f5, f6, f7, f8, f9, f10, f11, ff⟩ := cells12 HST.out.blk
                clear f0 f1 f2 f4 f5 f9 f10 f11
                go_simp
                refine ⟨⟨_, _, _, _, HST.out.set3 _⟩, ?_⟩
                have hst' := HST.out.set3 (.int .i64 x4.n.id)
                have hbt' := other_blk (k := 3) (u := (.int .i64 x4.n.id)) HBT.out HGP.out
                generalize W.setCell ⟨p, 3, none⟩ (.int .i64 x4.n.id) = W' at *
                have HST' := Lib.hid hst'
                have HBT' := Lib.hid hbt'
                clear hbt' HBT
                clear hst' HST f3 f6 f7 f8 ff
                obtain ⟨W, rfl⟩ : ∃ W, W = W' := ⟨_, rfl⟩
                obtain ⟨HST⟩ : Nonempty (Hid _) := ⟨HST'⟩
                clear HST'
                obtain ⟨HBT⟩ : Nonempty (Hid _) := ⟨HBT'⟩
                clear HBT'
                apply wpAnyP_stays (by kernel_rfl) [27, 28, 29] _ _ _ 1 _ ⟨_, _, _, _, HST.out⟩ (by kernel_rfl) ?hs ?hr
                case hs =>
                  apply wpStays_step rfl rfl
                  · intro w' hw'
                    have e1 := HG1.out w' hw'
                    have e2 := HG2.out w' hw'
                    clear hw'
                    go_simp
                    exact ⟨rfl, rfl⟩
                  go_simp
                  apply wpStays_step rfl rfl
                  · intro w' hw'
                    have e1 := HG1.out w' hw'
                    have e2 := HG2.out w' hw'
                    clear hw'
                    go_simp
                    exact ⟨rfl, rfl⟩
                  go_simp
                  apply wpStays_step rfl rfl
                  · intro w' hw'
                    have e1 := HG1.out w' hw'
                    have e2 := HG2.out w' hw'
                    clear hw'
                    go_simp
                    exact ⟨rfl, rfl⟩
                  go_simp
                  exact rfl
                case hr =>
                  apply wpAnyP_one (i := 30) (fuel := 0) (by kernel_rfl) rfl rfl
                  obtain ⟨f0, f1, f2, f3, f4, f5, f6, f7, f8, f9, f10, f11, ff⟩ := cells12 HST.out.blk
                  clear f0 f1 f2 f4 f5 f9 f10 f11
                  go_simp
                  refine ⟨⟨_, _, _, _, HST.out.set8 _⟩, ?_⟩
                  have hst' := HST.out.set8 (.slice (some ⟨gg, 0, none⟩) 1 1)
                  have hbt' := other_blk (k := 8) (u := (.slice (some ⟨gg, 0, none⟩) 1 1)) HBT.out HGP.out
                  generalize W.setCell ⟨p, 8, none⟩ (.slice (some ⟨gg, 0, none⟩) 1 1) = W' at *
                  have HST' := Lib.hid hst'
                  have HBT' := Lib.hid hbt'
                  clear hbt' HBT
                  clear hst' HST f3 f6 f7 f8 ff
                  obtain ⟨W, rfl⟩ : ∃ W, W = W' := ⟨_, rfl⟩
                  obtain ⟨HST⟩ : Nonempty (Hid _) := ⟨HST'⟩
                  clear HST'
                  obtain ⟨HBT⟩ : Nonempty (Hid _) := ⟨HBT'⟩
                  clear HBT'
                  refine ⟨by kernel_rfl, ?_⟩
                  go_wp2_with fail
                  go_meet
                  exact Stand.peer HP5.out HK6.out HST.out HGS.out HBT.out
            · obtain ⟨f0, f1, f2, f3, f4, f5, f6, f7, f8, f9, f10, f11, ff⟩ := cells12 HST.out.blk
              clear f0 f1 f2 f4 f5 f9 f10 f11
              go_simp
              refine ⟨⟨_, _, _, _, HST.out.set7 _⟩, ?_⟩
              have hst' := HST.out.set7 (.int .i64 0)
              generalize W.setCell ⟨p, 7, none⟩ (.int .i64 0) = W' at *
              have HST' := Lib.hid hst'
              clear hst' HST f3 f6 f7 f8 ff
              obtain ⟨W, rfl⟩ : ∃ W, W = W' := ⟨_, rfl⟩
              obtain ⟨HST⟩ : Nonempty (Hid _) := ⟨HST'⟩
              clear HST'
              apply wpAnyP_stays (by kernel_rfl) [23, 24, 25] _ _ _ 6 _ ⟨_, _, _, _, HST.out⟩ (by kernel_rfl) ?hs ?hr
              case hs =>
                apply wpStays_step rfl rfl
                · intro w' hw'
                  have e1 := HG1.out w' hw'
                  have e2 := HG2.out w' hw'
                  clear hw'
                  go_simp
                  exact ⟨rfl, rfl⟩
                go_simp
                apply wpStays_step rfl rfl
                · intro w' hw'
                  have e1 := HG1.out w' hw'
                  have e2 := HG2.out w' hw'
                  clear hw'
                  go_simp
                  exact ⟨rfl, rfl⟩
                go_simp
                apply wpStays_step rfl rfl
                · intro w' hw'
                  have e1 := HG1.out w' hw'
                  have e2 := HG2.out w' hw'
                  clear hw'
                  go_simp
                  exact ⟨rfl, rfl⟩
                go_simp
                exact rfl
              case hr =>
                apply wpAnyP_two (i := 14) (k := 26) (fuel := 5) (by kernel_rfl) rfl rfl rfl rfl
                · go_simp
                  refine ⟨⟨_, _, _, _, HST.out.laid _⟩, ?_⟩
                  have hst' := HST.out.laid (.cells #[.int .i64 x4.n.id] 3)
                  have hbt := heap_alloc_new W (.cells #[.int .i64 x4.n.id] 3)
                  have hgs := HST.out.keeps.size
                  have hpl := laid_lt HST.out.blk
                  have hgp : W.heap.size ≠ p := by omega
                  generalize W.alloc (.cells #[.int .i64 x4.n.id] 3) = W' at *
                  generalize W.heap.size = gg at *
                  have HST' := Lib.hid hst'; have HBT := Lib.hid hbt; have HGS := Lib.hid hgs; have HGP := Lib.hid hgp
                  clear hst' hbt hgs hpl hgp HST
                  obtain ⟨W, rfl⟩ : ∃ W, W = W' := ⟨_, rfl⟩
                  obtain ⟨HST⟩ : Nonempty (Hid _) := ⟨HST'⟩
                  clear HST'
                  apply wpAnyP_one (i := 26) (fuel := 4) (by kernel_rfl) rfl rfl
                  obtain ⟨f0, f1, f2, f3, f4, f5, f6, f7, f8, f9, f10, f11, ff⟩ := cells12 HST.out.blk
                  clear f0 f1 f2 f4 f5 f9 f10 f11
                  go_simp
                  refine ⟨⟨_, _, _, _, HST.out.set3 _⟩, ?_⟩
                  have hst' := HST.out.set3 (.int .i64 x4.n.id)
                  have hbt' := other_blk (k := 3) (u := (.int .i64 x4.n.id)) HBT.out HGP.out
                  generalize W.setCell ⟨p, 3, none⟩ (.int .i64 x4.n.id) = W' at *
                  have HST' := Lib.hid hst'
                  have HBT' := Lib.hid hbt'
                  clear hbt' HBT
                  clear hst' HST f3 f6 f7 f8 ff
                  obtain ⟨W, rfl⟩ : ∃ W, W = W' := ⟨_, rfl⟩
                  obtain ⟨HST⟩ : Nonempty (Hid _) := ⟨HST'⟩
                  clear HST'
                  obtain ⟨HBT⟩ : Nonempty (Hid _) := ⟨HBT'⟩
                  clear HBT'
                  apply wpAnyP_stays (by kernel_rfl) [27, 28, 29] _ _ _ 1 _ ⟨_, _, _, _, HST.out⟩ (by kernel_rfl) ?hs ?hr
                  case hs =>
                    apply wpStays_step rfl rfl
                    · intro w' hw'
                      have e1 := HG1.out w' hw'
                      have e2 := HG2.out w' hw'
                      clear hw'
                      go_simp
                      exact ⟨rfl, rfl⟩
                    go_simp
                    apply wpStays_step rfl rfl
                    · intro w' hw'
                      have e1 := HG1.out w' hw'
                      have e2 := HG2.out w' hw'
                      clear hw'
                      go_simp
                      exact ⟨rfl, rfl⟩
                    go_simp
                    apply wpStays_step rfl rfl
                    · intro w' hw'
                      have e1 := HG1.out w' hw'
                      have e2 := HG2.out w' hw'
                      clear hw'
                      go_simp
                      exact ⟨rfl, rfl⟩
                    go_simp
                    exact rfl
                  case hr =>
                    apply wpAnyP_one (i := 30) (fuel := 0) (by kernel_rfl) rfl rfl
                    obtain ⟨f0, f1, f2, f3, f4, f5, f6, f7, f8, f9, f10, f11, ff⟩ := cells12 HST.out.blk
                    clear f0 f1 f2 f4 f5 f9 f10 f11
                    go_simp
                    refine ⟨⟨_, _, _, _, HST.out.set8 _⟩, ?_⟩
                    have hst' := HST.out.set8 (.slice (some ⟨gg, 0, none⟩) 1 1)
                    have hbt' := other_blk (k := 8) (u := (.slice (some ⟨gg, 0, none⟩) 1 1)) HBT.out HGP.out
                    generalize W.setCell ⟨p, 8, none⟩ (.slice (some ⟨gg, 0, none⟩) 1 1) = W' at *
                    have HST' := Lib.hid hst'
                    have HBT' := Lib.hid hbt'
                    clear hbt' HBT
                    clear hst' HST f3 f6 f7 f8 ff
                    obtain ⟨W, rfl⟩ : ∃ W, W = W' := ⟨_, rfl⟩
                    obtain ⟨HST⟩ : Nonempty (Hid _) := ⟨HST'⟩
                    clear HST'
                    obtain ⟨HBT⟩ : Nonempty (Hid _) := ⟨HBT'⟩
                    clear HBT'
                    refine ⟨by kernel_rfl, ?_⟩
                    go_wp2_with fail
                    go_meet
                    exact Stand.peer HP5.out HK6.out HST.out HGS.out HBT.out
                · obtain ⟨f0, f1, f2, f3, f4, f5, f6, f7, f8, f9, f10, f11, ff⟩ := cells12 HST.out.blk
                  clear f0 f1 f2 f4 f5 f9 f10 f11
                  go_simp
                  refine ⟨⟨_, _, _, _, HST.out.set3 _⟩, ?_⟩
                  have hst' := HST.out.set3 (.int .i64 x4.n.id)
                  generalize W.setCell ⟨p, 3, none⟩ (.int .i64 x4.n.id) = W' at *
                  have HST' := Lib.hid hst'
                  clear hst' HST f3 f6 f7 f8 ff
                  obtain ⟨W, rfl⟩ : ∃ W, W = W' := ⟨_, rfl⟩
                  obtain ⟨HST⟩ : Nonempty (Hid _) := ⟨HST'⟩
                  clear HST'
                  apply wpAnyP_one (i := 14) (fuel := 4) (by kernel_rfl) rfl rfl
                  go_simp
                  refine ⟨⟨_, _, _, _, HST.out.laid _⟩, ?_⟩
                  have hst' := HST.out.laid (.cells #[.int .i64 x4.n.id] 3)
                  have hbt := heap_alloc_new W (.cells #[.int .i64 x4.n.id] 3)
                  have hgs := HST.out.keeps.size
                  have hpl := laid_lt HST.out.blk
                  have hgp : W.heap.size ≠ p := by omega
                  generalize W.alloc (.cells #[.int .i64 x4.n.id] 3) = W' at *
                  generalize W.heap.size = gg at *
                  have HST' := Lib.hid hst'; have HBT := Lib.hid hbt; have HGS := Lib.hid hgs; have HGP := Lib.hid hgp
                  clear hst' hbt hgs hpl hgp HST
                  obtain ⟨W, rfl⟩ : ∃ W, W = W' := ⟨_, rfl⟩
                  obtain ⟨HST⟩ : Nonempty (Hid _) := ⟨HST'⟩
                  clear HST'
                  apply wpAnyP_stays (by kernel_rfl) [27, 28, 29] _ _ _ 1 _ ⟨_, _, _, _, HST.out⟩ (by kernel_rfl) ?hs ?hr
                  case hs =>
                    apply wpStays_step rfl rfl
                    · intro w' hw'
                      have e1 := HG1.out w' hw'
                      have e2 := HG2.out w' hw'
                      clear hw'
                      go_simp
                      exact ⟨rfl, rfl⟩
                    go_simp
                    apply wpStays_step rfl rfl
                    · intro w' hw'
                      have e1 := HG1.out w' hw'
                      have e2 := HG2.out w' hw'
                      clear hw'
                      go_simp
                      exact ⟨rfl, rfl⟩
                    go_simp
                    apply wpStays_step rfl rfl
                    · intro w' hw'
                      have e1 := HG1.out w' hw'
                      have e2 := HG2.out w' hw'
                      clear hw'
                      go_simp
                      exact ⟨rfl, rfl⟩
                    go_simp
                    exact rfl
                  case hr =>
                    apply wpAnyP_one (i := 30) (fuel := 0) (by kernel_rfl) rfl rfl
                    obtain ⟨f0, f1, f2, f3, f4, f5, f6, f7, f8, f9, f10, f11, ff⟩ := cells12 HST.out.blk
                    clear f0 f1 f2 f4 f5 f9 f10 f11
                    go_simp
                    refine ⟨⟨_, _, _, _, HST.out.set8 _⟩, ?_⟩
                    have hst' := HST.out.set8 (.slice (some ⟨gg, 0, none⟩) 1 1)
                    have hbt' := other_blk (k := 8) (u := (.slice (some ⟨gg, 0, none⟩) 1 1)) HBT.out HGP.out
                    generalize W.setCell ⟨p, 8, none⟩ (.slice (some ⟨gg, 0, none⟩) 1 1) = W' at *
                    have HST' := Lib.hid hst'
                    have HBT' := Lib.hid hbt'
                    clear hbt' HBT
                    clear hst' HST f3 f6 f7 f8 ff
                    obtain ⟨W, rfl⟩ : ∃ W, W = W' := ⟨_, rfl⟩
                    obtain ⟨HST⟩ : Nonempty (Hid _) := ⟨HST'⟩
                    clear HST'
                    obtain ⟨HBT⟩ : Nonempty (Hid _) := ⟨HBT'⟩
                    clear HBT'
                    refine ⟨by kernel_rfl, ?_⟩
                    go_wp2_with fail
                    go_meet
                    exact Stand.peer HP5.out HK6.out HST.out HGS.out HBT.out
    case rest =>
      obtain ⟨w7, rfl⟩ : ∃ w7 : World, w7 = wc := ⟨_, rfl⟩
      obtain ⟨x5, S5, hp7, hx5, hk7, hS5⟩ := hcut
      have hcb7 : ¬ S5 cb := fun h => (hS5 _ h).elim HCS.out fun h => by have := HSZ.out; omega
      have hcbk : w7.heap[cb]? = some (.cells #[.pointer (some ⟨p, 0, none⟩)] 76 (0, 0)) := (hk7.block cb (laid_lt hcb) HCS.out).trans hcb
      have hz7 := (hk7.block (B + 1) (laid_lt HZ4.out) HR.out).trans HZ4.out
      have hR7 : ¬ S5 (B + 1) := fun h => (hS5 _ h).elim HR.out fun h => by have := laid_lt HZ4.out; omega
      have HK7 := Lib.hid (HK5.out.trans hk7 fun k hk => .inr (Nat.le_trans HK.out.size (HS4.out k hk)))
      have hst : x5.n = stood n := by rw [hx5, HN4.out]
      have hgs : Good (stood n) := stood_good HG.out HR3.out HTM.out
      have hN : (stood n).n = (n.n.toNat : Int) := by show n.n = _; have := HG.out.n1; omega
      have hN5 : n.n.toNat ≤ 5 := by have := HG.out.n5; omega
      have e7 : w7.cell? ⟨cb, 0, none⟩ = some (.pointer (some ⟨p, 0, none⟩)) := cell_of_row w7 cb 0 _ _ _ hcbk
      have h58 := others_any (w := w7) (p := p) (f := 59) (first := #[]) (captured := #[.pointer (some ⟨cb, 0, none⟩)]) (id := n.id) (N := n.n.toNat)
        (fun k w' => ∃ S' ov' ms, Peer w' S' p x5 ov' ms ∧ said ms = (othersTo n.id k).map (asks (stood n)) ∧ Keeps S5 w7 w' ∧ ∀ k, S' k → S5 k ∨ w7.heap.size ≤ k) hN5 call59
        (fun k w' ⟨S', ov', ms, hp, _⟩ => ⟨by have h0 : w'.cell? ⟨p, 0, none⟩ = some (.int .i64 x5.n.id) := hp.cell 0; rw [hst] at h0; exact h0, by have h1 : w'.cell? ⟨p, 1, none⟩ = some (.int .i64 x5.n.n) := hp.cell 1; rw [hst, hN] at h1; exact h1⟩)
        (fun k w' ⟨S', ov', ms, hp, hs, hk, hsub⟩ hlt => ⟨fun he => ⟨S', ov', ms, hp, by rw [othersTo_succ, if_pos he, List.append_nil]; exact hs, hk, hsub⟩, fun hne => by
          have hml : ms.length ≤ k := by
            have := congrArg List.length hs
            simp only [said, List.length_map] at this
            rw [this]; exact othersTo_len _ _
          have hc' : w'.cell? ⟨cb, 0, none⟩ = some (.pointer (some ⟨p, 0, none⟩)) := hk.cell hcb7 e7
          refine (ask_any hp hc' ((k : Int) + 1) (by rw [hst]; exact HG.out.log60) (by omega)).mono ?_
          rintro e w2 ⟨rfl, S2, ov2, iv, hp2, hk2, hsub2⟩
          refine ⟨rfl, S2, ov2, ms ++ [⟨asks x5.n ((k : Int) + 1), iv⟩], hp2, ?_, hk.trans hk2 hsub, fun g hg => ?_⟩
          · rw [othersTo_succ, if_neg hne, List.map_append, ← hs, hst]
            simp [said]
          · rcases hsub2 g hg with h1 | h1
            · exact hsub g h1
            · exact .inr (Nat.le_trans hk.size h1)⟩)
        ⟨S5, _, [], hp7, by simp [said, othersTo], Keeps.refl _ _, fun k hk => .inl hk⟩
      have H58 := Lib.hid h58
      have HCB7 := Lib.hid hcb7; have HCBK := Lib.hid hcbk; have HZ7 := Lib.hid hz7; have HR7 := Lib.hid hR7; have HST := Lib.hid hst; have HGS := Lib.hid hgs; have HN := Lib.hid hN; have HN5 := Lib.hid hN5
      have HS57 : Hid (∀ k, S5 k → w.heap.size ≤ k) := Lib.hid fun k hk => (hS5 k hk).elim (fun h => Nat.le_trans HK.out.size (HS4.out k h)) fun h => Nat.le_trans HK5.out.size h
      clear h58 hp7 hx5 hk7 hS5 hcb7 hcbk hz7 hR7 hst hgs hN hN5 hcb g6 d0 d3 d6 d7 d8 df hpA hpB hs7 hb6
      go_wp2_with fail
      refine H58.out.mono ?_
      rintro e w8 ⟨rfl, S8, ov8, ms, hp8, hs8, hk8, hS8⟩
      have e8 : w8.cell? ⟨cb, 0, none⟩ = some (.pointer (some ⟨p, 0, none⟩)) := hk8.cell HCB7.out e7
      have hz8 := (hk8.block (B + 1) (laid_lt HZ7.out) HR7.out).trans HZ7.out
      have hR8 : ¬ S8 (B + 1) := fun h => (hS8 _ h).elim HR7.out fun h => by have := laid_lt HZ7.out; omega
      have hcb8 : ¬ S8 cb := fun h => (hS8 _ h).elim HCB7.out fun h => by have := laid_lt HCBK.out; omega
      have HK8 := Lib.hid (HK7.out.trans hk8 fun k hk => .inr (HS57.out k hk))
      have HS8 : Hid (∀ k, S8 k → w.heap.size ≤ k) := Lib.hid fun k hk => (hS8 k hk).elim (HS57.out k) fun h => Nat.le_trans HK7.out.size h
      have hml : ms.length ≤ 5 := by
        have := congrArg List.length hs8
        simp only [said, List.length_map] at this
        rw [this]; exact Nat.le_trans (othersTo_len _ _) HN5.out
      have h62 := lead_both hp8 (N := n.n.toNat) (by rw [HST.out]; simp [stood]) (by rw [HST.out]; exact HN.out) HN5.out (by rw [HST.out]; exact HGS.out.id1) (by rw [HST.out]; have := HGS.out.idn; rw [HN.out] at this; exact this) (by rw [HST.out]; exact HGS.out.log60) (by rw [HST.out]; exact HGS.out.commit0) (by omega)
      have H62 := Lib.hid h62
      have HSD8 := Lib.hid hs8; have HCB8 := Lib.hid hcb8; have HZ8 := Lib.hid hz8; have HR8 := Lib.hid hR8
      clear e7 hp8 hs8 hk8 hS8 hz8 hR8 hcb8 h62 hml
      go_wp2_with fail
      refine H62.out.mono ?_
      rintro e w9 ⟨rfl, S9, x9, ov9, ms9, hp9, hx9, hs9, hk9, hS9⟩
      have e9 : w9.cell? ⟨cb, 0, none⟩ = some (.pointer (some ⟨p, 0, none⟩)) := hk9.cell HCB8.out e8
      have hz9 := (hk9.block (B + 1) (laid_lt HZ8.out) HR8.out).trans HZ8.out
      have hR9 : ¬ S9 (B + 1) := fun h => (hS9 _ h).elim HR8.out fun h => by have := laid_lt HZ8.out; omega
      have HL9 : Hid (∀ k, S9 k → B ≤ k) := Lib.hid fun k hk => (hS9 k hk).elim (fun h => by have := HS8.out k h; have := HBB.out; omega) fun h => by have := HK8.out.size; have := HK.out.size; have := HBB.out; omega
      have HK9 := Lib.hid (HK8.out.trans hk9 fun k hk => .inr (HS8.out k hk))
      obtain ⟨r0, r1, r2, r3, r4, r5, r6, r7, r8, r9, r10, rf⟩ := cells11 hz9
      obtain ⟨LA, LC, VA, VC, NA, NC, MA, MC, OA, OC, e1, e2, e3, e4, e5, c0, c1, c2, c3, c4, c5, c6, c7, c8, c9, c10, c11, cf, hpl⟩ := hp9.open_
      have HP9 := Lib.hid hp9; have HX9 := Lib.hid hx9; have HSD9 := Lib.hid hs9
      have hne9 : p ≠ B + 1 := fun e => hR9 (e ▸ hp9.pS)
      have hcb9 : cb ≠ B + 1 := fun e => by
        have h1 := HCBK.out
        rw [e, HZ7.out] at h1
        simp at h1
      clear hp9 hx9 hs9 hk9 hS9 e8
      go_upto_region 8 with fail
      go_region
      go_wp2_with fail
      obtain ⟨wf, hwf, hfb, hfk⟩ := put11 (v0 := .int .i64 x9.n.id) (v1 := .int .i64 x9.n.n) (v2 := .int .i64 x9.n.term) (v3 := .int .i64 x9.n.vote) (v4 := .slice LA x9.n.log.length LC) (v5 := .int .i64 x9.n.commit) (v6 := .int .i64 x9.n.role) (v7 := .int .i64 x9.n.boss) (v8 := .slice VA x9.n.votes.length VC) (v9 := .slice NA x9.n.next.length NC) (v10 := .slice MA x9.n.mtch.length MC) hz9 rfl
      simp only [sets] at hwf
      rw [hwf]
      obtain ⟨q0, q1, q2, q3, q4, q5, q6, q7, q8, q9, q10, qf⟩ := cells11 hfb
      have hbt : timeout n = (lead (stood n), (others (stood n)).map (asks (stood n)) ++ leadSays (stood n)) := by unfold timeout; rw [if_neg (by have := HR3.out; have := HTM.out; have := wrong_of_good HG.out; omega)]
      have hot : (othersTo n.id n.n.toNat) = others (stood n) := rfl
      have hx : x9.n = (timeout n).1 := by rw [HX9.out, HST.out, hbt]
      have hs : said (ms ++ ms9) = (timeout n).2 := by rw [show said (ms ++ ms9) = said ms ++ said ms9 from List.map_append, HSD8.out, HSD9.out, HST.out, hot, hbt]
      have hd := HP9.out.doneQ HL9.out HQQ.out hR9 hz9 (by rw [hs]; exact timeout_terms HG.out) hfk
      refine bodyPost_ret (v := .tuple #[.agg (nodCells x9).toArray, ov9]) (by simp [results, Try.results20, go_sem, nodCells, q0, q1, q2, q3, q4, q5, q6, q7, q8, q9, q10, e1, e2, e3, e4, e5]) rfl ?_
      exact ⟨x9, ov9, ms ++ ms9, rfl, hx, hs, hd.1.into (Keeps.refl Free wf).drew (fun _ _ h => h.elim) (fun _ _ h => h), hd.2.into (Keeps.refl Free wf).drew (fun _ _ h => h.elim) (fun _ _ h => h), (HK9.out.trans hfk fun k hk => .inr (by have := HBB.out; omega)).drew⟩
end Go.Proofs.Ytibjbpakbfodaaa
