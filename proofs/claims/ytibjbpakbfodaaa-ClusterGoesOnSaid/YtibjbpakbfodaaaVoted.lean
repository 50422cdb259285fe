/- (*peer).voted: a candidate hears that a node votes for it. -/
import Derived.Test.YtibjbpakbfodaaaInsert
import Derived.Test.YtibjbpakbfodaaaLead
import Derived.Test.YtibjbpakbfodaaaAsked
namespace Go.Proofs.Ytibjbpakbfodaaa
open Go.RowKit

/-- 'Votes' has grown, in its own row or a new one, and stands in its field again. -/
theorem Peer.revote {w w2 w1 : World} {S : Nat → Prop} {p : Nat} {x : NodV} {ov : Value} {out : List MesV} (h : Peer w S p x ov out) (hk : Keeps (fun _ => False) w w2) {gg n cap : Nat} {l : List Int}
    (hown : w1.ownsRow 0 3 1 (.slice (some ⟨gg, 0, none⟩) n cap) n (intCells l)) (hn : n = l.length) (hgrow : w2.grownBy w1 x.vv.ownBlock) (hat : x.vv.ownBlock = some gg ∨ w.heap.size ≤ gg) :
    Peer (w1.setCell ⟨p, 8, none⟩ (.slice (some ⟨gg, 0, none⟩) n cap)) (fun k => S k ∨ k = gg) p ⟨{ x.n with votes := l }, x.lv, .slice (some ⟨gg, 0, none⟩) n cap, x.nv, x.mv⟩ ov out ∧
      Keeps S w (w1.setCell ⟨p, 8, none⟩ (.slice (some ⟨gg, 0, none⟩) n cap)) ∧ ∀ k, (S k ∨ k = gg) → S k ∨ w.heap.size ≤ k := by
  subst hn
  have hsub : ∀ k, (S k ∨ k = gg) → S k ∨ w.heap.size ≤ k := fun k hk' => by
    rcases hk' with h1 | rfl
    · exact .inl h1
    · rcases hat with h2 | h2
      · exact .inl (h.vS _ h2)
      · exact .inr h2
  have hw1 : ∀ k, k < w.heap.size → some k ≠ x.vv.ownBlock → w1.heap[k]? = w.heap[k]? := fun k hlt hne =>
    (hgrow.block k (Nat.lt_of_lt_of_le hlt hk.size) hne).trans (hk.block k hlt (fun h => h))
  have hkeep1 : Keeps S w w1 := (hk.mono (S' := S) (fun _ h => h.elim)).trans (S' := fun k => some k = x.vv.ownBlock) ⟨hgrow.os, hgrow.tape, hgrow.output, hgrow.size, fun k hk' hne => hgrow.block k hk' hne⟩
    (fun k hk' => .inl (h.vS k hk'.symm))
  have hkeep : Keeps S w (w1.setCell ⟨p, 8, none⟩ (.slice (some ⟨gg, 0, none⟩) l.length cap)) := hkeep1.setCell (.inl h.pS) _
  have hgp : gg ≠ p := by
    rcases hat with h2 | h2
    · exact own_ne_blk h.votes h.blk (by decide) h2
    · have := h.lt p h.pS; omega
  have mv : ∀ {base e size : Nat} {v : Value} {n : Nat} {xs : List Value}, w.ownsRow base e size v n xs → v.ownBlock ≠ some p → (∀ g, v.ownBlock = some g → x.vv.ownBlock ≠ some g) → (w1.setCell ⟨p, 8, none⟩ (.slice (some ⟨gg, 0, none⟩) l.length cap)).ownsRow base e size v n xs := fun hr hne hv =>
    own_keep hr fun g hg => (Below.heap_setCell _ _ _ _ (fun e => hne (by rw [hg, e]))).trans (hw1 g (own_lt hr hg) (fun e => hv g hg e.symm))
  have hnv : ∀ {v : Value}, (∀ g, x.vv.ownBlock = some g → v.ownBlock ≠ some g) → (∀ g, v.ownBlock = some g → g < w.heap.size) → v.ownBlock ≠ some gg := fun {v} h1 h2 e => by
    rcases hat with h3 | h3
    · exact h1 gg h3 e
    · have := h2 gg e; omega
  refine ⟨{ blk := ?_, log := mv h.log h.log_ne (fun g hg => own_ne h.log h.votes (by decide) hg), votes := ?_, next := mv h.next h.next_ne (fun g hg e => h.vn g e hg), mtch := mv h.mtch h.mtch_ne (fun g hg e => h.vm g e hg),
            outs := mv h.outs h.out_ne (fun g hg => own_ne h.outs h.votes (by decide) hg), items := ?_, late := h.late, pS := .inl h.pS, lS := fun g hg => .inl (h.lS g hg), vS := ?_,
            nS := fun g hg => .inl (h.nS g hg), mS := fun g hg => .inl (h.mS g hg), oS := fun g hg => .inl (h.oS g hg), vn := ?_, vm := ?_, nm := h.nm, lt := ?_ }, hkeep, hsub⟩
  · rw [setCell_blk ((hw1 p (h.lt p h.pS) (fun e => h.votes_ne e.symm)).trans h.blk)]
    rfl
  · refine own_keep (w := w1) hown fun g hg => ?_
    have : gg = g := by simpa [Value.ownBlock] using hg
    subst this
    exact Below.heap_setCell _ _ _ _ hgp
  · intro m hm
    refine (h.items m hm).into hkeep (fun _ _ h => h) fun k hlt hk' => ?_
    rcases hsub k hk' with h1 | h1
    · exact h1
    · omega
  · intro g hg
    have : gg = g := by simpa [Value.ownBlock] using hg
    exact .inr this.symm
  · intro g hg
    have : gg = g := by simpa [Value.ownBlock] using hg
    subst this
    exact hnv h.vn (fun g hg => own_lt h.next hg)
  · intro g hg
    have : gg = g := by simpa [Value.ownBlock] using hg
    subst this
    exact hnv h.vm (fun g hg => own_lt h.mtch hg)
  · intro k hk'
    rw [setCell_size]
    rcases hk' with h1 | rfl
    · exact Nat.lt_of_lt_of_le (h.lt k h1) hkeep1.size
    · exact own_lt hown rfl

/-- BinarySearch over a row of numbers that rise. -/
theorem search_any {w : World} {v : Value} {l : List Int} (hown : w.ownsRow 0 3 1 v l.length (intCells l)) (hl : l.length ≤ 1000) (hp : l.Pairwise (· < ·)) (k : Int) :
    Calls Try.prog 95 #[v, .int .i64 k] w fun e w' => e = .returned (.tuple #[.int .i64 (l.countP (· < k) : Nat), .bool (l.contains k)]) ∧ ∃ q, w' = w.drewN q := by
  have hs := hp.imp (fun {a b} (h : a < b) => Int.le_of_lt h)
  rcases Nat.eq_zero_or_pos l.length with h0 | h0
  · have hl0 : l = [] := List.eq_nil_of_length_eq_zero h0
    subst hl0
    obtain ⟨A, c, rfl, _⟩ := own_slice hown
    exact (Try.slices_BinarySearch_int_empty A c k w).mono fun e w' ⟨he, hw⟩ => ⟨he, 0, hw⟩
  · obtain ⟨A, c, rfl, _⟩ := own_slice hown
    obtain ⟨g, rfl, hc, _⟩ := own_cell hown h0
    have := Try.slices_BinarySearch_int g 0 l.length c l k w (Nat.le_refl _) (by omega) (fun j hj => by
      rw [Nat.zero_add, hc j (by omega)]
      simp [intCells, List.getElem?_eq_getElem hj, List.getD_eq_getElem?_getD]) (by rw [List.take_length]; exact hs)
    rw [List.take_length] at this
    exact this

/-- Nothing comes of it. -/
def idle (x : Nod) (m : Mes) : Prop := x.role ≠ 2 ∨ m.term ≠ x.term ∨ m.yes = false

set_option maxRecDepth 100000 in
set_option maxHeartbeats 2000000 in
theorem voted_no {w : World} {S : Nat → Prop} {p : Nat} {x : NodV} {ov : Value} {out : List MesV} (h : Peer w S p x ov out) {mb : Nat} {m : MesV} (hm : MesAt w S mb m) (hno : idle x.n m.m) :
    Calls Try.prog 73 #[.pointer (some ⟨p, 0, none⟩), .pointer (some ⟨mb, 0, none⟩)] w fun e w' => e = .returned (.tuple #[]) ∧ Keeps (fun _ => False) w w' := by
  obtain ⟨LA, LC, VA, VC, NA, NC, MA, MC, OA, OC, hlv, hvv, hnv, hmv, hov, c0, c1, c2, c3, c4, c5, c6, c7, c8, c9, c10, c11, hfz, hpl⟩ := h.open_
  obtain ⟨d0, d1, d2, d3, d4, d5, d6, d7, d8⟩ := hm.cells
  clear hlv hvv hnv hmv hov c0 c1 c3 c4 c5 c7 c8 c9 c10 c11 hfz d0 d1 d2 d4 d5 d6 d7
  unfold idle at hno
  by_cases h1 : x.n.role = 2
  · have hb1 : (x.n.role != 2) = false := by rw [h1]; rfl
    by_cases h2 : m.m.term = x.n.term
    · have h3 : m.m.yes = false := by
        rcases hno with h | h | h
        · exact absurd h1 h
        · exact absurd h2 h
        · exact h
      have hb2 : (m.m.term != x.n.term) = false := by rw [h2]; simp
      rw [h3] at d8
      clear h1 h2 h3 hno
      go_enter Try.func73, Try.ntmps73
      go_wp2_with fail
      go_quiet (fail)
      clear hb1 hb2
      go_wp2
      refine bodyPost_ret (v := .tuple #[]) (results_none rfl _ _ _) rfl ?_
      exact ⟨rfl, (Keeps.refl _ w).drewN _⟩
    · have hb2 : (m.m.term != x.n.term) = true := by rw [bne_iff_ne]; exact h2
      clear h1 h2 hno
      go_enter Try.func73, Try.ntmps73
      go_wp2_with fail
      go_quiet (fail)
      clear hb1 hb2
      go_wp2
      refine bodyPost_ret (v := .tuple #[]) (results_none rfl _ _ _) rfl ?_
      exact ⟨rfl, (Keeps.refl _ w).drewN _⟩
  · have hb1 : (x.n.role != 2) = true := by rw [bne_iff_ne]; exact h1
    clear h1 hno
    go_enter Try.func73, Try.ntmps73
    go_wp2_with fail
    go_quiet (fail)
    clear hb1
    go_wp2
    refine bodyPost_ret (v := .tuple #[]) (results_none rfl _ _ _) rfl ?_
    exact ⟨rfl, (Keeps.refl _ w).drewN _⟩

/-- lead, whether most have voted or not. -/
theorem lead_any {w : World} {S : Nat → Prop} {p : Nat} {x : NodV} {ov : Value} {out : List MesV} (h : Peer w S p x ov out) (hv : x.n.votes.length ≤ 60) {N : Nat} (hN : x.n.n = N) (hN5 : N ≤ 5)
    (hid1 : 1 ≤ x.n.id) (hidn : x.n.id ≤ N) (hl : x.n.log.length ≤ 60) (hcm : 0 ≤ x.n.commit) (hout : out.length ≤ 90) :
    Calls Try.prog 62 #[.pointer (some ⟨p, 0, none⟩)] w fun e w' => e = .returned (.tuple #[]) ∧
      ∃ S' x' ov' ms, Peer w' S' p x' ov' (out ++ ms) ∧ x'.n = lead x.n ∧ said ms = leadSays x.n ∧ Keeps S w w' ∧ ∀ k, S' k → S k ∨ w.heap.size ≤ k := by
  by_cases hy : x.n.n < 2 * (x.n.votes.length : Int)
  · refine (lead_yes h hv hy hN hN5 hid1 hidn hl hcm hout).mono ?_
    rintro e w' ⟨he, S', x', ov', ms, a1, a2, a3, a4, a5⟩
    exact ⟨he, S', x', ov', ms, a1, by rw [a2]; unfold lead; rw [if_pos hy], by rw [a3]; unfold leadSays; rw [if_pos hy], a4, a5⟩
  · refine (lead_no h hv hy).mono ?_
    rintro e w' ⟨he, hw⟩
    subst hw
    exact ⟨he, S, x, ov, [], by rw [List.append_nil]; exact h, by unfold lead; rw [if_neg hy], by unfold leadSays; rw [if_neg hy]; rfl, Keeps.refl _ _, fun k hk => .inl hk⟩

set_option maxRecDepth 100000 in
set_option maxHeartbeats 4000000 in
theorem voted_yes {w : World} {S : Nat → Prop} {p : Nat} {x : NodV} {ov : Value} {out : List MesV} (h : Peer w S p x ov out) {mb : Nat} {m : MesV} (hm : MesAt w S mb m) (h1 : x.n.role = 2) (h2 : m.m.term = x.n.term) (h3 : m.m.yes = true)
    (hvo : x.n.votes.Pairwise (· < ·)) (hvl : x.n.votes.length ≤ 50) {N : Nat} (hN : x.n.n = N) (hN5 : N ≤ 5) (hid1 : 1 ≤ x.n.id) (hidn : x.n.id ≤ N) (hl : x.n.log.length ≤ 60) (hcm : 0 ≤ x.n.commit) (hout : out.length ≤ 90) :
    Calls Try.prog 73 #[.pointer (some ⟨p, 0, none⟩), .pointer (some ⟨mb, 0, none⟩)] w fun e w' => e = .returned (.tuple #[]) ∧
      ∃ S' x' ov' ms, Peer w' S' p x' ov' (out ++ ms) ∧ x'.n = lead { x.n with votes := insertB m.m.src x.n.votes } ∧ said ms = leadSays { x.n with votes := insertB m.m.src x.n.votes } ∧ Keeps S w w' ∧ ∀ k, S' k → S k ∨ w.heap.size ≤ k := by
  obtain ⟨LA, LC, VA, VC, NA, NC, MA, MC, OA, OC, hlv, hvv, hnv, hmv, hov, c0, c1, c2, c3, c4, c5, c6, c7, c8, c9, c10, c11, hfz, hpl⟩ := h.open_
  obtain ⟨d0, d1, d2, d3, d4, d5, d6, d7, d8⟩ := hm.cells
  have hb1 : (x.n.role != 2) = false := by rw [h1]; rfl
  have hb2 : (m.m.term != x.n.term) = false := by rw [h2]; simp
  rw [h3] at d8
  have f8 := hfz 8
  have hov' := h.votes
  rw [hvv] at hov'
  have HV := Lib.hid hov'
  have HP := Lib.hid h
  have HVO := Lib.hid hvo
  clear hlv hnv hmv hov c0 c1 c3 c4 c5 c7 c9 c10 c11 hfz d0 d2 d4 d5 d6 d7 h1 h2 h3 hov' hvo
  go_enter Try.func73, Try.ntmps73
  go_wp2_with fail
  go_quiet (fail)
  clear hb1 hb2
  generalize hwo : w.drewN nq = wo
  have hK : Keeps (fun _ => False) w wo := by rw [← hwo]; exact (Keeps.refl _ w).drewN nq
  clear hwo
  have e8 := hK.cell (fun h => h) c8
  have e1 := hK.cell (fun h => h) d1
  have hpo := h.later hK
  have HPO := Lib.hid hpo
  have HVV := Lib.hid hvv
  clear hvv
  have HVo := Lib.hid (own_later HV.out hK)
  have hko : Keeps (fun _ => False) w wo := hK
  have HKO := Lib.hid hko
  have g8 : wo.frozen? ⟨p, 8, none⟩ = false := hpo.frozen 8
  clear hpo hko hK c2 c6 c8 d1 d3 d8 f8
  have hcl : x.n.votes.countP (· < m.m.src) ≤ x.n.votes.length := List.countP_le_length
  generalize hi : x.n.votes.countP (· < m.m.src) = i at *
  have HI := Lib.hid hi
  clear hi
  go_upto_region 1 with fail
  have hcall : ∀ w1 : World, Keeps (fun _ => False) wo w1 → Calls Try.prog 95 #[.slice VA x.n.votes.length VC, .int .i64 m.m.src] w1 fun e w' => e = .returned (.tuple #[.int .i64 i, .bool (x.n.votes.contains m.m.src)]) ∧ ∃ q, w' = w1.drewN q := by
    intro w1 hk
    rw [← HI.out]
    exact search_any (own_later HVo.out hk) (by omega) HVO.out _
  have HCL := Lib.hid hcall
  clear hcall
  cases hcont : x.n.votes.contains m.m.src
  · rw [hcont] at HCL
    have hnew : m.m.src ∉ x.n.votes := by intro hc; rw [List.contains_iff_mem.2 hc] at hcont; cases hcont
    have HNEW := Lib.hid hnew
    clear hcont hnew
    go_quiet ((go_at_call 95; exact Calls.quiet_of (HCL.out _ ((Keeps.refl _ wo).drewN _))))
    generalize hwq : wo.drewN nq = wq
    have hK : Keeps (fun _ => False) wo wq := by rw [← hwq]; exact (Keeps.refl _ wo).drewN nq
    clear hwq HCL
    have q8 := hK.cell (fun h => h) e8
    have q1 := hK.cell (fun h => h) e1
    have hpq := HPO.out.later hK
    have hvq := own_later HVo.out hK
    have hfq := hpq.frozen 8
    have hne := hpq.votes_ne
    rw [show (x.vv : Value) = _ from HVV.out] at hne
    have hplq := hpq.lt p hpq.pS
    have HPQ := Lib.hid hpq; have HVQ := Lib.hid hvq; have HNE := Lib.hid hne; have HKQ := Lib.hid (HKO.out.trans hK (fun _ h => h.elim))
    have hvlt : ∀ g, (Value.slice VA x.n.votes.length VC).ownBlock = some g → g < wq.heap.size := fun g hg => own_lt hvq hg
    have HVLT := Lib.hid hvlt
    clear hpq hvq hne hK hvlt e1 e8 g8
    have K2 := Lib.hid ((Keeps.refl (fun _ => False) wq).alloc (.cells #[.int .i64 m.m.src] 3)).drew
    go_upto_region 3 with fail
    go_cut [46] (fun _ wx => ∃ x1 S1, Peer wx S1 p x1 ov out ∧ x1.n = { x.n with votes := insertB m.m.src x.n.votes } ∧ Keeps S wq wx ∧ ∀ k, S1 k → S k ∨ wq.heap.size ≤ k)
    case first =>
      go_region_with (go_at_call 96; refine (insert_any (own_later HVQ.out K2.out) hcl (by omega) rfl (one_int _) (heap_alloc_new wq _) (fun e => by have := HVLT.out _ e; omega)).mono ?_; rintro e w3 ⟨g, c, rfl, o3, gr3, at3⟩; have k8 := cell_grown K2.out gr3 q8 HNE.out; have f8 := frozen_grown K2.out gr3 hplq hfq HNE.out)
      all_goals
        go_wp2_with fail
        go_meet
        rw [intCells_putIn] at o3
        obtain ⟨r1, r2, r3⟩ := HPQ.out.revote K2.out o3 (by simp; omega) (by rw [show (x.vv : Value) = _ from HVV.out]; exact gr3) (by rw [show (x.vv : Value) = _ from HVV.out]; rcases at3 with h | h; exact .inl h; exact .inr (by simp at h; omega))
        exact ⟨_, _, r1, by rw [insertB_new _ _ HVO.out HNEW.out, HI.out], r2, r3⟩
    case rest =>
      obtain ⟨wp, rfl⟩ : ∃ wp : World, wp = wc := ⟨_, rfl⟩
      obtain ⟨x1, S1, hp1, hx1, hk1, hs1⟩ := hcut
      clear q1 q8 hfq
      have hvl1 : x1.n.votes.length ≤ 60 := by
        rw [hx1]
        show (insertB m.m.src x.n.votes).length ≤ 60
        rw [insertB_new _ _ HVO.out HNEW.out]; simp; omega
      have HX1 := Lib.hid hx1
      have g1 : x1.n.n = N := by rw [hx1]; exact hN
      have g2 : 1 ≤ x1.n.id := by rw [hx1]; exact hid1
      have g3 : x1.n.id ≤ N := by rw [hx1]; exact hidn
      have g4 : x1.n.log.length ≤ 60 := by rw [hx1]; exact hl
      have g5 : 0 ≤ x1.n.commit := by rw [hx1]; exact hcm
      clear hx1
      go_wp2_with fail
      refine (lead_any hp1 hvl1 g1 hN5 g2 g3 g4 g5 hout).mono ?_
      rintro e w2 ⟨rfl, S2, x2, ov2, ms, hp2, hx2, hms, hk2, hs2⟩
      go_wp2
      go_end0
      refine ⟨rfl, S2, x2, ov2, ms, hp2, by rw [← HX1.out]; exact hx2, by rw [← HX1.out]; exact hms, ((HKQ.out.mono (fun _ h => h.elim)).trans hk1 (fun _ h => .inl h)).trans hk2 (fun k hk => ?_), fun k hk => ?_⟩
      · rcases hs1 k hk with h1 | h1
        · exact .inl h1
        · exact .inr (Nat.le_trans HKQ.out.size h1)
      · rcases hs2 k hk with h1 | h1
        · rcases hs1 k h1 with h1 | h1
          · exact .inl h1
          · exact .inr (Nat.le_trans HKQ.out.size h1)
        · exact .inr (Nat.le_trans HKQ.out.size (Nat.le_trans hk1.size h1))
  · rw [hcont] at HCL
    have hin : m.m.src ∈ x.n.votes := List.contains_iff_mem.1 hcont
    have hx : ({ x.n with votes := insertB m.m.src x.n.votes } : Nod) = x.n := by rw [insertB_there _ _ HVO.out hin]
    have HX := Lib.hid hx
    clear hcont hin hx
    go_quiet ((go_at_call 95; exact Calls.quiet_of (HCL.out _ ((Keeps.refl _ wo).drewN _))))
    go_wp2_with fail
    refine (lead_any (HPO.out.later ((Keeps.refl _ wo).drewN _)) (by omega) hN hN5 hid1 hidn hl hcm hout).mono ?_
    rintro e w2 ⟨rfl, S2, x2, ov2, ms, hp2, hx2, hms, hk2, hs2⟩
    go_wp2
    go_end0
    refine ⟨rfl, S2, x2, ov2, ms, hp2, by rw [HX.out]; exact hx2, by rw [HX.out]; exact hms, ((HKO.out.drewN _).mono (fun _ h => h.elim)).trans hk2 (fun _ h => .inl h), fun k hk => ?_⟩
    rcases hs2 k hk with h1 | h1
    · exact .inl h1
    · exact .inr (Nat.le_trans HKO.out.size h1)

theorem voted_any {w : World} {S : Nat → Prop} {p : Nat} {x : NodV} {ov : Value} {out : List MesV} (h : Peer w S p x ov out) {mb : Nat} {m : MesV} (hm : MesAt w S mb m)
    (hvo : x.n.votes.Pairwise (· < ·)) (hvl : x.n.votes.length ≤ 50) {N : Nat} (hN : x.n.n = N) (hN5 : N ≤ 5) (hid1 : 1 ≤ x.n.id) (hidn : x.n.id ≤ N) (hl : x.n.log.length ≤ 60) (hcm : 0 ≤ x.n.commit) (hout : out.length ≤ 90) :
    Calls Try.prog 73 #[.pointer (some ⟨p, 0, none⟩), .pointer (some ⟨mb, 0, none⟩)] w fun e w' => e = .returned (.tuple #[]) ∧
      ∃ S' x' ov' ms, Peer w' S' p x' ov' (out ++ ms) ∧ (x'.n, said ms) = voted x.n m.m ∧ Keeps S w w' ∧ ∀ k, S' k → S k ∨ w.heap.size ≤ k := by
  by_cases hno : idle x.n m.m
  · refine (voted_no h hm hno).mono ?_
    rintro e w' ⟨he, hk⟩
    refine ⟨he, S, x, ov, [], by rw [List.append_nil]; exact h.later hk, ?_, hk.mono (fun _ h => h.elim), fun k hk => .inl hk⟩
    unfold idle at hno
    unfold voted; rw [if_pos hno]; rfl
  · have h1 : x.n.role = 2 := Classical.byContradiction fun h => hno (.inl h)
    have h2 : m.m.term = x.n.term := Classical.byContradiction fun h => hno (.inr (.inl h))
    have h3 : m.m.yes = true := by
      cases hy : m.m.yes
      · exact absurd (.inr (.inr hy)) hno
      · rfl
    refine (voted_yes h hm h1 h2 h3 hvo hvl hN hN5 hid1 hidn hl hcm hout).mono ?_
    rintro e w' ⟨he, S', x', ov', ms, a1, a2, a3, a4, a5⟩
    refine ⟨he, S', x', ov', ms, a1, ?_, a4, a5⟩
    unfold idle at hno
    rw [a2, a3]; unfold voted; rw [if_neg hno]

end Go.Proofs.Ytibjbpakbfodaaa
