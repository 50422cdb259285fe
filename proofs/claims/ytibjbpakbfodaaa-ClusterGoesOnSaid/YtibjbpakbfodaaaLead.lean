/- (*peer).lead: it comes to lead, if most have voted for it. -/
import Derived.Test.YtibjbpakbfodaaaPut
namespace Go.Proofs.Ytibjbpakbfodaaa
open Go.RowKit

theorem Try.info3' : (Try.prog.info? 3).map (fun i => (i.zero, i.size, i.bytes)) = some (some (.int .i64 0), 1, 8) := by kernel_rfl

theorem madeInts (n : Nat) : (madeCells (Value.int .i64 0).cells (n * 1)).toList = intCells (List.replicate n 0) := by
  rw [Nat.mul_one]
  show (madeCells #[Value.int .i64 0] n).toList = _
  rw [toList_madeCells_one]
  simp [intCells]

/-- Two new rows of numbers, 'Next' and 'Match', and the fields of one who leads. -/
theorem Peer.crown {w w' : World} {S : Nat → Prop} {p : Nat} {x : NodV} {ov : Value} {out : List MesV} (h : Peer w S p x ov out) {N gn gm : Nat} (hN : N ≤ 1000) (hk : Keeps (fun k => k = p) w w')
    (hbn : w'.heap[gn]? = some (.cells (madeCells #[Value.int .i64 0] N) 3 (0, 0))) (hbm : w'.heap[gm]? = some (.cells (madeCells #[Value.int .i64 0] N) 3 (0, 0))) (h1 : w.heap.size ≤ gn) (h2 : w.heap.size ≤ gm) (hne : gn ≠ gm)
    (hb : w'.heap[p]? = some (.cells (nodCells ⟨{ x.n with role := 3, boss := x.n.id, votes := [], next := List.replicate N 0, mtch := List.replicate N 0 }, x.lv, .slice none 0 0, .slice (some ⟨gn, 0, none⟩) N N, .slice (some ⟨gm, 0, none⟩) N N⟩ ++ [ov]).toArray 79 (0, 0))) :
    Peer w' (fun k => S k ∨ k = gn ∨ k = gm) p ⟨{ x.n with role := 3, boss := x.n.id, votes := [], next := List.replicate N 0, mtch := List.replicate N 0 }, x.lv, .slice none 0 0, .slice (some ⟨gn, 0, none⟩) N N, .slice (some ⟨gm, 0, none⟩) N N⟩ ov out ∧
      Keeps S w w' ∧ ∀ k, (S k ∨ k = gn ∨ k = gm) → S k ∨ w.heap.size ≤ k := by
  have hS : Keeps S w w' := hk.mono (fun k e => .inl (e ▸ h.pS))
  have hpl := h.lt p h.pS
  have hlt' : ∀ {g : Nat} {o : Obj}, w'.heap[g]? = some o → g < w'.heap.size := fun {g o} hg => by
    rcases Nat.lt_or_ge g w'.heap.size with hlt | hge
    · exact hlt
    · rw [Array.getElem?_eq_none hge] at hg; cases hg
  have mv : ∀ {base e size : Nat} {v : Value} {n : Nat} {xs : List Value}, w.ownsRow base e size v n xs → v.ownBlock ≠ some p → w'.ownsRow base e size v n xs := fun hr hne =>
    own_keep hr fun g hg => hk.block g (own_lt hr hg) (fun e => hne (by rw [hg, e]))
  have nw : ∀ g, w'.heap[g]? = some (.cells (madeCells #[Value.int .i64 0] N) 3 (0, 0)) → w'.ownsRow 0 3 1 (.slice (some ⟨g, 0, none⟩) N N) (List.replicate N (0 : Int)).length (intCells (List.replicate N 0)) := by
    intro g hg
    refine ⟨by simp [intCells], .inr ⟨g, N, _, by rw [List.length_replicate], Nat.zero_le _, hg, by simp, by simp [maxLen]; omega, by rw [size_madeCells, Nat.mul_one], ?_⟩⟩
    rw [toList_madeCells_one, List.take_of_length_le (by simp)]
    simp [intCells]
  refine ⟨{ blk := hb, log := mv h.log h.log_ne, votes := World.ownsRow_nil _ _ _ _, next := nw _ hbn, mtch := nw _ hbm, outs := mv h.outs h.out_ne, items := fun m hm => ?_, late := h.late, pS := .inl h.pS,
            lS := fun g hg => .inl (h.lS g hg), vS := fun g hg => by simp [Value.ownBlock] at hg, nS := fun g hg => ?_, mS := fun g hg => ?_, oS := fun g hg => .inl (h.oS g hg), vn := fun g hg => by simp [Value.ownBlock] at hg, vm := fun g hg => by simp [Value.ownBlock] at hg,
            nm := fun g hg hg' => ?_, lt := fun k hk' => ?_ }, hS, fun k hk' => ?_⟩
  · refine (h.items m hm).into hS (fun _ _ h => h) fun k hlt hk' => ?_
    rcases hk' with h1 | h1 | h1
    · exact h1
    · omega
    · omega
  · simp [Value.ownBlock] at hg; exact .inr (.inl hg.symm)
  · simp [Value.ownBlock] at hg; exact .inr (.inr hg.symm)
  · simp [Value.ownBlock] at hg hg'; omega
  · rcases hk' with h1 | h1 | h1
    · exact Nat.lt_of_lt_of_le (h.lt k h1) hk.size
    · rw [h1]; exact hlt' hbn
    · rw [h1]; exact hlt' hbm
  · rcases hk' with h1 | h1 | h1
    · exact .inl h1
    · exact .inr (by omega)
    · exact .inr (by omega)

theorem two_new (X : World) (a b : Obj) {n : Nat} (hn : X.heap.size = n) : ((X.alloc a).alloc b).drew.heap[n]? = some a ∧ ((X.alloc a).alloc b).drew.heap[n + 1]? = some b := by
  subst hn
  exact ⟨(Below.heap_alloc _ _ _ (by simp)).trans (heap_alloc_new X a), heap_alloc2 X a b⟩

/-- The frame and the fields behind the making of the two rows. -/
theorem crown_end {w : World} {S : Nat → Prop} {p : Nat} {x : NodV} {ov : Value} {out : List MesV} (h : Peer w S p x ov out) {N gn gm : Nat} (hN : N ≤ 1000) (hg : (gn = w.heap.size ∧ gm = w.heap.size + 1) ∨ (gn = w.heap.size + 1 ∧ gm = w.heap.size)) :
    ∃ x1 S1, Peer (((((((w.setCell ⟨p, 6, none⟩ (.int .i64 3)).setCell ⟨p, 7, none⟩ (.int .i64 x.n.id)).setCell ⟨p, 8, none⟩ (.slice none 0 0)).setCell ⟨p, 9, none⟩ (.slice (some ⟨gn, 0, none⟩) N N)).setCell ⟨p, 10, none⟩ (.slice (some ⟨gm, 0, none⟩) N N)).alloc
        (.cells (madeCells #[Value.int .i64 0] N) 3)).alloc (.cells (madeCells #[Value.int .i64 0] N) 3)).drew S1 p x1 ov out ∧ x1.n = { x.n with role := 3, boss := x.n.id, votes := [], next := List.replicate N 0, mtch := List.replicate N 0 } ∧
      Keeps S w (((((((w.setCell ⟨p, 6, none⟩ (.int .i64 3)).setCell ⟨p, 7, none⟩ (.int .i64 x.n.id)).setCell ⟨p, 8, none⟩ (.slice none 0 0)).setCell ⟨p, 9, none⟩ (.slice (some ⟨gn, 0, none⟩) N N)).setCell ⟨p, 10, none⟩ (.slice (some ⟨gm, 0, none⟩) N N)).alloc
        (.cells (madeCells #[Value.int .i64 0] N) 3)).alloc (.cells (madeCells #[Value.int .i64 0] N) 3)).drew ∧ ∀ k, S1 k → S k ∨ w.heap.size ≤ k := by
  have hpl := h.lt p h.pS
  have hK := (((((((Keeps.refl (fun k => k = p) w).setP (k := 6) (.int .i64 3)).setP (k := 7) (.int .i64 x.n.id)).setP (k := 8) (.slice none 0 0)).setP (k := 9) (.slice (some ⟨gn, 0, none⟩) N N)).setP (k := 10) (.slice (some ⟨gm, 0, none⟩) N N)).alloc (.cells (madeCells #[Value.int .i64 0] N) 3)).alloc (.cells (madeCells #[Value.int .i64 0] N) 3) |>.drew
  obtain ⟨t1, t2⟩ := two_new (((((w.setCell ⟨p, 6, none⟩ (.int .i64 3)).setCell ⟨p, 7, none⟩ (.int .i64 x.n.id)).setCell ⟨p, 8, none⟩ (.slice none 0 0)).setCell ⟨p, 9, none⟩ (.slice (some ⟨gn, 0, none⟩) N N)).setCell ⟨p, 10, none⟩ (.slice (some ⟨gm, 0, none⟩) N N))
    (.cells (madeCells #[Value.int .i64 0] N) 3) (.cells (madeCells #[Value.int .i64 0] N) 3) (n := w.heap.size) (by simp only [setCell_size])
  have hb := setCell_blk (k := 10) (u := .slice (some ⟨gm, 0, none⟩) N N) (setCell_blk (k := 9) (u := .slice (some ⟨gn, 0, none⟩) N N) (setCell_blk (k := 8) (u := .slice none 0 0) (setCell_blk (k := 7) (u := .int .i64 x.n.id) (setCell_blk (k := 6) (u := .int .i64 3) h.blk))))
  have hb' := ((Below.heap_alloc _ (.cells (madeCells #[Value.int .i64 0] N) 3) p (by simp only [World.size_alloc, setCell_size]; omega)).trans (Below.heap_alloc _ (.cells (madeCells #[Value.int .i64 0] N) 3) p (by simp only [setCell_size]; omega))).trans hb
  generalize hX : (((((w.setCell ⟨p, 6, none⟩ (.int .i64 3)).setCell ⟨p, 7, none⟩ (.int .i64 x.n.id)).setCell ⟨p, 8, none⟩ (.slice none 0 0)).setCell ⟨p, 9, none⟩ (.slice (some ⟨gn, 0, none⟩) N N)).setCell ⟨p, 10, none⟩ (.slice (some ⟨gm, 0, none⟩) N N)) = X at *
  clear hX hb
  rcases hg with ⟨e1, e2⟩ | ⟨e1, e2⟩
  · obtain ⟨r1, r2, r3⟩ := h.crown (gn := gn) (gm := gm) hN hK (by rw [e1]; exact t1) (by rw [e2]; exact t2) (by omega) (by omega) (by omega) hb'
    exact ⟨_, _, r1, rfl, r2, r3⟩
  · obtain ⟨r1, r2, r3⟩ := h.crown (gn := gn) (gm := gm) hN hK (by rw [e1]; exact t2) (by rw [e2]; exact t1) (by omega) (by omega) (by omega) hb'
    exact ⟨_, _, r1, rfl, r2, r3⟩

set_option maxRecDepth 100000 in
set_option maxHeartbeats 2000000 in
theorem lead_no {w : World} {S : Nat → Prop} {p : Nat} {x : NodV} {ov : Value} {out : List MesV} (h : Peer w S p x ov out) (hv : x.n.votes.length ≤ 60) (hno : ¬ x.n.n < 2 * (x.n.votes.length : Int)) :
    Calls Try.prog 62 #[.pointer (some ⟨p, 0, none⟩)] w fun e w' => e = .returned (.tuple #[]) ∧ w' = w := by
  obtain ⟨LA, LC, VA, VC, NA, NC, MA, MC, OA, OC, hlv, hvv, hnv, hmv, hov, c0, c1, c2, c3, c4, c5, c6, c7, c8, c9, c10, c11, hfz, hpl⟩ := h.open_
  clear hlv hvv hnv hmv hov c0 c2 c3 c4 c5 c6 c7 c9 c10 c11 hfz
  have hd : decide (x.n.n < 2 * (x.n.votes.length : Int)) = false := by simpa using hno
  go_enter Try.func62, Try.ntmps62
  go_wp2_with (go_at_call 88; refine (majority_any c1 (by omega) (by omega)).mono ?_; rintro e w' ⟨rfl, rfl⟩)
  refine bodyPost_ret (v := .tuple #[]) (results_none rfl _ _ _) rfl ?_
  exact ⟨rfl, rfl⟩

theorem set_run (k N : Nat) (a : Int) (h : k < N) : (List.replicate k a ++ List.replicate (N - k) 0).set k a = List.replicate (k + 1) a ++ List.replicate (N - (k + 1)) 0 := by
  obtain ⟨d, hd⟩ : ∃ d, N - k = d + 1 := ⟨N - k - 1, by omega⟩
  rw [hd, show N - (k + 1) = d from by omega, List.set_append_right _ _ (by simp), List.length_replicate, Nat.sub_self, List.replicate_succ, List.set_cons_zero, List.replicate_succ' (n := k), List.append_assoc]
  rfl

set_option maxRecDepth 100000 in
set_option maxHeartbeats 2000000 in
theorem lead_yes {w : World} {S : Nat → Prop} {p : Nat} {x : NodV} {ov : Value} {out : List MesV} (h : Peer w S p x ov out) (hv : x.n.votes.length ≤ 60) (hyes : x.n.n < 2 * (x.n.votes.length : Int)) {N : Nat} (hN : x.n.n = N) (hN5 : N ≤ 5)
    (hid1 : 1 ≤ x.n.id) (hidn : x.n.id ≤ N) (hl : x.n.log.length ≤ 60) (hcm : 0 ≤ x.n.commit) (hout : out.length ≤ 90) :
    Calls Try.prog 62 #[.pointer (some ⟨p, 0, none⟩)] w fun e w' => e = .returned (.tuple #[]) ∧
      ∃ S' x' ov' ms, Peer w' S' p x' ov' (out ++ ms) ∧ x'.n = put (crowned x.n) 0 ∧ said ms = putSays (crowned x.n) 0 ∧ Keeps S w w' ∧ ∀ k, S' k → S k ∨ w.heap.size ≤ k := by
  obtain ⟨i0, hi, hz, hsz, hby⟩ := info_parts Try.info3'
  obtain ⟨LA, LC, VA, VC, NA, NC, MA, MC, OA, OC, hlv, hvv, hnv, hmv, hov, c0, c1, c2, c3, c4, c5, c6, c7, c8, c9, c10, c11, hfz, hpl⟩ := h.open_
  have hmk : ∀ w' : World, (Instr.makeSlice 23 (.int .i64 (N : Int)) (.int .i64 (N : Int))).run Try.prog w' = .ok (.slice (some ⟨w'.heap.size, 0, none⟩) N N) (w'.alloc (.cells (madeCells (Value.int .i64 0).cells (N * 1)) 3)) := by
    intro w'
    have := run_make (P := Try.prog) w' 23 3 i0 _ Try.underlying23 hi hz .i64 .i64 (N : Int) (N : Int) (by omega) (Int.le_refl _) (by rw [hby]; omega) (by omega)
    rw [hsz] at this
    simpa using this
  clear hi hz hsz hby
  rw [hN] at c1
  have hd : decide ((N : Int) < 2 * (x.n.votes.length : Int)) = true := by rw [← hN]; simpa using hyes
  clear hlv hvv hnv hmv hov c2 c3 c5 c11
  go_enter Try.func62, Try.ntmps62
  go_upto_region 2 with (go_at_call 88; refine (majority_any c1 (by omega) (by omega)).mono ?_; rintro e w' ⟨rfl, hw⟩; have hw := hw.symm; subst hw)
  go_cut [29] (fun _ wx => ∃ x1 S1, Peer wx S1 p x1 ov out ∧ x1.n = { x.n with role := 3, boss := x.n.id, votes := [], next := List.replicate N 0, mtch := List.replicate N 0 } ∧ Keeps S w wx ∧ ∀ k, S1 k → S k ∨ w.heap.size ≤ k)
  case first =>
    go_region
    all_goals
      go_wp2_with fail
      go_meet
      first
        | exact crown_end h (by omega) (.inl ⟨rfl, rfl⟩)
        | exact crown_end h (by omega) (.inr ⟨rfl, rfl⟩)
  case rest =>
    obtain ⟨wo, rfl⟩ : ∃ wo : World, wo = wc := ⟨_, rfl⟩
    obtain ⟨x1, S1, hp1, hx1, hk1, hs1⟩ := hcut
    have HX1 := Lib.hid hx1; have HK1 := Lib.hid hk1; have HS1 := Lib.hid hs1; have HP1 := Lib.hid hp1
    have hnl : x1.n.next.length = N := by rw [hx1]; simp
    have hlg : x1.n.log.length ≤ 60 := by rw [hx1]; exact hl
    clear hx1 hk1 hs1 c0 c1 c4 c6 c7 c8 c9 c10 hfz hmk hd
    obtain ⟨LA, LC, VA, VC, NA, NC, MA, MC, OA, OC, hlv, hvv, hnv, hmv, hov, c0, c1, c2, c3, c4, c5, c6, c7, c8, c9, c10, c11, hfz, hpl1⟩ := hp1.open_
    have HNV := Lib.hid hnv
    have HC4 := Lib.hid c4; have HC9 := Lib.hid c9
    rw [hnl] at c9
    clear hlv hvv hnv hmv hov c0 c1 c2 c3 c5 c6 c7 c8 c10 c11 hfz hp1
    have hN0 : 0 < N := by omega
    go_wp2_with fail
    go_loopw [2, 55] (fun _ i wr => ∃ k : Nat, k ≤ N ∧ i = .int .i64 k ∧ ∃ y, y = List.replicate k ((x1.n.log.length : Int) + 1) ++ List.replicate (N - k) 0 ∧ Peer wr S1 p ⟨{ x1.n with next := y }, x1.lv, x1.vv, x1.nv, x1.mv⟩ ov out ∧ Keeps S1 wo wr) (fun _ i _ => 7 - (intOf i).toNat)
    case atStart =>
      refine ⟨0, by omega, rfl, _, rfl, ?_, Keeps.refl _ _⟩
      have e : ({ x1.n with next := List.replicate 0 ((x1.n.log.length : Int) + 1) ++ List.replicate (N - 0) 0 } : Nod) = x1.n := by
        rw [HX1.out]; simp
      rw [e]
      exact HP1.out
    case round =>
      obtain ⟨k, hk, rfl, y, hy, hpy, hky⟩ := hrel
      have HY := Lib.hid hy; have HKY := Lib.hid hky
      have hyl : y.length = N := by rw [hy]; simp; omega
      have b4 : wr.cell? ⟨p, 4, none⟩ = some (.slice LA x1.n.log.length LC) := by
        obtain ⟨A, c, e, _⟩ := own_slice hpy.log
        have h1 := hpy.cell 4
        have h2 := HP1.out.cell 4
        rw [HC4.out] at h2
        exact h1.trans h2.symm
      have b9 : wr.cell? ⟨p, 9, none⟩ = some (.slice NA N NC) := by
        have h1 := hpy.cell 9
        have h2 := HP1.out.cell 9
        rw [HC9.out, hnl] at h2
        exact h1.trans h2.symm
      clear hy hky c4 c9
      by_cases hlt : k < N
      · obtain ⟨g, rfl, gc, gf, gp, _, gl⟩ := hpy.nextCell (A := NA) (c := NC) (by rw [HNV.out, hnl]; show _ = Value.slice NA y.length NC; rw [hyl]) (j := k) (by show k < y.length; omega)
        have HPY := Lib.hid hpy
        have gfk := gf k
        clear hpy gf
        have hw : IntKind.i64.wrap ((x1.n.log.length : Int) + 1) = (x1.n.log.length : Int) + 1 := IntWalk.i64_in _ (by omega)
        go_wp2_with fail
        go_region
        all_goals
          clear hw
          go_wp2
          go_roundw
          case rel =>
            obtain ⟨q1, q2⟩ := HPY.out.setNext (Keeps.refl (fun _ => False) wr).drew (g := g) (j := k) (c := NC) (by rw [HNV.out, hnl]; show _ = Value.slice _ y.length NC; rw [hyl]) ((x1.n.log.length : Int) + 1)
            refine ⟨k + 1, by omega, by go_num, _, ?_, q1, HKY.out.trans q2 (fun _ h => .inl h)⟩
            show y.set k _ = _
            rw [HY.out]
            exact set_run k N _ hlt
          case measure => simp [intOf]; omega
      · have : k = N := by omega
        subst this
        have hcr : ({ x1.n with next := y } : Nod) = crowned x.n := by
          unfold crowned
          rw [HX1.out, HY.out, hN]
          simp [HX1.out]
        have hfit : Fit (crowned x.n) k := by
          refine ⟨hN, hN5, hid1, hidn, by simp [crowned, hN], by simp [crowned, hN], ?_, hl, hcm⟩
          intro j hj
          simp only [crowned] at hj ⊢
          rw [List.getElem_replicate]
          omega
        rw [← hcr] at hfit
        go_wp2_with fail
        refine (put_any hpy hfit 0 hout).mono ?_
        rintro e w5 ⟨rfl, S5, x5, ov5, ms, hp5, hx5, hms, hk5, hs5⟩
        go_wp2
        go_end0
        rw [← hcr]
        refine ⟨rfl, S5, x5, ov5, ms, hp5, hx5, hms, (HK1.out.trans HKY.out HS1.out).trans hk5 HS1.out, fun g hg => ?_⟩
        rcases hs5 g hg with h1 | h1
        · exact HS1.out g h1
        · exact .inr (Nat.le_trans HK1.out.size (Nat.le_trans HKY.out.size h1))
end Go.Proofs.Ytibjbpakbfodaaa
