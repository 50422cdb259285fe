/- (*peer).others with send; (*peer).put: an item put into a leader's log. -/
import Derived.Test.YtibjbpakbfodaaaSure
import Derived.Test.YtibjbpakbfodaaaOthers
namespace Go.Proofs.Ytibjbpakbfodaaa
open Go.RowKit

/-- Those of the first k that are not it. -/
def othersTo (id : Int) (k : Nat) : List Int := ((List.range k).map fun (j : Nat) => (j : Int) + 1).filter fun k => decide (k ≠ id)

theorem othersTo_succ (id : Int) (k : Nat) : othersTo id (k + 1) = othersTo id k ++ (if (k : Int) + 1 = id then [] else [(k : Int) + 1]) := by
  unfold othersTo
  rw [List.range_succ, List.map_append, List.filter_append]
  by_cases h : (k : Int) + 1 = id <;> simp [h]

theorem othersTo_len (id : Int) (k : Nat) : (othersTo id k).length ≤ k := by
  unfold othersTo
  exact Nat.le_trans (List.length_filter_le _ _) (by simp)

/-- A leader sends to all others. -/
theorem sendAll_any {w : World} {S : Nat → Prop} {p : Nat} {x : NodV} {ov : Value} {out : List MesV} (h : Peer w S p x ov out) {N : Nat} (hN : x.n.n = N) (hN5 : N ≤ 5) (hnl : x.n.next.length = N)
    (hq : ∀ j (hj : j < x.n.next.length), 1 ≤ x.n.next[j] ∧ x.n.next[j] ≤ (x.n.log.length : Int) + 1) (hl : x.n.log.length ≤ 60) (hout : out.length ≤ 90) :
    Calls Try.prog 58 #[.pointer (some ⟨p, 0, none⟩), .func (.func 65) #[.pointer (some ⟨p, 0, none⟩)] #[]] w fun e w' => e = .returned (.tuple #[]) ∧
      ∃ S' ov' ms, Peer w' S' p x ov' (out ++ ms) ∧ said ms = (others x.n).map (sends x.n) ∧ Keeps S w w' ∧ ∀ k, S' k → S k ∨ w.heap.size ≤ k := by
  have h58 := others_any (w := w) (p := p) (f := 65) (first := #[.pointer (some ⟨p, 0, none⟩)]) (captured := #[]) (id := x.n.id) (N := N)
    (fun k w' => ∃ S' ov' ms, Peer w' S' p x ov' (out ++ ms) ∧ said ms = (othersTo x.n.id k).map (sends x.n) ∧ Keeps S w w' ∧ ∀ k, S' k → S k ∨ w.heap.size ≤ k) hN5 call65
    (fun k w' ⟨S', ov', ms, hp, _⟩ => ⟨hp.cell 0, by rw [← hN]; exact hp.cell 1⟩)
    (fun k w' ⟨S', ov', ms, hp, hs, hk, hsub⟩ hlt => ⟨fun he => ⟨S', ov', ms, hp, by rw [othersTo_succ, if_pos he, List.append_nil]; exact hs, hk, hsub⟩, fun hne => by
      have hml : ms.length ≤ k := by
        have := congrArg List.length hs
        simp only [said, List.length_map] at this
        rw [this]; exact othersTo_len _ _
      have hj : k < x.n.next.length := by omega
      have hq' := hq k hj
      refine (send_any hp k (x.n.next[k] - 1).toNat hj (by omega) (by omega) hl (by omega) (by rw [List.length_append]; omega)).mono ?_
      rintro e w2 ⟨rfl, S2, ov2, iv, hp2, hk2, hsub2⟩
      refine ⟨rfl, S2, ov2, ms ++ [⟨sends x.n ((k : Int) + 1), iv⟩], by rw [← List.append_assoc]; exact hp2, ?_, hk.trans hk2 hsub, fun g hg => ?_⟩
      · rw [othersTo_succ, if_neg hne, List.map_append, ← hs]
        simp [said]
      · rcases hsub2 g hg with h1 | h1
        · exact hsub g h1
        · exact .inr (Nat.le_trans hk.size h1)⟩)
    ⟨S, ov, [], by rw [List.append_nil]; exact h, by simp [said, othersTo], Keeps.refl _ _, fun k hk => .inl hk⟩
  refine h58.mono ?_
  rintro e w' ⟨rfl, S', ov', ms, hp, hs, hk, hsub⟩
  refine ⟨rfl, S', ov', ms, hp, ?_, hk, hsub⟩
  rw [hs]
  unfold others othersTo
  rw [hN]
  rfl

/-- What a leader's numbers are like. -/
structure Fit (x : Nod) (N : Nat) : Prop where
  n : x.n = N
  n5 : N ≤ 5
  id1 : 1 ≤ x.id
  idn : x.id ≤ N
  nl : x.next.length = N
  ml : x.mtch.length = N
  nq : ∀ j (hj : j < x.next.length), 1 ≤ x.next[j] ∧ x.next[j] ≤ (x.log.length : Int) + 1
  log : x.log.length ≤ 60
  commit : 0 ≤ x.commit

theorem grown_len (x : Nod) (cmd : Int) (h : x.log.length ≤ 60) : x.log.length ≤ (grown x cmd).log.length ∧ (grown x cmd).log.length ≤ 60 := by
  unfold grown; split
  · simp; omega
  · omega

theorem Fit.grown {x : Nod} {N : Nat} (h : Fit x N) (cmd : Int) : Fit (grown x cmd) N := by
  have hl := grown_len x cmd h.log
  have e : (Go.Proofs.Ytibjbpakbfodaaa.grown x cmd).n = x.n ∧ (Go.Proofs.Ytibjbpakbfodaaa.grown x cmd).id = x.id ∧ (Go.Proofs.Ytibjbpakbfodaaa.grown x cmd).next = x.next ∧ (Go.Proofs.Ytibjbpakbfodaaa.grown x cmd).mtch = x.mtch ∧ (Go.Proofs.Ytibjbpakbfodaaa.grown x cmd).commit = x.commit := by
    unfold Go.Proofs.Ytibjbpakbfodaaa.grown; split <;> simp
  obtain ⟨e1, e2, e3, e4, e5⟩ := e
  refine ⟨by rw [e1]; exact h.n, h.n5, by rw [e2]; exact h.id1, by rw [e2]; exact h.idn, by rw [e3]; exact h.nl, by rw [e4]; exact h.ml, ?_, hl.2, by rw [e5]; exact h.commit⟩
  intro j hj
  simp only [e3] at hj ⊢
  have := h.nq j hj
  omega

theorem Fit.noted {x : Nod} {N : Nat} (h : Fit x N) : Fit (noted x) N := by
  refine ⟨h.n, h.n5, h.id1, h.idn, by simp [Go.Proofs.Ytibjbpakbfodaaa.noted, h.nl], by simp [Go.Proofs.Ytibjbpakbfodaaa.noted, h.ml], ?_, h.log, h.commit⟩
  intro j hj
  simp only [Go.Proofs.Ytibjbpakbfodaaa.noted] at hj ⊢
  rw [List.length_set] at hj
  rw [List.getElem_set]
  split
  · omega
  · exact h.nq j hj

theorem sureAt_nonneg (x : Nod) (h : 0 ≤ x.commit) : ∀ k, 0 ≤ sureAt x k
  | 0 => h
  | k + 1 => by
    unfold sureAt
    split
    · split
      · omega
      · exact sureAt_nonneg x h k
    · exact h
theorem Fit.sure {x : Nod} {N : Nat} (h : Fit x N) : Fit (sure x) N := ⟨h.n, h.n5, h.id1, h.idn, h.nl, h.ml, h.nq, h.log, sureAt_nonneg x h.commit _⟩

set_option maxRecDepth 100000 in
set_option maxHeartbeats 2000000 in
theorem put_any {w : World} {S : Nat → Prop} {p : Nat} {x : NodV} {ov : Value} {out : List MesV} (h : Peer w S p x ov out) {N : Nat} (hf : Fit x.n N) (cmd : Int) (hout : out.length ≤ 90) :
    Calls Try.prog 67 #[.pointer (some ⟨p, 0, none⟩), .int .i64 cmd] w fun e w' => e = .returned (.tuple #[]) ∧
      ∃ S' x' ov' ms, Peer w' S' p x' ov' (out ++ ms) ∧ x'.n = put x.n cmd ∧ said ms = putSays x.n cmd ∧ Keeps S w w' ∧ ∀ k, S' k → S k ∨ w.heap.size ≤ k := by
  obtain ⟨i0, hi, hz, hsz, hby⟩ := info_parts Try.info44
  obtain ⟨LA, LC, VA, VC, NA, NC, MA, MC, OA, OC, hlv, hvv, hnv, hmv, hov, c0, c1, c2, c3, c4, c5, c6, c7, c8, c9, c10, c11, hfz, hpl⟩ := h.open_
  have HI := Lib.hid hi; have HZ := Lib.hid hz; have HS := Lib.hid hsz; have HB := Lib.hid hby
  have HLV := Lib.hid hlv
  have hl := hf.log
  have hol := h.log
  rw [hlv] at hol
  have HO := Lib.hid hol
  have hlne := h.log_ne
  rw [hlv] at hlne
  have HN := Lib.hid hlne
  clear hi hz hsz hby hlv hvv hnv hmv hov c0 c1 c3 c5 c6 c7 c8 c9 c10 c11 hol hlne
  go_enter Try.func67, Try.ntmps67
  go_upto_if 10 with fail
  go_cut [11] (fun _ wx => ∃ x1 S1, Peer wx S1 p x1 ov out ∧ x1.n = grown x.n cmd ∧ Keeps S w wx ∧ ∀ k, S1 k → S k ∨ w.heap.size ≤ k)
  case first =>
    by_cases hlt : (x.n.log.length : Int) < 60
    · go_wp2_with fail
      have K2 := Lib.hid ((Keeps.refl (fun _ => False) w).alloc (.cells #[.int .i64 x.n.term, .int .i64 cmd] 44)).drew
      go_region_law (
        (refine step_append_lies _ (by rfl) _ _ _ (by rfl) 0 44 i0 _ 2 16 Try.underlying22 HI.out HZ.out HS.out HB.out rfl (by omega) (.slice LA x.n.log.length LC) x.n.log.length _ (by rfl) (HO.out.alloc _)
            ⟨w.heap.size, 0, none⟩ 1 1 [.int .i64 x.n.term, .int .i64 cmd] (by rfl) (by rfl)
            (World.news_of_block (cs := #[.int .i64 x.n.term, .int .i64 cmd]) (t := 44) (fr := (0, 0)) (heap_alloc_new w _)) (by simp [Value.oneCell'])
            (by omega) (by simp [maxLen]; omega) (by omega) (by simp) (w.heap.size + 1) (by simp) ?_
         intro gg cap w1 hown1 hgrow hat hltg
         have k4 := cell_grown K2.out hgrow c4 HN.out
         have f4 := frozen_grown K2.out hgrow hpl (hfz 4) HN.out))
      all_goals
        go_wp2_with fail
        go_meet
        rw [itemCells_snoc] at hown1
        obtain ⟨r1, r2, r3⟩ := h.logged K2.out hown1 (by simp) (by rw [HLV.out]; exact hgrow) (by rw [HLV.out]; rcases hat with e | e; exact .inl e; exact .inr (by omega))
        exact ⟨_, _, r1, by unfold grown; rw [if_pos (by omega)], r2, r3⟩
    · go_wp2_with fail
      go_meet
      exact ⟨x, S, h, by unfold grown; rw [if_neg (by omega)], Keeps.refl _ _, fun k hk => .inl hk⟩
  case rest =>
    obtain ⟨x1, S1, hp1, hx1, hk1, hs1⟩ := hcut
    have hf1 := hf.grown cmd
    rw [← hx1] at hf1
    have HX1 := Lib.hid hx1; have HK1 := Lib.hid hk1; have HS1 := Lib.hid hs1
    clear hx1 hk1 hs1 c2 c4 hfz HO HN HLV
    obtain ⟨LA, LC, VA, VC, NA, NC, MA, MC, OA, OC, hlv, hvv, hnv, hmv, hov, c0, c1, c2, c3, c4, c5, c6, c7, c8, c9, c10, c11, hfz, hpl1⟩ := hp1.open_
    obtain ⟨j, hj⟩ : ∃ j : Nat, x1.n.id = (j : Int) + 1 := ⟨(x1.n.id - 1).toNat, by have := hf1.id1; omega⟩
    have hjn : j < N := by have := hf1.idn; omega
    obtain ⟨g1, rfl, m1, mf, hm2, _, hm4⟩ := hp1.mtchCell hmv (j := j) (by rw [hf1.ml]; exact hjn)
    obtain ⟨g2, rfl, n1, nf, hn2, _, hn4⟩ := hp1.nextCell hnv (j := j) (by rw [hf1.nl]; exact hjn)
    have hne : g2 ≠ g1 := fun e => hp1.nm g2 (by rw [hnv]; rfl) (by rw [hmv, e]; rfl)
    have hml := hf1.ml; have hnl := hf1.nl; have hn5 := hf1.n5; have hll := hf1.log
    rw [hj] at c0
    have HMV := Lib.hid hmv; have HNV := Lib.hid hnv; have HJ := Lib.hid hj
    have hml2 : (j : Int) < (x1.n.mtch.length : Int) := by omega
    have hnl2 : (j : Int) < (x1.n.next.length : Int) := by omega
    clear hlv hvv hnv hmv hov c1 c2 c3 c5 c6 c7 c8 c11 hml hnl hj
    go_wp2_with fail
    go_cut [29] (fun _ wx => Peer wx S1 p ⟨noted x1.n, x1.lv, x1.vv, x1.nv, x1.mv⟩ ov out ∧ Keeps S1 wc wx)
    case first =>
      have hw : IntKind.i64.wrap ((x1.n.log.length : Int) + 1) = (x1.n.log.length : Int) + 1 := IntWalk.i64_in _ (by omega)
      have hw2 : IntKind.i64.wrap ((j : Int) + 1 - 1) = (j : Int) := by rw [show (j : Int) + 1 - 1 = (j : Int) from by omega]; exact IntWalk.i64_in _ (by omega)
      have mfj := mf j
      have nfj := nf j
      clear mf nf hfz
      go_region
      all_goals
        go_wp2_with fail
        go_meet
        have hno : noted x1.n = { ({ x1.n with mtch := x1.n.mtch.set j x1.n.log.length } : Nod) with next := x1.n.next.set j ((x1.n.log.length : Int) + 1) } := by
          have hid' : (x1.n.id - 1).toNat = j := by rw [HJ.out]; omega
          unfold noted
          rw [hid']
        rw [hno]
        obtain ⟨a1, a2⟩ := hp1.setMtch (Keeps.refl (fun _ => False) wc).drew HMV.out (j := j) (x1.n.log.length : Int)
        obtain ⟨b1, b2⟩ := a1.setNext (Keeps.refl _ _) HNV.out (j := j) ((x1.n.log.length : Int) + 1)
        exact ⟨b1, a2.trans b2 (fun _ h => .inl h)⟩
    case rest =>
      obtain ⟨wo, rfl⟩ : ∃ wo : World, wo = wc := ⟨_, rfl⟩
      obtain ⟨hp2, hk2⟩ := hcut
      have hf2 := hf1.noted
      have HK2 := Lib.hid hk2
      clear hk2 mf nf hfz c0 c4 c9 c10 m1 n1
      go_wp2_with fail
      refine (sure_any hp2 hf2.log (by have := hf2.ml; have := hf2.n5; simp only at *; omega) hf2.commit).mono ?_
      rintro e w3 ⟨rfl, hp3, hk3⟩
      have hf3 := hf2.sure
      go_wp2_with fail
      refine (sendAll_any hp3 hf3.n hf3.n5 hf3.nl hf3.nq hf3.log hout).mono ?_
      rintro e w4 ⟨rfl, S4, ov4, ms, hp4, hms, hk4, hs4⟩
      go_wp2
      go_end0
      have hput : sure (noted x1.n) = put x.n cmd := by unfold put; rw [HX1.out]
      refine ⟨rfl, S4, _, ov4, ms, hp4, hput, ?_, ?_, fun k hk => ?_⟩
      · unfold putSays; rw [← hput]; exact hms
      · exact ((HK1.out.trans HK2.out HS1.out).trans hk3 HS1.out).trans hk4 HS1.out
      · rcases hs4 k hk with h1 | h1
        · exact HS1.out k h1
        · exact .inr (Nat.le_trans (Nat.le_trans HK1.out.size (Nat.le_trans HK2.out.size hk3.size)) h1)
end Go.Proofs.Ytibjbpakbfodaaa
