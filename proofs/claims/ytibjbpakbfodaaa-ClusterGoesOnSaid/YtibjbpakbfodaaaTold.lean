/- (*peer).told: a leader hears what a node has. -/
import Derived.Test.YtibjbpakbfodaaaPut
import Derived.Test.YtibjbpakbfodaaaAsked
namespace Go.Proofs.Ytibjbpakbfodaaa
open Go.RowKit

theorem at_get {l : List Int} {j : Nat} (hj : j < l.length) : at_ l ((j : Int) + 1) = l[j] := by
  unfold at_
  rw [show ((j : Int) + 1 - 1).toNat = j from by omega, List.getElem?_eq_getElem hj]
  rfl

set_option maxRecDepth 100000 in
set_option maxHeartbeats 2000000 in
theorem told_no {w : World} {S : Nat → Prop} {p : Nat} {x : NodV} {ov : Value} {out : List MesV} (h : Peer w S p x ov out) {mb : Nat} {m : MesV} (hm : MesAt w S mb m) (hno : x.n.role ≠ 3 ∨ m.m.term ≠ x.n.term) :
    Calls Try.prog 75 #[.pointer (some ⟨p, 0, none⟩), .pointer (some ⟨mb, 0, none⟩)] w fun e w' => e = .returned (.tuple #[]) ∧ Keeps (fun _ => False) w w' := by
  obtain ⟨LA, LC, VA, VC, NA, NC, MA, MC, OA, OC, hlv, hvv, hnv, hmv, hov, c0, c1, c2, c3, c4, c5, c6, c7, c8, c9, c10, c11, hfz, hpl⟩ := h.open_
  obtain ⟨d0, d1, d2, d3, d4, d5, d6, d7, d8⟩ := hm.cells
  clear hlv hvv hnv hmv hov c0 c1 c3 c4 c5 c7 c8 c9 c10 c11 hfz d0 d1 d2 d4 d5 d6 d7 d8
  by_cases h1 : x.n.role = 3
  · have h2 : m.m.term ≠ x.n.term := by rcases hno with h | h; exact absurd h1 h; exact h
    have hb1 : (x.n.role != 3) = false := by rw [h1]; rfl
    have hb2 : (m.m.term != x.n.term) = true := by rw [bne_iff_ne]; exact h2
    have HH := Lib.hid h1
    clear h1 h2 hno
    go_enter Try.func75, Try.ntmps75
    go_wp2_with fail
    go_quiet (fail)
    clear hb1 hb2
    go_wp2
    refine bodyPost_ret (v := .tuple #[]) (results_none rfl _ _ _) rfl ?_
    exact ⟨rfl, (Keeps.refl _ w).drewN _⟩
  · have hb1 : (x.n.role != 3) = true := by rw [bne_iff_ne]; exact h1
    clear h1 hno
    go_enter Try.func75, Try.ntmps75
    go_wp2_with fail
    go_quiet (fail)
    clear hb1
    go_wp2
    refine bodyPost_ret (v := .tuple #[]) (results_none rfl _ _ _) rfl ?_
    exact ⟨rfl, (Keeps.refl _ w).drewN _⟩

theorem back_end {w w2 : World} {S : Nat → Prop} {p : Nat} {x : NodV} {ov : Value} {out : List MesV} (h : Peer w S p x ov out) (hk : Keeps (fun _ => False) w w2) {g j c : Nat} (hv : x.nv = .slice (some ⟨g, 0, none⟩) x.n.next.length c) {m : Mes} (hj : m.src = (j : Int) + 1) {v : Int}
    (he : v = max 1 (min (at_ x.n.next m.src - 1) (m.index + 1))) :
    Peer (w2.setCell ⟨g, j, none⟩ (.int .i64 v)) S p ⟨backs x.n m, x.lv, x.vv, x.nv, x.mv⟩ ov out ∧ Keeps S w (w2.setCell ⟨g, j, none⟩ (.int .i64 v)) := by
  have e : backs x.n m = { x.n with next := x.n.next.set j v } := by
    unfold backs; rw [he, show (m.src - 1).toNat = j from by omega]
  rw [e]
  exact h.setNext hk hv v

set_option maxRecDepth 100000 in
set_option maxHeartbeats 2000000 in
theorem told_back {w : World} {S : Nat → Prop} {p : Nat} {x : NodV} {ov : Value} {out : List MesV} (h : Peer w S p x ov out) {mb : Nat} {m : MesV} (hm : MesAt w S mb m) (h1 : x.n.role = 3) (h2 : m.m.term = x.n.term) (h3 : m.m.yes = false)
    {N : Nat} (hf : Fit x.n N) {j : Nat} (hj : m.m.src = (j : Int) + 1) (hjN : j < N) (hi0 : 0 ≤ m.m.index) (hi1 : m.m.index ≤ 60) (hout : out.length ≤ 90) :
    Calls Try.prog 75 #[.pointer (some ⟨p, 0, none⟩), .pointer (some ⟨mb, 0, none⟩)] w fun e w' => e = .returned (.tuple #[]) ∧
      ∃ S' x' ov' ms, Peer w' S' p x' ov' (out ++ ms) ∧ x'.n = backs x.n m.m ∧ said ms = [sends (backs x.n m.m) m.m.src] ∧ Keeps S w w' ∧ ∀ k, S' k → S k ∨ w.heap.size ≤ k := by
  obtain ⟨LA, LC, VA, VC, NA, NC, MA, MC, OA, OC, hlv, hvv, hnv, hmv, hov, c0, c1, c2, c3, c4, c5, c6, c7, c8, c9, c10, c11, hfz, hpl⟩ := h.open_
  obtain ⟨d0, d1, d2, d3, d4, d5, d6, d7, d8⟩ := hm.cells
  have hjn : j < x.n.next.length := by rw [hf.nl]; exact hjN
  obtain ⟨g, rfl, gc, gf, gp, _, gl⟩ := h.nextCell hnv hjn
  have hq := hf.nq j hjn
  have hl := hf.log
  rw [hj] at d1
  rw [h3] at d8
  have hat := at_get hjn
  rw [← hj] at hat
  have HAT := Lib.hid hat
  have hnl := hf.nl; have hn5 := hf.n5
  have hnl' : (j : Int) < (x.n.next.length : Int) := by omega
  have HNV := Lib.hid hnv
  have gfj := gf j
  have hb1 : (x.n.role != 3) = false := by rw [h1]; rfl
  have hb2 : (m.m.term != x.n.term) = false := by rw [h2]; simp
  have HJ := Lib.hid hj; have HP := Lib.hid h
  clear hlv hvv hnv hmv hov c0 c1 c3 c4 c5 c7 c8 c10 c11 hfz d0 d2 d5 d6 d7 gf hat h1 h2 h3 hj hnl
  generalize hz : x.n.next[j] = z at *
  clear hz
  go_enter Try.func75, Try.ntmps75
  go_wp2_with fail
  go_quiet (fail)
  clear hb1 hb2
  go_upto_region 8 with fail
  have hw1 : IntKind.i64.wrap (z - 1) = z - 1 := IntWalk.i64_in _ (by omega)
  have hw2 : IntKind.i64.wrap (m.m.index + 1) = m.m.index + 1 := IntWalk.i64_in _ (by omega)
  go_cut [98] (fun _ wx => Peer wx S p ⟨backs x.n m.m, x.lv, x.vv, x.nv, x.mv⟩ ov out ∧ Keeps S w wx)
  case first =>
    go_region
    all_goals
      clear hw1 hw2
      go_wp2_with fail
      all_goals
        go_meet
        exact back_end HP.out ((Keeps.refl _ w).drewN _) HNV.out HJ.out (by rw [HAT.out]; omega)
  case rest =>
    obtain ⟨wo, rfl⟩ : ∃ wo : World, wo = wc := ⟨_, rfl⟩
    obtain ⟨hp, hk⟩ := hcut
    have hm' := (hm.keep hk (fun _ _ h => h)).cells.2.1
    rw [HJ.out] at hm'
    clear d1 d3 d4 d8 c2 c6 c9 gc hw1 hw2
    have hlen : (backs x.n m.m).next.length = x.n.next.length := by simp [backs]
    have hjb : j < (backs x.n m.m).next.length := by omega
    have hval : (backs x.n m.m).next[j] = max 1 (min (z - 1) (m.m.index + 1)) := by
      simp only [backs]
      rw [List.getElem_set, if_pos (by rw [HJ.out]; omega), HAT.out]
    go_wp2_with fail
    refine (send_any hp j (max 1 (min (z - 1) (m.m.index + 1)) - 1).toNat hjb (by rw [hval]; omega) (by show _ ≤ x.n.log.length; omega) hl (by show (backs x.n m.m).next.length ≤ 5; rw [hlen, hf.nl]; exact hn5) (by omega)).mono ?_
    rintro e w5 ⟨rfl, S5, ov5, iv, hp5, hk5, hs5⟩
    go_wp2
    go_end0
    refine ⟨rfl, S5, _, ov5, _, hp5, rfl, by rw [HJ.out]; rfl, hk.trans hk5 (fun _ h => .inl h), fun k hk' => ?_⟩
    rcases hs5 k hk' with h1 | h1
    · exact .inl h1
    · exact .inr (Nat.le_trans hk.size h1)

/-- What it says then. -/
def toldSays (x : Nod) (m : Mes) : List Mes := if at_ (hears x m).next m.src ≤ x.log.length then [sends (hears x m) m.src] else []

/-- What a leader is that has noted that a node has so many. -/
def heard (x : Nod) (j : Nat) (v : Int) : Nod := { ({ x with mtch := x.mtch.set j v } : Nod) with next := x.next.set j (v + 1) }

theorem Fit.heard {x : Nod} {N : Nat} (h : Fit x N) {j : Nat} {v : Int} (h0 : 0 ≤ v) (h1 : v ≤ x.log.length) : Fit (heard x j v) N := by
  refine ⟨h.n, h.n5, h.id1, h.idn, by simp [Go.Proofs.Ytibjbpakbfodaaa.heard, h.nl], by simp [Go.Proofs.Ytibjbpakbfodaaa.heard, h.ml], ?_, h.log, h.commit⟩
  intro k hk
  simp only [Go.Proofs.Ytibjbpakbfodaaa.heard] at hk ⊢
  rw [List.length_set] at hk
  rw [List.getElem_set]
  split
  · omega
  · exact h.nq k hk

set_option maxRecDepth 100000 in
set_option maxHeartbeats 4000000 in
theorem told_yes {w : World} {S : Nat → Prop} {p : Nat} {x : NodV} {ov : Value} {out : List MesV} (h : Peer w S p x ov out) {mb : Nat} {m : MesV} (hm : MesAt w S mb m) (h1 : x.n.role = 3) (h2 : m.m.term = x.n.term) (h3 : m.m.yes = true)
    {N : Nat} (hf : Fit x.n N) (hmt : ∀ j (hj : j < x.n.mtch.length), 0 ≤ x.n.mtch[j] ∧ x.n.mtch[j] ≤ x.n.log.length) {j : Nat} (hj : m.m.src = (j : Int) + 1) (hjN : j < N) (hout : out.length ≤ 90) :
    Calls Try.prog 75 #[.pointer (some ⟨p, 0, none⟩), .pointer (some ⟨mb, 0, none⟩)] w fun e w' => e = .returned (.tuple #[]) ∧
      ∃ S' x' ov' ms, Peer w' S' p x' ov' (out ++ ms) ∧ x'.n = hears x.n m.m ∧ said ms = toldSays x.n m.m ∧ Keeps S w w' ∧ ∀ k, S' k → S k ∨ w.heap.size ≤ k := by
  obtain ⟨LA, LC, VA, VC, NA, NC, MA, MC, OA, OC, hlv, hvv, hnv, hmv, hov, c0, c1, c2, c3, c4, c5, c6, c7, c8, c9, c10, c11, hfz, hpl⟩ := h.open_
  obtain ⟨d0, d1, d2, d3, d4, d5, d6, d7, d8⟩ := hm.cells
  have hjn : j < x.n.mtch.length := by rw [hf.ml]; exact hjN
  obtain ⟨g, rfl, gc, gf, gp, _, gl⟩ := h.mtchCell hmv hjn
  have hq := hmt j hjn
  have hl := hf.log
  rw [hj] at d1
  rw [h3] at d8
  have hat := at_get hjn
  rw [← hj] at hat
  have HAT := Lib.hid hat
  have hnl' : (j : Int) < (x.n.mtch.length : Int) := by omega
  have hn5 := hf.n5
  have HMV := Lib.hid hmv
  have gfj := gf j
  have hb1 : (x.n.role != 3) = false := by rw [h1]; rfl
  have hb2 : (m.m.term != x.n.term) = false := by rw [h2]; simp
  have HJ := Lib.hid hj; have HP := Lib.hid h
  have HHE : Hid (hears x.n m.m = sure (heard x.n j (max (at_ x.n.mtch m.m.src) (min m.m.index x.n.log.length)))) := Lib.hid (by
    unfold hears heard
    rw [show (m.m.src - 1).toNat = j from by omega])
  clear hlv hvv hnv hmv hov c0 c1 c3 c5 c7 c8 c9 c11 hfz d0 d2 d5 d6 d7 gf hat h1 h2 h3 hj
  generalize hz : x.n.mtch[j] = z at *
  clear hz
  obtain ⟨v, hv⟩ : ∃ v, v = max z (min m.m.index (x.n.log.length : Int)) := ⟨_, rfl⟩
  have hv0 : 0 ≤ v := by omega
  have hvl : v ≤ x.n.log.length := by omega
  have HV := Lib.hid hv
  clear hv
  go_enter Try.func75, Try.ntmps75
  go_wp2_with fail
  go_quiet (fail)
  clear hb1 hb2
  go_upto_region 3 with fail
  go_cut [32] (fun _ wx => Peer wx S p ⟨{ x.n with mtch := x.n.mtch.set j v }, x.lv, x.vv, x.nv, x.mv⟩ ov out ∧ Keeps S w wx)
  case first =>
    go_region
    all_goals
      go_wp2_with fail
      all_goals
        go_meet
        rw [show v = _ from HV.out]
        first
          | (rw [show max z (min m.m.index (x.n.log.length : Int)) = z from by omega]; exact HP.out.setMtch ((Keeps.refl _ w).drewN _) HMV.out _)
          | (rw [show max z (min m.m.index (x.n.log.length : Int)) = m.m.index from by omega]; exact HP.out.setMtch ((Keeps.refl _ w).drewN _) HMV.out _)
          | (rw [show max z (min m.m.index (x.n.log.length : Int)) = (x.n.log.length : Int) from by omega]; exact HP.out.setMtch ((Keeps.refl _ w).drewN _) HMV.out _)
  case rest =>
    obtain ⟨wo, rfl⟩ : ∃ wo : World, wo = wc := ⟨_, rfl⟩
    obtain ⟨hp1, hk1⟩ := hcut
    have hm1 := hm.keep hk1 (fun _ _ h => h)
    obtain ⟨e0, e1, e2, e3, e4, e5, e6, e7, e8⟩ := hm1.cells
    rw [HJ.out] at e1
    clear d1 d3 d4 d8 c2 c6 c10 c4 gc e0 e2 e3 e4 e5 e6 e7 e8 gfj
    obtain ⟨LA, LC, VA, VC, NA, NC, MA, MC, OA, OC, hlv, hvv, hnv, hmv, hov, c0, c1, c2, c3, c4, c5, c6, c7, c8, c9, c10, c11, hfz, hpl1⟩ := hp1.open_
    have hjm : j < (x.n.mtch.set j v).length := by rw [List.length_set]; exact hjn
    have hjx : j < x.n.next.length := by rw [hf.nl]; exact hjN
    obtain ⟨g1, rfl, a1, a2, a3, _, a5⟩ := hp1.mtchCell hmv (j := j) hjm
    obtain ⟨g2, rfl, b1, b2, b3, _, b5⟩ := hp1.nextCell hnv (j := j) hjx
    have a1' : wo.cell? ⟨g1, j, none⟩ = some (.int .i64 v) := by rw [a1]; simp
    have hne : g2 ≠ g1 := fun e => hp1.nm g2 (by rw [hnv]; rfl) (by rw [hmv, e]; rfl)
    have HNV := Lib.hid hnv
    have HP1 := Lib.hid hp1; have HK1 := Lib.hid hk1; have HM1 := Lib.hid hm1
    have b2j := b2 j
    have hjm' : (j : Int) < ((x.n.mtch.set j v).length : Int) := by omega
    have hjx' : (j : Int) < (x.n.next.length : Int) := by omega
    clear hlv hvv hnv hmv hov c0 c1 c2 c3 c4 c5 c6 c7 c8 c11 hfz a1 a2 b2 hp1 hk1 hm1 HMV
    go_upto_region 4 with fail
    have hw : IntKind.i64.wrap (v + 1) = v + 1 := IntWalk.i64_in _ (by omega)
    go_cut [59] (fun _ wx => Peer wx S p ⟨heard x.n j v, x.lv, x.vv, x.nv, x.mv⟩ ov out ∧ Keeps S wo wx)
    case first =>
      go_region
      all_goals
        go_wp2_with fail
        go_meet
        exact HP1.out.setNext (Keeps.refl _ wo).drew HNV.out (v + 1)
    case rest =>
      obtain ⟨wp, rfl⟩ : ∃ wp : World, wp = wc := ⟨_, rfl⟩
      obtain ⟨hp2, hk2⟩ := hcut
      have hf2 := hf.heard (j := j) hv0 hvl
      have hm2 := HM1.out.keep hk2 (fun _ _ h => h)
      clear e1 c9 c10 a1' b1 b2j hw
      go_wp2_with fail
      refine (sure_any hp2 hf2.log (by have := hf2.ml; show (heard x.n j v).mtch.length ≤ 5; omega) hf2.commit).mono ?_
      rintro e w3 ⟨rfl, hp3, hk3⟩
      have hf3 := hf2.sure
      have hm3 := hm2.keep hk3 (fun _ _ h => h)
      have hK : Keeps S w w3 := (HK1.out.trans hk2 (fun _ h => .inl h)).trans hk3 (fun _ h => .inl h)
      obtain ⟨LA, LC, VA, VC, NA, NC, MA, MC, OA, OC, hlv, hvv, hnv, hmv, hov, c0, c1, c2, c3, c4, c5, c6, c7, c8, c9, c10, c11, hfz, hpl3⟩ := hp3.open_
      have hjx3 : j < (sure (heard x.n j v)).next.length := by rw [hf3.nl]; exact hjN
      have hsn : (sure (heard x.n j v)).next[j] = v + 1 := by simp [sure, heard]
      obtain ⟨g3, rfl, q1, q2, q3, _, q5⟩ := hp3.nextCell hnv (j := j) hjx3
      have q1' : w3.cell? ⟨g3, j, none⟩ = some (.int .i64 (v + 1)) := by rw [q1]; exact congrArg (fun a => some (Value.int .i64 a)) hsn
      have hll : (sure (heard x.n j v)).log.length = x.n.log.length := rfl
      have hatn := at_get hjx3
      rw [hsn, ← HJ.out] at hatn
      have hhe : hears x.n m.m = sure (heard x.n j v) := by rw [HHE.out, HAT.out, ← HV.out]
      have HHE' := Lib.hid hhe
      have HATN := Lib.hid hatn
      have HP3 := Lib.hid hp3; have HK := Lib.hid hK; have HM3 := Lib.hid hm3; have HSN := Lib.hid hsn; have HF3 := Lib.hid hf3
      have hjx3' : (j : Int) < ((sure (heard x.n j v)).next.length : Int) := by omega
      rw [show (⟨sure (heard x.n j v), x.lv, x.vv, x.nv, x.mv⟩ : NodV).n.log.length = x.n.log.length from rfl] at c4
      have e1 := hm3.cells.2.1
      rw [HJ.out] at e1
      clear hlv hvv hnv hmv hov c0 c1 c2 c3 c5 c6 c7 c8 c10 c11 hfz q1 q2 hp2 hk2 hm2 hp3 hk3 hm3 hK hatn hhe hsn hf2 hf3
      by_cases hlt : v + 1 ≤ (x.n.log.length : Int)
      · have hd : decide (v + 1 ≤ (x.n.log.length : Int)) = true := by simpa using hlt
        go_wp2_with fail
        go_quiet (fail)
        clear hd
        go_wp2_with fail
        refine (send_any (HP3.out.later ((Keeps.refl _ w3).drewN _)) j v.toNat hjx3 (by show (sure (heard x.n j v)).next[j] = _; rw [HSN.out]; omega) (by show v.toNat ≤ x.n.log.length; omega) hl (by show (sure (heard x.n j v)).next.length ≤ 5; rw [HF3.out.nl]; exact hn5) (by omega)).mono ?_
        rintro e w5 ⟨rfl, S5, ov5, iv, hp5, hk5, hs5⟩
        go_wp2
        refine bodyPost_ret (v := .tuple #[]) (results_none rfl _ _ _) rfl ?_
        refine ⟨rfl, S5, _, ov5, _, hp5, HHE'.out.symm, ?_, HK.out.trans (((Keeps.refl S w3).drewN nq).trans hk5 (fun _ h => .inl h)) (fun _ h => .inl h), fun k hk' => ?_⟩
        · unfold toldSays; rw [HHE'.out, if_pos (by rw [HATN.out]; exact hlt), HJ.out]; rfl
        · rcases hs5 k hk' with h1 | h1
          · exact .inl h1
          · exact .inr (Nat.le_trans HK.out.size h1)
      · have hd : decide (v + 1 ≤ (x.n.log.length : Int)) = false := by simpa using hlt
        go_wp2_with fail
        go_quiet (fail)
        clear hd
        go_wp2_with fail
        refine bodyPost_ret (v := .tuple #[]) (results_none rfl _ _ _) rfl ?_
        refine ⟨rfl, S, _, ov, [], by rw [List.append_nil]; exact HP3.out.later ((Keeps.refl _ w3).drewN _), HHE'.out.symm, ?_, HK.out.drewN _, fun k hk' => .inl hk'⟩
        unfold toldSays; rw [HHE'.out, if_neg (by rw [HATN.out]; omega)]; rfl

theorem told_any {w : World} {S : Nat → Prop} {p : Nat} {x : NodV} {ov : Value} {out : List MesV} (h : Peer w S p x ov out) {mb : Nat} {m : MesV} (hm : MesAt w S mb m) {N : Nat}
    (hf : x.n.role = 3 → Fit x.n N ∧ ∀ j (hj : j < x.n.mtch.length), 0 ≤ x.n.mtch[j] ∧ x.n.mtch[j] ≤ x.n.log.length) {j : Nat} (hj : m.m.src = (j : Int) + 1) (hjN : j < N) (hi0 : 0 ≤ m.m.index) (hi1 : m.m.index ≤ 60) (hout : out.length ≤ 90) :
    Calls Try.prog 75 #[.pointer (some ⟨p, 0, none⟩), .pointer (some ⟨mb, 0, none⟩)] w fun e w' => e = .returned (.tuple #[]) ∧
      ∃ S' x' ov' ms, Peer w' S' p x' ov' (out ++ ms) ∧ (x'.n, said ms) = told x.n m.m ∧ Keeps S w w' ∧ ∀ k, S' k → S k ∨ w.heap.size ≤ k := by
  by_cases h1 : x.n.role = 3
  · by_cases h2 : m.m.term = x.n.term
    · obtain ⟨hf1, hf2⟩ := hf h1
      cases hy : m.m.yes
      · refine (told_back h hm h1 h2 hy hf1 hj hjN hi0 hi1 hout).mono ?_
        rintro e w' ⟨he, S', x', ov', ms, a1, a2, a3, a4, a5⟩
        refine ⟨he, S', x', ov', ms, a1, ?_, a4, a5⟩
        rw [a2, a3]; unfold told; rw [if_neg (by simp [h1, h2]), hy]; rfl
      · refine (told_yes h hm h1 h2 hy hf1 hf2 hj hjN hout).mono ?_
        rintro e w' ⟨he, S', x', ov', ms, a1, a2, a3, a4, a5⟩
        refine ⟨he, S', x', ov', ms, a1, ?_, a4, a5⟩
        rw [a2, a3]; unfold told; rw [if_neg (by simp [h1, h2]), hy]; rfl
    · refine (told_no h hm (.inr h2)).mono ?_
      rintro e w' ⟨he, hk⟩
      refine ⟨he, S, x, ov, [], by rw [List.append_nil]; exact h.later hk, ?_, hk.mono (fun _ h => h.elim), fun k hk => .inl hk⟩
      unfold told; rw [if_pos (.inr h2)]; rfl
  · refine (told_no h hm (.inl h1)).mono ?_
    rintro e w' ⟨he, hk⟩
    refine ⟨he, S, x, ov, [], by rw [List.append_nil]; exact h.later hk, ?_, hk.mono (fun _ h => h.elim), fun k hk => .inl hk⟩
    unfold told; rw [if_pos (.inl h1)]; rfl

end Go.Proofs.Ytibjbpakbfodaaa
