/- The document's answer, chapter 15: is a message nothing to a node? -/
import Derived.Test.YtibjbpakbfodaaaXRefJ
import Derived.BigQuiet
namespace Go.Proofs.Ytibjbpakbfodaaa
open Go.RowKit

def okB (n : Nod) (m : Mes) : Bool :=
  (m.dst == n.id) && withinB m.src 1 n.n && (m.src != n.id) && withinB m.kind 1 4 && withinB m.term 1 1000000 && withinB m.index 0 60 && decide (0 ≤ m.commit) && withinB m.logTerm 0 m.term && decide ((m.items.length : Int) + m.index ≤ 60) && risesB m.items m.term

theorem lost_okB (n : Nod) (m : Mes) : lost n m = (!okB n m || (decide (0 < m.items.length) && decide (termAt m.items 1 < m.logTerm))) := by
  rw [← lostR_eq]
  have e1 : decide (m.dst = n.id) = (m.dst == n.id) := rfl
  have e2 : decide (m.src ≠ n.id) = (m.src != n.id) := by simp [bne]; rfl
  unfold lostR okB
  rw [e1, e2]

theorem cells9l {w : World} {b : Nat} {t : TypeId} {v0 v1 v2 v3 v4 v5 v6 v7 v8 : Value} (h : w.heap[b]? = some (.cells #[v0, v1, v2, v3, v4, v5, v6, v7, v8] t (0, 0))) :
    w.cell? ⟨b, 0, none⟩ = some v0 ∧ w.cell? ⟨b, 1, none⟩ = some v1 ∧ w.cell? ⟨b, 2, none⟩ = some v2 ∧ w.cell? ⟨b, 3, none⟩ = some v3 ∧ w.cell? ⟨b, 4, none⟩ = some v4 ∧ w.cell? ⟨b, 5, none⟩ = some v5 ∧
      w.cell? ⟨b, 6, none⟩ = some v6 ∧ w.cell? ⟨b, 7, none⟩ = some v7 ∧ w.cell? ⟨b, 8, none⟩ = some v8 ∧ ∀ k, w.frozen? ⟨b, k, none⟩ = false :=
  ⟨cell_of_row w b 0 _ _ _ h, cell_of_row w b 1 _ _ _ h, cell_of_row w b 2 _ _ _ h, cell_of_row w b 3 _ _ _ h, cell_of_row w b 4 _ _ _ h, cell_of_row w b 5 _ _ _ h, cell_of_row w b 6 _ _ _ h, cell_of_row w b 7 _ _ _ h, cell_of_row w b 8 _ _ _ h, fun k => frozen_of_row w b k _ _ h⟩

set_option maxRecDepth 100000 in
set_option maxHeartbeats 16000000 in
theorem lostR_any {w : World} {x : NodV} {m : MesV} (h : NodeOk w Free x) (hm : MesOk w Free m) (hl : m.m.items.length ≤ 2000000) :
    Calls Try.prog 76 #[.agg (nodCells x).toArray, .agg (mesCells m).toArray] w fun e w' => e = .returned (.bool (lost x.n m.m)) ∧ Keeps Free w w' := by
  obtain ⟨n, lv, vv, nv, mv⟩ := x
  obtain ⟨LA, LC, VA, VC, NA, NC, MA, MC, rfl, rfl, rfl, rfl⟩ := h.shape
  have HM := Lib.hid hm
  obtain ⟨m, iv⟩ := m
  obtain ⟨IA, IC, hiv⟩ := hm.shape
  simp only at hiv hl
  subst hiv
  have HLO := Lib.hid (lost_okB n m)
  clear h hm
  simp only [nodCells, mesCells]
  go_enter Try.func76, Try.ntmps76
  go_upto_region 1 with fail
  obtain ⟨k0, k1, k2⟩ := two_boxes w (.cells #[.int .i64 n.id, .int .i64 n.n, .int .i64 n.term, .int .i64 n.vote, .slice LA n.log.length LC, .int .i64 n.commit, .int .i64 n.role, .int .i64 n.boss, .slice VA n.votes.length VC, .slice NA n.next.length NC, .slice MA n.mtch.length MC] 25) (.cells #[.int .i64 m.kind, .int .i64 m.src, .int .i64 m.dst, .int .i64 m.term, .int .i64 m.index, .int .i64 m.logTerm, .int .i64 m.commit, .slice IA m.items.length IC, .bool m.yes] 38)
  obtain ⟨w2, hw2⟩ : ∃ w2, (w.alloc (.cells #[.int .i64 n.id, .int .i64 n.n, .int .i64 n.term, .int .i64 n.vote, .slice LA n.log.length LC, .int .i64 n.commit, .int .i64 n.role, .int .i64 n.boss, .slice VA n.votes.length VC, .slice NA n.next.length NC, .slice MA n.mtch.length MC] 25)).alloc (.cells #[.int .i64 m.kind, .int .i64 m.src, .int .i64 m.dst, .int .i64 m.term, .int .i64 m.index, .int .i64 m.logTerm, .int .i64 m.commit, .slice IA m.items.length IC, .bool m.yes] 38) = w2 := ⟨_, rfl⟩
  rw [hw2] at k0 k1 k2 ⊢
  obtain ⟨B, hB⟩ : ∃ B, w.heap.size = B := ⟨_, rfl⟩
  rw [hB] at k1 k2 ⊢
  have HK2 := Lib.hid k0; have HB2 := Lib.hid k2
  obtain ⟨b0, b1, b2, b3, b4, b5, b6, b7, b8, b9, b10, bf⟩ := cells11 k1
  obtain ⟨d0, d1, d2, d3, d4, d5, d6, d7, d8, df⟩ := cells9l k2
  have HRI := Lib.hid (rises_any (w := w2) (Sl.keep (show Sl w Free (.slice IA m.items.length IC) 2 (itemCells m.items) from HM.out) k0 (fun _ _ h => h)) hl m.term)
  clear k0 k1 k2 hw2
  go_cut [5] (fun s wx => s = .bool (okB n m) ∧ Keeps Free w2 wx)
  case first =>
    cases p0 : (m.dst == n.id)
    case false =>
      as_aux_lemma =>
        go_wp2_with (first | (go_at_call 55; refine (within_any _ _ _).mono ?_; rintro e w' ⟨rfl, rfl⟩) | (go_at_call 56; refine HRI.out.mono ?_; rintro e w9 ⟨rfl, hk9⟩; clear HRI))
        go_meet
        exact ⟨by unfold okB; rw [p0]; simp, Keeps.refl _ _⟩
    cases p1 : withinB m.src 1 n.n
    case false =>
      as_aux_lemma =>
        go_wp2_with (first | (go_at_call 55; refine (within_any _ _ _).mono ?_; rintro e w' ⟨rfl, rfl⟩) | (go_at_call 56; refine HRI.out.mono ?_; rintro e w9 ⟨rfl, hk9⟩; clear HRI))
        go_meet
        exact ⟨by unfold okB; rw [p0, p1]; simp, Keeps.refl _ _⟩
    cases p2 : (m.src != n.id)
    case false =>
      as_aux_lemma =>
        go_wp2_with (first | (go_at_call 55; refine (within_any _ _ _).mono ?_; rintro e w' ⟨rfl, rfl⟩) | (go_at_call 56; refine HRI.out.mono ?_; rintro e w9 ⟨rfl, hk9⟩; clear HRI))
        go_meet
        exact ⟨by unfold okB; rw [p0, p1, p2]; simp, Keeps.refl _ _⟩
    cases p3 : withinB m.kind 1 4
    case false =>
      as_aux_lemma =>
        go_wp2_with (first | (go_at_call 55; refine (within_any _ _ _).mono ?_; rintro e w' ⟨rfl, rfl⟩) | (go_at_call 56; refine HRI.out.mono ?_; rintro e w9 ⟨rfl, hk9⟩; clear HRI))
        go_meet
        exact ⟨by unfold okB; rw [p0, p1, p2, p3]; simp, Keeps.refl _ _⟩
    cases p4 : withinB m.term 1 1000000
    case false =>
      as_aux_lemma =>
        go_wp2_with (first | (go_at_call 55; refine (within_any _ _ _).mono ?_; rintro e w' ⟨rfl, rfl⟩) | (go_at_call 56; refine HRI.out.mono ?_; rintro e w9 ⟨rfl, hk9⟩; clear HRI))
        go_meet
        exact ⟨by unfold okB; rw [p0, p1, p2, p3, p4]; simp, Keeps.refl _ _⟩
    cases p5 : withinB m.index 0 60
    case false =>
      as_aux_lemma =>
        go_wp2_with (first | (go_at_call 55; refine (within_any _ _ _).mono ?_; rintro e w' ⟨rfl, rfl⟩) | (go_at_call 56; refine HRI.out.mono ?_; rintro e w9 ⟨rfl, hk9⟩; clear HRI))
        go_meet
        exact ⟨by unfold okB; rw [p0, p1, p2, p3, p4, p5]; simp, Keeps.refl _ _⟩
    cases p6 : decide (0 ≤ m.commit)
    case false =>
      as_aux_lemma =>
        go_wp2_with (first | (go_at_call 55; refine (within_any _ _ _).mono ?_; rintro e w' ⟨rfl, rfl⟩) | (go_at_call 56; refine HRI.out.mono ?_; rintro e w9 ⟨rfl, hk9⟩; clear HRI))
        go_meet
        exact ⟨by unfold okB; rw [p0, p1, p2, p3, p4, p5, p6]; simp, Keeps.refl _ _⟩
    cases p7 : withinB m.logTerm 0 m.term
    case false =>
      as_aux_lemma =>
        go_wp2_with (first | (go_at_call 55; refine (within_any _ _ _).mono ?_; rintro e w' ⟨rfl, rfl⟩) | (go_at_call 56; refine HRI.out.mono ?_; rintro e w9 ⟨rfl, hk9⟩; clear HRI))
        go_meet
        exact ⟨by unfold okB; rw [p0, p1, p2, p3, p4, p5, p6, p7]; simp, Keeps.refl _ _⟩
    have hix : 0 ≤ m.index ∧ m.index ≤ 60 := by unfold withinB at p5; simpa using p5
    have hwp : IntKind.i64.wrap ((m.items.length : Int) + m.index) = (m.items.length : Int) + m.index := IntWalk.i64_in _ (by omega)
    clear hix
    cases p8 : decide ((m.items.length : Int) + m.index ≤ 60)
    case false =>
      as_aux_lemma =>
        go_wp2_with (first | (go_at_call 55; refine (within_any _ _ _).mono ?_; rintro e w' ⟨rfl, rfl⟩) | (go_at_call 56; refine HRI.out.mono ?_; rintro e w9 ⟨rfl, hk9⟩; clear HRI))
        go_meet
        exact ⟨by unfold okB; rw [p0, p1, p2, p3, p4, p5, p6, p7, p8]; simp, Keeps.refl _ _⟩
    obtain ⟨rb, hrb⟩ : ∃ rb, risesB m.items m.term = rb := ⟨_, rfl⟩
    rw [hrb] at HRI
    have HRB := Lib.hid hrb
    clear hrb
    cases rb
    case false =>
      as_aux_lemma =>
        go_wp2_with (first | (go_at_call 55; refine (within_any _ _ _).mono ?_; rintro e w' ⟨rfl, rfl⟩) | (go_at_call 56; refine HRI.out.mono ?_; rintro e w9 ⟨rfl, hk9⟩; clear HRI))
        go_meet
        exact ⟨by unfold okB; rw [p0, p1, p2, p3, p4, p5, p6, p7, p8, HRB.out]; simp, hk9⟩
    go_wp2_with (first | (go_at_call 55; refine (within_any _ _ _).mono ?_; rintro e w' ⟨rfl, rfl⟩) | (go_at_call 56; refine HRI.out.mono ?_; rintro e w9 ⟨rfl, hk9⟩; clear HRI))
    go_meet
    exact ⟨by unfold okB; rw [p0, p1, p2, p3, p4, p5, p6, p7, p8, HRB.out]; simp, hk9⟩
  case rest =>
    obtain ⟨rfl, hkx⟩ := hcut
    have hb2 := hkx.blk HB2.out
    have HKX := Lib.hid (HK2.out.trans hkx (fun _ h => .inl h))
    clear d0 d1 d2 d3 d4 d5 d6 d7 d8 df b0 b1 b2 b3 b4 b5 b6 b7 b8 b9 b10 bf HRI
    obtain ⟨d0, d1, d2, d3, d4, d5, d6, d7, d8, df⟩ := cells9l hb2
    have hsl := Sl.keep (show Sl w Free (.slice IA m.items.length IC) 2 (itemCells m.items) from HM.out) HKX.out (fun _ _ h => h)
    clear hb2 hkx
    cases q1 : okB n m
    case false =>
      as_aux_lemma =>
        have hr : lost n m = true := by rw [HLO.out, q1]; rfl
        clear hsl
        go_upto_region 2 with fail
        go_quiet (fail)
        go_wp2_with fail
        go_ret
        first | exact ⟨ret_bool hr.symm, HKX.out.drewN _⟩ | exact ⟨rfl, HKX.out.drewN _⟩
    cases q2 : decide (0 < m.items.length)
    case false =>
      as_aux_lemma =>
        have hr : lost n m = false := by rw [HLO.out, q1, q2]; rfl
        have q2' : decide (0 < (m.items.length : Int)) = false := by simp at q2 ⊢; exact q2
        clear hsl
        go_upto_region 2 with fail
        go_quiet (fail)
        go_wp2_with fail
        go_ret
        first | exact ⟨ret_bool hr.symm, HKX.out.drewN _⟩ | exact ⟨rfl, HKX.out.drewN _⟩
    have hp : 0 < m.items.length := by simpa using q2
    obtain ⟨ib, io, rfl, -, i1, -⟩ := hsl.item' hp
    have ht1 : termAt m.items 1 = (m.items[0]'hp).term := by unfold termAt; rw [if_neg (by omega)]; simp [List.getElem?_eq_getElem hp]
    have hr : lost n m = decide ((m.items[0]'hp).term < m.logTerm) := by rw [HLO.out, q1, q2, ht1]; simp
    have HR := Lib.hid hr
    have q2' : decide (0 < (m.items.length : Int)) = true := by simp; exact hp
    rw [Nat.zero_mul, Nat.add_zero] at i1
    clear hsl ht1 hr
    generalize (m.items[0]'hp).term = tt at *
    go_upto_region 2 with fail
    go_quiet (fail)
    go_wp2_with fail
    go_ret
    exact ⟨ret_bool HR.out.symm, HKX.out.drewN _⟩
end Go.Proofs.Ytibjbpakbfodaaa
