/- (*peer).appended: a node hears a leader. -/
import Derived.Test.YtibjbpakbfodaaaAsked
namespace Go.Proofs.Ytibjbpakbfodaaa
open Go.RowKit

theorem nilItems (w : World) (S : Nat → Prop) : Sl w S (.slice none 0 0) 2 (itemCells []) := ⟨none, 0, 0, rfl, rfl, Nat.le_refl _, by simp [maxLen], fun h => by simp [itemCells] at h⟩

set_option maxRecDepth 100000 in
set_option maxHeartbeats 2000000 in
theorem appended_refuse {w : World} {S : Nat → Prop} {p : Nat} {x : NodV} {ov : Value} {out : List MesV} (h : Peer w S p x ov out) {mb : Nat} {m : MesV} (hm : MesAt w S mb m) (hno : m.m.term < x.n.term ∨ x.n.role = 3) (hout : out.length ≤ 90) :
    Calls Try.prog 74 #[.pointer (some ⟨p, 0, none⟩), .pointer (some ⟨mb, 0, none⟩)] w fun e w' => e = .returned (.tuple #[]) ∧
      ∃ S' ov' ms, Peer w' S' p x ov' (out ++ ms) ∧ said ms = [says x.n m.m false x.n.log.length] ∧ Keeps S w w' ∧ ∀ k, S' k → S k ∨ w.heap.size ≤ k := by
  obtain ⟨LA, LC, VA, VC, NA, NC, MA, MC, OA, OC, hlv, hvv, hnv, hmv, hov, c0, c1, c2, c3, c4, c5, c6, c7, c8, c9, c10, c11, hfz, hpl⟩ := h.open_
  obtain ⟨d0, d1, d2, d3, d4, d5, d6, d7, d8⟩ := hm.cells
  clear hlv hvv hnv hmv hov c0 c1 c3 c5 c7 c8 c9 c10 c11 hfz d0 d2 d4 d5 d6 d7 d8
  have HP := Lib.hid h
  go_enter Try.func74, Try.ntmps74
  go_wp2_with fail
  go_cut [25] (fun s wx => s = .bool true ∧ Keeps (fun _ => False) w wx)
  case first =>
    by_cases h1 : m.m.term < x.n.term
    · have hd : decide (m.m.term < x.n.term) = true := by simpa using h1
      go_quiet (fail)
      clear hd
      go_wp2_with fail
      go_meet
      exact ⟨rfl, (Keeps.refl _ w).drewN _⟩
    · have hd : decide (m.m.term < x.n.term) = false := by simpa using h1
      have hb : (x.n.role == 3) = true := by rcases hno with h | h; exact absurd h h1; rw [h]; rfl
      go_quiet (fail)
      clear hd hb
      go_wp2_with fail
      go_meet
      exact ⟨rfl, (Keeps.refl _ w).drewN _⟩
  case rest =>
    obtain ⟨rfl, hk⟩ := hcut
    have e1 := hk.cell (fun h => h) d1
    have e4 := hk.cell (fun h => h) c4
    have HP1 := Lib.hid (h.later hk); have HK := Lib.hid hk
    clear c2 c4 c6 d1 d3 hno hk
    go_wp2_with fail
    have K2 := Lib.hid (Keeps.refl (fun _ => False) wc).drew
    all_goals
      go_still_tail 12, (by kernel_rfl)
      go_wp2_with (go_at_call 60; refine (say_lit (HP1.out.later K2.out) 4 m.m.src x.n.log.length 0 0 [] (.slice none 0 0) false (nilItems _ _) (fun _ h => by simp [Value.ownBlock] at h) (by omega)).mono ?_; rintro e w2 ⟨rfl, S2, ov2, hp2, hk2, hs2⟩)
      refine bodyPost_ret (v := .tuple #[]) (results_none rfl _ _ _) rfl ?_
      refine ⟨rfl, S2, ov2, _, hp2, rfl, ((HK.out.trans K2.out (fun _ h => .inl h)).mono (fun _ h => h.elim)).trans hk2 (fun _ h => .inl h), fun k hk => ?_⟩
      rcases hs2 k hk with h1 | h1
      · exact .inl h1
      · exact .inr (Nat.le_trans HK.out.size h1)

/-- Does the log lack what the message stands on? -/
def lacks (l : List Itm) (m : Mes) : Prop := (l.length : Int) < m.index ∨ (termAt l m.index ≠ m.logTerm ∧ 0 < m.index)

/-- The part behind 'follow', where the log lacks what the message stands on. -/
def LacksPost (w : World) (S : Nat → Prop) (p : Nat) (y : Nod) (m : Mes) (out : List MesV) (e : Ending) (w' : World) : Prop :=
  e = .returned (.tuple #[]) ∧ ∃ S' x' ov' ms, Peer w' S' p x' ov' (out ++ ms) ∧ (x'.n, said ms) = (if (y.log.length : Int) < m.index ∨ (termAt y.log m.index ≠ m.logTerm ∧ 0 < m.index) then
      (y, [says y m false (max 0 (min (y.log.length : Int) (m.index - 1)))])
    else ({ y with log := (taken m.index.toNat m.items y.log y.commit).1, commit := max (taken m.index.toNat m.items y.log y.commit).2 (min m.commit (m.index + m.items.length)) }, [says y m true (m.index + m.items.length)])) ∧ Keeps S w w' ∧ ∀ k, S' k → S k ∨ w.heap.size ≤ k

set_option maxRecDepth 100000 in
set_option maxHeartbeats 4000000 in
theorem appended_lacks {w : World} {S : Nat → Prop} {p : Nat} {x : NodV} {ov : Value} {out : List MesV} (h : Peer w S p x ov out) {mb : Nat} {m : MesV} (hm : MesAt w S mb m) (h1 : ¬ m.m.term < x.n.term) (h2 : x.n.role ≠ 3) (hl : x.n.log.length ≤ 60)
    (hi0 : 0 ≤ m.m.index) (hi1 : m.m.index + m.m.items.length ≤ 60) (hout : out.length ≤ 90) (y : Nod) (hla : lacks y.log m.m) (hy : y = follow x.n m.m.term m.m.src) :
    Calls Try.prog 74 #[.pointer (some ⟨p, 0, none⟩), .pointer (some ⟨mb, 0, none⟩)] w (LacksPost w S p y m.m out) := by
  obtain ⟨LA, LC, VA, VC, NA, NC, MA, MC, OA, OC, hlv, hvv, hnv, hmv, hov, c0, c1, c2, c3, c4, c5, c6, c7, c8, c9, c10, c11, hfz, hpl⟩ := h.open_
  obtain ⟨d0, d1, d2, d3, d4, d5, d6, d7, d8⟩ := hm.cells
  clear hlv hvv hnv hmv hov c0 c1 c3 c4 c5 c7 c8 c9 c10 c11 hfz d0 d2 d4 d5 d6 d7 d8
  have HP := Lib.hid h
  have HY := Lib.hid hy
  clear hy
  have hd : decide (m.m.term < x.n.term) = false := by simpa using h1
  have hb : (x.n.role == 3) = false := by rw [beq_eq_false_iff_ne]; exact h2
  go_enter Try.func74, Try.ntmps74
  go_wp2_with fail
  go_quiet (fail)
  clear hd hb
  generalize hwo : w.drewN nq = wo
  have hK : Keeps (fun _ => False) w wo := by rw [← hwo]; exact (Keeps.refl _ w).drewN nq
  clear hwo
  have e1 := hK.cell (fun h => h) d1
  have e3 := hK.cell (fun h => h) d3
  have HP1 := Lib.hid (h.later hK); have HK := Lib.hid hK
  clear c2 c6 d1 d3 hK
  go_upto_region 2 with fail
  go_cut [39] (fun _ wx => Peer wx S p ⟨y, x.lv, .slice none 0 0, .slice none 0 0, .slice none 0 0⟩ ov out ∧ Keeps S w wx)
  case first =>
    have K2 := Lib.hid (Keeps.refl (fun _ => False) wo).drew
    all_goals
      go_still_tail 9, (by kernel_rfl)
      go_wp2_with (go_at_call 69; refine (follow_any (HP1.out.later K2.out) m.m.term m.m.src).mono ?_; rintro e w2 ⟨rfl, hp2, hk2⟩)
      go_meet
      exact ⟨by rw [HY.out]; exact hp2, ((HK.out.trans K2.out (fun _ h => .inl h)).mono (fun _ h => h.elim)).trans hk2 (fun _ h => .inl h)⟩
  case rest =>
    obtain ⟨wp, rfl⟩ : ∃ wp : World, wp = wc := ⟨_, rfl⟩
    obtain ⟨hp, hk⟩ := hcut
    have hm1 := hm.keep hk (fun _ _ h => h)
    obtain ⟨d0, d1, d2, d3, d4, d5, d6, d7, d8⟩ := hm1.cells
    have hyl : y.log = x.n.log := by rw [HY.out]; rfl
    obtain ⟨LA, LC, VA, VC, NA, NC, MA, MC, OA, OC, hlv, hvv, hnv, hmv, hov, c0, c1, c2, c3, c4, c5, c6, c7, c8, c9, c10, c11, hfz, hpl1⟩ := hp.open_
    simp only at hlv c4
    rw [← hyl] at hl
    have HP2 := Lib.hid hp; have HK2 := Lib.hid hk; have HM1 := Lib.hid hm1; have HLV := Lib.hid hlv
    obtain ⟨T, hT⟩ : ∃ T, T = termAt y.log m.m.index := ⟨_, rfl⟩
    have hcall : ∀ w1 : World, Keeps (fun _ => False) wp w1 → Calls Try.prog 61 #[.pointer (some ⟨p, 0, none⟩), .int .i64 m.m.index] w1 fun e w' => e = .returned (.int .i64 T) ∧ w' = w1 := by
      intro w1 hk1
      rw [hT]
      exact termAt_any (hp.later hk1) _ hl (by omega) (by omega)
    have HC := Lib.hid hcall; have HT := Lib.hid hT
    clear hlv hvv hnv hmv hov c0 c1 c2 c3 c5 c6 c7 c8 c9 c10 c11 hfz d0 d2 d3 d6 d7 d8 hp hk hm1 hyl hcall hT e1 e3
    go_upto_region 3 with fail
    go_cut [79] (fun s wx => s = .bool true ∧ Keeps (fun _ => False) wp wx)
    case first =>
      by_cases h3 : (y.log.length : Int) < m.m.index
      · have hd : decide ((y.log.length : Int) < m.m.index) = true := by simpa using h3
        go_quiet (fail)
        clear hd
        go_wp2_with fail
        go_meet
        exact ⟨rfl, (Keeps.refl _ wp).drewN _⟩
      · have hd : decide ((y.log.length : Int) < m.m.index) = false := by simpa using h3
        have h4 : T ≠ m.m.logTerm ∧ 0 < m.m.index := by
          rcases hla with h | h
          · exact absurd h h3
          · rw [HT.out]; exact h
        have hb : (T != m.m.logTerm) = true := by rw [bne_iff_ne]; exact h4.1
        have hd2 : decide (0 < m.m.index) = true := by simpa using h4.2
        clear h4
        go_quiet ((go_at_call 61; exact Calls.quiet_of_same (HC.out _ ((Keeps.refl _ wp).drewN _))))
        clear hd hb hd2
        go_wp2_with fail
        go_meet
        exact ⟨rfl, (Keeps.refl _ wp).drewN _⟩
    case rest =>
      obtain ⟨rfl, hk3⟩ := hcut
      have e1 := hk3.cell (fun h => h) d1
      have e4 := hk3.cell (fun h => h) d4
      have f4 := hk3.cell (fun h => h) c4
      have HP3 := Lib.hid (HP2.out.later hk3); have HK3 := Lib.hid hk3
      clear hk3 d1 d4 d5 c4
      go_wp2_with fail
      have K2 := Lib.hid (Keeps.refl (fun _ => False) wc).drew
      have hw : IntKind.i64.wrap (m.m.index - 1) = m.m.index - 1 := IntWalk.i64_in _ (by omega)
      have hlac : lacks y.log m.m := hla
      have HLA := Lib.hid hlac
      have hi : 0 < m.m.index := by rcases hla with h | h; omega; exact h.2
      clear hla hlac
      have fin : ∀ (v : Int), v = max 0 (min (y.log.length : Int) (m.m.index - 1)) → ∀ e w2, (e = .returned (.tuple #[]) ∧ ∃ S' ov', Peer w2 S' p ⟨y, x.lv, .slice none 0 0, .slice none 0 0, .slice none 0 0⟩ ov' (out ++ [⟨⟨4, y.id, m.m.src, y.term, v, 0, 0, [], false⟩, .slice none 0 0⟩]) ∧ Keeps S wc.drew w2 ∧ (∀ k, S' k → S k ∨ wc.drew.heap.size ≤ k)) → LacksPost w S p y m.m out e w2 := by
        rintro v hv e w2 ⟨rfl, S2, ov2, hp2, hk2, hs2⟩
        refine ⟨rfl, S2, _, ov2, _, hp2, ?_, ((HK2.out.trans ((HK3.out.trans K2.out (fun _ h => .inl h)).mono (S' := S) (fun _ h => h.elim)) (fun _ h => .inl h))).trans hk2 (fun _ h => .inl h), fun k hk => ?_⟩
        · have hl' : (y.log.length : Int) < m.m.index ∨ (termAt y.log m.m.index ≠ m.m.logTerm ∧ 0 < m.m.index) := HLA.out
          rw [if_pos hl', ← hv]; rfl
        · rcases hs2 k hk with h1 | h1
          · exact .inl h1
          · exact .inr (Nat.le_trans HK2.out.size (Nat.le_trans HK3.out.size h1))
      have FIN := Lib.hid fin
      clear fin
      have go : ∀ v, v = max 0 (min (y.log.length : Int) (m.m.index - 1)) → Calls Try.prog 60 #[.pointer (some ⟨p, 0, none⟩), .agg #[.int .i64 4, .int .i64 0, .int .i64 m.m.src, .int .i64 0, .int .i64 v, .int .i64 0, .int .i64 0, .slice none 0 0, .bool false]] wc.drew fun e w' => e = .returned (.tuple #[]) ∧ LacksPost w S p y m.m out e w' := fun v hv =>
        (say_lit (HP3.out.later K2.out) 4 m.m.src v 0 0 [] (.slice none 0 0) false (nilItems _ _) (fun _ h => by simp [Value.ownBlock] at h) (by omega)).mono fun e w' he => ⟨he.1, FIN.out v hv e w' he⟩
      have GO := Lib.hid go
      clear go
      by_cases h5 : m.m.index - 1 < (y.log.length : Int)
      · by_cases h6 : 0 < m.m.index - 1
        all_goals
          go_still_tail 19, (by kernel_rfl)
          go_wp2_with (go_at_call 60; refine (GO.out _ (by omega)).mono ?_; rintro e w2 ⟨rfl, hq⟩; have HQ := Lib.hid hq; clear hq)
          refine bodyPost_ret (v := .tuple #[]) (results_none rfl _ _ _) rfl ?_
          exact HQ.out
      · by_cases h6 : 0 < (y.log.length : Int)
        all_goals
          go_still_tail 19, (by kernel_rfl)
          go_wp2_with (go_at_call 60; refine (GO.out _ (by omega)).mono ?_; rintro e w2 ⟨rfl, hq⟩; have HQ := Lib.hid hq; clear hq)
          refine bodyPost_ret (v := .tuple #[]) (results_none rfl _ _ _) rfl ?_
          exact HQ.out
end Go.Proofs.Ytibjbpakbfodaaa
