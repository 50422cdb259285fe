/- Small steps of the node at work: follow, asked. -/
import Derived.Test.YtibjbpakbfodaaaSend
import Derived.Test.YtibjbpakbfodaaaPeer
namespace Go.Proofs.Ytibjbpakbfodaaa
open Go.RowKit

set_option maxRecDepth 100000 in
set_option maxHeartbeats 1000000 in
theorem follow_any {w : World} {S : Nat → Prop} {p : Nat} {x : NodV} {ov : Value} {out : List MesV} (h : Peer w S p x ov out) (term boss : Int) :
    Calls Try.prog 69 #[.pointer (some ⟨p, 0, none⟩), .int .i64 term, .int .i64 boss] w fun e w' => e = .returned (.tuple #[]) ∧
      Peer w' S p ⟨follow x.n term boss, x.lv, .slice none 0 0, .slice none 0 0, .slice none 0 0⟩ ov out ∧ Keeps S w w' := by
  obtain ⟨LA, LC, VA, VC, NA, NC, MA, MC, OA, OC, hlv, hvv, hnv, hmv, hov, c0, c1, c2, c3, c4, c5, c6, c7, c8, c9, c10, c11, hfz, hpl⟩ := h.open_
  clear hlv hvv hnv hmv hov c0 c1 c4 c5 c11
  by_cases ht : x.n.term < term
  · have hx : follow x.n term boss = { x.n with term := term, vote := 0, role := 1, boss := boss, votes := [], next := [], mtch := [] } := by
      unfold follow; rw [if_pos ht, if_pos ht]
    rw [hx]
    clear hx
    go_enter Try.func69, Try.ntmps69
    go_wp2
    go_end0
    refine ⟨rfl, h.fields (((((((Keeps.refl _ w).setP _).setP _).setP _).setP _).setP _).setP _ |>.setP _) _ ?_ ⟨rfl, rfl⟩ (.inr ⟨rfl, rfl⟩) (.inr ⟨rfl, rfl⟩) (.inr ⟨rfl, rfl⟩)⟩
    rw [setCell_blk (setCell_blk (setCell_blk (setCell_blk (setCell_blk (setCell_blk (setCell_blk h.blk))))))]
    rfl
  · have hx : follow x.n term boss = { x.n with role := 1, boss := boss, votes := [], next := [], mtch := [] } := by
      unfold follow; rw [if_neg ht, if_neg ht]
    rw [hx]
    clear hx
    go_enter Try.func69, Try.ntmps69
    go_wp2
    go_end0
    refine ⟨rfl, h.fields ((((((Keeps.refl _ w).setP _).setP _).setP _).setP _).setP _) _ ?_ ⟨rfl, rfl⟩ (.inr ⟨rfl, rfl⟩) (.inr ⟨rfl, rfl⟩) (.inr ⟨rfl, rfl⟩)⟩
    rw [setCell_blk (setCell_blk (setCell_blk (setCell_blk (setCell_blk h.blk))))]
    rfl

/-- A message that lies in a block of its own. -/
structure MesAt (w : World) (S : Nat → Prop) (b : Nat) (m : MesV) : Prop where
  blk : w.heap[b]? = some (.cells (mesCells m).toArray 38 (0, 0))
  bS : ¬ S b
  ok : MesOk w S m

theorem MesAt.keep {w w' : World} {S S1 : Nat → Prop} {b : Nat} {m : MesV} (h : MesAt w S b m) (hk : Keeps S1 w w') (h1 : ∀ k, k < w.heap.size → S1 k → S k) : MesAt w' S b m := by
  have hlt : b < w.heap.size := by
    have := h.blk
    rcases Nat.lt_or_ge b w.heap.size with hlt | hge
    · exact hlt
    · rw [Array.getElem?_eq_none hge] at this; cases this
  exact ⟨(hk.block b hlt (fun h' => h.bS (h1 b hlt h'))).trans h.blk, h.bS, h.ok.keep hk h1⟩

theorem MesAt.cells {w : World} {S : Nat → Prop} {b : Nat} {m : MesV} (h : MesAt w S b m) :
    w.cell? ⟨b, 0, none⟩ = some (.int .i64 m.m.kind) ∧ w.cell? ⟨b, 1, none⟩ = some (.int .i64 m.m.src) ∧ w.cell? ⟨b, 2, none⟩ = some (.int .i64 m.m.dst) ∧ w.cell? ⟨b, 3, none⟩ = some (.int .i64 m.m.term) ∧
      w.cell? ⟨b, 4, none⟩ = some (.int .i64 m.m.index) ∧ w.cell? ⟨b, 5, none⟩ = some (.int .i64 m.m.logTerm) ∧ w.cell? ⟨b, 6, none⟩ = some (.int .i64 m.m.commit) ∧ w.cell? ⟨b, 7, none⟩ = some m.iv ∧ w.cell? ⟨b, 8, none⟩ = some (.bool m.m.yes) := by
  refine ⟨?_, ?_, ?_, ?_, ?_, ?_, ?_, ?_, ?_⟩ <;> (rw [cell_of_row w b _ _ 38 (0, 0) h.blk]; rfl)

/-- Is m's log not older than one whose last item is of this term? -/
def newerB (t : Int) (len : Nat) (m : Mes) : Bool := decide (t < m.logTerm) || (decide (m.logTerm = t) && decide ((len : Int) ≤ m.index))

set_option maxRecDepth 100000 in
set_option maxHeartbeats 2000000 in
theorem asked_any {w : World} {S : Nat → Prop} {p : Nat} {x : NodV} {ov : Value} {out : List MesV} (h : Peer w S p x ov out) {mb : Nat} {m : MesV} (hm : MesAt w S mb m) (hl : x.n.log.length ≤ 60) (hout : out.length ≤ 90) :
    Calls Try.prog 72 #[.pointer (some ⟨p, 0, none⟩), .pointer (some ⟨mb, 0, none⟩)] w fun e w' => e = .returned (.tuple #[]) ∧
      ∃ S' x' ov' ms, Peer w' S' p x' ov' (out ++ ms) ∧ (x'.n, said ms) = asked x.n m.m ∧ Keeps S w w' ∧ ∀ k, S' k → S k ∨ w.heap.size ≤ k := by
  obtain ⟨LA, LC, VA, VC, NA, NC, MA, MC, OA, OC, hlv, hvv, hnv, hmv, hov, c0, c1, c2, c3, c4, c5, c6, c7, c8, c9, c10, c11, hfz, hpl⟩ := h.open_
  obtain ⟨d0, d1, d2, d3, d4, d5, d6, d7, d8⟩ := hm.cells
  clear hlv hvv hnv hmv hov c0 c1 c5 c6 c7 c8 c9 c10 c11 d0 d2 d6 d7 d8
  have hT : ∃ T, T = termAt x.n.log x.n.log.length := ⟨_, rfl⟩
  obtain ⟨T, hT⟩ := hT
  have hcall : ∀ w' : World, Keeps (fun _ => False) w w' → Calls Try.prog 61 #[.pointer (some ⟨p, 0, none⟩), .int .i64 (x.n.log.length : Int)] w' fun e w'' => e = .returned (.int .i64 T) ∧ w'' = w' := by
    intro w' hk
    rw [hT]
    exact termAt_any (h.later hk) _ hl (by omega) (by omega)
  have HC := Lib.hid hcall
  have HT := Lib.hid hT
  clear hcall hT
  go_enter Try.func72, Try.ntmps72
  go_upto_region 1 with fail
  go_cut [5] (fun s5 wx => s5 = .bool (newerB T x.n.log.length m.m) ∧ Keeps (fun _ => False) w wx)
  case first =>
    by_cases h1 : T < m.m.logTerm
    · have hd : decide (T < m.m.logTerm) = true := by simpa using h1
      go_quiet ((go_at_call 61; exact Calls.quiet_of_same (HC.out _ ((Keeps.refl _ w).drewN _))))
      clear hd
      go_wp2_with fail
      go_meet
      exact ⟨by unfold newerB; simp [h1], (Keeps.refl _ w).drewN _⟩
    · have hd : decide (T < m.m.logTerm) = false := by simpa using h1
      by_cases h2 : m.m.logTerm = T
      · have hb : (m.m.logTerm == T) = true := by rw [beq_iff_eq]; exact h2
        have H2 := Lib.hid h2
        clear h2
        go_quiet ((go_at_call 61; exact Calls.quiet_of_same (HC.out _ ((Keeps.refl _ w).drewN _))))
        clear hd hb
        go_wp2_with fail
        go_meet
        exact ⟨by unfold newerB; simp [H2.out], (Keeps.refl _ w).drewN _⟩
      · have hb : (m.m.logTerm == T) = false := by rw [beq_eq_false_iff_ne]; exact h2
        have H2 := Lib.hid h2
        clear h2
        go_quiet ((go_at_call 61; exact Calls.quiet_of_same (HC.out _ ((Keeps.refl _ w).drewN _))))
        clear hd hb
        go_wp2_with fail
        go_meet
        have h1' : ¬ T < m.m.logTerm := by omega
        exact ⟨by unfold newerB; simp [h1', H2.out], (Keeps.refl _ w).drewN _⟩
  case rest =>
    obtain ⟨rfl, hk⟩ := hcut
    have e1 := hk.cell (fun h => h) d1
    have e3 := hk.cell (fun h => h) d3
    have e2 := hk.cell (fun h => h) c2
    have e4 := hk.cell (fun h => h) c3
    have HP := Lib.hid (h.later hk)
    have HMM := Lib.hid (hm.keep hk (fun _ _ h => h.elim))
    have HK := Lib.hid hk
    have f3 := (h.later hk).frozen 3
    have hv : votesFor x.n m.m = (decide (m.m.term = x.n.term) && (decide (x.n.vote = 0) || decide (x.n.vote = m.m.src)) && newerB T x.n.log.length m.m) := by
      unfold votesFor newerB; rw [HT.out]
    have HV := Lib.hid hv
    clear hk hv d1 d3 d4 d5 c2 c3 c4 hfz
    generalize newerB T x.n.log.length m.m = nb at *
    go_upto_region 2 with fail
    go_cut [6] (fun s6 wx => s6 = .bool (votesFor x.n m.m) ∧ Keeps (fun _ => False) wc wx)
    case first =>
      by_cases h1 : m.m.term = x.n.term
      · have hb1 : (m.m.term == x.n.term) = true := by rw [beq_iff_eq]; exact h1
        have H1 := Lib.hid h1
        clear h1
        by_cases h2 : x.n.vote = 0
        · have hb2 : (x.n.vote == 0) = true := by rw [beq_iff_eq]; exact h2
          have H2 := Lib.hid h2
          clear h2
          cases nb
          all_goals
            go_quiet (fail)
            clear hb1 hb2
            go_wp2_with fail
            go_meet
            exact ⟨by rw [HV.out]; simp [H1.out, H2.out], (Keeps.refl _ _).drewN _⟩
        · have hb2 : (x.n.vote == 0) = false := by rw [beq_eq_false_iff_ne]; exact h2
          have H2 := Lib.hid h2
          clear h2
          by_cases h3 : x.n.vote = m.m.src
          · have hb3 : (x.n.vote == m.m.src) = true := by rw [beq_iff_eq]; exact h3
            have H3 := Lib.hid h3
            clear h3
            cases nb
            all_goals
              go_quiet (fail)
              clear hb1 hb2 hb3
              go_wp2_with fail
              go_meet
              exact ⟨by rw [HV.out]; simp [H1.out, H3.out], (Keeps.refl _ _).drewN _⟩
          · have hb3 : (x.n.vote == m.m.src) = false := by rw [beq_eq_false_iff_ne]; exact h3
            have H3 := Lib.hid h3
            clear h3
            go_quiet (fail)
            clear hb1 hb2 hb3
            go_wp2_with fail
            go_meet
            exact ⟨by rw [HV.out]; simp [H2.out, H3.out], (Keeps.refl _ _).drewN _⟩
      · have hb1 : (m.m.term == x.n.term) = false := by rw [beq_eq_false_iff_ne]; exact h1
        have H1 := Lib.hid h1
        clear h1
        go_quiet (fail)
        clear hb1
        go_wp2_with fail
        go_meet
        exact ⟨by rw [HV.out]; simp [H1.out], (Keeps.refl _ _).drewN _⟩
    case rest =>
      obtain ⟨wo, rfl⟩ : ∃ wo : World, wo = wc := ⟨_, rfl⟩
      obtain ⟨rfl, hk2⟩ := hcut
      have HP2 := Lib.hid (HP.out.later hk2)
      have HM2 := Lib.hid (HMM.out.keep hk2 (fun _ _ h => h.elim))
      have e1' := hk2.cell (fun h => h) e1
      have e4' := hk2.cell (fun h => h) e4
      have f3' := (HP.out.later hk2).frozen 3
      have HK2 := Lib.hid (HK.out.trans hk2 (fun _ h => h.elim))
      clear hk2 e1 e2 e3 e4 f3
      have hvf : ∃ vf, vf = votesFor x.n m.m := ⟨_, rfl⟩
      obtain ⟨vf, hvf⟩ := hvf
      rw [← hvf]
      have HVF := Lib.hid hvf
      clear hvf
      have has : asked x.n m.m = ({ x.n with vote := if vf then m.m.src else x.n.vote }, [⟨2, x.n.id, m.m.src, x.n.term, 0, 0, 0, [], vf⟩]) := by
        unfold asked; rw [← HVF.out]
      have HAS := Lib.hid has
      clear has
      cases vf
      · go_wp2_with fail
        refine (say_lit HP2.out 2 m.m.src 0 0 0 [] (.slice none 0 0) false ⟨none, 0, 0, rfl, rfl, Nat.le_refl _, by simp [maxLen], fun h => by simp [itemCells] at h⟩ (fun _ h => by simp [Value.ownBlock] at h) (by omega)).mono ?_
        rintro e w3 ⟨rfl, S3, ov3, hp3, hk3, hs3⟩
        go_wp2
        go_end0
        refine ⟨rfl, S3, _, ov3, _, hp3, by rw [HAS.out]; rfl, (HK2.out.mono (fun _ h => h.elim)).trans hk3 (fun _ h => .inl h), fun k hk => ?_⟩
        rcases hs3 k hk with h1 | h1
        · exact .inl h1
        · exact .inr (Nat.le_trans HK2.out.size h1)
      · go_wp2_with fail
        obtain ⟨hp', hkp⟩ := HP2.out.setInt (Keeps.refl _ _) 3 (.int .i64 m.m.src) { x.n with vote := m.m.src } rfl rfl rfl rfl rfl
        refine (say_lit hp' 2 m.m.src 0 0 0 [] (.slice none 0 0) true ⟨none, 0, 0, rfl, rfl, Nat.le_refl _, by simp [maxLen], fun h => by simp [itemCells] at h⟩ (fun _ h => by simp [Value.ownBlock] at h) (by omega)).mono ?_
        rintro e w3 ⟨rfl, S3, ov3, hp3, hk3, hs3⟩
        go_wp2
        go_end0
        have hsz : wo.heap.size = (wo.setCell ⟨p, 3, none⟩ (.int .i64 m.m.src)).heap.size := (setCell_size _ _ _).symm
        refine ⟨rfl, S3, _, ov3, _, hp3, by rw [HAS.out]; rfl, ((HK2.out.mono (fun _ h => h.elim)).trans hkp (fun _ h => .inl h)).trans hk3 (fun _ h => .inl h), fun k hk => ?_⟩
        rcases hs3 k hk with h1 | h1
        · exact .inl h1
        · exact .inr (by have := HK2.out.size; omega)
end Go.Proofs.Ytibjbpakbfodaaa
