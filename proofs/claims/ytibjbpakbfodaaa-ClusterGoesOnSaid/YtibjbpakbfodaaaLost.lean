/- lost: is a message to be left aside? -/
import Derived.Test.YtibjbpakbfodaaaRise
import Derived.Test.YtibjbpakbfodaaaTold
namespace Go.Proofs.Ytibjbpakbfodaaa
open Go.RowKit

/-- A world that has kept all blocks of another. -/
structure Kp (w : World) where
  val : World
  keeps : Keeps (fun _ => False) w val

instance (w : World) : Nonempty (Kp w) := ⟨⟨w, Keeps.refl _ w⟩⟩

theorem wp_region_quiet_k {P : Program} {id : Nat} {Q : Exit → Act → World → Prop} {a : Act} {w : World} {l : List Oper} (hm : P.follows .mixedOrders = true) (hB : Region.lexB .any l.toArray = true)
    (h : wpQuiet P l.toArray (fun w' => ∃ ξ : Kp w, w' = ξ.val) (fun a' => ∀ w', (∃ ξ : Kp w, w' = ξ.val) → Q .normal a' w') l a) : (Code.region id l.toArray true).wp P Q a w :=
  wp_region_quiet (C := fun w' => ∃ ξ : Kp w, w' = ξ.val) hm hB ⟨⟨{ w with drawn := w.drawn + 1 }, ⟨rfl, rfl, rfl, Nat.le_refl _, fun _ _ _ => rfl⟩⟩, rfl⟩ (by simpa using h)

def u1 (x : Nod) (m : Mes) : Bool := (m.dst != x.id) || decide (m.src < 1) || decide (x.n < m.src) || (m.src == x.id) || decide (m.kind < 1) || decide (4 < m.kind)
def u2 (m : Mes) : Bool := decide (m.term < 1) || decide (1000000 < m.term) || decide (m.index < 0) || decide (m.commit < 0) || decide (m.logTerm < 0) || decide (m.term < m.logTerm)
def u3 (m : Mes) : Bool := decide (60 < m.index) || decide (60 - m.index < (m.items.length : Int)) || !rising m.items m.term || (decide (0 < m.items.length) && decide (termAt m.items 1 < m.logTerm))

theorem lost_tests (x : Nod) (m : Mes) : lost x m = if u1 x m then true else if u2 m then true else u3 m := by
  unfold lost u1 u2 u3
  simp only [Bool.or_eq_true, decide_eq_true_eq, or_assoc, bne_iff_ne, beq_iff_eq]

set_option maxRecDepth 100000 in
set_option maxHeartbeats 8000000 in
theorem lost_any {w : World} {S : Nat → Prop} {b mb : Nat} {x : Nod} {m : MesV} (hm : MesAt w S mb m) (h0 : w.cell? ⟨b, 0, none⟩ = some (.int .i64 x.id)) (h1 : w.cell? ⟨b, 1, none⟩ = some (.int .i64 x.n)) :
    Calls Try.prog 71 #[.pointer (some ⟨b, 0, none⟩), .pointer (some ⟨mb, 0, none⟩)] w fun e w' => e = .returned (.bool (lost x m.m)) ∧ Keeps (fun _ => False) w w' := by
  obtain ⟨d0, d1, d2, d3, d4, d5, d6, d7, d8⟩ := hm.cells
  have HM := Lib.hid hm
  clear d8
  go_enter Try.func71, Try.ntmps71
  go_upto_region 1 with fail
  go_cut [5] (fun s wx => s = .bool (u1 x m.m) ∧ Keeps (fun _ => False) w wx)
  case first =>
    clear d3 d4 d5 d6 d7
    cases q0 : (m.m.dst != x.id)
    case true =>
      as_aux_lemma =>
        go_quiet (fail)
        go_wp2_with fail
        go_meet
        unfold u1
        rw [q0]
        exact ⟨by simp, (Keeps.refl _ _).drewN _⟩
    cases q1 : decide (m.m.src < 1)
    case true =>
      as_aux_lemma =>
        go_quiet (fail)
        go_wp2_with fail
        go_meet
        unfold u1
        rw [q0, q1]
        exact ⟨by simp, (Keeps.refl _ _).drewN _⟩
    cases q2 : decide (x.n < m.m.src)
    case true =>
      as_aux_lemma =>
        go_quiet (fail)
        go_wp2_with fail
        go_meet
        unfold u1
        rw [q0, q1, q2]
        exact ⟨by simp, (Keeps.refl _ _).drewN _⟩
    cases q3 : (m.m.src == x.id)
    case true =>
      as_aux_lemma =>
        go_quiet (fail)
        go_wp2_with fail
        go_meet
        unfold u1
        rw [q0, q1, q2, q3]
        exact ⟨by simp, (Keeps.refl _ _).drewN _⟩
    cases q4 : decide (m.m.kind < 1)
    case true =>
      as_aux_lemma =>
        go_quiet (fail)
        go_wp2_with fail
        go_meet
        unfold u1
        rw [q0, q1, q2, q3, q4]
        exact ⟨by simp, (Keeps.refl _ _).drewN _⟩
    as_aux_lemma =>
      go_quiet (fail)
      go_wp2_with fail
      go_meet
      unfold u1
      rw [q0, q1, q2, q3, q4]
      exact ⟨by simp, (Keeps.refl _ _).drewN _⟩
  case rest =>
    obtain ⟨rfl, hk⟩ := hcut
    clear d0 d1 d2 d3 d4 d5 d6 d7 h0 h1
    obtain ⟨d0, d1, d2, d3, d4, d5, d6, d7, d8⟩ := (HM.out.keep hk (fun _ _ h => h.elim)).cells
    clear d0 d1 d2 d8
    have HK := Lib.hid hk
    clear hk
    cases hu1 : u1 x m.m
    case true =>
      as_aux_lemma =>
        have hr : lost x m.m = true := by rw [lost_tests, hu1]; rfl
        go_wp2_with fail
        go_ret
        exact ⟨ret_bool hr.symm, HK.out⟩
    have HU1 := Lib.hid hu1
    go_upto_region 3 with fail
    clear hu1
    go_cut [58] (fun s wx => s = .bool (u2 m.m) ∧ Keeps (fun _ => False) wc wx)
    case first =>
      clear d7
      cases q0 : decide (m.m.term < 1)
      case true =>
        as_aux_lemma =>
          go_quiet (fail)
          go_wp2_with fail
          go_meet
          unfold u2
          rw [q0]
          exact ⟨by simp, (Keeps.refl _ _).drewN _⟩
      cases q1 : decide (1000000 < m.m.term)
      case true =>
        as_aux_lemma =>
          go_quiet (fail)
          go_wp2_with fail
          go_meet
          unfold u2
          rw [q0, q1]
          exact ⟨by simp, (Keeps.refl _ _).drewN _⟩
      cases q2 : decide (m.m.index < 0)
      case true =>
        as_aux_lemma =>
          go_quiet (fail)
          go_wp2_with fail
          go_meet
          unfold u2
          rw [q0, q1, q2]
          exact ⟨by simp, (Keeps.refl _ _).drewN _⟩
      cases q3 : decide (m.m.commit < 0)
      case true =>
        as_aux_lemma =>
          go_quiet (fail)
          go_wp2_with fail
          go_meet
          unfold u2
          rw [q0, q1, q2, q3]
          exact ⟨by simp, (Keeps.refl _ _).drewN _⟩
      cases q4 : decide (m.m.logTerm < 0)
      case true =>
        as_aux_lemma =>
          go_quiet (fail)
          go_wp2_with fail
          go_meet
          unfold u2
          rw [q0, q1, q2, q3, q4]
          exact ⟨by simp, (Keeps.refl _ _).drewN _⟩
      as_aux_lemma =>
        go_quiet (fail)
        go_wp2_with fail
        go_meet
        unfold u2
        rw [q0, q1, q2, q3, q4]
        exact ⟨by simp, (Keeps.refl _ _).drewN _⟩
    case rest =>
      obtain ⟨rfl, hk2⟩ := hcut
      rename_i wd
      have hk := HK.out.trans hk2 (fun _ h => .inl h)
      clear d3 d4 d5 d6 d7
      have hm2 := HM.out.keep hk (fun _ _ h => h.elim)
      obtain ⟨d0, d1, d2, d3, d4, d5, d6, d7, d8⟩ := hm2.cells
      have HM2 := Lib.hid hm2; have HK2 := Lib.hid hk
      clear d0 d1 d2 d6 d8 hk hk2 hm2
      cases hu2 : u2 m.m
      case true =>
        as_aux_lemma =>
          have hr : lost x m.m = true := by rw [lost_tests, HU1.out, hu2]; rfl
          go_wp2_with fail
          go_ret
          exact ⟨ret_bool hr.symm, HK2.out⟩
      have hix : 0 ≤ m.m.index := by unfold u2 at hu2; simp at hu2; omega
      have hr : lost x m.m = u3 m.m := by rw [lost_tests, HU1.out, hu2]; rfl
      have HR := Lib.hid hr
      go_upto_region 5 with fail
      clear hu2 hr
      obtain ⟨IA, il, ic, hiv, hic, hi1, hi2, hicell⟩ := HM2.out.ok
      have hill : il = m.m.items.length := by rw [itemCells_length] at hic; omega
      subst hill
      have HSL := Lib.hid HM2.out.ok
      have hsl := HM2.out.ok
      unfold MesOk at hsl
      rw [hiv] at d7 hsl
      obtain ⟨r, hrr⟩ : ∃ r, r = rising m.m.items m.m.term := ⟨_, rfl⟩
      have hmx : maxLen ≤ 9223372036854775807 := by simp [maxLen]
      have hcall : m.m.items.length ≤ 1000000 → ∀ ξ : Kp wc, Calls Try.prog 54 #[.slice IA m.m.items.length ic, .int .i64 m.m.term] ξ.val fun e w'' => e = .returned (.bool r) ∧ ∃ ξ' : Kp wc, w'' = ξ'.val := fun h60 ξ => by
        rw [hrr]
        refine (rising_any (hsl.keep ξ.keeps (fun _ _ h => h.elim)) h60 m.m.term).mono ?_
        rintro e w'' ⟨rfl, hk⟩
        exact ⟨rfl, ⟨w'', ξ.keeps.trans hk (fun _ h => .inl h)⟩, rfl⟩
      have hu : u3 m.m = (decide (60 < m.m.index) || decide (60 - m.m.index < (m.m.items.length : Int)) || !r || (decide (0 < m.m.items.length) && decide (termAt m.m.items 1 < m.m.logTerm))) := by rw [hrr]; rfl
      have HU := Lib.hid hu; have HRR := Lib.hid hrr
      clear hu hicell hic hiv hi1 hi2 hrr
      have fin : ∀ (v : Bool) (ξ : Kp wc), v = u3 m.m → (Ending.returned (.bool v) = Ending.returned (.bool (lost x m.m)) ∧ Keeps (fun _ => False) w ξ.val) := fun v ξ hv => ⟨ret_bool (hv.trans HR.out.symm), HK2.out.trans ξ.keeps (fun _ h => .inl h)⟩
      have FIN := Lib.hid fin
      clear fin
      cases q0 : decide (60 < m.m.index)
      case true =>
        as_aux_lemma =>
          clear hcall
          go_quiet (fail)
          go_wp2_with fail
          go_ret
          exact FIN.out true ⟨_, (Keeps.refl _ _).drewN _⟩ (by rw [HU.out, q0]; rfl)
      have hi60 : m.m.index ≤ 60 := by simp at q0; omega
      have hw : IntKind.i64.wrap (60 - m.m.index) = 60 - m.m.index := IntWalk.i64_in _ (by omega)
      cases q1 : decide (60 - m.m.index < (m.m.items.length : Int))
      case true =>
        as_aux_lemma =>
          clear hcall
          go_quiet (fail)
          go_wp2_with fail
          go_ret
          exact FIN.out true ⟨_, (Keeps.refl _ _).drewN _⟩ (by rw [HU.out, q0, q1]; rfl)
      have hl60 : m.m.items.length ≤ 60 := by simp at q1; omega
      have HC := Lib.hid (hcall (by omega))
      have f3 : ∀ ξ : Kp wc, ξ.val.cell? ⟨mb, 3, none⟩ = some (.int .i64 m.m.term) := fun ξ => ξ.keeps.cell (fun h => h) d3
      have f4 : ∀ ξ : Kp wc, ξ.val.cell? ⟨mb, 4, none⟩ = some (.int .i64 m.m.index) := fun ξ => ξ.keeps.cell (fun h => h) d4
      have f5 : ∀ ξ : Kp wc, ξ.val.cell? ⟨mb, 5, none⟩ = some (.int .i64 m.m.logTerm) := fun ξ => ξ.keeps.cell (fun h => h) d5
      have f7 : ∀ ξ : Kp wc, ξ.val.cell? ⟨mb, 7, none⟩ = some (.slice IA m.m.items.length ic) := fun ξ => ξ.keeps.cell (fun h => h) d7
      clear hcall d3 d4 d5 d7
      cases r
      case false =>
        as_aux_lemma =>
          refine wp_region_quiet_k (by kernel_rfl) (by kernel_rfl) ?_
          repeat (go_big_quiet_step (first | exact HC.out _ | (go_at_call 54; exact HC.out _)))
          refine wpQuiet_nil ?_
          intro _ hw'
          obtain ⟨ξ, hw''⟩ := hw'
          subst hw''
          go_wp2_with fail
          go_ret
          exact FIN.out true ξ (by rw [HU.out, q0, q1]; rfl)
      cases q3 : decide (0 < (m.m.items.length : Int))
      case false =>
        as_aux_lemma =>
          have q3' : decide (0 < m.m.items.length) = false := by have := of_decide_eq_false q3; rw [decide_eq_false_iff_not]; omega
          refine wp_region_quiet_k (by kernel_rfl) (by kernel_rfl) ?_
          repeat (go_big_quiet_step (first | exact HC.out _ | (go_at_call 54; exact HC.out _)))
          refine wpQuiet_nil ?_
          intro _ hw'
          obtain ⟨ξ, hw''⟩ := hw'
          subst hw''
          go_wp2_with fail
          go_ret
          exact FIN.out false ξ (by rw [HU.out, q0, q1, q3']; rfl)
      have hp : 0 < m.m.items.length := by have := of_decide_eq_true q3; omega
      obtain ⟨ib, io, hia, _, i1, _⟩ := hsl.item' hp
      subst hia
      have ht1 : termAt m.m.items 1 = (m.m.items[0]'hp).term := by unfold termAt; rw [if_neg (by omega)]; simp [List.getElem?_eq_getElem hp]
      have HT1 := Lib.hid ht1
      rw [Nat.zero_mul, Nat.add_zero] at i1
      generalize (m.m.items[0]'hp).term = tt at *
      have g1 : ∀ ξ : Kp wc, ξ.val.cell? ⟨ib, io, none⟩ = some (.int .i64 tt) := fun ξ => ξ.keeps.cell (fun h => h) i1
      have q3' : decide (0 < m.m.items.length) = true := by simp [hp]
      clear hsl ht1 i1
      refine wp_region_quiet_k (by kernel_rfl) (by kernel_rfl) ?_
      repeat (go_big_quiet_step (first | exact HC.out _ | (go_at_call 54; exact HC.out _)))
      refine wpQuiet_nil ?_
      intro _ hw'
      obtain ⟨ξ, hw''⟩ := hw'
      subst hw''
      go_wp2_with fail
      go_ret
      exact FIN.out (decide (tt < m.m.logTerm)) ξ (by rw [HU.out, q0, q1, q3', HT1.out]; rfl)
end Go.Proofs.Ytibjbpakbfodaaa
