/- Small functions of the node at work: termAt, majority, say. -/
import Derived.Test.YtibjbpakbfodaaaClone
import Derived.WalkKit
import Derived.WalkSpells
import Derived.WalkLawsBesides
import Derived.BigRegion
import Derived.BigQuiet
import Derived.Deep.RegionLaw
import Derived.Deep.RegionHeld3
import Derived.Deep.AppendLies
import Derived.Lib.Hide
namespace Go.Proofs.Ytibjbpakbfodaaa
open Go.RowKit
theorem ret_int {k : IntKind} {a b : Int} (h : a = b) : Ending.returned (.int k a) = .returned (.int k b) := by rw [h]

set_option maxHeartbeats 400000 in
theorem termAt_any {w : World} {S : Nat → Prop} {p : Nat} {x : NodV} {ov : Value} {out : List MesV} (h : Peer w S p x ov out) (i : Int) (hl : x.n.log.length ≤ 60) (hi : -1000 ≤ i) (hi2 : i ≤ 1000) :
    Calls Try.prog 61 #[.pointer (some ⟨p, 0, none⟩), .int .i64 i] w fun e w' => e = .returned (.int .i64 (termAt x.n.log i)) ∧ w' = w := by
  obtain ⟨LA, LC, VA, VC, NA, NC, MA, MC, OA, OC, hlv, hvv, hnv, hmv, hov, c0, c1, c2, c3, c4, c5, c6, c7, c8, c9, c10, c11, hfz, hpl⟩ := h.open_
  clear c0 c1 c2 c3 c5 c6 c7 c8 c9 c10 c11 hfz
  by_cases h1 : i < 1
  · have H : Hid (termAt x.n.log i = 0) := Lib.hid (if_pos h1)
    clear hlv hvv hnv hmv hov
    go_enter Try.func61, Try.ntmps61
    go_wp2
    go_ret
    exact ⟨ret_int H.out.symm, rfl⟩
  · by_cases h2 : (x.n.log.length : Int) < i
    · have H : Hid (termAt x.n.log i = 0) := Lib.hid (by unfold termAt; rw [if_neg h1, List.getElem?_eq_none (by omega)]; rfl)
      clear hlv hvv hnv hmv hov
      go_enter Try.func61, Try.ntmps61
      go_wp2
      go_ret
      exact ⟨ret_int H.out.symm, rfl⟩
    · have ho := h.log
      rw [hlv] at ho
      obtain ⟨g, rfl, hc, _⟩ := own_cell ho (by omega)
      obtain ⟨k, rfl⟩ : ∃ k : Nat, i = k + 1 := ⟨(i - 1).toNat, by omega⟩
      have hk : k < x.n.log.length := by omega
      have hck := hc (k * 2) (by omega)
      have hgk := flat_get (fun x : Itm => [Value.int .i64 x.term, .int .i64 x.cmd]) 2 (fun _ => rfl) x.n.log k x.n.log[k] 0 (List.getElem?_eq_getElem hk) (by omega)
      rw [show itemCells x.n.log = x.n.log.flatMap fun x : Itm => [Value.int .i64 x.term, .int .i64 x.cmd] from rfl, show k * 2 = k * 2 + 0 from rfl, hgk] at hck
      have hck' : w.cell? ⟨g, k * 2, none⟩ = some (.int .i64 x.n.log[k].term) := hck
      have H : Hid (termAt x.n.log (k + 1) = x.n.log[k].term) := Lib.hid (by unfold termAt; rw [if_neg h1, show ((k : Int) + 1 - 1).toNat = k from by omega, List.getElem?_eq_getElem hk]; rfl)
      clear hlv hvv hnv hmv hov hc hgk hck ho
      generalize x.n.log[k].term = z at *
      go_enter Try.func61, Try.ntmps61
      go_wp2
      go_ret
      exact ⟨ret_int H.out.symm, rfl⟩

theorem ret_bool {a b : Bool} (h : a = b) : Ending.returned (.bool a) = .returned (.bool b) := by rw [h]

set_option maxHeartbeats 400000 in
theorem majority_any {p : Nat} {n N : Int} {w : World} (hN : w.cell? ⟨p, 1, none⟩ = some (.int .i64 N)) (hn : 0 ≤ n) (hn2 : n ≤ 1000) :
    Calls Try.prog 88 #[.pointer (some ⟨p, 0, none⟩), .int .i64 n] w fun e w' => e = .returned (.bool (decide (N < 2 * n))) ∧ w' = w := by
  go_enter Try.func88, Try.ntmps88
  go_wp2
  go_ret
  exact ⟨rfl, rfl⟩

/-- A message with whose it is, and of which term. -/
def signed (x : Nod) (m : Mes) : Mes := { m with src := x.id, term := x.term }

set_option maxHeartbeats 1000000 in
theorem say_any {w : World} {S : Nat → Prop} {p : Nat} {x : NodV} {ov : Value} {out : List MesV} (h : Peer w S p x ov out) (m : MesV) (hm : MesOk w S m) (hlate : ∀ g, m.iv.ownBlock = some g → p ≤ g) (hout : out.length ≤ 100) :
    Calls Try.prog 60 #[.pointer (some ⟨p, 0, none⟩), .agg (mesCells m).toArray] w fun e w' => e = .returned (.tuple #[]) ∧ ∃ S' ov', Peer w' S' p x ov' (out ++ [⟨signed x.n m.m, m.iv⟩]) ∧ Keeps S w w' ∧ (∀ k, S' k → S k ∨ w.heap.size ≤ k) := by
  obtain ⟨i0, hi, hz, hsz, hby⟩ := info_parts Try.info38
  obtain ⟨LA, LC, VA, VC, NA, NC, MA, MC, OA, OC, hlv, hvv, hnv, hmv, hov, c0, c1, c2, c3, c4, c5, c6, c7, c8, c9, c10, c11, hfz, hpl⟩ := h.open_
  clear c1 c3 c4 c5 c6 c7 c8 c9 c10 hlv hvv hnv hmv
  obtain ⟨⟨kind, src, dst, term, index, logTerm, commit, items, yes⟩, iv⟩ := m
  have HM := Lib.hid hm
  have HLATE := Lib.hid hlate
  clear hlate
  obtain ⟨IA, il, ic, hiv, _⟩ := hm
  simp only at hiv
  subst hiv
  have hown := h.outs
  rw [hov] at hown
  have hof : (Value.slice OA out.length OC).ownBlock ≠ some p := by
    rw [← hov]; exact h.out_ne
  have HO := Lib.hid hown
  have HF := Lib.hid hof
  clear hown hof
  have HI := Lib.hid hi; have HZ := Lib.hid hz; have HS := Lib.hid hsz; have HB := Lib.hid hby
  have HOV := Lib.hid hov
  clear hi hz hsz hby hov
  generalize hid : x.n.id = id at *
  generalize hterm : x.n.term = tm at *
  have Hid1 := Lib.hid hid; have Hid2 := Lib.hid hterm
  clear hid hterm
  generalize hol : out.length = ol at *
  have Hol := Lib.hid hol
  clear hol
  unfold mesCells
  go_enter Try.func60, Try.ntmps60
  go_wp2
  go_region
  go_wp2
  have K2 := ((Keeps.refl (fun _ => False) w).alloc (.cells #[.int .i64 kind, .int .i64 id, .int .i64 dst, .int .i64 tm, .int .i64 index, .int .i64 logTerm, .int .i64 commit, .slice IA il ic, .bool yes] 38)).alloc (.cells #[.int .i64 kind, .int .i64 id, .int .i64 dst, .int .i64 tm, .int .i64 index, .int .i64 logTerm, .int .i64 commit, .slice IA il ic, .bool yes] 38)
  have K2 := Lib.hid K2.drew.drew
  go_region_law (
    (refine step_append_lies _ (by rfl) _ _ _ (by rfl) 0 38 i0 _ 9 88 Try.underlying28 HI.out HZ.out HS.out HB.out rfl (by omega) (.slice OA ol OC) ol _ (by rfl) ((HO.out.alloc _).alloc _)
        ⟨w.heap.size + 1, 0, none⟩ 1 1 [.int .i64 kind, .int .i64 id, .int .i64 dst, .int .i64 tm, .int .i64 index, .int .i64 logTerm, .int .i64 commit, .slice IA il ic, .bool yes] (by rfl) (by rfl)
        (World.news_of_block (cs := #[.int .i64 kind, .int .i64 id, .int .i64 dst, .int .i64 tm, .int .i64 index, .int .i64 logTerm, .int .i64 commit, .slice IA il ic, .bool yes]) (t := 38) (fr := (0, 0)) (heap_alloc2 w _ _)) (by simp [Value.oneCell'])
        (by omega) (by simp [maxLen]; omega) (by omega) (by simp) (w.heap.size + 2) (by simp) ?_
     intro gg cap w1 hown1 hgrow hat hlt
     have k11 := cell_grown K2.out hgrow c11 HF.out
     have f11 := frozen_grown K2.out hgrow hpl (hfz 11) HF.out))
  all_goals
    go_wp2
    go_end0
    obtain ⟨r1, r2, r3⟩ := h.said (m := ⟨signed x.n ⟨kind, src, dst, term, index, logTerm, commit, items, yes⟩, .slice IA il ic⟩) K2.out (by rw [← Hid1.out, ← Hid2.out] at hown1; exact hown1) (by rw [Hol.out]) (by rw [HOV.out]; exact hgrow) (by rw [HOV.out]; rcases hat with e | e; exact .inl e; exact .inr (by omega)) HM.out HLATE.out
    exact ⟨rfl, _, _, r1, r2, r3⟩

end Go.Proofs.Ytibjbpakbfodaaa
