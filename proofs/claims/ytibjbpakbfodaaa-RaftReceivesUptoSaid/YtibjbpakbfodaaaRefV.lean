/- The document's answer, chapter 15: what is wrong with a node: the same, test by test. Plain laws, no walk. -/
import Derived.Test.YtibjbpakbfodaaaRefP
namespace Go.Proofs.Ytibjbpakbfodaaa
open Go.RowKit

def s1 (x : Nod) : Bool := !withinB x.n 1 5 || !withinB x.id 1 x.n || !withinB x.vote 0 x.n || !withinB x.boss 0 x.n || !withinB x.term 0 1000000 || !withinB x.commit 0 x.log.length
def s3 (x : Nod) : Bool := !withinB x.role 1 3 || ((x.term == 0) && decide (1 < x.role))
def s6 (x : Nod) : Bool := (x.role != 2) && decide (0 < (x.votes.length : Int))
def s8 (x : Nod) : Bool := ((x.role == 3) && (((x.next.length : Int) != x.n) || ((x.mtch.length : Int) != x.n))) || ((x.role != 3) && decide (0 < (x.next.length : Int) + (x.mtch.length : Int)))

def wrongR (x : Nod) : Int :=
  if s1 x then 3 else if s3 x then 1 else if decide (60 < (x.log.length : Int)) then 4 else if !risesB x.log x.term then 2 else if s6 x then 8 else if !votesOk x.n 0 x.votes then 2 else if s8 x then 8
  else if !placesOk x.log.length x.next x.mtch then 3 else 0

theorem wrongR_eq (x : Nod) : wrongR x = wrong x := by
  have e1 : s1 x = true ↔ ((x.n < 1 ∨ 5 < x.n ∨ peerB x.n x.id 1 = false ∨ peerB x.n x.vote 0 = false ∨ peerB x.n x.boss 0 = false) ∨ (x.term < 0 ∨ 1000000 < x.term ∨ x.commit < 0 ∨ (x.log.length : Int) < x.commit)) := by
    unfold s1 withinB peerB
    simp only [Bool.or_eq_true, Bool.not_eq_true', Bool.and_eq_false_iff, decide_eq_false_iff_not]
    omega
  unfold wrongR wrong
  by_cases h1 : s1 x = true
  · rw [if_pos h1]
    by_cases h2 : x.n < 1 ∨ 5 < x.n ∨ peerB x.n x.id 1 = false ∨ peerB x.n x.vote 0 = false ∨ peerB x.n x.boss 0 = false
    · rw [if_pos h2]
    · rw [if_neg h2, if_pos ((e1.1 h1).resolve_left h2)]
  rw [if_neg h1, if_neg (fun h => h1 (e1.2 (.inl h))), if_neg (fun h => h1 (e1.2 (.inr h)))]
  have ht : 0 ≤ x.term := by
    exact Decidable.byContradiction fun h => h1 (e1.2 (.inr (.inl (by omega))))
  clear e1
  have e3 : s3 x = true ↔ (x.role < 1 ∨ 3 < x.role ∨ (x.role ≠ 1 ∧ x.term = 0)) := by
    unfold s3 withinB
    simp only [Bool.or_eq_true, Bool.not_eq_true', Bool.and_eq_false_iff, decide_eq_false_iff_not, Bool.and_eq_true, beq_iff_eq, decide_eq_true_eq]
    omega
  by_cases h3 : s3 x = true
  · rw [if_pos h3, if_pos (e3.1 h3)]
  rw [if_neg h3, if_neg (fun h => h3 (e3.2 h))]
  by_cases h4 : 60 < x.log.length
  · rw [if_pos (by simp; omega), if_pos h4]
  rw [if_neg (by simp; omega), if_neg h4]
  have e5 : (!risesB x.log x.term) = true ↔ (rising x.log x.term = false ∨ (0 < x.log.length ∧ x.term = 0)) := by
    unfold risesB
    cases rising x.log x.term
    · simp
    · simp only [Bool.true_and, Bool.not_eq_true', Bool.or_eq_false_iff, decide_eq_false_iff_not, Bool.true_eq_false, false_or]
      omega
  by_cases h5 : (!risesB x.log x.term) = true
  · rw [if_pos h5, if_pos (e5.1 h5)]
  rw [if_neg h5, if_neg (fun h => h5 (e5.2 h))]
  have e6 : s6 x = true ↔ (0 < x.votes.length ∧ x.role ≠ 2) := by
    unfold s6
    simp only [Bool.and_eq_true, bne_iff_ne, decide_eq_true_eq]
    omega
  by_cases h6 : s6 x = true
  · rw [if_pos h6, if_pos (e6.1 h6)]
  rw [if_neg h6, if_neg (fun h => h6 (e6.2 h))]
  cases h7 : votesOk x.n 0 x.votes
  · simp
  simp only [Bool.not_true, Bool.false_eq_true, Bool.true_eq_false, if_false]
  have e8 : s8 x = true ↔ ((x.next.length : Int) ≠ (if x.role = 3 then x.n else 0) ∨ (x.mtch.length : Int) ≠ (if x.role = 3 then x.n else 0)) := by
    unfold s8
    simp only [Bool.or_eq_true, Bool.and_eq_true, beq_iff_eq, bne_iff_ne, decide_eq_true_eq]
    split <;> omega
  by_cases h8 : s8 x = true
  · rw [if_pos h8, if_pos (e8.1 h8)]
  rw [if_neg h8, if_neg (fun h => h8 (e8.2 h))]
  cases placesOk x.log.length x.next x.mtch <;> simp

theorem votesOk_step {n prev : Int} {l : List Int} {j : Nat} (hj : j < l.length) : votesOk n prev (l.drop j) = (withinB l[j] 1 n && decide (prev < l[j]) && votesOk n l[j] (l.drop (j + 1))) := by
  rw [List.drop_eq_getElem_cons hj]
  simp only [votesOk, peerB, withinB]

theorem placesOk_step {len : Int} {s t : List Int} {j : Nat} (hj : j < s.length) (hj' : j < t.length) : placesOk len (s.drop j) (t.drop j) = (withinB s[j] 1 (len + 1) && withinB t[j] 0 len && placesOk len (s.drop (j + 1)) (t.drop (j + 1))) := by
  rw [List.drop_eq_getElem_cons hj, List.drop_eq_getElem_cons hj']
  simp only [placesOk, withinB, Bool.and_assoc]
end Go.Proofs.Ytibjbpakbfodaaa
