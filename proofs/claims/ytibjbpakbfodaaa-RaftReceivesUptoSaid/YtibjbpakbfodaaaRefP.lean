/- The document's answer, chapter 15: where it counts in another way than the plain model, the two are equal. Plain laws, no walk. -/
import Derived.Test.YtibjbpakbfodaaaRefA
import Derived.Test.YtibjbpakbfodaaaPlain
namespace Go.Proofs.Ytibjbpakbfodaaa
open Go.RowKit

/-- What is sure, counted upward. -/
def sureUp (x : Nod) : Nat → Int
  | 0 => x.commit
  | i + 1 => if x.commit < (i : Int) + 1 ∧ x.n < 2 * (have_ x.mtch ((i : Int) + 1) : Int) ∧ termAt x.log ((i : Int) + 1) = x.term then (i : Int) + 1 else sureUp x i

theorem sureUp_low (x : Nod) : ∀ k : Nat, (k : Int) ≤ x.commit → sureUp x k = x.commit
  | 0, _ => rfl
  | k + 1, h => by
    unfold sureUp
    rw [if_neg (by omega)]
    exact sureUp_low x k (by omega)

theorem sureUp_old {x : Nod} (hp : x.log.Pairwise fun a b => a.term ≤ b.term) (hm : ∀ it ∈ x.log, it.term ≤ x.term) : ∀ k : Nat, k ≤ x.log.length → 0 < k → termAt x.log k ≠ x.term → sureUp x k = x.commit
  | 0, _, h, _ => by omega
  | 1, h1, _, hne => by
    unfold sureUp
    rw [if_neg (fun h => hne (by have := h.2.2; simpa using this))]
    rfl
  | k + 2, h1, _, hne => by
    unfold sureUp
    rw [if_neg (fun h => hne (by have := h.2.2; rw [show ((k + 2 : Nat) : Int) = ((k + 1 : Nat) : Int) + 1 from by omega]; exact this))]
    refine sureUp_old hp hm (k + 1) (by omega) (by omega) ?_
    rw [termAt_nat _ (by omega) (by omega)] at hne ⊢
    simp only [Nat.add_sub_cancel] at hne ⊢
    have hlt := List.pairwise_iff_getElem.1 hp k (k + 1) (by omega) (by omega) (by omega)
    have h2 := hm _ (List.getElem_mem (show k + 1 < x.log.length by omega))
    simp only [show k + 2 - 1 = k + 1 from by omega] at hne
    omega

theorem sureUp_eq {x : Nod} (hp : x.log.Pairwise fun a b => a.term ≤ b.term) (hm : ∀ it ∈ x.log, it.term ≤ x.term) : ∀ k : Nat, k ≤ x.log.length → sureUp x k = sureAt x k
  | 0, _ => rfl
  | k + 1, h => by
    have ih := sureUp_eq hp hm k (by omega)
    have hold := sureUp_old hp hm (k + 1) h (by omega)
    have hlow := sureUp_low x (k + 1)
    have hc : ((k + 1 : Nat) : Int) = (k : Int) + 1 := by omega
    rw [hc] at hold hlow
    by_cases h1 : x.commit < (k : Int) + 1
    · by_cases h2 : termAt x.log ((k : Int) + 1) = x.term
      · have e : sureAt x (k + 1) = if x.n < 2 * (have_ x.mtch ((k : Int) + 1) : Int) then (k : Int) + 1 else sureAt x k := by rw [sureAt, if_pos ⟨h1, h2⟩]
        rw [e, sureUp]
        by_cases h3 : x.n < 2 * (have_ x.mtch ((k : Int) + 1) : Int)
        · rw [if_pos ⟨h1, h3, h2⟩, if_pos h3]
        · rw [if_neg (fun h => h3 h.2.1), if_neg h3, ih]
      · rw [hold h2]
        unfold sureAt
        rw [if_neg (fun h => h2 h.2)]
    · rw [hlow (by omega)]
      unfold sureAt
      rw [if_neg (fun h => h1 h.1)]

theorem sureUp_rise {x : Nod} (hr : rising x.log x.term = true) (ht : 1 ≤ x.term) : sureUp x x.log.length = sureAt x x.log.length := by
  obtain ⟨h1, h2⟩ := (rising_iff _ _).1 hr
  exact sureUp_eq h1 (fun it hit => by have := (h2 it hit).2; omega) _ (Nat.le_refl _)

theorem sureUp_ge (x : Nod) : ∀ k : Nat, x.commit ≤ sureUp x k
  | 0 => Int.le_refl _
  | k + 1 => by
    unfold sureUp
    split
    · omega
    · exact sureUp_ge x k

/-- Two lists that rise, and have the same members. -/
theorem rise_ext : ∀ {a b : List Int}, a.Pairwise (· < ·) → b.Pairwise (· < ·) → (∀ v, v ∈ a ↔ v ∈ b) → a = b
  | [], [], _, _, _ => rfl
  | [], v :: t, _, _, h => by have := (h v).2 (List.mem_cons_self ..); simp at this
  | v :: t, [], _, _, h => by have := (h v).1 (List.mem_cons_self ..); simp at this
  | u :: s, v :: t, h1, h2, h => by
    rw [List.pairwise_cons] at h1 h2
    have e : u = v := by
      rcases List.mem_cons.1 ((h u).1 (List.mem_cons_self ..)) with e | e
      · exact e
      · rcases List.mem_cons.1 ((h v).2 (List.mem_cons_self ..)) with e' | e'
        · exact e'.symm
        · have := h1.1 v e'; have := h2.1 u e; omega
    subst e
    rw [rise_ext h1.2 h2.2 fun w => ?_]
    constructor
    · intro hw
      rcases List.mem_cons.1 ((h w).1 (List.mem_cons_of_mem _ hw)) with e | e
      · have := h1.1 w hw; omega
      · exact e
    · intro hw
      rcases List.mem_cons.1 ((h w).2 (List.mem_cons_of_mem _ hw)) with e | e
      · have := h2.1 w hw; omega
      · exact e

theorem mem_insertB (k v : Int) : ∀ (l : List Int), v ∈ insertB k l ↔ v = k ∨ v ∈ l
  | [] => by simp [insertB]
  | u :: t => by
    unfold insertB
    split
    · rw [List.mem_cons, mem_insertB k v t, List.mem_cons]
      constructor
      · rintro (h | h | h)
        · exact .inr (.inl h)
        · exact .inl h
        · exact .inr (.inr h)
      · rintro (h | h | h)
        · exact .inr (.inl h)
        · exact .inl h
        · exact .inr (.inr h)
    · split
      · rename_i h2
        rw [List.mem_cons]
        constructor
        · exact fun h => .inr h
        · rintro (h | h)
          · exact .inl (by omega)
          · exact h
      · rw [List.mem_cons, List.mem_cons]

/-- The votes, put together anew. -/
def recount (src : Int) (votes : List Int) (k : Nat) : List Int :=
  ((List.range k).map fun (j : Nat) => (j : Int) + 1).filter fun v => decide (v = src) || votes.any fun u => decide (u = v)

theorem recount_succ (src : Int) (votes : List Int) (k : Nat) : recount src votes (k + 1) = recount src votes k ++ if (decide ((k : Int) + 1 = src) || votes.any fun u => decide (u = (k : Int) + 1)) = true then [(k : Int) + 1] else [] := by
  unfold recount
  rw [List.range_succ, List.map_append, List.filter_append]
  congr 1
  rw [List.map_singleton, List.filter_cons, List.filter_nil]

theorem recount_eq {x : Nod} {src : Int} (h1 : 1 ≤ src) (hn : src ≤ x.n) (hv : votesOk x.n 0 x.votes = true) : recount src x.votes x.n.toNat = insertB src x.votes := by
  obtain ⟨a1, a2⟩ := votesOk_rising _ _ (insertB_ok h1 hn x.votes 0 (by omega) hv)
  refine rise_ext ?_ a1 fun v => ?_
  · unfold recount
    refine List.Pairwise.filter _ ?_
    rw [List.pairwise_map]
    refine List.Pairwise.imp ?_ List.pairwise_lt_range
    intro a b h; omega
  · rw [mem_insertB]
    unfold recount
    simp only [List.mem_filter, List.mem_map, List.mem_range, Bool.or_eq_true, decide_eq_true_eq, List.any_eq_true]
    constructor
    · rintro ⟨_, h | ⟨u, h, e⟩⟩
      · exact .inl h
      · exact .inr (e ▸ h)
    · intro h
      have hb : 0 < v ∧ v ≤ x.n := by
        rcases h with h | h
        · omega
        · have := (votesOk_rising _ _ hv).2 v h
          exact ⟨this.1, this.2.2⟩
      exact ⟨⟨(v - 1).toNat, by omega, by omega⟩, h.imp id fun h => ⟨v, h, rfl⟩⟩

/-- How many items at the start of a list have the terms of those of another. -/
def agree : List Itm → List Itm → Nat
  | x :: t, y :: s => if y.term = x.term then agree t s + 1 else 0
  | _, _ => 0

theorem agree_le : ∀ (a b : List Itm), agree a b ≤ a.length ∧ agree a b ≤ b.length
  | [], b => by cases b <;> simp [agree]
  | x :: t, [] => by simp [agree]
  | x :: t, y :: s => by
    have := agree_le t s
    simp only [agree, List.length_cons]
    split <;> omega

theorem taken_rest : ∀ (items l : List Itm) (c : Int), taken l.length items l c = (l ++ items, c)
  | [], l, c => by simp [taken]
  | x :: t, l, c => by
    unfold taken
    rw [List.getElem?_eq_none (Nat.le_refl _)]
    have := taken_rest t (l ++ [x]) c
    simp only [List.length_append, List.length_cons, List.length_nil] at this
    simp only [this, List.append_assoc, List.singleton_append]

theorem taken_agree : ∀ (items : List Itm) (k : Nat) (l : List Itm) (c : Int), k ≤ l.length → c ≤ l.length →
    taken k items l c = if agree items (l.drop k) < items.length then (l.take (k + agree items (l.drop k)) ++ items.drop (agree items (l.drop k)), min c (k + agree items (l.drop k) : Nat)) else (l, c)
  | [], k, l, c, _, _ => by simp [taken, agree]
  | x :: t, k, l, c, hk, hc => by
    rcases Nat.lt_or_ge k l.length with hlt | hge
    · have hd : l.drop k = l[k] :: l.drop (k + 1) := List.drop_eq_getElem_cons hlt
      unfold taken
      rw [List.getElem?_eq_getElem hlt]
      simp only
      by_cases he : l[k].term = x.term
      · rw [if_neg (by simp [he]), taken_agree t (k + 1) l c (by omega) hc]
        have ha : agree (x :: t) (l.drop k) = agree t (l.drop (k + 1)) + 1 := by rw [hd]; simp only [agree, if_pos he]
        rw [ha]
        simp only [List.length_cons, List.drop_succ_cons, Nat.add_lt_add_iff_right]
        have e : k + (agree t (l.drop (k + 1)) + 1) = k + 1 + agree t (l.drop (k + 1)) := by omega
        rw [e]
      · rw [if_pos he]
        have ha : agree (x :: t) (l.drop k) = 0 := by rw [hd]; simp only [agree, if_neg he]
        have := taken_rest t (l.take k ++ [x]) (min c k)
        rw [List.length_append, List.length_take, Nat.min_eq_left hk] at this
        simp only [List.length_cons, List.length_nil] at this
        rw [this, ha]
        simp
    · have hke : k = l.length := by omega
      subst hke
      rw [taken_rest]
      have ha : agree (x :: t) (l.drop l.length) = 0 := by rw [List.drop_length]; rfl
      rw [ha]
      simp only [Nat.add_zero, List.take_length, List.drop_zero, List.length_cons, Nat.zero_lt_succ, if_true]
      rw [Int.min_eq_left hc]

theorem agree_step {items l : List Itm} {j : Nat} (h : agree items l = j + agree (items.drop j) (l.drop j)) (h1 : j < items.length) (h2 : j < l.length) (he : l[j].term = items[j].term) : agree items l = (j + 1) + agree (items.drop (j + 1)) (l.drop (j + 1)) := by
  rw [h, List.drop_eq_getElem_cons h1, List.drop_eq_getElem_cons h2]
  simp only [agree, if_pos he]
  omega

theorem agree_stop {items l : List Itm} {j : Nat} (h : agree items l = j + agree (items.drop j) (l.drop j)) (hs : items.length ≤ j ∨ l.length ≤ j ∨ ∃ (h1 : j < items.length) (h2 : j < l.length), l[j].term ≠ items[j].term) : agree items l = j := by
  rw [h]
  rcases hs with hs | hs | ⟨h1, h2, hne⟩
  · rw [List.drop_of_length_le hs]
    cases l.drop j <;> simp [agree]
  · rw [List.drop_of_length_le hs]
    cases items.drop j <;> simp [agree]
  · rw [List.drop_eq_getElem_cons h1, List.drop_eq_getElem_cons h2]
    simp [agree, hne]

/-- Is a message nothing to a node? -/
def lostR (x : Nod) (m : Mes) : Bool :=
  !(decide (m.dst = x.id) && withinB m.src 1 x.n && decide (m.src ≠ x.id) && withinB m.kind 1 4 && withinB m.term 1 1000000 && withinB m.index 0 60 && decide (0 ≤ m.commit) && withinB m.logTerm 0 m.term && decide ((m.items.length : Int) + m.index ≤ 60) && risesB m.items m.term)
    || (decide (0 < m.items.length) && decide (termAt m.items 1 < m.logTerm))

theorem lostR_eq (x : Nod) (m : Mes) : lostR x m = lost x m := by
  unfold lostR lost withinB risesB
  split
  · rename_i h
    have : (decide (m.dst = x.id) && (decide (1 ≤ m.src) && decide (m.src ≤ x.n)) && decide (m.src ≠ x.id) && (decide (1 ≤ m.kind) && decide (m.kind ≤ 4))) = false := by
      apply Bool.eq_false_iff.2
      intro hb
      simp only [Bool.and_eq_true, decide_eq_true_eq] at hb
      omega
    rw [this]
    simp
  · rename_i h
    have : (decide (m.dst = x.id) && (decide (1 ≤ m.src) && decide (m.src ≤ x.n)) && decide (m.src ≠ x.id) && (decide (1 ≤ m.kind) && decide (m.kind ≤ 4))) = true := by
      simp only [Bool.and_eq_true, decide_eq_true_eq]
      omega
    rw [this]
    split
    · rename_i h2
      have : ((decide (1 ≤ m.term) && decide (m.term ≤ 1000000)) && (decide (0 ≤ m.index) && decide (m.index ≤ 60)) && decide (0 ≤ m.commit) && (decide (0 ≤ m.logTerm) && decide (m.logTerm ≤ m.term))) = false := by
        apply Bool.eq_false_iff.2
        intro hb
        simp only [Bool.and_eq_true, decide_eq_true_eq] at hb
        omega
      rw [Bool.true_and, this]
      simp
    · rename_i h2
      cases hr : rising m.items m.term
      · simp
      · cases hq : decide (0 < m.items.length) && decide (termAt m.items 1 < m.logTerm)
        · rw [Bool.eq_iff_iff]
          simp only [Bool.or_eq_true, Bool.not_eq_true', Bool.and_eq_true, decide_eq_true_eq, Bool.or_false, Bool.not_true, Bool.true_and, Bool.eq_false_iff, ne_eq]
          omega
        · simp
end Go.Proofs.Ytibjbpakbfodaaa
