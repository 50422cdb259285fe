/- Plain laws of the node's steps: votes, what is right stays right, a leader adds, each speaks for itself, who agrees has what was sent. No program is in sight. -/
import Derived.Test.YtibjbpakbfodaaaGood
namespace Go.Proofs.Ytibjbpakbfodaaa

/- ## What each step leaves as it was -/

theorem put_fields (x : Nod) (c : Int) : (put x c).id = x.id ∧ (put x c).n = x.n ∧ (put x c).term = x.term ∧ (put x c).vote = x.vote ∧ (put x c).role = x.role ∧ (put x c).boss = x.boss ∧ (put x c).votes = x.votes := by
  unfold put sure noted grown; split <;> simp
theorem lead_fields (x : Nod) : (lead x).id = x.id ∧ (lead x).n = x.n ∧ (lead x).term = x.term ∧ (lead x).vote = x.vote := by
  unfold lead
  split
  · obtain ⟨h1, h2, h3, h4, _⟩ := put_fields (crowned x) 0
    exact ⟨h1, h2, h3, h4⟩
  · exact ⟨rfl, rfl, rfl, rfl⟩

/-- No term goes back, and no vote is changed. -/
def Votes (x y : Nod) : Prop := x.term ≤ y.term ∧ (y.term = x.term → x.vote ≠ 0 → y.vote = x.vote)

theorem Votes.refl (x : Nod) : Votes x x := ⟨Int.le_refl _, fun _ _ => rfl⟩
theorem Votes.trans {x y z : Nod} (h : Votes x y) (h' : Votes y z) : Votes x z :=
  ⟨Int.le_trans h.1 h'.1, fun he hv => by
    have h1 := h.1
    have h2 := h'.1
    have e1 : y.term = x.term := by omega
    have e2 := h.2 e1 hv
    rw [h'.2 (by omega) (by rw [e2]; exact hv), e2]⟩

theorem timeout_votes (x : Nod) : Votes x (timeout x).1 := by
  unfold timeout
  split
  · exact .refl x
  · obtain ⟨_, _, h3, _⟩ := lead_fields (stood x)
    have : (stood x).term = x.term + 1 := rfl
    exact ⟨by simp only; omega, fun h => by simp only at h; omega⟩
theorem beat_votes (x : Nod) : Votes x (beat x).1 := by
  unfold beat
  split <;> exact .refl x
theorem propose_votes (x : Nod) (c : Int) : Votes x (propose x c).1 := by
  unfold propose
  split
  · exact .refl x
  · obtain ⟨_, _, h3, h4, _⟩ := put_fields x c
    exact ⟨by simp only; omega, fun _ _ => h4⟩
theorem follow_votes (x : Nod) (t b : Int) : Votes x (follow x t b) := by
  unfold follow Votes
  simp only
  constructor
  · split <;> omega
  · intro h1 h2
    split
    · rename_i h3; rw [if_pos h3] at h1; omega
    · rfl
theorem restart_votes (x : Nod) : Votes x (restart x) := by
  unfold restart
  split
  · exact .refl x
  · exact follow_votes x x.term 0
theorem receive_votes (x : Nod) (m : Mes) : Votes x (receive x m).1 := by
  unfold receive
  split
  · exact .refl x
  have hy : Votes x (if x.term < m.term then follow x m.term 0 else x) := by
    split
    · exact follow_votes x m.term 0
    · exact .refl x
  generalize (if x.term < m.term then follow x m.term 0 else x) = y at hy
  refine hy.trans ?_
  simp only
  split
  · unfold asked
    refine ⟨Int.le_refl _, fun _ hv => ?_⟩
    simp only
    split
    · rename_i h
      unfold votesFor at h
      simp at h
      omega
    · rfl
  split
  · unfold voted
    split
    · exact .refl y
    · obtain ⟨_, _, h3, h4⟩ := lead_fields { y with votes := insertB m.src y.votes }
      exact ⟨by simp only [h3]; exact Int.le_refl _, fun _ _ => h4⟩
  split
  · unfold appended
    split
    · exact .refl y
    · simp only
      have hf := follow_votes y m.term m.src
      split
      · exact hf
      · exact hf
  · unfold told
    split
    · exact .refl y
    split
    · exact ⟨Int.le_refl _, fun _ _ => rfl⟩
    · exact ⟨Int.le_refl _, fun _ _ => rfl⟩

/- ## What is right stays right -/

theorem riseTo_iff : ∀ (l : List Itm) (a m : Int), (match riseTo a l with | none => False | some z => z ≤ m) ↔ (a ≤ m ∧ l.Pairwise (fun x y => x.term ≤ y.term) ∧ ∀ x ∈ l, a ≤ x.term ∧ x.term ≤ m)
  | [], a, m => by simp [riseTo]
  | x :: t, a, m => by
    unfold riseTo
    by_cases h : x.term < a
    · rw [if_pos h]
      refine ⟨fun h => h.elim, fun hh => ?_⟩
      have := (hh.2.2 x (List.mem_cons_self ..)).1
      omega
    · rw [if_neg h]
      rw [riseTo_iff t x.term m, List.pairwise_cons]
      constructor
      · rintro ⟨h1, h2, h3⟩
        refine ⟨by omega, ⟨fun y hy => (h3 y hy).1, h2⟩, fun y hy => ?_⟩
        rcases List.mem_cons.1 hy with rfl | hy
        · exact ⟨by omega, h1⟩
        · have := h3 y hy; exact ⟨by omega, this.2⟩
      · rintro ⟨h1, ⟨h2, h2'⟩, h3⟩
        exact ⟨(h3 x (List.mem_cons_self ..)).2, h2', fun y hy => ⟨h2 y hy, (h3 y (List.mem_cons_of_mem _ hy)).2⟩⟩

theorem rising_iff (l : List Itm) (m : Int) : rising l m = true ↔ (l.Pairwise (fun x y => x.term ≤ y.term) ∧ ∀ x ∈ l, 1 ≤ x.term ∧ x.term ≤ max 1 m) := by
  have h := riseTo_iff l 1 (max 1 m)
  unfold rising
  cases hr : riseTo 1 l with
  | none => rw [hr] at h; simp only [false_iff] at h; constructor
            · intro h; cases h
            · intro hh; exact (h ⟨by omega, hh⟩).elim
  | some z => rw [hr] at h; simp only [decide_eq_true_eq]; refine Iff.trans h ?_; constructor
              · exact fun hh => hh.2
              · exact fun hh => ⟨by omega, hh⟩

theorem wrong_of_good {x : Nod} (h : Good x) : wrong x = 0 := by
  unfold wrong
  have p1 : peerB x.n x.id 1 = true := by simp [peerB, h.id1, h.idn]
  have p2 : peerB x.n x.vote 0 = true := by simp [peerB, h.vote0, h.voten]
  have p3 : peerB x.n x.boss 0 = true := by simp [peerB, h.boss0, h.bossn]
  have := h.n1; have := h.n5; have := h.term0; have := h.termn; have := h.commit0; have := h.commitn; have := h.role1; have := h.role3; have := h.log60
  rw [if_neg (by rw [p1, p2, p3]; simp; omega), if_neg (by omega), if_neg (by
    have := h.fresh; omega), if_neg (by omega), if_neg (by rw [h.rise]; simp; exact h.empty), if_neg (by
    have := h.votes0; omega), if_neg (by rw [h.votes]; simp), if_neg (by
    have h1 := h.nextl; have h2 := h.mtchl
    omega), if_neg (by rw [h.places]; simp)]

theorem placesOk_mono {a b : Int} (hab : a ≤ b) : ∀ (s t : List Int), placesOk a s t = true → placesOk b s t = true
  | [], _, _ => by simp [placesOk]
  | _ :: _, [], _ => by simp [placesOk]
  | x :: s, y :: t, h => by
    simp only [placesOk, Bool.and_eq_true, decide_eq_true_eq] at h ⊢
    obtain ⟨⟨⟨⟨h1, h2⟩, h3⟩, h4⟩, h5⟩ := h
    exact ⟨⟨⟨⟨h1, by omega⟩, h3⟩, by omega⟩, placesOk_mono hab s t h5⟩
theorem placesOk_set {n a b : Int} (ha1 : 1 ≤ a) (ha2 : a ≤ n + 1) (hb1 : 0 ≤ b) (hb2 : b ≤ n) : ∀ (s t : List Int) (i : Nat), placesOk n s t = true → placesOk n (s.set i a) (t.set i b) = true
  | [], _, _, _ => by simp [placesOk]
  | _ :: _, [], i, _ => by cases i <;> simp [placesOk]
  | x :: s, y :: t, i, h => by
    simp only [placesOk, Bool.and_eq_true, decide_eq_true_eq] at h
    obtain ⟨⟨⟨⟨h1, h2⟩, h3⟩, h4⟩, h5⟩ := h
    cases i with
    | zero => simp [placesOk, *]
    | succ i => simp [placesOk, *]; exact placesOk_set ha1 ha2 hb1 hb2 s t i h5
theorem placesOk_set1 {n a : Int} (ha1 : 1 ≤ a) (ha2 : a ≤ n + 1) : ∀ (s t : List Int) (i : Nat), placesOk n s t = true → placesOk n (s.set i a) t = true
  | [], _, _, _ => by simp [placesOk]
  | _ :: _, [], i, _ => by cases i <;> simp [placesOk]
  | x :: s, y :: t, i, h => by
    simp only [placesOk, Bool.and_eq_true, decide_eq_true_eq] at h
    obtain ⟨⟨⟨⟨h1, h2⟩, h3⟩, h4⟩, h5⟩ := h
    cases i with
    | zero => simp [placesOk, *]
    | succ i => simp [placesOk, *]; exact placesOk_set1 ha1 ha2 s t i h5
theorem placesOk_replicate {n : Int} (hn : 0 ≤ n) : ∀ (k : Nat), placesOk n (List.replicate k (n + 1)) (List.replicate k 0) = true
  | 0 => by simp [placesOk]
  | k + 1 => by simp [List.replicate_succ, placesOk, placesOk_replicate hn k]; omega

theorem sureAt_bounds (x : Nod) : ∀ i : Nat, x.commit ≤ sureAt x i ∧ sureAt x i ≤ max x.commit i
  | 0 => by unfold sureAt; omega
  | i + 1 => by
    have := sureAt_bounds x i
    unfold sureAt
    split
    · split <;> omega
    · omega

theorem sure_good {x : Nod} (h : Good x) : Good (sure x) := by
  have hb := sureAt_bounds x x.log.length
  have := h.commit0; have := h.commitn
  exact { h with commit0 := by simp only [sure]; omega, commitn := by simp only [sure]; omega }

theorem grown_good {x : Nod} (c : Int) (h : Good x) (ht : x.term ≠ 0) : Good (grown x c) := by
  unfold grown
  split
  · rename_i hl
    have hr := (rising_iff _ _).1 h.rise
    have ht0 := h.term0
    have hc := h.commitn
    exact { h with commitn := by simp; omega, log60 := by simp; omega, empty := fun _ => ht, places := by simp; exact placesOk_mono (by omega) _ _ h.places,
                   rise := by
                    simp only
                    rw [rising_iff]
                    refine ⟨?_, ?_⟩
                    · rw [List.pairwise_append]
                      refine ⟨hr.1, by simp, fun a ha b hb => ?_⟩
                      have := hr.2 a ha
                      simp at hb; subst hb; simp only
                      omega
                    · intro y hy
                      rcases List.mem_append.1 hy with hy | hy
                      · exact hr.2 y hy
                      · simp at hy; subst hy; simp only; omega }
  · exact h

theorem noted_good {x : Nod} (h : Good x) : Good (noted x) := by
  unfold noted
  have : (0 : Int) ≤ x.log.length := by omega
  exact { h with nextl := by simpa using h.nextl, mtchl := by simpa using h.mtchl, places := placesOk_set (by omega) (Int.le_refl _) (by omega) (Int.le_refl _) _ _ _ h.places }

theorem put_good {x : Nod} (c : Int) (h : Good x) (ht : x.term ≠ 0) : Good (put x c) := sure_good (noted_good (grown_good c h ht))

theorem crowned_good {x : Nod} (h : Good x) (ht : x.term ≠ 0) : Good (crowned x) := by
  have h1 := h.id1; have h2 := h.idn; have h3 := h.n1
  unfold crowned
  exact { h with boss0 := by simp only; omega, bossn := h2, role1 := by simp, role3 := by simp, fresh := fun _ => ht, votes0 := by simp, votes := by simp [votesOk],
                 nextl := by simp; omega, mtchl := by simp; omega, places := by simp only; exact placesOk_replicate (by omega) _ }

theorem lead_good {x : Nod} (h : Good x) (ht : x.term ≠ 0) : Good (lead x) := by
  unfold lead
  split
  · exact put_good 0 (crowned_good h ht) ht
  · exact h

theorem rising_mono {l : List Itm} {a b : Int} (h : rising l a = true) (hab : a ≤ b) : rising l b = true := by
  rw [rising_iff] at h ⊢
  exact ⟨h.1, fun x hx => by have := h.2 x hx; omega⟩

theorem stood_good {x : Nod} (h : Good x) (hr : x.role ≠ 3) (ht : x.term ≠ 1000000) : Good (stood x) := by
  have h1 := h.id1; have h2 := h.idn; have h3 := h.term0; have h4 := h.termn
  have h5 := h.nextl; have h6 := h.mtchl
  rw [if_neg hr] at h5 h6
  unfold stood
  exact { h with vote0 := by simp only; omega, voten := h2, boss0 := by simp, bossn := by simp only; omega, term0 := by simp only; omega, termn := by simp only; omega, role1 := by simp, role3 := by simp,
                 fresh := fun _ => by simp only; omega, rise := rising_mono h.rise (by simp only; omega), empty := fun _ => by simp only; omega, votes0 := by simp, votes := by simp [votesOk, peerB]; omega,
                 nextl := by simp; simpa using h5, mtchl := by simp; simpa using h6 }

theorem follow_good {x : Nod} {t b : Int} (h : Good x) (ht : t ≤ 1000000) (hb0 : 0 ≤ b) (hbn : b ≤ x.n) : Good (follow x t b) := by
  have h3 := h.term0; have h4 := h.termn; have h5 := h.n1; have h6 := h.vote0; have h7 := h.voten
  have hm : x.term ≤ if x.term < t then t else x.term := by split <;> omega
  unfold follow
  exact { h with vote0 := by simp only; split <;> omega, voten := by simp only; split <;> omega, boss0 := hb0, bossn := hbn, term0 := by simp only; omega, termn := by simp only; split <;> omega, role1 := by simp, role3 := by simp,
                 fresh := by simp, rise := rising_mono h.rise hm, empty := fun hl => by have := h.empty hl; simp only; omega, votes0 := by simp, votes := by simp [votesOk], nextl := by simp, mtchl := by simp, places := by simp [placesOk] }

theorem restart_good {x : Nod} (h : Good x) : Good (restart x) := by
  unfold restart
  split
  · exact h
  · have hf := follow_good h h.termn (Int.le_refl 0) (by have := h.n1; omega)
    exact { hf with commit0 := by simp, commitn := by simp }

theorem insertB_ok {n k : Int} (hk1 : 1 ≤ k) (hkn : k ≤ n) : ∀ (l : List Int) (a : Int), a < k → votesOk n a l = true → votesOk n a (insertB k l) = true
  | [], a, ha, _ => by simp [insertB, votesOk, peerB]; omega
  | v :: t, a, ha, h => by
    simp only [votesOk, Bool.and_eq_true, decide_eq_true_eq] at h
    unfold insertB
    split
    · simp only [votesOk, Bool.and_eq_true, decide_eq_true_eq]
      exact ⟨h.1, insertB_ok hk1 hkn t v (by assumption) h.2⟩
    split
    · simp only [votesOk, Bool.and_eq_true, decide_eq_true_eq]
      exact h
    · simp only [votesOk, Bool.and_eq_true, decide_eq_true_eq]
      exact ⟨⟨by simp [peerB]; omega, ha⟩, ⟨h.1.1, by omega⟩, h.2⟩

/-- What of a message is so when it isn't left aside. -/
structure Fits (x : Nod) (m : Mes) : Prop where
  dst : m.dst = x.id
  src1 : 1 ≤ m.src
  srcn : m.src ≤ x.n
  srcne : m.src ≠ x.id
  kind1 : 1 ≤ m.kind
  kind4 : m.kind ≤ 4
  term1 : 1 ≤ m.term
  termn : m.term ≤ 1000000
  index0 : 0 ≤ m.index
  commit0 : 0 ≤ m.commit
  logt0 : 0 ≤ m.logTerm
  logtn : m.logTerm ≤ m.term
  index60 : m.index ≤ 60
  items60 : m.index + m.items.length ≤ 60
  rise : rising m.items m.term = true
  first : ∀ (h : 0 < m.items.length), m.logTerm ≤ (m.items[0]).term

theorem fits_of_lost {x : Nod} {m : Mes} (h : lost x m = false) : Fits x m := by
  unfold lost at h
  split at h
  · cases h
  split at h
  · cases h
  rename_i h1 h2
  simp only [Bool.or_eq_false_iff, decide_eq_false_iff_not, Bool.not_eq_false', Bool.and_eq_false_iff] at h
  obtain ⟨⟨⟨h3, h4⟩, h5⟩, h6⟩ := h
  refine { dst := by omega, src1 := by omega, srcn := by omega, srcne := by omega, kind1 := by omega, kind4 := by omega, term1 := by omega, termn := by omega, index0 := by omega, commit0 := by omega, logt0 := by omega, logtn := by omega,
           index60 := by omega, items60 := by omega, rise := h5, first := fun hl => ?_ }
  rcases h6 with h6 | h6
  · omega
  · unfold termAt at h6
    simp [List.getElem?_eq_getElem hl] at h6
    exact h6

theorem taken_spec : ∀ (items : List Itm) (k : Nat) (l : List Itm) (c : Int), k ≤ l.length →
    (taken k items l c).1.take k = l.take k ∧ k + items.length ≤ (taken k items l c).1.length ∧ (taken k items l c).1.length ≤ max l.length (k + items.length) ∧
      (∀ i (hi : i < items.length), ((taken k items l c).1[k + i]?).map Itm.term = some items[i].term) ∧ (c ≤ l.length → (taken k items l c).2 ≤ (taken k items l c).1.length) ∧ (0 ≤ c → 0 ≤ (taken k items l c).2) ∧ (taken k items l c).2 ≤ c
  | [], k, l, c, hk => by simp [taken]; omega
  | x :: t, k, l, c, hk => by
    rcases Nat.lt_or_ge k l.length with hlt | hge
    · have hg : l[k]? = some l[k] := List.getElem?_eq_getElem hlt
      by_cases he : (l[k]).term ≠ x.term
      · have e : taken k (x :: t) l c = taken (k + 1) t (l.take k ++ [x]) (min c k) := by rw [taken, hg]; simp only; rw [if_pos he]
        have hlen : (l.take k ++ [x]).length = k + 1 := by simp; omega
        obtain ⟨a1, a2, a3, a4, a5, a6, a7⟩ := taken_spec t (k + 1) (l.take k ++ [x]) (min c k) (by omega)
        rw [e]
        have ht1 : (taken (k + 1) t (l.take k ++ [x]) (min c k)).1.take k = l.take k := by
          have := congrArg (List.take k) a1
          rw [List.take_take, List.take_take, show min k (k + 1) = k by omega] at this
          rw [this, List.take_append_of_le_length (by simp; omega), List.take_take, Nat.min_self]
        refine ⟨ht1, by simp only [List.length_cons]; omega, by simp only [List.length_cons]; omega, ?_, fun _ => a5 (by omega), fun h => a6 (by omega), by omega⟩
        intro i hi
        cases i with
        | zero =>
          have h1 : (taken (k + 1) t (l.take k ++ [x]) (min c k)).1[k]? = ((taken (k + 1) t (l.take k ++ [x]) (min c k)).1.take (k + 1))[k]? := by rw [List.getElem?_take]; simp
          refine (congrArg (Option.map Itm.term) h1).trans ?_
          rw [a1, List.getElem?_take]
          simp [Nat.min_eq_left (Nat.le_of_lt hlt)]
        | succ i =>
          have := a4 i (by simpa using hi)
          rw [show k + (i + 1) = k + 1 + i by omega]
          simpa using this
      · have e : taken k (x :: t) l c = taken (k + 1) t l c := by rw [taken, hg]; simp only; rw [if_neg he]
        obtain ⟨a1, a2, a3, a4, a5, a6, a7⟩ := taken_spec t (k + 1) l c (by omega)
        rw [e]
        have ht1 : (taken (k + 1) t l c).1.take k = l.take k := by
          have := congrArg (List.take k) a1
          rwa [List.take_take, List.take_take, show min k (k + 1) = k by omega] at this
        refine ⟨ht1, by simp only [List.length_cons]; omega, by simp only [List.length_cons]; omega, ?_, a5, a6, a7⟩
        intro i hi
        cases i with
        | zero =>
          have h1 : (taken (k + 1) t l c).1[k]? = ((taken (k + 1) t l c).1.take (k + 1))[k]? := by rw [List.getElem?_take]; simp
          refine (congrArg (Option.map Itm.term) h1).trans ?_
          rw [a1, List.getElem?_take]
          simp [hg]
          simpa using he
        | succ i =>
          have := a4 i (by simpa using hi)
          rw [show k + (i + 1) = k + 1 + i by omega]
          simpa using this
    · have hkl : k = l.length := by omega
      have e : taken k (x :: t) l c = taken (k + 1) t (l ++ [x]) c := by rw [taken, List.getElem?_eq_none hge]
      obtain ⟨a1, a2, a3, a4, a5, a6, a7⟩ := taken_spec t (k + 1) (l ++ [x]) c (by simp; omega)
      rw [e]
      simp only [List.length_append, List.length_cons, List.length_nil] at a3 a5
      have ht1 : (taken (k + 1) t (l ++ [x]) c).1.take k = l.take k := by
        have := congrArg (List.take k) a1
        rw [List.take_take, List.take_take, show min k (k + 1) = k by omega] at this
        rw [this, List.take_append_of_le_length (by omega)]
      refine ⟨ht1, by simp only [List.length_cons]; omega, by simp only [List.length_cons]; omega, ?_, fun h => a5 (by omega), a6, a7⟩
      intro i hi
      cases i with
      | zero =>
        have h1 : (taken (k + 1) t (l ++ [x]) c).1[k]? = ((taken (k + 1) t (l ++ [x]) c).1.take (k + 1))[k]? := by rw [List.getElem?_take]; simp
        refine (congrArg (Option.map Itm.term) h1).trans ?_
        rw [a1, List.getElem?_take]
        simp [hkl]
      | succ i =>
        have := a4 i (by simpa using hi)
        rw [show k + (i + 1) = k + 1 + i by omega]
        simpa using this


theorem taken_rise (T : Int) : ∀ (items : List Itm) (k : Nat) (l : List Itm) (c : Int), k ≤ l.length → l.Pairwise (fun x y => x.term ≤ y.term) → items.Pairwise (fun x y => x.term ≤ y.term) →
    (∀ x ∈ l, 1 ≤ x.term ∧ x.term ≤ T) → (∀ x ∈ items, 1 ≤ x.term ∧ x.term ≤ T) → (∀ a ∈ l.take k, ∀ b ∈ items, a.term ≤ b.term) →
    (taken k items l c).1.Pairwise (fun x y => x.term ≤ y.term) ∧ ∀ x ∈ (taken k items l c).1, 1 ≤ x.term ∧ x.term ≤ T
  | [], k, l, c, _, hp, _, hl, _, _ => ⟨hp, hl⟩
  | x :: t, k, l, c, hk, hp, hi, hl, ht, hc => by
    rw [List.pairwise_cons] at hi
    have hx := ht x (List.mem_cons_self ..)
    have ht' : ∀ y ∈ t, 1 ≤ y.term ∧ y.term ≤ T := fun y hy => ht y (List.mem_cons_of_mem _ hy)
    have hcx : ∀ a ∈ l.take k, a.term ≤ x.term := fun a ha => hc a ha x (List.mem_cons_self ..)
    rcases Nat.lt_or_ge k l.length with hlt | hge
    · have hg : l[k]? = some l[k] := List.getElem?_eq_getElem hlt
      by_cases he : (l[k]).term ≠ x.term
      · have e : taken k (x :: t) l c = taken (k + 1) t (l.take k ++ [x]) (min c k) := by rw [taken, hg]; simp only; rw [if_pos he]
        rw [e]
        refine taken_rise T t (k + 1) _ _ (by simp; omega) ?_ hi.2 ?_ ht' ?_
        · rw [List.pairwise_append]
          exact ⟨hp.sublist (List.take_sublist _ _), by simp, fun a ha b hb => by simp at hb; subst hb; exact hcx a ha⟩
        · intro y hy
          rcases List.mem_append.1 hy with hy | hy
          · exact hl y (List.mem_of_mem_take hy)
          · simp at hy; subst hy; exact hx
        · intro a ha b hb
          rcases List.mem_append.1 (List.mem_of_mem_take ha) with hy | hy
          · have := hcx a hy; have := hi.1 b hb; omega
          · simp at hy; subst hy; exact hi.1 b hb
      · have e : taken k (x :: t) l c = taken (k + 1) t l c := by rw [taken, hg]; simp only; rw [if_neg he]
        rw [e]
        refine taken_rise T t (k + 1) _ _ hlt hp hi.2 hl ht' ?_
        intro a ha b hb
        rw [List.take_succ_eq_append_getElem hlt] at ha
        rcases List.mem_append.1 ha with hy | hy
        · have := hcx a hy; have := hi.1 b hb; omega
        · simp at hy; subst hy; have := hi.1 b hb; omega
    · have e : taken k (x :: t) l c = taken (k + 1) t (l ++ [x]) c := by rw [taken, List.getElem?_eq_none hge]
      rw [e]
      have hkl : l.take k = l := List.take_of_length_le hge
      rw [hkl] at hcx
      refine taken_rise T t (k + 1) _ _ (by simp; omega) ?_ hi.2 ?_ ht' ?_
      · rw [List.pairwise_append]
        exact ⟨hp, by simp, fun a ha b hb => by simp at hb; subst hb; exact hcx a ha⟩
      · intro y hy
        rcases List.mem_append.1 hy with hy | hy
        · exact hl y hy
        · simp at hy; subst hy; exact hx
      · intro a ha b hb
        rcases List.mem_append.1 (List.mem_of_mem_take ha) with hy | hy
        · have := hcx a hy; have := hi.1 b hb; omega
        · simp at hy; subst hy; exact hi.1 b hb

theorem termAt_nat (l : List Itm) {i : Nat} (h1 : 0 < i) (h2 : i ≤ l.length) : termAt l i = (l[i - 1]'(by omega)).term := by
  unfold termAt
  rw [if_neg (by omega), show ((i : Int) - 1).toNat = i - 1 by omega, List.getElem?_eq_getElem (by omega)]
  rfl

theorem taken_log {x : Nod} {m : Mes} (hx : Good x) (hf : Fits x m) (hxm : x.term ≤ m.term) (hi : m.index ≤ x.log.length) (ht : m.index ≤ 0 ∨ termAt x.log m.index = m.logTerm) :
    rising (taken m.index.toNat m.items x.log x.commit).1 m.term = true := by
  have hr := (rising_iff _ _).1 hx.rise
  have hri := (rising_iff _ _).1 hf.rise
  have := hf.index0
  have hm1 := hf.term1
  rw [rising_iff]
  have hmx : max 1 m.term = m.term := by omega
  rw [hmx] at hri ⊢
  refine taken_rise m.term _ _ _ _ (by omega) hr.1 hri.1 (fun y hy => by have := hr.2 y hy; omega) hri.2 ?_
  intro a ha b hb
  have hpos : 0 < m.items.length := List.length_pos_of_mem hb
  have hfirst := hf.first hpos
  have hb0 : (m.items[0]).term ≤ b.term := by
    obtain ⟨j, hj, rfl⟩ := List.mem_iff_getElem.1 hb
    rcases Nat.eq_zero_or_pos j with h0 | h0
    · subst h0; exact Int.le_refl _
    · exact List.pairwise_iff_getElem.1 hri.1 0 j hpos hj h0
  obtain ⟨k, hk⟩ : ∃ k : Nat, m.index = k := ⟨m.index.toNat, by omega⟩
  rw [hk] at ht ha hi
  rw [Int.toNat_natCast] at ha
  rcases Nat.eq_zero_or_pos k with h0 | h0
  · subst h0; simp at ha
  · have hlt : k - 1 < x.log.length := by omega
    have e := termAt_nat x.log h0 (by omega)
    have hal : a.term ≤ (x.log[k - 1]).term := by
      have hs : x.log.take k = x.log.take (k - 1) ++ [x.log[k - 1]] := by
        rw [← List.take_succ_eq_append_getElem hlt, show k - 1 + 1 = k by omega]
      have hp := hr.1.sublist (List.take_sublist k x.log)
      rw [hs, List.pairwise_append] at hp
      rw [hs] at ha
      rcases List.mem_append.1 ha with h1 | h1
      · exact hp.2.2 a h1 _ (by simp)
      · simp at h1; rw [h1]; exact Int.le_refl _
    omega

theorem appended_good {x : Nod} {m : Mes} (hx : Good x) (hf : Fits x m) : Good (appended x m).1 := by
  unfold appended
  split
  · exact hx
  rename_i hc
  have hsrc := hf.src1
  have hy := follow_good (t := m.term) (b := m.src) hx hf.termn (by omega) hf.srcn
  have hterm : (follow x m.term m.src).term = m.term := by unfold follow; simp only; split <;> omega
  simp only
  split
  · exact hy
  rename_i hc2
  generalize hyy : follow x m.term m.src = y at *
  have hfy : Fits y m := by
    subst hyy
    exact { hf with }
  have hix := hf.index0
  obtain ⟨a1, a2, a3, a4, a5, a6, a7⟩ := taken_spec m.items m.index.toNat y.log y.commit (by omega)
  have hr := taken_log hy hfy (by omega) (by omega) (by omega)
  have := hf.items60; have := hy.log60; have := hy.commitn; have := hy.commit0; have := hf.term1; have := hf.commit0
  have hrole : y.role = 1 := by subst hyy; rfl
  have hnext : y.next = [] := by subst hyy; rfl
  exact { hy with commit0 := by simp only; omega, commitn := by simp only; omega, log60 := by simp only; omega, rise := by simp only; rw [hterm]; exact hr, empty := fun _ => by simp only; omega, places := by simp only; rw [hnext]; simp [placesOk] }

theorem sends_fields (x : Nod) (k : Int) : (sends x k).src = x.id ∧ (sends x k).dst = k ∧ (sends x k).term = x.term ∧ (sends x k).items.length ≤ 3 := by
  refine ⟨rfl, rfl, rfl, ?_⟩
  unfold sends
  simp only [List.length_take]
  omega

theorem told_good {x : Nod} {m : Mes} (hx : Good x) (hf : Fits x m) : Good (told x m).1 := by
  unfold told
  split
  · exact hx
  rename_i hc
  have hr : x.role = 3 := by omega
  have hfit := placesOk_at x.next x.mtch hx.places (by have := hx.nextl; have := hx.mtchl; omega)
  have hnl := hx.nextl; have hml := hx.mtchl
  rw [if_pos hr] at hnl hml
  have h1 := hf.src1; have h2 := hf.srcn; have h3 := hf.index0
  have hj : (m.src - 1).toNat < x.next.length := by omega
  have hj' : (m.src - 1).toNat < x.mtch.length := by omega
  have hat := hfit (m.src - 1).toNat hj hj'
  have e1 : at_ x.next m.src = x.next[(m.src - 1).toNat] := by unfold at_; rw [List.getElem?_eq_getElem hj]; rfl
  have e2 : at_ x.mtch m.src = x.mtch[(m.src - 1).toNat] := by unfold at_; rw [List.getElem?_eq_getElem hj']; rfl
  split
  · refine sure_good ?_
    rw [e2]
    exact { hx with nextl := by simpa using hx.nextl, mtchl := by simpa using hx.mtchl, places := placesOk_set (by omega) (by simp only; omega) (by omega) (by simp only; omega) _ _ _ hx.places }
  · unfold backs
    exact { hx with nextl := by simpa using hx.nextl, places := by simp only; rw [e1]; exact placesOk_set1 (by omega) (by omega) _ _ _ hx.places }

theorem asked_good {x : Nod} {m : Mes} (hx : Good x) (hf : Fits x m) : Good (asked x m).1 := by
  have h1 := hf.src1; have h2 := hf.srcn; have := hx.vote0; have := hx.voten
  unfold asked
  exact { hx with vote0 := by simp only; split <;> omega, voten := by simp only; split <;> omega }

theorem voted_good {x : Nod} {m : Mes} (hx : Good x) (hf : Fits x m) : Good (voted x m).1 := by
  unfold voted
  split
  · exact hx
  rename_i hc
  have hr : x.role = 2 := by omega
  have h1 := hf.src1
  refine lead_good ?_ (hx.fresh (by omega))
  exact { hx with votes0 := fun _ => hr, votes := insertB_ok hf.src1 hf.srcn _ _ (by omega) hx.votes }

theorem received_good {x : Nod} {m : Mes} (hx : Good x) : Good (receive x m).1 := by
  unfold receive
  split
  · exact hx
  rename_i hc
  have hl : lost x m = false := by
    cases h : lost x m
    · rfl
    · exact absurd (.inr h) hc
  have hf := fits_of_lost hl
  have hy : Good (if x.term < m.term then follow x m.term 0 else x) ∧ Fits (if x.term < m.term then follow x m.term 0 else x) m := by
    split
    · exact ⟨follow_good hx hf.termn (by omega) (by have := hx.n1; omega), { hf with }⟩
    · exact ⟨hx, hf⟩
  generalize (if x.term < m.term then follow x m.term 0 else x) = y at hy
  simp only
  split
  · exact asked_good hy.1 hy.2
  split
  · exact voted_good hy.1 hy.2
  split
  · exact appended_good hy.1 hy.2
  · exact told_good hy.1 hy.2

theorem timeout_good {x : Nod} (hx : Good x) : Good (timeout x).1 := by
  unfold timeout
  split
  · exact hx
  · have := hx.term0
    exact lead_good (stood_good hx (by omega) (by omega)) (by show x.term + 1 ≠ 0; omega)
theorem beat_good {x : Nod} (hx : Good x) : Good (beat x).1 := by unfold beat; split <;> exact hx
theorem propose_good {x : Nod} (c : Int) (hx : Good x) : Good (propose x c).1 := by
  unfold propose
  split
  · exact hx
  · rename_i hc
    exact put_good c hx (hx.fresh (by omega))

/-- Of the same name, and among as many. -/
def Same (x y : Nod) : Prop := y.id = x.id ∧ y.n = x.n

theorem timeout_same (x : Nod) : Same x (timeout x).1 := by
  unfold timeout
  split
  · exact ⟨rfl, rfl⟩
  · exact ⟨(lead_fields _).1, (lead_fields _).2.1⟩
theorem beat_same (x : Nod) : Same x (beat x).1 := by unfold beat; split <;> exact ⟨rfl, rfl⟩
theorem propose_same (x : Nod) (c : Int) : Same x (propose x c).1 := by
  unfold propose
  split
  · exact ⟨rfl, rfl⟩
  · exact ⟨(put_fields _ _).1, (put_fields _ _).2.1⟩
theorem restart_same (x : Nod) : Same x (restart x) := by unfold restart; split <;> exact ⟨rfl, rfl⟩
theorem receive_same (x : Nod) (m : Mes) : Same x (receive x m).1 := by
  unfold receive
  split
  · exact ⟨rfl, rfl⟩
  have hy : Same x (if x.term < m.term then follow x m.term 0 else x) := by split <;> exact ⟨rfl, rfl⟩
  generalize (if x.term < m.term then follow x m.term 0 else x) = y at hy
  obtain ⟨h1, h2⟩ := hy
  simp only
  split
  · exact ⟨h1, h2⟩
  split
  · unfold voted
    split
    · exact ⟨h1, h2⟩
    · exact ⟨(lead_fields _).1.trans h1, (lead_fields _).2.1.trans h2⟩
  split
  · unfold appended
    split
    · exact ⟨h1, h2⟩
    · simp only
      split <;> exact ⟨h1, h2⟩
  · unfold told
    split
    · exact ⟨h1, h2⟩
    split <;> exact ⟨h1, h2⟩


/- ## A leader adds, and takes nothing away -/

def Adds (x y : Nod) : Prop := y.role = 3 → y.term = x.term → x.log.length ≤ y.log.length ∧ y.log.take x.log.length = x.log ∧ x.commit ≤ y.commit

theorem Adds.refl (x : Nod) : Adds x x := fun _ _ => ⟨Nat.le_refl _, List.take_length, Int.le_refl _⟩

theorem put_adds (x : Nod) (c : Int) : x.log.length ≤ (put x c).log.length ∧ (put x c).log.take x.log.length = x.log ∧ x.commit ≤ (put x c).commit := by
  have hb := (sureAt_bounds (noted (grown x c)) (noted (grown x c)).log.length).1
  have hl : (put x c).log = (grown x c).log := rfl
  have hc : (noted (grown x c)).commit = x.commit := by unfold noted grown; split <;> rfl
  rw [hl]
  refine ⟨?_, ?_, by rw [hc] at hb; exact hb⟩
  · unfold grown; split <;> simp
  · unfold grown
    split
    · simp
    · exact List.take_length

theorem timeout_adds {x : Nod} (hr : x.role = 3) : Adds x (timeout x).1 := by
  unfold timeout
  rw [if_pos (.inr (.inl hr))]
  exact .refl x
theorem beat_adds (x : Nod) : Adds x (beat x).1 := by unfold beat; split <;> exact .refl x
theorem propose_adds (x : Nod) (c : Int) : Adds x (propose x c).1 := by
  unfold propose
  split
  · exact .refl x
  · exact fun _ _ => put_adds x c
theorem restart_adds (x : Nod) : Adds x (restart x) := by
  unfold restart
  split
  · exact .refl x
  · intro h; simp [follow] at h
theorem receive_adds {x : Nod} {m : Mes} (hr : x.role = 3) : Adds x (receive x m).1 := by
  unfold receive
  split
  · exact .refl x
  rcases Int.lt_or_le x.term m.term with hlt | hle
  · rw [if_pos hlt]
    have hf : (follow x m.term 0).role = 1 := rfl
    generalize follow x m.term 0 = y at hf
    simp only
    split
    · intro h; simp [asked, hf] at h
    split
    · unfold voted
      rw [if_pos (.inl (by omega))]
      intro h; simp only at h; omega
    split
    · unfold appended
      split
      · intro h; simp only at h; omega
      · simp only
        split <;> (intro h; simp [follow] at h)
    · unfold told
      rw [if_pos (.inl (by omega))]
      intro h; simp only at h; omega
  · rw [if_neg (show ¬ x.term < m.term by omega)]
    simp only
    split
    · exact fun _ _ => ⟨Nat.le_refl _, List.take_length, Int.le_refl _⟩
    split
    · unfold voted
      rw [if_pos (.inl (by omega))]
      exact .refl x
    split
    · unfold appended
      rw [if_pos (.inr hr)]
      exact .refl x
    · unfold told
      split
      · exact .refl x
      split
      · exact fun _ _ => ⟨Nat.le_refl _, List.take_length, (sureAt_bounds _ _).1⟩
      · exact fun _ _ => ⟨Nat.le_refl _, List.take_length, Int.le_refl _⟩

/- ## Each speaks for itself -/

def Speaks (x y : Nod) (ms : List Mes) : Prop := ∀ m ∈ ms, m.src = x.id ∧ m.dst ≠ x.id ∧ 1 ≤ m.dst ∧ m.dst ≤ x.n ∧ m.items.length ≤ 3 ∧ m.term = y.term

theorem mem_others {x : Nod} {k : Int} (h : k ∈ others x) : 1 ≤ k ∧ k ≤ x.n ∧ k ≠ x.id := by
  unfold others at h
  rw [List.mem_filter] at h
  obtain ⟨h1, h2⟩ := h
  rw [List.mem_map] at h1
  obtain ⟨j, hj, rfl⟩ := h1
  rw [List.mem_range] at hj
  simp at h2
  exact ⟨by omega, by omega, h2⟩

theorem noSpeech (x y : Nod) : Speaks x y [] := fun m hm => by simp at hm

theorem sends_speaks {x y z : Nod} (hid : y.id = x.id) (hn : y.n = x.n) (ht : z.term = y.term) : Speaks x z ((others y).map (sends y)) := by
  intro m hm
  rw [List.mem_map] at hm
  obtain ⟨k, hk, rfl⟩ := hm
  obtain ⟨h1, h2, h3⟩ := mem_others hk
  obtain ⟨s1, s2, s3, s4⟩ := sends_fields y k
  exact ⟨s1.trans hid, by rw [s2, ← hid]; exact h3, by rw [s2]; exact h1, by rw [s2, ← hn]; exact h2, s4, by rw [s3, ht]⟩

theorem put_speaks (x : Nod) (c : Int) : Speaks x (put x c) (putSays x c) := by
  obtain ⟨h1, h2, _⟩ := put_fields x c
  exact sends_speaks h1 h2 rfl

theorem lead_speaks (x : Nod) : Speaks x (lead x) (leadSays x) := by
  unfold lead leadSays
  split
  · exact put_speaks (crowned x) 0
  · exact noSpeech _ _

theorem timeout_speaks (x : Nod) : Speaks x (timeout x).1 (timeout x).2 := by
  unfold timeout
  split
  · exact noSpeech _ _
  · intro m hm
    rcases List.mem_append.1 hm with hm | hm
    · rw [List.mem_map] at hm
      obtain ⟨k, hk, rfl⟩ := hm
      obtain ⟨h1, h2, h3⟩ := mem_others hk
      exact ⟨rfl, h3, h1, h2, by simp [asks], ((lead_fields (stood x)).2.2.1).symm⟩
    · exact lead_speaks (stood x) m hm
theorem beat_speaks (x : Nod) : Speaks x (beat x).1 (beat x).2 := by
  unfold beat
  split
  · exact noSpeech _ _
  · exact sends_speaks rfl rfl rfl
theorem propose_speaks (x : Nod) (c : Int) : Speaks x (propose x c).1 (propose x c).2.1 := by
  unfold propose
  split
  · exact noSpeech _ _
  · exact put_speaks x c
theorem receive_speaks (x : Nod) (m : Mes) : Speaks x (receive x m).1 (receive x m).2 := by
  unfold receive
  split
  · exact noSpeech _ _
  rename_i hc
  have hl : lost x m = false := by
    cases h : lost x m
    · rfl
    · exact absurd (.inr h) hc
  have hf := fits_of_lost hl
  have hy : Same x (if x.term < m.term then follow x m.term 0 else x) := by split <;> exact ⟨rfl, rfl⟩
  generalize (if x.term < m.term then follow x m.term 0 else x) = y at hy
  obtain ⟨h1, h2⟩ := hy
  have g1 := hf.src1; have g2 := hf.srcn; have g3 := hf.srcne
  simp only
  split
  · intro s hs
    simp [asked] at hs
    subst hs
    exact ⟨h1, g3, g1, g2, by simp, rfl⟩
  split
  · unfold voted
    split
    · exact noSpeech _ _
    · intro s hs
      obtain ⟨a1, a2, a3, a4, a5, a6⟩ := lead_speaks _ s hs
      exact ⟨a1.trans h1, fun e => a2 (e.trans h1.symm), a3, by rw [← h2]; exact a4, a5, a6⟩
  split
  · unfold appended
    split
    · intro s hs
      simp at hs; subst hs
      exact ⟨h1, g3, g1, g2, by simp [says], rfl⟩
    · simp only
      split
      · intro s hs
        simp at hs; subst hs
        exact ⟨h1, g3, g1, g2, by simp [says], rfl⟩
      · intro s hs
        simp at hs; subst hs
        exact ⟨h1, g3, g1, g2, by simp [says], rfl⟩
  · unfold told
    split
    · exact noSpeech _ _
    split
    · intro s hs
      simp only at hs
      split at hs
      · simp at hs; subst hs
        obtain ⟨s1, s2, s3, s4⟩ := sends_fields (hears y m) m.src
        exact ⟨s1.trans h1, by rw [s2]; exact g3, by rw [s2]; exact g1, by rw [s2]; exact g2, s4, s3⟩
      · simp at hs
    · intro s hs
      simp only at hs
      simp at hs; subst hs
      obtain ⟨s1, s2, s3, s4⟩ := sends_fields (backs y m) m.src
      exact ⟨s1.trans h1, by rw [s2]; exact g3, by rw [s2]; exact g1, by rw [s2]; exact g2, s4, s3⟩

/- ## Who agrees has what was sent -/

theorem receive_whole {x : Nod} {m s : Mes} (hk : m.kind = 3) (hs : (receive x m).2 = [s]) (hy : s.yes = true) :
    0 ≤ m.index ∧ s.index = m.index + m.items.length ∧ s.index ≤ (receive x m).1.log.length ∧ m.index ≤ x.log.length ∧
      (∀ i (hi : i < m.items.length), ((receive x m).1.log[m.index.toNat + i]?).map Itm.term = some m.items[i].term) ∧
      (receive x m).1.log.take m.index.toNat = x.log.take m.index.toNat ∧ (m.index = 0 ∨ ((receive x m).1.log[m.index.toNat - 1]?).map Itm.term = some m.logTerm) := by
  unfold receive at hs ⊢
  split at hs
  · simp at hs
  rename_i hc
  rw [if_neg hc]
  have hl : lost x m = false := by
    cases h : lost x m
    · rfl
    · exact absurd (.inr h) hc
  have hf := fits_of_lost hl
  have hylog : (if x.term < m.term then follow x m.term 0 else x).log = x.log := by split <;> rfl
  generalize (if x.term < m.term then follow x m.term 0 else x) = y at hs hylog
  simp only at hs ⊢
  have n1 : ¬ m.kind = 1 := by omega
  have n2 : ¬ m.kind = 2 := by omega
  have hs : (appended y m).2 = [s] := by simpa [n1, n2, hk] using hs
  rw [if_neg n1, if_neg n2, if_pos hk]
  unfold appended at hs ⊢
  split at hs
  · simp at hs; subst hs; simp [says] at hy
  rename_i hc1
  rw [if_neg hc1]
  have hzlog : (follow y m.term m.src).log = x.log := hylog
  generalize follow y m.term m.src = z at hs hzlog
  simp only at hs ⊢
  split at hs
  · simp at hs; subst hs; simp [says] at hy
  rename_i hc2
  rw [if_neg hc2]
  simp at hs; subst hs
  rw [hzlog] at hc2
  have hi := hf.index0
  obtain ⟨a1, a2, a3, a4, a5, a6, a7⟩ := taken_spec m.items m.index.toNat z.log z.commit (by rw [hzlog]; omega)
  refine ⟨hi, rfl, by simp only [says]; omega, by omega, a4, by simp only; rw [a1, hzlog], ?_⟩
  rcases Int.lt_or_le 0 m.index with h0 | h0
  · right
    simp only
    have hlt : m.index.toNat - 1 < x.log.length := by omega
    have e1 : (taken m.index.toNat m.items z.log z.commit).1[m.index.toNat - 1]? = ((taken m.index.toNat m.items z.log z.commit).1.take m.index.toNat)[m.index.toNat - 1]? := by
      rw [List.getElem?_take_of_lt (by omega)]
    rw [e1, a1, hzlog, List.getElem?_take_of_lt (by omega), List.getElem?_eq_getElem hlt]
    have h3 := termAt_nat x.log (i := m.index.toNat) (by omega) (by omega)
    rw [Int.toNat_of_nonneg hi] at h3
    simp only [Option.map_some]
    rw [← h3]
    congr 1
    omega
  · left; omega

end Go.Proofs.Ytibjbpakbfodaaa
