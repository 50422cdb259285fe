/- The plain model of the cluster (chapter 16), and what every step keeps: sound nodes, each with its number, and no more messages than may be; terms and votes. No program is in sight. -/
import Derived.Test.YtibjbpakbfodaaaPlain
namespace Go.Proofs.Ytibjbpakbfodaaa

structure Wld where
  nodes : List Nod
  net : List Mes

structure Evt where
  kind : Int
  node : Int
  pick : Int

/-- So many nodes that know nothing. -/
def firstWld (n : Int) : Wld := ⟨(List.range n.toNat).map fun (i : Nat) => start ((i : Int) + 1) n, []⟩

/-- The number of a node in the list. -/
def spotOf (w : Wld) (id : Int) : Option Nat := if id < 1 ∨ (w.nodes.length : Int) < id then none else some (id - 1).toNat

/-- No more messages than may be: the oldest are lost. -/
def trim (l : List Mes) : List Mes := l.drop (l.length - 60)

/-- What an event of a node makes of it, and what it says. -/
def acted (x : Nod) (e : Evt) : Nod × List Mes :=
  if e.kind = 1 then timeout x else if e.kind = 2 then beat x else if e.kind = 3 then ((propose x e.pick).1, (propose x e.pick).2.1) else (restart x, [])

def cstep (w : Wld) (e : Evt) : Wld :=
  if e.kind = 1 ∨ e.kind = 2 ∨ e.kind = 3 ∨ e.kind = 7 then
    match spotOf w e.node with
    | none => w
    | some i =>
      match w.nodes[i]? with
      | none => w
      | some x => ⟨w.nodes.set i (acted x e).1, trim (w.net ++ (acted x e).2)⟩
  else if e.kind = 4 ∨ e.kind = 5 ∨ e.kind = 6 then
    if e.pick < 0 ∨ (w.net.length : Int) ≤ e.pick then w
    else
      match w.net[e.pick.toNat]? with
      | none => w
      | some m =>
        let net := if e.kind = 5 then w.net else w.net.eraseIdx e.pick.toNat
        match (if e.kind = 6 then none else spotOf w m.dst) with
        | none => ⟨w.nodes, trim net⟩
        | some k =>
          match w.nodes[k]? with
          | none => ⟨w.nodes, trim net⟩
          | some x => ⟨w.nodes.set k (receive x m).1, trim (net ++ (receive x m).2)⟩
  else ⟨w.nodes, trim w.net⟩

/-- All worlds from the first on. -/
def worlds : Wld → List Evt → List Wld
  | w, [] => [w]
  | w, e :: l => w :: worlds (cstep w e) l

/-- Nothing is wrong with a world of n nodes. -/
structure Sound (n : Int) (w : Wld) : Prop where
  len : (w.nodes.length : Int) = n
  good : ∀ i (h : i < w.nodes.length), Good w.nodes[i]
  id : ∀ i (h : i < w.nodes.length), (w.nodes[i]).id = (i : Int) + 1
  n : ∀ i (h : i < w.nodes.length), (w.nodes[i]).n = n
  net : w.net.length ≤ 60

theorem trim_len (l : List Mes) : (trim l).length ≤ 60 := by unfold trim; rw [List.length_drop]; omega

theorem acted_good {x : Nod} (e : Evt) (h : Good x) : Good (acted x e).1 := by
  unfold acted
  split
  · exact timeout_good h
  split
  · exact beat_good h
  split
  · exact propose_good _ h
  · exact restart_good h
theorem acted_same (x : Nod) (e : Evt) : Same x (acted x e).1 := by
  unfold acted
  split
  · exact timeout_same x
  split
  · exact beat_same x
  split
  · exact propose_same x _
  · exact restart_same x
theorem acted_votes (x : Nod) (e : Evt) : Votes x (acted x e).1 := by
  unfold acted
  split
  · exact timeout_votes x
  split
  · exact beat_votes x
  split
  · exact propose_votes x _
  · exact restart_votes x

theorem start_good {id n : Int} (h1 : 1 ≤ id) (h2 : id ≤ n) (h5 : n ≤ 5) : Good (start id n) := by
  unfold start
  exact { n1 := by simp only; omega, n5 := h5, id1 := h1, idn := h2, vote0 := by simp, voten := by simp only; omega, boss0 := by simp, bossn := by simp only; omega, term0 := by simp, termn := by simp, commit0 := by simp, commitn := by simp, role1 := by simp, role3 := by simp,
          fresh := by simp, log60 := by simp, rise := by simp [rising, riseTo]; omega, empty := by simp, votes0 := by simp, votes := by simp [votesOk], nextl := by simp, mtchl := by simp, places := by simp [placesOk] }

theorem firstWld_sound {n : Int} (h1 : 1 ≤ n) (h5 : n ≤ 5) : Sound n (firstWld n) := by
  refine ⟨by simp [firstWld]; omega, fun i h => ?_, fun i h => ?_, fun i h => ?_, by simp [firstWld]⟩
  · simp only [firstWld, List.length_map, List.length_range] at h
    simp only [firstWld, List.getElem_map, List.getElem_range]
    exact start_good (by omega) (by omega) h5
  · simp [firstWld, start]
  · simp [firstWld, start]

/-- One node has turned, its name has not. -/
theorem Sound.set {n : Int} {w : Wld} (h : Sound n w) {i : Nat} {x y : Nod} (hx : w.nodes[i]? = some x) (hg : Good y) (hs : Same x y) {net : List Mes} (hn : net.length ≤ 60) : Sound n ⟨w.nodes.set i y, net⟩ := by
  obtain ⟨hi, rfl⟩ := List.getElem?_eq_some_iff.1 hx
  refine ⟨by simpa using h.len, fun j hj => ?_, fun j hj => ?_, fun j hj => ?_, hn⟩
  all_goals
    have hj' : j < w.nodes.length := by simpa using hj
    simp only [List.getElem_set]
    split
  · exact hg
  · exact h.good j hj'
  · rename_i e; subst e; rw [hs.1]; exact h.id i hi
  · exact h.id j hj'
  · rename_i e; subst e; rw [hs.2]; exact h.n i hi
  · exact h.n j hj'

theorem cstep_sound {n : Int} {w : Wld} (h : Sound n w) (e : Evt) : Sound n (cstep w e) := by
  unfold cstep
  split
  · split
    · exact h
    · split
      · exact h
      · rename_i x hx
        obtain ⟨hi, rfl⟩ := List.getElem?_eq_some_iff.1 hx
        exact h.set hx (acted_good e (h.good _ hi)) (acted_same _ e) (trim_len _)
  split
  · split
    · exact h
    split
    · exact h
    · simp only
      split
      · exact ⟨h.len, h.good, h.id, h.n, trim_len _⟩
      · split
        · exact ⟨h.len, h.good, h.id, h.n, trim_len _⟩
        · rename_i x hx
          obtain ⟨hi, rfl⟩ := List.getElem?_eq_some_iff.1 hx
          exact h.set hx (received_good (h.good _ hi)) (receive_same _ _) (trim_len _)
  · exact ⟨h.len, h.good, h.id, h.n, trim_len _⟩

/-- No term goes back and no vote is changed, whichever node. -/
def VotesAll (w w' : Wld) : Prop := ∀ (i : Nat) (x y : Nod), w.nodes[i]? = some x → w'.nodes[i]? = some y → Votes x y

theorem VotesAll.set {w : Wld} {i : Nat} {x y : Nod} (hx : w.nodes[i]? = some x) (hv : Votes x y) (net : List Mes) : VotesAll w ⟨w.nodes.set i y, net⟩ := by
  intro j a b ha hb
  simp only [List.getElem?_set] at hb
  split at hb
  · rename_i e
    subst e
    split at hb
    · rw [hx] at ha
      injection ha with ha
      injection hb with hb
      subst ha hb
      exact hv
    · cases hb
  · rw [ha] at hb
    injection hb with hb
    subst hb
    exact .refl a

theorem VotesAll.same {w w' : Wld} (h : w'.nodes = w.nodes) : VotesAll w w' := by
  intro j a b ha hb
  rw [h, ha] at hb
  injection hb with hb
  subst hb
  exact .refl a

theorem cstep_votes (w : Wld) (e : Evt) : VotesAll w (cstep w e) := by
  unfold cstep
  split
  · split
    · exact .same rfl
    · split
      · exact .same rfl
      · rename_i x hx
        exact .set hx (acted_votes x e) _
  split
  · split
    · exact .same rfl
    split
    · exact .same rfl
    · simp only
      split
      · exact .same rfl
      · split
        · exact .same rfl
        · rename_i x hx
          exact .set hx (receive_votes x _) _
  · exact .same rfl

theorem worlds_sound {n : Int} : ∀ (l : List Evt) (w : Wld), Sound n w → ∀ v ∈ worlds w l, Sound n v
  | [], w, h, v, hv => by simp [worlds] at hv; subst hv; exact h
  | e :: l, w, h, v, hv => by
    rcases List.mem_cons.1 hv with rfl | hv
    · exact h
    · exact worlds_sound l _ (cstep_sound h e) v hv
end Go.Proofs.Ytibjbpakbfodaaa
