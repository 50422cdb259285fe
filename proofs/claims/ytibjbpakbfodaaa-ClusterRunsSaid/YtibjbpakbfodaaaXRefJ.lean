/- RaftSteps, walked: what the package does, and what the document's answer does, is one. -/
import Derived.Test.YtibjbpakbfodaaaXRefI
namespace Go.Proofs.Ytibjbpakbfodaaa
open Go.RowKit

theorem others_len (x : Nod) : (others x).length ≤ x.n.toNat := by
  unfold others
  exact Nat.le_trans (List.length_filter_le _ _) (by simp)
theorem putSays_len (x : Nod) (c : Int) : (putSays x c).length ≤ x.n.toNat := by
  unfold putSays
  rw [List.length_map]
  have := others_len (put x c)
  rwa [(put_fields x c).2.1] at this
theorem leadSays_len (x : Nod) : (leadSays x).length ≤ x.n.toNat := by
  unfold leadSays
  split
  · exact putSays_len (crowned x) 0
  · simp
theorem timeout_len (x : Nod) : (timeout x).2.length ≤ 10 := by
  unfold timeout
  split
  · simp
  · rename_i h
    have g := good_of_wrong (x := x) (by omega)
    have h1 := others_len (stood x)
    have h2 := leadSays_len (stood x)
    have e : (stood x).n = x.n := rfl
    rw [e] at h1 h2
    have := g.n5
    simp only [List.length_append, List.length_map]
    omega
theorem beat_len (x : Nod) : (beat x).2.length ≤ 10 := by
  unfold beat
  split
  · simp
  · rename_i h
    have g := good_of_wrong (x := x) (by omega)
    have h1 := others_len x
    have := g.n5
    simp only [List.length_map]
    omega
theorem propose_len (x : Nod) (c : Int) : (propose x c).2.1.length ≤ 10 := by
  unfold propose
  split
  · simp
  · rename_i h
    have g := good_of_wrong (x := x) (by omega)
    have h1 := putSays_len x c
    have := g.n5
    simp only
    omega

theorem sized_good {x : Nod} (g : Good x) : Sized x := ⟨by have := g.log60; omega, by have := g.votes_len; omega, by have := g.next_len; omega, by have := g.mtch_len; omega⟩

theorem timeout_sized {x : Nod} (h : Sized x) : Sized (timeout x).1 := by
  by_cases hw : wrong x = 0
  · exact sized_good (timeout_good (good_of_wrong hw))
  · have : timeout x = (x, []) := by unfold timeout; rw [if_pos (.inl hw)]
    rw [this]; exact h
theorem beat_sized {x : Nod} (h : Sized x) : Sized (beat x).1 := by
  by_cases hw : wrong x = 0
  · exact sized_good (beat_good (good_of_wrong hw))
  · have : beat x = (x, []) := by unfold beat; rw [if_pos (.inl hw)]
    rw [this]; exact h
theorem propose_sized {x : Nod} (c : Int) (h : Sized x) : Sized (propose x c).1 := by
  by_cases hw : wrong x = 0
  · exact sized_good (propose_good c (good_of_wrong hw))
  · have : propose x c = (x, [], false) := by unfold propose; rw [if_pos (.inl hw)]
    rw [this]; exact h
theorem restart_sized {x : Nod} (h : Sized x) : Sized (restart x) := by
  by_cases hw : wrong x = 0
  · exact sized_good (restart_good (good_of_wrong hw))
  · have : restart x = x := by unfold restart; rw [if_pos hw]
    rw [this]; exact h

theorem hands_names {w w' : World} {Q : Nat → Prop} {y : Nod} {ms : List Mes} {e : Ending} (h : Hands w Q y ms e w') : ∃ (LA : Option Addr) (LC : Nat) (VA : Option Addr) (VC : Nat) (NA : Option Addr) (NC : Nat) (MA : Option Addr) (MC : Nat) (OA : Option Addr) (OC : Nat) (out : List MesV), e = .returned (.tuple #[.agg #[.int .i64 y.id, .int .i64 y.n, .int .i64 y.term, .int .i64 y.vote, .slice LA y.log.length LC, .int .i64 y.commit, .int .i64 y.role, .int .i64 y.boss, .slice VA y.votes.length VC, .slice NA y.next.length NC, .slice MA y.mtch.length MC], .slice OA out.length OC]) ∧ said out = ms ∧
      NodeOk w' Q ⟨y, .slice LA y.log.length LC, .slice VA y.votes.length VC, .slice NA y.next.length NC, .slice MA y.mtch.length MC⟩ ∧ MsgsOk w' Q (.slice OA out.length OC) out ∧ Keeps Free w w' := by
  obtain ⟨⟨n, lv, vv, nv, mv⟩, ov, out, rfl, rfl, hs, hn, hm, hk⟩ := h
  obtain ⟨LA, LC, VA, VC, NA, NC, MA, MC, e1, e2, e3, e4⟩ := hn.shape
  obtain ⟨OA, OC, e5⟩ := hm.cells.form9
  subst e1 e2 e3 e4 e5
  exact ⟨_, _, _, _, _, _, _, _, _, _, out, rfl, hs, hn, hm, hk⟩
theorem handsR_names {w w' : World} {Q : Nat → Prop} {y : Nod} {ms : List Mes} {e : Ending} (hQ : ∀ k, Q k → k < w.heap.size) (h : HandsR w Q y ms e w') : ∃ (LA : Option Addr) (LC : Nat) (VA : Option Addr) (VC : Nat) (NA : Option Addr) (NC : Nat) (MA : Option Addr) (MC : Nat) (OA : Option Addr) (OC : Nat) (out : List MesV), e = .returned (.tuple #[.agg #[.int .i64 y.id, .int .i64 y.n, .int .i64 y.term, .int .i64 y.vote, .slice LA y.log.length LC, .int .i64 y.commit, .int .i64 y.role, .int .i64 y.boss, .slice VA y.votes.length VC, .slice NA y.next.length NC, .slice MA y.mtch.length MC], .slice OA out.length OC]) ∧ said out = ms ∧
      NodeOk w' Q ⟨y, .slice LA y.log.length LC, .slice VA y.votes.length VC, .slice NA y.next.length NC, .slice MA y.mtch.length MC⟩ ∧ MsgsOk w' Q (.slice OA out.length OC) out ∧ Keeps Free w w' := by
  obtain ⟨⟨n, lv, vv, nv, mv⟩, ov, out, rfl, rfl, hs, hn, hm, hk⟩ := h
  obtain ⟨LA, LC, VA, VC, NA, NC, MA, MC, e1, e2, e3, e4⟩ := hn.shape
  obtain ⟨OA, OC, e5⟩ := hm.cells.form9
  subst e1 e2 e3 e4 e5
  exact ⟨_, _, _, _, _, _, _, _, _, _, out, rfl, hs, hn, hm.weak fun k _ hk => hQ k hk, hk⟩
theorem handsP_names {w w' : World} {Q : Nat → Prop} {y : Nod} {ms : List Mes} {b : Bool} {e : Ending} (hQ : ∀ k, Q k → k < w.heap.size) (h : HandsP w Q y ms b e w') : ∃ (LA : Option Addr) (LC : Nat) (VA : Option Addr) (VC : Nat) (NA : Option Addr) (NC : Nat) (MA : Option Addr) (MC : Nat) (OA : Option Addr) (OC : Nat) (out : List MesV), e = .returned (.tuple #[.agg #[.int .i64 y.id, .int .i64 y.n, .int .i64 y.term, .int .i64 y.vote, .slice LA y.log.length LC, .int .i64 y.commit, .int .i64 y.role, .int .i64 y.boss, .slice VA y.votes.length VC, .slice NA y.next.length NC, .slice MA y.mtch.length MC], .slice OA out.length OC, .bool b]) ∧ said out = ms ∧
      NodeOk w' Q ⟨y, .slice LA y.log.length LC, .slice VA y.votes.length VC, .slice NA y.next.length NC, .slice MA y.mtch.length MC⟩ ∧ MsgsOk w' Q (.slice OA out.length OC) out ∧ Keeps Free w w' := by
  obtain ⟨⟨n, lv, vv, nv, mv⟩, ov, out, rfl, rfl, hs, hn, hm, hk⟩ := h
  obtain ⟨LA, LC, VA, VC, NA, NC, MA, MC, e1, e2, e3, e4⟩ := hn.shape
  obtain ⟨OA, OC, e5⟩ := hm.cells.form9
  subst e1 e2 e3 e4 e5
  exact ⟨_, _, _, _, _, _, _, _, _, _, out, rfl, hs, hn, hm.weak fun k _ hk => hQ k hk, hk⟩
theorem hands3_names {w w' : World} {Q : Nat → Prop} {y : Nod} {ms : List Mes} {b : Bool} {e : Ending} (h : ∃ x' ov out, e = .returned (.tuple #[.agg (nodCells x').toArray, ov, .bool b]) ∧ x'.n = y ∧ said out = ms ∧ NodeOk w' Q x' ∧ MsgsOk w' Q ov out ∧ Keeps Free w w') : ∃ (LA : Option Addr) (LC : Nat) (VA : Option Addr) (VC : Nat) (NA : Option Addr) (NC : Nat) (MA : Option Addr) (MC : Nat) (OA : Option Addr) (OC : Nat) (out : List MesV), e = .returned (.tuple #[.agg #[.int .i64 y.id, .int .i64 y.n, .int .i64 y.term, .int .i64 y.vote, .slice LA y.log.length LC, .int .i64 y.commit, .int .i64 y.role, .int .i64 y.boss, .slice VA y.votes.length VC, .slice NA y.next.length NC, .slice MA y.mtch.length MC], .slice OA out.length OC, .bool b]) ∧ said out = ms ∧
      NodeOk w' Q ⟨y, .slice LA y.log.length LC, .slice VA y.votes.length VC, .slice NA y.next.length NC, .slice MA y.mtch.length MC⟩ ∧ MsgsOk w' Q (.slice OA out.length OC) out ∧ Keeps Free w w' := by
  obtain ⟨⟨n, lv, vv, nv, mv⟩, ov, out, rfl, rfl, hs, hn, hm, hk⟩ := h
  obtain ⟨LA, LC, VA, VC, NA, NC, MA, MC, e1, e2, e3, e4⟩ := hn.shape
  obtain ⟨OA, OC, e5⟩ := hm.cells.form9
  subst e1 e2 e3 e4 e5
  exact ⟨_, _, _, _, _, _, _, _, _, _, out, rfl, hs, hn, hm, hk⟩

theorem NodeOk.keep {w w' : World} {x : NodV} (h : NodeOk w Free x) (hk : Keeps Free w w') : NodeOk w' Free x := h.into hk (fun _ _ h => h) (fun _ _ h => h)

theorem restart_names {w w' : World} {Q : Nat → Prop} {y : Nod} {e : Ending} (h : ∃ x' : NodV, e = .returned (.agg (nodCells x').toArray) ∧ x'.n = y ∧ NodeOk w' Q x' ∧ Keeps Free w w') :
    ∃ (LA : Option Addr) (LC : Nat) (VA : Option Addr) (VC : Nat) (NA : Option Addr) (NC : Nat) (MA : Option Addr) (MC : Nat), e = .returned (.agg #[.int .i64 y.id, .int .i64 y.n, .int .i64 y.term, .int .i64 y.vote, .slice LA y.log.length LC, .int .i64 y.commit, .int .i64 y.role, .int .i64 y.boss, .slice VA y.votes.length VC, .slice NA y.next.length NC, .slice MA y.mtch.length MC]) ∧ NodeOk w' Q ⟨y, .slice LA y.log.length LC, .slice VA y.votes.length VC, .slice NA y.next.length NC, .slice MA y.mtch.length MC⟩ ∧ Keeps Free w w' := by
  obtain ⟨⟨n, lv, vv, nv, mv⟩, rfl, rfl, hn, hk⟩ := h
  obtain ⟨LA, LC, VA, VC, NA, NC, MA, MC, e1, e2, e3, e4⟩ := hn.shape
  subst e1 e2 e3 e4
  exact ⟨_, _, _, _, _, _, _, _, rfl, hn, hk⟩

theorem said_len {out : List MesV} {ms : List Mes} (h : said out = ms) : out.length = ms.length := by rw [← h]; simp [said]
theorem said_items {out : List MesV} {ms : List Mes} {b : Nat} (h : said out = ms) (hb : ∀ m ∈ ms, m.items.length ≤ b) : ∀ m ∈ out, m.m.items.length ≤ b := fun m hm => hb _ (by rw [← h]; exact List.mem_map_of_mem hm)

end Go.Proofs.Ytibjbpakbfodaaa
