/- ClusterLogs, walked: the law itself. -/
import Derived.Test.YtibjbpakbfodaaaLogs
namespace Go.Proofs.Ytibjbpakbfodaaa
open Go.RowKit

theorem call39 (args : Array Value) (w : World) : (callFunc 39 args).run Try.prog w = .ok (.enter 39 args) w := by kernel_rfl

/-- A world that has been reached: sound, and as what has been says. -/
def Reached (n : Int) (W : Wld) : Prop := ¬ (n < 1 ∨ 5 < n) ∧ Sound n W ∧ ∃ G, WInv n G W

theorem reached_first {n : Int} (hn : ¬ (n < 1 ∨ 5 < n)) : Reached n (firstWld n) := ⟨hn, firstWld_sound (by omega) (by omega), _, firstWld_inv n⟩
theorem Reached.step {n : Int} {W : Wld} (h : Reached n W) (e : Evt) : Reached n (cstep W e) := by
  obtain ⟨h1, h2, G, h3⟩ := h
  obtain ⟨G', h4, _⟩ := cstep_inv h2 h3 e
  exact ⟨h1, cstep_sound h2 e, G', h4⟩
theorem Reached.log60 {n : Int} {W : WldV} (h : Reached n W.w) : ∀ x ∈ W.nodes, x.n.log.length ≤ 60 := by
  intro x hx
  obtain ⟨i, hi, rfl⟩ := List.mem_iff_getElem.1 hx
  have := h.2.1.good i (by simpa [WldV.w] using hi)
  simp only [WldV.w, List.getElem_map] at this
  exact this.log60
theorem Reached.len5 {n : Int} {W : WldV} (h : Reached n W.w) : W.nodes.length ≤ 5 := by
  have := h.2.1.len
  have := h.1
  simp [WldV.w] at *
  omega

/-- Nothing is kept apart. -/
def PlainInv (n : Int) (S : Nat → Prop) (W : Wld) (_ : World) : Prop := (∀ k, ¬ S k) ∧ Reached n W

set_option maxRecDepth 100000 in
set_option maxHeartbeats 8000000 in
theorem clusterLogs_walk {w : World} {ev : Value} {evs : List Evt} (hstp : StepSays) (n : Int) (hev : Sl w Free ev 3 (evs.flatMap evtCells)) :
    Calls Try.prog 11 #[.int .i64 n, ev] w fun e w' => e = .returned (.bool true) ∧ Keeps Free w w' := by
  have hthru : ∀ w1, Keeps Free w w1 → Calls Try.prog 37 #[.int .i64 n, ev, .func (.func 39) #[] #[]] w1 fun e w' => e = .returned (.bool true) ∧ Keeps Free w1 w' := fun w1 h1 => by
    refine through_any (w := w1) (S0 := Free) (PlainInv n) (PlainInv n) hstp (hev.into h1 (fun _ _ h => h) fun k hk e => e) call39 (fun S W w2 h k hk => (h.1 k hk).elim) (fun S W w2 h k hk => (h.1 k hk).elim) (fun S W w2 h => h.2.2.1.lens h.2.1) (fun k hk => hk.elim) ?_ ?_ ?_
    · exact fun hn _ w2 _ => ⟨fun k h => h, reached_first hn⟩
    · intro S W w2 h hok
      obtain ⟨G, hG⟩ := h.2.2.2
      refine (logs_look hok h.2.log60 h.2.len5 fun a ha b hb i hi hi' he => hG.logs (List.mem_map_of_mem ha) (List.mem_map_of_mem hb) hi hi' he).mono ?_
      rintro e w3 ⟨rfl, h3⟩
      exact ⟨rfl, S, h, h3.mono fun _ h => h.elim, fun k hk => .inl hk⟩
    · exact fun S W w2 w3 e h _ => ⟨h.1, h.2.step e⟩
  have HT := Lib.hid hthru; have HS := Lib.hid hstp
  obtain ⟨A, C, rfl⟩ := hev.form (evts_len evs) (by decide)
  clear hthru hstp hev
  go_enter Try.func11, Try.ntmps11
  go_wp2_with fail
  refine (alive16_any HS.out _).mono ?_
  rintro e w2 ⟨rfl, k2⟩
  have K2 := Lib.hid k2
  clear k2
  go_wp2_with fail
  refine (HT.out _ K2.out).mono ?_
  rintro e w3 ⟨rfl, k3⟩
  have K3 := Lib.hid k3
  clear k3
  go_wp2_with fail
  go_ret
  exact ⟨rfl, K2.out.trans K3.out fun _ h => .inl h⟩
end Go.Proofs.Ytibjbpakbfodaaa
