/- ClusterSure, walked: the law itself. -/
import Derived.Test.YtibjbpakbfodaaaSur
namespace Go.Proofs.Ytibjbpakbfodaaa
open Go.RowKit

theorem call40 (args : Array Value) (w : World) : (callFunc 40 args).run Try.prog w = .ok (.enter 40 args) w := by kernel_rfl

/-- What is noted as sure, by what has been. -/
def SureP (n : Int) (G : Gh) (s : List Itm) : Prop := (∃ T, SureOk n G T s) ∧ s.length ≤ 60

def SureInv (n : Int) (b : Nat) (S : Nat → Prop) (W : Wld) (w : World) : Prop := ¬ (n < 1 ∨ 5 < n) ∧ Sound n W ∧ ∃ G v s, WInv n G W ∧ SureP n G s ∧ SureAt w S b v s

theorem good_of_mem {n : Int} {W : WldV} (h : Sound n W.w) {x : NodV} (hx : x ∈ W.nodes) : Good x.n := by
  obtain ⟨i, hi, rfl⟩ := List.mem_iff_getElem.1 hx
  have := h.good i (by simpa [WldV.w] using hi)
  simpa only [WldV.w, List.getElem_map] using this

theorem SureP.agree {n : Int} {G : Gh} {W : WldV} (hn : 0 ≤ n) (h : WInv n G W.w) {s : List Itm} (hs : SureP n G s) {x : NodV} (hx : x ∈ W.nodes) (i : Nat) (hi : (i : Int) < x.n.commit) (hi' : i < s.length) : s[i]? = x.n.log[i]? := by
  obtain ⟨⟨T, hT⟩, _⟩ := hs
  exact hT.agree hn h (List.mem_map_of_mem hx) hi hi'

theorem SureP.more {n : Int} {G : Gh} {W : WldV} (hn : 0 ≤ n) (hs0 : Sound n W.w) (h : WInv n G W.w) {s : List Itm} (hs : SureP n G s) {x : NodV} (hx : x ∈ W.nodes) (hc : (s.length : Int) < x.n.commit) (hl : s.length < x.n.log.length) : SureP n G (s ++ [x.n.log[s.length]]) := by
  have hg := good_of_mem hs0 hx
  have e : s = x.n.log.take s.length := by
    apply List.ext_getElem? 
    intro i
    rcases Nat.lt_or_ge i s.length with h1 | h1
    · rw [hs.agree hn h hx i (by omega) h1, List.getElem?_take_of_lt h1]
    · rw [List.getElem?_eq_none h1, List.getElem?_eq_none (by rw [List.length_take]; omega)]
  have e2 : s ++ [x.n.log[s.length]] = x.n.log.take (s.length + 1) := by
    rw [List.take_succ_eq_append_getElem hl, ← e]
  rw [e2]
  exact ⟨⟨_, SureOk.log h (List.mem_map_of_mem hx) (by omega)⟩, by rw [List.length_take]; have := hg.log60; omega⟩

set_option maxRecDepth 100000 in
set_option maxHeartbeats 8000000 in
theorem clusterSure_walk {w : World} {ev : Value} {evs : List Evt} (hstp : StepSays) (n : Int) (hev : Sl w Free ev 3 (evs.flatMap evtCells)) :
    Calls Try.prog 12 #[.int .i64 n, ev] w fun e w' => e = .returned (.bool true) ∧ Keeps Free w w' := by
  have hthru : ∀ (w0 w1 : World) (b : Nat), Keeps Free w w0 → w0.heap.size = b → w0.alloc (.cells #[.slice none 0 0] 22) = w1 → Calls Try.prog 37 #[.int .i64 n, ev, .func (.func 40) #[] #[.pointer (some ⟨b, 0, none⟩)]] w1 fun e w' => e = .returned (.bool true) ∧ Keeps Free w w' := fun w0 w1 b h0 hb h1 => by
    have k1 : Keeps Free w0 w1 := by rw [← h1]; exact (Keeps.refl _ w0).alloc _
    have hb1 : w1.heap[b]? = some (.cells #[.slice none 0 0] 22 (0, 0)) := by rw [← h1, ← hb]; exact heap_alloc_new _ _
    have kw := h0.trans k1 fun _ h => .inl h
    refine (through_any (w := w1) (S0 := fun k => k = b) (SureInv n b) (SureInv n b) hstp (hev.into kw (fun _ _ h => h) fun k hk e => by have := h0.size; omega) call40 (fun S W w2 h k hk => by obtain ⟨_, _, G, v, s, _, _, h⟩ := h; exact h.lt k hk) (fun S W w2 h k hk => by obtain ⟨_, _, G, v, s, _, _, h⟩ := h; exact h.lt k hk)
      (fun S W w2 h => h.2.1.lens h.1) (fun k hk => by rw [hk]; exact laid_lt hb1) ?_ ?_ ?_).mono ?_
    · intro hn _ w2 k2
      refine ⟨hn, firstWld_sound (by omega) (by omega), _, .slice none 0 0, [], firstWld_inv n, ⟨⟨0, sureOk_nil _ _ _⟩, by simp⟩, ?_⟩
      exact { blk := k2.blk hb1, row := World.ownsRow_nil _ _ _ _, bS := rfl, vS := fun g hg => by simp [Value.ownBlock] at hg, ne := by simp [Value.ownBlock], lt := fun k hk => by rw [hk]; exact laid_lt (k2.blk hb1) }
    · intro S W w2 h hok
      obtain ⟨hn, hs, G, v, s, hG, hP, hat⟩ := h
      have hn0 : 0 ≤ n := by omega
      refine (sure_look hok (SureP n G) hat hP (fun s h => h.2) (Reached.len5 ⟨hn, hs, G, hG⟩) (fun x hx => by have g := good_of_mem hs hx; exact ⟨g.commit0, g.commitn, g.log60⟩) (fun x hx s h i hi hi' => h.agree hn0 hG hx i hi hi') (fun x hx s h hc hl => h.more hn0 hs hG hx hc hl)).mono ?_
      rintro e w3 ⟨rfl, S1, v1, s1, i1, i2, _, i4, i5⟩
      exact ⟨rfl, S1, ⟨hn, hs, G, v1, s1, hG, i2, i1⟩, i4, i5⟩
    · intro S W w2 w3 e h k3
      obtain ⟨hn, hs, G, v, s, hG, ⟨⟨T, hT⟩, h60⟩, hat⟩ := h
      obtain ⟨G', hG', hL⟩ := cstep_inv hs hG e
      exact ⟨hn, cstep_sound hs e, G', v, s, hG', ⟨⟨T, hT.later hL (Int.le_refl _)⟩, h60⟩, hat.later k3⟩
    · rintro e w' ⟨rfl, k2⟩
      exact ⟨rfl, kw.trans k2 fun k e => .inr (by have := h0.size; omega)⟩
  have HT := Lib.hid hthru; have HS := Lib.hid hstp
  obtain ⟨A, C, rfl⟩ := hev.form (evts_len evs) (by decide)
  clear hthru hstp hev
  go_enter Try.func12, Try.ntmps12
  go_wp2_with fail
  refine (alive16_any HS.out _).mono ?_
  rintro e w2 ⟨rfl, k2⟩
  obtain ⟨w3, h3⟩ : ∃ w3, w2.alloc (.cells #[.slice none 0 0] 22) = w3 := ⟨_, rfl⟩
  obtain ⟨b, hb⟩ : ∃ b, w2.heap.size = b := ⟨_, rfl⟩
  have hcall := HT.out w2 w3 b k2 hb h3
  have HC := Lib.hid hcall
  clear k2 hcall
  go_wp2_with fail
  refine HC.out.mono ?_
  rintro e w4 ⟨rfl, k4⟩
  have K4 := Lib.hid k4
  clear k4
  go_wp2_with fail
  go_ret
  exact ⟨rfl, K4.out⟩
end Go.Proofs.Ytibjbpakbfodaaa
