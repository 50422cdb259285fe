/- verdictlaw16.through, walked, whatever is looked at. -/
import Derived.Test.YtibjbpakbfodaaaClst
namespace Go.Proofs.Ytibjbpakbfodaaa
open Go.RowKit

def evtCells (e : Evt) : List Value := [.int .i64 e.kind, .int .i64 e.node, .int .i64 e.pick]
theorem evts_len (l : List Evt) : (l.flatMap evtCells).length = l.length * 3 := flat_length _ 3 (fun _ => rfl) l

/-- The cells of one event. -/
theorem Sl.evt {w : World} {S : Nat → Prop} {A : Option Addr} {len c : Nat} {l : List Evt} (h : Sl w S (.slice A len c) 3 (l.flatMap evtCells)) {j : Nat} (hj : j < l.length) :
    ∃ b off, A = some ⟨b, off, none⟩ ∧ w.cell? ⟨b, off + j * 3, none⟩ = some (.int .i64 l[j].kind) ∧ w.cell? ⟨b, off + j * 3 + 1, none⟩ = some (.int .i64 l[j].node) ∧ w.cell? ⟨b, off + j * 3 + 2, none⟩ = some (.int .i64 l[j].pick) := by
  obtain ⟨A', len', c', e, hl, _, _, hc⟩ := h
  injection e with e1 e2 e3
  subst e1
  obtain ⟨b, off, rfl, _, hcell⟩ := hc (by rw [evts_len]; omega)
  have hg : ∀ i u, i < 3 → (evtCells l[j])[i]? = some u → w.cell? ⟨b, off + (j * 3 + i), none⟩ = some u := fun i u hi hu =>
    hcell _ _ ((flat_get evtCells 3 (fun _ => rfl) l j l[j] i (List.getElem?_eq_getElem hj) hi).trans hu)
  exact ⟨b, off, rfl, hg 0 _ (by decide) rfl, by rw [Nat.add_assoc]; exact hg 1 _ (by decide) rfl, by rw [Nat.add_assoc]; exact hg 2 _ (by decide) rfl⟩

/-- What a step of the cluster says. -/
def StepSays : Prop := ∀ (w : World) (Q : Nat → Prop) (W : WldV) (ev : Evt), WldOk w Q W → (∀ k, Q k → k < w.heap.size) → W.nodes.length ≤ 1000 → W.net.length ≤ 1000 →
  Calls Try.prog 47 #[.agg #[W.nv, W.ov], .agg #[.int .i64 ev.kind, .int .i64 ev.node, .int .i64 ev.pick]] w fun e w' => ∃ W' : WldV, e = .returned (.agg #[W'.nv, W'.ov]) ∧ W'.w = cstep W.w ev ∧ WldOk w' Q W' ∧ Keeps Free w w'

/-- A world that is being looked at, in the variable B; what looks has its own blocks, S. -/
def ThruAt (Inv : (Nat → Prop) → Wld → World → Prop) (S0 : Nat → Prop) (w : World) (B : Nat) (wr : World) : Prop :=
  ∃ S W, Inv S (WldV.w W) wr ∧ WldOk wr (fun k => S k ∨ k = B) W ∧ wr.heap[B]? = some (.cells #[W.nv, W.ov] 55 (0, 0)) ∧ Keeps S0 w wr ∧ (∀ k, S k → S0 k ∨ w.heap.size ≤ k) ∧ ¬ S B

set_option maxRecDepth 100000 in
set_option maxHeartbeats 8000000 in
theorem through_anyK {w : World} {f : Nat} {cap : Array Value} {n : Int} {ev : Value} {evs : List Evt} {S0 : Nat → Prop} (Inv Inv' : Nat → (Nat → Prop) → Wld → World → Prop)
    (hstp : StepSays)
    (hev : Sl w S0 ev 3 (evs.flatMap evtCells)) (hf : ∀ (args : Array Value) (w : World), (callFunc f args).run Try.prog w = .ok (.enter f args) w)
    (hlt' : ∀ i S W w, Inv' i S W w → ∀ k, S k → k < w.heap.size) (hs : ∀ i S W w, Inv' i S W w → W.nodes.length ≤ 1000 ∧ W.net.length ≤ 1000)
    (hS0 : ∀ k, S0 k → k < w.heap.size) (h0 : ¬ (n < 1 ∨ 5 < n) → evs.length ≤ 300 → ∀ w', Keeps Free w w' → Inv 0 S0 (firstWld n) w')
    (hlook : ∀ i S (W : WldV) w1, i ≤ 300 → Inv i S W.w w1 → WldOk w1 S W → Calls Try.prog f (#[.agg #[W.nv, W.ov]] ++ cap) w1 fun e w2 => e = .returned (.bool true) ∧ ∃ S', Inv' i S' W.w w2 ∧ Keeps S w1 w2 ∧ ∀ k, S' k → S k ∨ w1.heap.size ≤ k)
    (hstep : ∀ i S W w w' e, Inv' i S W w → Keeps (fun k => ¬ S k) w w' → Inv (i + 1) S (cstep W e) w') :
    Calls Try.prog 37 #[.int .i64 n, ev, .func (.func f) #[] cap] w fun e w' => e = .returned (.bool true) ∧ Keeps S0 w w' := by
  have HSTP := Lib.hid hstp; have HEV := Lib.hid hev; have HLT' := Lib.hid hlt'; have HS := Lib.hid hs; have HS0 := Lib.hid hS0; have H0 := Lib.hid h0; have HLOOK := Lib.hid hlook; have HSTEP := Lib.hid hstep
  obtain ⟨A, C, rfl⟩ := hev.form (evts_len evs) (by decide)
  clear hstp hev hlt' hs hS0 h0 hlook hstep
  go_enter Try.func37, Try.ntmps37
  go_wp2_with fail
  refine (clStart_any w n).mono ?_
  rintro e w1 ⟨k1, hr⟩
  have K1 := Lib.hid k1
  clear k1
  rcases hr with ⟨ho, rfl⟩ | ⟨ho, W, rfl, hW, hok⟩
  · clear ho
    go_wp2_with fail
    go_ret
    exact ⟨rfl, (K1.out.mono fun _ h => h.elim).alloc _⟩
  · obtain ⟨nodes, net, nv, ov⟩ := W
    have hok2 := hok (fun k => S0 k) HS0.out
    obtain ⟨NA, NC, en1⟩ := hok2.cells.form (nods_len nodes) (by decide)
    obtain ⟨OA, OC, en2⟩ := hok2.msgs.cells.form (mess_len net) (by decide)
    simp only at en1 en2
    subst en1 en2
    simp only
    have HW := Lib.hid hW; have HOK := Lib.hid hok2; have HO := Lib.hid ho
    clear hW hok hok2 ho
    cases hl : decide (300 < evs.length)
    case true =>
      have hl' : decide (300 < (evs.length : Int)) = true := by simp at hl ⊢; omega
      go_wp2_with fail
      go_ret
      exact ⟨rfl, (K1.out.mono fun _ h => h.elim).alloc _⟩
    case false =>
      have hl1 : ¬ 300 < evs.length := by simpa using hl
      clear hl
      obtain ⟨B, hB⟩ : ∃ B, w1.heap.size = B := ⟨_, rfl⟩
      obtain ⟨w2, hal⟩ : ∃ w2, w1.alloc (.cells #[.slice NA nodes.length NC, .slice OA net.length OC] 55) = w2 := ⟨_, rfl⟩
      have hb2 : w2.heap[B]? = some (.cells #[.slice NA nodes.length NC, .slice OA net.length OC] 55 (0, 0)) := by rw [← hal, ← hB]; exact heap_alloc_new _ _
      have hk2 : Keeps Free w1 w2 := by rw [← hal]; exact (Keeps.refl _ w1).alloc _
      have HB2 := Lib.hid hb2; have HK2 := Lib.hid hk2
      clear hb2 hk2
      go_wp2_with fail
      have hBw : w.heap.size ≤ B := by have := K1.out.size; omega
      have HBW := Lib.hid hBw
      go_loopw [9] (fun i wr => ∃ k : Nat, k ≤ evs.length ∧ i = .int .i64 k ∧ ThruAt (Inv k) S0 w B wr) (fun i _ => evs.length + 1 - (intOf i).toNat)
      case atStart =>
        refine ⟨0, Nat.zero_le _, rfl, S0, ⟨nodes, net, _, _⟩, ?_, ?_, HB2.out, (K1.out.trans HK2.out fun _ h => .inl h).mono (fun _ h => h.elim), fun k h => .inl h, fun h => by have := HS0.out _ h; have := HBW.out; omega⟩
        · rw [HW.out]
          exact H0.out HO.out (by omega) w2 (K1.out.trans HK2.out fun _ h => .inl h)
        · refine HOK.out.into HK2.out (fun _ _ h => h.elim) fun k hk h => h.elim id fun e => by omega
      case round =>
        obtain ⟨k, hk, rfl, S, W, i1, i2, i3, i4, i5, i6⟩ := hrel
        obtain ⟨nd, nt, nv, ov⟩ := W
        obtain ⟨NA', NC', en1⟩ := i2.cells.form (nods_len nd) (by decide)
        obtain ⟨OA', OC', en2⟩ := i2.msgs.cells.form (mess_len nt) (by decide)
        simp only at en1 en2
        subst en1 en2
        obtain ⟨b0, b1, bf⟩ := cells2 i3
        have hlook := HLOOK.out k S _ wr (by omega) i1 (i2.into (Keeps.refl Free wr) (fun _ _ h => h.elim) fun _ _ h => .inl h)
        have I1 := Lib.hid i1; have I2 := Lib.hid i2; have I3 := Lib.hid i3; have I4 := Lib.hid i4; have I5 := Lib.hid i5; have I6 := Lib.hid i6; have HL := Lib.hid hlook
        clear i1 i2 i3 i4 i5 i6 hlook
        go_wp2_with fail
        refine HL.out.mono ?_
        rintro e w3 ⟨rfl, S', j1, j2, j3⟩
        have hBlt := laid_lt I3.out
        have hb3 := (j2.block B hBlt I6.out).trans I3.out
        have k3 : Keeps S0 w w3 := I4.out.trans j2 I5.out
        have hS3 : ∀ k, S' k → S0 k ∨ w.heap.size ≤ k := fun k h => (j3 k h).elim (I5.out k) fun h => .inr (Nat.le_trans I4.out.size h)
        have hB3 : ¬ S' B := fun h => (j3 B h).elim I6.out fun h => by omega
        have hok3 := I2.out.into (S' := fun k => S' k ∨ k = B) j2 (fun k _ h => .inl h) fun k hk h => h.elim (fun h => (j3 k h).elim .inl fun h => by omega) .inr
        obtain ⟨c0, c1, cf⟩ := cells2 hb3
        have J1 := Lib.hid j1; have HB3 := Lib.hid hb3; have K3 := Lib.hid k3; have HS3 := Lib.hid hS3; have HNB := Lib.hid hB3; have HOK3 := Lib.hid hok3
        clear j1 j2 j3 hb3 k3 hS3 hB3 hok3 hBlt b0 b1 bf
        by_cases hend : k = evs.length
        · subst hend
          go_wp2_with fail
          go_ret
          exact ⟨rfl, K3.out⟩
        · have hklt : k < evs.length := by omega
          obtain ⟨be, off, rfl, e0, e1, e2⟩ := (HEV.out.into (S' := S0) K3.out (fun _ _ h => h) fun _ _ h => h).evt hklt
          have hst : ∀ w4, Keeps Free w3 w4 → _ := fun w4 hk4 => HSTP.out w4 (fun k => S' k ∨ k = B) _ evs[k] (HOK3.out.into hk4 (fun _ _ h => h.elim) fun _ _ h => h) (fun k h => Nat.lt_of_lt_of_le (h.elim (HLT'.out _ _ _ _ J1.out k) fun h => h ▸ laid_lt HB3.out) hk4.size) (by have := (HS.out _ _ _ _ J1.out).1; simpa [WldV.w] using this) (by have := (HS.out _ _ _ _ J1.out).2; simpa [WldV.w, said] using this)
          have HST := Lib.hid (hst w3.drew (Keeps.refl Free w3).drew)
          have HNE := Lib.hid hend
          clear hst hend
          generalize evs[k] = evk at *
          obtain ⟨ek, en, ep⟩ := evk
          simp only at e0 e1 e2 HST
          go_upto_region 10 with fail
          go_region_with (go_at_call 47; refine HST.out.mono ?_; rintro e w5 ⟨W5, rfl, h51, h52, k5⟩; obtain ⟨nd5, nt5, nv5, ov5⟩ := W5; have H51 := Lib.hid h51; have H52 := Lib.hid h52; obtain ⟨NA5, NC5, en1⟩ := h52.cells.form (nods_len nd5) (by decide); obtain ⟨OA5, OC5, en2⟩ := h52.msgs.cells.form (mess_len nt5) (by decide); simp only at en1 en2; subst en1 en2; obtain ⟨wf, hwf, hfb, hfk⟩ := put2 (v0 := .slice NA5 nd5.length NC5) (v1 := .slice OA5 nt5.length OC5) (k5.blk (w := w3.drew) HB3.out) rfl; obtain ⟨d0, d1, df⟩ := cells2 (k5.blk (w := w3.drew) HB3.out); have HFB := Lib.hid hfb; have HFK := Lib.hid hfk; have K5 := Lib.hid k5; clear hfb hfk k5 h51 h52; simp only)
          all_goals
            go_wp2_with fail
            go_roundw
            case rel =>
              have hkk : Keeps Free w3 w5 := (Keeps.refl Free w3).drew.trans K5.out fun _ h => .inl h
              refine ⟨k + 1, by omega, by go_num, S', ⟨nd5, nt5, _, _⟩, ?_, ?_, HFB.out, ?_, HS3.out, HNB.out⟩
              · rw [H51.out]
                exact HSTEP.out _ S' _ w3 wf _ J1.out ((hkk.mono (S' := fun k => ¬ S' k) fun _ h => h.elim).trans HFK.out fun k e => .inl (e ▸ HNB.out))
              · exact H52.out.into HFK.out (fun k _ h => .inr h) fun _ _ h => h
              · exact (K3.out.trans hkk fun _ h => h.elim).trans HFK.out fun k e => .inr (by have := HBW.out; omega)
            case measure => simp [intOf]; omega

/-- The same, where it does not matter how many worlds have been looked at. -/
theorem through_any {w : World} {f : Nat} {cap : Array Value} {n : Int} {ev : Value} {evs : List Evt} {S0 : Nat → Prop} (Inv Inv' : (Nat → Prop) → Wld → World → Prop) (hstp : StepSays)
    (hev : Sl w S0 ev 3 (evs.flatMap evtCells)) (hf : ∀ (args : Array Value) (w : World), (callFunc f args).run Try.prog w = .ok (.enter f args) w)
    (_ : ∀ S W w, Inv S W w → ∀ k, S k → k < w.heap.size) (hlt' : ∀ S W w, Inv' S W w → ∀ k, S k → k < w.heap.size) (hs : ∀ S W w, Inv' S W w → W.nodes.length ≤ 1000 ∧ W.net.length ≤ 1000)
    (hS0 : ∀ k, S0 k → k < w.heap.size) (h0 : ¬ (n < 1 ∨ 5 < n) → evs.length ≤ 300 → ∀ w', Keeps Free w w' → Inv S0 (firstWld n) w')
    (hlook : ∀ S (W : WldV) w1, Inv S W.w w1 → WldOk w1 S W → Calls Try.prog f (#[.agg #[W.nv, W.ov]] ++ cap) w1 fun e w2 => e = .returned (.bool true) ∧ ∃ S', Inv' S' W.w w2 ∧ Keeps S w1 w2 ∧ ∀ k, S' k → S k ∨ w1.heap.size ≤ k)
    (hstep : ∀ S W w w' e, Inv' S W w → Keeps (fun k => ¬ S k) w w' → Inv S (cstep W e) w') :
    Calls Try.prog 37 #[.int .i64 n, ev, .func (.func f) #[] cap] w fun e w' => e = .returned (.bool true) ∧ Keeps S0 w w' :=
  through_anyK (fun _ => Inv) (fun _ => Inv') hstp hev hf (fun _ => hlt') (fun _ => hs) hS0 h0 (fun _ S W w1 _ => hlook S W w1) fun _ => hstep
end Go.Proofs.Ytibjbpakbfodaaa
