/- ClusterVotes, walked. -/
import Derived.Test.YtibjbpakbfodaaaLdr
namespace Go.Proofs.Ytibjbpakbfodaaa
open Go.RowKit Go.Maps

theorem box1' (w : World) (o : Obj) : ∃ w', w.alloc o = w' ∧ Keeps Free w w' ∧ w'.heap[w.heap.size]? = some o := ⟨_, rfl, (Keeps.refl _ w).alloc _, heap_alloc_new w _⟩

/-- How an entry reads: a term and a vote. -/
def seenElem (v : Value) : Option (DataW (Int × Int) × List MemPlace) :=
  match v with
  | .agg ⟨[.int .i64 a, .int .i64 b]⟩ => some (.held (a, b), [])
  | _ => none

theorem seenElem_mk (a b : Int) : seenElem (.agg #[.int .i64 a, .int .i64 b]) = some (.held (a, b), []) := rfl
theorem seenElem_inv {v : Value} {a b : Int} {ps : List MemPlace} (h : seenElem v = some (.held (a, b), ps)) : v = .agg #[.int .i64 a, .int .i64 b] := by
  unfold seenElem at h
  split at h
  · simp at h
    obtain ⟨⟨rfl, rfl⟩, _⟩ := h
    rfl
  · cases h

theorem zero61 (w : World) : (zeroValue 61).run Try.prog w = .ok (.agg #[.int .i64 0, .int .i64 0]) w := by kernel_rfl

structure HadAt (w : World) (S : Nat → Prop) (b mb cnt : Nat) (D : DataW (Int × Int)) : Prop where
  blk : w.heap[b]? = some (.cells #[.map (some mb)] 59 (0, 0))
  own : w.ownsMap Try.prog 3 seenElem mb cnt D
  bS : S b
  mS : S mb
  lt : ∀ k, S k → k < w.heap.size

theorem map_kept' {H : Type} {w w' : World} {k b n : Nat} {R : Value → Option (DataW H × List MemPlace)} {D : DataW H} (h : w.ownsMap Try.prog k R b n D) (hb : w'.heap[b]? = w.heap[b]?) : w'.ownsMap Try.prog k R b n D := by
  obtain ⟨es, clock, h1, h2⟩ := h
  exact ⟨es, clock, hb.trans h1, h2⟩

theorem HadAt.later {w w' : World} {S : Nat → Prop} {b mb cnt : Nat} {D : DataW (Int × Int)} (h : HadAt w S b mb cnt D) (hk : Keeps (fun k => ¬ S k) w w') : HadAt w' S b mb cnt D :=
  { blk := (hk.block b (h.lt b h.bS) fun hn => hn h.bS).trans h.blk, own := map_kept' h.own (hk.block mb (h.lt mb h.mS) fun hn => hn h.mS), bS := h.bS, mS := h.mS, lt := fun k hk' => Nat.lt_of_lt_of_le (h.lt k hk') hk.size }

/-- What is noted of a node. -/
def Noted (D : DataW (Int × Int)) (id a b : Int) : Prop := D.atKey (.int .i64 id) (.held (0, 0)) = .held (a, b)

theorem Noted.put {D : DataW (Int × Int)} (hD : IsMap D) (id a b : Int) : Noted (D.put (.int .i64 id) (.held (a, b))) id a b := atKey_put_same hD (by trivial) _ _
theorem Noted.other {D : DataW (Int × Int)} {id id' a b a' b' : Int} (h : Noted D id' a' b') (hne : id' ≠ id) : Noted (D.put (.int .i64 id) (.held (a, b))) id' a' b' :=
  (atKey_put_other (fun e => by injection e with _ e; exact hne e) _ _).trans h

def HadLoop (wz : World) (S : Nat → Prop) (b mb : Nat) (nodes : List NodV) (m k : Nat) (wr : World) : Prop :=
  ∃ cnt D, HadAt wr S b mb cnt D ∧ cnt ≤ m ∧ (∀ (j : Nat) (h : j < nodes.length), j < k → Noted D ((j : Int) + 1) nodes[j].n.term nodes[j].n.vote) ∧
    (∀ (j : Nat) (h : j < nodes.length), k ≤ j → ∃ a c, Noted D ((j : Int) + 1) a c ∧ a ≤ nodes[j].n.term ∧ (nodes[j].n.term = a → c ≠ 0 → nodes[j].n.vote = c)) ∧ Keeps S wz wr

set_option maxRecDepth 100000 in
set_option maxHeartbeats 8000000 in
theorem had_look {w : World} {S : Nat → Prop} {W : WldV} {b mb cnt : Nat} {D : DataW (Int × Int)} (hok : WldOk w S W) (hl : HadAt w S b mb cnt D) (hcnt : cnt ≤ 100000) (hn5 : W.nodes.length ≤ 5)
    (hid : ∀ (j : Nat) (h : j < W.nodes.length), W.nodes[j].n.id = (j : Int) + 1)
    (hsay : ∀ (j : Nat) (h : j < W.nodes.length), ∃ a c, Noted D ((j : Int) + 1) a c ∧ a ≤ W.nodes[j].n.term ∧ (W.nodes[j].n.term = a → c ≠ 0 → W.nodes[j].n.vote = c)) :
    Calls Try.prog 42 #[.agg #[W.nv, W.ov], .pointer (some ⟨b, 0, none⟩)] w fun e w' => e = .returned (.bool true) ∧ HadLoop w S b mb W.nodes (cnt + 5) W.nodes.length w' := by
  obtain ⟨nodes, net, nv, ov⟩ := W
  obtain ⟨NA, NC, en1⟩ := hok.cells.form (nods_len nodes) (by decide)
  obtain ⟨OA, OC, en2⟩ := hok.msgs.cells.form (mess_len net) (by decide)
  simp only at en1 en2 hn5
  subst en1 en2
  obtain ⟨wz, B, hal, hB, hkz, hbz⟩ := box2 w (.slice NA nodes.length NC) (.slice OA net.length OC)
  obtain ⟨c0, c1, cf⟩ := cells2 hbz
  have hlz := hl.later (w' := wz) (hkz.mono fun _ h => h.elim)
  have HOK := Lib.hid hok; have HKZ := Lib.hid hkz; have HBZ := Lib.hid hbz; have HL := Lib.hid hlz; have HSAY := Lib.hid hsay; have HID := Lib.hid hid
  clear hok hbz hkz hl hlz hsay hid
  go_enter Try.func42, Try.ntmps42
  go_wp2_with fail
  go_loopw [10] (fun i wr => ∃ k : Nat, k ≤ nodes.length ∧ i = .int .i64 k ∧ HadLoop wz S b mb nodes (cnt + k) k wr) (fun i _ => nodes.length + 1 - (intOf i).toNat)
  case atStart => exact ⟨0, Nat.zero_le _, rfl, cnt, D, HL.out, Nat.le_refl _, fun j h h0 => by omega, fun j h _ => HSAY.out j h, Keeps.refl _ _⟩
  case round =>
    obtain ⟨k, hk, rfl, cn, D1, i1, i2, i3, i4, i5⟩ := hrel
    have hokr := HOK.out.into (S' := S) ((HKZ.out.mono (S' := S) fun _ h => h.elim).trans i5 fun _ h => .inl h) (fun _ _ h => h) fun _ _ h => h
    have I1 := Lib.hid i1; have I3 := Lib.hid i3; have I4 := Lib.hid i4; have I5 := Lib.hid i5
    clear i1 i3 i4 i5
    by_cases hlt : k < nodes.length
    · obtain ⟨bn, off, x, LA, LC, VA, VL, VC, MA, ML, MC, PA, PL, PC, rfl, hxk, hxo, r0, r1, r2, r3, r4, r5, r6, r7, r8, r9, r10⟩ := hokr.node (Keeps.refl _ wr) hlt
      obtain ⟨w4, b4, hal4, hb4, hk4, hbb4⟩ := box11 wr (.int .i64 x.id) (.int .i64 x.n) (.int .i64 x.term) (.int .i64 x.vote) (.slice LA x.log.length LC) (.int .i64 x.commit) (.int .i64 x.role) (.int .i64 x.boss) (.slice VA VL VC) (.slice MA ML MC) (.slice PA PL PC)
      obtain ⟨p0, p1, p2, p3, p4, p5, p6, p7, p8, p9, p10, pf⟩ := cells11 hbb4
      have hidk : x.id = (k : Int) + 1 := by have := HID.out k hlt; simp only [hxk] at this; exact this
      obtain ⟨a, c, s1, s2, s3⟩ := I4.out k hlt (Nat.le_refl _)
      rw [hxk] at s2 s3
      simp only at s2 s3
      have h4 := I1.out.later (hk4.mono (S' := fun k => ¬ S k) fun _ h => h.elim)
      have e0 := cell_of_row w4 b 0 _ _ _ h4.blk
      have hkey : keyOf Try.prog 3 (.int .i64 x.id) = some (.int .i64 x.id) := keyOf_int_mk Try.underlying3 (wf64 (by omega) (by omega))
      obtain ⟨v, ps, hrun, hv⟩ := h4.own.lookup law3 Try.underlying59 (zero61 w4) (seenElem_mk 0 0) hkey
      rw [hidk] at hv
      rw [show D1.atKey (Lit.int .i64 ((k : Int) + 1)) (.held (0, 0)) = .held (a, c) from s1] at hv
      obtain rfl := seenElem_inv hv
      obtain ⟨w5, hal5, hk5, hb5⟩ := box1' w4 (.cells #[.int .i64 a, .int .i64 c] 61)
      obtain ⟨b6, hb6⟩ : ∃ b6, w4.heap.size = b6 := ⟨_, rfl⟩
      rw [hb6] at hb5
      obtain ⟨q0, q1, qf⟩ := cells2 hb5
      obtain ⟨u0, u1, u2, u3, u4, u5, u6, u7, u8, u9, u10, uf⟩ := cells11 (hk5.blk hbb4)
      have e5 := hk5.cell (fun h => h) e0
      have h5 := h4.later (hk5.mono (S' := fun k => ¬ S k) fun _ h => h.elim)
      obtain ⟨w6, hrun2, hown6, hg6⟩ := h5.own.update law3 Try.underlying59 (by unfold maxLen; omega) hkey (seenElem_mk x.term x.vote)
      have hk6 : Keeps S w5 w6 := ⟨hg6.os, hg6.tape, hg6.output, hg6.size, fun k hk hS => hg6.block k hk fun e => hS (by injection e with e; exact e ▸ h5.mS)⟩
      have hD := World.ownsMap.isMap h5.own
      have fin : ∃ k' : Nat, k' ≤ nodes.length ∧ Value.int .i64 ((k : Int) + 1) = .int .i64 k' ∧ HadLoop wz S b mb nodes (cnt + k') k' w6 := by
        refine ⟨k + 1, by omega, by congr 1, cn + 1, _, { blk := (hg6.block b (laid_lt h5.blk) fun e => ?_).trans h5.blk, own := hown6, bS := h5.bS, mS := h5.mS, lt := fun k hk => Nat.lt_of_lt_of_le (h5.lt k hk) hk6.size }, by omega, ?_, ?_, ((I5.out.trans hk4 fun _ h => h.elim).trans hk5 fun _ h => h.elim).trans hk6 fun _ h => .inl h⟩
        · injection e with e
          have h1 := h5.blk
          obtain ⟨es, cl, h2, _⟩ := h5.own
          rw [e, h2] at h1
          cases h1
        · intro j hj hjk
          rw [hidk]
          rcases Nat.lt_or_ge j k with h | h
          · exact (I3.out j hj h).other (by omega)
          · obtain rfl : j = k := by omega
            rw [hxk]
            exact Noted.put hD _ _ _
        · intro j hj hjk
          obtain ⟨a', c', g1, g2, g3⟩ := I4.out j hj (by omega)
          rw [hidk]
          exact ⟨a', c', g1.other (by omega), g2, g3⟩
      have FIN := Lib.hid fin
      have g1 : decide (x.term < a) = false := by simp; omega
      clear fin hown6 hg6 hk6 hD h5 h4 hv s1 hxk hxo hokr hk4 hk5 hb5 hbb4 hidk hkey
      cases ga : (x.term == a)
      case false =>
        clear s3
        go_wp2_with fail
        go_roundw
        case rel => exact FIN.out
        case measure => simp [intOf]; omega
      case true =>
        have ht : x.term = a := by simpa using ga
        cases gb : (c != 0)
        case false =>
          clear s3 ht
          go_wp2_with fail
          go_roundw
          case rel => exact FIN.out
          case measure => simp [intOf]; omega
        case true =>
          have hv : x.vote = c := s3 ht (by simpa using gb)
          have gc : (x.vote != c) = false := by simpa using hv
          clear s3 ht hv
          go_wp2_with fail
          go_roundw
          case rel => exact FIN.out
          case measure => simp [intOf]; omega
    · have hkk : k = nodes.length := by omega
      subst hkk
      go_wp2_with fail
      go_ret
      exact ⟨rfl, cn, D1, I1.out, by omega, I3.out, fun j h h' => by omega, (HKZ.out.mono (S' := S) fun _ h => h.elim).trans I5.out fun _ h => .inl h⟩

theorem call42 (args : Array Value) (w : World) : (callFunc 42 args).run Try.prog w = .ok (.enter 42 args) w := by kernel_rfl

def HadSays (ns : List Nod) (D : DataW (Int × Int)) : Prop := ∀ (j : Nat) (h : j < ns.length), ∃ a c, Noted D ((j : Int) + 1) a c ∧ a ≤ ns[j].term ∧ (ns[j].term = a → c ≠ 0 → ns[j].vote = c)

def HadInv (n : Int) (b mb m : Nat) (S : Nat → Prop) (W : Wld) (w : World) : Prop := ¬ (n < 1 ∨ 5 < n) ∧ Sound n W ∧ ∃ cnt D, HadAt w S b mb cnt D ∧ HadSays W.nodes D ∧ cnt ≤ m

def HadInv' (n : Int) (b mb m : Nat) (S : Nat → Prop) (W : Wld) (w : World) : Prop := ¬ (n < 1 ∨ 5 < n) ∧ Sound n W ∧ ∃ cnt D, HadAt w S b mb cnt D ∧ (∀ (j : Nat) (h : j < W.nodes.length), Noted D ((j : Int) + 1) W.nodes[j].term W.nodes[j].vote) ∧ cnt ≤ m

theorem HadSays.step {ws ws' : Wld} {D : DataW (Int × Int)} (hl : ws'.nodes.length = ws.nodes.length) (hv : VotesAll ws ws') (h : ∀ (j : Nat) (h : j < ws.nodes.length), Noted D ((j : Int) + 1) ws.nodes[j].term ws.nodes[j].vote) : HadSays ws'.nodes D := fun j hj => by
  have hj' : j < ws.nodes.length := by omega
  have h1 := hv j _ _ (List.getElem?_eq_getElem hj') (List.getElem?_eq_getElem hj)
  exact ⟨_, _, h j hj', h1.1, fun e hc => h1.2 e hc⟩

set_option maxRecDepth 100000 in
set_option maxHeartbeats 8000000 in
theorem clusterVotes_walk {w : World} {ev : Value} {evs : List Evt} (hstp : StepSays) (n : Int) (hev : Sl w Free ev 3 (evs.flatMap evtCells)) :
    Calls Try.prog 14 #[.int .i64 n, ev] w fun e w' => e = .returned (.bool true) ∧ Keeps Free w w' := by
  have hthru : ∀ (w0 w1 w2 : World) (b : Nat), Keeps Free w w0 → w0.heap.size = b → w0.alloc (.map #[] 0) = w1 → w1.alloc (.cells #[.map (some b)] 59) = w2 →
      Calls Try.prog 37 #[.int .i64 n, ev, .func (.func 42) #[] #[.pointer (some ⟨b + 1, 0, none⟩)]] w2 fun e w' => e = .returned (.bool true) ∧ Keeps Free w w' := fun w0 w1 w2 b h0 hb h1 h2 => by
    have k1 : Keeps Free w0 w2 := by rw [← h2, ← h1]; exact ((Keeps.refl _ w0).alloc _).alloc _
    have hm1 : w1.ownsMap Try.prog 3 seenElem b 0 (.map []) := by rw [← h1, ← hb]; exact World.ownsMap_made _ _ _ _
    have hm : w2.ownsMap Try.prog 3 seenElem b 0 (.map []) := by rw [← h2]; exact hm1.alloc _
    have hb2 : w2.heap[b + 1]? = some (.cells #[.map (some b)] 59 (0, 0)) := by
      have hs : w1.heap.size = b + 1 := by rw [← h1, World.size_alloc, hb]
      rw [← h2, ← hs]; exact heap_alloc_new _ _
    have kw := h0.trans k1 fun _ h => .inl h
    refine (through_anyK (w := w2) (S0 := fun k => k = b ∨ k = b + 1) (fun i => HadInv n (b + 1) b (5 * i)) (fun i => HadInv' n (b + 1) b (5 * i + 5)) hstp (hev.into kw (fun _ _ h => h) fun k hk e => by have := h0.size; omega) call42 (fun i S W w2 h k hk => by obtain ⟨_, _, c, D, h, _⟩ := h; exact h.lt k hk)
      (fun i S W w2 h => h.2.1.lens h.1) (fun k hk => hk.elim (fun e => e ▸ hm.lt) fun e => e ▸ laid_lt hb2) ?_ ?_ ?_).mono ?_
    · intro hn _ w3 k2
      refine ⟨hn, firstWld_sound (by omega) (by omega), 0, .map [], ?_, fun j hj => ⟨0, 0, rfl, ?_, fun _ h => absurd rfl h⟩, Nat.zero_le _⟩
      · have e1 := k2.block b hm.lt (fun h => h)
        exact { blk := k2.blk hb2, own := map_kept' hm e1, bS := .inr rfl, mS := .inl rfl, lt := fun k hk => hk.elim (fun e => e ▸ Nat.lt_of_lt_of_le hm.lt k2.size) fun e => e ▸ laid_lt (k2.blk hb2) }
      · simp [firstWld, start]
    · intro i S W w3 hi h hok
      obtain ⟨hn, hs, c, D, hat, hsay, hc⟩ := h
      have hlen : W.nodes.length = W.w.nodes.length := by simp [WldV.w]
      have hnd : ∀ (j : Nat) (h : j < W.nodes.length), W.w.nodes[j]'(hlen ▸ h) = W.nodes[j].n := fun j h => by simp only [WldV.w, List.getElem_map]
      have h5 : W.nodes.length ≤ 5 := by have := hs.len; omega
      refine (had_look hok hat (by omega) h5 (fun j h => by have := hs.id j (hlen ▸ h); rw [hnd j h] at this; exact this) (fun j h => by have := hsay j (hlen ▸ h); rw [hnd j h] at this; exact this)).mono ?_
      rintro e w4 ⟨rfl, c1, D1, i1, i2, i3, _, i5⟩
      exact ⟨rfl, S, ⟨hn, hs, c1, D1, i1, fun j h => by have h' : j < W.nodes.length := hlen ▸ h; rw [hnd j h']; exact i3 j h' h', by omega⟩, i5, fun k hk => .inl hk⟩
    · intro i S W w3 w4 e h k3
      obtain ⟨hn, hs, c, D, hat, hsay, hc⟩ := h
      have hs' := cstep_sound hs e
      exact ⟨hn, hs', c, D, hat.later k3, HadSays.step (by have := hs.len; have := hs'.len; omega) (cstep_votes _ _) hsay, by omega⟩
    · rintro e w' ⟨rfl, k2⟩
      exact ⟨rfl, kw.trans k2 fun k e => .inr (by have := h0.size; omega)⟩
  have HT := Lib.hid hthru; have HS := Lib.hid hstp
  obtain ⟨A, C, rfl⟩ := hev.form (evts_len evs) (by decide)
  clear hthru hstp hev
  have hmm := @run_makeMap Try.prog
  go_enter Try.func14, Try.ntmps14
  go_wp2_with fail
  refine (alive16_any HS.out _).mono ?_
  rintro e w2 ⟨rfl, k2⟩
  obtain ⟨w3, h3⟩ : ∃ w3, w2.alloc (.map #[] 0) = w3 := ⟨_, rfl⟩
  obtain ⟨b, hb⟩ : ∃ b, w2.heap.size = b := ⟨_, rfl⟩
  have hb3 : w3.heap.size = b + 1 := by rw [← h3, World.size_alloc, hb]
  have hcall := HT.out w2 w3 (w3.alloc (.cells #[.map (some b)] 59)) b k2 hb h3 rfl
  have HC := Lib.hid hcall
  clear k2 hcall
  go_wp2_with fail
  refine HC.out.mono ?_
  rintro e w5 ⟨rfl, k4⟩
  have K4 := Lib.hid k4
  clear k4
  go_wp2_with fail
  go_ret
  exact ⟨rfl, K4.out⟩
end Go.Proofs.Ytibjbpakbfodaaa
