/- ClusterLeaders, walked. -/
import Derived.Test.YtibjbpakbfodaaaLogsw
import Derived.Maps.OwnSet
import Derived.Maps.OwnOps
import Derived.Maps.Views
namespace Go.Proofs.Ytibjbpakbfodaaa
open Go.RowKit Go.Maps

theorem law3 : Keyed Try.prog 3 := int_keyed Try.underlying3
theorem zero3 (w : World) : (zeroValue 3).run Try.prog w = .ok (.int .i64 0) w := by kernel_rfl

/-- Who has been noted to lead: a map, in its variable. -/
structure LedAt (w : World) (S : Nat → Prop) (b mb cnt : Nat) (D : DataW Unit) : Prop where
  blk : w.heap[b]? = some (.cells #[.map (some mb)] 52 (0, 0))
  own : w.ownsMap Try.prog 3 (plainElem Try.prog 3) mb cnt D
  bS : S b
  mS : S mb
  lt : ∀ k, S k → k < w.heap.size

theorem map_kept {w w' : World} {k b n : Nat} {R : Value → Option (DataW Unit × List MemPlace)} {D : DataW Unit} (h : w.ownsMap Try.prog k R b n D) (hb : w'.heap[b]? = w.heap[b]?) : w'.ownsMap Try.prog k R b n D := by
  obtain ⟨es, clock, h1, h2⟩ := h
  exact ⟨es, clock, hb.trans h1, h2⟩

theorem LedAt.later {w w' : World} {S : Nat → Prop} {b mb cnt : Nat} {D : DataW Unit} (h : LedAt w S b mb cnt D) (hk : Keeps (fun k => ¬ S k) w w') : LedAt w' S b mb cnt D :=
  { blk := (hk.block b (h.lt b h.bS) fun hn => hn h.bS).trans h.blk, own := map_kept h.own (hk.block mb (h.lt mb h.mS) fun hn => hn h.mS), bS := h.bS, mS := h.mS, lt := fun k hk' => Nat.lt_of_lt_of_le (h.lt k hk') hk.size }

/-- What the map says. -/
def LedSays (G : Gh) (D : DataW Unit) : Prop := ∀ t : Int, Maps.has D (.int .i64 t) = true → ∀ c, D.atKey (.int .i64 t) (.lit (.int .i64 0)) = .lit (.int .i64 c) → ∃ L, G.ld t = some (c, L)

theorem LedSays.put {G : Gh} {D : DataW Unit} (h : LedSays G D) (hD : IsMap D) {t k : Int} {L : List Itm} (hl : G.ld t = some (k, L)) : LedSays G (D.put (.int .i64 t) (.lit (.int .i64 k))) := by
  intro t' ht' c hc
  by_cases e : t' = t
  · subst e
    rw [atKey_put_same hD (by trivial)] at hc
    injection hc with hc
    injection hc with _ hc
    subst hc
    exact ⟨L, hl⟩
  · have hne : (Lit.int .i64 t') ≠ Lit.int .i64 t := fun h => by injection h with _ h; exact e h
    rw [atKey_put_other hne] at hc
    rw [has_put_other hne] at ht'
    exact h t' ht' c hc

def LedLoop (wz : World) (S : Nat → Prop) (b mb : Nat) (G : Gh) (m : Nat) (wr : World) : Prop :=
  ∃ cnt D, LedAt wr S b mb cnt D ∧ LedSays G D ∧ cnt ≤ m ∧ Keeps S wz wr

theorem wf64 {a : Int} (h0 : 0 ≤ a) (h1 : a ≤ 1000000) : (Lit.int .i64 a).wf = true := WalkArith.wf_i64 (by omega)

set_option maxRecDepth 100000 in
set_option maxHeartbeats 8000000 in
theorem led_look {w : World} {S : Nat → Prop} {W : WldV} {b mb cnt : Nat} {D : DataW Unit} {G : Gh} (hok : WldOk w S W) (hl : LedAt w S b mb cnt D) (hsay : LedSays G D) (hcnt : cnt ≤ 100000) (hn5 : W.nodes.length ≤ 5)
    (hx : ∀ x ∈ W.nodes, Good x.n) (hld : ∀ x ∈ W.nodes, x.n.role = 3 → ∃ L, G.ld x.n.term = some (x.n.id, L)) :
    Calls Try.prog 38 #[.agg #[W.nv, W.ov], .pointer (some ⟨b, 0, none⟩)] w fun e w' => e = .returned (.bool true) ∧ LedLoop w S b mb G (cnt + 5) w' := by
  obtain ⟨nodes, net, nv, ov⟩ := W
  obtain ⟨NA, NC, en1⟩ := hok.cells.form (nods_len nodes) (by decide)
  obtain ⟨OA, OC, en2⟩ := hok.msgs.cells.form (mess_len net) (by decide)
  simp only at en1 en2 hn5
  subst en1 en2
  obtain ⟨wz, B, hal, hB, hkz, hbz⟩ := box2 w (.slice NA nodes.length NC) (.slice OA net.length OC)
  obtain ⟨c0, c1, cf⟩ := cells2 hbz
  have hlz := hl.later (w' := wz) (hkz.mono fun _ h => h.elim)
  have HOK := Lib.hid hok; have HKZ := Lib.hid hkz; have HBZ := Lib.hid hbz; have HL := Lib.hid hlz; have HSAY := Lib.hid hsay; have HX := Lib.hid hx; have HLD := Lib.hid hld
  clear hok hbz hkz hl hlz hsay hx hld
  go_enter Try.func38, Try.ntmps38
  go_wp2_with fail
  go_loopw [11] (fun i wr => ∃ k : Nat, k ≤ nodes.length ∧ i = .int .i64 k ∧ LedLoop wz S b mb G (cnt + k) wr) (fun i _ => nodes.length + 1 - (intOf i).toNat)
  case atStart => exact ⟨0, Nat.zero_le _, rfl, cnt, D, HL.out, HSAY.out, Nat.le_refl _, Keeps.refl _ _⟩
  case round =>
    obtain ⟨k, hk, rfl, cn, D1, i1, i2, i3, i4⟩ := hrel
    have hokr := HOK.out.into (S' := S) ((HKZ.out.mono (S' := S) fun _ h => h.elim).trans i4 fun _ h => .inl h) (fun _ _ h => h) fun _ _ h => h
    have I1 := Lib.hid i1; have I2 := Lib.hid i2; have I4 := Lib.hid i4
    clear i1 i2 i4
    by_cases hlt : k < nodes.length
    · obtain ⟨bn, off, x, LA, LC, VA, VL, VC, MA, ML, MC, PA, PL, PC, rfl, hxk, hxo, r0, r1, r2, r3, r4, r5, r6, r7, r8, r9, r10⟩ := hokr.node (Keeps.refl _ wr) hlt
      obtain ⟨w4, b4, hal4, hb4, hk4, hbb4⟩ := box11 wr (.int .i64 x.id) (.int .i64 x.n) (.int .i64 x.term) (.int .i64 x.vote) (.slice LA x.log.length LC) (.int .i64 x.commit) (.int .i64 x.role) (.int .i64 x.boss) (.slice VA VL VC) (.slice MA ML MC) (.slice PA PL PC)
      obtain ⟨p0, p1, p2, p3, p4, p5, p6, p7, p8, p9, p10, pf⟩ := cells11 hbb4
      have hgx := HX.out nodes[k] (List.getElem_mem hlt)
      have hldx := HLD.out nodes[k] (List.getElem_mem hlt)
      rw [hxk] at hgx hldx
      have h4 := I1.out.later (hk4.mono (S' := fun k => ¬ S k) fun _ h => h.elim)
      have e0 := cell_of_row w4 b 0 _ _ _ h4.blk
      have H4 := Lib.hid h4; have HK4 := Lib.hid hk4; have HLX := Lib.hid hldx; have HGX := Lib.hid hgx
      have hb4S : ¬ S b4 := fun h => by have := I1.out.lt _ h; omega
      have HBS := Lib.hid hb4S; have HBB4 := Lib.hid hbb4
      clear hxk hxo hokr h4 hk4 hldx hgx hb4S hbb4
      cases q1 : (x.role != 3)
      case true =>
        go_wp2_with fail
        go_roundw
        case rel => exact ⟨k + 1, by omega, by go_num, cn, D1, H4.out, I2.out, by omega, I4.out.trans HK4.out fun _ h => h.elim⟩
        case measure => simp [intOf]; omega
      case false =>
        have hr3 : x.role = 3 := by simpa using q1
        obtain ⟨L, hL⟩ := HLX.out hr3
        simp only at hL
        have hkey : keyOf Try.prog 3 (.int .i64 x.term) = some (.int .i64 x.term) := keyOf_int_mk Try.underlying3 (wf64 HGX.out.term0 HGX.out.termn)
        have hkl := LedSays.put I2.out (World.ownsMap.isMap H4.out.own) hL
        have HKEY := Lib.hid hkey; have HLL := Lib.hid hL; have HKL := Lib.hid hkl
        clear hkey hL hkl hr3
        go_upto_region 6 with (at_lookup; refine wpList_lookup_own_ok_int _ rfl _ _ 52 rfl 3 3 .i64 law3 Try.underlying52 Try.underlying3 (zero3 _) mb cn _ rfl H4.out.own _ _ rfl HKEY.out ?_; intro c hat hwc)
        cases hh : Maps.has D1 (Lit.int .i64 x.term)
        case true =>
          have hc : c = x.id := by
            obtain ⟨L', h1⟩ := I2.out x.term hh c hat
            rw [HLL.out] at h1
            injection h1 with h1
            injection h1 with h1 _
            exact h1.symm
          subst hc
          have HHH := Lib.hid hh
          clear hat hwc hh
          go_wp2_with (at_mapUpdate; refine wpList_mapUpdate_own _ rfl _ _ _ 52 rfl 3 3 law3 Try.underlying52 _ mb cn _ rfl H4.out.own (by unfold maxLen; omega) _ _ _ rfl rfl HKEY.out _ [] (plainElem_int Try.underlying3 (wf64 (by have := HGX.out.id1; simp only at this; omega) (by have h1 := HGX.out.idn; have h2 := HGX.out.n5; simp only at h1 h2; omega))) ?_; intro w5 hown5 hgrow5)
          go_roundw
          case rel =>
            have hk5 : Keeps S w4 w5 := ⟨hgrow5.os, hgrow5.tape, hgrow5.output, hgrow5.size, fun k hk hS => hgrow5.block k hk fun e => hS (by injection e with e; exact e ▸ H4.out.mS)⟩
            refine ⟨k + 1, by omega, by go_num, cn + 1, _, { blk := (hgrow5.block b (laid_lt H4.out.blk) fun e => ?_).trans H4.out.blk, own := hown5, bS := H4.out.bS, mS := H4.out.mS, lt := fun k hk => Nat.lt_of_lt_of_le (H4.out.lt k hk) hk5.size }, HKL.out, by omega, (I4.out.trans HK4.out fun _ h => h.elim).trans hk5 fun _ h => .inl h⟩
            injection e with e
            have h1 := H4.out.blk
            obtain ⟨es, cl, h2, _⟩ := H4.out.own
            rw [e, h2] at h1
            cases h1
          case measure => simp [intOf]; omega
        case false =>
          have HHH := Lib.hid hh
          clear hat hwc hh
          go_wp2_with (at_mapUpdate; refine wpList_mapUpdate_own _ rfl _ _ _ 52 rfl 3 3 law3 Try.underlying52 _ mb cn _ rfl H4.out.own (by unfold maxLen; omega) _ _ _ rfl rfl HKEY.out _ [] (plainElem_int Try.underlying3 (wf64 (by have := HGX.out.id1; simp only at this; omega) (by have h1 := HGX.out.idn; have h2 := HGX.out.n5; simp only at h1 h2; omega))) ?_; intro w5 hown5 hgrow5)
          go_roundw
          case rel =>
            have hk5 : Keeps S w4 w5 := ⟨hgrow5.os, hgrow5.tape, hgrow5.output, hgrow5.size, fun k hk hS => hgrow5.block k hk fun e => hS (by injection e with e; exact e ▸ H4.out.mS)⟩
            refine ⟨k + 1, by omega, by go_num, cn + 1, _, { blk := (hgrow5.block b (laid_lt H4.out.blk) fun e => ?_).trans H4.out.blk, own := hown5, bS := H4.out.bS, mS := H4.out.mS, lt := fun k hk => Nat.lt_of_lt_of_le (H4.out.lt k hk) hk5.size }, HKL.out, by omega, (I4.out.trans HK4.out fun _ h => h.elim).trans hk5 fun _ h => .inl h⟩
            injection e with e
            have h1 := H4.out.blk
            obtain ⟨es, cl, h2, _⟩ := H4.out.own
            rw [e, h2] at h1
            cases h1
          case measure => simp [intOf]; omega
    · go_wp2_with fail
      go_ret
      exact ⟨rfl, cn, D1, I1.out, I2.out, by omega, (HKZ.out.mono (S' := S) fun _ h => h.elim).trans I4.out fun _ h => .inl h⟩

theorem call38 (args : Array Value) (w : World) : (callFunc 38 args).run Try.prog w = .ok (.enter 38 args) w := by kernel_rfl

theorem LedSays.later {G G' : Gh} (h : Later G G') {D : DataW Unit} (hl : LedSays G D) : LedSays G' D := fun t ht c hc => by
  obtain ⟨L, h1⟩ := hl t ht c hc
  obtain ⟨E, h2, _⟩ := h.ld _ _ _ h1
  exact ⟨_, h2⟩

theorem Reached.good {n : Int} {W : WldV} (h : Sound n W.w) : ∀ x ∈ W.nodes, Good x.n := by
  intro x hx
  obtain ⟨i, hi, rfl⟩ := List.mem_iff_getElem.1 hx
  have := h.good i (by simpa [WldV.w] using hi)
  simpa only [WldV.w, List.getElem_map] using this

def LedInv (n : Int) (b mb m : Nat) (S : Nat → Prop) (W : Wld) (w : World) : Prop := ¬ (n < 1 ∨ 5 < n) ∧ Sound n W ∧ ∃ G cnt D, WInv n G W ∧ LedAt w S b mb cnt D ∧ LedSays G D ∧ cnt ≤ m

set_option maxRecDepth 100000 in
set_option maxHeartbeats 8000000 in
theorem clusterLeaders_walk {w : World} {ev : Value} {evs : List Evt} (hstp : StepSays) (n : Int) (hev : Sl w Free ev 3 (evs.flatMap evtCells)) :
    Calls Try.prog 10 #[.int .i64 n, ev] w fun e w' => e = .returned (.bool true) ∧ Keeps Free w w' := by
  have hthru : ∀ (w0 w1 w2 : World) (b : Nat), Keeps Free w w0 → w0.heap.size = b → w0.alloc (.map #[] 0) = w1 → w1.alloc (.cells #[.map (some b)] 52) = w2 →
      Calls Try.prog 37 #[.int .i64 n, ev, .func (.func 38) #[] #[.pointer (some ⟨b + 1, 0, none⟩)]] w2 fun e w' => e = .returned (.bool true) ∧ Keeps Free w w' := fun w0 w1 w2 b h0 hb h1 h2 => by
    have k1 : Keeps Free w0 w2 := by rw [← h2, ← h1]; exact ((Keeps.refl _ w0).alloc _).alloc _
    have hm1 : w1.ownsMap Try.prog 3 (plainElem (H := Unit) Try.prog 3) b 0 (.map []) := by rw [← h1, ← hb]; exact World.ownsMap_made _ _ _ _
    have hm : w2.ownsMap Try.prog 3 (plainElem (H := Unit) Try.prog 3) b 0 (.map []) := by rw [← h2]; exact hm1.alloc _
    have hb2 : w2.heap[b + 1]? = some (.cells #[.map (some b)] 52 (0, 0)) := by
      have hs : w1.heap.size = b + 1 := by rw [← h1, World.size_alloc, hb]
      rw [← h2, ← hs]; exact heap_alloc_new _ _
    have kw := h0.trans k1 fun _ h => .inl h
    refine (through_anyK (w := w2) (S0 := fun k => k = b ∨ k = b + 1) (fun i => LedInv n (b + 1) b (5 * i)) (fun i => LedInv n (b + 1) b (5 * i + 5)) hstp (hev.into kw (fun _ _ h => h) fun k hk e => by have := h0.size; omega) call38 (fun i S W w2 h k hk => by obtain ⟨_, _, G, c, D, _, h, _⟩ := h; exact h.lt k hk)
      (fun i S W w2 h => h.2.1.lens h.1) (fun k hk => hk.elim (fun e => e ▸ hm.lt) fun e => e ▸ laid_lt hb2) ?_ ?_ ?_).mono ?_
    · intro hn _ w3 k2
      refine ⟨hn, firstWld_sound (by omega) (by omega), _, 0, .map [], firstWld_inv n, ?_, fun t ht => by simp [Maps.has] at ht, Nat.zero_le _⟩
      have e1 := k2.block b hm.lt (fun h => h)
      exact { blk := k2.blk hb2, own := map_kept hm e1, bS := .inr rfl, mS := .inl rfl, lt := fun k hk => hk.elim (fun e => e ▸ Nat.lt_of_lt_of_le hm.lt k2.size) fun e => e ▸ laid_lt (k2.blk hb2) }
    · intro i S W w3 hi h hok
      obtain ⟨hn, hs, G, c, D, hG, hat, hsay, hc⟩ := h
      refine (led_look hok hat hsay (by omega) (Reached.len5 ⟨hn, hs, G, hG⟩) (Reached.good hs) (fun x hx hr => ⟨_, hG.leads (List.mem_map_of_mem hx) hr⟩)).mono ?_
      rintro e w4 ⟨rfl, c1, D1, i1, i2, i3, i4⟩
      exact ⟨rfl, S, ⟨hn, hs, G, c1, D1, hG, i1, i2, by omega⟩, i4, fun k hk => .inl hk⟩
    · intro i S W w3 w4 e h k3
      obtain ⟨hn, hs, G, c, D, hG, hat, hsay, hc⟩ := h
      obtain ⟨G', hG', hL⟩ := cstep_inv hs hG e
      exact ⟨hn, cstep_sound hs e, G', c, D, hG', hat.later k3, hsay.later hL, by omega⟩
    · rintro e w' ⟨rfl, k2⟩
      exact ⟨rfl, kw.trans k2 fun k e => .inr (by have := h0.size; omega)⟩
  have HT := Lib.hid hthru; have HS := Lib.hid hstp
  obtain ⟨A, C, rfl⟩ := hev.form (evts_len evs) (by decide)
  clear hthru hstp hev
  have hmm := @run_makeMap Try.prog
  go_enter Try.func10, Try.ntmps10
  go_wp2_with fail
  refine (alive16_any HS.out _).mono ?_
  rintro e w2 ⟨rfl, k2⟩
  obtain ⟨w3, h3⟩ : ∃ w3, w2.alloc (.map #[] 0) = w3 := ⟨_, rfl⟩
  obtain ⟨b, hb⟩ : ∃ b, w2.heap.size = b := ⟨_, rfl⟩
  have hb3 : w3.heap.size = b + 1 := by rw [← h3, World.size_alloc, hb]
  have hcall := HT.out w2 w3 (w3.alloc (.cells #[.map (some b)] 52)) b k2 hb h3 rfl
  have HC := Lib.hid hcall
  clear k2 hcall
  go_wp2_with fail
  refine HC.out.mono ?_
  rintro e w5 ⟨rfl, k4⟩
  have K4 := Lib.hid k4
  clear k4
  go_wp2_with fail
  go_ret
  exact ⟨rfl, K4.out⟩
end Go.Proofs.Ytibjbpakbfodaaa
