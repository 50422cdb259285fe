/- RaftSteps, walked: what the package does, and what the document's answer does, is one. -/
import Derived.Test.YtibjbpakbfodaaaRefI
namespace Go.Proofs.Ytibjbpakbfodaaa
open Go.RowKit

theorem others_len (x : Nod) : (others x).length ≤ x.n.toNat := by
  unfold others
  exact Nat.le_trans (List.length_filter_le _ _) (by simp)
theorem putSays_len (x : Nod) (c : Int) : (putSays x c).length ≤ x.n.toNat := by
  unfold putSays
  rw [List.length_map]
  have := others_len (put x c)
  rwa [(put_fields x c).2.1] at this
theorem leadSays_len (x : Nod) : (leadSays x).length ≤ x.n.toNat := by
  unfold leadSays
  split
  · exact putSays_len (crowned x) 0
  · simp
theorem timeout_len (x : Nod) : (timeout x).2.length ≤ 10 := by
  unfold timeout
  split
  · simp
  · rename_i h
    have g := good_of_wrong (x := x) (by omega)
    have h1 := others_len (stood x)
    have h2 := leadSays_len (stood x)
    have e : (stood x).n = x.n := rfl
    rw [e] at h1 h2
    have := g.n5
    simp only [List.length_append, List.length_map]
    omega
theorem beat_len (x : Nod) : (beat x).2.length ≤ 10 := by
  unfold beat
  split
  · simp
  · rename_i h
    have g := good_of_wrong (x := x) (by omega)
    have h1 := others_len x
    have := g.n5
    simp only [List.length_map]
    omega
theorem propose_len (x : Nod) (c : Int) : (propose x c).2.1.length ≤ 10 := by
  unfold propose
  split
  · simp
  · rename_i h
    have g := good_of_wrong (x := x) (by omega)
    have h1 := putSays_len x c
    have := g.n5
    simp only
    omega

theorem sized_good {x : Nod} (g : Good x) : Sized x := ⟨by have := g.log60; omega, by have := g.votes_len; omega, by have := g.next_len; omega, by have := g.mtch_len; omega⟩

theorem timeout_sized {x : Nod} (h : Sized x) : Sized (timeout x).1 := by
  by_cases hw : wrong x = 0
  · exact sized_good (timeout_good (good_of_wrong hw))
  · have : timeout x = (x, []) := by unfold timeout; rw [if_pos (.inl hw)]
    rw [this]; exact h
theorem beat_sized {x : Nod} (h : Sized x) : Sized (beat x).1 := by
  by_cases hw : wrong x = 0
  · exact sized_good (beat_good (good_of_wrong hw))
  · have : beat x = (x, []) := by unfold beat; rw [if_pos (.inl hw)]
    rw [this]; exact h
theorem propose_sized {x : Nod} (c : Int) (h : Sized x) : Sized (propose x c).1 := by
  by_cases hw : wrong x = 0
  · exact sized_good (propose_good c (good_of_wrong hw))
  · have : propose x c = (x, [], false) := by unfold propose; rw [if_pos (.inl hw)]
    rw [this]; exact h
theorem restart_sized {x : Nod} (h : Sized x) : Sized (restart x) := by
  by_cases hw : wrong x = 0
  · exact sized_good (restart_good (good_of_wrong hw))
  · have : restart x = x := by unfold restart; rw [if_pos hw]
    rw [this]; exact h

theorem hands_names {w w' : World} {Q : Nat → Prop} {y : Nod} {ms : List Mes} {e : Ending} (h : Hands w Q y ms e w') : ∃ (LA : Option Addr) (LC : Nat) (VA : Option Addr) (VC : Nat) (NA : Option Addr) (NC : Nat) (MA : Option Addr) (MC : Nat) (OA : Option Addr) (OC : Nat) (out : List MesV), e = .returned (.tuple #[.agg #[.int .i64 y.id, .int .i64 y.n, .int .i64 y.term, .int .i64 y.vote, .slice LA y.log.length LC, .int .i64 y.commit, .int .i64 y.role, .int .i64 y.boss, .slice VA y.votes.length VC, .slice NA y.next.length NC, .slice MA y.mtch.length MC], .slice OA out.length OC]) ∧ said out = ms ∧
      NodeOk w' Q ⟨y, .slice LA y.log.length LC, .slice VA y.votes.length VC, .slice NA y.next.length NC, .slice MA y.mtch.length MC⟩ ∧ MsgsOk w' Q (.slice OA out.length OC) out ∧ Keeps Free w w' := by
  obtain ⟨⟨n, lv, vv, nv, mv⟩, ov, out, rfl, rfl, hs, hn, hm, hk⟩ := h
  obtain ⟨LA, LC, VA, VC, NA, NC, MA, MC, e1, e2, e3, e4⟩ := hn.shape
  obtain ⟨OA, OC, e5⟩ := hm.cells.form9
  subst e1 e2 e3 e4 e5
  exact ⟨_, _, _, _, _, _, _, _, _, _, out, rfl, hs, hn, hm, hk⟩
theorem handsR_names {w w' : World} {Q : Nat → Prop} {y : Nod} {ms : List Mes} {e : Ending} (hQ : ∀ k, Q k → k < w.heap.size) (h : HandsR w Q y ms e w') : ∃ (LA : Option Addr) (LC : Nat) (VA : Option Addr) (VC : Nat) (NA : Option Addr) (NC : Nat) (MA : Option Addr) (MC : Nat) (OA : Option Addr) (OC : Nat) (out : List MesV), e = .returned (.tuple #[.agg #[.int .i64 y.id, .int .i64 y.n, .int .i64 y.term, .int .i64 y.vote, .slice LA y.log.length LC, .int .i64 y.commit, .int .i64 y.role, .int .i64 y.boss, .slice VA y.votes.length VC, .slice NA y.next.length NC, .slice MA y.mtch.length MC], .slice OA out.length OC]) ∧ said out = ms ∧
      NodeOk w' Q ⟨y, .slice LA y.log.length LC, .slice VA y.votes.length VC, .slice NA y.next.length NC, .slice MA y.mtch.length MC⟩ ∧ MsgsOk w' Q (.slice OA out.length OC) out ∧ Keeps Free w w' := by
  obtain ⟨⟨n, lv, vv, nv, mv⟩, ov, out, rfl, rfl, hs, hn, hm, hk⟩ := h
  obtain ⟨LA, LC, VA, VC, NA, NC, MA, MC, e1, e2, e3, e4⟩ := hn.shape
  obtain ⟨OA, OC, e5⟩ := hm.cells.form9
  subst e1 e2 e3 e4 e5
  exact ⟨_, _, _, _, _, _, _, _, _, _, out, rfl, hs, hn, hm.weak fun k _ hk => hQ k hk, hk⟩
theorem handsP_names {w w' : World} {Q : Nat → Prop} {y : Nod} {ms : List Mes} {b : Bool} {e : Ending} (hQ : ∀ k, Q k → k < w.heap.size) (h : HandsP w Q y ms b e w') : ∃ (LA : Option Addr) (LC : Nat) (VA : Option Addr) (VC : Nat) (NA : Option Addr) (NC : Nat) (MA : Option Addr) (MC : Nat) (OA : Option Addr) (OC : Nat) (out : List MesV), e = .returned (.tuple #[.agg #[.int .i64 y.id, .int .i64 y.n, .int .i64 y.term, .int .i64 y.vote, .slice LA y.log.length LC, .int .i64 y.commit, .int .i64 y.role, .int .i64 y.boss, .slice VA y.votes.length VC, .slice NA y.next.length NC, .slice MA y.mtch.length MC], .slice OA out.length OC, .bool b]) ∧ said out = ms ∧
      NodeOk w' Q ⟨y, .slice LA y.log.length LC, .slice VA y.votes.length VC, .slice NA y.next.length NC, .slice MA y.mtch.length MC⟩ ∧ MsgsOk w' Q (.slice OA out.length OC) out ∧ Keeps Free w w' := by
  obtain ⟨⟨n, lv, vv, nv, mv⟩, ov, out, rfl, rfl, hs, hn, hm, hk⟩ := h
  obtain ⟨LA, LC, VA, VC, NA, NC, MA, MC, e1, e2, e3, e4⟩ := hn.shape
  obtain ⟨OA, OC, e5⟩ := hm.cells.form9
  subst e1 e2 e3 e4 e5
  exact ⟨_, _, _, _, _, _, _, _, _, _, out, rfl, hs, hn, hm.weak fun k _ hk => hQ k hk, hk⟩
theorem hands3_names {w w' : World} {Q : Nat → Prop} {y : Nod} {ms : List Mes} {b : Bool} {e : Ending} (h : ∃ x' ov out, e = .returned (.tuple #[.agg (nodCells x').toArray, ov, .bool b]) ∧ x'.n = y ∧ said out = ms ∧ NodeOk w' Q x' ∧ MsgsOk w' Q ov out ∧ Keeps Free w w') : ∃ (LA : Option Addr) (LC : Nat) (VA : Option Addr) (VC : Nat) (NA : Option Addr) (NC : Nat) (MA : Option Addr) (MC : Nat) (OA : Option Addr) (OC : Nat) (out : List MesV), e = .returned (.tuple #[.agg #[.int .i64 y.id, .int .i64 y.n, .int .i64 y.term, .int .i64 y.vote, .slice LA y.log.length LC, .int .i64 y.commit, .int .i64 y.role, .int .i64 y.boss, .slice VA y.votes.length VC, .slice NA y.next.length NC, .slice MA y.mtch.length MC], .slice OA out.length OC, .bool b]) ∧ said out = ms ∧
      NodeOk w' Q ⟨y, .slice LA y.log.length LC, .slice VA y.votes.length VC, .slice NA y.next.length NC, .slice MA y.mtch.length MC⟩ ∧ MsgsOk w' Q (.slice OA out.length OC) out ∧ Keeps Free w w' := by
  obtain ⟨⟨n, lv, vv, nv, mv⟩, ov, out, rfl, rfl, hs, hn, hm, hk⟩ := h
  obtain ⟨LA, LC, VA, VC, NA, NC, MA, MC, e1, e2, e3, e4⟩ := hn.shape
  obtain ⟨OA, OC, e5⟩ := hm.cells.form9
  subst e1 e2 e3 e4 e5
  exact ⟨_, _, _, _, _, _, _, _, _, _, out, rfl, hs, hn, hm, hk⟩

theorem NodeOk.keep {w w' : World} {x : NodV} (h : NodeOk w Free x) (hk : Keeps Free w w') : NodeOk w' Free x := h.into hk (fun _ _ h => h) (fun _ _ h => h)

theorem restart_names {w w' : World} {Q : Nat → Prop} {y : Nod} {e : Ending} (h : ∃ x' : NodV, e = .returned (.agg (nodCells x').toArray) ∧ x'.n = y ∧ NodeOk w' Q x' ∧ Keeps Free w w') :
    ∃ (LA : Option Addr) (LC : Nat) (VA : Option Addr) (VC : Nat) (NA : Option Addr) (NC : Nat) (MA : Option Addr) (MC : Nat), e = .returned (.agg #[.int .i64 y.id, .int .i64 y.n, .int .i64 y.term, .int .i64 y.vote, .slice LA y.log.length LC, .int .i64 y.commit, .int .i64 y.role, .int .i64 y.boss, .slice VA y.votes.length VC, .slice NA y.next.length NC, .slice MA y.mtch.length MC]) ∧ NodeOk w' Q ⟨y, .slice LA y.log.length LC, .slice VA y.votes.length VC, .slice NA y.next.length NC, .slice MA y.mtch.length MC⟩ ∧ Keeps Free w w' := by
  obtain ⟨⟨n, lv, vv, nv, mv⟩, rfl, rfl, hn, hk⟩ := h
  obtain ⟨LA, LC, VA, VC, NA, NC, MA, MC, e1, e2, e3, e4⟩ := hn.shape
  subst e1 e2 e3 e4
  exact ⟨_, _, _, _, _, _, _, _, rfl, hn, hk⟩

theorem said_len {out : List MesV} {ms : List Mes} (h : said out = ms) : out.length = ms.length := by rw [← h]; simp [said]
theorem said_items {out : List MesV} {ms : List Mes} {b : Nat} (h : said out = ms) (hb : ∀ m ∈ ms, m.items.length ≤ b) : ∀ m ∈ out, m.m.items.length ≤ b := fun m hm => hb _ (by rw [← h]; exact List.mem_map_of_mem hm)

set_option maxRecDepth 100000 in
set_option maxHeartbeats 16000000 in
theorem raftSteps_walk {w : World} {x : NodV} (h : NodeOk w Free x) (hs : Sized x.n) (cmd : Int) :
    Calls Try.prog 3 #[.agg (nodCells x).toArray, .int .i64 cmd] w fun e w' => e = .returned (.bool true) ∧ Keeps Free w w' := by
  have H := Lib.hid h; have HSZ := Lib.hid hs
  obtain ⟨n, lv, vv, nv, mv⟩ := x
  simp only at HSZ
  obtain ⟨LA, LC, VA, VC, NA, NC, MA, MC, rfl, rfl, rfl, rfl⟩ := h.shape
  have HWA := Lib.hid (fun (w1 : World) (hk : Keeps Free w w1) => wrong_any (H.out.into hk (fun _ _ h => h) (fun _ _ h => h) : NodeOk w1 Free _))
  have HWB := Lib.hid (fun (w1 : World) (hk : Keeps Free w w1) => wrongR_any (H.out.into hk (fun _ _ h => h) (fun _ _ h => h) : NodeOk w1 Free _) HSZ.out.log HSZ.out.votes HSZ.out.next HSZ.out.mtch)
  have SZ1 := Lib.hid (timeout_sized hs); have SZ2 := Lib.hid (beat_sized hs); have SZ3 := Lib.hid (propose_sized cmd hs); have SZ4 := Lib.hid (restart_sized hs)
  have LN1 := Lib.hid (timeout_len n); have LN2 := Lib.hid (beat_len n); have LN3 := Lib.hid (propose_len n cmd)
  have IT1 := Lib.hid (fun m hm => (timeout_speaks n m hm).2.2.2.2.1); have IT2 := Lib.hid (fun m hm => (beat_speaks n m hm).2.2.2.2.1); have IT3 := Lib.hid (fun m hm => (propose_speaks n cmd m hm).2.2.2.2.1)
  clear h hs
  simp only [nodCells] at HWA HWB ⊢
  go_enter Try.func3, Try.ntmps3
  go_upto_region 1 with fail
  have hb0 := heap_alloc_new w (.cells #[.int .i64 n.id, .int .i64 n.n, .int .i64 n.term, .int .i64 n.vote, .slice LA n.log.length LC, .int .i64 n.commit, .int .i64 n.role, .int .i64 n.boss, .slice VA n.votes.length VC, .slice NA n.next.length NC, .slice MA n.mtch.length MC] 25)
  have hk0 := (Keeps.refl Free w).alloc (.cells #[.int .i64 n.id, .int .i64 n.n, .int .i64 n.term, .int .i64 n.vote, .slice LA n.log.length LC, .int .i64 n.commit, .int .i64 n.role, .int .i64 n.boss, .slice VA n.votes.length VC, .slice NA n.next.length NC, .slice MA n.mtch.length MC] 25)
  obtain ⟨w2, hw2⟩ : ∃ w2, w.alloc (.cells #[.int .i64 n.id, .int .i64 n.n, .int .i64 n.term, .int .i64 n.vote, .slice LA n.log.length LC, .int .i64 n.commit, .int .i64 n.role, .int .i64 n.boss, .slice VA n.votes.length VC, .slice NA n.next.length NC, .slice MA n.mtch.length MC] 25) = w2 := ⟨_, rfl⟩
  rw [hw2] at hb0 hk0 ⊢
  obtain ⟨B, hB⟩ : ∃ B, w.heap.size = B := ⟨_, rfl⟩
  rw [hB] at hb0 ⊢
  have hblt := laid_lt hb0
  have K2 := Lib.hid hk0; have HB2 := Lib.hid hb0
  clear hb0 hk0 hw2
  refine Wf.wp_region_first (C := fun w' => Keeps Free w2 w') (by kernel_rfl) 99 ?_
  have HKW := Lib.hid (show Keeps Free w2 { w2 with drawn := w2.drawn + 1 } from (Keeps.refl Free w2).drew)
  obtain ⟨W, hW⟩ : ∃ W : World, W = { w2 with drawn := w2.drawn + 1 } := ⟨_, rfl⟩
  rw [← hW] at HKW ⊢
  clear hW
  apply Wf.wpAnyP_stays (by kernel_rfl) [0, 2] _ _ _ 3 _ HKW.out (by kernel_rfl) ?hs ?hr
  case hs =>
    apply Wf.wpStays_step rfl rfl
    · intro w' hw'
      obtain ⟨e0, e1, e2, e3, e4, e5, e6, e7, e8, e9, e10, ef⟩ := cells11 (Keeps.blk hw' HB2.out)
      clear hw'
      go_simp
      exact ⟨rfl, rfl⟩
    go_simp
    apply Wf.wpStays_step rfl rfl
    · intro w' hw'
      obtain ⟨e0, e1, e2, e3, e4, e5, e6, e7, e8, e9, e10, ef⟩ := cells11 (Keeps.blk hw' HB2.out)
      clear hw'
      go_simp
      exact ⟨rfl, rfl⟩
    go_simp
    exact rfl
  case hr =>
    apply Wf.wpAnyP_one (i := 1) (fuel := 2) (by kernel_rfl) rfl rfl
    go_simp
    refine (HWA.out _ (K2.out.trans HKW.out (fun _ h => .inl h))).mono ?_
    rintro e w3 ⟨rfl, hk3⟩
    have HK3 := Lib.hid (HKW.out.trans hk3 (fun _ h => .inl h))
    refine ⟨_, rfl, HK3.out, ?_⟩
    clear hk3 HWA
    go_simp
    apply Wf.wpAnyP_one (i := 3) (fuel := 1) (by kernel_rfl) rfl rfl
    go_simp
    refine (HWB.out _ (K2.out.trans HK3.out (fun _ h => .inl h))).mono ?_
    rintro e w4 ⟨rfl, hk4⟩
    have HK4 := Lib.hid (HK3.out.trans hk4 (fun _ h => .inl h))
    refine ⟨_, rfl, HK4.out, ?_⟩
    clear hk4 HWB
    go_simp
    apply Wf.wpAnyP_one (i := 4) (fuel := 0) (by kernel_rfl) rfl rfl
    go_simp
    refine ⟨HK4.out, ?_⟩
    refine ⟨by kernel_rfl, ?_⟩
    have K4 := Lib.hid (K2.out.trans HK4.out (fun _ h => .inl h))
    have B4 := Lib.hid (HK4.out.blk HB2.out)
    have hbl4 := laid_lt B4.out
    clear HK3 HK4 HKW HB2 K2 hblt
    obtain ⟨b0, b1, b2, b3, b4, b5, b6, b7, b8, b9, b10, bf⟩ := cells11 B4.out
    have hcall := (timeout_any (H.out.into (S' := fun k => w.heap.size ≤ k ∧ k < w4.heap.size) K4.out (fun _ _ h => h.elim) (fun k hk h => by omega) : NodeOk w4 (fun k => w.heap.size ≤ k ∧ k < w4.heap.size) _) (fun k h => h.2)).mono (fun e w' h => hands_names h)
    simp only [nodCells] at hcall
    obtain ⟨y1, hy1⟩ : ∃ y1, (timeout n).1 = y1 := ⟨_, rfl⟩
    rw [hy1] at hcall
    have HCALL := Lib.hid hcall; have HY1 := Lib.hid hy1
    clear hcall hy1
    have hsz5 := K4.out.size
    go_upto_region 4 with (first
      | (go_at_call 20
         refine HCALL.out.mono ?_
         rintro e w5c ⟨LA1, LC1, VA1, VC1, NA1, NC1, MA1, MC1, OA1, OC1, out1, rfl, hso1, hnk1, hms1, hk1⟩
         have HSO1 := Lib.hid hso1; have NK1c := Lib.hid hnk1; have MS1c := Lib.hid hms1; have HK1 := Lib.hid hk1
         have K5c := Lib.hid (K4.out.trans hk1 (fun _ h => .inl h))
         have B5c := Lib.hid (hk1.blk B4.out)
         have hbl5c := laid_lt B5c.out
         clear b0 b1 b2 b3 b4 b5 b6 b7 b8 b9 b10 bf
         clear hso1 hnk1 hms1 hk1))
    clear HCALL
    obtain ⟨w5, hw5⟩ : ∃ w', w5c.alloc (.cells #[.int .i64 y1.id, .int .i64 y1.n, .int .i64 y1.term, .int .i64 y1.vote, .slice LA1 y1.log.length LC1, .int .i64 y1.commit, .int .i64 y1.role, .int .i64 y1.boss, .slice VA1 y1.votes.length VC1, .slice NA1 y1.next.length NC1, .slice MA1 y1.mtch.length MC1] 25) = w' := ⟨_, rfl⟩
    obtain ⟨P5, hp5⟩ : ∃ p, w5c.heap.size = p := ⟨_, rfl⟩
    have hnb5 := heap_alloc_new w5c (.cells #[.int .i64 y1.id, .int .i64 y1.n, .int .i64 y1.term, .int .i64 y1.vote, .slice LA1 y1.log.length LC1, .int .i64 y1.commit, .int .i64 y1.role, .int .i64 y1.boss, .slice VA1 y1.votes.length VC1, .slice NA1 y1.next.length NC1, .slice MA1 y1.mtch.length MC1] 25)
    have hnk5 := (Keeps.refl Free w5c).alloc (.cells #[.int .i64 y1.id, .int .i64 y1.n, .int .i64 y1.term, .int .i64 y1.vote, .slice LA1 y1.log.length LC1, .int .i64 y1.commit, .int .i64 y1.role, .int .i64 y1.boss, .slice VA1 y1.votes.length VC1, .slice NA1 y1.next.length NC1, .slice MA1 y1.mtch.length MC1] 25)
    rw [hw5] at hnb5 hnk5 ⊢
    rw [hp5] at hnb5 ⊢
    have hsz5a := HK1.out.size
    have K5 := Lib.hid (K5c.out.trans hnk5 (fun _ h => .inl h))
    have B5 := Lib.hid (hnk5.blk B5c.out)
    have NK1 := Lib.hid (NK1c.out.into hnk5 (fun _ _ h => h.elim) (fun _ _ h => h))
    have MS1 := Lib.hid (MS1c.out.into hnk5 (fun _ _ h => h.elim) (fun _ _ h => h))
    have P5b := Lib.hid hnb5
    have hbl5 := laid_lt B5.out
    have hbp5 := laid_lt P5b.out
    clear hw5 hnb5 hnk5 K5c B5c NK1c MS1c HK1 
    obtain ⟨b0, b1, b2, b3, b4, b5, b6, b7, b8, b9, b10, bf⟩ := cells11 B5.out
    have hcall := (timeoutR_any (H.out.into (S' := fun k => w.heap.size ≤ k ∧ k < w5.heap.size) K5.out (fun _ _ h => h.elim) (fun k hk h => by omega) : NodeOk w5 (fun k => w.heap.size ≤ k ∧ k < w5.heap.size) _) (fun k h => h.2) HSZ.out).mono (fun e w' h => handsR_names (fun k h => h.2) h)
    simp only [nodCells] at hcall
    obtain ⟨y2, hy2⟩ : ∃ y2, (timeout n).1 = y2 := ⟨_, rfl⟩
    rw [hy2] at hcall
    have HCALL := Lib.hid hcall; have HY2 := Lib.hid hy2
    clear hcall hy2
    have hsz6 := K5.out.size
    go_upto_region 5 with (first
      | (go_at_call 21
         refine HCALL.out.mono ?_
         rintro e w6c ⟨LA2, LC2, VA2, VC2, NA2, NC2, MA2, MC2, OA2, OC2, out2, rfl, hso2, hnk2, hms2, hk2⟩
         have HSO2 := Lib.hid hso2; have NK2c := Lib.hid hnk2; have MS2c := Lib.hid hms2; have HK2 := Lib.hid hk2
         have K6c := Lib.hid (K5.out.trans hk2 (fun _ h => .inl h))
         have B6c := Lib.hid (hk2.blk B5.out)
         have hbl6c := laid_lt B6c.out
         have P5bc := Lib.hid (hk2.blk P5b.out)
         have NK1c := Lib.hid (NK1.out.into hk2 (fun _ _ h => h.elim) (fun _ _ h => h))
         have MS1c := Lib.hid (MS1.out.into hk2 (fun _ _ h => h.elim) (fun _ _ h => h))
         clear b0 b1 b2 b3 b4 b5 b6 b7 b8 b9 b10 bf
         clear hso2 hnk2 hms2 hk2))
    clear HCALL
    obtain ⟨w6, hw6⟩ : ∃ w', w6c.alloc (.cells #[.int .i64 y2.id, .int .i64 y2.n, .int .i64 y2.term, .int .i64 y2.vote, .slice LA2 y2.log.length LC2, .int .i64 y2.commit, .int .i64 y2.role, .int .i64 y2.boss, .slice VA2 y2.votes.length VC2, .slice NA2 y2.next.length NC2, .slice MA2 y2.mtch.length MC2] 25) = w' := ⟨_, rfl⟩
    obtain ⟨P7, hp6⟩ : ∃ p, w6c.heap.size = p := ⟨_, rfl⟩
    have hnb6 := heap_alloc_new w6c (.cells #[.int .i64 y2.id, .int .i64 y2.n, .int .i64 y2.term, .int .i64 y2.vote, .slice LA2 y2.log.length LC2, .int .i64 y2.commit, .int .i64 y2.role, .int .i64 y2.boss, .slice VA2 y2.votes.length VC2, .slice NA2 y2.next.length NC2, .slice MA2 y2.mtch.length MC2] 25)
    have hnk6 := (Keeps.refl Free w6c).alloc (.cells #[.int .i64 y2.id, .int .i64 y2.n, .int .i64 y2.term, .int .i64 y2.vote, .slice LA2 y2.log.length LC2, .int .i64 y2.commit, .int .i64 y2.role, .int .i64 y2.boss, .slice VA2 y2.votes.length VC2, .slice NA2 y2.next.length NC2, .slice MA2 y2.mtch.length MC2] 25)
    rw [hw6] at hnb6 hnk6 ⊢
    rw [hp6] at hnb6 ⊢
    have hsz6a := HK2.out.size
    have K6 := Lib.hid (K6c.out.trans hnk6 (fun _ h => .inl h))
    have B6 := Lib.hid (hnk6.blk B6c.out)
    have NK2 := Lib.hid (NK2c.out.into hnk6 (fun _ _ h => h.elim) (fun _ _ h => h))
    have MS2 := Lib.hid (MS2c.out.into hnk6 (fun _ _ h => h.elim) (fun _ _ h => h))
    have P7b := Lib.hid hnb6
    have P5bn := Lib.hid (hnk6.blk P5bc.out)
    have NK1n := Lib.hid (NK1c.out.into hnk6 (fun _ _ h => h.elim) (fun _ _ h => h))
    have MS1n := Lib.hid (MS1c.out.into hnk6 (fun _ _ h => h.elim) (fun _ _ h => h))
    have hbl6 := laid_lt B6.out
    have hbp6 := laid_lt P7b.out
    clear hw6 hnb6 hnk6 K6c B6c NK2c MS2c HK2 P5bc P5b NK1c NK1 MS1c MS1
    obtain ⟨P5b⟩ : Nonempty (Hid _) := ⟨P5bn⟩
    clear P5bn
    obtain ⟨NK1⟩ : Nonempty (Hid _) := ⟨NK1n⟩
    clear NK1n
    obtain ⟨MS1⟩ : Nonempty (Hid _) := ⟨MS1n⟩
    clear MS1n
    obtain ⟨b0, b1, b2, b3, b4, b5, b6, b7, b8, b9, b10, bf⟩ := cells11 P5b.out
    obtain ⟨r0, r1, r2, r3, r4, r5, r6, r7, r8, r9, r10, rf⟩ := cells11 P7b.out
    have hyy : y2 = y1 := HY2.out.symm.trans HY1.out
    have hsz : Sized y1 := by rw [← HY1.out]; exact SZ1.out
    have hle : said out2 = said out1 := HSO2.out.trans HSO1.out.symm
    have CS := Lib.hid (fun (w1 : World) (hk : Keeps Free w6 w1) => sameNode_any (w := w1) (x := ⟨y1, .slice LA1 y1.log.length LC1, .slice VA1 y1.votes.length VC1, .slice NA1 y1.next.length NC1, .slice MA1 y1.mtch.length MC1⟩) (y := ⟨y2, .slice LA2 y2.log.length LC2, .slice VA2 y2.votes.length VC2, .slice NA2 y2.next.length NC2, .slice MA2 y2.mtch.length MC2⟩) (NK1.out.into hk (fun _ _ h => h.elim) (fun _ _ h => h.elim)) (NK2.out.into hk (fun _ _ h => h.elim) (fun _ _ h => h.elim)) hyy hsz.log hsz.votes hsz.next hsz.mtch)
    have CM := Lib.hid (fun (w1 : World) (hk : Keeps Free w6 w1) => sameMsgs_any (w := w1) (MS1.out.into hk (fun _ _ h => h.elim) (fun _ _ h => h.elim)) (MS2.out.into hk (fun _ _ h => h.elim) (fun _ _ h => h.elim)) hle (by rw [said_len HSO1.out]; have := LN1.out; omega) (said_items HSO1.out (fun m hm => by have := IT1.out m hm; omega)))
    clear hyy hsz hle
    simp only [nodCells] at CS
    go_upto_region 7 with (first
      | (go_at_call 22
         refine (CS.out _ (Keeps.refl Free _)).mono ?_
         rintro e w7a ⟨rfl, hka⟩
         have HKA := Lib.hid hka
         clear hka CS b0 b1 b2 b3 b4 b5 b6 b7 b8 b9 b10 bf r0 r1 r2 r3 r4 r5 r6 r7 r8 r9 r10 rf)
      | (go_at_call 23
         refine (CM.out _ HKA.out).mono ?_
         rintro e w7 ⟨rfl, hkb⟩
         have HKB := Lib.hid (HKA.out.trans hkb (fun _ h => .inl h))
         clear hkb CM))
    have K7 := Lib.hid (K6.out.trans HKB.out (fun _ h => .inl h))
    have B7 := Lib.hid (HKB.out.blk B6.out)
    have P5bn := Lib.hid (HKB.out.blk P5b.out); have P7bn := Lib.hid (HKB.out.blk P7b.out)
    have hbl7 := laid_lt B7.out; have hbp7 := laid_lt P7bn.out; have hbq7 := laid_lt P5bn.out
    clear P5b P7b NK1 NK2 MS1 MS2 HKA HKB K6 B6 HSO1 HSO2 HY1 HY2
    obtain ⟨P5b⟩ : Nonempty (Hid _) := ⟨P5bn⟩
    clear P5bn
    obtain ⟨P7b⟩ : Nonempty (Hid _) := ⟨P7bn⟩
    clear P7bn
    obtain ⟨b0, b1, b2, b3, b4, b5, b6, b7, b8, b9, b10, bf⟩ := cells11 B7.out
    have hcall := (beat_any (H.out.into (S' := fun k => w.heap.size ≤ k ∧ k < w7.heap.size) K7.out (fun _ _ h => h.elim) (fun k hk h => by omega) : NodeOk w7 (fun k => w.heap.size ≤ k ∧ k < w7.heap.size) _) (fun k h => h.2)).mono (fun e w' h => hands_names h)
    simp only [nodCells] at hcall
    obtain ⟨y3, hy3⟩ : ∃ y3, (beat n).1 = y3 := ⟨_, rfl⟩
    rw [hy3] at hcall
    have HCALL := Lib.hid hcall; have HY3 := Lib.hid hy3
    clear hcall hy3
    have hsz8 := K7.out.size
    go_upto_region 8 with (first
      | (go_at_call 24
         refine HCALL.out.mono ?_
         rintro e w8c ⟨LA3, LC3, VA3, VC3, NA3, NC3, MA3, MC3, OA3, OC3, out3, rfl, hso3, hnk3, hms3, hk3⟩
         have HSO3 := Lib.hid hso3; have NK3c := Lib.hid hnk3; have MS3c := Lib.hid hms3; have HK3 := Lib.hid hk3
         have K8c := Lib.hid (K7.out.trans hk3 (fun _ h => .inl h))
         have B8c := Lib.hid (hk3.blk B7.out)
         have hbl8c := laid_lt B8c.out
         have P5bc := Lib.hid (hk3.blk P5b.out)
         have P7bc := Lib.hid (hk3.blk P7b.out)
         obtain ⟨w8, hw8, hwb8, hwk8⟩ := put11l (v0 := .int .i64 y3.id) (v1 := .int .i64 y3.n) (v2 := .int .i64 y3.term) (v3 := .int .i64 y3.vote) (v4 := .slice LA3 y3.log.length LC3) (v5 := .int .i64 y3.commit) (v6 := .int .i64 y3.role) (v7 := .int .i64 y3.boss) (v8 := .slice VA3 y3.votes.length VC3) (v9 := .slice NA3 y3.next.length NC3) (v10 := .slice MA3 y3.mtch.length MC3) P5bc.out rfl
         clear b0 b1 b2 b3 b4 b5 b6 b7 b8 b9 b10 bf
         obtain ⟨b0, b1, b2, b3, b4, b5, b6, b7, b8, b9, b10, bf⟩ := cells11 P5bc.out
         clear hso3 hnk3 hms3 hk3))
    clear HCALL b0 b1 b2 b3 b4 b5 b6 b7 b8 b9 b10 bf
    first | rw [hw8] | skip
    clear hw8
    have K8 := Lib.hid (K8c.out.trans hwk8 (fun k e => .inr (by omega)))
    have B8 := Lib.hid ((hwk8.block B hbl8c (by omega)).trans B8c.out)
    have NK3 := Lib.hid (NK3c.out.into hwk8 (fun k _ e => by omega) (fun _ _ h => h))
    have MS3 := Lib.hid (MsgsOk.into (S' := fun k => w.heap.size ≤ k ∧ k < w7.heap.size) MS3c.out hwk8 (fun k _ e => by omega) (fun _ _ h => h))
    have P5bn := Lib.hid hwb8
    have P7bn := Lib.hid ((hwk8.block _ (laid_lt P7bc.out) (by omega)).trans P7bc.out)
    have hbl8 := laid_lt B8.out
    have hsz8b := hwk8.size
    have hsz8a := HK3.out.size
    clear hwk8 hwb8 K8c B8c NK3c MS3c HK3 P5bc P5b P7bc P7b
    obtain ⟨P5b⟩ : Nonempty (Hid _) := ⟨P5bn⟩
    clear P5bn
    obtain ⟨P7b⟩ : Nonempty (Hid _) := ⟨P7bn⟩
    clear P7bn
    obtain ⟨b0, b1, b2, b3, b4, b5, b6, b7, b8, b9, b10, bf⟩ := cells11 B8.out
    have hcall := (beatR_any (H.out.into (S' := fun k => w.heap.size ≤ k ∧ k < w8.heap.size) K8.out (fun _ _ h => h.elim) (fun k hk h => by omega) : NodeOk w8 (fun k => w.heap.size ≤ k ∧ k < w8.heap.size) _) (fun k h => h.2) HSZ.out).mono (fun e w' h => handsR_names (fun k h => h.2) h)
    simp only [nodCells] at hcall
    obtain ⟨y4, hy4⟩ : ∃ y4, (beat n).1 = y4 := ⟨_, rfl⟩
    rw [hy4] at hcall
    have HCALL := Lib.hid hcall; have HY4 := Lib.hid hy4
    clear hcall hy4
    have hsz9 := K8.out.size
    go_upto_region 9 with (first
      | (go_at_call 25
         refine HCALL.out.mono ?_
         rintro e w9c ⟨LA4, LC4, VA4, VC4, NA4, NC4, MA4, MC4, OA4, OC4, out4, rfl, hso4, hnk4, hms4, hk4⟩
         have HSO4 := Lib.hid hso4; have NK4c := Lib.hid hnk4; have MS4c := Lib.hid hms4; have HK4 := Lib.hid hk4
         have K9c := Lib.hid (K8.out.trans hk4 (fun _ h => .inl h))
         have B9c := Lib.hid (hk4.blk B8.out)
         have hbl9c := laid_lt B9c.out
         have P5bc := Lib.hid (hk4.blk P5b.out)
         have P7bc := Lib.hid (hk4.blk P7b.out)
         have NK3c := Lib.hid (NK3.out.into hk4 (fun _ _ h => h.elim) (fun _ _ h => h))
         have MS3c := Lib.hid (MS3.out.into hk4 (fun _ _ h => h.elim) (fun _ _ h => h))
         obtain ⟨w9, hw9, hwb9, hwk9⟩ := put11l (v0 := .int .i64 y4.id) (v1 := .int .i64 y4.n) (v2 := .int .i64 y4.term) (v3 := .int .i64 y4.vote) (v4 := .slice LA4 y4.log.length LC4) (v5 := .int .i64 y4.commit) (v6 := .int .i64 y4.role) (v7 := .int .i64 y4.boss) (v8 := .slice VA4 y4.votes.length VC4) (v9 := .slice NA4 y4.next.length NC4) (v10 := .slice MA4 y4.mtch.length MC4) P7bc.out rfl
         clear b0 b1 b2 b3 b4 b5 b6 b7 b8 b9 b10 bf
         obtain ⟨b0, b1, b2, b3, b4, b5, b6, b7, b8, b9, b10, bf⟩ := cells11 P7bc.out
         clear hso4 hnk4 hms4 hk4))
    clear HCALL b0 b1 b2 b3 b4 b5 b6 b7 b8 b9 b10 bf
    first | rw [hw9] | skip
    clear hw9
    have K9 := Lib.hid (K9c.out.trans hwk9 (fun k e => .inr (by omega)))
    have B9 := Lib.hid ((hwk9.block B hbl9c (by omega)).trans B9c.out)
    have NK4 := Lib.hid (NK4c.out.into hwk9 (fun k _ e => by omega) (fun _ _ h => h))
    have MS4 := Lib.hid (MsgsOk.into (S' := fun k => w.heap.size ≤ k ∧ k < w8.heap.size) MS4c.out hwk9 (fun k _ e => by omega) (fun _ _ h => h))
    have P7bn := Lib.hid hwb9
    have P5bn := Lib.hid ((hwk9.block _ (laid_lt P5bc.out) (by omega)).trans P5bc.out)
    have NK3n := Lib.hid (NK3c.out.into hwk9 (fun k _ e => by omega) (fun _ _ h => h))
    have MS3n := Lib.hid (MsgsOk.into (S' := _) MS3c.out hwk9 (fun k _ e => by omega) (fun _ _ h => h))
    have hbl9 := laid_lt B9.out
    have hsz9b := hwk9.size
    have hsz9a := HK4.out.size
    clear hwk9 hwb9 K9c B9c NK4c MS4c HK4 P5bc P5b P7bc P7b NK3c NK3 MS3c MS3
    obtain ⟨P5b⟩ : Nonempty (Hid _) := ⟨P5bn⟩
    clear P5bn
    obtain ⟨P7b⟩ : Nonempty (Hid _) := ⟨P7bn⟩
    clear P7bn
    obtain ⟨NK3⟩ : Nonempty (Hid _) := ⟨NK3n⟩
    clear NK3n
    obtain ⟨MS3⟩ : Nonempty (Hid _) := ⟨MS3n⟩
    clear MS3n
    obtain ⟨b0, b1, b2, b3, b4, b5, b6, b7, b8, b9, b10, bf⟩ := cells11 P5b.out
    obtain ⟨r0, r1, r2, r3, r4, r5, r6, r7, r8, r9, r10, rf⟩ := cells11 P7b.out
    have hyy : y4 = y3 := HY4.out.symm.trans HY3.out
    have hsz : Sized y3 := by rw [← HY3.out]; exact SZ2.out
    have hle : said out4 = said out3 := HSO4.out.trans HSO3.out.symm
    have CS := Lib.hid (fun (w1 : World) (hk : Keeps Free w9 w1) => sameNode_any (w := w1) (x := ⟨y3, .slice LA3 y3.log.length LC3, .slice VA3 y3.votes.length VC3, .slice NA3 y3.next.length NC3, .slice MA3 y3.mtch.length MC3⟩) (y := ⟨y4, .slice LA4 y4.log.length LC4, .slice VA4 y4.votes.length VC4, .slice NA4 y4.next.length NC4, .slice MA4 y4.mtch.length MC4⟩) (NK3.out.into hk (fun _ _ h => h.elim) (fun _ _ h => h.elim)) (NK4.out.into hk (fun _ _ h => h.elim) (fun _ _ h => h.elim)) hyy hsz.log hsz.votes hsz.next hsz.mtch)
    have CM := Lib.hid (fun (w1 : World) (hk : Keeps Free w9 w1) => sameMsgs_any (w := w1) (MS3.out.into hk (fun _ _ h => h.elim) (fun _ _ h => h.elim)) (MS4.out.into hk (fun _ _ h => h.elim) (fun _ _ h => h.elim)) hle (by rw [said_len HSO3.out]; have := LN2.out; omega) (said_items HSO3.out (fun m hm => by have := IT2.out m hm; omega)))
    clear hyy hsz hle
    simp only [nodCells] at CS
    go_upto_region 11 with (first
      | (go_at_call 22
         refine (CS.out _ (Keeps.refl Free _)).mono ?_
         rintro e w10a ⟨rfl, hka⟩
         have HKA := Lib.hid hka
         clear hka CS b0 b1 b2 b3 b4 b5 b6 b7 b8 b9 b10 bf r0 r1 r2 r3 r4 r5 r6 r7 r8 r9 r10 rf)
      | (go_at_call 23
         refine (CM.out _ HKA.out).mono ?_
         rintro e w10 ⟨rfl, hkb⟩
         have HKB := Lib.hid (HKA.out.trans hkb (fun _ h => .inl h))
         clear hkb CM))
    have K10 := Lib.hid (K9.out.trans HKB.out (fun _ h => .inl h))
    have B10 := Lib.hid (HKB.out.blk B9.out)
    have P5bn := Lib.hid (HKB.out.blk P5b.out); have P7bn := Lib.hid (HKB.out.blk P7b.out)
    have hbl10 := laid_lt B10.out; have hbp10 := laid_lt P7bn.out; have hbq10 := laid_lt P5bn.out
    clear P5b P7b NK3 NK4 MS3 MS4 HKA HKB K9 B9 HSO3 HSO4 HY3 HY4
    obtain ⟨P5b⟩ : Nonempty (Hid _) := ⟨P5bn⟩
    clear P5bn
    obtain ⟨P7b⟩ : Nonempty (Hid _) := ⟨P7bn⟩
    clear P7bn
    obtain ⟨b0, b1, b2, b3, b4, b5, b6, b7, b8, b9, b10, bf⟩ := cells11 B10.out
    have hcall := (propose_any (H.out.into (S' := fun k => w.heap.size ≤ k ∧ k < w10.heap.size) K10.out (fun _ _ h => h.elim) (fun k hk h => by omega) : NodeOk w10 (fun k => w.heap.size ≤ k ∧ k < w10.heap.size) _) (fun k h => h.2) cmd).mono (fun e w' h => hands3_names h)
    simp only [nodCells] at hcall
    obtain ⟨y5, hy5⟩ : ∃ y5, (propose n cmd).1 = y5 := ⟨_, rfl⟩
    obtain ⟨z5, hz5⟩ : ∃ z5, (propose n cmd).2.2 = z5 := ⟨_, rfl⟩
    rw [hy5, hz5] at hcall
    have HCALL := Lib.hid hcall; have HY5 := Lib.hid hy5; have HZ5 := Lib.hid hz5
    clear hcall hy5 hz5
    have hsz11 := K10.out.size
    go_upto_region 12 with (first
      | (go_at_call 26
         refine HCALL.out.mono ?_
         rintro e w11c ⟨LA5, LC5, VA5, VC5, NA5, NC5, MA5, MC5, OA5, OC5, out5, rfl, hso5, hnk5, hms5, hk5⟩
         have HSO5 := Lib.hid hso5; have NK5c := Lib.hid hnk5; have MS5c := Lib.hid hms5; have HK5 := Lib.hid hk5
         have K11c := Lib.hid (K10.out.trans hk5 (fun _ h => .inl h))
         have B11c := Lib.hid (hk5.blk B10.out)
         have hbl11c := laid_lt B11c.out
         have P5bc := Lib.hid (hk5.blk P5b.out)
         have P7bc := Lib.hid (hk5.blk P7b.out)
         obtain ⟨w11, hw11, hwb11, hwk11⟩ := put11l (v0 := .int .i64 y5.id) (v1 := .int .i64 y5.n) (v2 := .int .i64 y5.term) (v3 := .int .i64 y5.vote) (v4 := .slice LA5 y5.log.length LC5) (v5 := .int .i64 y5.commit) (v6 := .int .i64 y5.role) (v7 := .int .i64 y5.boss) (v8 := .slice VA5 y5.votes.length VC5) (v9 := .slice NA5 y5.next.length NC5) (v10 := .slice MA5 y5.mtch.length MC5) P5bc.out rfl
         clear b0 b1 b2 b3 b4 b5 b6 b7 b8 b9 b10 bf
         obtain ⟨b0, b1, b2, b3, b4, b5, b6, b7, b8, b9, b10, bf⟩ := cells11 P5bc.out
         clear hso5 hnk5 hms5 hk5))
    clear HCALL b0 b1 b2 b3 b4 b5 b6 b7 b8 b9 b10 bf
    first | rw [hw11] | skip
    clear hw11
    have K11 := Lib.hid (K11c.out.trans hwk11 (fun k e => .inr (by omega)))
    have B11 := Lib.hid ((hwk11.block B hbl11c (by omega)).trans B11c.out)
    have NK5 := Lib.hid (NK5c.out.into hwk11 (fun k _ e => by omega) (fun _ _ h => h))
    have MS5 := Lib.hid (MsgsOk.into (S' := fun k => w.heap.size ≤ k ∧ k < w10.heap.size) MS5c.out hwk11 (fun k _ e => by omega) (fun _ _ h => h))
    have P5bn := Lib.hid hwb11
    have P7bn := Lib.hid ((hwk11.block _ (laid_lt P7bc.out) (by omega)).trans P7bc.out)
    have hbl11 := laid_lt B11.out
    have hsz11b := hwk11.size
    have hsz11a := HK5.out.size
    clear hwk11 hwb11 K11c B11c NK5c MS5c HK5 P5bc P5b P7bc P7b
    obtain ⟨P5b⟩ : Nonempty (Hid _) := ⟨P5bn⟩
    clear P5bn
    obtain ⟨P7b⟩ : Nonempty (Hid _) := ⟨P7bn⟩
    clear P7bn
    obtain ⟨b0, b1, b2, b3, b4, b5, b6, b7, b8, b9, b10, bf⟩ := cells11 B11.out
    have hcall := (proposeR_any (H.out.into (S' := fun k => w.heap.size ≤ k ∧ k < w11.heap.size) K11.out (fun _ _ h => h.elim) (fun k hk h => by omega) : NodeOk w11 (fun k => w.heap.size ≤ k ∧ k < w11.heap.size) _) (fun k h => h.2) HSZ.out cmd).mono (fun e w' h => handsP_names (fun k h => h.2) h)
    simp only [nodCells] at hcall
    obtain ⟨y6, hy6⟩ : ∃ y6, (propose n cmd).1 = y6 := ⟨_, rfl⟩
    obtain ⟨z6, hz6⟩ : ∃ z6, (propose n cmd).2.2 = z6 := ⟨_, rfl⟩
    rw [hy6, hz6] at hcall
    have HCALL := Lib.hid hcall; have HY6 := Lib.hid hy6; have HZ6 := Lib.hid hz6
    clear hcall hy6 hz6
    have hsz12 := K11.out.size
    go_upto_region 13 with (first
      | (go_at_call 27
         refine HCALL.out.mono ?_
         rintro e w12c ⟨LA6, LC6, VA6, VC6, NA6, NC6, MA6, MC6, OA6, OC6, out6, rfl, hso6, hnk6, hms6, hk6⟩
         have HSO6 := Lib.hid hso6; have NK6c := Lib.hid hnk6; have MS6c := Lib.hid hms6; have HK6 := Lib.hid hk6
         have K12c := Lib.hid (K11.out.trans hk6 (fun _ h => .inl h))
         have B12c := Lib.hid (hk6.blk B11.out)
         have hbl12c := laid_lt B12c.out
         have P5bc := Lib.hid (hk6.blk P5b.out)
         have P7bc := Lib.hid (hk6.blk P7b.out)
         have NK5c := Lib.hid (NK5.out.into hk6 (fun _ _ h => h.elim) (fun _ _ h => h))
         have MS5c := Lib.hid (MS5.out.into hk6 (fun _ _ h => h.elim) (fun _ _ h => h))
         obtain ⟨w12, hw12, hwb12, hwk12⟩ := put11l (v0 := .int .i64 y6.id) (v1 := .int .i64 y6.n) (v2 := .int .i64 y6.term) (v3 := .int .i64 y6.vote) (v4 := .slice LA6 y6.log.length LC6) (v5 := .int .i64 y6.commit) (v6 := .int .i64 y6.role) (v7 := .int .i64 y6.boss) (v8 := .slice VA6 y6.votes.length VC6) (v9 := .slice NA6 y6.next.length NC6) (v10 := .slice MA6 y6.mtch.length MC6) P7bc.out rfl
         clear b0 b1 b2 b3 b4 b5 b6 b7 b8 b9 b10 bf
         obtain ⟨b0, b1, b2, b3, b4, b5, b6, b7, b8, b9, b10, bf⟩ := cells11 P7bc.out
         clear hso6 hnk6 hms6 hk6))
    clear HCALL b0 b1 b2 b3 b4 b5 b6 b7 b8 b9 b10 bf
    first | rw [hw12] | skip
    clear hw12
    have K12 := Lib.hid (K12c.out.trans hwk12 (fun k e => .inr (by omega)))
    have B12 := Lib.hid ((hwk12.block B hbl12c (by omega)).trans B12c.out)
    have NK6 := Lib.hid (NK6c.out.into hwk12 (fun k _ e => by omega) (fun _ _ h => h))
    have MS6 := Lib.hid (MsgsOk.into (S' := fun k => w.heap.size ≤ k ∧ k < w11.heap.size) MS6c.out hwk12 (fun k _ e => by omega) (fun _ _ h => h))
    have P7bn := Lib.hid hwb12
    have P5bn := Lib.hid ((hwk12.block _ (laid_lt P5bc.out) (by omega)).trans P5bc.out)
    have NK5n := Lib.hid (NK5c.out.into hwk12 (fun k _ e => by omega) (fun _ _ h => h))
    have MS5n := Lib.hid (MsgsOk.into (S' := _) MS5c.out hwk12 (fun k _ e => by omega) (fun _ _ h => h))
    have hbl12 := laid_lt B12.out
    have hsz12b := hwk12.size
    have hsz12a := HK6.out.size
    clear hwk12 hwb12 K12c B12c NK6c MS6c HK6 P5bc P5b P7bc P7b NK5c NK5 MS5c MS5
    obtain ⟨P5b⟩ : Nonempty (Hid _) := ⟨P5bn⟩
    clear P5bn
    obtain ⟨P7b⟩ : Nonempty (Hid _) := ⟨P7bn⟩
    clear P7bn
    obtain ⟨NK5⟩ : Nonempty (Hid _) := ⟨NK5n⟩
    clear NK5n
    obtain ⟨MS5⟩ : Nonempty (Hid _) := ⟨MS5n⟩
    clear MS5n
    have hzz : z6 = z5 := HZ6.out.symm.trans HZ5.out
    subst hzz
    have hyy : y6 = y5 := HY6.out.symm.trans HY5.out
    have hsz : Sized y5 := by rw [← HY5.out]; exact SZ3.out
    have hle : said out6 = said out5 := HSO6.out.trans HSO5.out.symm
    have CS := Lib.hid (fun (w1 : World) (hk : Keeps Free w12 w1) => sameNode_any (w := w1) (x := ⟨y5, .slice LA5 y5.log.length LC5, .slice VA5 y5.votes.length VC5, .slice NA5 y5.next.length NC5, .slice MA5 y5.mtch.length MC5⟩) (y := ⟨y6, .slice LA6 y6.log.length LC6, .slice VA6 y6.votes.length VC6, .slice NA6 y6.next.length NC6, .slice MA6 y6.mtch.length MC6⟩) (NK5.out.into hk (fun _ _ h => h.elim) (fun _ _ h => h.elim)) (NK6.out.into hk (fun _ _ h => h.elim) (fun _ _ h => h.elim)) hyy hsz.log hsz.votes hsz.next hsz.mtch)
    have CM := Lib.hid (fun (w1 : World) (hk : Keeps Free w12 w1) => sameMsgs_any (w := w1) (MS5.out.into hk (fun _ _ h => h.elim) (fun _ _ h => h.elim)) (MS6.out.into hk (fun _ _ h => h.elim) (fun _ _ h => h.elim)) hle (by rw [said_len HSO5.out]; have := LN3.out; omega) (said_items HSO5.out (fun m hm => by have := IT3.out m hm; omega)))
    clear hyy hsz hle
    simp only [nodCells] at CS
    clear NK5 NK6 MS5 MS6 HSO5 HSO6 HY5 HY6 HZ5 HZ6
    have HRA := Lib.hid (fun (w1 : World) (hk : Keeps Free w12 w1) => (restart_any (w := w1) (Q := Free) (H.out.into (K12.out.trans hk (fun _ h => .inl h)) (fun _ _ h => h) (fun _ _ h => h)) (fun _ h => h.elim)).mono (fun e w' h => restart_names h))
    have HRB := Lib.hid (fun (w1 : World) (hk : Keeps Free w12 w1) => (restartR_any (w := w1) (Q := Free) (H.out.into (K12.out.trans hk (fun _ h => .inl h)) (fun _ _ h => h) (fun _ _ h => h)) (fun _ h => h.elim) HSZ.out).mono (fun e w' h => restart_names h))
    have HRS := Lib.hid (restart_sized HSZ.out)
    simp only [nodCells] at HRA HRB
    go_upto_region 13 with fail
    refine Wf.wp_region_first (C := fun w' => Keeps Free w12 w') (by kernel_rfl) 99 ?_
    have HKW := Lib.hid (show Keeps Free w12 { w12 with drawn := w12.drawn + 1 } from (Keeps.refl Free w12).drew)
    obtain ⟨W, hW⟩ : ∃ W : World, W = { w12 with drawn := w12.drawn + 1 } := ⟨_, rfl⟩
    rw [← hW] at HKW ⊢
    clear hW
    apply Wf.wpAnyP_stays (by kernel_rfl) [0, 1] _ _ _ 19 _ HKW.out (by kernel_rfl) ?hs ?hr
    case hs =>
      apply Wf.wpStays_step rfl rfl
      · intro w' hw'
        obtain ⟨e0, e1, e2, e3, e4, e5, e6, e7, e8, e9, e10, ef⟩ := cells11 (Keeps.blk hw' P5b.out)
        clear hw'
        go_simp
        exact ⟨rfl, rfl⟩
      go_simp
      apply Wf.wpStays_step rfl rfl
      · intro w' hw'
        obtain ⟨e0, e1, e2, e3, e4, e5, e6, e7, e8, e9, e10, ef⟩ := cells11 (Keeps.blk hw' P7b.out)
        clear hw'
        go_simp
        exact ⟨rfl, rfl⟩
      go_simp
      exact rfl
    case hr =>
      apply Wf.wpAnyP_one (i := 2) (fuel := 18) (by kernel_rfl) rfl rfl
      go_simp
      refine (CS.out _ HKW.out).mono ?_
      rintro e w30 ⟨rfl, hk30⟩
      have HK30 := Lib.hid (HKW.out.trans hk30 (fun _ h => .inl h))
      clear hk30 CS
      refine ⟨_, rfl, HK30.out, ?_⟩
      go_simp
      apply Wf.wpAnyP_stays (by kernel_rfl) [3, 4, 5] _ _ _ 15 _ HK30.out (by kernel_rfl) ?hs ?hr
      case hs =>
        apply Wf.wpStays_step rfl rfl
        · intro w' hw'
          clear hw'
          go_simp
          exact ⟨rfl, rfl⟩
        go_simp
        apply Wf.wpStays_wanted rfl (by rfl)
        · intro w' hw'
          clear hw'
          go_simp
          exact ⟨rfl, rfl⟩
        go_simp
        apply Wf.wpStays_wanted rfl (by rfl)
        · intro w' hw'
          clear hw'
          go_simp
          exact ⟨rfl, rfl⟩
        go_simp
        exact rfl
      case hr =>
        apply Wf.wpAnyP_oneW (i := 6) (fuel := 14) (by kernel_rfl) rfl (by rfl)
        go_simp
        refine (CM.out _ HK30.out).mono ?_
        rintro e w31 ⟨rfl, hk31⟩
        have HK31 := Lib.hid (HK30.out.trans hk31 (fun _ h => .inl h))
        clear hk31 CM
        refine ⟨_, rfl, HK31.out, ?_⟩
        go_simp
        apply Wf.wpAnyP_stays (by kernel_rfl) [7, 8, 9, 10, 11, 12, 13, 14, 16] _ _ _ 5 _ HK31.out (by kernel_rfl) ?hs ?hr
        case hs =>
          apply Wf.wpStays_step rfl rfl
          · intro w' hw'
            clear hw'
            go_simp
            exact ⟨rfl, rfl⟩
          go_simp
          apply Wf.wpStays_step rfl rfl
          · intro w' hw'
            clear hw'
            go_simp
            exact ⟨rfl, rfl⟩
          go_simp
          apply Wf.wpStays_wanted rfl (by rfl)
          · intro w' hw'
            clear hw'
            go_simp
            exact ⟨rfl, rfl⟩
          go_simp
          apply Wf.wpStays_wanted rfl (by rfl)
          · intro w' hw'
            clear hw'
            go_simp
            exact ⟨rfl, rfl⟩
          go_simp
          apply Wf.wpStays_wanted rfl (by rfl)
          · intro w' hw'
            clear hw'
            go_simp
            exact ⟨rfl, rfl⟩
          go_simp
          apply Wf.wpStays_step rfl rfl
          · intro w' hw'
            clear hw'
            go_simp
            exact ⟨rfl, rfl⟩
          go_simp
          apply Wf.wpStays_step rfl rfl
          · intro w' hw'
            clear hw'
            go_simp
            exact ⟨rfl, rfl⟩
          go_simp
          apply Wf.wpStays_wanted rfl (by rfl)
          · intro w' hw'
            obtain ⟨e0, e1, e2, e3, e4, e5, e6, e7, e8, e9, e10, ef⟩ := cells11 (Keeps.blk hw' B12.out)
            clear hw'
            go_simp
            exact ⟨rfl, rfl⟩
          go_simp
          apply Wf.wpStays_wanted rfl (by rfl)
          · intro w' hw'
            obtain ⟨e0, e1, e2, e3, e4, e5, e6, e7, e8, e9, e10, ef⟩ := cells11 (Keeps.blk hw' B12.out)
            clear hw'
            go_simp
            exact ⟨rfl, rfl⟩
          go_simp
          exact rfl
        case hr =>
          apply Wf.wpAnyP_oneW (i := 15) (fuel := 4) (by kernel_rfl) rfl (by rfl)
          go_simp
          refine (HRA.out _ HK31.out).mono ?_
          rintro e w32 ⟨LA8, LC8, VA8, VC8, NA8, NC8, MA8, MC8, rfl, hn8, hk8⟩
          have HK32 := Lib.hid (HK31.out.trans hk8 (fun _ h => .inl h)); have HN8 := Lib.hid hn8
          clear hk8 hn8 HRA
          refine ⟨_, rfl, HK32.out, ?_⟩
          go_simp
          apply Wf.wpAnyP_oneW (i := 17) (fuel := 3) (by kernel_rfl) rfl (by rfl)
          go_simp
          refine (HRB.out _ HK32.out).mono ?_
          rintro e w33 ⟨LA9, LC9, VA9, VC9, NA9, NC9, MA9, MC9, rfl, hn9, hk9⟩
          have HK33 := Lib.hid (HK32.out.trans hk9 (fun _ h => .inl h))
          have hcs := sameNode_any (w := w33) (x := ⟨restart n, .slice LA8 (restart n).log.length LC8, .slice VA8 (restart n).votes.length VC8, .slice NA8 (restart n).next.length NC8, .slice MA8 (restart n).mtch.length MC8⟩) (y := ⟨restart n, .slice LA9 (restart n).log.length LC9, .slice VA9 (restart n).votes.length VC9, .slice NA9 (restart n).next.length NC9, .slice MA9 (restart n).mtch.length MC9⟩) (HN8.out.keep hk9) hn9 rfl HRS.out.log HRS.out.votes HRS.out.next HRS.out.mtch
          simp only [nodCells] at hcs
          have HCS := Lib.hid hcs
          clear hk9 hn9 HRB hcs
          refine ⟨_, rfl, HK33.out, ?_⟩
          go_simp
          apply Wf.wpAnyP_oneW (i := 18) (fuel := 2) (by kernel_rfl) rfl (by rfl)
          go_simp
          refine HCS.out.mono ?_
          rintro e w34 ⟨rfl, hk34⟩
          have HK34 := Lib.hid (HK33.out.trans hk34 (fun _ h => .inl h))
          clear hk34 HCS
          refine ⟨_, rfl, HK34.out, ?_⟩
          go_simp
          apply Wf.wpAnyP_stays (by kernel_rfl) [19, 20] _ _ _ 0 _ HK34.out (by kernel_rfl) ?hs ?hr
          case hs =>
            apply Wf.wpStays_step rfl rfl
            · intro w' hw'
              clear hw'
              go_simp
              exact ⟨rfl, rfl⟩
            go_simp
            apply Wf.wpStays_step rfl rfl
            · intro w' hw'
              clear hw'
              go_simp
              exact ⟨rfl, rfl⟩
            go_simp
            exact rfl
          case hr =>
            refine ⟨by kernel_rfl, ?_⟩
            go_wp2_with fail
            go_ret
            exact ⟨rfl, K12.out.trans HK34.out (fun _ h => .inl h)⟩
end Go.Proofs.Ytibjbpakbfodaaa
