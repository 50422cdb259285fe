/- RaftReceives, walked: what the package makes of any message, and what the document's answer does, is one. -/
import Derived.Test.YtibjbpakbfodaaaRefNa
import Derived.Test.YtibjbpakbfodaaaRefNb
import Derived.Test.YtibjbpakbfodaaaRefNc
import Derived.Test.YtibjbpakbfodaaaRefNd
import Derived.Test.YtibjbpakbfodaaaExpb
namespace Go.Proofs.Ytibjbpakbfodaaa
open Go.RowKit

theorem receiveR_any {w : World} {Q : Nat → Prop} {x : NodV} {m : MesV} (h : NodeOk w Q x) (hQ : ∀ k, Q k → k < w.heap.size) (hs : Sized x.n) (hm : MesOk w Free m) (hi : m.m.items.length ≤ 2000000) :
    Calls Try.prog 31 #[.agg (nodCells x).toArray, .agg (mesCells m).toArray] w (HandsR w Q (receive x.n m.m).1 (receive x.n m.m).2) := by
  by_cases h1 : m.m.kind = 1
  · exact receiveR_k1 h hQ hs hm hi h1
  by_cases h2 : m.m.kind = 2
  · exact receiveR_k2 h hQ hs hm hi h2
  by_cases h3 : m.m.kind = 3
  · exact receiveR_k3 h hQ hs hm hi h3
  · exact receiveR_k4 h hQ hs hm hi ⟨h1, h2, h3⟩

theorem receive_few (x : Nod) (m : Mes) : (receive x m).2.length ≤ 10 := by
  by_cases h : wrong x ≠ 0 ∨ lost x m = true
  · unfold receive; rw [if_pos h]; simp
  · have hw : wrong x = 0 := by omega
    have hl : lost x m = false := by cases hl : lost x m; rfl; exact absurd (.inr hl) h
    rw [receive_turned hw hl]
    obtain ⟨hg, _⟩ := received_fits (good_of_wrong hw) hl
    generalize (if x.term < m.term then follow x m.term 0 else x) = y at hg
    have := hg.n5
    unfold turned
    split
    · simp [asked]
    split
    · unfold voted
      split
      · simp
      · have := leadSays_len { y with votes := insertB m.src y.votes }
        simp only at this ⊢
        omega
    split
    · unfold appended
      split
      · simp
      · simp only
        split <;> simp
    · unfold told
      split
      · simp
      split
      · simp only
        split <;> simp
      · simp
theorem receive_sized {x : Nod} (m : Mes) (h : Sized x) : Sized (receive x m).1 := by
  by_cases hw : wrong x = 0
  · exact sized_good (received_good (good_of_wrong hw))
  · have : receive x m = (x, []) := by unfold receive; rw [if_pos (.inl hw)]
    rw [this]; exact h

set_option maxRecDepth 100000 in
set_option maxHeartbeats 16000000 in
theorem raftReceives_walk {w : World} {x : NodV} (h : NodeOk w Free x) (hs : Sized x.n) {m : MesV} (hm : MesOk w Free m) (hi : m.m.items.length ≤ 2000000) (id peers : Int) :
    Calls Try.prog 4 #[.agg (nodCells x).toArray, .agg (mesCells m).toArray, .int .i64 id, .int .i64 peers] w fun e w' => e = .returned (.bool true) ∧ Keeps Free w w' := by
  have H := Lib.hid h; have HSZ := Lib.hid hs; have HM := Lib.hid hm
  obtain ⟨n, lv, vv, nv, mv⟩ := x
  simp only at HSZ
  obtain ⟨LA, LC, VA, VC, NA, NC, MA, MC, rfl, rfl, rfl, rfl⟩ := h.shape
  obtain ⟨m, iv⟩ := m
  obtain ⟨IA, IC, hiv⟩ := hm.shape
  simp only at hiv hi
  subst hiv
  have SZ1 := Lib.hid (receive_sized m hs)
  have LN1 := Lib.hid (receive_few n m)
  have IT1 := Lib.hid (fun s hs => (receive_speaks n m s hs).2.2.2.2.1)
  have HI := Lib.hid hi
  clear h hs hm hi
  simp only [nodCells, mesCells]
  go_enter Try.func4, Try.ntmps4
  go_upto_region 1 with fail
  obtain ⟨k0, k1, k2⟩ := two_boxes w (.cells #[.int .i64 n.id, .int .i64 n.n, .int .i64 n.term, .int .i64 n.vote, .slice LA n.log.length LC, .int .i64 n.commit, .int .i64 n.role, .int .i64 n.boss, .slice VA n.votes.length VC, .slice NA n.next.length NC, .slice MA n.mtch.length MC] 25) (.cells #[.int .i64 m.kind, .int .i64 m.src, .int .i64 m.dst, .int .i64 m.term, .int .i64 m.index, .int .i64 m.logTerm, .int .i64 m.commit, .slice IA m.items.length IC, .bool m.yes] 38)
  obtain ⟨w2, hw2⟩ : ∃ w2, (w.alloc (.cells #[.int .i64 n.id, .int .i64 n.n, .int .i64 n.term, .int .i64 n.vote, .slice LA n.log.length LC, .int .i64 n.commit, .int .i64 n.role, .int .i64 n.boss, .slice VA n.votes.length VC, .slice NA n.next.length NC, .slice MA n.mtch.length MC] 25)).alloc (.cells #[.int .i64 m.kind, .int .i64 m.src, .int .i64 m.dst, .int .i64 m.term, .int .i64 m.index, .int .i64 m.logTerm, .int .i64 m.commit, .slice IA m.items.length IC, .bool m.yes] 38) = w2 := ⟨_, rfl⟩
  rw [hw2] at k0 k1 k2 ⊢
  obtain ⟨B, hB⟩ : ∃ B, w.heap.size = B := ⟨_, rfl⟩
  first | rw [hB] at k1 k2 ⊢ | simp only [hB] at k1 k2 ⊢
  have K2 := Lib.hid k0; have B2 := Lib.hid k1; have M2 := Lib.hid k2; have HBS := Lib.hid hB
  have hblt := laid_lt k2
  clear k0 k1 k2 hw2
  obtain ⟨b0, b1, b2, b3, b4, b5, b6, b7, b8, b9, b10, bf⟩ := cells11 B2.out
  obtain ⟨d0, d1, d2, d3, d4, d5, d6, d7, d8, df⟩ := cells9l M2.out
  have hcall := (receive_any (H.out.into (S' := fun k => w.heap.size ≤ k ∧ k < w2.heap.size) K2.out (fun _ _ h => h.elim) (fun k hk h => by omega) : NodeOk w2 (fun k => w.heap.size ≤ k ∧ k < w2.heap.size) _) (fun k h => h.2) (Sl.keep (show Sl w Free (.slice IA m.items.length IC) 2 (itemCells m.items) from HM.out) K2.out (fun _ _ h => h) : MesOk w2 Free ⟨m, .slice IA m.items.length IC⟩)).mono (fun e w' h => hands_names h)
  simp only [nodCells, mesCells] at hcall
  obtain ⟨y1, hy1⟩ : ∃ y1, (receive n m).1 = y1 := ⟨_, rfl⟩
  rw [hy1] at hcall
  have HCALL := Lib.hid hcall; have HY1 := Lib.hid hy1
  clear hcall hy1
  have hsz1 := K2.out.size
  go_upto_region 2 with (first
    | (go_at_call 30
       refine HCALL.out.mono ?_
       rintro e w3c ⟨LA1, LC1, VA1, VC1, NA1, NC1, MA1, MC1, OA1, OC1, out1, rfl, hso1, hnk1, hms1, hk1⟩
       have HSO1 := Lib.hid hso1; have NK1c := Lib.hid hnk1; have MS1c := Lib.hid hms1; have HK1 := Lib.hid hk1
       clear b0 b1 b2 b3 b4 b5 b6 b7 b8 b9 b10 bf d0 d1 d2 d3 d4 d5 d6 d7 d8 df
       clear hso1 hnk1 hms1 hk1))
  clear HCALL
  obtain ⟨w3, hw1⟩ : ∃ w', w3c.alloc (.cells #[.int .i64 y1.id, .int .i64 y1.n, .int .i64 y1.term, .int .i64 y1.vote, .slice LA1 y1.log.length LC1, .int .i64 y1.commit, .int .i64 y1.role, .int .i64 y1.boss, .slice VA1 y1.votes.length VC1, .slice NA1 y1.next.length NC1, .slice MA1 y1.mtch.length MC1] 25) = w' := ⟨_, rfl⟩
  obtain ⟨P9, hp1⟩ : ∃ p, w3c.heap.size = p := ⟨_, rfl⟩
  have hnb1 := heap_alloc_new w3c (.cells #[.int .i64 y1.id, .int .i64 y1.n, .int .i64 y1.term, .int .i64 y1.vote, .slice LA1 y1.log.length LC1, .int .i64 y1.commit, .int .i64 y1.role, .int .i64 y1.boss, .slice VA1 y1.votes.length VC1, .slice NA1 y1.next.length NC1, .slice MA1 y1.mtch.length MC1] 25)
  have hnk1 := (Keeps.refl Free w3c).alloc (.cells #[.int .i64 y1.id, .int .i64 y1.n, .int .i64 y1.term, .int .i64 y1.vote, .slice LA1 y1.log.length LC1, .int .i64 y1.commit, .int .i64 y1.role, .int .i64 y1.boss, .slice VA1 y1.votes.length VC1, .slice NA1 y1.next.length NC1, .slice MA1 y1.mtch.length MC1] 25)
  rw [hw1] at hnb1 hnk1 ⊢
  rw [hp1] at hnb1 ⊢
  have hkk1 := HK1.out.trans hnk1 (fun _ h => .inl h)
  have Kw3 := Lib.hid (K2.out.trans hkk1 (fun _ h => .inl h))
  have Bw3 := Lib.hid (hkk1.blk B2.out)
  have Mw3 := Lib.hid (hkk1.blk M2.out)
  have NK1 := Lib.hid (NK1c.out.into hnk1 (fun _ _ h => h.elim) (fun _ _ h => h))
  have MS1 := Lib.hid (MS1c.out.into hnk1 (fun _ _ h => h.elim) (fun _ _ h => h))
  have P9b := Lib.hid hnb1
  have hbl1 := laid_lt Bw3.out
  clear hw1 hnb1 hnk1 hkk1 NK1c MS1c HK1 
  obtain ⟨b0, b1, b2, b3, b4, b5, b6, b7, b8, b9, b10, bf⟩ := cells11 Bw3.out
  obtain ⟨d0, d1, d2, d3, d4, d5, d6, d7, d8, df⟩ := cells9l Mw3.out
  have hcall := (receiveR_any (H.out.into (S' := fun k => w.heap.size ≤ k ∧ k < w3.heap.size) Kw3.out (fun _ _ h => h.elim) (fun k hk h => by omega) : NodeOk w3 (fun k => w.heap.size ≤ k ∧ k < w3.heap.size) _) (fun k h => h.2) HSZ.out (Sl.keep (show Sl w Free (.slice IA m.items.length IC) 2 (itemCells m.items) from HM.out) Kw3.out (fun _ _ h => h) : MesOk w3 Free ⟨m, .slice IA m.items.length IC⟩) HI.out).mono (fun e w' h => handsR_names (fun k h => h.2) h)
  simp only [nodCells, mesCells] at hcall
  obtain ⟨y2, hy2⟩ : ∃ y2, (receive n m).1 = y2 := ⟨_, rfl⟩
  rw [hy2] at hcall
  have HCALL := Lib.hid hcall; have HY2 := Lib.hid hy2
  clear hcall hy2
  have hsz2 := Kw3.out.size
  go_upto_region 3 with (first
    | (go_at_call 31
       refine HCALL.out.mono ?_
       rintro e w4c ⟨LA2, LC2, VA2, VC2, NA2, NC2, MA2, MC2, OA2, OC2, out2, rfl, hso2, hnk2, hms2, hk2⟩
       have HSO2 := Lib.hid hso2; have NK2c := Lib.hid hnk2; have MS2c := Lib.hid hms2; have HK2 := Lib.hid hk2
       clear b0 b1 b2 b3 b4 b5 b6 b7 b8 b9 b10 bf d0 d1 d2 d3 d4 d5 d6 d7 d8 df
       clear hso2 hnk2 hms2 hk2))
  clear HCALL
  obtain ⟨w4, hw2⟩ : ∃ w', w4c.alloc (.cells #[.int .i64 y2.id, .int .i64 y2.n, .int .i64 y2.term, .int .i64 y2.vote, .slice LA2 y2.log.length LC2, .int .i64 y2.commit, .int .i64 y2.role, .int .i64 y2.boss, .slice VA2 y2.votes.length VC2, .slice NA2 y2.next.length NC2, .slice MA2 y2.mtch.length MC2] 25) = w' := ⟨_, rfl⟩
  obtain ⟨P11, hp2⟩ : ∃ p, w4c.heap.size = p := ⟨_, rfl⟩
  have hnb2 := heap_alloc_new w4c (.cells #[.int .i64 y2.id, .int .i64 y2.n, .int .i64 y2.term, .int .i64 y2.vote, .slice LA2 y2.log.length LC2, .int .i64 y2.commit, .int .i64 y2.role, .int .i64 y2.boss, .slice VA2 y2.votes.length VC2, .slice NA2 y2.next.length NC2, .slice MA2 y2.mtch.length MC2] 25)
  have hnk2 := (Keeps.refl Free w4c).alloc (.cells #[.int .i64 y2.id, .int .i64 y2.n, .int .i64 y2.term, .int .i64 y2.vote, .slice LA2 y2.log.length LC2, .int .i64 y2.commit, .int .i64 y2.role, .int .i64 y2.boss, .slice VA2 y2.votes.length VC2, .slice NA2 y2.next.length NC2, .slice MA2 y2.mtch.length MC2] 25)
  rw [hw2] at hnb2 hnk2 ⊢
  rw [hp2] at hnb2 ⊢
  have hkk2 := HK2.out.trans hnk2 (fun _ h => .inl h)
  have Kw4 := Lib.hid (Kw3.out.trans hkk2 (fun _ h => .inl h))
  have Bw4 := Lib.hid (hkk2.blk Bw3.out)
  have Mw4 := Lib.hid (hkk2.blk Mw3.out)
  have NK2 := Lib.hid (NK2c.out.into hnk2 (fun _ _ h => h.elim) (fun _ _ h => h))
  have MS2 := Lib.hid (MS2c.out.into hnk2 (fun _ _ h => h.elim) (fun _ _ h => h))
  have P11b := Lib.hid hnb2
  have P9bn := Lib.hid (hkk2.blk P9b.out)
  have NK1n := Lib.hid (NK1.out.into hkk2 (fun _ _ h => h.elim) (fun _ _ h => h))
  have MS1n := Lib.hid (MS1.out.into hkk2 (fun _ _ h => h.elim) (fun _ _ h => h))
  have hbl2 := laid_lt Bw4.out
  clear hw2 hnb2 hnk2 hkk2 NK2c MS2c HK2 P9b NK1 MS1
  obtain ⟨P9b⟩ : Nonempty (Hid _) := ⟨P9bn⟩
  clear P9bn
  obtain ⟨NK1⟩ : Nonempty (Hid _) := ⟨NK1n⟩
  clear NK1n
  obtain ⟨MS1⟩ : Nonempty (Hid _) := ⟨MS1n⟩
  clear MS1n
  have hyy : y2 = y1 := HY2.out.symm.trans HY1.out
  have hsz : Sized y1 := by rw [← HY1.out]; exact SZ1.out
  have hle : said out2 = said out1 := HSO2.out.trans HSO1.out.symm
  have CS := Lib.hid (fun (w1 : World) (hk : Keeps Free w4 w1) => sameNode_any (w := w1) (x := ⟨y1, .slice LA1 y1.log.length LC1, .slice VA1 y1.votes.length VC1, .slice NA1 y1.next.length NC1, .slice MA1 y1.mtch.length MC1⟩) (y := ⟨y2, .slice LA2 y2.log.length LC2, .slice VA2 y2.votes.length VC2, .slice NA2 y2.next.length NC2, .slice MA2 y2.mtch.length MC2⟩) (NK1.out.into hk (fun _ _ h => h.elim) (fun _ _ h => h.elim)) (NK2.out.into hk (fun _ _ h => h.elim) (fun _ _ h => h.elim)) hyy hsz.log hsz.votes hsz.next hsz.mtch)
  have CM := Lib.hid (fun (w1 : World) (hk : Keeps Free w4 w1) => sameMsgs_any (w := w1) (MS1.out.into hk (fun _ _ h => h.elim) (fun _ _ h => h.elim)) (MS2.out.into hk (fun _ _ h => h.elim) (fun _ _ h => h.elim)) hle (by rw [said_len HSO1.out]; have := LN1.out; omega) (said_items HSO1.out (fun m hm => by have := IT1.out m hm; omega)))
  have CE := Lib.hid (fun (w1 : World) => sameNode_any (w := w1) (x := ⟨start id peers, .slice none 0 0, .slice none 0 0, .slice none 0 0, .slice none 0 0⟩) (y := ⟨start id peers, .slice none 0 0, .slice none 0 0, .slice none 0 0, .slice none 0 0⟩) ⟨⟨none, 0, 0, rfl, rfl, Nat.le_refl _, by simp [maxLen], fun h => by simp [start, itemCells] at h⟩, ⟨none, 0, 0, rfl, rfl, Nat.le_refl _, by simp [maxLen], fun h => by simp [start, intCells] at h⟩, ⟨none, 0, 0, rfl, rfl, Nat.le_refl _, by simp [maxLen], fun h => by simp [start, intCells] at h⟩, ⟨none, 0, 0, rfl, rfl, Nat.le_refl _, by simp [maxLen], fun h => by simp [start, intCells] at h⟩⟩ ⟨⟨none, 0, 0, rfl, rfl, Nat.le_refl _, by simp [maxLen], fun h => by simp [start, itemCells] at h⟩, ⟨none, 0, 0, rfl, rfl, Nat.le_refl _, by simp [maxLen], fun h => by simp [start, intCells] at h⟩, ⟨none, 0, 0, rfl, rfl, Nat.le_refl _, by simp [maxLen], fun h => by simp [start, intCells] at h⟩, ⟨none, 0, 0, rfl, rfl, Nat.le_refl _, by simp [maxLen], fun h => by simp [start, intCells] at h⟩⟩ rfl (by simp [start]) (by simp [start]) (by simp [start]) (by simp [start]))
  have SA := Lib.hid (fun (w1 : World) => start_any w1 id peers)
  clear hyy hsz hle NK1 NK2 MS1 MS2 HSO1 HSO2 HY1 HY2
  simp only [nodCells, start] at CS CE SA
  obtain ⟨b0, b1, b2, b3, b4, b5, b6, b7, b8, b9, b10, bf⟩ := cells11 P9b.out
  obtain ⟨r0, r1, r2, r3, r4, r5, r6, r7, r8, r9, r10, rf⟩ := cells11 P11b.out
  go_wp2_with (first
    | (go_at_call 22
       refine (CS.out _ (Keeps.refl Free _)).mono ?_
       rintro e w30 ⟨rfl, hk30⟩
       have HK30 := Lib.hid hk30
       clear hk30 CS b0 b1 b2 b3 b4 b5 b6 b7 b8 b9 b10 bf r0 r1 r2 r3 r4 r5 r6 r7 r8 r9 r10 rf)
    | (go_at_call 23
       refine (CM.out _ HK30.out).mono ?_
       rintro e w31 ⟨rfl, hk31⟩
       have HK31 := Lib.hid (HK30.out.trans hk31 (fun _ h => .inl h))
       clear hk31 CM)
    | (go_at_call 32
       refine (SA.out _).mono ?_
       rintro e w32 ⟨rfl, hk32⟩
       have HK32 := Lib.hid (HK31.out.trans hk32 (fun _ h => .inl h))
       clear hk32 SA)
    | (go_at_call 22
       refine (CE.out _).mono ?_
       rintro e w33 ⟨rfl, hk33⟩
       have HK33 := Lib.hid (HK32.out.trans hk33 (fun _ h => .inl h))
       clear hk33 CE))
  go_ret
  exact ⟨rfl, Kw4.out.trans HK33.out (fun _ h => .inl h)⟩
end Go.Proofs.Ytibjbpakbfodaaa
