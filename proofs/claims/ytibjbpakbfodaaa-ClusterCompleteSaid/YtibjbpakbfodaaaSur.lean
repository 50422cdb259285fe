/- ClusterSure, walked. -/
import Derived.Test.YtibjbpakbfodaaaLogsw
import Derived.Deep.RegionLaw
namespace Go.Proofs.Ytibjbpakbfodaaa
open Go.RowKit

/-- What is noted as sure: the list in its variable, whose row is its own. -/
structure SureAt (w : World) (S : Nat → Prop) (b : Nat) (v : Value) (s : List Itm) : Prop where
  blk : w.heap[b]? = some (.cells #[v] 22 (0, 0))
  row : w.ownsRow 0 44 2 v s.length (itemCells s)
  bS : S b
  vS : ∀ g, v.ownBlock = some g → S g
  ne : v.ownBlock ≠ some b
  lt : ∀ k, S k → k < w.heap.size

theorem SureAt.later {w w' : World} {S : Nat → Prop} {b : Nat} {v : Value} {s : List Itm} (h : SureAt w S b v s) (hk : Keeps (fun k => ¬ S k) w w') : SureAt w' S b v s :=
  { blk := (hk.block b (h.lt b h.bS) fun hn => hn h.bS).trans h.blk, row := own_keep h.row fun g hg => hk.block g (own_lt h.row hg) fun hn => hn (h.vS g hg), bS := h.bS, vS := h.vS, ne := h.ne, lt := fun k hk' => Nat.lt_of_lt_of_le (h.lt k hk') hk.size }

theorem app_item {w : World} {v : Value} {n b : Nat} {xs : List Value} {cs : Array Value} (h : w.ownsRow 0 44 2 v n xs) (hb : w.heap[b]? = some (.cells cs 44 (0, 0))) (hs : cs.size = 2) (h1 : ∀ u ∈ cs.toList, u.oneCell' = true) (hn : n ≤ 1000) (ty : TypeId) :
    ∃ v' w', (Builtin.append_ #[22, 22] ty #[v, .slice (some ⟨b, 0, none⟩) 1 1]).run Try.prog w = .ok v' w' ∧ w'.ownsRow 0 44 2 v' (n + 1) (xs ++ cs.toList) ∧ Keeps (fun k => v.ownBlock = some k) w w' ∧ (v'.ownBlock = v.ownBlock ∨ v'.ownBlock = some w.heap.size) := by
  obtain ⟨i0, hi, hz, hsz, hby⟩ := info_parts Try.info44
  obtain ⟨v', w', hr, h2, h3, _, h5⟩ := run_append_own_at (P := Try.prog) (w := w) 0 22 ty 44 i0 _ 2 _ Try.underlying22 hi hz hsz hby rfl (by omega) v n xs h ⟨b, 0, none⟩ 1 1 cs.toList (by simp [hs]) (fun j u hj => by
    rw [Addr.add_lit, Nat.zero_add, cell_of_row w b j _ _ _ hb]; simpa using hj) h1 (by simp [maxLen]; omega) (by omega) (by omega)
  exact ⟨v', w', hr, h2, ⟨h3.os, h3.tape, h3.output, h3.size, fun k hk hne => h3.block k hk fun e => hne e.symm⟩, h5⟩

/-- An item more is noted. -/
theorem SureAt.more {w wi w' : World} {S : Nat → Prop} {b : Nat} {v v' : Value} {s : List Itm} {it : Itm} (h : SureAt w S b v s) (hk : Keeps Free w wi) (o : w'.ownsRow 0 44 2 v' (s.length + 1) (itemCells s ++ [.int .i64 it.term, .int .i64 it.cmd])) (k2 : Keeps (fun k => v.ownBlock = some k) wi w')
    (hv : v'.ownBlock = v.ownBlock ∨ v'.ownBlock = some wi.heap.size) :
    ∃ wz, w'.setCell ⟨b, 0, none⟩ v' = wz ∧ w'.heap[b]? = some (.cells #[v] 22 (0, 0)) ∧ SureAt wz (fun k => S k ∨ v'.ownBlock = some k) b v' (s ++ [it]) ∧ Keeps S w wz ∧ ∀ k, (S k ∨ v'.ownBlock = some k) → S k ∨ w.heap.size ≤ k := by
  have hb1 := (k2.block b (laid_lt (hk.blk h.blk)) fun e => h.ne e).trans (hk.blk h.blk)
  have hnb : v'.ownBlock ≠ some b := fun e => by
    rcases hv with hv | hv
    · exact h.ne (hv ▸ e)
    · rw [hv] at e; injection e with e; have := laid_lt (hk.blk h.blk); omega
  have hsub : ∀ k, (S k ∨ v'.ownBlock = some k) → S k ∨ w.heap.size ≤ k := fun k e => e.elim .inl fun e => by
    rcases hv with hv | hv
    · exact .inl (h.vS k (hv ▸ e))
    · rw [hv] at e; injection e with e; have := hk.size; exact .inr (by omega)
  have hkk : Keeps S w w' := (hk.mono (S' := S) fun _ h => h.elim).trans k2 fun k e => .inl (h.vS k e)
  refine ⟨_, rfl, hb1, ?_, hkk.setCell (p := ⟨b, 0, none⟩) (.inl h.bS) _, hsub⟩
  exact { blk := by rw [setCell_blk hb1]; rfl, row := by
            rw [List.length_append, ← itemCells_snoc]
            exact own_set o _ hnb, bS := .inl h.bS, vS := fun g hg => .inr hg, ne := hnb,
          lt := fun k e => by rw [setCell_size]; exact e.elim (fun e => Nat.lt_of_lt_of_le (h.lt k e) hkk.size) fun e => own_lt o e }

theorem one_cell {w : World} {b : Nat} {t : TypeId} {v0 : Value} (h : w.heap[b]? = some (.cells #[v0] t (0, 0))) : w.cell? ⟨b, 0, none⟩ = some v0 := cell_of_row w b 0 _ _ _ h
theorem box1 (w : World) (o : Obj) : ∃ w', w.alloc o = w' ∧ Keeps Free w w' ∧ w'.heap[w.heap.size]? = some o ∧ w'.heap.size = w.heap.size + 1 := ⟨_, rfl, (Keeps.refl _ w).alloc _, heap_alloc_new w _, World.size_alloc _ _⟩

/-- The state of a loop over nodes: what is noted, in blocks that are the closure's own. -/
def SureLoop (wz : World) (S : Nat → Prop) (b : Nat) (P : List Itm → Prop) (m : Nat) (wr : World) : Prop :=
  ∃ S1 v1 s1, SureAt wr S1 b v1 s1 ∧ P s1 ∧ m ≤ s1.length ∧ Keeps S wz wr ∧ ∀ k, S1 k → S k ∨ wz.heap.size ≤ k

set_option maxRecDepth 100000 in
set_option maxHeartbeats 8000000 in
theorem sure_look {w : World} {S : Nat → Prop} {W : WldV} {b : Nat} {v : Value} {s : List Itm} (hok : WldOk w S W) (P : List Itm → Prop) (hs : SureAt w S b v s) (hP : P s) (h60 : ∀ s, P s → s.length ≤ 60) (hn5 : W.nodes.length ≤ 5)
    (hx : ∀ x ∈ W.nodes, 0 ≤ x.n.commit ∧ x.n.commit ≤ x.n.log.length ∧ x.n.log.length ≤ 60)
    (hag : ∀ x ∈ W.nodes, ∀ s, P s → ∀ i : Nat, (i : Int) < x.n.commit → i < s.length → s[i]? = x.n.log[i]?)
    (hmo : ∀ x ∈ W.nodes, ∀ s, P s → (s.length : Int) < x.n.commit → ∀ (h : s.length < x.n.log.length), P (s ++ [x.n.log[s.length]])) :
    Calls Try.prog 40 #[.agg #[W.nv, W.ov], .pointer (some ⟨b, 0, none⟩)] w fun e w' => e = .returned (.bool true) ∧ SureLoop w S b P 0 w' := by
  obtain ⟨nodes, net, nv, ov⟩ := W
  obtain ⟨NA, NC, en1⟩ := hok.cells.form (nods_len nodes) (by decide)
  obtain ⟨OA, OC, en2⟩ := hok.msgs.cells.form (mess_len net) (by decide)
  simp only at en1 en2 hn5
  subst en1 en2
  obtain ⟨wz, B, hal, hB, hkz, hbz⟩ := box2 w (.slice NA nodes.length NC) (.slice OA net.length OC)
  obtain ⟨c0, c1, cf⟩ := cells2 hbz
  have hsz := hs.later (w' := wz) (hkz.mono fun _ h => h.elim)
  have HOK := Lib.hid hok; have HKZ := Lib.hid hkz; have HBZ := Lib.hid hbz; have HS := Lib.hid hsz; have HP := Lib.hid hP; have H60 := Lib.hid h60; have HX := Lib.hid hx; have HAG := Lib.hid hag; have HMO := Lib.hid hmo; have HS0 := Lib.hid hs; have HBB := Lib.hid hB
  clear hok hbz hkz hs hP h60 hx hag hmo hsz
  go_enter Try.func40, Try.ntmps40
  go_wp2_with fail
  go_loopw [10] (fun i wr => ∃ k : Nat, k ≤ nodes.length ∧ i = .int .i64 k ∧ SureLoop wz S b P 0 wr) (fun i _ => nodes.length + 1 - (intOf i).toNat)
  case atStart => exact ⟨0, Nat.zero_le _, rfl, S, v, s, HS.out, HP.out, Nat.zero_le _, Keeps.refl _ _, fun k h => .inl h⟩
  case round =>
    obtain ⟨k, hk, rfl, S1, v1, s1, i1, i2, -, i4, i5⟩ := hrel
    have hokr := HOK.out.into (S' := S) ((HKZ.out.mono (S' := S) fun _ h => h.elim).trans i4 fun _ h => .inl h) (fun _ _ h => h) fun _ _ h => h
    have hBS : ¬ S1 B := fun h => (i5 B h).elim (fun h => by have := HS0.out.lt B h; omega) fun h => by have := laid_lt HBZ.out; omega
    have hbB := (i4.block B (laid_lt HBZ.out) (fun h => by have := HS0.out.lt B h; omega)).trans HBZ.out
    have I1 := Lib.hid i1; have I2 := Lib.hid i2; have I4 := Lib.hid i4; have I5 := Lib.hid i5; have HBS := Lib.hid hBS; have HBB2 := Lib.hid hbB
    clear i1 i2 i4 i5 hBS hbB
    by_cases hlt : k < nodes.length
    · obtain ⟨bn, off, x, LA, LC, VA, VL, VC, MA, ML, MC, PA, PL, PC, rfl, hxk, hxo, r0, r1, r2, r3, r4, r5, r6, r7, r8, r9, r10⟩ := hokr.node (Keeps.refl _ wr) hlt
      obtain ⟨w4, b4, hal4, hb4, hk4, hbb4⟩ := box11 wr (.int .i64 x.id) (.int .i64 x.n) (.int .i64 x.term) (.int .i64 x.vote) (.slice LA x.log.length LC) (.int .i64 x.commit) (.int .i64 x.role) (.int .i64 x.boss) (.slice VA VL VC) (.slice MA ML MC) (.slice PA PL PC)
      obtain ⟨p0, p1, p2, p3, p4, p5, p6, p7, p8, p9, p10, pf⟩ := cells11 hbb4
      have hxx := HX.out nodes[k] (List.getElem_mem hlt)
      have hagx := HAG.out nodes[k] (List.getElem_mem hlt)
      have hmox := HMO.out nodes[k] (List.getElem_mem hlt)
      rw [hxk] at hxx hagx hmox
      have hs4 := I1.out.later (hk4.mono (S' := fun k => ¬ S1 k) fun _ h => h.elim)
      have hlog : Sl w4 S1 (.slice LA x.log.length LC) 2 (itemCells x.log) := by
        have h0 := (HOK.out.each nodes[k] (List.getElem_mem hlt))
        rw [hxk] at h0
        exact h0.log.into (((HKZ.out.mono (S' := S) fun _ h => h.elim).trans I4.out fun _ h => .inl h).trans hk4 fun _ h => h.elim) (fun _ _ h => h) fun k hk h => (I5.out k h).elim id fun h => by have := HKZ.out.size; omega
      obtain ⟨g1, g2, g3⟩ := hxx
      simp only at g1 g2 g3
      have HXK := Lib.hid hxk; have HAX := Lib.hid hagx; have HMX := Lib.hid hmox; have HS4 := Lib.hid hs4; have HL4 := Lib.hid hlog; have HK4 := Lib.hid hk4; have HBB4 := Lib.hid hbb4; have HB4 := Lib.hid hb4
      obtain ⟨cm, hcm⟩ : ∃ cm : Nat, x.commit = cm := ⟨x.commit.toNat, by omega⟩
      have HCM := Lib.hid hcm
      rw [hcm] at p5 g2 r5 hal4
      clear hxk hxo hk4 hbb4 hagx hmox hs4 hlog g1 hokr hcm
      have hb4S : ¬ S1 b4 := fun h => by have := I1.out.lt _ h; omega
      have HB4S := Lib.hid hb4S
      clear hb4S
      go_wp2_with fail
      obtain ⟨wo, hwo⟩ : ∃ wo, wo = wr := ⟨_, rfl⟩
      subst hwo
      go_loopw [6] (fun i wr => ∃ m : Nat, m ≤ cm ∧ i = .int .i64 m ∧ SureLoop w4 S1 b P m wr) (fun i _ => cm + 1 - (intOf i).toNat)
      case atStart => exact ⟨0, Nat.zero_le _, rfl, S1, v1, s1, HS4.out, I2.out, Nat.zero_le _, Keeps.refl _ _, fun k h => .inl h⟩
      case round =>
        obtain ⟨m, hmc, rfl, S2, v2, s2, j1, j2, j3, j4, j5⟩ := hrel
        have hb4r := (j4.block b4 (laid_lt HBB4.out) HB4S.out).trans HBB4.out
        obtain ⟨q0, q1, q2, q3, q4, q5, q6, q7, q8, q9, q10, qf⟩ := cells11 hb4r
        obtain ⟨V2, C2, rfl, -, -⟩ := own_slice j1.row
        have a0 := one_cell j1.blk
        have af : ∀ k, wr.frozen? ⟨b, k, none⟩ = false := fun k => frozen_of_row wr b k _ _ j1.blk
        have hlr := HL4.out.into (S' := S2) j4 (fun _ _ h => h) fun k hk h => (j5 k h).elim id fun h => by omega
        have s60 := H60.out s2 j2
        have hB4S2 : ¬ S2 b4 := fun h => (j5 b4 h).elim HB4S.out fun h => by have := laid_lt HBB4.out; omega
        rw [HCM.out] at q5
        have J1 := Lib.hid j1; have J2 := Lib.hid j2; have J4 := Lib.hid j4; have J5 := Lib.hid j5; have HLR := Lib.hid hlr; have HQ := Lib.hid hb4r; have HBS2 := Lib.hid hB4S2
        clear j1 j2 j4 j5 hlr hb4r hB4S2
        by_cases hmlt : m < cm
        · have hml : m < x.log.length := by omega
          obtain ⟨la, lo, rfl, hlaS, i1, i2⟩ := HLR.out.item' hml
          obtain ⟨it, hit⟩ : ∃ it, x.log[m] = it := ⟨_, rfl⟩
          rw [hit] at i1 i2
          have HIT := Lib.hid hit
          clear hit
          go_upto_if 23 with fail
          go_cut [31] (fun _ wx => ∃ S3 V3 C3 s3, SureAt wx S3 b (.slice V3 s3.length C3) s3 ∧ P s3 ∧ m < s3.length ∧ Keeps S2 wr wx ∧ ∀ k, S3 k → S2 k ∨ wr.heap.size ≤ k)
          case first =>
            by_cases heq : m = s2.length
            · subst heq
              have hq : ((s2.length : Int) == (s2.length : Int)) = true := by simp
              have hbl := laid_lt J1.out.blk
              have hbl4 := laid_lt HQ.out
              have hla := cell_lt i1
              go_upto_region 8 with fail
              go_region_law (obtain ⟨v', w', hr, o', kk2, hv⟩ := app_item (w := wr.drew.alloc (.cells #[.int .i64 it.term, .int .i64 it.cmd] 44)) (b := wr.heap.size) (own_later J1.out.row ((Keeps.refl (fun _ => False) wr).drew.alloc _)) (heap_alloc_new _ _) rfl (by simp [Value.oneCell']) (by omega) 22; refine step_append_run rfl (.tmp 24) (.tmp 30) 22 rfl (by simp [Act.eval]) (by simp [Act.eval]) hr ?_; obtain ⟨A', C', rfl, -, -⟩ := own_slice o'; obtain ⟨wn, hwn, bb, r1, r2, r3⟩ := J1.out.more ((Keeps.refl Free wr).drew.alloc _) o' kk2 hv; have y0 := one_cell bb; have yf : ∀ k, w'.frozen? ⟨b, k, none⟩ = false := (fun k => frozen_of_row w' b k _ _ bb); have R1 := Lib.hid r1; have R2 := Lib.hid r2; have R3 := Lib.hid r3; clear r1 r2 r3 o' kk2 hv bb)
              all_goals
                go_wp2_with fail
                go_meet
                refine ⟨_, A', C', s2 ++ [it], ?_, ?_, by simp, R2.out, R3.out⟩
                · rw [show (s2 ++ [it]).length = s2.length + 1 by simp]
                  exact R1.out
                · rw [← HIT.out]
                  exact HMX.out s2 J2.out (by rw [HCM.out]; omega) hml
            · have hne : (m == s2.length) = false := by simpa using heq
              have hne' : ((m : Int) == (s2.length : Int)) = false := by simp; omega
              clear heq
              go_wp2_with fail
              go_meet
              exact ⟨S2, V2, C2, s2, J1.out, J2.out, by simp at hne; omega, Keeps.refl _ _, fun k h => .inl h⟩
          case rest =>
            obtain ⟨wt, rfl⟩ : ∃ wt : World, wt = wc := ⟨_, rfl⟩
            obtain ⟨S3, V3, C3, s3, k1, k2, k3, k4, k5⟩ := hcut
            have hb4t := (k4.block b4 (laid_lt HQ.out) HBS2.out).trans HQ.out
            obtain ⟨g0, g1, g2', g3', g4, g5, g6, g7, g8, g9, g10, gf⟩ := cells11 hb4t
            have i1' := k4.cell hlaS i1
            have i2' := k4.cell hlaS i2
            have hit3 : s3[m] = it := by
              have h1 := HAX.out s3 k2 m (by rw [HCM.out]; omega) k3
              rw [List.getElem?_eq_getElem k3, List.getElem?_eq_getElem hml] at h1
              injection h1 with h1
              rw [h1]
              exact HIT.out
            obtain ⟨gs, rfl, hgc, hgf⟩ := own_at (f := fun x : Itm => [Value.int .i64 x.term, Value.int .i64 x.cmd]) (s := 2) (fun _ => rfl) k1.row k3
            have m0 : wt.cell? ⟨gs, m * 2, none⟩ = some (.int .i64 it.term) := by rw [← hit3]; exact hgc 0 _ (by decide) rfl
            have m1 : wt.cell? ⟨gs, m * 2 + 1, none⟩ = some (.int .i64 it.cmd) := by rw [← hit3]; exact hgc 1 _ (by decide) rfl
            have a1 := one_cell k1.blk
            have K1 := Lib.hid k1; have K2 := Lib.hid k2; have K4 := Lib.hid k4; have K5 := Lib.hid k5; have HM3 := Lib.hid k3
            clear k1 k2 k4 k5 hgc hgf hit3 hb4t i1 i2 a0 af q0 q1 q2 q3 q4 q5 q6 q7 q8 q9 q10 qf p0 p1 p2 p3 p4 p5 p6 p7 p8 p9 p10 pf
            generalize it.term = tt at *
            generalize it.cmd = tc at *
            go_upto_region 9 with fail
            go_quiet (fail)
            go_wp2_with fail
            go_roundw
            case rel =>
              refine ⟨m + 1, by omega, by go_num, S3, _, s3, K1.out.later ((Keeps.refl (fun k => ¬ S3 k) wt).drewN nq), K2.out, HM3.out, (J4.out.trans K4.out fun k h => (J5.out k h).imp id id).drewN nq, fun k h => (K5.out k h).elim (J5.out k) fun h => .inr (Nat.le_trans J4.out.size h)⟩
            case measure => simp [intOf]; omega
        · go_wp2_with fail
          go_roundw
          case rel =>
            refine ⟨k + 1, by omega, by go_num, S2, _, s2, J1.out, J2.out, Nat.zero_le _, ((I4.out.trans HK4.out fun _ h => h.elim).trans J4.out fun k h => (I5.out k h).imp id id), fun k h => (J5.out k h).elim (I5.out k) fun h => .inr ?_⟩
            have := I4.out.size; have := HK4.out.size; omega
          case measure => simp [intOf]; omega
    · go_wp2_with fail
      go_ret
      exact ⟨rfl, S1, v1, s1, I1.out, I2.out, Nat.zero_le _, (HKZ.out.mono (S' := S) fun _ h => h.elim).trans I4.out fun _ h => .inl h, fun k h => (I5.out k h).imp id fun h => Nat.le_trans HKZ.out.size h⟩
end Go.Proofs.Ytibjbpakbfodaaa
