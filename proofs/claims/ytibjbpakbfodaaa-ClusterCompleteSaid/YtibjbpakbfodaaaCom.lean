/- ClusterComplete, walked. -/
import Derived.Test.YtibjbpakbfodaaaSurw
import Derived.Test.YtibjbpakbfodaaaTail
namespace Go.Proofs.Ytibjbpakbfodaaa
open Go.RowKit

/-- What is noted as sure, and the highest term in which something was. -/
structure ComAt (w : World) (S : Nat → Prop) (bt b : Nat) (t : Int) (v : Value) (s : List Itm) : Prop where
  at_ : SureAt w S b v s
  blk : w.heap[bt]? = some (.cells #[.int .i64 t] 3 (0, 0))
  bS : S bt
  ne : bt ≠ b
  vne : v.ownBlock ≠ some bt

theorem ComAt.later {w w' : World} {S : Nat → Prop} {bt b : Nat} {t : Int} {v : Value} {s : List Itm} (h : ComAt w S bt b t v s) (hk : Keeps (fun k => ¬ S k) w w') : ComAt w' S bt b t v s :=
  { at_ := h.at_.later hk, blk := (hk.block bt (h.at_.lt bt h.bS) fun hn => hn h.bS).trans h.blk, bS := h.bS, ne := h.ne, vne := h.vne }

def ComLoop (wz : World) (S : Nat → Prop) (bt b : Nat) (P : Int → List Itm → Prop) (wr : World) : Prop :=
  ∃ S1 t v1 s1, ComAt wr S1 bt b t v1 s1 ∧ P t s1 ∧ Keeps S wz wr ∧ ∀ k, S1 k → S k ∨ wz.heap.size ≤ k

theorem app_copy {w : World} {ad : Addr} {m c : Nat} {xs : List Value} (hl : xs.length = m * 2) (hc : ∀ j u, xs[j]? = some u → w.cell? (ad.add j) = some u) (h1 : ∀ u ∈ xs, u.oneCell' = true) (hm : m ≤ 1000) (ty : TypeId) :
    ∃ v' w', (Builtin.append_ #[22, 22] ty #[.slice (some ⟨w.heap.size, 0, none⟩) 0 0, .slice (some ad) m c]).run Try.prog (w.alloc (.cells #[] 44)) = .ok v' w' ∧ w'.ownsRow 0 44 2 v' m xs ∧ Keeps Free w w' ∧ ∀ g, v'.ownBlock = some g → w.heap.size ≤ g := by
  obtain ⟨i0, hi, hz, hsz, hby⟩ := info_parts Try.info44
  have ho : (w.alloc (.cells #[] 44)).ownsRow 0 44 2 (.slice (some ⟨w.heap.size, 0, none⟩) 0 0) 0 [] := World.ownsRow_lit _ _ 0 (by simp) (by simp [maxLen]) (by simp)
  obtain ⟨v', w', hr, h2, h3, _, h5⟩ := run_append_own_at (P := Try.prog) (w := w.alloc (.cells #[] 44)) 0 22 ty 44 i0 _ 2 _ Try.underlying22 hi hz hsz hby rfl (by omega) _ 0 [] ho ad m c xs hl (fun j u hj => ((Keeps.refl Free w).alloc _).cellA (fun h => h) (hc j u hj)) h1 (by simp [maxLen]; omega) (by omega) (by omega)
  have hk : Keeps (fun k => k = w.heap.size) (w.alloc (.cells #[] 44)) w' := ⟨h3.os, h3.tape, h3.output, h3.size, fun k hk hne => h3.block k hk fun e => hne (by simp [Value.ownBlock] at e; exact e)⟩
  refine ⟨v', w', hr, by simpa using h2, ((Keeps.refl Free w).alloc _).trans hk fun k e => .inr (by omega), fun g hg => ?_⟩
  rcases h5 with h5 | h5
  · rw [h5] at hg; simp [Value.ownBlock] at hg; omega
  · rw [h5] at hg; simp at hg; omega

/-- A new list is noted. -/
theorem ComAt.noted {w w' : World} {S : Nat → Prop} {bt b : Nat} {t : Int} {v v' : Value} {s l : List Itm} (h : ComAt w S bt b t v s) (hk : Keeps Free w w') (o : w'.ownsRow 0 44 2 v' l.length (itemCells l)) (hv : ∀ g, v'.ownBlock = some g → w.heap.size ≤ g) :
    ∃ wz, w'.setCell ⟨b, 0, none⟩ v' = wz ∧ w'.heap[b]? = some (.cells #[v] 22 (0, 0)) ∧ ComAt wz (fun k => S k ∨ v'.ownBlock = some k) bt b t v' l ∧ Keeps S w wz ∧ ∀ k, (S k ∨ v'.ownBlock = some k) → S k ∨ w.heap.size ≤ k := by
  have hb1 := hk.blk h.at_.blk
  have ht1 := hk.blk h.blk
  have hlb := laid_lt h.at_.blk
  have hlt := laid_lt h.blk
  have hks : Keeps (fun k => k = b) w' (w'.setCell ⟨b, 0, none⟩ v') := (Keeps.refl (fun k => k = b) w').setCell (p := ⟨b, 0, none⟩) (.inl rfl) _
  refine ⟨_, rfl, hb1, ?_, (hk.mono (S' := S) fun _ h => h.elim).trans hks fun k e => .inl (e ▸ h.at_.bS), fun k e => e.imp id (hv k)⟩
  exact { at_ := { blk := by rw [setCell_blk hb1]; rfl, row := own_set o _ fun e => by have := hv b e; omega, bS := .inl h.at_.bS, vS := fun g hg => .inr hg, ne := fun e => by have := hv b e; omega,
                   lt := fun k e => by rw [setCell_size]; exact e.elim (fun e => Nat.lt_of_lt_of_le (h.at_.lt k e) hk.size) fun e => own_lt o e },
          blk := (hks.block bt (laid_lt ht1) h.ne).trans ht1, bS := .inl h.bS, ne := h.ne, vne := fun e => by have := hv bt e; omega }

/-- Another term is noted. -/
theorem ComAt.term {w : World} {S : Nat → Prop} {bt b : Nat} {t t' : Int} {v : Value} {s : List Itm} (h : ComAt w S bt b t v s) :
    ∃ wz, w.setCell ⟨bt, 0, none⟩ (.int .i64 t') = wz ∧ ComAt wz S bt b t' v s ∧ Keeps S w wz := by
  have hks : Keeps (fun k => k = bt) w (w.setCell ⟨bt, 0, none⟩ (.int .i64 t')) := (Keeps.refl (fun k => k = bt) w).setCell (p := ⟨bt, 0, none⟩) (.inl rfl) _
  refine ⟨_, rfl, ?_, (Keeps.refl S w).setCell (p := ⟨bt, 0, none⟩) (.inl h.bS) _⟩
  exact { at_ := { blk := (hks.block b (laid_lt h.at_.blk) fun e => h.ne e.symm).trans h.at_.blk, row := own_set h.at_.row _ h.vne, bS := h.at_.bS, vS := h.at_.vS, ne := h.at_.ne, lt := fun k e => by rw [setCell_size]; exact h.at_.lt k e },
          blk := by rw [setCell_blk h.blk]; rfl, bS := h.bS, ne := h.ne, vne := h.vne }

set_option maxRecDepth 100000 in
set_option maxHeartbeats 8000000 in
theorem com_look {w : World} {S : Nat → Prop} {W : WldV} {bt b : Nat} {t : Int} {v : Value} {s : List Itm} (hok : WldOk w S W) (P : Int → List Itm → Prop) (hs : ComAt w S bt b t v s) (hP : P t s) (h60 : ∀ t s, P t s → s.length ≤ 60) (hn5 : W.nodes.length ≤ 5)
    (hx : ∀ x ∈ W.nodes, 0 ≤ x.n.commit ∧ x.n.commit ≤ x.n.log.length ∧ x.n.log.length ≤ 60)
    (hled : ∀ x ∈ W.nodes, x.n.role = 3 → t < x.n.term → s.length ≤ x.n.log.length ∧ x.n.log.take s.length = s)
    (hmo : ∀ x ∈ W.nodes, ∀ t s, P t s → (s.length : Int) < x.n.commit → P (max t x.n.term) (x.n.log.take x.n.commit.toNat)) :
    Calls Try.prog 41 #[.agg #[W.nv, W.ov], .pointer (some ⟨bt, 0, none⟩), .pointer (some ⟨b, 0, none⟩)] w fun e w' => e = .returned (.bool true) ∧ ComLoop w S bt b P w' := by
  obtain ⟨nodes, net, nv, ov⟩ := W
  obtain ⟨NA, NC, en1⟩ := hok.cells.form (nods_len nodes) (by decide)
  obtain ⟨OA, OC, en2⟩ := hok.msgs.cells.form (mess_len net) (by decide)
  simp only at en1 en2 hn5
  subst en1 en2
  obtain ⟨wz, B, hal, hB, hkz, hbz⟩ := box2 w (.slice NA nodes.length NC) (.slice OA net.length OC)
  obtain ⟨c0, c1, cf⟩ := cells2 hbz
  have hsz := hs.later (w' := wz) (hkz.mono fun _ h => h.elim)
  have a0 := one_cell hsz.blk
  obtain ⟨V, C, hvv, -, -⟩ := own_slice hsz.at_.row
  subst hvv
  have a1 := one_cell hsz.at_.blk
  have HOK := Lib.hid hok; have HKZ := Lib.hid hkz; have HBZ := Lib.hid hbz; have HS := Lib.hid hsz; have HP := Lib.hid hP; have H60 := Lib.hid h60; have HX := Lib.hid hx; have HLED := Lib.hid hled; have HMO := Lib.hid hmo; have HS0 := Lib.hid hs; have HBB := Lib.hid hB
  have s60 := h60 t s hP
  clear hok hbz hkz hs hP h60 hx hled hmo hsz
  go_enter Try.func41, Try.ntmps41
  go_wp2_with fail
  go_loopw [12] (fun i wr => ∃ k : Nat, k ≤ nodes.length ∧ i = .int .i64 k ∧ Keeps Free wz wr) (fun i _ => nodes.length + 1 - (intOf i).toNat)
  case atStart => exact ⟨0, Nat.zero_le _, rfl, Keeps.refl _ _⟩
  case round =>
    obtain ⟨k, hk, rfl, hkr⟩ := hrel
    have HKR := Lib.hid hkr
    clear hkr
    by_cases hlt : k < nodes.length
    · obtain ⟨bn, off, x, LA, LC, VA, VL, VC, MA, ML, MC, PA, PL, PC, rfl, hxk, hxo, r0, r1, r2, r3, r4, r5, r6, r7, r8, r9, r10⟩ := HOK.out.node (HKZ.out.trans HKR.out fun _ h => .inl h) hlt
      obtain ⟨w4, b4, hal4, hb4, hk4, hbb4⟩ := box11 wr (.int .i64 x.id) (.int .i64 x.n) (.int .i64 x.term) (.int .i64 x.vote) (.slice LA x.log.length LC) (.int .i64 x.commit) (.int .i64 x.role) (.int .i64 x.boss) (.slice VA VL VC) (.slice MA ML MC) (.slice PA PL PC)
      obtain ⟨p0, p1, p2, p3, p4, p5, p6, p7, p8, p9, p10, pf⟩ := cells11 hbb4
      have d0 := hk4.cell (fun h => h) (HKR.out.cell (fun h => h) c0)
      have e0 := hk4.cell (fun h => h) (HKR.out.cell (fun h => h) a0)
      have e1 := hk4.cell (fun h => h) (HKR.out.cell (fun h => h) a1)
      have hledx := HLED.out nodes[k] (List.getElem_mem hlt)
      have hxx := HX.out nodes[k] (List.getElem_mem hlt)
      rw [hxk] at hledx hxx
      have hsl : Sl w4 Free (.slice V s.length C) 2 (itemCells s) := (Sl.of_own HS.out.at_.row fun _ _ h => h).into (HKR.out.trans hk4 fun _ h => .inl h) (fun _ _ h => h) fun _ _ h => h
      have hlg : Sl w4 Free (.slice LA x.log.length LC) 2 (itemCells x.log) := (hxo.into (S' := Free) hk4 (fun _ _ h => h.elim) fun _ _ h => h.elim).log
      have HLX := Lib.hid hledx; have HK4 := Lib.hid hk4; have HSL := Lib.hid hsl; have HLG := Lib.hid hlg
      have hx6 : x.log.length ≤ 60 := hxx.2.2
      clear hxk hxo hk4 hbb4 hledx hsl hlg hxx
      by_cases q1 : x.role = 3
      · have g1 : (x.role == 3) = true := by simpa using q1
        by_cases q2 : t < x.term
        · have g2 : decide (t < x.term) = true := by simpa using q2
          obtain ⟨q3, q4⟩ := HLX.out q1 q2
          simp only at q3 q4
          have g3 : decide (x.log.length < s.length) = false := by simp; omega
          have HQ4 := Lib.hid q4
          have hxc := log_cap HLG.out
          have hsc := log_cap HSL.out
          have hsx : s.length ≤ LC := by omega
          have f6 : ∀ ξ : Kp w4, ξ.val.cell? ⟨b4, 6, none⟩ = some (.int .i64 x.role) := fun ξ => ξ.keeps.cell (fun h => h) p6
          have f2 : ∀ ξ : Kp w4, ξ.val.cell? ⟨b4, 2, none⟩ = some (.int .i64 x.term) := fun ξ => ξ.keeps.cell (fun h => h) p2
          have f4 : ∀ ξ : Kp w4, ξ.val.cell? ⟨b4, 4, none⟩ = some (.slice LA x.log.length LC) := fun ξ => ξ.keeps.cell (fun h => h) p4
          have ft : ∀ ξ : Kp w4, ξ.val.cell? ⟨bt, 0, none⟩ = some (.int .i64 t) := fun ξ => ξ.keeps.cell (fun h => h) e0
          have fs : ∀ ξ : Kp w4, ξ.val.cell? ⟨b, 0, none⟩ = some (.slice V s.length C) := fun ξ => ξ.keeps.cell (fun h => h) e1
          have hcall : ∀ ξ : Kp w4, Calls Try.prog 34 #[.slice LA s.length LC, .slice V s.length C] ξ.val fun e w'' => e = .returned (.bool true) ∧ ∃ ξ' : Kp w4, w'' = ξ'.val := fun ξ => by
            have g1 := (HLG.out.into (S' := Free) ξ.keeps (fun _ _ h => h) fun _ _ h => h).head (k := s.length) q3
            have g2 := (HSL.out.into (S' := Free) ξ.keeps (fun _ _ h => h) fun _ _ h => h)
            refine (same_any (l := s) (by rw [HQ4.out] at g1; exact g1) g2 (by omega)).mono ?_
            rintro e w'' ⟨rfl, hk⟩
            exact ⟨rfl, ⟨w'', ξ.keeps.trans hk (fun _ h => .inl h)⟩, rfl⟩
          have HC := Lib.hid hcall
          clear hcall q1 q2 q4 hxc hsc
          go_upto_region 4 with fail
          clear p0 p1 p2 p3 p4 p5 p6 p7 p8 p9 p10 pf e0 e1 d0 r0 r1 r2 r3 r4 r5 r6 r7 r8 r9 r10 hal4
          refine wp_region_quiet_k (by kernel_rfl) (by kernel_rfl) ?_
          repeat (go_big_quiet_step (first | exact HC.out _ | (go_at_call 34; exact HC.out _)))
          refine wpQuiet_nil ?_
          intro _ hw'
          obtain ⟨ξ, hw''⟩ := hw'
          subst hw''
          go_wp2_with fail
          go_roundw
          case rel => exact ⟨k + 1, by omega, by go_num, (HKR.out.trans HK4.out fun _ h => .inl h).trans ξ.keeps fun _ h => .inl h⟩
          case measure => simp [intOf]; omega
        · have g2 : decide (t < x.term) = false := by simpa using q2
          clear q1 q2
          go_upto_region 4 with fail
          go_quiet (fail)
          go_wp2_with fail
          go_roundw
          case rel => exact ⟨k + 1, by omega, by go_num, (HKR.out.trans HK4.out fun _ h => .inl h).drewN nq⟩
          case measure => simp [intOf]; omega
      · have g1 : (x.role == 3) = false := by simpa using q1
        clear q1
        go_upto_region 4 with fail
        go_quiet (fail)
        go_wp2_with fail
        go_roundw
        case rel => exact ⟨k + 1, by omega, by go_num, (HKR.out.trans HK4.out fun _ h => .inl h).drewN nq⟩
        case measure => simp [intOf]; omega
    · have hsr := HS.out.later (HKR.out.mono (S' := fun k => ¬ S k) fun _ h => h.elim)
      have d0 := HKR.out.cell (fun h => h) c0
      have HSR := Lib.hid hsr
      clear hsr
      go_wp2_with fail
      obtain ⟨wo, hwo⟩ : ∃ wo, wo = wr := ⟨_, rfl⟩
      subst hwo
      clear c0 c1 cf a0 a1 d0
      go_loopw [47] (fun i wr => ∃ k : Nat, k ≤ nodes.length ∧ i = .int .i64 k ∧ ComLoop wo S bt b P wr) (fun i _ => nodes.length + 1 - (intOf i).toNat)
      case atStart => exact ⟨0, Nat.zero_le _, rfl, S, t, _, s, HSR.out, HP.out, Keeps.refl _ _, fun k h => .inl h⟩
      case round =>
        obtain ⟨j, hj, rfl, S1, t1, v1, s1, i1, i2, i3, i4⟩ := hrel
        have I1 := Lib.hid i1; have I2 := Lib.hid i2; have I3 := Lib.hid i3; have I4 := Lib.hid i4
        clear i1 i2 i3 i4
        by_cases hlt2 : j < nodes.length
        · have hokr := HOK.out.into (S' := S) (((HKZ.out.trans HKR.out fun _ h => .inl h).mono (S' := S) fun _ h => h.elim).trans I3.out fun _ h => .inl h) (fun _ _ h => h) fun _ _ h => h
          obtain ⟨bn, off, x, LA, LC, VA, VL, VC, MA, ML, MC, PA, PL, PC, rfl, hxk, hxo, r0, r1, r2, r3, r4, r5, r6, r7, r8, r9, r10⟩ := hokr.node (Keeps.refl _ wr) hlt2
          obtain ⟨w4, b4, hal4, hb4, hk4, hbb4⟩ := box11 wr (.int .i64 x.id) (.int .i64 x.n) (.int .i64 x.term) (.int .i64 x.vote) (.slice LA x.log.length LC) (.int .i64 x.commit) (.int .i64 x.role) (.int .i64 x.boss) (.slice VA VL VC) (.slice MA ML MC) (.slice PA PL PC)
          obtain ⟨p0, p1, p2, p3, p4, p5, p6, p7, p8, p9, p10, pf⟩ := cells11 hbb4
          have hxx := HX.out nodes[j] (List.getElem_mem hlt2)
          have hmox := HMO.out nodes[j] (List.getElem_mem hlt2)
          rw [hxk] at hxx hmox
          obtain ⟨g1, g2, g3⟩ := hxx
          simp only at g1 g2 g3
          have h4 := I1.out.later (hk4.mono (S' := fun k => ¬ S1 k) fun _ h => h.elim)
          have e0 := one_cell h4.blk
          obtain ⟨V1, C1, hv1, -, -⟩ := own_slice h4.at_.row
          subst hv1
          have e1 := one_cell h4.at_.blk
          have ef : ∀ k, w4.frozen? ⟨b, k, none⟩ = false := fun k => frozen_of_row w4 b k _ _ h4.at_.blk
          have etf : ∀ k, w4.frozen? ⟨bt, k, none⟩ = false := fun k => frozen_of_row w4 bt k _ _ h4.blk
          have s160 := H60.out t1 s1 I2.out
          have hlg : Sl w4 Free (.slice LA x.log.length LC) 2 (itemCells x.log) := (hxo.into (S' := Free) hk4 (fun _ _ h => h.elim) fun _ _ h => h.elim).log
          have hb4S : ¬ S1 b4 := fun h => by have := I1.out.at_.lt _ h; omega
          have H4 := Lib.hid h4; have HMX := Lib.hid hmox; have HK4 := Lib.hid hk4; have HBB4 := Lib.hid hbb4; have HLG := Lib.hid hlg; have HB4S := Lib.hid hb4S
          have hx6 : x.log.length ≤ 60 := g3
          clear hxk hxo hokr hmox hk4 hbb4 hlg h4 hb4S
          cases q1 : decide ((s1.length : Int) < x.commit)
          case false =>
            go_wp2_with fail
            go_roundw
            case rel => exact ⟨j + 1, by omega, by go_num, S1, t1, _, s1, H4.out, I2.out, I3.out.trans HK4.out fun _ h => h.elim, I4.out⟩
            case measure => simp [intOf]; omega
          case true =>
            have hq : (s1.length : Int) < x.commit := by simpa using q1
            obtain ⟨cm, hcm⟩ : ∃ cm : Nat, x.commit = cm := ⟨x.commit.toNat, by omega⟩
            have hcl : cm ≤ x.log.length := by omega
            have hc0 : s1.length < cm := by omega
            have hP2 := HMX.out t1 s1 I2.out (by simpa using hq)
            simp only [hcm, Int.toNat_natCast] at hP2
            have hhd := HLG.out.head hcl
            have hxc := log_cap HLG.out
            have hlc : cm ≤ LC := by omega
            obtain ⟨la, lo, rfl, -, -, -⟩ := HLG.out.item' (j := 0) (by omega)
            rw [hcm] at p5 q1
            have hl1 : (itemCells (x.log.take cm)).length = cm * 2 := by rw [itemCells_length, List.length_take]; omega
            obtain ⟨v', w', hr, o', kk, hv⟩ := app_copy (w := w4) (ad := ⟨la, lo, none⟩) (m := cm) (c := LC) (xs := itemCells (x.log.take cm)) hl1 (fun i u hi => by
              obtain ⟨A', n', c', e, _, _, _, hc⟩ := hhd
              injection e with e1 e2 e3
              subst e1
              obtain ⟨b', off', e, _, hcell⟩ := hc (Nat.lt_of_le_of_lt (Nat.zero_le _) (List.getElem?_eq_some_iff.1 hi).1)
              injection e with e
              injection e with e1 e2
              subst e1 e2
              rw [Addr.add_lit]
              exact hcell i u hi) (one_item _) (by omega) 22
            have hlt3 : (x.log.take cm).length = cm := by rw [List.length_take]; omega
            obtain ⟨wn, hwn, hbn, n1, n2, n3⟩ := H4.out.noted kk (by rw [hlt3]; exact o') hv
            obtain ⟨A', C', rfl, -, -⟩ := own_slice o'
            have y0 := one_cell hbn
            have yf : ∀ k, w'.frozen? ⟨b, k, none⟩ = false := fun k => frozen_of_row w' b k _ _ hbn
            have t0 := one_cell n1.blk
            have tf : ∀ k, wn.frozen? ⟨bt, k, none⟩ = false := fun k => frozen_of_row wn bt k _ _ n1.blk
            have hb4n := (n2.block b4 (laid_lt HBB4.out) HB4S.out).trans HBB4.out
            obtain ⟨m0, m1, m2, m3, m4, m5, m6, m7, m8, m9, m10, mf⟩ := cells11 hb4n
            have HR := Lib.hid hr; have N1 := Lib.hid n1; have N2 := Lib.hid n2; have N3 := Lib.hid n3; have HP2 := Lib.hid hP2; have HCM := Lib.hid hcm
            have hbl := laid_lt H4.out.at_.blk
            have hbl4 := laid_lt HBB4.out
            clear hr o' kk hv n1 n2 n3 hP2 hbn hb4n hhd hcm hl1 hq
            cases q2 : decide (t1 < x.term)
            case true =>
              obtain ⟨wt, hwt, ht, kt⟩ := N1.out.term (t' := x.term)
              have HT := Lib.hid ht; have KT := Lib.hid kt
              have hmax : max t1 x.term = x.term := by simp at q2; omega
              have HMAX := Lib.hid hmax
              clear ht kt hmax
              go_wp2_with (at_builtin; refine wpList_append_run rfl _ _ 22 rfl rfl rfl HR.out ?_)
              go_roundw
              case rel =>
                have hP3 := HP2.out
                rw [HMAX.out] at hP3
                refine ⟨j + 1, by omega, by go_num, _, x.term, _, _, HT.out, hP3, (((I3.out.trans HK4.out fun _ h => h.elim).trans N2.out I4.out).trans KT.out fun k h => ?_), fun k h => ?_⟩
                · exact (N3.out k h).elim (I4.out k) fun h => .inr (by have := I3.out.size; have := HK4.out.size; omega)
                · exact (N3.out k h).elim (I4.out k) fun h => .inr (by have := I3.out.size; have := HK4.out.size; omega)
              case measure => simp [intOf]; omega
            case false =>
              have hmax : max t1 x.term = t1 := by simp at q2; omega
              have HMAX := Lib.hid hmax
              clear hmax
              go_wp2_with (at_builtin; refine wpList_append_run rfl _ _ 22 rfl rfl rfl HR.out ?_)
              go_roundw
              case rel =>
                have hP3 := HP2.out
                rw [HMAX.out] at hP3
                refine ⟨j + 1, by omega, by go_num, _, t1, _, _, N1.out, hP3, (I3.out.trans HK4.out fun _ h => h.elim).trans N2.out I4.out, fun k h => ?_⟩
                exact (N3.out k h).elim (I4.out k) fun h => .inr (by have := I3.out.size; have := HK4.out.size; omega)
              case measure => simp [intOf]; omega
        · go_wp2_with fail
          go_ret
          exact ⟨rfl, S1, t1, v1, s1, I1.out, I2.out, ((HKZ.out.trans HKR.out fun _ h => .inl h).mono (S' := S) fun _ h => h.elim).trans I3.out fun _ h => .inl h, fun k h => (I4.out k h).imp id fun h => Nat.le_trans HKZ.out.size (Nat.le_trans HKR.out.size h)⟩

theorem call41 (args : Array Value) (w : World) : (callFunc 41 args).run Try.prog w = .ok (.enter 41 args) w := by kernel_rfl

def ComP (n : Int) (G : Gh) (t : Int) (s : List Itm) : Prop := SureOk n G t s ∧ s.length ≤ 60

def ComInv (n : Int) (bt b : Nat) (S : Nat → Prop) (W : Wld) (w : World) : Prop := ¬ (n < 1 ∨ 5 < n) ∧ Sound n W ∧ ∃ G t v s, WInv n G W ∧ ComP n G t s ∧ ComAt w S bt b t v s

set_option maxRecDepth 100000 in
set_option maxHeartbeats 8000000 in
theorem clusterComplete_walk {w : World} {ev : Value} {evs : List Evt} (hstp : StepSays) (n : Int) (hev : Sl w Free ev 3 (evs.flatMap evtCells)) :
    Calls Try.prog 13 #[.int .i64 n, ev] w fun e w' => e = .returned (.bool true) ∧ Keeps Free w w' := by
  have hthru : ∀ (w0 w1 w2 : World) (b : Nat), Keeps Free w w0 → w0.heap.size = b → w0.alloc (.cells #[.slice none 0 0] 22) = w1 → w1.alloc (.cells #[.int .i64 0] 3) = w2 →
      Calls Try.prog 37 #[.int .i64 n, ev, .func (.func 41) #[] #[.pointer (some ⟨b + 1, 0, none⟩), .pointer (some ⟨b, 0, none⟩)]] w2 fun e w' => e = .returned (.bool true) ∧ Keeps Free w w' := fun w0 w1 w2 b h0 hb h1 h2 => by
    have k1 : Keeps Free w0 w2 := by rw [← h2, ← h1]; exact ((Keeps.refl _ w0).alloc _).alloc _
    obtain ⟨_, q1, q2⟩ := two_boxes w0 (.cells #[.slice none 0 0] 22) (.cells #[.int .i64 0] 3)
    have hb1 : w2.heap[b]? = some (.cells #[.slice none 0 0] 22 (0, 0)) := by rw [← h2, ← h1, ← hb]; exact q1
    have hb2 : w2.heap[b + 1]? = some (.cells #[.int .i64 0] 3 (0, 0)) := by rw [← h2, ← h1, ← hb]; exact q2
    clear q1 q2
    have kw := h0.trans k1 fun _ h => .inl h
    refine (through_any (w := w2) (S0 := fun k => k = b ∨ k = b + 1) (ComInv n (b + 1) b) (ComInv n (b + 1) b) hstp (hev.into kw (fun _ _ h => h) fun k hk e => by have := h0.size; omega) call41 (fun S W w2 h k hk => by obtain ⟨_, _, G, t, v, s, _, _, h⟩ := h; exact h.at_.lt k hk) (fun S W w2 h k hk => by obtain ⟨_, _, G, t, v, s, _, _, h⟩ := h; exact h.at_.lt k hk)
      (fun S W w2 h => h.2.1.lens h.1) (fun k hk => hk.elim (fun e => e ▸ laid_lt hb1) fun e => e ▸ laid_lt hb2) ?_ ?_ ?_).mono ?_
    · intro hn _ w3 k2
      refine ⟨hn, firstWld_sound (by omega) (by omega), _, 0, .slice none 0 0, [], firstWld_inv n, ⟨sureOk_nil _ _ _, by simp⟩, ?_⟩
      exact { at_ := { blk := k2.blk hb1, row := World.ownsRow_nil _ _ _ _, bS := .inl rfl, vS := fun g hg => by simp [Value.ownBlock] at hg, ne := by simp [Value.ownBlock], lt := fun k hk => hk.elim (fun e => e ▸ laid_lt (k2.blk hb1)) fun e => e ▸ laid_lt (k2.blk hb2) },
              blk := k2.blk hb2, bS := .inr rfl, ne := by omega, vne := by simp [Value.ownBlock] }
    · intro S W w3 h hok
      obtain ⟨hn, hs, G, t, v, s, hG, hP, hat⟩ := h
      have hn0 : 0 ≤ n := by omega
      refine (com_look hok (ComP n G) hat hP (fun t s h => h.2) (Reached.len5 ⟨hn, hs, G, hG⟩) (fun x hx => by have g := good_of_mem hs hx; exact ⟨g.commit0, g.commitn, g.log60⟩) (fun x hx hr ht => hP.1.led hn0 hG (List.mem_map_of_mem hx) hr ht) (fun x hx t s h hc => ?_)).mono ?_
      · have g := good_of_mem hs hx
        have h0 := g.commit0
        exact ⟨(SureOk.log hG (List.mem_map_of_mem hx) (k := x.n.commit.toNat) (by omega)).later (Later.refl G) (by omega), by rw [List.length_take]; have := g.log60; omega⟩
      · rintro e w4 ⟨rfl, S1, t1, v1, s1, i1, i2, i4, i5⟩
        exact ⟨rfl, S1, ⟨hn, hs, G, t1, v1, s1, hG, i2, i1⟩, i4, i5⟩
    · intro S W w3 w4 e h k3
      obtain ⟨hn, hs, G, t, v, s, hG, ⟨hT, h60⟩, hat⟩ := h
      obtain ⟨G', hG', hL⟩ := cstep_inv hs hG e
      exact ⟨hn, cstep_sound hs e, G', t, v, s, hG', ⟨hT.later hL (Int.le_refl _), h60⟩, hat.later k3⟩
    · rintro e w' ⟨rfl, k2⟩
      exact ⟨rfl, kw.trans k2 fun k e => .inr (by have := h0.size; omega)⟩
  have HT := Lib.hid hthru; have HS := Lib.hid hstp
  obtain ⟨A, C, rfl⟩ := hev.form (evts_len evs) (by decide)
  clear hthru hstp hev
  go_enter Try.func13, Try.ntmps13
  go_wp2_with fail
  refine (alive16_any HS.out _).mono ?_
  rintro e w2 ⟨rfl, k2⟩
  obtain ⟨w3, h3⟩ : ∃ w3, w2.alloc (.cells #[.slice none 0 0] 22) = w3 := ⟨_, rfl⟩
  obtain ⟨b, hb⟩ : ∃ b, w2.heap.size = b := ⟨_, rfl⟩
  have hb3 : w3.heap.size = b + 1 := by rw [← h3, World.size_alloc, hb]
  have hcall := HT.out w2 w3 (w3.alloc (.cells #[.int .i64 0] 3)) b k2 hb h3 rfl
  have HC := Lib.hid hcall
  clear k2 hcall
  go_wp2_with fail
  refine HC.out.mono ?_
  rintro e w5 ⟨rfl, k4⟩
  have K4 := Lib.hid k4
  clear k4
  go_wp2_with fail
  go_ret
  exact ⟨rfl, K4.out⟩
end Go.Proofs.Ytibjbpakbfodaaa
