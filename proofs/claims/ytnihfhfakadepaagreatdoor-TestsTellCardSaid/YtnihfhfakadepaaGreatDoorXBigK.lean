/- Package verdictbig: long division by two words, walked. -/
import Derived.Test.YtnihfhfakadepaaGreatDoorXBigC
import Derived.Handy
namespace Go.Proofs.YtnihfhfakadepaaGreatDoor
open Go.RowKit

theorem Arr.cellAdd {k : IntKind} {t : TypeId} {w : World} {g n c : Nat} {l : List Nat} (h : Arr k t w (.slice (some ⟨g, 0, none⟩) n c) l) {j : Nat} {u : Value} (hj : (wcs k l)[j]? = some u) : w.cell? ((⟨g, 0, none⟩ : Addr).add j) = some u :=
  h.cells (g := g) rfl j u hj

/-- The tried digit and its rest, as two slots hold them. -/
def TriedAt (h VT V0 u0 : Nat) (g r : Value) : Prop := ∃ G R : Nat, g = .int .u64 G ∧ r = .int .u64 R ∧ G < 18446744073709551616 ∧ R < 4294967296 ∧ Tried h VT V0 u0 G R
/-- The digit, as a slot holds it. -/
def DigitAt (h VT V0 u0 : Nat) (g : Value) : Prop := ∃ G : Nat, g = .int .u64 G ∧ Digit h VT V0 u0 G

set_option maxRecDepth 100000 in
set_option maxHeartbeats 4000000 in
theorem div_two {w : World} {v1 v2 : Value} {a b : Nat} (h1 : N32 w v1 a) (h2 : N32 w v2 b) (hl : (digs 4294967296 a).length ≤ 390) (ha : 18446744073709551616 ≤ a) (hb : 4294967296 ≤ b) (hb2 : b < 18446744073709551616) :
    Calls Tryz.prog 81 #[v1, v2] w (Divided w a b) := by
  obtain ⟨i0, hi0, hz, hsz, hby⟩ := info_parts Tryz.info119
  have HI := Lib.hid hi0; have HZ := Lib.hid hz; have HS := Lib.hid hsz; have HB := Lib.hid hby
  clear hi0 hz hsz hby
  have hl3 := digs_ge_three ha
  have HC := Lib.hid (cmpw_any h1 h2 (by omega))
  have eb := digs_two_of hb hb2
  have hbt : b / 4294967296 < 4294967296 := by omega
  have HLen := Lib.hid (fun q => length_any (w := w.drewN q) (v := v2) (l := digs 4294967296 b) h2 (by rw [eb]; simp) (top := b / 4294967296) (by rw [eb]; rfl) hbt (by omega))
  have H1 := Lib.hid h1; have H2 := Lib.hid h2
  obtain ⟨A1, c1, rfl, _, _⟩ := h1.slice
  obtain ⟨A2, c2, rfl, _, _⟩ := h2.slice
  rw [eb] at HC HLen H2 ⊢
  simp only [List.length_cons, List.length_nil, Nat.zero_add] at HC HLen H2 ⊢
  have hc := cmpN_notless (show b ≤ a by omega)
  generalize hcc : cmpN a b = cc at *
  clear h1 h2 hcc eb hbt
  obtain ⟨la, hla⟩ : ∃ la, (digs 4294967296 a).length = la := ⟨_, rfl⟩
  have HLA := Lib.hid hla
  rw [hla] at hl hl3 H1 HC ⊢
  clear hla
  go_enter Tryz.func81, Tryz.ntmps81
  go_wp2_with (first | (go_at_call 75; ((with_reducible refine HC.out.mono ?_); rintro e w1 ⟨rfl, q, rfl⟩)) | (go_at_call 89; ((with_reducible refine (HLen.out _).mono ?_); rintro e w2 ⟨⟨k, hk1, hk2, hk3, hk4, rfl⟩, rfl⟩; have HK := Lib.hid (norm_bits hk1 hk2 hk3 hk4); clear hk3 hk4; (obtain ⟨s, hs⟩ : ∃ s, 32 - k = s := ⟨_, rfl⟩); rw [hs] at HK; (have hsw : (32 : Int) - (32 + (k : Int) - 1) % 32 - 1 = (s : Int) := by omega); (have hs32 : s < 32 := by omega); clear hs)))
  -- the divisor, moved up
  refine (left_any (w := w.drewN q) (v := .slice A2 2 c2) (n := b) (s := s) H2.out (by have := digs_two_of hb hb2; rw [this]; simp) (by omega) hs32).mono ?_
  rintro e w3 ⟨vv, rfl, hv3, hk3⟩
  have hV := HK.out
  obtain ⟨V, hVe⟩ : ∃ V, b * 2 ^ s = V := ⟨_, rfl⟩
  rw [hVe] at hV hv3
  have HVE := Lib.hid hVe
  have eV := digs_two_of (show 4294967296 ≤ V by omega) hV.2
  obtain ⟨Av, cv, rfl, hcv, hcm⟩ := hv3.slice
  have hv3' : A32 w3 (.slice Av 2 cv) [V % 4294967296, V / 4294967296] := by
    unfold N32 at hv3
    rw [eV] at hv3
    exact hv3
  rw [eV] at hcv ⊢
  simp only [List.length_cons, List.length_nil, Nat.zero_add] at hcv ⊢
  obtain ⟨gv, rfl, _, _, hgv⟩ := hv3'.cell (by simp)
  have HV3 := Lib.hid hv3'
  have hkw := (((Keeps.refl (fun _ => False) w).drewN q).trans hk3 fun _ h => .inl h)
  have HKW := Lib.hid hkw
  have HA3 := Lib.hid (N32.later H1.out hkw)
  clear hv3 hv3' hk3 hkw eV HC HLen HK hk1 hk2 hsw hVe
  have hV1 := hV.1; have hV2 := hV.2
  clear hV
  go_wp2_with (at_make; refine wpList_make_full _ rfl _ _ 79 rfl 0 119 i0 _ 1 Tryz.underlying79 HI.out HZ.out HS.out .i64 .i64 _ _ (la + 2) rfl rfl ?c1 ?c2 ?c3 ?c4 ?c5 ?_; (case c1 => (simp)); (case c2 => (simp)); (case c3 => (rw [HB.out]; omega)); (case c4 => (unfold maxLen; omega)); (case c5 => omega); intro w4 hown hgrow)
  obtain ⟨gu, hgu⟩ : ∃ gu, w3.heap.size = gu := ⟨_, rfl⟩
  rw [hgu] at hown ⊢
  have hk4 : Keeps (fun _ => False) w3 w4 := Keeps.of_grown hgrow fun k hk => by cases hk
  have hu4 := Arr.of_zeros hown
  have HV4 := Lib.hid (Arr.later HV3.out hk4)
  have HA4 := Lib.hid (N32.later HA3.out hk4)
  have HKW4 := Lib.hid (HKW.out.trans hk4 fun _ h => .inl h)
  have HU4 := Lib.hid hu4
  have hwg : w.heap.size ≤ gu := by rw [← hgu]; exact HKW.out.size
  have hvg : gv < gu := by omega
  clear hown hgrow hk4 hu4 HV3 HA3 HKW hgu hgv
  -- the dividend, moved up
  refine (left_any (w := w4) (v := .slice A1 la c1) (n := a) (s := s) HA4.out (by rw [HLA.out]; omega) (by omega) hs32).mono ?_
  rintro e w5 ⟨vs, rfl, hn5, hk5⟩
  obtain ⟨N, hNe⟩ : ∃ N, a * 2 ^ s = N := ⟨_, rfl⟩
  have hdd := dividend hs32 HLA.out
  rw [hNe] at hn5 hdd
  have HNE := Lib.hid hNe
  obtain ⟨cz, hcz, hcz1, hdv, hdt⟩ := hdd
  have hNp : 0 < N := by rw [← hNe]; exact Nat.mul_pos (by omega) (Nat.pow_pos (by omega))
  have hlp := digs_len_pos hNp
  obtain ⟨As, cs, rfl, _, _⟩ := hn5.slice
  obtain ⟨gs, rfl, hsc, _, _⟩ := hn5.cell hlp
  have hn5' : A32 w5 (.slice (some ⟨gs, 0, none⟩) (digs 4294967296 N).length cs) (digs 4294967296 N) := hn5
  have HU5 := Lib.hid (Arr.later HU4.out hk5)
  have HV5 := Lib.hid (Arr.later HV4.out hk5)
  have HKW5 := Lib.hid (HKW4.out.trans hk5 fun _ h => .inl h)
  have hlt := digs_lt (B := 4294967296) (by omega) N
  have HSRC := Lib.hid (fun (j : Nat) (u : Value) (hj : (wcs .u32 (digs 4294967296 N))[j]? = some u) => show w5.cell? ((⟨gs, 0, none⟩ : Addr).add j) = some u from Arr.cellAdd hn5' hj)
  have HDV := Lib.hid hdv; have HDT := Lib.hid hdt; have HLT := Lib.hid hlt
  generalize digs 4294967296 N = ds at *
  have hblk := HU5.out.block
  have HBLK := Lib.hid hblk
  clear hn5 hn5' hk5 hdv hdt hlt hsc hNe HA4 HU4 HV4 HKW4 hblk
  go_wp2_with (first | ((with_reducible refine wpList_copy_own rfl _ _ 79 79 rfl 119 Tryz.underlying79 (by kernel_rfl) gu 0 (la + 2) (la + 2) ⟨gs, 0, none⟩ ds.length cs rfl rfl _ 119 HBLK.out (wcs .u32 ds) ?d1 HSRC.out ?d2 (wcs_one _ _) ?_); (case d1 => (rw [wcs_length]; exact (Nat.min_eq_left (by omega)).symm)); (case d2 => (simp [wcs_length]; omega)); generalize hw6 : World.setRow w5 gu _ = w6) | (at_make; refine wpList_make_full _ rfl _ _ 79 rfl 0 119 i0 _ 1 Tryz.underlying79 HI.out HZ.out HS.out .i64 .i64 _ _ la rfl rfl ?c1 ?c2 ?c3 ?c4 ?c5 ?_; (case c1 => (simp)); (case c2 => (simp)); (case c3 => (rw [HB.out]; omega)); (case c4 => (unfold maxLen; omega)); (case c5 => omega); intro w7 hown hgrow))
  have hblk6 : w6.heap[gu]? = some (.cells (wcs .u32 (ds ++ List.replicate cz 0)).toArray 119 (0, 0)) := by
    rw [← hw6]
    have := setRow_heap w5 gu _ (List.take 0 (wcs .u32 (List.replicate (la + 2) 0)) ++ (wcs .u32 ds ++ List.drop (0 + (wcs .u32 ds).length) (wcs .u32 (List.replicate (la + 2) 0)))).toArray 119 (0, 0) HBLK.out
    rw [this]
    congr 3
    rw [List.take_zero, List.nil_append, wcs_append, wcs_length, Nat.zero_add]
    congr 1
    simp only [wcs, List.map_replicate, List.drop_replicate]
    congr 1
    omega
  have hk6 : Keeps (fun k => k = gu) w5 w6 := by
    rw [← hw6]
    exact ⟨rfl, rfl, rfl, by simp [World.setRow], fun k _ hk => setRow_other w5 gu k _ hk⟩
  have hu6 : A32 w6 (.slice (some ⟨gu, 0, none⟩) (la + 2) (la + 2)) (ds ++ List.replicate cz 0) := Arr.of_block hblk6 (by rw [List.length_append, List.length_replicate]; omega) (by unfold maxLen; omega)
  have hv6 : A32 w6 (.slice (some ⟨gv, 0, none⟩) 2 cv) [V % 4294967296, V / 4294967296] := Arr.kept HV5.out fun g hg => hk6.block g (HV5.out.lt hg) (by
    have : gv = g := by simpa [Value.ownBlock] using hg
    omega)
  have hkw6 := HKW5.out.trans hk6 fun k hk => .inr (hk ▸ hwg)
  obtain ⟨gq, hgq⟩ : ∃ gq, w6.heap.size = gq := ⟨_, rfl⟩
  rw [hgq] at hown ⊢
  have hk7 : Keeps (fun _ => False) w6 w7 := Keeps.of_grown hgrow fun k hk => by cases hk
  have hq7 := Arr.of_zeros hown
  have hgul := row_lt hblk6
  have hlong : LongAt w w7 gu gq gv cv V N la la (List.replicate la 0) (ds ++ List.replicate cz 0) :=
    { u := hu6.later hk7, q := hq7, v := hv6.later hk7,
      d := DivAt.start (by rw [List.length_append, List.length_replicate]; omega) (fun x hx => (List.mem_append.1 hx).elim (HLT.out x) fun h => by rw [List.eq_of_mem_replicate h]; omega) HDV.out (Nat.lt_of_lt_of_le HDT.out (by
        have := Nat.le_mul_of_pos_left (2 ^ s) (show 0 < b by omega)
        rw [HVE.out] at this
        exact this)),
      k := hkw6.trans hk7 fun _ h => .inl h, nu := hwg, nq := by rw [← hgq]; exact hkw6.size, uq := by omega, vu := by omega, vq := by omega, ql := by simp }
  have HLONG := Lib.hid hlong
  obtain ⟨g', hg', hcv7, _, _⟩ := hlong.v.cell (by simp)
  obtain rfl : gv = g' := by injection hg' with hg'; injection hg'
  have d0 := hcv7 0 (by simp)
  have d1 := hcv7 1 (by simp)
  simp only [List.getElem_cons_zero, List.getElem_cons_succ] at d0 d1
  obtain ⟨V0, hV0⟩ : ∃ V0, V % 4294967296 = V0 := ⟨_, rfl⟩
  obtain ⟨VT, hVT⟩ : ∃ VT, V / 4294967296 = VT := ⟨_, rfl⟩
  rw [hV0] at d0
  rw [hVT] at d1
  have HV0 := Lib.hid hV0; have HVT := Lib.hid hVT
  have bV0 : V0 < 4294967296 := by omega
  have bVT : VT < 4294967296 := by omega
  have bVT2 : 2147483648 ≤ VT := by omega
  have HVS := Lib.hid (show VT * 4294967296 + V0 = V by omega)
  clear hblk6 hk6 hu6 hv6 hkw6 hk7 hq7 hown hgrow hlong hcv7 hg' hgq hw6 HU5 HV5 HKW5 HBLK HSRC HDV HDT HLT hcz hcz1 hV0 hVT
  go_upto_region 18 with fail
  go_quiet (fail)
  clear d0 d1
  go_wp2_with fail
  have hkn : Keeps (fun _ => False) w7 (w7.drewN nq) := (Keeps.refl _ w7).drewN nq
  have HLQ := Lib.hid (show LongAt w (w7.drewN nq) gu gq gv cv V N la la (List.replicate la 0) (ds ++ List.replicate cz 0) from
    { HLONG.out with u := HLONG.out.u.later hkn, q := HLONG.out.q.later hkn, v := HLONG.out.v.later hkn, k := HLONG.out.k.drewN nq })
  generalize w7.drewN nq = w8 at *
  clear hkn HLONG
  go_loopw [18] (fun j wr => ∃ (k : Nat) (qs us : List Nat), k ≤ la ∧ j = .int .i64 ((k : Int) - 1) ∧ Hid (LongAt w wr gu gq gv cv V N k la qs us)) (fun j _ => (intOf j + 1).toNat)
  case atStart => exact ⟨la, _, _, Nat.le_refl _, rfl, HLQ⟩
  case round =>
    obtain ⟨k, qs, us, hk, rfl, hL⟩ := hrel
    clear HLQ
    rcases Nat.eq_zero_or_pos k with rfl | hk0
    · have hdn := hL.out.d.done
      have e1 : N / V = a / b := by rw [← HNE.out, ← HVE.out, Nat.mul_div_mul_right _ _ (Nat.pow_pos (by omega))]
      have e2 : N % V / 2 ^ s = a % b := by rw [← HNE.out, ← HVE.out, Nat.mul_mod_mul_right, Nat.mul_div_cancel _ (Nat.pow_pos (by omega))]
      rw [e1] at hdn
      have T1 := Lib.hid (trim_any hL.out.q hL.out.d.ltq (by rw [hL.out.ql]; omega))
      rw [hdn.1] at T1
      have T2 := Lib.hid (trim_any hL.out.u hL.out.d.ltu (by rw [hL.out.d.len, hL.out.ql]; omega))
      rw [hdn.2] at T2
      have R2 := Lib.hid (fun (v : Value) (hv : N32 wr v (N % V)) => right_any hv (Nat.le_trans (digs_le_two (Nat.lt_trans (Nat.mod_lt N (by omega)) hV2)) (by omega)) hs32)
      rw [e2] at R2
      clear hdn e1 e2
      go_wp2_with (first | (go_at_call 83; ((with_reducible refine T1.out.mono ?_); rintro e w9 ⟨v', rfl, hn, hw9⟩; have HN1 := Lib.hid hn; have HW9 := Lib.hid hw9; clear hn; subst hw9)) | (go_at_call 83; ((with_reducible refine T2.out.mono ?_); rintro e w10 ⟨v'', rfl, hn, hw10⟩; have HN2 := Lib.hid hn; clear hn; subst hw10)) | (go_at_call 91; ((with_reducible refine (R2.out _ HN2.out).mono ?_); rintro e w11 ⟨v3, rfl, hn, hk11⟩; have HN3 := Lib.hid hn; have HK11 := Lib.hid hk11; clear hn hk11)))
      go_ret2
      exact ⟨_, _, rfl, N32.later HN1.out HK11.out, HN3.out, hL.out.k.trans HK11.out fun _ h => .inl h⟩
    · obtain ⟨j, rfl⟩ : ∃ j, k = j + 1 := ⟨k - 1, by omega⟩
      rw [show (((j + 1 : Nat) : Int) - 1) = (j : Int) by omega]
      obtain ⟨hl2, hhv, _, hb0, hb1, hb2'⟩ := hL.out.d.words hV2
      obtain ⟨g', hg', hcu, hfu, _⟩ := hL.out.u.cell (by omega)
      obtain rfl : gu = g' := by injection hg' with hg'; injection hg'
      have c0 := hcu j (by omega)
      have c1' := hcu (j + 1) (by omega)
      have c2' := hcu (j + 2) hl2
      have g0 : us[j]? = some us[j] := List.getElem?_eq_getElem (by omega)
      have g1 : us[j + 1]? = some us[j + 1] := List.getElem?_eq_getElem (by omega)
      have g2 : us[j + 2]? = some us[j + 2] := List.getElem?_eq_getElem hl2
      generalize us[j] = u0 at *
      generalize us[j + 1] = u1 at *
      generalize us[j + 2] = u2 at *
      have G0 := Lib.hid g0; have G1 := Lib.hid g1; have G2 := Lib.hid g2
      have hlu : us.length = la + 2 := by rw [hL.out.d.len, hL.out.ql]
      have hjl : j < la := by omega
      have hor := or_words2 u1 u2 hb1 hb2'
      obtain ⟨h, hh⟩ : ∃ h, u2 * 4294967296 + u1 = h := ⟨_, rfl⟩
      rw [show (u1 : Int) + (u2 : Int) * 4294967296 = (h : Int) by omega] at hor
      rw [hh] at hhv
      have HH := Lib.hid hh
      have hhl : h < 18446744073709551616 := by omega
      clear g0 g1 g2 hcu hfu hg' hh hl2 hlu
      obtain ⟨G, hG⟩ : ∃ G, h / VT = G := ⟨_, rfl⟩
      obtain ⟨R, hR⟩ : ∃ R, h % VT = R := ⟨_, rfl⟩
      have hGl : G < 18446744073709551616 := by rw [← hG]; exact Nat.lt_of_le_of_lt (Nat.div_le_self _ _) hhl
      have hdv : (h : Int) / (VT : Int) = (G : Int) := by rw [← hG]; rfl
      have hmd : (h : Int) % (VT : Int) = (R : Int) := by rw [← hR]; rfl
      have hmt : (h : Int).tmod (VT : Int) = (R : Int) := by rw [← hR]; rfl
      have hRl : R < VT := by rw [← hR]; exact Nat.mod_lt _ (by omega)
      have hT := tried_start (h := h) (top := VT) (v0 := V0) (u0 := u0) bVT2 (by rw [HVS.out]; exact hhv) bV0 hb0
      rw [hG, hR] at hT
      have HTA := Lib.hid (show TriedAt h VT V0 u0 (.int .u64 (G : Int)) (.int .u64 (R : Int)) from ⟨G, R, rfl, rfl, hGl, by omega, hT⟩)
      have hwG := wrap_nat hGl
      clear hG hR hT
      go_upto_region 22 with fail
      go_quiet (fail)
      go_upto_region 23 with fail
      go_quiet (fail)
      go_upto_block 2 with (fail)
      clear hdv hmd hmt hwG hor
      generalize hwj : World.drewN (World.drewN wr _) _ = wj
      have hkj : Keeps (fun _ => False) wr wj := by rw [← hwj]; exact ((Keeps.refl _ wr).drewN _).drewN _
      have c0 : wj.cell? ⟨gu, j, none⟩ = some (.int .u32 (u0 : Int)) := hkj.cell (fun h => h) c0
      have HKJ := Lib.hid hkj
      clear hwj hkj c1' c2'
      go_cut [20, 21] from 109 to 266 (fun g r wx => DigitAt h VT V0 u0 g ∧ wx = wj)
      case first =>
        go_wp2_with fail
        go_loop [20, 21] (fun g r => TriedAt h VT V0 u0 g r) (fun g _ => (intOf g).toNat)
        case atStart => exact HTA.out
        case round =>
          clear HTA hGl hRl
          obtain ⟨G, R, rfl, rfl, hGl, hRl, hT⟩ := hrel
          have HT := Lib.hid hT
          clear hT
          have hor3 := or_words2 u0 R hb0 hRl
          obtain ⟨T, hTe⟩ : ∃ T, R * 4294967296 + u0 = T := ⟨_, rfl⟩
          rw [show (u0 : Int) + (R : Int) * 4294967296 = (T : Int) by omega] at hor3
          have hTl : T < 18446744073709551616 := by omega
          have HTE := Lib.hid hTe
          clear hTe
          by_cases hbig : 4294967296 ≤ G
          · obtain ⟨hg1, hT1, hG1⟩ := tried_more HT.out (by rw [HVS.out]; exact hhv) hb0 (.inl hbig)
            have HT1 := Lib.hid hT1
            have HBR := Lib.hid (fun hr => tried_break HT1.out (by rw [HVS.out]; exact hhv) hb0 bV0 hG1 hr)
            clear hT1 HT hor3
            obtain ⟨G', hG'⟩ : ∃ G', G - 1 = G' := ⟨_, rfl⟩
            rw [hG'] at HT1 HBR hG1
            have hgg : (G : Int) - 1 = (G' : Int) := by omega
            have HGG := Lib.hid (show G' < G by omega)
            have hG'l : G' < 18446744073709551616 := by omega
            clear hG' hg1 hG1
            by_cases hr : 4294967296 ≤ R + VT
            · as_aux_lemma =>
                have HD := Lib.hid (HBR.out hr)
                clear HT1 HBR
                go_wp2_with fail
                go_meet
                exact ⟨⟨G', rfl, HD.out⟩, rfl⟩
            · as_aux_lemma =>
                clear HBR
                go_wp2_with fail
                go_round
                case measure => have := HGG.out; simp [intOf]; omega
                case rel => exact ⟨G', R + VT, rfl, by go_num, hG'l, by omega, HT1.out⟩
          · obtain ⟨P, hP⟩ : ∃ P, G * V0 = P := ⟨_, rfl⟩
            have hPl : P < 18446744073709551616 := by
              have := Nat.mul_le_mul (show G ≤ 4294967295 by omega) (show V0 ≤ 4294967295 by omega)
              omega
            have m1 : IntKind.u64.wrap ((G : Int) * (V0 : Int)) = (P : Int) := by
              have e : ((G * V0 : Nat) : Int) = (G : Int) * (V0 : Int) := Int.natCast_mul G V0
              rw [← e, hP]
              exact wrap_nat hPl
            by_cases hmore : T < P
            · obtain ⟨hg1, hT1, hG1⟩ := tried_more HT.out (by rw [HVS.out]; exact hhv) hb0 (.inr (by rw [HTE.out, hP]; exact hmore))
              have HT1 := Lib.hid hT1
              have HBR := Lib.hid (fun hr => tried_break HT1.out (by rw [HVS.out]; exact hhv) hb0 bV0 hG1 hr)
              clear hT1 HT hP
              obtain ⟨G', hG'⟩ : ∃ G', G - 1 = G' := ⟨_, rfl⟩
              rw [hG'] at HT1 HBR hG1
              have hgg : (G : Int) - 1 = (G' : Int) := by omega
              have HGG := Lib.hid (show G' < G by omega)
              have hG'l : G' < 18446744073709551616 := by omega
              clear hG' hg1 hG1
              by_cases hr : 4294967296 ≤ R + VT
              · as_aux_lemma =>
                  have HD := Lib.hid (HBR.out hr)
                  clear HT1 HBR
                  go_wp2_with fail
                  go_meet
                  exact ⟨⟨G', rfl, HD.out⟩, rfl⟩
              · as_aux_lemma =>
                  clear HBR
                  go_wp2_with fail
                  go_round
                  case measure => have := HGG.out; simp [intOf]; omega
                  case rel => exact ⟨G', R + VT, rfl, by go_num, hG'l, by omega, HT1.out⟩
            · as_aux_lemma =>
                have HD := Lib.hid (tried_end HT.out (by omega) (by rw [HTE.out, hP]; omega))
                clear HT hP
                go_wp2_with fail
                go_meet
                exact ⟨⟨G, rfl, HD.out⟩, rfl⟩
      case rest =>
        obtain ⟨⟨GG, rfl, hD⟩, rfl⟩ := hcut
        have HD := Lib.hid hD
        have hG1 := hD.lt
        clear hD c0
        have HLJ := Lib.hid (show LongAt w wc gu gq gv cv V N (j + 1) la qs us from
          { hL.out with u := hL.out.u.later HKJ.out, q := hL.out.q.later HKJ.out, v := hL.out.v.later HKJ.out, k := hL.out.k.trans HKJ.out fun _ h => .inl h })
        obtain ⟨g', hg', hcv, _, _⟩ := HLJ.out.v.cell (by simp)
        obtain rfl : gv = g' := by injection hg' with hg'; injection hg'
        have d0 := hcv 0 (by simp)
        have d1 := hcv 1 (by simp)
        simp only [List.getElem_cons_zero, List.getElem_cons_succ] at d0 d1
        rw [HV0.out] at d0
        rw [HVT.out] at d1
        clear hcv hg'
        obtain ⟨P0, P1, L0, K0, T0, X0, D0, C1, L1, K1, S1, T1, X1, D1, S2, T2, X2, hW⟩ := sub_words hG1 bV0 bVT hb0 hb1 hb2' HH.out HD.out.lo
        have HW := Lib.hid hW
        have hvu : ¬ gv = gu := hL.out.vu
        have huq : ¬ gu = gq := hL.out.uq
        obtain ⟨gq', hgq', hcq, hfq, _⟩ := HLJ.out.q.cell (by rw [HLJ.out.ql]; omega)
        obtain rfl : gq = gq' := by injection hgq' with hgq'; injection hgq'
        have q0 := hcq j (by rw [HLJ.out.ql]; omega)
        have q0f := hfq j
        obtain ⟨gu', hgu', hcu, hfu, _⟩ := HLJ.out.u.cell (by rw [HLJ.out.d.len, HLJ.out.ql]; omega)
        obtain rfl : gu = gu' := by injection hgu' with hgu'; injection hgu'
        have c0 := hcu j (by rw [HLJ.out.d.len, HLJ.out.ql]; omega)
        have c1' := hcu (j + 1) (by rw [HLJ.out.d.len, HLJ.out.ql]; omega)
        have c2' := hcu (j + 2) (by rw [HLJ.out.d.len, HLJ.out.ql]; omega)
        rw [(List.getElem?_eq_some_iff.1 G0.out).2] at c0
        rw [(List.getElem?_eq_some_iff.1 G1.out).2] at c1'
        rw [(List.getElem?_eq_some_iff.1 G2.out).2] at c2'
        have f0 := hfu j
        have f1 := hfu (j + 1)
        have f2 := hfu (j + 2)
        obtain ⟨w_p0, w_p1, w_l0, w_k0, w_t0, w_x0, w_d0, w_c1, w_l1, w_k1, w_s1, w_t1, w_x1, w_d1, w_s2, w_t2, w_x2, w_d2, w_b0, w_b1, w_b2, w_b3, w_b4, _⟩ := hW
        rw [Nat.add_comm j 1] at c1' f1
        clear hcq hfq hgq' hcu hfu hgu'
        go_upto_block 4 with (fail)
        go_wp2_with fail
        refine wp_loop_rounds 3 ?_
        rw [rounds_succ]
        go_wp2_with fail
        rw [rounds_succ]
        go_wp2_with fail
        rw [rounds_succ]
        go_wp2_with fail
        clear w_p0 w_p1 w_l0 w_k0 w_t0 w_x0 w_d0 w_c1 w_l1 w_k1 w_s1 w_t1 w_x1 w_d1 w_s2 w_t2 w_x2 w_d2 w_b0 w_b1 w_b2 w_b3 w_b4 c0 c1' c2' f0 f1 f2 q0 q0f d0 d1
        go_roundw
        case measure => simp [intOf]
        case rel =>
          refine ⟨j, qs.set j GG, ((us.set j X0).set (1 + j) X1).set (j + 2) X2, by omega, by go_num, Lib.hid ?_⟩
          have L := HLJ.out
          have W := HW.out
          have nuq : (Value.slice (some ⟨gu, 0, none⟩) (la + 2) (la + 2)).ownBlock ≠ some gq := fun e => huq (by simpa [Value.ownBlock] using e)
          have nqu : (Value.slice (some ⟨gq, 0, none⟩) la la).ownBlock ≠ some gu := fun e => huq (by simpa [Value.ownBlock] using Eq.symm e)
          have nvu : (Value.slice (some ⟨gv, 0, none⟩) 2 cv).ownBlock ≠ some gu := fun e => hvu (by simpa [Value.ownBlock] using e)
          have nvq : (Value.slice (some ⟨gv, 0, none⟩) 2 cv).ownBlock ≠ some gq := fun e => L.vq (by simpa [Value.ownBlock] using e)
          refine { u := (((L.u.set j X0).set (1 + j) X1).set (j + 2) X2).setOther nuq _ _, q := (((L.q.setOther nqu _ _).setOther nqu _ _).setOther nqu _ _).set j GG, v := (((L.v.setOther nvu _ _).setOther nvu _ _).setOther nvu _ _).setOther nvq _ _,
                   d := ?_, k := (((L.k.setCell (.inr L.nu) _).setCell (.inr L.nu) _).setCell (.inr L.nu) _).setCell (.inr L.nq) _, nu := L.nu, nq := L.nq, uq := L.uq, vu := L.vu, vq := L.vq, ql := by rw [List.length_set]; exact L.ql }
          rw [Nat.add_comm 1 j]
          exact L.d.step hV2 G0.out G1.out G2.out hG1 (by have := W.x0; omega) (by have := W.x1; omega) (by have := W.x2; omega) (by rw [← HVS.out]; exact W.sum) (by have := HD.out.hi; rw [HVS.out, ← HH.out] at this; rw [Nat.add_mul, Nat.mul_assoc] at this; exact this)

end Go.Proofs.YtnihfhfakadepaaGreatDoor
