/- Package verdictbig: the product of two lists of words. Package verdictbig: division by one word; how many bits; words moved up and down. Package verdictbig: words moved up by some bits, and down. Package verdictbig: long division where it is easy: of less, of two words, by one word. Package verdictbig: the product of two whole numbers. -/
import Derived.Test.YtnihfhfakadepaaGreatDoorXBigA
import Derived.Test.YtnihfhfakadepaaGreatDoorXPlainA
import Derived.Test.YtnihfhfakadepaaGreatDoorXKitA
import Derived.OwnWalk
import Derived.IntWalk
import Derived.Outline
namespace Go.Proofs.YtnihfhfakadepaaGreatDoor
open Go.RowKit

set_option maxRecDepth 100000 in
set_option maxHeartbeats 4000000 in
theorem mul_any {w : World} {v1 v2 : Value} {n m : Nat} (h1 : N32 w v1 n) (h2 : N32 w v2 m) (hl : (digs 4294967296 n).length ≤ 400) (hl2 : (digs 4294967296 m).length ≤ 400) :
    Calls Tryz.prog 76 #[v1, v2] w fun e w' => ∃ v', e = .returned v' ∧ N32 w' v' (n * m) ∧ Keeps (fun _ => False) w w' := by
  obtain ⟨i0, hi0, hz, hsz, hby⟩ := info_parts Tryz.info119
  have HI := Lib.hid hi0; have HZ := Lib.hid hz; have HS := Lib.hid hsz; have HB := Lib.hid hby
  clear hi0 hz hsz hby
  obtain ⟨A, c, rfl, _, _⟩ := h1.slice
  obtain ⟨A2, c2, rfl, _, _⟩ := h2.slice
  rcases Nat.eq_zero_or_pos n with hn | hn
  · subst hn
    rw [show (digs 4294967296 0).length = 0 by rw [digs_zero]; rfl, Nat.zero_mul]
    clear h1 h2 hl hl2
    go_enter Tryz.func76, Tryz.ntmps76
    go_wp2_with fail
    go_ret
    exact ⟨_, rfl, by unfold N32; rw [digs_zero]; exact Arr.nil _ _ _, Keeps.refl _ _⟩
  rcases Nat.eq_zero_or_pos m with hm | hm
  · subst hm
    rw [show (digs 4294967296 0).length = 0 by rw [digs_zero]; rfl, Nat.mul_zero]
    have hp := digs_len_pos hn
    clear h1 h2 hl2
    generalize (digs 4294967296 n).length = x at *
    have hp2 : ((x : Int) == 0) = false := by simp; omega
    go_enter Tryz.func76, Tryz.ntmps76
    go_wp2_with fail
    go_ret
    exact ⟨_, rfl, by unfold N32; rw [digs_zero]; exact Arr.nil _ _ _, Keeps.refl _ _⟩
  have hN := Lib.hid (dval_digs (B := 4294967296) (by omega) n)
  have hM := Lib.hid (dval_digs (B := 4294967296) (by omega) m)
  have hA := Lib.hid (digs_lt (B := 4294967296) (by omega) n)
  have hB := Lib.hid (digs_lt (B := 4294967296) (by omega) m)
  have hp := digs_len_pos hn
  have hq := digs_len_pos hm
  unfold N32 at h1 h2
  generalize digs 4294967296 n = a at *
  generalize digs 4294967296 m = b at *
  have H1 := Lib.hid h1; have H2 := Lib.hid h2
  clear h1 h2
  have hp2 : ((a.length : Int) == 0) = false := by rw [beq_eq_false_iff_ne]; omega
  have hq2 : ((b.length : Int) == 0) = false := by rw [beq_eq_false_iff_ne]; omega
  go_enter Tryz.func76, Tryz.ntmps76
  go_wp2_with (at_make; refine wpList_make_full _ rfl _ _ 79 rfl 0 119 i0 _ 1 Tryz.underlying79 HI.out HZ.out HS.out .i64 .i64 _ _ (a.length + b.length) rfl rfl ?c1 ?c2 ?c3 ?c4 ?c5 ?_; (case c1 => (simp)); (case c2 => (simp)); (case c3 => (rw [HB.out]; omega)); (case c4 => (unfold maxLen; omega)); (case c5 => omega); intro w1 hown hgrow)
  obtain ⟨g, hg⟩ : ∃ g, w.heap.size = g := ⟨_, rfl⟩
  have hk1 : Keeps (fun _ => False) w w1 := Keeps.of_grown hgrow fun k hk => by cases hk
  have hown' : w1.ownsRow 0 119 1 (.slice (some ⟨g, 0, none⟩) (a.length + b.length) (a.length + b.length)) (a.length + b.length) (madeCells (Value.int .u32 0).cells ((a.length + b.length) * 1)).toList := by rw [← hg]; exact hown
  have ha1 := Arr.of_zeros hown'
  rw [hg]
  have HA1 := Lib.hid ha1; have HK1 := Lib.hid hk1; have HG := Lib.hid hg
  clear hown hown' hgrow ha1 hk1 hg HI HZ HS HB
  go_loopw [6] (fun i wr => ∃ (k : Nat) (rs : List Nat), k ≤ a.length ∧ i = .int .i64 k ∧ Hid (A32 wr (.slice (some ⟨g, 0, none⟩) (a.length + b.length) (a.length + b.length)) rs) ∧ Hid (MulOut 4294967296 a b k rs) ∧ Hid (Keeps (fun _ => False) w wr)) (fun i _ => a.length - (intOf i).toNat)
  case atStart => exact ⟨0, _, Nat.zero_le _, rfl, HA1, Lib.hid (MulOut.start (by omega)), HK1⟩
  case round =>
    obtain ⟨k, rs0, hk, rfl, hr, ho, hkp⟩ := hrel
    by_cases hlt : k < a.length
    · obtain ⟨wo, rfl⟩ : ∃ wo : World, wo = wr := ⟨_, rfl⟩
      have gx : a[k]? = some a[k] := List.getElem?_eq_getElem hlt
      have hxl := hA.out _ (List.getElem_mem hlt)
      obtain ⟨x, hx⟩ : ∃ x, a[k] = x := ⟨_, rfl⟩
      rw [hx] at gx hxl
      have GX := Lib.hid gx
      obtain ⟨ga, rfl, hca, _, hga⟩ := H1.out.cell (by omega)
      have CA := Lib.hid ((hca k hlt).trans (by rw [hx]))
      have GA := Lib.hid hga
      clear hca hx gx
      go_wp2_with fail
      go_loopw [7, 8] (fun cc j wj => ∃ (q y : Nat) (rs : List Nat), q ≤ b.length ∧ j = .int .i64 q ∧ cc = .int .u64 y ∧ Hid (A32 wj (.slice (some ⟨g, 0, none⟩) (a.length + b.length) (a.length + b.length)) rs) ∧ Hid (MulIn 4294967296 a b k q y (dval 4294967296 rs0) x rs) ∧ Hid (Keeps (fun _ => False) w wj)) (fun _ j _ => b.length - (intOf j).toNat)
      case atStart => exact ⟨0, 0, rs0, Nat.zero_le _, rfl, rfl, hr, Lib.hid (ho.out.enter (by omega) x), hkp⟩
      case round =>
        obtain ⟨q, y, rs, hq, rfl, rfl, hr2, hm2, hk2⟩ := hrel
        by_cases hlq : q < b.length
        · have hkq : k + q < rs.length := by rw [hm2.out.len]; omega
          obtain ⟨g2, rfl, hcb, _, hg2⟩ := H2.out.cell (by omega)
          obtain ⟨g', hg', hcr, hfr, _⟩ := hr2.out.cell (by omega)
          obtain rfl : g = g' := by injection hg' with hg'; injection hg'
          have e1 : wr.cell? ⟨ga, k, none⟩ = some (.int .u32 (x : Int)) := hk2.out.cell (fun h => h) CA.out
          have e2 := hk2.out.cell (fun h => h) (hcb q hlq)
          have e3 := hcr (k + q) hkq
          have f3 := hfr (k + q)
          have gz : b[q]? = some b[q] := List.getElem?_eq_getElem hlq
          have gu : rs[k + q]? = some rs[k + q] := List.getElem?_eq_getElem hkq
          have hzl := hB.out _ (List.getElem_mem hlq)
          have hul := hm2.out.lt _ (List.getElem_mem hkq)
          have hyl := hm2.out.clt
          generalize b[q] = z at *
          generalize rs[k + q] = u at *
          have HST := Lib.hid (hm2.out.step hxl gu gz hzl)
          obtain ⟨hcy, hch⟩ := carry_lt hyl hxl hul hzl
          have HR0 := Lib.hid (fun nq : Nat => Arr.set (w := wr.drewN nq) hr2.out (k + q) ((y + x * z + u) % 4294967296))
          have HK0 := Lib.hid (fun (nq : Nat) (v : Value) => (hk2.out.drewN nq).setCell (p := ⟨g, k + q, none⟩) (.inr (by show w.heap.size ≤ g; have := HG.out; omega)) v)
          clear gz gu hcb hcr hfr hm2 hr2 hk2 hkq hg'
          obtain ⟨p, hp⟩ : ∃ p, x * z = p := ⟨_, rfl⟩
          have m1 : IntKind.u64.wrap ((x : Int) * (z : Int)) = (p : Int) := by
            rw [← hp]; simp only [IntKind.wrap_u64]
            have : ((x * z : Nat) : Int) = (x : Int) * (z : Int) := Int.natCast_mul x z
            omega
          rw [hp] at HST HR0 hcy hch
          have m2 : IntKind.u64.wrap ((p : Int) + (u : Int)) = (p : Int) + (u : Int) := by simp only [IntKind.wrap_u64]; omega
          obtain ⟨t, ht⟩ : ∃ t, y + p + u = t := ⟨_, rfl⟩
          have m3 : IntKind.u64.wrap ((y : Int) + ((p : Int) + (u : Int))) = (t : Int) := by simp only [IntKind.wrap_u64]; omega
          rw [ht] at HST HR0 hcy hch
          rw [show ((t % 4294967296 : Nat) : Int) = (t : Int) % 4294967296 by omega] at HR0
          have ht2 : t < 18446744073709551616 := hcy
          clear hcy hch hp ht
          go_upto_region 11 with fail
          go_quiet (fail)
          go_wp2_with fail
          go_roundw
          case measure => simp [intOf]; omega
          case rel => exact ⟨q + 1, t / 4294967296, _, by omega, by go_num, by go_num, Lib.hid (HR0.out _), HST, Lib.hid (HK0.out _ _)⟩
        · obtain rfl : q = b.length := by omega
          have hlen : k + b.length < rs.length := by rw [hm2.out.len]; omega
          have hyl := hm2.out.clt
          obtain ⟨g', hg', hcr, hfr, _⟩ := hr2.out.cell (by omega)
          obtain rfl : g = g' := by injection hg' with hg'; injection hg'
          have e3 := hcr (k + b.length) hlen
          have f3 := hfr (k + b.length)
          have HST := Lib.hid (hm2.out.leave ho.out GX.out)
          have HR := Lib.hid (hr2.out.set (k + b.length) y)
          have HK := Lib.hid (hk2.out.setCell (p := ⟨g, k + b.length, none⟩) (.inr (by show w.heap.size ≤ g; have := HG.out; omega)) (.int .u32 (y : Int)))
          generalize rs[k + b.length] = u at *
          clear hcr hfr hm2 hr2 hk2 hlen hg' hr ho hkp GX
          go_wp2_with fail
          go_roundw
          case measure => simp [intOf]; omega
          case rel => exact ⟨k + 1, _, by omega, by go_num, HR, HST, HK⟩
    · obtain rfl : k = a.length := by omega
      have hv : dval 4294967296 rs0 = n * m := by rw [ho.out.done, hN.out, hM.out]
      have HT := Lib.hid (trim_any hr.out ho.out.lt (by rw [ho.out.len]; omega))
      rw [hv] at HT
      clear hv hr ho
      go_wp2_with (go_at_call 83; refine HT.out.mono ?_; rintro e w' ⟨v', rfl, hn, rfl⟩; have HN := Lib.hid hn; clear hn)
      go_ret
      exact ⟨_, rfl, HN.out, hkp.out⟩
end Go.Proofs.YtnihfhfakadepaaGreatDoor
namespace Go.Proofs.YtnihfhfakadepaaGreatDoor
open Go.RowKit

theorem or_words2 (lo hi : Nat) (bl : lo < 4294967296) (bh : hi < 4294967296) : bits .or .u64 ((hi : Int) * 4294967296) (lo : Int) = (lo : Int) + (hi : Int) * 4294967296 := by
  have h := u64_or_nat (hi * 4294967296) lo (by omega) (by omega)
  have h2 := Nat.two_pow_add_eq_or_of_lt (i := 32) bl hi
  rw [show ((hi * 4294967296 : Nat) : Int) = (hi : Int) * 4294967296 by omega] at h
  rw [h, show hi * 4294967296 = 2 ^ 32 * hi by omega, ← h2]
  omega

set_option maxRecDepth 100000 in
set_option maxHeartbeats 4000000 in
theorem small_any {w : World} {v : Value} {n d : Nat} (h : N32 w v n) (hl : (digs 4294967296 n).length ≤ 400) (hd : 1 ≤ d) (hd2 : d < 4294967296) :
    Calls Tryz.prog 88 #[v, .int .u32 (d : Int)] w fun e w' => ∃ v', e = .returned (.tuple #[v', .int .u32 ((n % d : Nat) : Int)]) ∧ N32 w' v' (n / d) ∧ Keeps (fun _ => False) w w' := by
  obtain ⟨i0, hi0, hz, hsz, hby⟩ := info_parts Tryz.info119
  have HI := Lib.hid hi0; have HZ := Lib.hid hz; have HS := Lib.hid hsz; have HB := Lib.hid hby
  clear hi0 hz hsz hby
  obtain ⟨A, c, rfl, _, _⟩ := h.slice
  have hN := Lib.hid (dval_digs (B := 4294967296) (by omega) n)
  have hA := Lib.hid (digs_lt (B := 4294967296) (by omega) n)
  unfold N32 at h
  generalize digs 4294967296 n = a at *
  have H1 := Lib.hid h
  clear h
  go_enter Tryz.func88, Tryz.ntmps88
  go_wp2_with (at_make; refine wpList_make_full _ rfl _ _ 79 rfl 0 119 i0 _ 1 Tryz.underlying79 HI.out HZ.out HS.out .i64 .i64 _ _ a.length rfl rfl ?c1 ?c2 ?c3 ?c4 ?c5 ?_; (case c1 => (simp)); (case c2 => (simp)); (case c3 => (rw [HB.out]; omega)); (case c4 => (unfold maxLen; omega)); (case c5 => omega); intro w1 hown hgrow)
  obtain ⟨g, hg⟩ : ∃ g, w.heap.size = g := ⟨_, rfl⟩
  have hk1 : Keeps (fun _ => False) w w1 := Keeps.of_grown hgrow fun k hk => by cases hk
  rw [hg] at hown ⊢
  have ha1 := Arr.of_zeros hown
  have HA1 := Lib.hid ha1; have HK1 := Lib.hid hk1; have HG := Lib.hid hg
  clear hown hgrow ha1 hk1 hg HI HZ HS HB
  go_loopw [7, 8] (fun rr i wr => ∃ (k r : Nat) (q : List Nat), k ≤ a.length ∧ i = .int .i64 ((k : Int) - 1) ∧ rr = .int .u64 r ∧ Hid (A32 wr (.slice (some ⟨g, 0, none⟩) a.length a.length) q) ∧ Hid (SmallAt 4294967296 d a q k r) ∧ Hid (Keeps (fun _ => False) w wr)) (fun _ i _ => (intOf i + 1).toNat)
  case atStart => exact ⟨a.length, 0, _, Nat.le_refl _, rfl, rfl, HA1, Lib.hid (SmallAt.start (by omega) (by omega)), HK1⟩
  case round =>
    obtain ⟨k, r, q, hk, rfl, rfl, hr, ho, hkp⟩ := hrel
    rcases Nat.eq_zero_or_pos k with rfl | hk0
    · have hv := ho.out.done
      have HT := Lib.hid (trim_any hr.out ho.out.lt (by rw [ho.out.len]; omega))
      rw [hv.1, hN.out] at HT
      have e := hv.2
      rw [hN.out] at e
      have hrl : r < 4294967296 := by have := ho.out.rlt; omega
      have E := Lib.hid e
      clear hv hr ho e
      go_wp2_with (go_at_call 83; refine HT.out.mono ?_; rintro e w' ⟨v', rfl, hn, rfl⟩; have HN := Lib.hid hn; clear hn)
      go_ret2
      exact ⟨_, by rw [← E.out]; rfl, HN.out, hkp.out⟩
    · obtain ⟨j, rfl⟩ : ∃ j, k = j + 1 := ⟨k - 1, by omega⟩
      rw [show (((j + 1 : Nat) : Int) - 1) = (j : Int) by omega]
      obtain ⟨ga, rfl, hca, _, hga⟩ := H1.out.cell (by omega)
      have hja : j < a.length := by omega
      have hjq : j < q.length := by rw [ho.out.len]; exact hja
      obtain ⟨g', hg', hcr, hfr, _⟩ := hr.out.cell (by omega)
      obtain rfl : g = g' := by injection hg' with hg'; injection hg'
      have e1 := hkp.out.cell (fun h => h) (hca j hja)
      have e3 := hcr j hjq
      have f3 := hfr j
      have gx : a[j]? = some a[j] := List.getElem?_eq_getElem hja
      have hxl := hA.out _ (List.getElem_mem hja)
      have hrl := ho.out.rlt
      generalize a[j] = x at *
      generalize q[j] = u at *
      obtain ⟨hst, hq1, hq2⟩ := ho.out.step gx hxl
      have HST := Lib.hid hst
      have HR := Lib.hid (hr.out.set j ((r * 4294967296 + x) / d))
      have HK := Lib.hid (fun v : Value => hkp.out.setCell (p := ⟨g, j, none⟩) (.inr (by show w.heap.size ≤ g; have := HG.out; omega)) v)
      have hor := or_words2 x r hxl (by omega)
      obtain ⟨t, ht⟩ : ∃ t, r * 4294967296 + x = t := ⟨_, rfl⟩
      rw [show (x : Int) + (r : Int) * 4294967296 = (t : Int) by omega] at hor
      rw [ht] at HST HR hq1 hq2
      have ht2 : t < 18446744073709551616 := by omega
      clear hst gx hcr hfr hr ho hkp hjq hg' hca ht
      obtain ⟨Q, hQ⟩ : ∃ Q, t / d = Q := ⟨_, rfl⟩
      have hdv : (t : Int) / (d : Int) = (Q : Int) := by rw [← hQ]; rfl
      rw [hQ] at HST HR hq1
      clear hQ
      go_wp2_with fail
      go_roundw
      case measure => simp [intOf]
      case rel => exact ⟨j, t % d, _, by omega, by go_num, by go_num, HR, HST, Lib.hid (HK.out _)⟩

theorem top_bits_hi {top n : Nat} (h : top / 2 ^ n = 0) : top < 2 ^ n := by
  rcases Nat.lt_or_ge top (2 ^ n) with h1 | h1
  · exact h1
  · have := Nat.div_pos h1 (Nat.pow_pos (by omega)); omega

set_option maxRecDepth 100000 in
set_option maxHeartbeats 4000000 in
theorem length_any {w : World} {v : Value} {l : List Nat} (h : A32 w v l) (hl : l.length ≤ 400) {top : Nat} (ht : l.getLast? = some top) (htl : top < 4294967296) (h0 : 0 < top) :
    Calls Tryz.prog 89 #[v] w fun e w' => (∃ k : Nat, 1 ≤ k ∧ k ≤ 32 ∧ 2 ^ (k - 1) ≤ top ∧ top < 2 ^ k ∧ e = .returned (.int .i64 (((l.length : Int) - 1) * 32 + k))) ∧ w' = w := by
  obtain ⟨A, c, rfl, _, _⟩ := h.slice
  have hp : 0 < l.length := by
    cases l with
    | nil => cases ht
    | cons => simp
  have hp2 : ((l.length : Int) == 0) = false := by rw [beq_eq_false_iff_ne]; omega
  obtain ⟨g, rfl, hc, _, _⟩ := h.cell hp
  have hlast : l[l.length - 1]'(by omega) = top := by
    rw [List.getLast?_eq_getElem?, List.getElem?_eq_getElem (by omega)] at ht
    injection ht
  have e1 := hc (l.length - 1) (by omega)
  rw [hlast] at e1
  clear hc h ht hlast
  generalize l.length = m at *
  obtain ⟨q, rfl⟩ : ∃ q, m = q + 1 := ⟨m - 1, by omega⟩
  simp only [Nat.add_sub_cancel] at e1
  go_enter Tryz.func89, Tryz.ntmps89
  go_wp2_with fail
  go_loop [3, 4] (fun nn tt => ∃ (k : Nat), k ≤ 32 ∧ nn = .int .i64 k ∧ tt = .int .u32 ((top / 2 ^ k : Nat) : Int) ∧ Hid (k = 0 ∨ 2 ^ (k - 1) ≤ top)) (fun _ t => (intOf t).toNat)
  case atStart => exact ⟨0, by omega, rfl, by simp, Lib.hid (.inl rfl)⟩
  case round =>
    obtain ⟨k, hk, rfl, rfl, hb⟩ := hrel
    obtain ⟨t, ht⟩ : ∃ t, top / 2 ^ k = t := ⟨_, rfl⟩
    rw [ht]
    rcases Nat.eq_zero_or_pos t with rfl | ht0
    · have hi := Lib.hid (top_bits_hi ht)
      clear ht
      go_wp2_with fail
      go_ret
      refine ⟨⟨k, ?_, hk, ?_, hi.out, ?_⟩, rfl⟩
      · rcases hb.out with rfl | _
        · have := hi.out; simp at this; omega
        · rcases Nat.eq_zero_or_pos k with rfl | h
          · have := hi.out; simp at this; omega
          · exact h
      · rcases hb.out with rfl | h
        · have := hi.out; simp at this; omega
        · exact h
      · rfl
    · have hge : 2 ^ k ≤ top := by
        rcases Nat.lt_or_ge top (2 ^ k) with h | h
        · rw [Nat.div_eq_of_lt h] at ht; omega
        · exact h
      have hk32 : k < 32 := by
        rcases Nat.lt_or_ge k 32 with h | h
        · exact h
        · have := Nat.pow_le_pow_right (show 0 < 2 by omega) h
          omega
      have hne : ((t : Int) != 0) = true := by simp; omega
      have H2 := Lib.hid (show top / 2 ^ (k + 1) = t / 2 by rw [Nat.pow_succ, ← Nat.div_div_eq_div_mul, ht])
      have htl2 : t < 4294967296 := by have := Nat.div_le_self top (2 ^ k); omega
      have HG := Lib.hid (show k + 1 = 0 ∨ 2 ^ (k + 1 - 1) ≤ top from .inr hge)
      clear hge ht hb
      go_wp2_with fail
      go_round
      case measure => simp [intOf]; omega
      case rel => exact ⟨k + 1, by omega, by go_num, by rw [H2.out]; rfl, HG⟩
end Go.Proofs.YtnihfhfakadepaaGreatDoor
namespace Go.Proofs.YtnihfhfakadepaaGreatDoor
open Go.RowKit

/-- Bits below and above place s. -/
theorem or_low {s T c x : Nat} (hT : 4294967296 = 2 ^ s * T) (hc : c < 2 ^ s) (hl : c + x * 2 ^ s % 4294967296 < 4294967296) : bits .or .u32 (c : Int) (((x * 2 ^ s % 4294967296 : Nat) : Int)) = ((c + x * 2 ^ s % 4294967296 : Nat) : Int) := by
  rw [u32_or_nat c _ (by omega) (by omega)]
  congr 1
  have h1 : x * 2 ^ s % 4294967296 = 2 ^ s * (x % T) := by rw [hT, Nat.mul_comm x, Nat.mul_mod_mul_left]
  rw [h1, Nat.or_comm, ← Nat.two_pow_add_eq_or_of_lt hc, Nat.add_comm]
theorem or_zero32 (c : Nat) (hc : c < 4294967296) : bits .or .u32 0 (c : Int) = (c : Int) := by
  have := u32_or_nat 0 c (by omega) hc
  rw [Nat.zero_or] at this
  exact this

set_option maxRecDepth 100000 in
set_option maxHeartbeats 4000000 in
theorem left_any {w : World} {v : Value} {n s : Nat} (h : N32 w v n) (hl : (digs 4294967296 n).length ≤ 400) (hn : 0 < n) (hs : s < 32) :
    Calls Tryz.prog 90 #[v, .int .u64 (s : Int)] w fun e w' => ∃ v', e = .returned v' ∧ N32 w' v' (n * 2 ^ s) ∧ Keeps (fun _ => False) w w' := by
  obtain ⟨i0, hi0, hz, hsz, hby⟩ := info_parts Tryz.info119
  have HI := Lib.hid hi0; have HZ := Lib.hid hz; have HS := Lib.hid hsz; have HB := Lib.hid hby
  clear hi0 hz hsz hby
  obtain ⟨A, c, rfl, _, _⟩ := h.slice
  have hN := Lib.hid (dval_digs (B := 4294967296) (by omega) n)
  have hA := Lib.hid (digs_lt (B := 4294967296) (by omega) n)
  have hp := digs_len_pos hn
  unfold N32 at h
  generalize digs 4294967296 n = a at *
  have H1 := Lib.hid h
  clear h
  have hp2 : ((a.length : Int) == 0) = false := by rw [beq_eq_false_iff_ne]; omega
  have hs1 : (s : Int) / 32 = 0 := by omega
  have hs2 : (s : Int) % 32 = (s : Int) := by omega
  go_enter Tryz.func90, Tryz.ntmps90
  go_wp2_with (at_make; refine wpList_make_full _ rfl _ _ 79 rfl 0 119 i0 _ 1 Tryz.underlying79 HI.out HZ.out HS.out .i64 .i64 _ _ (a.length + 1) rfl rfl ?c1 ?c2 ?c3 ?c4 ?c5 ?_; (case c1 => (simp)); (case c2 => (simp)); (case c3 => (rw [HB.out]; omega)); (case c4 => (unfold maxLen; omega)); (case c5 => omega); intro w1 hown hgrow)
  obtain ⟨g, hg⟩ : ∃ g, w.heap.size = g := ⟨_, rfl⟩
  have hk1 : Keeps (fun _ => False) w w1 := Keeps.of_grown hgrow fun k hk => by cases hk
  rw [hg] at hown ⊢
  have ha1 := Arr.of_zeros hown
  have HA1 := Lib.hid ha1; have HK1 := Lib.hid hk1; have HG := Lib.hid hg
  clear hown hgrow ha1 hk1 hg HI HZ HS HB hs1 hs2
  go_loopw [8] (fun i wr => ∃ (k cc : Nat) (rs : List Nat), k ≤ a.length ∧ i = .int .i64 k ∧ Hid (A32 wr (.slice (some ⟨g, 0, none⟩) (a.length + 1) (a.length + 1)) rs) ∧ Hid (LeftAt 4294967296 (2 ^ s) a rs k cc) ∧ Hid (Keeps (fun _ => False) w wr)) (fun i _ => a.length - (intOf i).toNat)
  case atStart => exact ⟨0, 0, _, Nat.zero_le _, rfl, HA1, Lib.hid (LeftAt.start (by omega) (Nat.pow_pos (by omega))), HK1⟩
  case round =>
    obtain ⟨k, cc, rs, hk, rfl, hr, ho, hkp⟩ := hrel
    by_cases hlt : k < a.length
    · obtain ⟨ga, rfl, hca, _, hga⟩ := H1.out.cell (by omega)
      have hkr : k < rs.length := by rw [ho.out.len]; omega
      have hkr2 : k + 1 < rs.length := by rw [ho.out.len]; omega
      obtain ⟨g', hg', hcr, hfr, _⟩ := hr.out.cell (by omega)
      obtain rfl : g = g' := by injection hg' with hg'; injection hg'
      have e1 := hkp.out.cell (fun h => h) (hca k hlt)
      have e3 := hcr k hkr
      have e4 := hcr (k + 1) hkr2
      have f3 := hfr k
      have f4 := hfr (k + 1)
      have gx : a[k]? = some a[k] := List.getElem?_eq_getElem hlt
      have hxl := hA.out _ (List.getElem_mem hlt)
      generalize a[k] = x at *
      obtain ⟨hst, hq1, hq2, hq3⟩ := ho.out.step (T := 2 ^ (32 - s)) (by omega) (by rw [← Nat.pow_add]; rw [show s + (32 - s) = 32 by omega]) gx hxl
      have hrk : rs[k] = cc := by
        have := ho.out.at_
        rw [List.getElem?_eq_getElem hkr] at this
        injection this
      have hrk1 : rs[k + 1] = 0 := by
        rw [List.getElem?_eq_getElem hkr2] at hq2
        injection hq2
      rw [hrk] at e3
      rw [hrk1] at e4
      have hSle : 2 ^ s ≤ 2147483648 := Nat.pow_le_pow_right (n := 2) (show 0 < 2 by omega) (show s ≤ 31 by omega)
      have hV : x * 2 ^ s < 18446744073709551616 := by
        have := Nat.mul_le_mul (show x ≤ 4294967296 by omega) hSle
        omega
      have o1 := or_low (s := s) (T := 2 ^ (32 - s)) (by rw [← Nat.pow_add, show s + (32 - s) = 32 by omega]) ho.out.clt hq1
      have o2 := or_zero32 (x * 2 ^ s / 4294967296) (by omega)
      have HST := Lib.hid hst
      have HR := Lib.hid ((hr.out.set k (cc + x * 2 ^ s % 4294967296)).set (k + 1) (x * 2 ^ s / 4294967296))
      have HK := Lib.hid (fun u1 u2 : Value => (hkp.out.setCell (p := ⟨g, k, none⟩) (.inr (by show w.heap.size ≤ g; have := HG.out; omega)) u1).setCell (p := ⟨g, k + 1, none⟩) (.inr (by show w.heap.size ≤ g; have := HG.out; omega)) u2)
      have hw1 : IntKind.u64.wrap ((x : Int) * 2 ^ s) = ((x * 2 ^ s : Nat) : Int) := by
        have e : ((x * 2 ^ s : Nat) : Int) = (x : Int) * 2 ^ s := by rw [Int.natCast_mul, Int.natCast_pow]; rfl
        rw [← e]
        simp only [IntKind.wrap_u64]; omega
      generalize x * 2 ^ s = V at *
      obtain ⟨lo, hlo⟩ : ∃ lo, V % 4294967296 = lo := ⟨_, rfl⟩
      obtain ⟨hi, hhi⟩ : ∃ hi, V / 4294967296 = hi := ⟨_, rfl⟩
      have m1 : (V : Int) % 4294967296 = (lo : Int) := by omega
      have m2 : (V : Int) / 4294967296 = (hi : Int) := by omega
      rw [hlo] at HST HR o1
      rw [Int.natCast_add] at HR
      rw [hhi] at HST HR o2
      clear hst gx hq1 hq2 hq3 hr ho hkp hcr hfr hg' hca hrk hrk1 hkr hkr2 hSle hlo hhi
      go_wp2_with fail
      go_roundw
      case measure => simp [intOf]; omega
      case rel => exact ⟨k + 1, hi, _, by omega, by go_num, HR, HST, Lib.hid (HK.out _ _)⟩
    · obtain rfl : k = a.length := by omega
      have hv : dval 4294967296 rs = n * 2 ^ s := by rw [ho.out.done, hN.out]
      have HT := Lib.hid (trim_any hr.out ho.out.lt (by rw [ho.out.len]; omega))
      rw [hv] at HT
      clear hv hr ho
      go_wp2_with (go_at_call 83; refine HT.out.mono ?_; rintro e w' ⟨v', rfl, hn, rfl⟩; have HN := Lib.hid hn; clear hn)
      go_ret
      exact ⟨_, rfl, HN.out, hkp.out⟩

theorem cast_shr (t s : Nat) : ((t / 2 ^ s % 4294967296 : Nat) : Int) = (t : Int) / 2 ^ s % 4294967296 := by
  rw [Int.natCast_emod, Int.natCast_ediv, Int.natCast_pow]; rfl

set_option maxRecDepth 100000 in
set_option maxHeartbeats 4000000 in
theorem right_any {w : World} {v : Value} {n s : Nat} (h : N32 w v n) (hl : (digs 4294967296 n).length ≤ 400) (hs : s < 32) :
    Calls Tryz.prog 91 #[v, .int .u64 (s : Int)] w fun e w' => ∃ v', e = .returned v' ∧ N32 w' v' (n / 2 ^ s) ∧ Keeps (fun _ => False) w w' := by
  obtain ⟨i0, hi0, hz, hsz, hby⟩ := info_parts Tryz.info119
  have HI := Lib.hid hi0; have HZ := Lib.hid hz; have HS := Lib.hid hsz; have HB := Lib.hid hby
  clear hi0 hz hsz hby
  obtain ⟨A, c, rfl, _, _⟩ := h.slice
  have hs1 : (s : Int) / 32 = 0 := by omega
  have hs2 : (s : Int) % 32 = (s : Int) := by omega
  rcases Nat.eq_zero_or_pos n with hn | hn
  · subst hn
    rw [show (digs 4294967296 0).length = 0 by rw [digs_zero]; rfl, Nat.zero_div]
    clear h hl
    go_enter Tryz.func91, Tryz.ntmps91
    go_wp2_with fail
    go_ret
    exact ⟨_, rfl, by unfold N32; rw [digs_zero]; exact Arr.nil _ _ _, Keeps.refl _ _⟩
  have hN := Lib.hid (dval_digs (B := 4294967296) (by omega) n)
  have hA := Lib.hid (digs_lt (B := 4294967296) (by omega) n)
  have hp := digs_len_pos hn
  unfold N32 at h
  generalize digs 4294967296 n = a at *
  have H1 := Lib.hid h
  clear h
  have hne : ¬ a = [] := fun e => by rw [e] at hp; simp at hp
  go_enter Tryz.func91, Tryz.ntmps91
  go_wp2_with (at_make; refine wpList_make_full _ rfl _ _ 79 rfl 0 119 i0 _ 1 Tryz.underlying79 HI.out HZ.out HS.out .i64 .i64 _ _ a.length rfl rfl ?c1 ?c2 ?c3 ?c4 ?c5 ?_; (case c1 => (simp)); (case c2 => (simp)); (case c3 => (rw [HB.out]; omega)); (case c4 => (unfold maxLen; omega)); (case c5 => omega); intro w1 hown hgrow)
  obtain ⟨g, hg⟩ : ∃ g, w.heap.size = g := ⟨_, rfl⟩
  have hk1 : Keeps (fun _ => False) w w1 := Keeps.of_grown hgrow fun k hk => by cases hk
  rw [hg] at hown ⊢
  have ha1 := Arr.of_zeros hown
  have HA1 := Lib.hid ha1; have HK1 := Lib.hid hk1; have HG := Lib.hid hg
  clear hown hgrow ha1 hk1 hg HI HZ HS HB hs1 hs2
  go_loopw [8] (fun i wr => ∃ (k : Nat) (rs : List Nat), k ≤ a.length ∧ i = .int .i64 k ∧ Hid (A32 wr (.slice (some ⟨g, 0, none⟩) a.length a.length) rs) ∧ Hid (RightAt 4294967296 (2 ^ s) a rs k) ∧ Hid (Keeps (fun _ => False) w wr)) (fun i _ => a.length - (intOf i).toNat)
  case atStart => exact ⟨0, _, Nat.zero_le _, rfl, HA1, Lib.hid (RightAt.start (by omega)), HK1⟩
  case round =>
    obtain ⟨k, rs, hk, rfl, hr, ho, hkp⟩ := hrel
    by_cases hlt : k < a.length
    · obtain ⟨ga, rfl, hca, _, hga⟩ := H1.out.cell (by omega)
      have hkr : k < rs.length := by rw [ho.out.len]; omega
      obtain ⟨g', hg', hcr, hfr, _⟩ := hr.out.cell (by omega)
      obtain rfl : g = g' := by injection hg' with hg'; injection hg'
      have e1 := hkp.out.cell (fun h => h) (hca k hlt)
      have e3 := hcr k hkr
      have f3 := hfr k
      have gx : a[k]? = some a[k] := List.getElem?_eq_getElem hlt
      have hxl := hA.out _ (List.getElem_mem hlt)
      generalize a[k] = x at *
      generalize rs[k] = u at *
      by_cases hlt2 : k + 1 < a.length
      · have e2 := hkp.out.cell (fun h => h) (hca (k + 1) hlt2)
        have gy := List.drop_eq_getElem_cons hlt2
        have hyl := hA.out _ (List.getElem_mem hlt2)
        generalize a[k + 1] = y at *
        have hst := ho.out.step (T := 2 ^ (32 - s)) (y := y) (by omega) (Nat.pow_pos (by omega)) (by rw [← Nat.pow_add, show s + (32 - s) = 32 by omega]) hA.out gx (by rw [gy, dval, Nat.add_mul_mod_self_left, Nat.mod_eq_of_lt hyl])
        have HST := Lib.hid hst
        have hor := or_words x y hxl hyl
        have HK := Lib.hid (fun v : Value => hkp.out.setCell (p := ⟨g, k, none⟩) (.inr (by show w.heap.size ≤ g; have := HG.out; omega)) v)
        have HR := Lib.hid (hr.out.set k ((x + 4294967296 * y) / 2 ^ s % 4294967296))
        obtain ⟨t, ht⟩ : ∃ t, x + 4294967296 * y = t := ⟨_, rfl⟩
        rw [show (x : Int) + (y : Int) * 4294967296 = (t : Int) by omega] at hor
        rw [ht] at HST HR
        have ht2 : t < 18446744073709551616 := by omega
        rw [cast_shr] at HR
        clear hst gx gy hr ho hkp hcr hfr hg' hca hkr ht
        go_wp2_with fail
        go_roundw
        case measure => simp [intOf]; omega
        case rel => exact ⟨k + 1, _, by omega, by go_num, HR, HST, Lib.hid (HK.out _)⟩
      · have hst := ho.out.step (T := 2 ^ (32 - s)) (y := 0) (by omega) (Nat.pow_pos (by omega)) (by rw [← Nat.pow_add, show s + (32 - s) = 32 by omega]) hA.out gx (by rw [List.drop_of_length_le (by omega)]; rfl)
        have HST := Lib.hid hst
        have HK := Lib.hid (fun v : Value => hkp.out.setCell (p := ⟨g, k, none⟩) (.inr (by show w.heap.size ≤ g; have := HG.out; omega)) v)
        have HR := Lib.hid (hr.out.set k ((x + 4294967296 * 0) / 2 ^ s % 4294967296))
        rw [Nat.mul_zero, Nat.add_zero] at HR HST
        rw [cast_shr] at HR
        clear hst gx hr ho hkp hcr hfr hg' hca hkr
        go_wp2_with fail
        go_roundw
        case measure => simp [intOf]; omega
        case rel => exact ⟨k + 1, _, by omega, by go_num, HR, HST, Lib.hid (HK.out _)⟩
    · obtain rfl : k = a.length := by omega
      have hv : dval 4294967296 rs = n / 2 ^ s := by rw [ho.out.done (by omega) hA.out, hN.out]
      have HT := Lib.hid (trim_any hr.out ho.out.lt (by rw [ho.out.len]; omega))
      rw [hv] at HT
      clear hv hr ho
      go_wp2_with (go_at_call 83; refine HT.out.mono ?_; rintro e w' ⟨v', rfl, hn, rfl⟩; have HN := Lib.hid hn; clear hn)
      go_ret
      exact ⟨_, rfl, HN.out, hkp.out⟩

end Go.Proofs.YtnihfhfakadepaaGreatDoor
namespace Go.Proofs.YtnihfhfakadepaaGreatDoor
open Go.RowKit

/-- What a division hands back. -/
def Divided (w : World) (a b : Nat) (e : Ending) (w' : World) : Prop :=
  ∃ v1 v2, e = .returned (.tuple #[v1, v2]) ∧ N32 w' v1 (a / b) ∧ N32 w' v2 (a % b) ∧ Keeps (fun _ => False) w w'

theorem cmpN_less {a b : Nat} (h : a < b) : decide (cmpN a b < 0) = true := by rw [cmpN_lt h]; rfl
theorem cmpN_notless {a b : Nat} (h : b ≤ a) : decide (cmpN a b < 0) = false := by
  unfold cmpN; rw [if_neg (by omega)]; split <;> rfl

theorem N32.drewN {w : World} {v : Value} {n : Nat} (h : N32 w v n) (q : Nat) : N32 (w.drewN q) v n := h
theorem N32.nilOf (w : World) : N32 w (.slice none 0 0) 0 := by unfold N32; rw [digs_zero]; exact Arr.nil _ _ _

set_option maxRecDepth 100000 in
set_option maxHeartbeats 4000000 in
theorem div_less {w : World} {v1 v2 : Value} {a b : Nat} (h1 : N32 w v1 a) (h2 : N32 w v2 b) (hl : (digs 4294967296 a).length ≤ 400) (hlt : a < b) :
    Calls Tryz.prog 81 #[v1, v2] w (Divided w a b) := by
  have HT := Lib.hid (fun q => twin_any (w := w.drewN q) h1 (by omega))
  have HC := Lib.hid (cmpw_any h1 h2 (by omega))
  obtain ⟨A2, c2, rfl, _, _⟩ := h2.slice
  have hq := digs_len_pos (show 0 < b by omega)
  have hc := cmpN_less hlt
  generalize hcc : cmpN a b = cc at *
  have HD := Lib.hid (show a / b = 0 ∧ a % b = a from ⟨Nat.div_eq_of_lt hlt, Nat.mod_eq_of_lt hlt⟩)
  clear h1 h2 hl hlt hcc
  generalize (digs 4294967296 b).length = m at *
  have hne : ((m : Int) == 0) = false := by rw [beq_eq_false_iff_ne]; omega
  go_enter Tryz.func81, Tryz.ntmps81
  go_wp2_with (first | (go_at_call 75; refine HC.out.mono ?_; rintro e w1 ⟨rfl, q, rfl⟩) | (go_at_call 74; refine (HT.out _).mono ?_; rintro e w2 ⟨v', rfl, hn, hk⟩; have HN := Lib.hid hn; have HK := Lib.hid hk; clear hn hk))
  go_ret2
  refine ⟨_, _, rfl, ?_, ?_, ((Keeps.refl _ w).drewN _).trans HK.out fun _ h => .inl h⟩
  · rw [HD.out.1]; exact N32.nilOf _
  · rw [HD.out.2]; exact HN.out

theorem wrap_nat {x : Nat} (h : x < 18446744073709551616) : IntKind.u64.wrap (x : Int) = (x : Int) := by simp only [IntKind.wrap_u64]; omega

theorem digs_le_two {n : Nat} (h : n < 18446744073709551616) : (digs 4294967296 n).length ≤ 2 := digs_length_le (by omega) 2 n (by omega)
theorem digs_ge_three {n : Nat} (h : 18446744073709551616 ≤ n) : 3 ≤ (digs 4294967296 n).length := by
  rcases Nat.lt_or_ge (digs 4294967296 n).length 3 with h1 | h1
  · have h2 := digs_lt_pow (B := 4294967296) (by omega) n
    have h3 : 4294967296 ^ (digs 4294967296 n).length ≤ 4294967296 ^ 2 := Nat.pow_le_pow_right (by omega) (by omega)
    omega
  · exact h1

set_option maxRecDepth 100000 in
set_option maxHeartbeats 4000000 in
theorem div_plain {w : World} {v1 v2 : Value} {a b : Nat} (h1 : N32 w v1 a) (h2 : N32 w v2 b) (ha : a < 18446744073709551616) (hb : 0 < b) (hle : b ≤ a) :
    Calls Tryz.prog 81 #[v1, v2] w (Divided w a b) := by
  have hl := digs_le_two ha
  have HP1 := Lib.hid (fun q => plain_any (w := w.drewN q) h1 ha)
  have HP2 := Lib.hid (fun q => plain_any (w := w.drewN q) h2 (by omega))
  have HC := Lib.hid (cmpw_any h1 h2 (by omega))
  have HQ := Lib.hid (fun w => words_any (w := w) (a / b) (Nat.lt_of_le_of_lt (Nat.div_le_self _ _) ha))
  have HR := Lib.hid (fun w => words_any (w := w) (a % b) (Nat.lt_of_le_of_lt (Nat.mod_le _ _) ha))
  obtain ⟨A1, c1, rfl, _, _⟩ := h1.slice
  obtain ⟨A2, c2, rfl, _, _⟩ := h2.slice
  have hq := digs_len_pos (show 0 < b by omega)
  have hc := cmpN_notless hle
  generalize hcc : cmpN a b = cc at *
  clear h1 h2 hcc
  generalize (digs 4294967296 b).length = m at *
  generalize (digs 4294967296 a).length = k at *
  have hne : ((m : Int) == 0) = false := by rw [beq_eq_false_iff_ne]; omega
  have hbb : (1 : Int) ≤ (b : Int) := by omega
  have hbz : ¬ b = 0 := by omega
  obtain ⟨Q, hQ⟩ : ∃ Q, a / b = Q := ⟨_, rfl⟩
  obtain ⟨R, hR⟩ : ∃ R, a % b = R := ⟨_, rfl⟩
  have hdv : (a : Int) / (b : Int) = (Q : Int) := by rw [← hQ]; rfl
  have hmt : (a : Int).tmod (b : Int) = (R : Int) := by rw [← hR]; rfl
  have hmd : (a : Int) % (b : Int) = (R : Int) := by rw [← hR]; rfl
  have hQl : Q < 18446744073709551616 := by rw [← hQ]; exact Nat.lt_of_le_of_lt (Nat.div_le_self a b) ha
  have hRl : R < 18446744073709551616 := by rw [← hR]; exact Nat.lt_of_le_of_lt (Nat.mod_le a b) ha
  have hq1 := wrap_nat hQl
  rw [hQ] at HQ
  rw [hR] at HR
  have HQE := Lib.hid hQ; have HRE := Lib.hid hR
  clear hQ hR
  go_enter Tryz.func81, Tryz.ntmps81
  go_wp2_with (first | (go_at_call 75; refine HC.out.mono ?_; rintro e w1 ⟨rfl, q, rfl⟩) | (go_at_call 87; ((with_reducible refine (HP1.out _).mono ?_); rintro e w2 ⟨rfl, rfl⟩)) | (go_at_call 87; ((with_reducible refine (HP2.out _).mono ?_); rintro e w2 ⟨rfl, rfl⟩)))
  obtain ⟨w1, hw1⟩ : ∃ w1, w.drewN q = w1 := ⟨_, rfl⟩
  have HW := Lib.hid (show Keeps (fun _ => False) w w1 from hw1 ▸ (Keeps.refl _ w).drewN q)
  rw [hw1]
  clear hw1 HP1 HP2 HC
  refine Wg.wp_region_first (C := fun w' => Keeps (fun _ => False) w w') (by kernel_rfl) 8 ?_
  have hk0 : Keeps (fun _ => False) w { w1 with drawn := w1.drawn + 1 } := HW.out.drew
  generalize { w1 with drawn := w1.drawn + 1 } = W at *
  apply Wg.wpAnyP_stays (by kernel_rfl) [0, 1, 2, 4, 5, 6] _ _ _ 4 _ hk0 (by kernel_rfl) ?hs ?hr
  case hs =>
    repeat (apply Wg.wpStays_step rfl rfl; (intro w' hw'; clear hw'; go_simp; exact ⟨rfl, rfl⟩); go_simp)
    exact rfl
  case hr =>
    apply Wg.wpAnyP_one (i := 3) (fuel := 3) (by kernel_rfl) rfl rfl
    go_simp
    refine Wg.plain_call (HQ.out _) ?_
    rintro e w2 ⟨vq, rfl, hn2, hk2⟩
    have hk3 := hk0.trans hk2 (fun _ h => .inl h)
    refine ⟨_, rfl, hk3, ?_⟩
    apply Wg.wpAnyP_one (i := 7) (fuel := 2) (by kernel_rfl) rfl rfl
    go_simp
    refine Wg.plain_call (HR.out _) ?_
    rintro e w3 ⟨vr, rfl, hn4, hk4⟩
    have hk5 := hk3.trans hk4 (fun _ h => .inl h)
    refine ⟨_, rfl, hk5, ?_⟩
    apply Wg.wpAnyP_one (i := 8) (fuel := 1) (by kernel_rfl) rfl rfl
    go_simp
    refine ⟨trivial, ?_⟩
    apply Wg.wpAnyP_one (i := 9) (fuel := 0) (by kernel_rfl) rfl rfl
    go_simp
    refine ⟨trivial, by kernel_rfl, ?_⟩
    go_simp
    have H1 := Lib.hid (hn2.later hk4); have H2 := Lib.hid hn4; have H3 := Lib.hid hk5
    clear hn2 hn4 hk5 hk3 hk2 hk4 hk0
    go_wp2_with fail
    go_ret2
    refine ⟨_, _, rfl, ?_, ?_, H3.out⟩
    · rw [HQE.out]; exact H1.out
    · rw [HRE.out]; exact H2.out

theorem trim_one {w : World} {z : Int} {x : Nat} (hz : z = (x : Int)) (hx : x < 4294967296) :
    Calls Tryz.prog 83 #[.slice (some ⟨w.heap.size, 0, none⟩) 1 1] (w.alloc (.cells #[.int .u32 z] 119)) fun e w' => ∃ v', e = .returned v' ∧ N32 w' v' x ∧ w' = w.alloc (.cells #[.int .u32 z] 119) := by
  subst hz
  have ha : A32 (w.alloc (.cells #[.int .u32 (x : Int)] 119)) (.slice (some ⟨w.heap.size, 0, none⟩) 1 1) [x] := by
    refine Arr.of_own (World.ownsRow_lit (base := 0) (size := 1) w _ 1 (by omega) (by simp [maxLen]) (by simp)) rfl ?_
    simp [wcs]
  have h := trim_any ha (by simpa using hx) (by simp)
  rw [show dval 4294967296 [x] = x by simp [dval]] at h
  exact h.mono fun e w' ⟨v', h1, h2, h3⟩ => ⟨v', h1, by rw [h3]; exact h2, h3⟩

set_option maxRecDepth 100000 in
set_option maxHeartbeats 4000000 in
theorem div_one {w : World} {v1 v2 : Value} {a b : Nat} (h1 : N32 w v1 a) (h2 : N32 w v2 b) (hl : (digs 4294967296 a).length ≤ 400) (ha : 18446744073709551616 ≤ a) (hb : 0 < b) (hb2 : b < 4294967296) :
    Calls Tryz.prog 81 #[v1, v2] w (Divided w a b) := by
  have hl3 := digs_ge_three ha
  have HC := Lib.hid (cmpw_any h1 h2 (by omega))
  have HS := Lib.hid (fun q => small_any (w := w.drewN q) h1 hl hb hb2)
  obtain ⟨A1, c1, rfl, _, _⟩ := h1.slice
  obtain ⟨A2, c2, rfl, _, _⟩ := h2.slice
  have e1 : digs 4294967296 b = [b] := by rw [digs_pos (by omega) hb, Nat.div_eq_of_lt hb2, digs_zero, Nat.mod_eq_of_lt hb2]
  obtain ⟨g, rfl, hcell, _, _⟩ := h2.cell (by rw [e1]; simp)
  have c0 := hcell 0 (by rw [e1]; simp)
  simp only [e1] at c0
  simp only [List.getElem_cons_zero] at c0
  rw [e1] at HC ⊢
  simp only [List.length_cons, List.length_nil, Nat.zero_add] at HC ⊢
  have hc := cmpN_notless (show b ≤ a by omega)
  generalize hcc : cmpN a b = cc at *
  have hml := Nat.mod_lt a hb
  have HT := Lib.hid (fun (w' : World) => trim_one (w := w') (z := (a : Int) % (b : Int)) (x := a % b) rfl (by omega))
  clear h1 h2 hcc hcell e1 ha
  generalize (digs 4294967296 a).length = k at *
  go_enter Tryz.func81, Tryz.ntmps81
  go_wp2_with (first | (go_at_call 75; ((with_reducible refine HC.out.mono ?_); rintro e w1 ⟨rfl, q, rfl⟩)) | (go_at_call 88; ((with_reducible refine (HS.out _).mono ?_); rintro e w2 ⟨vq, rfl, hq, hk⟩; have HQ := Lib.hid hq; have HK := Lib.hid hk; clear hq hk)) | (go_at_call 83; ((with_reducible refine (HT.out _).mono ?_); rintro e w3 ⟨vr, rfl, hr, hw3⟩; have HR := Lib.hid hr; have HW3 := Lib.hid hw3; clear hr hw3)))
  go_ret2
  have hka : Keeps (fun _ => False) w2 w3 := by rw [HW3.out]; exact (Keeps.refl _ _).alloc _
  exact ⟨_, _, rfl, N32.later HQ.out hka, HR.out, (((Keeps.refl _ w).drewN _).trans HK.out fun _ h => .inl h).trans hka fun _ h => .inl h⟩

end Go.Proofs.YtnihfhfakadepaaGreatDoor
namespace Go.Proofs.YtnihfhfakadepaaGreatDoor
open Go.RowKit

theorem sgB_mul (x y : Int) : sgB (decide (x < 0) != decide (y < 0)) (x.natAbs * y.natAbs) = decide (x * y < 0) := by
  unfold sgB
  by_cases hx : x < 0
  · by_cases hy : y < 0
    · have : ¬ x * y < 0 := by have := Int.mul_nonneg_of_nonpos_of_nonpos (show x ≤ 0 by omega) (show y ≤ 0 by omega); omega
      simp [hx, hy, this]
    · rcases Int.lt_or_eq_of_le (show 0 ≤ y by omega) with h0 | h0
      · have h1 : x * y < 0 := Int.mul_neg_of_neg_of_pos hx h0
        have h2 : 0 < x.natAbs * y.natAbs := Nat.mul_pos (by omega) (by omega)
        rw [decide_eq_true hx, decide_eq_false hy, decide_eq_true h1, decide_eq_true h2]
        rfl
      · subst h0; simp
  · by_cases hy : y < 0
    · rcases Int.lt_or_eq_of_le (show 0 ≤ x by omega) with h0 | h0
      · have h1 : x * y < 0 := Int.mul_neg_of_pos_of_neg h0 hy
        have h2 : 0 < x.natAbs * y.natAbs := Nat.mul_pos (by omega) (by omega)
        rw [decide_eq_false hx, decide_eq_true hy, decide_eq_true h1, decide_eq_true h2]
        rfl
      · subst h0; simp
    · have : ¬ x * y < 0 := by have := Int.mul_nonneg (show 0 ≤ x by omega) (show 0 ≤ y by omega); omega
      simp [hx, hy, this]

set_option maxRecDepth 100000 in
set_option maxHeartbeats 4000000 in
theorem imul_any {w : World} {b o b1 o1 b2 o2 : Nat} {x y : Int} (h1 : IntAt w b1 o1 x) (h2 : IntAt w b2 o2 y) (hl : (digs 4294967296 x.natAbs).length ≤ 400) (hl2 : (digs 4294967296 y.natAbs).length ≤ 400) (s0 : Slot w b o) (s1 : Slot w b (o + 1)) :
    Calls Tryz.prog 58 #[.pointer (some ⟨b, o, none⟩), .pointer (some ⟨b1, o1, none⟩), .pointer (some ⟨b2, o2, none⟩)] w fun e w' => e = .returned (.pointer (some ⟨b, o, none⟩)) ∧ Gave w w' b o (x * y) := by
  obtain ⟨v1, c1, hv1⟩ := h1.abs
  obtain ⟨v2, c2, hv2⟩ := h2.abs
  have c1' := h1.neg
  have c2' := h2.neg
  have S0 := Lib.hid s0; have S1 := Lib.hid s1
  have HT := Lib.hid (fun (w' : World) (hk : Keeps (fun _ => False) w w') => mul_any (hv1.later hk) (hv2.later hk) hl hl2)
  have HC := Lib.hid (fun (w' : World) (hk : Keeps (fun _ => False) w w') => (⟨hk.cell (fun h => h) c1', hk.cell (fun h => h) c1, hk.cell (fun h => h) c2', hk.cell (fun h => h) c2⟩ : w'.cell? ⟨b1, o1, none⟩ = some (.bool (decide (x < 0))) ∧ w'.cell? ⟨b1, o1 + 1, none⟩ = some v1 ∧ w'.cell? ⟨b2, o2, none⟩ = some (.bool (decide (y < 0))) ∧ w'.cell? ⟨b2, o2 + 1, none⟩ = some v2))
  clear s0 s1 hv1 hv2 h1 h2 c1 c2 c1' c2' hl hl2
  have HSG := Lib.hid (sgB_mul x y)
  generalize decide (x < 0) = n1 at *
  generalize decide (y < 0) = n2 at *
  have HAB := Lib.hid (Int.natAbs_mul x y)
  go_enter Tryz.func58, Tryz.ntmps58
  go_wp2_with fail
  refine Wg.wp_region_first (C := fun w' => Keeps (fun _ => False) w w') (by kernel_rfl) 19 ?_
  have hk0 : Keeps (fun _ => False) w { w with drawn := w.drawn + 1 } := (Keeps.refl _ w).drew
  generalize { w with drawn := w.drawn + 1 } = W at *
  apply Wg.wpAnyP_stays (by kernel_rfl) [0, 1, 2, 3, 4, 5, 6, 7, 8, 9, 10, 11, 12, 13, 14, 15, 16, 17] _ _ _ 3 _ hk0 (by kernel_rfl) ?hs ?hr
  case hs =>
    repeat (apply Wg.wpStays_step rfl rfl; (intro w' hw'; obtain ⟨d0, d1, d2, d3⟩ := HC.out w' hw'; clear hw'; go_simp; exact ⟨rfl, rfl⟩); go_simp)
    exact rfl
  case hr =>
    apply Wg.wpAnyP_one (i := 18) (fuel := 2) (by kernel_rfl) rfl rfl
    have hc := HT.out _ hk0
    go_simp
    refine Wg.plain_call hc ?_
    rintro e w1 ⟨v', rfl, hn1, hk1⟩
    have hk2 := hk0.trans hk1 (fun _ h => .inl h)
    refine ⟨_, rfl, hk2, ?_⟩
    apply Wg.wpAnyP_one (i := 19) (fuel := 1) (by kernel_rfl) rfl rfl
    have hg := give_any (neg := n1 != n2) hn1 (S0.out.later hk2) (S1.out.later hk2)
    go_simp
    refine Wg.plain_call hg ?_
    rintro e w2 ⟨rfl, hw2⟩
    subst hw2
    refine ⟨_, rfl, trivial, ?_⟩
    apply Wg.wpAnyP_one (i := 20) (fuel := 0) (by kernel_rfl) rfl rfl
    go_simp
    refine ⟨trivial, by kernel_rfl, ?_⟩
    go_simp
    go_wp2_with fail
    go_ret
    exact ⟨rfl, gave_of hk2 hn1 HAB.out.symm HSG.out⟩

end Go.Proofs.YtnihfhfakadepaaGreatDoor
