/- The document's answer, chapter 15: its small functions, walked. -/
import Derived.Test.YtibjbpakbfodaaaWrong
namespace Go.Proofs.Ytibjbpakbfodaaa
open Go.RowKit

def withinB (n low high : Int) : Bool := decide (low ≤ n) && decide (n ≤ high)

set_option maxHeartbeats 2000000 in
theorem within_any {w : World} (n low high : Int) :
    Calls Try.prog 55 #[.int .i64 n, .int .i64 low, .int .i64 high] w fun e w' => e = .returned (.bool (withinB n low high)) ∧ w' = w := by
  go_enter Try.func55, Try.ntmps55
  by_cases h1 : low ≤ n
  · by_cases h2 : n ≤ high
    · go_wp2
      go_ret
      unfold withinB; simp [h1, h2]
    · go_wp2
      go_ret
      unfold withinB; simp [h1, h2]
  · go_wp2
    go_ret
    refine ⟨ret_bool ?_, rfl⟩
    unfold withinB; rw [decide_eq_false (by omega)]; rfl

set_option maxHeartbeats 2000000 in
theorem at_any {w : World} {S : Nat → Prop} {lv : Value} {l : List Itm} (h : Sl w S lv 2 (itemCells l)) (i : Int) (hl : l.length ≤ 2000000) :
    Calls Try.prog 51 #[lv, .int .i64 i] w fun e w' => e = .returned (.int .i64 (termAt l i)) ∧ w' = w := by
  obtain ⟨A, n, c, rfl, hn, hc1, hc2, hcell⟩ := h
  obtain rfl : n = l.length := by rw [itemCells_length] at hn; omega
  by_cases h1 : i < 1
  · have H : Hid (termAt l i = 0) := Lib.hid (if_pos h1)
    clear hcell hn hc2 hc1
    go_enter Try.func51, Try.ntmps51
    go_wp2
    go_ret
    exact ⟨ret_int H.out.symm, rfl⟩
  · by_cases h2 : (l.length : Int) < i
    · have H : Hid (termAt l i = 0) := Lib.hid (by unfold termAt; rw [if_neg h1, List.getElem?_eq_none (by omega)]; rfl)
      clear hcell hn hc2 hc1
      go_enter Try.func51, Try.ntmps51
      go_wp2
      go_ret
      exact ⟨ret_int H.out.symm, rfl⟩
    · have hsl : Sl w S (.slice A l.length c) 2 (itemCells l) := ⟨A, l.length, c, rfl, hn, hc1, hc2, hcell⟩
      obtain ⟨k, rfl⟩ : ∃ k : Nat, i = k + 1 := ⟨(i - 1).toNat, by omega⟩
      have hk : k < l.length := by omega
      obtain ⟨b, off, rfl, hbS, i1, i2⟩ := hsl.item' hk
      have H : Hid (termAt l (k + 1) = l[k].term) := Lib.hid (by unfold termAt; rw [if_neg h1, show ((k : Int) + 1 - 1).toNat = k from by omega, List.getElem?_eq_getElem hk]; rfl)
      clear hcell hn hc2 hc1 hsl hbS i2
      generalize l[k].term = z at *
      go_enter Try.func51, Try.ntmps51
      go_wp2
      go_ret
      exact ⟨ret_int H.out.symm, rfl⟩

set_option maxHeartbeats 2000000 in
theorem most_any {w : World} (x : NodV) (k : Int) (hk : 0 ≤ k) (hk2 : k ≤ 2000000) (h1 : 0 ≤ x.n.n) (h5 : x.n.n ≤ 5) :
    Calls Try.prog 89 #[.agg (nodCells x).toArray, .int .i64 k] w fun e w' => e = .returned (.bool (decide (x.n.n < 2 * k))) ∧ Keeps (fun _ => False) w w' := by
  obtain ⟨n, lv, vv, nv, mv⟩ := x
  simp only [nodCells] at *
  have HK := Lib.hid ((Keeps.refl (fun _ => False) w).alloc (.cells #[.int .i64 n.id, .int .i64 n.n, .int .i64 n.term, .int .i64 n.vote, lv, .int .i64 n.commit, .int .i64 n.role, .int .i64 n.boss, vv, nv, mv] 25))
  go_enter Try.func89, Try.ntmps89
  go_wp2
  go_ret
  refine ⟨ret_bool ?_, HK.out⟩
  apply Bool.eq_iff_iff.2
  simp only [decide_eq_true_eq]
  omega

set_option maxRecDepth 100000 in
set_option maxHeartbeats 2000000 in
theorem with_any {w : World} {S : Nat → Prop} {v : Value} {l : List Int} (h : Sl w S v 1 (intCells l)) (i : Nat) (hi : i < l.length) (hl : l.length ≤ 1000) (x : Int) :
    Calls Try.prog 93 #[v, .int .i64 (i : Int), .int .i64 x] w fun e w' => ∃ A c, e = .returned (.slice A l.length c) ∧ Sl w' (fun k => k < w.heap.size) (.slice A l.length c) 1 (intCells (l.set i x)) ∧ Keeps (fun _ => False) w w' := by
  obtain ⟨i0, hi0, hz, hsz, hby⟩ := info_parts Try.info3
  have HI := Lib.hid hi0; have HZ := Lib.hid hz; have HS := Lib.hid hsz; have HB := Lib.hid hby
  obtain ⟨A, n, c, rfl, hn, hc1, hc2, hcell⟩ := h
  obtain rfl : n = l.length := by rw [intCells_length] at hn; omega
  obtain ⟨b, off, rfl, hbS, hcell⟩ := hcell (by rw [hn]; omega)
  have HL := Lib.hid hn
  have H1 := Lib.hid (show ∀ u ∈ intCells l, u.oneCell' = true from fun u hu => by
    simp only [intCells, List.mem_map] at hu
    obtain ⟨z, _, rfl⟩ := hu
    rfl)
  have HC := Lib.hid (show ∀ j u, (intCells l)[j]? = some u → w.cell? ((⟨b, off, none⟩ : Addr).add j) = some u from fun j u hj => by rw [Addr.add_lit]; exact hcell j u hj)
  clear hi0 hz hsz hby hcell hn hc1 hc2 hbS
  generalize hm : l.length = m at *
  have HM := Lib.hid hm
  clear hm
  go_enter Try.func93, Try.ntmps93
  go_upto_region 2 with (at_builtin; (refine wpList_append_own _ rfl _ _ 23 rfl w.heap.size 3 i0 _ 1 8 Try.underlying23 HI.out HZ.out HS.out HB.out rfl (by decide) (.slice (some ⟨w.heap.size, 0, none⟩) 0 0) 0 [] rfl (World.ownsRow_lit _ _ 0 (by simp) (by simp [maxLen]) (by simp)) ⟨b, off, none⟩ m c (intCells l) rfl HL.out ?c1 H1.out ?c2 ?c3 ?c4 ?_; (case c1 => (intro j u hj; exact ((Keeps.refl (fun _ => False) w).alloc _).cellA (fun h => h) (HC.out j u hj))); (case c2 => (simp [maxLen]; omega)); (case c3 => omega); (case c4 => simp); intro v' w1 hown hgrow _; clear HC))
  have ho : w1.ownsRow w.heap.size 3 1 v' m (intCells l) := by simpa using hown
  obtain ⟨g, cap, rfl, _, _⟩ := ho.form (by omega)
  have hg : w.heap.size ≤ g := (ho.lt g rfl).1
  have K1 := Lib.hid (((Keeps.refl (fun _ => False) w).alloc (.cells #[] 3)).trans (S' := fun k => k = w.heap.size) (Keeps.of_grown hgrow (fun k hk => .inl (by simp [Value.ownBlock] at hk; exact hk.symm))) (fun k hk => .inr (by omega)))
  have hc0 : w1.cell? ⟨g, i, none⟩ = some (.int .i64 (l[i]'(HM.out ▸ hi))) := by
    rw [ho.cellAt i (by omega)]
    simp only [intCells, List.getElem?_map, List.getElem?_eq_getElem (HM.out ▸ hi)]
    rfl
  have hf0 := ho.frozenAt i
  obtain ⟨s1, s2⟩ := ho.stored i (.int .i64 x)
  have S1 := Lib.hid s1
  have K2 := Lib.hid (K1.out.setCell (p := ⟨g, i, none⟩) (.inr hg) (.int .i64 x))
  clear s1 s2 hown hgrow ho HL
  go_wp2_with fail
  go_ret
  refine ⟨some ⟨g, 0, none⟩, cap, rfl, ?_, K2.out⟩
  have e : intCells (l.set i x) = (intCells l).set i (.int .i64 x) := by simp [intCells]
  rw [e]
  exact Sl.of_own S1.out fun g hg h => by have := (S1.out.lt g hg).1; omega

set_option maxRecDepth 100000 in
set_option maxHeartbeats 2000000 in
theorem copy_any {w : World} (x : Int) (n : Nat) (hn : n ≤ 1000) :
    Calls Try.prog 90 #[.int .i64 x, .int .i64 (n : Int)] w fun e w' => ∃ A c, e = .returned (.slice A n c) ∧ Sl w' (fun k => k < w.heap.size) (.slice A n c) 1 (intCells (List.replicate n x)) ∧ Keeps (fun _ => False) w w' := by
  obtain ⟨i0, hi0, hz, hsz, hby⟩ := info_parts Try.info3
  have HI := Lib.hid hi0; have HZ := Lib.hid hz; have HS := Lib.hid hsz; have HB := Lib.hid hby
  clear hi0 hz hsz hby
  go_enter Try.func90, Try.ntmps90
  go_wp2_with fail
  go_loopw [1, 5] (fun i o wr => ∃ (k : Nat), k ≤ n ∧ i = .int .i64 ((n - k : Nat) : Int) ∧ wr.ownsRow w.heap.size 3 1 o k (intCells (List.replicate k x)) ∧ Keeps (fun _ => False) w wr) (fun i o _ => (intOf i).toNat)
  case atStart => exact ⟨0, Nat.zero_le _, rfl, World.ownsRow_nil _ _ _ _, Keeps.refl _ _⟩
  case round =>
    obtain ⟨k, hk, rfl, ho, hkp⟩ := hrel
    have HO := Lib.hid ho; have HK := Lib.hid hkp
    obtain ⟨A, c, rfl, hc1, hc2⟩ := own_slice ho
    clear ho hkp hc1 hc2
    by_cases hlt : k < n
    · obtain ⟨d, hd⟩ : ∃ d, n - k = d + 1 := ⟨n - k - 1, by omega⟩
      rw [hd]
      have hw1 := Lib.hid (heap_alloc_new wr (.cells #[.int .i64 x] 3))
      have HK1 := Lib.hid (HK.out.alloc (.cells #[.int .i64 x] 3))
      go_wp2_with (at_builtin; (refine wpList_append_own _ rfl _ _ 23 rfl w.heap.size 3 i0 _ 1 8 Try.underlying23 HI.out HZ.out HS.out HB.out rfl (by decide) (.slice A k c) k (intCells (List.replicate k x)) rfl (HO.out.alloc _) ⟨wr.heap.size, 0, none⟩ 1 1 [.int .i64 x] rfl rfl (World.news_of_block (cs := #[.int .i64 x]) (t := 3) (fr := (0, 0)) hw1.out) (by simp [Value.oneCell']) ?c2 ?c3 ?c4 ?_; (case c2 => (simp [maxLen]; omega)); (case c3 => omega); (case c4 => (have := HK.out.size; simp; omega)); intro v' w1 hown hgrow _))
      have hl1 : intCells (List.replicate (k + 1) x) = intCells (List.replicate k x) ++ [.int .i64 x] := by simp [intCells, List.replicate_succ']
      have HO1 := Lib.hid hown
      have HK2 := Lib.hid (HK1.out.trans (S' := fun g => (Value.slice A k c).ownBlock = some g) (Keeps.of_grown hgrow fun g hg => .inl hg) fun g hg => .inr (HO.out.lt g hg).1)
      have HL1 := Lib.hid hl1
      clear hown hgrow hl1
      go_roundw
      case measure => simp [intOf]
      case rel => exact ⟨k + 1, by omega, by go_num, by rw [HL1.out]; exact HO1.out, HK2.out⟩
    · have hkn : k = n := by omega
      subst hkn
      rw [Nat.sub_self]
      go_wp2_with fail
      go_ret
      exact ⟨_, _, rfl, Sl.of_own HO.out fun g hg h => by have := (HO.out.lt g hg).1; omega, HK.out⟩

theorem riseTo_le : ∀ (l : List Itm) (a r : Int), riseTo a l = some r → a ≤ r
  | [], a, r, h => by simp [riseTo] at h; omega
  | x :: t, a, r, h => by
    simp only [riseTo] at h
    split at h
    · cases h
    · have := riseTo_le t _ _ h; omega

/-- Do the terms of a list rise, from one on and up to a given one, none of them above it? -/
def risesB (l : List Itm) (most : Int) : Bool := rising l most && (decide (l.length = 0) || decide (1 ≤ most))

theorem risesB_no {l : List Itm} {most last : Int} {j : Nat} (hj : j < l.length) (hr : riseTo 1 l = riseTo last (l.drop j)) (hb : l[j].term < last ∨ most < l[j].term) : risesB l most = false := by
  have hdr : l.drop j = l[j] :: l.drop (j + 1) := List.drop_eq_getElem_cons hj
  unfold risesB rising
  rw [hr, hdr]
  simp only [riseTo]
  by_cases h : l[j].term < last
  · simp [h]
  · simp only [h, if_false]
    cases h2 : riseTo l[j].term (l.drop (j + 1)) with
    | none => rfl
    | some r =>
      have := riseTo_le _ _ _ h2
      by_cases h3 : 1 ≤ most
      · simp only [Bool.and_eq_false_iff, decide_eq_false_iff_not]
        left; omega
      · simp only [Bool.and_eq_false_iff, Bool.or_eq_false_iff, decide_eq_false_iff_not]
        right
        exact ⟨by omega, by omega⟩

theorem risesB_yes {l : List Itm} {most last : Int} (hr : riseTo 1 l = some last) (hb : l.length = 0 ∨ last ≤ most) (h1 : 1 ≤ last) : risesB l most = true := by
  unfold risesB rising
  rw [hr]
  simp only [Bool.and_eq_true, Bool.or_eq_true, decide_eq_true_eq]
  rcases hb with h | h
  · have : l = [] := List.eq_nil_of_length_eq_zero h
    subst this
    simp [riseTo] at hr
    exact ⟨by omega, .inl rfl⟩
  · exact ⟨by omega, .inr (by omega)⟩

set_option maxRecDepth 100000 in
set_option maxHeartbeats 2000000 in
theorem rises_any {w : World} {S : Nat → Prop} {lv : Value} {l : List Itm} (h : Sl w S lv 2 (itemCells l)) (hl : l.length ≤ 2000000) (most : Int) :
    Calls Try.prog 56 #[lv, .int .i64 most] w fun e w' => e = .returned (.bool (risesB l most)) ∧ Keeps (fun _ => False) w w' := by
  obtain ⟨A, n, c, rfl, hn, hc1, hc2, hcell⟩ := h
  obtain rfl : n = l.length := by rw [itemCells_length] at hn; omega
  have H := Lib.hid (show Sl w S (.slice A l.length c) 2 (itemCells l) from ⟨A, l.length, c, rfl, hn, hc1, hc2, hcell⟩)
  clear hcell hn hc2
  go_enter Try.func56, Try.ntmps56
  go_wp2_with fail
  go_loopw [9] (fun i wr => ∃ (j : Nat) (last : Int), j ≤ l.length ∧ i = .int .i64 j ∧ riseTo 1 l = riseTo last (l.drop j) ∧ 1 ≤ last ∧ (∀ h : j - 1 < l.length, 0 < j → last = l[j - 1].term) ∧ (0 < j → last ≤ most) ∧ (j = 0 → last = 1) ∧ Keeps (fun _ => False) w wr) (fun i _ => l.length - (intOf i).toNat)
  case atStart => exact ⟨0, 1, by omega, rfl, rfl, by omega, fun _ h => by omega, fun h => by omega, fun _ => rfl, Keeps.refl _ _⟩
  case round =>
    obtain ⟨j, last, hj, rfl, hr, h1, hlast, hm, hz, hk⟩ := hrel
    have HR := Lib.hid hr; have HK := Lib.hid hk; have HM := Lib.hid hm; have HLT := Lib.hid hlast; have HO := Lib.hid h1; have HZ := Lib.hid hz
    have hsl := (H.out.keep hk (fun _ _ h => h.elim))
    clear hr hk hm hlast h1 hz
    by_cases hlt : j < l.length
    · obtain ⟨b, off, rfl, hbS, i1, i2⟩ := hsl.item' hlt
      have hbl := cell_lt i1
      have hno := Lib.hid (fun h => risesB_no (most := most) hlt HR.out h)
      have hdr : l.drop j = l[j] :: l.drop (j + 1) := List.drop_eq_getElem_cons hlt
      have hgo := Lib.hid (fun h : ¬ l[j].term < last => show riseTo 1 l = riseTo l[j].term (l.drop (j + 1)) by rw [HR.out, hdr]; simp only [riseTo, if_neg h])
      clear hdr
      rcases Nat.eq_zero_or_pos j with h0 | h0
      · subst h0
        generalize hit : l[0] = it at *
        have hlj := Lib.hid (fun h : (0 + 1) - 1 < l.length => show it.term = l[(0 + 1) - 1].term from congrArg Itm.term hit.symm)
        clear hit
        obtain ⟨tt, tc⟩ := it
        simp only [Nat.zero_mul, Nat.add_zero] at i1 i2
        have K1 := Lib.hid ((Keeps.refl (fun _ => False) wr).alloc (.cells #[.int .i64 tt, .int .i64 tc] 44))
        have hl1 := Lib.hid (HZ.out rfl)
        by_cases a1 : tt < 1
        · go_upto_region 4 with fail
          go_quiet (fail)
          go_wp2_with fail
          go_ret
          exact ⟨ret_bool (hno.out (by have := HO.out; show tt < last ∨ most < tt; omega)).symm, HK.out.trans (K1.out.drewN _) (fun _ h => .inl h)⟩
        · by_cases a2 : most < tt
          · go_upto_region 4 with fail
            go_quiet (fail)
            go_wp2_with fail
            go_ret
            exact ⟨ret_bool (hno.out (.inr a2)).symm, HK.out.trans (K1.out.drewN _) (fun _ h => .inl h)⟩
          · go_upto_region 4 with fail
            go_quiet (fail)
            go_wp2_with fail
            go_roundw
            case measure => simp [intOf]; omega
            case rel => exact ⟨1, tt, by omega, rfl, hgo.out (by have := hl1.out; show ¬ tt < last; omega), by omega, fun h _ => hlj.out h, fun _ => by omega, fun h => by omega, HK.out.trans (K1.out.drewN _) (fun _ h => .inl h)⟩
      · obtain ⟨b', off', e, _, k1, _⟩ := hsl.item' (j := j - 1) (by omega)
        injection e with e
        injection e with e1 e2
        subst e1 e2
        rw [← HLT.out (by omega) h0] at k1
        obtain ⟨q, rfl⟩ : ∃ q, j = q + 1 := ⟨j - 1, by omega⟩
        simp only [Nat.add_sub_cancel] at k1
        generalize hit : l[q + 1] = it at *
        have hlj := Lib.hid (fun h : (q + 1 + 1) - 1 < l.length => show it.term = l[(q + 1 + 1) - 1].term from congrArg Itm.term hit.symm)
        clear hit
        obtain ⟨tt, tc⟩ := it
        simp only at i1 i2
        have K1 := Lib.hid ((Keeps.refl (fun _ => False) wr).alloc (.cells #[.int .i64 tt, .int .i64 tc] 44))
        by_cases a1 : tt < 1
        · go_upto_region 4 with fail
          go_quiet (fail)
          go_wp2_with fail
          go_ret
          exact ⟨ret_bool (hno.out (by have := HO.out; show tt < last ∨ most < tt; omega)).symm, HK.out.trans (K1.out.drewN _) (fun _ h => .inl h)⟩
        · by_cases a2 : most < tt
          · go_upto_region 4 with fail
            go_quiet (fail)
            go_wp2_with fail
            go_ret
            exact ⟨ret_bool (hno.out (.inr a2)).symm, HK.out.trans (K1.out.drewN _) (fun _ h => .inl h)⟩
          · by_cases a3 : tt < last
            · go_upto_region 4 with fail
              go_quiet (fail)
              go_wp2_with fail
              go_ret
              exact ⟨ret_bool (hno.out (.inl a3)).symm, HK.out.trans (K1.out.drewN _) (fun _ h => .inl h)⟩
            · go_upto_region 4 with fail
              go_quiet (fail)
              go_wp2_with fail
              go_roundw
              case measure => simp [intOf]; omega
              case rel => exact ⟨q + 1 + 1, tt, by omega, by go_num, hgo.out a3, by omega, fun h _ => hlj.out h, fun _ => by omega, fun h => by omega, HK.out.trans (K1.out.drewN _) (fun _ h => .inl h)⟩
    · have hj' : j = l.length := by omega
      subst hj'
      have hres := Lib.hid (risesB_yes (l := l) (most := most) (last := last) (by rw [HR.out, List.drop_length]; rfl) (by rcases Nat.eq_zero_or_pos l.length with h | h; exact .inl h; exact .inr (HM.out h)) HO.out)
      clear hsl
      go_wp2
      go_ret
      exact ⟨ret_bool hres.out.symm, HK.out⟩

set_option maxRecDepth 100000 in
set_option maxHeartbeats 2000000 in
theorem sameInts_any {w : World} {S : Nat → Prop} {v1 v2 : Value} {l : List Int} (h1 : Sl w S v1 1 (intCells l)) (h2 : Sl w S v2 1 (intCells l)) (hl : l.length ≤ 2000000) :
    Calls Try.prog 64 #[v1, v2] w fun e w' => e = .returned (.bool true) ∧ Keeps (fun _ => False) w w' := by
  obtain ⟨A, n, c, rfl, hn, hc1, hc2, hcell⟩ := h1
  obtain ⟨A2, n2, c', rfl, hn2, hc12, hc22, hcell2⟩ := h2
  obtain rfl : n = l.length := by rw [intCells_length] at hn; omega
  obtain rfl : n2 = l.length := by rw [intCells_length] at hn2; omega
  have H := Lib.hid (show Sl w S (.slice A l.length c) 1 (intCells l) from ⟨A, l.length, c, rfl, hn, hc1, hc2, hcell⟩)
  have H2 := Lib.hid (show Sl w S (.slice A2 l.length c') 1 (intCells l) from ⟨A2, l.length, c', rfl, hn2, hc12, hc22, hcell2⟩)
  clear hcell hcell2 hn hn2 hc2 hc22 hc1 hc12
  go_enter Try.func64, Try.ntmps64
  go_wp2_with fail
  go_loopw [13] (fun i wr => ∃ (j : Nat), j ≤ l.length ∧ i = .int .i64 j ∧ Keeps (fun _ => False) w wr) (fun i _ => match i with | .int _ j => l.length - j.toNat | _ => 0)
  case atStart => exact ⟨0, by omega, rfl, Keeps.refl _ _⟩
  case round =>
    obtain ⟨j, hj, rfl, hk⟩ := hrel
    have HK := Lib.hid hk
    have hsl := (H.out.keep hk (fun _ _ h => h.elim))
    have hsl2 := (H2.out.keep hk (fun _ _ h => h.elim))
    clear hk
    by_cases hlt : j < l.length
    · obtain ⟨b, off, rfl, hbS, i1⟩ := hsl.int hlt
      obtain ⟨b2, off2, rfl, hbS2, k1⟩ := hsl2.int hlt
      clear hsl hsl2 hbS hbS2
      generalize l[j] = it at *
      go_upto_region 6 with fail
      go_quiet (fail)
      go_wp2_with fail
      go_roundw
      case measure => simp only; omega
      case rel => exact ⟨j + 1, by omega, by go_num, HK.out.trans ((Keeps.refl _ _).drewN _) (fun _ h => .inl h)⟩
    · have hj' : j = l.length := by omega
      subst hj'
      clear hsl hsl2
      go_wp2
      go_ret
      exact ⟨rfl, HK.out⟩

set_option maxRecDepth 100000 in
set_option maxHeartbeats 2000000 in
theorem sameItems_any {w : World} {S : Nat → Prop} {v1 v2 : Value} {l : List Itm} (h1 : Sl w S v1 2 (itemCells l)) (h2 : Sl w S v2 2 (itemCells l)) (hl : l.length ≤ 2000000) :
    Calls Try.prog 34 #[v1, v2] w fun e w' => e = .returned (.bool true) ∧ Keeps (fun _ => False) w w' := by
  obtain ⟨A, n, c, rfl, hn, hc1, hc2, hcell⟩ := h1
  obtain ⟨A2, n2, c', rfl, hn2, hc12, hc22, hcell2⟩ := h2
  obtain rfl : n = l.length := by rw [itemCells_length] at hn; omega
  obtain rfl : n2 = l.length := by rw [itemCells_length] at hn2; omega
  have H := Lib.hid (show Sl w S (.slice A l.length c) 2 (itemCells l) from ⟨A, l.length, c, rfl, hn, hc1, hc2, hcell⟩)
  have H2 := Lib.hid (show Sl w S (.slice A2 l.length c') 2 (itemCells l) from ⟨A2, l.length, c', rfl, hn2, hc12, hc22, hcell2⟩)
  clear hcell hcell2 hn hn2 hc2 hc22 hc1 hc12
  go_enter Try.func34, Try.ntmps34
  go_wp2_with fail
  go_loopw [13] (fun i wr => ∃ (j : Nat), j ≤ l.length ∧ i = .int .i64 j ∧ Keeps (fun _ => False) w wr) (fun i _ => match i with | .int _ j => l.length - j.toNat | _ => 0)
  case atStart => exact ⟨0, by omega, rfl, Keeps.refl _ _⟩
  case round =>
    obtain ⟨j, hj, rfl, hk⟩ := hrel
    have HK := Lib.hid hk
    have hsl := (H.out.keep hk (fun _ _ h => h.elim))
    have hsl2 := (H2.out.keep hk (fun _ _ h => h.elim))
    clear hk
    by_cases hlt : j < l.length
    · obtain ⟨b, off, rfl, hbS, i1, i2⟩ := hsl.item' hlt
      obtain ⟨b2, off2, rfl, hbS2, k1, k2⟩ := hsl2.item' hlt
      clear hsl hsl2 hbS hbS2
      generalize l[j] = it at *
      obtain ⟨tt, tc⟩ := it
      simp only at i1 i2 k1 k2
      go_upto_region 6 with fail
      go_quiet (fail)
      go_wp2_with fail
      go_roundw
      case measure => simp only; omega
      case rel => exact ⟨j + 1, by omega, by go_num, HK.out.trans ((Keeps.refl _ _).drewN _) (fun _ h => .inl h)⟩
    · have hj' : j = l.length := by omega
      subst hj'
      clear hsl hsl2
      go_wp2
      go_ret
      exact ⟨rfl, HK.out⟩
end Go.Proofs.Ytibjbpakbfodaaa
