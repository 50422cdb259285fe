/- The document's answer, chapter 15: its small functions, walked. The document's answer, chapter 15: a node that follows. The document's answer, chapter 15: are two nodes, or two rows of messages, the same? The document's answer, chapter 15: where it counts in another way than the plain model, the two are equal. Plain laws, no walk. The document's answer, chapter 15: what is wrong with a node: the same, test by test. Plain laws, no walk. -/
import Derived.Test.YtibjbpakbfodaaaWrong
import Derived.Test.YtibjbpakbfodaaaXExpa
import Derived.Test.YtibjbpakbfodaaaXPureC
namespace Go.Proofs.Ytibjbpakbfodaaa
open Go.RowKit

def withinB (n low high : Int) : Bool := decide (low ≤ n) && decide (n ≤ high)

set_option maxHeartbeats 2000000 in
theorem within_any {w : World} (n low high : Int) :
    Calls Try.prog 55 #[.int .i64 n, .int .i64 low, .int .i64 high] w fun e w' => e = .returned (.bool (withinB n low high)) ∧ w' = w := by
  go_enter Try.func55, Try.ntmps55
  by_cases h1 : low ≤ n
  · by_cases h2 : n ≤ high
    · go_wp2
      go_ret
      unfold withinB; simp [h1, h2]
    · go_wp2
      go_ret
      unfold withinB; simp [h1, h2]
  · go_wp2
    go_ret
    refine ⟨ret_bool ?_, rfl⟩
    unfold withinB; rw [decide_eq_false (by omega)]; rfl

set_option maxHeartbeats 2000000 in
theorem at_any {w : World} {S : Nat → Prop} {lv : Value} {l : List Itm} (h : Sl w S lv 2 (itemCells l)) (i : Int) (hl : l.length ≤ 2000000) :
    Calls Try.prog 51 #[lv, .int .i64 i] w fun e w' => e = .returned (.int .i64 (termAt l i)) ∧ w' = w := by
  obtain ⟨A, n, c, rfl, hn, hc1, hc2, hcell⟩ := h
  obtain rfl : n = l.length := by rw [itemCells_length] at hn; omega
  by_cases h1 : i < 1
  · have H : Hid (termAt l i = 0) := Lib.hid (if_pos h1)
    clear hcell hn hc2 hc1
    go_enter Try.func51, Try.ntmps51
    go_wp2
    go_ret
    exact ⟨ret_int H.out.symm, rfl⟩
  · by_cases h2 : (l.length : Int) < i
    · have H : Hid (termAt l i = 0) := Lib.hid (by unfold termAt; rw [if_neg h1, List.getElem?_eq_none (by omega)]; rfl)
      clear hcell hn hc2 hc1
      go_enter Try.func51, Try.ntmps51
      go_wp2
      go_ret
      exact ⟨ret_int H.out.symm, rfl⟩
    · have hsl : Sl w S (.slice A l.length c) 2 (itemCells l) := ⟨A, l.length, c, rfl, hn, hc1, hc2, hcell⟩
      obtain ⟨k, rfl⟩ : ∃ k : Nat, i = k + 1 := ⟨(i - 1).toNat, by omega⟩
      have hk : k < l.length := by omega
      obtain ⟨b, off, rfl, hbS, i1, i2⟩ := hsl.item' hk
      have H : Hid (termAt l (k + 1) = l[k].term) := Lib.hid (by unfold termAt; rw [if_neg h1, show ((k : Int) + 1 - 1).toNat = k from by omega, List.getElem?_eq_getElem hk]; rfl)
      clear hcell hn hc2 hc1 hsl hbS i2
      generalize l[k].term = z at *
      go_enter Try.func51, Try.ntmps51
      go_wp2
      go_ret
      exact ⟨ret_int H.out.symm, rfl⟩

set_option maxHeartbeats 2000000 in
theorem most_any {w : World} (x : NodV) (k : Int) (hk : 0 ≤ k) (hk2 : k ≤ 2000000) (h1 : 0 ≤ x.n.n) (h5 : x.n.n ≤ 5) :
    Calls Try.prog 89 #[.agg (nodCells x).toArray, .int .i64 k] w fun e w' => e = .returned (.bool (decide (x.n.n < 2 * k))) ∧ Keeps (fun _ => False) w w' := by
  obtain ⟨n, lv, vv, nv, mv⟩ := x
  simp only [nodCells] at *
  have HK := Lib.hid ((Keeps.refl (fun _ => False) w).alloc (.cells #[.int .i64 n.id, .int .i64 n.n, .int .i64 n.term, .int .i64 n.vote, lv, .int .i64 n.commit, .int .i64 n.role, .int .i64 n.boss, vv, nv, mv] 25))
  go_enter Try.func89, Try.ntmps89
  go_wp2
  go_ret
  refine ⟨ret_bool ?_, HK.out⟩
  apply Bool.eq_iff_iff.2
  simp only [decide_eq_true_eq]
  omega

set_option maxRecDepth 100000 in
set_option maxHeartbeats 2000000 in
theorem with_any {w : World} {S : Nat → Prop} {v : Value} {l : List Int} (h : Sl w S v 1 (intCells l)) (i : Nat) (hi : i < l.length) (hl : l.length ≤ 1000) (x : Int) :
    Calls Try.prog 93 #[v, .int .i64 (i : Int), .int .i64 x] w fun e w' => ∃ A c, e = .returned (.slice A l.length c) ∧ Sl w' (fun k => k < w.heap.size) (.slice A l.length c) 1 (intCells (l.set i x)) ∧ Keeps (fun _ => False) w w' := by
  obtain ⟨i0, hi0, hz, hsz, hby⟩ := info_parts Try.info3
  have HI := Lib.hid hi0; have HZ := Lib.hid hz; have HS := Lib.hid hsz; have HB := Lib.hid hby
  obtain ⟨A, n, c, rfl, hn, hc1, hc2, hcell⟩ := h
  obtain rfl : n = l.length := by rw [intCells_length] at hn; omega
  obtain ⟨b, off, rfl, hbS, hcell⟩ := hcell (by rw [hn]; omega)
  have HL := Lib.hid hn
  have H1 := Lib.hid (show ∀ u ∈ intCells l, u.oneCell' = true from fun u hu => by
    simp only [intCells, List.mem_map] at hu
    obtain ⟨z, _, rfl⟩ := hu
    rfl)
  have HC := Lib.hid (show ∀ j u, (intCells l)[j]? = some u → w.cell? ((⟨b, off, none⟩ : Addr).add j) = some u from fun j u hj => by rw [Addr.add_lit]; exact hcell j u hj)
  clear hi0 hz hsz hby hcell hn hc1 hc2 hbS
  generalize hm : l.length = m at *
  have HM := Lib.hid hm
  clear hm
  go_enter Try.func93, Try.ntmps93
  go_upto_region 2 with (at_builtin; (refine wpList_append_own _ rfl _ _ 23 rfl w.heap.size 3 i0 _ 1 8 Try.underlying23 HI.out HZ.out HS.out HB.out rfl (by decide) (.slice (some ⟨w.heap.size, 0, none⟩) 0 0) 0 [] rfl (World.ownsRow_lit _ _ 0 (by simp) (by simp [maxLen]) (by simp)) ⟨b, off, none⟩ m c (intCells l) rfl HL.out ?c1 H1.out ?c2 ?c3 ?c4 ?_; (case c1 => (intro j u hj; exact ((Keeps.refl (fun _ => False) w).alloc _).cellA (fun h => h) (HC.out j u hj))); (case c2 => (simp [maxLen]; omega)); (case c3 => omega); (case c4 => simp); intro v' w1 hown hgrow _; clear HC))
  have ho : w1.ownsRow w.heap.size 3 1 v' m (intCells l) := by simpa using hown
  obtain ⟨g, cap, rfl, _, _⟩ := ho.form (by omega)
  have hg : w.heap.size ≤ g := (ho.lt g rfl).1
  have K1 := Lib.hid (((Keeps.refl (fun _ => False) w).alloc (.cells #[] 3)).trans (S' := fun k => k = w.heap.size) (Keeps.of_grown hgrow (fun k hk => .inl (by simp [Value.ownBlock] at hk; exact hk.symm))) (fun k hk => .inr (by omega)))
  have hc0 : w1.cell? ⟨g, i, none⟩ = some (.int .i64 (l[i]'(HM.out ▸ hi))) := by
    rw [ho.cellAt i (by omega)]
    simp only [intCells, List.getElem?_map, List.getElem?_eq_getElem (HM.out ▸ hi)]
    rfl
  have hf0 := ho.frozenAt i
  obtain ⟨s1, s2⟩ := ho.stored i (.int .i64 x)
  have S1 := Lib.hid s1
  have K2 := Lib.hid (K1.out.setCell (p := ⟨g, i, none⟩) (.inr hg) (.int .i64 x))
  clear s1 s2 hown hgrow ho HL
  go_wp2_with fail
  go_ret
  refine ⟨some ⟨g, 0, none⟩, cap, rfl, ?_, K2.out⟩
  have e : intCells (l.set i x) = (intCells l).set i (.int .i64 x) := by simp [intCells]
  rw [e]
  exact Sl.of_own S1.out fun g hg h => by have := (S1.out.lt g hg).1; omega

set_option maxRecDepth 100000 in
set_option maxHeartbeats 2000000 in
theorem copy_any {w : World} (x : Int) (n : Nat) (hn : n ≤ 1000) :
    Calls Try.prog 90 #[.int .i64 x, .int .i64 (n : Int)] w fun e w' => ∃ A c, e = .returned (.slice A n c) ∧ Sl w' (fun k => k < w.heap.size) (.slice A n c) 1 (intCells (List.replicate n x)) ∧ Keeps (fun _ => False) w w' := by
  obtain ⟨i0, hi0, hz, hsz, hby⟩ := info_parts Try.info3
  have HI := Lib.hid hi0; have HZ := Lib.hid hz; have HS := Lib.hid hsz; have HB := Lib.hid hby
  clear hi0 hz hsz hby
  go_enter Try.func90, Try.ntmps90
  go_wp2_with fail
  go_loopw [1, 5] (fun i o wr => ∃ (k : Nat), k ≤ n ∧ i = .int .i64 ((n - k : Nat) : Int) ∧ wr.ownsRow w.heap.size 3 1 o k (intCells (List.replicate k x)) ∧ Keeps (fun _ => False) w wr) (fun i o _ => (intOf i).toNat)
  case atStart => exact ⟨0, Nat.zero_le _, rfl, World.ownsRow_nil _ _ _ _, Keeps.refl _ _⟩
  case round =>
    obtain ⟨k, hk, rfl, ho, hkp⟩ := hrel
    have HO := Lib.hid ho; have HK := Lib.hid hkp
    obtain ⟨A, c, rfl, hc1, hc2⟩ := own_slice ho
    clear ho hkp hc1 hc2
    by_cases hlt : k < n
    · obtain ⟨d, hd⟩ : ∃ d, n - k = d + 1 := ⟨n - k - 1, by omega⟩
      rw [hd]
      have hw1 := Lib.hid (heap_alloc_new wr (.cells #[.int .i64 x] 3))
      have HK1 := Lib.hid (HK.out.alloc (.cells #[.int .i64 x] 3))
      go_wp2_with (at_builtin; (refine wpList_append_own _ rfl _ _ 23 rfl w.heap.size 3 i0 _ 1 8 Try.underlying23 HI.out HZ.out HS.out HB.out rfl (by decide) (.slice A k c) k (intCells (List.replicate k x)) rfl (HO.out.alloc _) ⟨wr.heap.size, 0, none⟩ 1 1 [.int .i64 x] rfl rfl (World.news_of_block (cs := #[.int .i64 x]) (t := 3) (fr := (0, 0)) hw1.out) (by simp [Value.oneCell']) ?c2 ?c3 ?c4 ?_; (case c2 => (simp [maxLen]; omega)); (case c3 => omega); (case c4 => (have := HK.out.size; simp; omega)); intro v' w1 hown hgrow _))
      have hl1 : intCells (List.replicate (k + 1) x) = intCells (List.replicate k x) ++ [.int .i64 x] := by simp [intCells, List.replicate_succ']
      have HO1 := Lib.hid hown
      have HK2 := Lib.hid (HK1.out.trans (S' := fun g => (Value.slice A k c).ownBlock = some g) (Keeps.of_grown hgrow fun g hg => .inl hg) fun g hg => .inr (HO.out.lt g hg).1)
      have HL1 := Lib.hid hl1
      clear hown hgrow hl1
      go_roundw
      case measure => simp [intOf]
      case rel => exact ⟨k + 1, by omega, by go_num, by rw [HL1.out]; exact HO1.out, HK2.out⟩
    · have hkn : k = n := by omega
      subst hkn
      rw [Nat.sub_self]
      go_wp2_with fail
      go_ret
      exact ⟨_, _, rfl, Sl.of_own HO.out fun g hg h => by have := (HO.out.lt g hg).1; omega, HK.out⟩

theorem riseTo_le : ∀ (l : List Itm) (a r : Int), riseTo a l = some r → a ≤ r
  | [], a, r, h => by simp [riseTo] at h; omega
  | x :: t, a, r, h => by
    simp only [riseTo] at h
    split at h
    · cases h
    · have := riseTo_le t _ _ h; omega

/-- Do the terms of a list rise, from one on and up to a given one, none of them above it? -/
def risesB (l : List Itm) (most : Int) : Bool := rising l most && (decide (l.length = 0) || decide (1 ≤ most))

theorem risesB_no {l : List Itm} {most last : Int} {j : Nat} (hj : j < l.length) (hr : riseTo 1 l = riseTo last (l.drop j)) (hb : l[j].term < last ∨ most < l[j].term) : risesB l most = false := by
  have hdr : l.drop j = l[j] :: l.drop (j + 1) := List.drop_eq_getElem_cons hj
  unfold risesB rising
  rw [hr, hdr]
  simp only [riseTo]
  by_cases h : l[j].term < last
  · simp [h]
  · simp only [h, if_false]
    cases h2 : riseTo l[j].term (l.drop (j + 1)) with
    | none => rfl
    | some r =>
      have := riseTo_le _ _ _ h2
      by_cases h3 : 1 ≤ most
      · simp only [Bool.and_eq_false_iff, decide_eq_false_iff_not]
        left; omega
      · simp only [Bool.and_eq_false_iff, Bool.or_eq_false_iff, decide_eq_false_iff_not]
        right
        exact ⟨by omega, by omega⟩

theorem risesB_yes {l : List Itm} {most last : Int} (hr : riseTo 1 l = some last) (hb : l.length = 0 ∨ last ≤ most) (h1 : 1 ≤ last) : risesB l most = true := by
  unfold risesB rising
  rw [hr]
  simp only [Bool.and_eq_true, Bool.or_eq_true, decide_eq_true_eq]
  rcases hb with h | h
  · have : l = [] := List.eq_nil_of_length_eq_zero h
    subst this
    simp [riseTo] at hr
    exact ⟨by omega, .inl rfl⟩
  · exact ⟨by omega, .inr (by omega)⟩

set_option maxRecDepth 100000 in
set_option maxHeartbeats 2000000 in
theorem rises_any {w : World} {S : Nat → Prop} {lv : Value} {l : List Itm} (h : Sl w S lv 2 (itemCells l)) (hl : l.length ≤ 2000000) (most : Int) :
    Calls Try.prog 56 #[lv, .int .i64 most] w fun e w' => e = .returned (.bool (risesB l most)) ∧ Keeps (fun _ => False) w w' := by
  obtain ⟨A, n, c, rfl, hn, hc1, hc2, hcell⟩ := h
  obtain rfl : n = l.length := by rw [itemCells_length] at hn; omega
  have H := Lib.hid (show Sl w S (.slice A l.length c) 2 (itemCells l) from ⟨A, l.length, c, rfl, hn, hc1, hc2, hcell⟩)
  clear hcell hn hc2
  go_enter Try.func56, Try.ntmps56
  go_wp2_with fail
  go_loopw [9] (fun i wr => ∃ (j : Nat) (last : Int), j ≤ l.length ∧ i = .int .i64 j ∧ riseTo 1 l = riseTo last (l.drop j) ∧ 1 ≤ last ∧ (∀ h : j - 1 < l.length, 0 < j → last = l[j - 1].term) ∧ (0 < j → last ≤ most) ∧ (j = 0 → last = 1) ∧ Keeps (fun _ => False) w wr) (fun i _ => l.length - (intOf i).toNat)
  case atStart => exact ⟨0, 1, by omega, rfl, rfl, by omega, fun _ h => by omega, fun h => by omega, fun _ => rfl, Keeps.refl _ _⟩
  case round =>
    obtain ⟨j, last, hj, rfl, hr, h1, hlast, hm, hz, hk⟩ := hrel
    have HR := Lib.hid hr; have HK := Lib.hid hk; have HM := Lib.hid hm; have HLT := Lib.hid hlast; have HO := Lib.hid h1; have HZ := Lib.hid hz
    have hsl := (H.out.keep hk (fun _ _ h => h.elim))
    clear hr hk hm hlast h1 hz
    by_cases hlt : j < l.length
    · obtain ⟨b, off, rfl, hbS, i1, i2⟩ := hsl.item' hlt
      have hbl := cell_lt i1
      have hno := Lib.hid (fun h => risesB_no (most := most) hlt HR.out h)
      have hdr : l.drop j = l[j] :: l.drop (j + 1) := List.drop_eq_getElem_cons hlt
      have hgo := Lib.hid (fun h : ¬ l[j].term < last => show riseTo 1 l = riseTo l[j].term (l.drop (j + 1)) by rw [HR.out, hdr]; simp only [riseTo, if_neg h])
      clear hdr
      rcases Nat.eq_zero_or_pos j with h0 | h0
      · subst h0
        generalize hit : l[0] = it at *
        have hlj := Lib.hid (fun h : (0 + 1) - 1 < l.length => show it.term = l[(0 + 1) - 1].term from congrArg Itm.term hit.symm)
        clear hit
        obtain ⟨tt, tc⟩ := it
        simp only [Nat.zero_mul, Nat.add_zero] at i1 i2
        have K1 := Lib.hid ((Keeps.refl (fun _ => False) wr).alloc (.cells #[.int .i64 tt, .int .i64 tc] 44))
        have hl1 := Lib.hid (HZ.out rfl)
        by_cases a1 : tt < 1
        · go_upto_region 4 with fail
          go_quiet (fail)
          go_wp2_with fail
          go_ret
          exact ⟨ret_bool (hno.out (by have := HO.out; show tt < last ∨ most < tt; omega)).symm, HK.out.trans (K1.out.drewN _) (fun _ h => .inl h)⟩
        · by_cases a2 : most < tt
          · go_upto_region 4 with fail
            go_quiet (fail)
            go_wp2_with fail
            go_ret
            exact ⟨ret_bool (hno.out (.inr a2)).symm, HK.out.trans (K1.out.drewN _) (fun _ h => .inl h)⟩
          · go_upto_region 4 with fail
            go_quiet (fail)
            go_wp2_with fail
            go_roundw
            case measure => simp [intOf]; omega
            case rel => exact ⟨1, tt, by omega, rfl, hgo.out (by have := hl1.out; show ¬ tt < last; omega), by omega, fun h _ => hlj.out h, fun _ => by omega, fun h => by omega, HK.out.trans (K1.out.drewN _) (fun _ h => .inl h)⟩
      · obtain ⟨b', off', e, _, k1, _⟩ := hsl.item' (j := j - 1) (by omega)
        injection e with e
        injection e with e1 e2
        subst e1 e2
        rw [← HLT.out (by omega) h0] at k1
        obtain ⟨q, rfl⟩ : ∃ q, j = q + 1 := ⟨j - 1, by omega⟩
        simp only [Nat.add_sub_cancel] at k1
        generalize hit : l[q + 1] = it at *
        have hlj := Lib.hid (fun h : (q + 1 + 1) - 1 < l.length => show it.term = l[(q + 1 + 1) - 1].term from congrArg Itm.term hit.symm)
        clear hit
        obtain ⟨tt, tc⟩ := it
        simp only at i1 i2
        have K1 := Lib.hid ((Keeps.refl (fun _ => False) wr).alloc (.cells #[.int .i64 tt, .int .i64 tc] 44))
        by_cases a1 : tt < 1
        · go_upto_region 4 with fail
          go_quiet (fail)
          go_wp2_with fail
          go_ret
          exact ⟨ret_bool (hno.out (by have := HO.out; show tt < last ∨ most < tt; omega)).symm, HK.out.trans (K1.out.drewN _) (fun _ h => .inl h)⟩
        · by_cases a2 : most < tt
          · go_upto_region 4 with fail
            go_quiet (fail)
            go_wp2_with fail
            go_ret
            exact ⟨ret_bool (hno.out (.inr a2)).symm, HK.out.trans (K1.out.drewN _) (fun _ h => .inl h)⟩
          · by_cases a3 : tt < last
            · go_upto_region 4 with fail
              go_quiet (fail)
              go_wp2_with fail
              go_ret
              exact ⟨ret_bool (hno.out (.inl a3)).symm, HK.out.trans (K1.out.drewN _) (fun _ h => .inl h)⟩
            · go_upto_region 4 with fail
              go_quiet (fail)
              go_wp2_with fail
              go_roundw
              case measure => simp [intOf]; omega
              case rel => exact ⟨q + 1 + 1, tt, by omega, by go_num, hgo.out a3, by omega, fun h _ => hlj.out h, fun _ => by omega, fun h => by omega, HK.out.trans (K1.out.drewN _) (fun _ h => .inl h)⟩
    · have hj' : j = l.length := by omega
      subst hj'
      have hres := Lib.hid (risesB_yes (l := l) (most := most) (last := last) (by rw [HR.out, List.drop_length]; rfl) (by rcases Nat.eq_zero_or_pos l.length with h | h; exact .inl h; exact .inr (HM.out h)) HO.out)
      clear hsl
      go_wp2
      go_ret
      exact ⟨ret_bool hres.out.symm, HK.out⟩

set_option maxRecDepth 100000 in
set_option maxHeartbeats 2000000 in
theorem sameInts_any {w : World} {S : Nat → Prop} {v1 v2 : Value} {l : List Int} (h1 : Sl w S v1 1 (intCells l)) (h2 : Sl w S v2 1 (intCells l)) (hl : l.length ≤ 2000000) :
    Calls Try.prog 64 #[v1, v2] w fun e w' => e = .returned (.bool true) ∧ Keeps (fun _ => False) w w' := by
  obtain ⟨A, n, c, rfl, hn, hc1, hc2, hcell⟩ := h1
  obtain ⟨A2, n2, c', rfl, hn2, hc12, hc22, hcell2⟩ := h2
  obtain rfl : n = l.length := by rw [intCells_length] at hn; omega
  obtain rfl : n2 = l.length := by rw [intCells_length] at hn2; omega
  have H := Lib.hid (show Sl w S (.slice A l.length c) 1 (intCells l) from ⟨A, l.length, c, rfl, hn, hc1, hc2, hcell⟩)
  have H2 := Lib.hid (show Sl w S (.slice A2 l.length c') 1 (intCells l) from ⟨A2, l.length, c', rfl, hn2, hc12, hc22, hcell2⟩)
  clear hcell hcell2 hn hn2 hc2 hc22 hc1 hc12
  go_enter Try.func64, Try.ntmps64
  go_wp2_with fail
  go_loopw [13] (fun i wr => ∃ (j : Nat), j ≤ l.length ∧ i = .int .i64 j ∧ Keeps (fun _ => False) w wr) (fun i _ => match i with | .int _ j => l.length - j.toNat | _ => 0)
  case atStart => exact ⟨0, by omega, rfl, Keeps.refl _ _⟩
  case round =>
    obtain ⟨j, hj, rfl, hk⟩ := hrel
    have HK := Lib.hid hk
    have hsl := (H.out.keep hk (fun _ _ h => h.elim))
    have hsl2 := (H2.out.keep hk (fun _ _ h => h.elim))
    clear hk
    by_cases hlt : j < l.length
    · obtain ⟨b, off, rfl, hbS, i1⟩ := hsl.int hlt
      obtain ⟨b2, off2, rfl, hbS2, k1⟩ := hsl2.int hlt
      clear hsl hsl2 hbS hbS2
      generalize l[j] = it at *
      go_upto_region 6 with fail
      go_quiet (fail)
      go_wp2_with fail
      go_roundw
      case measure => simp only; omega
      case rel => exact ⟨j + 1, by omega, by go_num, HK.out.trans ((Keeps.refl _ _).drewN _) (fun _ h => .inl h)⟩
    · have hj' : j = l.length := by omega
      subst hj'
      clear hsl hsl2
      go_wp2
      go_ret
      exact ⟨rfl, HK.out⟩

set_option maxRecDepth 100000 in
set_option maxHeartbeats 2000000 in
theorem sameItems_any {w : World} {S : Nat → Prop} {v1 v2 : Value} {l : List Itm} (h1 : Sl w S v1 2 (itemCells l)) (h2 : Sl w S v2 2 (itemCells l)) (hl : l.length ≤ 2000000) :
    Calls Try.prog 34 #[v1, v2] w fun e w' => e = .returned (.bool true) ∧ Keeps (fun _ => False) w w' := by
  obtain ⟨A, n, c, rfl, hn, hc1, hc2, hcell⟩ := h1
  obtain ⟨A2, n2, c', rfl, hn2, hc12, hc22, hcell2⟩ := h2
  obtain rfl : n = l.length := by rw [itemCells_length] at hn; omega
  obtain rfl : n2 = l.length := by rw [itemCells_length] at hn2; omega
  have H := Lib.hid (show Sl w S (.slice A l.length c) 2 (itemCells l) from ⟨A, l.length, c, rfl, hn, hc1, hc2, hcell⟩)
  have H2 := Lib.hid (show Sl w S (.slice A2 l.length c') 2 (itemCells l) from ⟨A2, l.length, c', rfl, hn2, hc12, hc22, hcell2⟩)
  clear hcell hcell2 hn hn2 hc2 hc22 hc1 hc12
  go_enter Try.func34, Try.ntmps34
  go_wp2_with fail
  go_loopw [13] (fun i wr => ∃ (j : Nat), j ≤ l.length ∧ i = .int .i64 j ∧ Keeps (fun _ => False) w wr) (fun i _ => match i with | .int _ j => l.length - j.toNat | _ => 0)
  case atStart => exact ⟨0, by omega, rfl, Keeps.refl _ _⟩
  case round =>
    obtain ⟨j, hj, rfl, hk⟩ := hrel
    have HK := Lib.hid hk
    have hsl := (H.out.keep hk (fun _ _ h => h.elim))
    have hsl2 := (H2.out.keep hk (fun _ _ h => h.elim))
    clear hk
    by_cases hlt : j < l.length
    · obtain ⟨b, off, rfl, hbS, i1, i2⟩ := hsl.item' hlt
      obtain ⟨b2, off2, rfl, hbS2, k1, k2⟩ := hsl2.item' hlt
      clear hsl hsl2 hbS hbS2
      generalize l[j] = it at *
      obtain ⟨tt, tc⟩ := it
      simp only at i1 i2 k1 k2
      go_upto_region 6 with fail
      go_quiet (fail)
      go_wp2_with fail
      go_roundw
      case measure => simp only; omega
      case rel => exact ⟨j + 1, by omega, by go_num, HK.out.trans ((Keeps.refl _ _).drewN _) (fun _ h => .inl h)⟩
    · have hj' : j = l.length := by omega
      subst hj'
      clear hsl hsl2
      go_wp2
      go_ret
      exact ⟨rfl, HK.out⟩
end Go.Proofs.Ytibjbpakbfodaaa
namespace Go.Proofs.Ytibjbpakbfodaaa
open Go.RowKit

set_option maxRecDepth 100000 in
set_option maxHeartbeats 2000000 in
theorem follower_any {w : World} {S : Nat → Prop} {x : NodV} (h : NodeOk w S x) (boss : Int) :
    Calls Try.prog 70 #[.agg (nodCells x).toArray, .int .i64 boss] w fun e w' => ∃ x' : NodV, e = .returned (.agg (nodCells x').toArray) ∧ x'.n = { x.n with role := 1, boss := boss, votes := [], next := [], mtch := [] } ∧ NodeOk w' S x' ∧ Keeps Free w w' := by
  have H := Lib.hid h
  obtain ⟨n, lv, vv, nv, mv⟩ := x
  obtain ⟨⟨LA, LL, LC, rfl, _⟩, ⟨VA, VL, VC, rfl, _⟩, ⟨NA, NL, NC, rfl, _⟩, ⟨MA, ML, MC, rfl, _⟩⟩ := h
  simp only [nodCells]
  go_enter Try.func70, Try.ntmps70
  go_wp2_with fail
  obtain ⟨k0, k1, k2⟩ := two_boxes w (.cells #[.int .i64 n.id, .int .i64 n.n, .int .i64 n.term, .int .i64 n.vote, .slice LA LL LC, .int .i64 n.commit, .int .i64 1, .int .i64 boss, .slice none 0 0, .slice none 0 0, .slice none 0 0] 25) (.cells #[.int .i64 n.id, .int .i64 n.n, .int .i64 n.term, .int .i64 n.vote, .slice LA LL LC, .int .i64 n.commit, .int .i64 1, .int .i64 boss, .slice none 0 0, .slice none 0 0, .slice none 0 0] 25)
  obtain ⟨q0, q1, q2, q3, q4, q5, q6, q7, q8, q9, q10, qf⟩ := cells11 k2
  refine bodyPost_ret (v := .agg #[.int .i64 n.id, .int .i64 n.n, .int .i64 n.term, .int .i64 n.vote, .slice LA LL LC, .int .i64 n.commit, .int .i64 1, .int .i64 boss, .slice none 0 0, .slice none 0 0, .slice none 0 0]) (by simp [results, Try.results70, go_sem, q0, q1, q2, q3, q4, q5, q6, q7, q8, q9, q10]) rfl ?_
  refine ⟨⟨_, .slice LA LL LC, .slice none 0 0, .slice none 0 0, .slice none 0 0⟩, rfl, rfl, ⟨(H.out.log).keep k0 (fun _ _ h => h.elim), ?_, ?_, ?_⟩, k0⟩
  all_goals exact ⟨none, 0, 0, rfl, rfl, Nat.le_refl _, by simp [maxLen], fun h => by simp [intCells] at h⟩
end Go.Proofs.Ytibjbpakbfodaaa
namespace Go.Proofs.Ytibjbpakbfodaaa
open Go.RowKit

theorem Sl.shape {w : World} {S : Nat → Prop} {v : Value} {size : Nat} {xs : List Value} (h : Sl w S v size xs) {n : Nat} (hn : xs.length = n * size) (hs : 0 < size) : ∃ A c, v = .slice A n c := by
  obtain ⟨A, len, cap, hv, hl, _⟩ := h
  have : len = n := Nat.eq_of_mul_eq_mul_right hs (hl.symm.trans hn)
  subst this
  exact ⟨A, cap, hv⟩

theorem NodeOk.shape {w : World} {S : Nat → Prop} {n : Nod} {lv vv nv mv : Value} (h : NodeOk w S ⟨n, lv, vv, nv, mv⟩) : ∃ LA LC VA VC NA NC MA MC, lv = .slice LA n.log.length LC ∧ vv = .slice VA n.votes.length VC ∧ nv = .slice NA n.next.length NC ∧ mv = .slice MA n.mtch.length MC := by
  obtain ⟨LA, LC, e1⟩ := Sl.shape h.log (itemCells_length _) (by decide)
  obtain ⟨VA, VC, e2⟩ := Sl.shape h.votes (intCells_length _) (by decide)
  obtain ⟨NA, NC, e3⟩ := Sl.shape h.next (intCells_length _) (by decide)
  obtain ⟨MA, MC, e4⟩ := Sl.shape h.mtch (intCells_length _) (by decide)
  exact ⟨LA, LC, VA, VC, NA, NC, MA, MC, e1, e2, e3, e4⟩

set_option maxRecDepth 100000 in
set_option maxHeartbeats 4000000 in
theorem sameNode_any {w : World} {x y : NodV} (hx : NodeOk w Free x) (hy : NodeOk w Free y) (he : y.n = x.n) (hl1 : x.n.log.length ≤ 2000000) (hl2 : x.n.votes.length ≤ 2000000) (hl3 : x.n.next.length ≤ 2000000) (hl4 : x.n.mtch.length ≤ 2000000) :
    Calls Try.prog 22 #[.agg (nodCells x).toArray, .agg (nodCells y).toArray] w fun e w' => e = .returned (.bool true) ∧ Keeps Free w w' := by
  obtain ⟨n, lv, vv, nv, mv⟩ := x
  obtain ⟨n', lv', vv', nv', mv'⟩ := y
  simp only at he
  subst he
  have C1 := Lib.hid (fun (w1 : World) (hk : Keeps Free w w1) => sameItems_any (hx.log.keep hk (fun _ _ h => h)) (hy.log.keep hk (fun _ _ h => h)) hl1)
  have C2 := Lib.hid (fun (w1 : World) (hk : Keeps Free w w1) => sameInts_any (hx.votes.keep hk (fun _ _ h => h)) (hy.votes.keep hk (fun _ _ h => h)) hl2)
  have C3 := Lib.hid (fun (w1 : World) (hk : Keeps Free w w1) => sameInts_any (hx.next.keep hk (fun _ _ h => h)) (hy.next.keep hk (fun _ _ h => h)) hl3)
  have C4 := Lib.hid (fun (w1 : World) (hk : Keeps Free w w1) => sameInts_any (hx.mtch.keep hk (fun _ _ h => h)) (hy.mtch.keep hk (fun _ _ h => h)) hl4)
  obtain ⟨LA, LC, VA, VC, NA, NC, MA, MC, rfl, rfl, rfl, rfl⟩ := hx.shape
  obtain ⟨LA', LC', VA', VC', NA', NC', MA', MC', rfl, rfl, rfl, rfl⟩ := hy.shape
  clear hx hy
  generalize n'.log.length = LL at *
  generalize n'.votes.length = VL at *
  generalize n'.next.length = NL at *
  generalize n'.mtch.length = ML at *
  simp only [nodCells]
  simp only at C1 C2 C3 C4
  obtain ⟨K0, B1, B2⟩ := two_boxes w (.cells #[.int .i64 n'.id, .int .i64 n'.n, .int .i64 n'.term, .int .i64 n'.vote, .slice LA LL LC, .int .i64 n'.commit, .int .i64 n'.role, .int .i64 n'.boss, .slice VA VL VC, .slice NA NL NC, .slice MA ML MC] 25)
    (.cells #[.int .i64 n'.id, .int .i64 n'.n, .int .i64 n'.term, .int .i64 n'.vote, .slice LA' LL LC', .int .i64 n'.commit, .int .i64 n'.role, .int .i64 n'.boss, .slice VA' VL VC', .slice NA' NL NC', .slice MA' ML MC'] 25)
  have K0' := Lib.hid K0; have B1' := Lib.hid B1; have B2' := Lib.hid B2
  clear K0 B1 B2
  obtain ⟨id, nn, tm, vt, lg, cm, rl, bs, vs, nx, mt⟩ := n'
  simp only at *
  go_enter Try.func22, Try.ntmps22
  go_wp2_with (first
    | (go_at_call 34; refine (C1.out _ K0'.out).mono ?_; rintro e w3 ⟨rfl, hk3⟩
       have K3 := Lib.hid (K0'.out.trans hk3 (fun _ h => .inl h))
       have B13 := Lib.hid (hk3.blk B1'.out)
       have B23 := Lib.hid (hk3.blk B2'.out)
       obtain ⟨_, _, _, _, _, b5, b6, b7, b8, b9, b10, bf⟩ := cells11 B13.out
       obtain ⟨_, _, _, _, _, r5, r6, r7, r8, r9, r10, rf⟩ := cells11 B23.out
       clear C1)
    | (go_at_call 64; refine (C2.out _ K3.out).mono ?_; rintro e w4 ⟨rfl, hk4⟩
       have K4 := Lib.hid (K3.out.trans hk4 (fun _ h => .inl h))
       have B14 := Lib.hid (hk4.blk B13.out)
       have B24 := Lib.hid (hk4.blk B23.out)
       obtain ⟨_, _, _, _, _, _, _, _, b84, b94, b104, bf4⟩ := cells11 B14.out
       obtain ⟨_, _, _, _, _, _, _, _, r84, r94, r104, rf4⟩ := cells11 B24.out
       clear C2)
    | (go_at_call 64; refine (C3.out _ K4.out).mono ?_; rintro e w5 ⟨rfl, hk5⟩
       have K5 := Lib.hid (K4.out.trans hk5 (fun _ h => .inl h))
       have B15 := Lib.hid (hk5.blk B14.out)
       have B25 := Lib.hid (hk5.blk B24.out)
       obtain ⟨_, _, _, _, _, _, _, _, b85, b95, b105, bf5⟩ := cells11 B15.out
       obtain ⟨_, _, _, _, _, _, _, _, r85, r95, r105, rf5⟩ := cells11 B25.out
       clear C3)
    | (go_at_call 64; refine (C4.out _ K5.out).mono ?_; rintro e w6 ⟨rfl, hk6⟩
       have K6 := Lib.hid (K5.out.trans hk6 (fun _ h => .inl h))
       clear C4))
  go_ret
  exact ⟨rfl, K6.out⟩
/-- The cells of one message of a slice of messages. -/
theorem Sl.mes {w : World} {S : Nat → Prop} {A : Option Addr} {len c : Nat} {l : List MesV} (h : Sl w S (.slice A len c) 9 (l.flatMap mesCells)) {j : Nat} (hj : j < l.length) :
    ∃ b off, A = some ⟨b, off, none⟩ ∧ ∀ i u, i < 9 → (mesCells l[j])[i]? = some u → w.cell? ⟨b, off + j * 9 + i, none⟩ = some u := by
  obtain ⟨A', len', c', e, hl, _, _, hc⟩ := h
  injection e with e1 e2 e3
  subst e1
  have hfl : (l.flatMap mesCells).length = l.length * 9 := flat_length mesCells 9 (fun _ => rfl) l
  obtain ⟨b, off, rfl, _, hcell⟩ := hc (by omega)
  refine ⟨b, off, rfl, fun i u hi hu => ?_⟩
  rw [Nat.add_assoc]
  exact hcell _ _ ((flat_get mesCells 9 (fun _ => rfl) l j l[j] i (List.getElem?_eq_getElem hj) hi).trans hu)

theorem cells9 {w : World} {b : Nat} {t : TypeId} {v0 v1 v2 v3 v4 v5 v6 v7 v8 : Value} (h : w.heap[b]? = some (.cells #[v0, v1, v2, v3, v4, v5, v6, v7, v8] t (0, 0))) :
    w.cell? ⟨b, 0, none⟩ = some v0 ∧ w.cell? ⟨b, 1, none⟩ = some v1 ∧ w.cell? ⟨b, 2, none⟩ = some v2 ∧ w.cell? ⟨b, 3, none⟩ = some v3 ∧ w.cell? ⟨b, 4, none⟩ = some v4 ∧ w.cell? ⟨b, 5, none⟩ = some v5 ∧
      w.cell? ⟨b, 6, none⟩ = some v6 ∧ w.cell? ⟨b, 7, none⟩ = some v7 ∧ w.cell? ⟨b, 8, none⟩ = some v8 :=
  ⟨cell_of_row w b 0 _ _ _ h, cell_of_row w b 1 _ _ _ h, cell_of_row w b 2 _ _ _ h, cell_of_row w b 3 _ _ _ h, cell_of_row w b 4 _ _ _ h, cell_of_row w b 5 _ _ _ h, cell_of_row w b 6 _ _ _ h, cell_of_row w b 7 _ _ _ h, cell_of_row w b 8 _ _ _ h⟩

theorem Sl.form9 {w : World} {S : Nat → Prop} {v : Value} {l : List MesV} (h : Sl w S v 9 (l.flatMap mesCells)) : ∃ A c, v = .slice A l.length c := Sl.shape h (flat_length mesCells 9 (fun _ => rfl) l) (by decide)

theorem MesOk.shape {w : World} {S : Nat → Prop} {m : MesV} (h : MesOk w S m) : ∃ A c, m.iv = .slice A m.m.items.length c := Sl.shape h (itemCells_length _) (by decide)

set_option maxRecDepth 100000 in
set_option maxHeartbeats 4000000 in
theorem sameMsgs_any {w : World} {ov ov' : Value} {out out' : List MesV} (h : MsgsOk w Free ov out) (h' : MsgsOk w Free ov' out') (he : said out' = said out) (hl : out.length ≤ 1000) (hi : ∀ m ∈ out, m.m.items.length ≤ 2000000) :
    Calls Try.prog 23 #[ov, ov'] w fun e w' => e = .returned (.bool true) ∧ Keeps Free w w' := by
  obtain ⟨A, c, rfl⟩ := h.cells.form9
  obtain ⟨A', c', rfl⟩ := h'.cells.form9
  have hl' : out'.length = out.length := by have := congrArg List.length he; simpa [said] using this
  have hx : ∀ j (h1 : j < out.length), ∃ h2 : j < out'.length, out'[j].m = out[j].m := fun j h1 => ⟨by omega, by
    have := congrArg (fun l => l[j]?) he
    simp only [said, List.getElem?_map, List.getElem?_eq_getElem h1, List.getElem?_eq_getElem (show j < out'.length by omega), Option.map_some, Option.some.injEq] at this
    exact this⟩
  have hn0 : ∃ n, out.length = n := ⟨_, rfl⟩
  obtain ⟨n, hn⟩ := hn0
  rw [hl', hn]
  rw [hn] at hl
  have HX := Lib.hid hx; have H := Lib.hid h; have H' := Lib.hid h'; have HI := Lib.hid hi
  clear h h' hx hi he
  have HN := Lib.hid hn; have HL' := Lib.hid hl'
  clear hn hl'
  go_enter Try.func23, Try.ntmps23
  go_wp2_with fail
  go_loopw [15] (fun i wr => ∃ (j : Nat), j ≤ n ∧ i = .int .i64 j ∧ Keeps Free w wr) (fun i _ => match i with | .int _ j => n - j.toNat | _ => 0)
  case atStart => exact ⟨0, by omega, rfl, Keeps.refl _ _⟩
  case round =>
    obtain ⟨j, hj, rfl, hk⟩ := hrel
    by_cases hlt : j < n
    · obtain ⟨hj2, he⟩ := HX.out j (by rw [HN.out]; exact hlt)
      have hj1 : j < out.length := by rw [HN.out]; exact hlt
      have hcs := (H.out.into hk (fun _ _ h => h) (fun _ _ h => h) : MsgsOk wr Free _ _)
      have hcs' := (H'.out.into hk (fun _ _ h => h) (fun _ _ h => h) : MsgsOk wr Free _ _)
      obtain ⟨b, off, rfl, hc⟩ := Sl.mes (hcs.cells) hj1
      obtain ⟨b', off', rfl, hc'⟩ := Sl.mes (hcs'.cells) hj2
      have hm := hcs.each _ (List.getElem_mem hj1)
      have hm' := hcs'.each _ (List.getElem_mem hj2)
      have hil := HI.out _ (List.getElem_mem hj1)
      generalize out[j] = x at *
      generalize out'[j] = y at *
      obtain ⟨m, iv⟩ := x
      obtain ⟨m', iv'⟩ := y
      simp only at he
      subst he
      obtain ⟨IA, IC, e⟩ := hm.shape
      obtain ⟨IA', IC', e'⟩ := hm'.shape
      simp only at e e'
      subst e e'
      have HS := Lib.hid (fun (w1 : World) (hk1 : Keeps Free wr w1) => sameItems_any (hm.keep hk1 (fun _ _ h => h)) (hm'.keep hk1 (fun _ _ h => h)) hil)
      have a0 := hc 0 _ (by decide) rfl
      have a1 := hc 1 _ (by decide) rfl
      have a2 := hc 2 _ (by decide) rfl
      have a3 := hc 3 _ (by decide) rfl
      have a4 := hc 4 _ (by decide) rfl
      have a5 := hc 5 _ (by decide) rfl
      have a6 := hc 6 _ (by decide) rfl
      have a7 := hc 7 _ (by decide) rfl
      have a8 := hc 8 _ (by decide) rfl
      have k0 := hc' 0 _ (by decide) rfl
      have k1 := hc' 1 _ (by decide) rfl
      have k2 := hc' 2 _ (by decide) rfl
      have k3 := hc' 3 _ (by decide) rfl
      have k4 := hc' 4 _ (by decide) rfl
      have k5 := hc' 5 _ (by decide) rfl
      have k6 := hc' 6 _ (by decide) rfl
      have k7 := hc' 7 _ (by decide) rfl
      have k8 := hc' 8 _ (by decide) rfl
      simp only [Nat.add_zero] at a0 k0
      simp only at HS
      have HK := Lib.hid hk
      clear hc hc' hm hm' hk hcs hcs' hil
      clear HX H H' HI HL'
      obtain ⟨kind, src, dst, term, index, logTerm, commit, items, yes⟩ := m'
      simp only at *
      generalize items.length = il at *
      have hbl := cell_lt a0
      have hbl' := cell_lt k0
      go_upto_region 6 with fail
      go_cut [6, 7] from 6 to 7 (fun s6 s7 wx => ∃ p q, s6 = .pointer (some ⟨p, 0, none⟩) ∧ s7 = .pointer (some ⟨q, 0, none⟩) ∧ Keeps Free wr wx ∧
        wx.heap[p]? = some (.cells #[.int .i64 kind, .int .i64 src, .int .i64 dst, .int .i64 term, .int .i64 index, .int .i64 logTerm, .int .i64 commit, .slice IA il IC, .bool yes] 38 (0, 0)) ∧
        wx.heap[q]? = some (.cells #[.int .i64 kind, .int .i64 src, .int .i64 dst, .int .i64 term, .int .i64 index, .int .i64 logTerm, .int .i64 commit, .slice IA' il IC', .bool yes] 38 (0, 0)))
      case first =>
        go_region
        all_goals
          go_wp2_with fail
          go_meet
          first
            | exact ⟨_, _, rfl, rfl, (two_boxes wr _ _).1.drew, (two_boxes wr _ _).2.1, (two_boxes wr _ _).2.2⟩
            | exact ⟨_, _, rfl, rfl, (two_boxes wr _ _).1.drew, (two_boxes wr _ _).2.2, (two_boxes wr _ _).2.1⟩
      case rest =>
        obtain ⟨p, q, rfl, rfl, hkx, B1, B2⟩ := hcut
        obtain ⟨a0, a1, a2, a3, a4, a5, a6, a7, a8⟩ := cells9 B1
        obtain ⟨k0, k1, k2, k3, k4, k5, k6, k7, k8⟩ := cells9 B2
        have HKX := Lib.hid hkx
        clear hkx B1 B2
        go_wp2_with (go_at_call 34; refine (HS.out _ HKX.out).mono ?_; rintro e w3 ⟨rfl, hk3⟩; clear HS)
        go_roundw
        case measure => simp only; omega
        case rel => exact ⟨j + 1, by omega, by go_num, (HK.out.trans HKX.out (fun _ h => .inl h)).trans hk3 (fun _ h => .inl h)⟩
    · have hj' : j = n := by omega
      subst hj'
      go_wp2
      go_ret
      exact ⟨rfl, hk⟩
end Go.Proofs.Ytibjbpakbfodaaa
namespace Go.Proofs.Ytibjbpakbfodaaa
open Go.RowKit

/-- What is sure, counted upward. -/
def sureUp (x : Nod) : Nat → Int
  | 0 => x.commit
  | i + 1 => if x.commit < (i : Int) + 1 ∧ x.n < 2 * (have_ x.mtch ((i : Int) + 1) : Int) ∧ termAt x.log ((i : Int) + 1) = x.term then (i : Int) + 1 else sureUp x i

theorem sureUp_low (x : Nod) : ∀ k : Nat, (k : Int) ≤ x.commit → sureUp x k = x.commit
  | 0, _ => rfl
  | k + 1, h => by
    unfold sureUp
    rw [if_neg (by omega)]
    exact sureUp_low x k (by omega)

theorem sureUp_old {x : Nod} (hp : x.log.Pairwise fun a b => a.term ≤ b.term) (hm : ∀ it ∈ x.log, it.term ≤ x.term) : ∀ k : Nat, k ≤ x.log.length → 0 < k → termAt x.log k ≠ x.term → sureUp x k = x.commit
  | 0, _, h, _ => by omega
  | 1, h1, _, hne => by
    unfold sureUp
    rw [if_neg (fun h => hne (by have := h.2.2; simpa using this))]
    rfl
  | k + 2, h1, _, hne => by
    unfold sureUp
    rw [if_neg (fun h => hne (by have := h.2.2; rw [show ((k + 2 : Nat) : Int) = ((k + 1 : Nat) : Int) + 1 from by omega]; exact this))]
    refine sureUp_old hp hm (k + 1) (by omega) (by omega) ?_
    rw [termAt_nat _ (by omega) (by omega)] at hne ⊢
    simp only [Nat.add_sub_cancel] at hne ⊢
    have hlt := List.pairwise_iff_getElem.1 hp k (k + 1) (by omega) (by omega) (by omega)
    have h2 := hm _ (List.getElem_mem (show k + 1 < x.log.length by omega))
    simp only [show k + 2 - 1 = k + 1 from by omega] at hne
    omega

theorem sureUp_eq {x : Nod} (hp : x.log.Pairwise fun a b => a.term ≤ b.term) (hm : ∀ it ∈ x.log, it.term ≤ x.term) : ∀ k : Nat, k ≤ x.log.length → sureUp x k = sureAt x k
  | 0, _ => rfl
  | k + 1, h => by
    have ih := sureUp_eq hp hm k (by omega)
    have hold := sureUp_old hp hm (k + 1) h (by omega)
    have hlow := sureUp_low x (k + 1)
    have hc : ((k + 1 : Nat) : Int) = (k : Int) + 1 := by omega
    rw [hc] at hold hlow
    by_cases h1 : x.commit < (k : Int) + 1
    · by_cases h2 : termAt x.log ((k : Int) + 1) = x.term
      · have e : sureAt x (k + 1) = if x.n < 2 * (have_ x.mtch ((k : Int) + 1) : Int) then (k : Int) + 1 else sureAt x k := by rw [sureAt, if_pos ⟨h1, h2⟩]
        rw [e, sureUp]
        by_cases h3 : x.n < 2 * (have_ x.mtch ((k : Int) + 1) : Int)
        · rw [if_pos ⟨h1, h3, h2⟩, if_pos h3]
        · rw [if_neg (fun h => h3 h.2.1), if_neg h3, ih]
      · rw [hold h2]
        unfold sureAt
        rw [if_neg (fun h => h2 h.2)]
    · rw [hlow (by omega)]
      unfold sureAt
      rw [if_neg (fun h => h1 h.1)]

theorem sureUp_rise {x : Nod} (hr : rising x.log x.term = true) (ht : 1 ≤ x.term) : sureUp x x.log.length = sureAt x x.log.length := by
  obtain ⟨h1, h2⟩ := (rising_iff _ _).1 hr
  exact sureUp_eq h1 (fun it hit => by have := (h2 it hit).2; omega) _ (Nat.le_refl _)

theorem sureUp_ge (x : Nod) : ∀ k : Nat, x.commit ≤ sureUp x k
  | 0 => Int.le_refl _
  | k + 1 => by
    unfold sureUp
    split
    · omega
    · exact sureUp_ge x k

/-- Two lists that rise, and have the same members. -/
theorem rise_ext : ∀ {a b : List Int}, a.Pairwise (· < ·) → b.Pairwise (· < ·) → (∀ v, v ∈ a ↔ v ∈ b) → a = b
  | [], [], _, _, _ => rfl
  | [], v :: t, _, _, h => by have := (h v).2 (List.mem_cons_self ..); simp at this
  | v :: t, [], _, _, h => by have := (h v).1 (List.mem_cons_self ..); simp at this
  | u :: s, v :: t, h1, h2, h => by
    rw [List.pairwise_cons] at h1 h2
    have e : u = v := by
      rcases List.mem_cons.1 ((h u).1 (List.mem_cons_self ..)) with e | e
      · exact e
      · rcases List.mem_cons.1 ((h v).2 (List.mem_cons_self ..)) with e' | e'
        · exact e'.symm
        · have := h1.1 v e'; have := h2.1 u e; omega
    subst e
    rw [rise_ext h1.2 h2.2 fun w => ?_]
    constructor
    · intro hw
      rcases List.mem_cons.1 ((h w).1 (List.mem_cons_of_mem _ hw)) with e | e
      · have := h1.1 w hw; omega
      · exact e
    · intro hw
      rcases List.mem_cons.1 ((h w).2 (List.mem_cons_of_mem _ hw)) with e | e
      · have := h2.1 w hw; omega
      · exact e

theorem mem_insertB (k v : Int) : ∀ (l : List Int), v ∈ insertB k l ↔ v = k ∨ v ∈ l
  | [] => by simp [insertB]
  | u :: t => by
    unfold insertB
    split
    · rw [List.mem_cons, mem_insertB k v t, List.mem_cons]
      constructor
      · rintro (h | h | h)
        · exact .inr (.inl h)
        · exact .inl h
        · exact .inr (.inr h)
      · rintro (h | h | h)
        · exact .inr (.inl h)
        · exact .inl h
        · exact .inr (.inr h)
    · split
      · rename_i h2
        rw [List.mem_cons]
        constructor
        · exact fun h => .inr h
        · rintro (h | h)
          · exact .inl (by omega)
          · exact h
      · rw [List.mem_cons, List.mem_cons]

/-- The votes, put together anew. -/
def recount (src : Int) (votes : List Int) (k : Nat) : List Int :=
  ((List.range k).map fun (j : Nat) => (j : Int) + 1).filter fun v => decide (v = src) || votes.any fun u => decide (u = v)

theorem recount_succ (src : Int) (votes : List Int) (k : Nat) : recount src votes (k + 1) = recount src votes k ++ if (decide ((k : Int) + 1 = src) || votes.any fun u => decide (u = (k : Int) + 1)) = true then [(k : Int) + 1] else [] := by
  unfold recount
  rw [List.range_succ, List.map_append, List.filter_append]
  congr 1
  rw [List.map_singleton, List.filter_cons, List.filter_nil]

theorem recount_eq {x : Nod} {src : Int} (h1 : 1 ≤ src) (hn : src ≤ x.n) (hv : votesOk x.n 0 x.votes = true) : recount src x.votes x.n.toNat = insertB src x.votes := by
  obtain ⟨a1, a2⟩ := votesOk_rising _ _ (insertB_ok h1 hn x.votes 0 (by omega) hv)
  refine rise_ext ?_ a1 fun v => ?_
  · unfold recount
    refine List.Pairwise.filter _ ?_
    rw [List.pairwise_map]
    refine List.Pairwise.imp ?_ List.pairwise_lt_range
    intro a b h; omega
  · rw [mem_insertB]
    unfold recount
    simp only [List.mem_filter, List.mem_map, List.mem_range, Bool.or_eq_true, decide_eq_true_eq, List.any_eq_true]
    constructor
    · rintro ⟨_, h | ⟨u, h, e⟩⟩
      · exact .inl h
      · exact .inr (e ▸ h)
    · intro h
      have hb : 0 < v ∧ v ≤ x.n := by
        rcases h with h | h
        · omega
        · have := (votesOk_rising _ _ hv).2 v h
          exact ⟨this.1, this.2.2⟩
      exact ⟨⟨(v - 1).toNat, by omega, by omega⟩, h.imp id fun h => ⟨v, h, rfl⟩⟩

/-- How many items at the start of a list have the terms of those of another. -/
def agree : List Itm → List Itm → Nat
  | x :: t, y :: s => if y.term = x.term then agree t s + 1 else 0
  | _, _ => 0

theorem agree_le : ∀ (a b : List Itm), agree a b ≤ a.length ∧ agree a b ≤ b.length
  | [], b => by cases b <;> simp [agree]
  | x :: t, [] => by simp [agree]
  | x :: t, y :: s => by
    have := agree_le t s
    simp only [agree, List.length_cons]
    split <;> omega

theorem taken_rest : ∀ (items l : List Itm) (c : Int), taken l.length items l c = (l ++ items, c)
  | [], l, c => by simp [taken]
  | x :: t, l, c => by
    unfold taken
    rw [List.getElem?_eq_none (Nat.le_refl _)]
    have := taken_rest t (l ++ [x]) c
    simp only [List.length_append, List.length_cons, List.length_nil] at this
    simp only [this, List.append_assoc, List.singleton_append]

theorem taken_agree : ∀ (items : List Itm) (k : Nat) (l : List Itm) (c : Int), k ≤ l.length → c ≤ l.length →
    taken k items l c = if agree items (l.drop k) < items.length then (l.take (k + agree items (l.drop k)) ++ items.drop (agree items (l.drop k)), min c (k + agree items (l.drop k) : Nat)) else (l, c)
  | [], k, l, c, _, _ => by simp [taken, agree]
  | x :: t, k, l, c, hk, hc => by
    rcases Nat.lt_or_ge k l.length with hlt | hge
    · have hd : l.drop k = l[k] :: l.drop (k + 1) := List.drop_eq_getElem_cons hlt
      unfold taken
      rw [List.getElem?_eq_getElem hlt]
      simp only
      by_cases he : l[k].term = x.term
      · rw [if_neg (by simp [he]), taken_agree t (k + 1) l c (by omega) hc]
        have ha : agree (x :: t) (l.drop k) = agree t (l.drop (k + 1)) + 1 := by rw [hd]; simp only [agree, if_pos he]
        rw [ha]
        simp only [List.length_cons, List.drop_succ_cons, Nat.add_lt_add_iff_right]
        have e : k + (agree t (l.drop (k + 1)) + 1) = k + 1 + agree t (l.drop (k + 1)) := by omega
        rw [e]
      · rw [if_pos he]
        have ha : agree (x :: t) (l.drop k) = 0 := by rw [hd]; simp only [agree, if_neg he]
        have := taken_rest t (l.take k ++ [x]) (min c k)
        rw [List.length_append, List.length_take, Nat.min_eq_left hk] at this
        simp only [List.length_cons, List.length_nil] at this
        rw [this, ha]
        simp
    · have hke : k = l.length := by omega
      subst hke
      rw [taken_rest]
      have ha : agree (x :: t) (l.drop l.length) = 0 := by rw [List.drop_length]; rfl
      rw [ha]
      simp only [Nat.add_zero, List.take_length, List.drop_zero, List.length_cons, Nat.zero_lt_succ, if_true]
      rw [Int.min_eq_left hc]

theorem agree_step {items l : List Itm} {j : Nat} (h : agree items l = j + agree (items.drop j) (l.drop j)) (h1 : j < items.length) (h2 : j < l.length) (he : l[j].term = items[j].term) : agree items l = (j + 1) + agree (items.drop (j + 1)) (l.drop (j + 1)) := by
  rw [h, List.drop_eq_getElem_cons h1, List.drop_eq_getElem_cons h2]
  simp only [agree, if_pos he]
  omega

theorem agree_stop {items l : List Itm} {j : Nat} (h : agree items l = j + agree (items.drop j) (l.drop j)) (hs : items.length ≤ j ∨ l.length ≤ j ∨ ∃ (h1 : j < items.length) (h2 : j < l.length), l[j].term ≠ items[j].term) : agree items l = j := by
  rw [h]
  rcases hs with hs | hs | ⟨h1, h2, hne⟩
  · rw [List.drop_of_length_le hs]
    cases l.drop j <;> simp [agree]
  · rw [List.drop_of_length_le hs]
    cases items.drop j <;> simp [agree]
  · rw [List.drop_eq_getElem_cons h1, List.drop_eq_getElem_cons h2]
    simp [agree, hne]

/-- Is a message nothing to a node? -/
def lostR (x : Nod) (m : Mes) : Bool :=
  !(decide (m.dst = x.id) && withinB m.src 1 x.n && decide (m.src ≠ x.id) && withinB m.kind 1 4 && withinB m.term 1 1000000 && withinB m.index 0 60 && decide (0 ≤ m.commit) && withinB m.logTerm 0 m.term && decide ((m.items.length : Int) + m.index ≤ 60) && risesB m.items m.term)
    || (decide (0 < m.items.length) && decide (termAt m.items 1 < m.logTerm))

theorem lostR_eq (x : Nod) (m : Mes) : lostR x m = lost x m := by
  unfold lostR lost withinB risesB
  split
  · rename_i h
    have : (decide (m.dst = x.id) && (decide (1 ≤ m.src) && decide (m.src ≤ x.n)) && decide (m.src ≠ x.id) && (decide (1 ≤ m.kind) && decide (m.kind ≤ 4))) = false := by
      apply Bool.eq_false_iff.2
      intro hb
      simp only [Bool.and_eq_true, decide_eq_true_eq] at hb
      omega
    rw [this]
    simp
  · rename_i h
    have : (decide (m.dst = x.id) && (decide (1 ≤ m.src) && decide (m.src ≤ x.n)) && decide (m.src ≠ x.id) && (decide (1 ≤ m.kind) && decide (m.kind ≤ 4))) = true := by
      simp only [Bool.and_eq_true, decide_eq_true_eq]
      omega
    rw [this]
    split
    · rename_i h2
      have : ((decide (1 ≤ m.term) && decide (m.term ≤ 1000000)) && (decide (0 ≤ m.index) && decide (m.index ≤ 60)) && decide (0 ≤ m.commit) && (decide (0 ≤ m.logTerm) && decide (m.logTerm ≤ m.term))) = false := by
        apply Bool.eq_false_iff.2
        intro hb
        simp only [Bool.and_eq_true, decide_eq_true_eq] at hb
        omega
      rw [Bool.true_and, this]
      simp
    · rename_i h2
      cases hr : rising m.items m.term
      · simp
      · cases hq : decide (0 < m.items.length) && decide (termAt m.items 1 < m.logTerm)
        · rw [Bool.eq_iff_iff]
          simp only [Bool.or_eq_true, Bool.not_eq_true', Bool.and_eq_true, decide_eq_true_eq, Bool.or_false, Bool.not_true, Bool.true_and, Bool.eq_false_iff, ne_eq]
          omega
        · simp
end Go.Proofs.Ytibjbpakbfodaaa
namespace Go.Proofs.Ytibjbpakbfodaaa
open Go.RowKit

def s1 (x : Nod) : Bool := !withinB x.n 1 5 || !withinB x.id 1 x.n || !withinB x.vote 0 x.n || !withinB x.boss 0 x.n || !withinB x.term 0 1000000 || !withinB x.commit 0 x.log.length
def s3 (x : Nod) : Bool := !withinB x.role 1 3 || ((x.term == 0) && decide (1 < x.role))
def s6 (x : Nod) : Bool := (x.role != 2) && decide (0 < (x.votes.length : Int))
def s8 (x : Nod) : Bool := ((x.role == 3) && (((x.next.length : Int) != x.n) || ((x.mtch.length : Int) != x.n))) || ((x.role != 3) && decide (0 < (x.next.length : Int) + (x.mtch.length : Int)))

def wrongR (x : Nod) : Int :=
  if s1 x then 3 else if s3 x then 1 else if decide (60 < (x.log.length : Int)) then 4 else if !risesB x.log x.term then 2 else if s6 x then 8 else if !votesOk x.n 0 x.votes then 2 else if s8 x then 8
  else if !placesOk x.log.length x.next x.mtch then 3 else 0

theorem wrongR_eq (x : Nod) : wrongR x = wrong x := by
  have e1 : s1 x = true ↔ ((x.n < 1 ∨ 5 < x.n ∨ peerB x.n x.id 1 = false ∨ peerB x.n x.vote 0 = false ∨ peerB x.n x.boss 0 = false) ∨ (x.term < 0 ∨ 1000000 < x.term ∨ x.commit < 0 ∨ (x.log.length : Int) < x.commit)) := by
    unfold s1 withinB peerB
    simp only [Bool.or_eq_true, Bool.not_eq_true', Bool.and_eq_false_iff, decide_eq_false_iff_not]
    omega
  unfold wrongR wrong
  by_cases h1 : s1 x = true
  · rw [if_pos h1]
    by_cases h2 : x.n < 1 ∨ 5 < x.n ∨ peerB x.n x.id 1 = false ∨ peerB x.n x.vote 0 = false ∨ peerB x.n x.boss 0 = false
    · rw [if_pos h2]
    · rw [if_neg h2, if_pos ((e1.1 h1).resolve_left h2)]
  rw [if_neg h1, if_neg (fun h => h1 (e1.2 (.inl h))), if_neg (fun h => h1 (e1.2 (.inr h)))]
  have ht : 0 ≤ x.term := by
    exact Decidable.byContradiction fun h => h1 (e1.2 (.inr (.inl (by omega))))
  clear e1
  have e3 : s3 x = true ↔ (x.role < 1 ∨ 3 < x.role ∨ (x.role ≠ 1 ∧ x.term = 0)) := by
    unfold s3 withinB
    simp only [Bool.or_eq_true, Bool.not_eq_true', Bool.and_eq_false_iff, decide_eq_false_iff_not, Bool.and_eq_true, beq_iff_eq, decide_eq_true_eq]
    omega
  by_cases h3 : s3 x = true
  · rw [if_pos h3, if_pos (e3.1 h3)]
  rw [if_neg h3, if_neg (fun h => h3 (e3.2 h))]
  by_cases h4 : 60 < x.log.length
  · rw [if_pos (by simp; omega), if_pos h4]
  rw [if_neg (by simp; omega), if_neg h4]
  have e5 : (!risesB x.log x.term) = true ↔ (rising x.log x.term = false ∨ (0 < x.log.length ∧ x.term = 0)) := by
    unfold risesB
    cases rising x.log x.term
    · simp
    · simp only [Bool.true_and, Bool.not_eq_true', Bool.or_eq_false_iff, decide_eq_false_iff_not, Bool.true_eq_false, false_or]
      omega
  by_cases h5 : (!risesB x.log x.term) = true
  · rw [if_pos h5, if_pos (e5.1 h5)]
  rw [if_neg h5, if_neg (fun h => h5 (e5.2 h))]
  have e6 : s6 x = true ↔ (0 < x.votes.length ∧ x.role ≠ 2) := by
    unfold s6
    simp only [Bool.and_eq_true, bne_iff_ne, decide_eq_true_eq]
    omega
  by_cases h6 : s6 x = true
  · rw [if_pos h6, if_pos (e6.1 h6)]
  rw [if_neg h6, if_neg (fun h => h6 (e6.2 h))]
  cases h7 : votesOk x.n 0 x.votes
  · simp
  simp only [Bool.not_true, Bool.false_eq_true, Bool.true_eq_false, if_false]
  have e8 : s8 x = true ↔ ((x.next.length : Int) ≠ (if x.role = 3 then x.n else 0) ∨ (x.mtch.length : Int) ≠ (if x.role = 3 then x.n else 0)) := by
    unfold s8
    simp only [Bool.or_eq_true, Bool.and_eq_true, beq_iff_eq, bne_iff_ne, decide_eq_true_eq]
    split <;> omega
  by_cases h8 : s8 x = true
  · rw [if_pos h8, if_pos (e8.1 h8)]
  rw [if_neg h8, if_neg (fun h => h8 (e8.2 h))]
  cases placesOk x.log.length x.next x.mtch <;> simp

theorem votesOk_step {n prev : Int} {l : List Int} {j : Nat} (hj : j < l.length) : votesOk n prev (l.drop j) = (withinB l[j] 1 n && decide (prev < l[j]) && votesOk n l[j] (l.drop (j + 1))) := by
  rw [List.drop_eq_getElem_cons hj]
  simp only [votesOk, peerB, withinB]

theorem placesOk_step {len : Int} {s t : List Int} {j : Nat} (hj : j < s.length) (hj' : j < t.length) : placesOk len (s.drop j) (t.drop j) = (withinB s[j] 1 (len + 1) && withinB t[j] 0 len && placesOk len (s.drop (j + 1)) (t.drop (j + 1))) := by
  rw [List.drop_eq_getElem_cons hj, List.drop_eq_getElem_cons hj']
  simp only [placesOk, withinB, Bool.and_assoc]
end Go.Proofs.Ytibjbpakbfodaaa
