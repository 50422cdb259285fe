/- Package verdictbig: a list of words cut where its noughts begin, copied, made of a number of 64 bits, read as one. Package verdictbig: a whole number that is given its words, made of a number of 64 bits; two lists of words compared; how many bits. Package verdictbig: two lists of words compared; two whole numbers compared. Package verdictbig: whole numbers and fractions as blocks of memory; a new whole number; its opposite's sign struck. -/
import Derived.Test.YtnihfhfakadepaaGreatDoorXKitA
import Derived.Test.YtnihfhfakadepaaGreatDoorXPlainA
import Derived.Laws.BitsAllLaws
import Derived.Laws.AppendOwnNone
import Derived.Deep.QuietTactic
import Derived.BigQuiet
import Derived.Deep.CutBlock
import Derived.Deep.DeepCutAuto
namespace Go.Proofs.YtnihfhfakadepaaGreatDoor
open Go.RowKit

/-- What is left of a list of digits where its noughts are cut is its number's own. -/
theorem digs_cut {l : List Nat} {k : Nat} (hd : ∀ x ∈ l, x < 4294967296) (hk : k ≤ l.length) (hz : ∀ j x, k ≤ j → l[j]? = some x → x = 0) (hl : ∀ x, 0 < k → l[k - 1]? = some x → x ≠ 0) :
    digs 4294967296 (dval 4294967296 l) = l.take k := by
  rw [← dval_take_zeros 4294967296 l k hz]
  apply digs_dval (by omega) _ fun x hx => hd x (List.mem_of_mem_take hx)
  intro x hx
  rw [List.getLast?_take] at hx
  split at hx
  · cases hx
  · rename_i h0
    rw [List.getElem?_eq_getElem (by omega)] at hx
    exact hl x (by omega) (by rw [List.getElem?_eq_getElem (by omega)]; simpa using hx)

set_option maxRecDepth 100000 in
set_option maxHeartbeats 2000000 in
theorem trim_any {w : World} {v : Value} {l : List Nat} (h : A32 w v l) (hd : ∀ x ∈ l, x < 4294967296) (hl : l.length ≤ 1000) :
    Calls Tryz.prog 83 #[v] w fun e w' => ∃ v', e = .returned v' ∧ N32 w v' (dval 4294967296 l) ∧ w' = w := by
  obtain ⟨A, c, rfl, hc, hm⟩ := h.slice
  have H := Lib.hid h
  have HD := Lib.hid hd
  clear h hd
  go_enter Tryz.func83, Tryz.ntmps83
  go_wp2
  go_loop [3] (fun i => ∃ k : Nat, k ≤ l.length ∧ i = .int .i64 k ∧ Hid (∀ (j x : Nat), k ≤ j → l[j]? = some x → x = 0)) (fun i => (intOf i).toNat)
  case atStart => exact ⟨l.length, Nat.le_refl _, rfl, Lib.hid fun j x hj hx => by rw [List.getElem?_eq_none (by omega)] at hx; cases hx⟩
  case round =>
    obtain ⟨k, hk, rfl, hz⟩ := hrel
    have fin : ∀ k : Nat, k ≤ l.length → (∀ j x, k ≤ j → l[j]? = some x → x = 0) → (∀ x, 0 < k → l[k - 1]? = some x → x ≠ 0) → N32 w (.slice A k c) (dval 4294967296 l) := fun k hk hz hl => by
      unfold N32
      rw [digs_cut HD.out hk hz hl]
      exact H.out.take k hk
    have FIN := Lib.hid fin
    clear fin
    rcases Nat.eq_zero_or_pos k with rfl | hk0
    · go_wp2
      go_ret
      exact ⟨_, rfl, FIN.out 0 (Nat.zero_le _) hz.out fun x h => by omega, rfl⟩
    · obtain ⟨q, rfl⟩ : ∃ q, k = q + 1 := ⟨k - 1, by omega⟩
      obtain ⟨g, rfl, hcell, _, _⟩ := H.out.cell (by omega)
      have h1 := hcell q (by omega)
      clear hcell
      cases hb : ((l[q]'(by omega) : Int) == 0)
      · have hb' : l[q]'(by omega) ≠ 0 := by simpa using hb
        have HF := Lib.hid (FIN.out (q + 1) hk hz.out fun x _ hx => by rw [Nat.add_sub_cancel, List.getElem?_eq_getElem (by omega)] at hx; injection hx with hx; rw [← hx]; exact hb')
        clear FIN hz hb'
        go_wp2
        go_ret
        exact ⟨_, rfl, HF.out, rfl⟩
      · have hb' : l[q]'(by omega) = 0 := by simpa using hb
        have HZ : Hid (∀ (j x : Nat), q ≤ j → l[j]? = some x → x = 0) := Lib.hid fun j x hj hx => by
          rcases Nat.eq_or_lt_of_le hj with rfl | hlt
          · rw [List.getElem?_eq_getElem (by omega)] at hx
            injection hx with hx
            omega
          · exact hz.out j x hlt hx
        clear FIN hz hb'
        go_wp2
        go_round
        case rel => exact ⟨q, by omega, by go_num, HZ⟩
        case measure => simp [intOf]

theorem Tryz.info119 : (Tryz.prog.info? 119).map (fun i => (i.zero, i.size, i.bytes)) = some (some (.int .u32 0), 1, 4) := by kernel_rfl

set_option maxRecDepth 100000 in
set_option maxHeartbeats 2000000 in
theorem twin_any {w : World} {v : Value} {l : List Nat} (h : A32 w v l) (hl : l.length ≤ 1000) :
    Calls Tryz.prog 74 #[v] w fun e w' => ∃ v', e = .returned v' ∧ A32 w' v' l ∧ Keeps (fun _ => False) w w' := by
  obtain ⟨i0, hi0, hz, hsz, hby⟩ := info_parts Tryz.info119
  have HI := Lib.hid hi0; have HZ := Lib.hid hz; have HS := Lib.hid hsz; have HB := Lib.hid hby
  clear hi0 hz hsz hby
  obtain ⟨A, c, rfl, hc, hm⟩ := h.slice
  cases hA : A with
  | none =>
    subst hA
    have h0 : l = [] := by
      rcases h.2 with ⟨_, e⟩ | ⟨g, _, _, e, _⟩
      · exact List.eq_nil_of_length_eq_zero e
      · injection e with e _ _; cases e
    have hc0 : c = 0 := by
      rcases h.2 with ⟨e, _⟩ | ⟨g, _, _, e, _⟩
      · injection e
      · injection e with e _ _; cases e
    subst h0 hc0
    simp only [List.length_nil]
    go_enter Tryz.func74, Tryz.ntmps74
    go_wp2_with (at_builtin; (refine wpList_append_own_none _ rfl _ _ 79 rfl 0 119 i0 1 Tryz.underlying79 HI.out (.slice none 0 0) 0 [] rfl (World.ownsRow_nil _ _ _ _) rfl ?_))
    go_ret
    exact ⟨_, rfl, Arr.nil _ _ _, Keeps.refl _ _⟩
  | some a =>
    subst hA
    have hcell : ∀ j u, (wcs .u32 l)[j]? = some u → w.cell? (a.add j) = some u := by
      rcases h.2 with ⟨e, _⟩ | ⟨g, cap, cur, e, _⟩
      · injection e with e _ _; cases e
      · injection e with e1 e2 e3
        injection e1 with e1
        subst e1
        exact fun j u hj => h.cells (g := g) rfl j u hj
    have HC := Lib.hid hcell
    clear hcell h
    go_enter Tryz.func74, Tryz.ntmps74
    go_wp2_with (at_builtin; (refine wpList_append_own _ rfl _ _ 79 rfl 0 119 i0 _ 1 4 Tryz.underlying79 HI.out HZ.out HS.out HB.out rfl (by decide) (.slice none 0 0) 0 [] rfl (World.ownsRow_nil _ _ _ _) a l.length c (wcs .u32 l) rfl (by rw [wcs_length, Nat.mul_one]) HC.out (wcs_one _ _) ?c2 ?c3 ?c4 ?_; (case c2 => (unfold maxLen; omega)); (case c3 => omega); (case c4 => omega); intro v' w1 hown hgrow _))
    have ho : A32 w1 v' l := Arr.of_own hown (by simp) (by simp)
    have hk : Keeps (fun _ => False) w w1 := Keeps.of_grown hgrow fun k hk => by simp [Value.ownBlock] at hk
    have HO := Lib.hid ho; have HK := Lib.hid hk
    clear ho hk hown hgrow
    go_wp2
    go_ret
    exact ⟨_, rfl, HO.out, HK.out⟩

theorem or_words (lo hi : Nat) (bl : lo < 4294967296) (bh : hi < 4294967296) : bits .or .u64 (lo : Int) ((hi : Int) * 4294967296) = (lo : Int) + (hi : Int) * 4294967296 := by
  have h := u64_or_nat lo (hi * 4294967296) (by omega) (by omega)
  have h2 := Nat.two_pow_add_eq_or_of_lt (i := 32) bl hi
  rw [show ((hi * 4294967296 : Nat) : Int) = (hi : Int) * 4294967296 by omega] at h
  rw [h, Nat.or_comm, show hi * 4294967296 = 2 ^ 32 * hi by omega, ← h2]
  omega

theorem digs_two (x : Nat) : dval 4294967296 [x % 4294967296, x / 4294967296] = x := by
  simp only [dval]
  omega

set_option maxRecDepth 100000 in
set_option maxHeartbeats 2000000 in
theorem words_any {w : World} (x : Nat) (hx : x < 18446744073709551616) :
    Calls Tryz.prog 82 #[.int .u64 (x : Int)] w fun e w' => ∃ v', e = .returned v' ∧ N32 w' v' x ∧ Keeps (fun _ => False) w w' := by
  obtain ⟨w1, hw1⟩ : ∃ w1, w.alloc (.cells #[.int .u32 ((x : Int) % 4294967296), .int .u32 ((x : Int) / 4294967296)] 119) = w1 := ⟨_, rfl⟩
  have ha : A32 w1 (.slice (some ⟨w.heap.size, 0, none⟩) 2 2) [x % 4294967296, x / 4294967296] := by
    rw [← hw1]
    refine Arr.of_own (World.ownsRow_lit (base := 0) (size := 1) w _ 2 (by omega) (by simp [maxLen]) (by simp)) rfl ?_
    simp [wcs]
  have hk : Keeps (fun _ => False) w w1 := by rw [← hw1]; exact (Keeps.refl _ _).alloc _
  have HT := Lib.hid (trim_any ha (by simp; omega) (by simp))
  have HK := Lib.hid hk
  clear ha hk
  go_enter Tryz.func82, Tryz.ntmps82
  go_wp2_with (go_at_call 83; refine HT.out.mono ?_; rintro e w' ⟨v', rfl, hn, rfl⟩)
  rw [digs_two] at hn
  go_ret
  exact ⟨_, rfl, hn, HK.out⟩

set_option maxRecDepth 100000 in
set_option maxHeartbeats 2000000 in
theorem plain_any {w : World} {v : Value} {n : Nat} (h : N32 w v n) (hn : n < 18446744073709551616) :
    Calls Tryz.prog 87 #[v] w fun e w' => e = .returned (.int .u64 (n : Int)) ∧ w' = w := by
  obtain ⟨A, c, rfl, hc, hm⟩ := h.slice
  rcases Nat.eq_zero_or_pos n with h0 | h0
  · subst h0
    have e0 : (digs 4294967296 0).length = 0 := by rw [digs_zero]; rfl
    rw [e0]
    clear h hc
    go_enter Tryz.func87, Tryz.ntmps87
    go_wp2
    go_ret
    exact ⟨rfl, rfl⟩
  · rcases Nat.lt_or_ge n 4294967296 with h1 | h1
    · have e1 : digs 4294967296 n = [n] := by rw [digs_pos (by omega) h0, Nat.div_eq_of_lt h1, digs_zero, Nat.mod_eq_of_lt h1]
      obtain ⟨g, rfl, hcell, _, _⟩ := h.cell (by rw [e1]; simp)
      have c0 := hcell 0 (by rw [e1]; simp)
      simp only [e1] at c0
      simp at c0
      rw [e1]
      clear h hc hcell e1
      go_enter Tryz.func87, Tryz.ntmps87
      go_wp2
      go_ret
      exact ⟨rfl, rfl⟩
    · have e1 : digs 4294967296 n = [n % 4294967296, n / 4294967296] := by
        rw [digs_pos (by omega) h0, digs_pos (by omega) (Nat.div_pos h1 (by omega)), Nat.div_eq_of_lt (by omega : n / 4294967296 < 4294967296), digs_zero, Nat.mod_eq_of_lt (by omega : n / 4294967296 < 4294967296)]
      obtain ⟨g, rfl, hcell, _, _⟩ := h.cell (by rw [e1]; simp)
      have c0 := hcell 0 (by rw [e1]; simp)
      have c1 := hcell 1 (by rw [e1]; simp)
      simp only [e1] at c0 c1
      simp at c0 c1
      rw [e1]
      clear h hc hcell e1
      obtain ⟨lo, hlo⟩ : ∃ lo, n % 4294967296 = lo := ⟨_, rfl⟩
      obtain ⟨hi, hhi⟩ : ∃ hi, n / 4294967296 = hi := ⟨_, rfl⟩
      rw [show ((n : Int) % 4294967296) = (lo : Int) by omega] at c0
      rw [show ((n : Int) / 4294967296) = (hi : Int) by omega] at c1
      have bl : lo < 4294967296 := by omega
      have bh : hi < 4294967296 := by omega
      have hor : bits .or .u64 (lo : Int) ((hi : Int) * 4294967296) = (n : Int) := by
        rw [or_words lo hi bl bh]
        omega
      clear hlo hhi h1 h0
      go_enter Tryz.func87, Tryz.ntmps87
      go_wp2
      go_ret
      exact ⟨rfl, rfl⟩

end Go.Proofs.YtnihfhfakadepaaGreatDoor
namespace Go.Proofs.YtnihfhfakadepaaGreatDoor
open Go.RowKit

/-- A number stands at the struct at (b, o): the words first, then the sign. -/
def Gave (w w' : World) (b o : Nat) (n : Int) : Prop :=
  ∃ w1 v, Keeps (fun _ => False) w w1 ∧ N32 w1 v n.natAbs ∧ w' = (w1.setCell ⟨b, o + 1, none⟩ v).setCell ⟨b, o, none⟩ (.bool (decide (n < 0)))

/-- The sign that a number is given. -/
def sgB (neg : Bool) (n : Nat) : Bool := neg && decide (0 < n)
theorem sgB_no (n : Nat) : sgB false n = false := rfl
theorem sgB_zero (b : Bool) : sgB b 0 = false := by cases b <;> rfl
theorem sgB_yes {n : Nat} (h : 0 < n) : sgB true n = true := by simp [sgB, h]
theorem sgB_int (n : Int) : sgB (decide (n < 0)) n.natAbs = decide (n < 0) := by
  by_cases h : n < 0
  · simp [sgB, h]; omega
  · simp [sgB, h]

/-- A cell that is there and may be written. -/
def Slot (w : World) (b o : Nat) : Prop := (∃ u, w.cell? ⟨b, o, none⟩ = some u) ∧ w.frozen? ⟨b, o, none⟩ = false

theorem digs_len_pos {n : Nat} (h : 0 < n) : 0 < (digs 4294967296 n).length := by rw [digs_pos (by omega) h]; simp

set_option maxRecDepth 100000 in
set_option maxHeartbeats 2000000 in
theorem give_any {w : World} {b o : Nat} {v : Value} {n : Nat} {neg : Bool} (h : N32 w v n) (s0 : Slot w b o) (s1 : Slot w b (o + 1)) :
    Calls Tryz.prog 73 #[.pointer (some ⟨b, o, none⟩), .bool neg, v] w fun e w' => e = .returned (.pointer (some ⟨b, o, none⟩)) ∧ w' = (w.setCell ⟨b, o + 1, none⟩ v).setCell ⟨b, o, none⟩ (.bool (sgB neg n)) := by
  obtain ⟨A, c, rfl, hc, hm⟩ := h.slice
  obtain ⟨⟨u0, c0⟩, f0⟩ := s0
  obtain ⟨⟨u1, c1⟩, f1⟩ := s1
  cases neg
  · rw [sgB_no]
    clear h hc hm
    generalize (digs 4294967296 n).length = m at *
    go_enter Tryz.func73, Tryz.ntmps73
    go_wp2
    go_ret
    exact ⟨rfl, rfl⟩
  · rcases Nat.eq_zero_or_pos n with h0 | h0
    · subst h0
      rw [show (digs 4294967296 0).length = 0 by rw [digs_zero]; rfl, sgB_zero]
      clear h hc hm
      go_enter Tryz.func73, Tryz.ntmps73
      go_wp2
      go_ret
      exact ⟨rfl, rfl⟩
    · have hp := digs_len_pos h0
      clear h hc hm
      generalize (digs 4294967296 n).length = m at *
      rw [sgB_yes h0]
      go_enter Tryz.func73, Tryz.ntmps73
      go_wp2
      go_ret
      exact ⟨rfl, rfl⟩

theorem Slot.later {w w' : World} {b o : Nat} (h : Slot w b o) (hk : Keeps (fun _ => False) w w') : Slot w' b o := by
  obtain ⟨⟨u, hu⟩, hf⟩ := h
  have hb := hk.block b (cell_lt hu) (fun h => h)
  exact ⟨⟨u, (World.cell?_of_block (a := ⟨b, o, none⟩) hb).trans hu⟩, (World.frozen?_of_block (a := ⟨b, o, none⟩) hb).trans hf⟩

theorem gave_of {w w1 : World} {b o : Nat} {v : Value} {n : Int} {neg : Bool} {m : Nat} (hk : Keeps (fun _ => False) w w1) (hv : N32 w1 v m) (hm : m = n.natAbs) (hn : neg = decide (n < 0)) :
    Gave w ((w1.setCell ⟨b, o + 1, none⟩ v).setCell ⟨b, o, none⟩ (.bool neg)) b o n :=
  ⟨w1, v, hk, hm ▸ hv, by rw [hn]⟩

set_option maxRecDepth 100000 in
set_option maxHeartbeats 2000000 in
theorem setInt64_any {w : World} {b o : Nat} (x : Int) (hx : -9223372036854775808 ≤ x) (hx2 : x ≤ 9223372036854775807) (s0 : Slot w b o) (s1 : Slot w b (o + 1)) :
    Calls Tryz.prog 72 #[.pointer (some ⟨b, o, none⟩), .int .i64 x] w fun e w' => e = .returned (.pointer (some ⟨b, o, none⟩)) ∧ Gave w w' b o x := by
  have S0 := Lib.hid s0; have S1 := Lib.hid s1
  clear s0 s1
  by_cases h0 : x < 0
  · obtain ⟨n, rfl⟩ : ∃ n : Nat, x = -(n : Int) := ⟨x.natAbs, by omega⟩
    have hwr : IntKind.u64.wrap (-IntKind.u64.wrap (-(n : Int))) = (n : Int) := by simp only [IntKind.wrap_u64]; omega
    have HW := Lib.hid (fun w : World => words_any (w := w) n (by omega))
    go_enter Tryz.func72, Tryz.ntmps72
    go_wp2_with (first | (go_at_call 82; refine (HW.out _).mono ?_; rintro e w1 ⟨v1, rfl, hn1, hk1⟩; have HN := Lib.hid hn1; have HK := Lib.hid hk1; clear hn1 hk1) | (go_at_call 73; refine (give_any HN.out (S0.out.later HK.out) (S1.out.later HK.out)).mono ?_; rintro e w2 ⟨rfl, hw2⟩; subst hw2))
    go_ret
    exact ⟨rfl, gave_of (m := n) (n := -(n : Int)) HK.out HN.out (by omega) (by by_cases h : 0 < n <;> simp [sgB, h])⟩
  · obtain ⟨n, rfl⟩ : ∃ n : Nat, x = (n : Int) := ⟨x.natAbs, by omega⟩
    have HW := Lib.hid (fun w : World => words_any (w := w) n (by omega))
    go_enter Tryz.func72, Tryz.ntmps72
    go_wp2_with (first | (go_at_call 82; refine (HW.out _).mono ?_; rintro e w1 ⟨v1, rfl, hn1, hk1⟩; have HN := Lib.hid hn1; have HK := Lib.hid hk1; clear hn1 hk1) | (go_at_call 73; refine (give_any HN.out (S0.out.later HK.out) (S1.out.later HK.out)).mono ?_; rintro e w2 ⟨rfl, hw2⟩; subst hw2))
    go_ret
    exact ⟨rfl, gave_of (m := n) (n := (n : Int)) HK.out HN.out (by omega) (by simp [sgB])⟩

/-- A whole number at a place in memory. -/
structure IntAt (w : World) (b o : Nat) (n : Int) : Prop where
  neg : w.cell? ⟨b, o, none⟩ = some (.bool (decide (n < 0)))
  fneg : w.frozen? ⟨b, o, none⟩ = false
  abs : ∃ v, w.cell? ⟨b, o + 1, none⟩ = some v ∧ N32 w v n.natAbs
  fabs : w.frozen? ⟨b, o + 1, none⟩ = false

set_option maxRecDepth 100000 in
set_option maxHeartbeats 2000000 in
theorem set_any {w : World} {b o b1 o1 : Nat} {n : Int} (h : IntAt w b1 o1 n) (hb : (digs 4294967296 n.natAbs).length ≤ 1000) (s0 : Slot w b o) (s1 : Slot w b (o + 1)) :
    Calls Tryz.prog 70 #[.pointer (some ⟨b, o, none⟩), .pointer (some ⟨b1, o1, none⟩)] w fun e w' => e = .returned (.pointer (some ⟨b, o, none⟩)) ∧ Gave w w' b o n := by
  obtain ⟨v, c1, hv⟩ := h.abs
  have c0 := h.neg
  have S0 := Lib.hid s0; have S1 := Lib.hid s1
  have HT := Lib.hid (fun (w' : World) (hk : Keeps (fun _ => False) w w') => twin_any (hv.later hk) hb)
  have HC := Lib.hid (fun (w' : World) (hk : Keeps (fun _ => False) w w') => (⟨hk.cell (fun h => h) c0, hk.cell (fun h => h) c1⟩ : w'.cell? ⟨b1, o1, none⟩ = some (.bool (decide (n < 0))) ∧ w'.cell? ⟨b1, o1 + 1, none⟩ = some v))
  clear s0 s1 hv h c0 c1
  go_enter Tryz.func70, Tryz.ntmps70
  go_wp2_with fail
  refine Wg.wp_region_first (C := fun w' => Keeps (fun _ => False) w w') (by kernel_rfl) 10 ?_
  have hk0 : Keeps (fun _ => False) w { w with drawn := w.drawn + 1 } := (Keeps.refl _ w).drew
  generalize { w with drawn := w.drawn + 1 } = W at *
  apply Wg.wpAnyP_stays (by kernel_rfl) [0, 1, 2, 3, 4, 5, 6, 7, 8] _ _ _ 3 _ hk0 (by kernel_rfl) ?hs ?hr
  case hs =>
    repeat (apply Wg.wpStays_step rfl rfl; (intro w' hw'; obtain ⟨d0, d1⟩ := HC.out w' hw'; clear hw'; go_simp; exact ⟨rfl, rfl⟩); go_simp)
    exact rfl
  case hr =>
    apply Wg.wpAnyP_one (i := 9) (fuel := 2) (by kernel_rfl) rfl rfl
    have hc := HT.out _ hk0
    go_simp
    refine Wg.plain_call hc ?_
    rintro e w1 ⟨v1, rfl, hn1, hk1⟩
    have hk2 := hk0.trans hk1 (fun _ h => .inl h)
    refine ⟨_, rfl, hk2, ?_⟩
    apply Wg.wpAnyP_one (i := 10) (fuel := 1) (by kernel_rfl) rfl rfl
    have hg := give_any (neg := decide (n < 0)) hn1 (S0.out.later hk2) (S1.out.later hk2)
    go_simp
    refine Wg.plain_call hg ?_
    rintro e w2 ⟨rfl, hw2⟩
    subst hw2
    refine ⟨_, rfl, trivial, ?_⟩
    apply Wg.wpAnyP_one (i := 11) (fuel := 0) (by kernel_rfl) rfl rfl
    go_simp
    refine ⟨trivial, by kernel_rfl, ?_⟩
    go_simp
    go_wp2_with fail
    go_ret
    exact ⟨rfl, gave_of hk2 hn1 rfl (sgB_int n)⟩

end Go.Proofs.YtnihfhfakadepaaGreatDoor
namespace Go.Proofs.YtnihfhfakadepaaGreatDoor
open Go.RowKit

theorem quiet_add {P : Program} {f : FuncId} {args : Array Value} {w : World} {a n : Nat} {v : Value}
    (h : Calls P f args (w.drewN (a + n)) fun e w' => e = .returned v ∧ ∃ m, w' = (w.drewN (a + n)).drewN m) :
    Calls P f args (w.drewN (a + n)) fun e w'' => e = .returned v ∧ ∃ m, w'' = w.drewN (a + m) :=
  h.mono fun _ _ ⟨he, m, hm⟩ => ⟨he, n + m, by rw [hm, World.drewN_drewN, Nat.add_assoc]⟩

set_option maxRecDepth 100000 in
set_option maxHeartbeats 2000000 in
theorem cmpw_any {w : World} {v1 v2 : Value} {n m : Nat} (h1 : N32 w v1 n) (h2 : N32 w v2 m) (hl : (digs 4294967296 n).length ≤ 1000) :
    Calls Tryz.prog 75 #[v1, v2] w fun e w' => e = .returned (.int .i64 (cmpN n m)) ∧ ∃ q, w' = w.drewN q := by
  obtain ⟨A, c, rfl, _, _⟩ := h1.slice
  obtain ⟨A2, c2, rfl, _, _⟩ := h2.slice
  by_cases hlt : (digs 4294967296 n).length < (digs 4294967296 m).length
  · rw [cmpN_lt (digs_len_lt (by omega) hlt)]
    clear h1 h2
    generalize (digs 4294967296 n).length = x at *
    generalize (digs 4294967296 m).length = y at *
    have hne : ((x : Int) != (y : Int)) = true := by simp; omega
    go_enter Tryz.func75, Tryz.ntmps75
    go_wp2
    go_ret
    exact ⟨rfl, 0, rfl⟩
  by_cases hgt : (digs 4294967296 m).length < (digs 4294967296 n).length
  · rw [cmpN_gt (digs_len_lt (by omega) hgt)]
    clear h1 h2
    generalize (digs 4294967296 n).length = x at *
    generalize (digs 4294967296 m).length = y at *
    have hne : ((x : Int) != (y : Int)) = true := by simp; omega
    go_enter Tryz.func75, Tryz.ntmps75
    go_wp2
    go_ret
    exact ⟨rfl, 0, rfl⟩
  have hN := Lib.hid (dval_digs (B := 4294967296) (by omega) n)
  have hM := Lib.hid (dval_digs (B := 4294967296) (by omega) m)
  have hA := Lib.hid (digs_lt (B := 4294967296) (by omega) n)
  have hB := Lib.hid (digs_lt (B := 4294967296) (by omega) m)
  unfold N32 at h1 h2
  generalize digs 4294967296 n = a at *
  generalize digs 4294967296 m = b at *
  obtain ⟨L, hL⟩ : ∃ L, a.length = L := ⟨_, rfl⟩
  have hL2 : b.length = L := by omega
  rw [hL] at hl
  rw [hL, hL2]
  have HL := Lib.hid hL; have HL2 := Lib.hid hL2
  have H1 := Lib.hid h1; have H2 := Lib.hid h2
  clear hL hL2 hlt hgt h1 h2
  go_enter Tryz.func75, Tryz.ntmps75
  go_wp2
  go_loopw [5] (fun i wr => ∃ (k : Nat) (q : Nat), k ≤ L ∧ i = .int .i64 ((k : Int) - 1) ∧ wr = w.drewN q ∧ Hid (a.drop k = b.drop k)) (fun i _ => (intOf i + 1).toNat)
  case atStart => exact ⟨L, 0, Nat.le_refl _, rfl, rfl, Lib.hid (by rw [List.drop_of_length_le (by have := HL.out; omega), List.drop_of_length_le (by have := HL2.out; omega)])⟩
  case round =>
    obtain ⟨k, q, hk, rfl, rfl, he⟩ := hrel
    rcases Nat.eq_zero_or_pos k with rfl | hk0
    · have hz : Hid (cmpN n m = 0) := Lib.hid (by
        have e := he.out
        simp only [List.drop_zero] at e
        rw [← hN.out, ← hM.out, e, cmpN_eq])
      clear he
      go_wp2
      go_ret
      exact ⟨ret_int hz.out.symm, q, rfl⟩
    · obtain ⟨j, rfl⟩ : ∃ j, k = j + 1 := ⟨k - 1, by omega⟩
      rw [show (((j + 1 : Nat) : Int) - 1) = (j : Int) by omega]
      obtain ⟨g, rfl, hcell, _, _⟩ := H1.out.cell (by have := HL.out; omega)
      obtain ⟨g2, rfl, hcell2, _, _⟩ := H2.out.cell (by have := HL2.out; omega)
      have hja : j < a.length := by have := HL.out; omega
      have hjb : j < b.length := by have := HL2.out; omega
      have d1 := hcell j hja
      have d2 := hcell2 j hjb
      have ga : a[j]? = some a[j] := List.getElem?_eq_getElem hja
      have gb : b[j]? = some b[j] := List.getElem?_eq_getElem hjb
      have ka := List.drop_eq_getElem_cons hja
      have kb := List.drop_eq_getElem_cons hjb
      generalize a[j] = x at *
      generalize b[j] = y at *
      clear hcell hcell2
      have hst : Hid (x = y → a.drop j = b.drop j) := Lib.hid fun e => by rw [ka, kb, he.out, e]
      have hlt : Hid (x < y → cmpN n m = -1) := Lib.hid fun e => by rw [← hN.out, ← hM.out]; exact cmpN_lt (dval_less (by omega) hA.out ga gb he.out e)
      have hgt : Hid (y < x → cmpN n m = 1) := Lib.hid fun e => by rw [← hN.out, ← hM.out]; exact cmpN_gt (dval_less (by omega) hB.out gb ga he.out.symm e)
      clear ga gb ka kb he hja hjb H1 H2
      rcases Nat.lt_trichotomy x y with h | h | h
      · have b1 : ((x : Int) != (y : Int)) = true := by simp; omega
        go_upto_region 8 with fail
        go_quiet (fail)
        go_upto_region 9 with fail
        go_quiet (fail)
        go_wp2_with fail
        go_ret
        exact ⟨ret_int (hlt.out h).symm, _, by rw [World.drewN_drewN, World.drewN_drewN]⟩
      · subst h
        have HS := Lib.hid (hst.out rfl)
        clear hst hlt hgt
        go_upto_region 8 with fail
        go_quiet (fail)
        go_wp2_with fail
        go_roundw
        case measure => simp [intOf]
        case rel => exact ⟨j, _, by omega, by go_num, rfl, HS⟩
      · have b1 : ((x : Int) != (y : Int)) = true := by simp; omega
        go_upto_region 8 with fail
        go_quiet (fail)
        go_upto_region 9 with fail
        go_quiet (fail)
        go_wp2_with fail
        go_ret
        exact ⟨ret_int (hgt.out h).symm, _, by rw [World.drewN_drewN, World.drewN_drewN]⟩

theorem cmpN_bd (n m : Nat) : -1 ≤ cmpN n m ∧ cmpN n m ≤ 1 := by unfold cmpN; split <;> (try split) <;> omega
theorem cmpI_neg_pos {x y : Int} (h : x < 0) (h2 : ¬ y < 0) : cmpI x y = -1 := by unfold cmpI; rw [if_pos (by omega)]
theorem cmpI_pos_neg {x y : Int} (h : ¬ x < 0) (h2 : y < 0) : cmpI x y = 1 := by unfold cmpI; rw [if_neg (by omega), if_neg (by omega)]
theorem cmpI_pos {x y : Int} (h : ¬ x < 0) (h2 : ¬ y < 0) : cmpI x y = cmpN x.natAbs y.natAbs := by
  unfold cmpI cmpN
  split <;> split <;> (try split) <;> (try split) <;> omega
theorem cmpI_neg {x y : Int} (h : x < 0) (h2 : y < 0) : cmpI x y = - cmpN x.natAbs y.natAbs := by
  unfold cmpI cmpN
  split <;> split <;> (try split) <;> (try split) <;> omega

set_option maxRecDepth 100000 in
set_option maxHeartbeats 2000000 in
theorem icmp_any {w : World} {b1 o1 b2 o2 : Nat} {x y : Int} (h1 : IntAt w b1 o1 x) (h2 : IntAt w b2 o2 y) (hl : (digs 4294967296 x.natAbs).length ≤ 1000) :
    Calls Tryz.prog 57 #[.pointer (some ⟨b1, o1, none⟩), .pointer (some ⟨b2, o2, none⟩)] w fun e w' => e = .returned (.int .i64 (cmpI x y)) ∧ ∃ q, w' = w.drewN q := by
  obtain ⟨v1, c1, hv1⟩ := h1.abs
  obtain ⟨v2, c2, hv2⟩ := h2.abs
  have a1 := h1.neg
  have a2 := h2.neg
  have HC := Lib.hid (fun q => cmpw_any (w := w.drewN q) (v1 := v1) (v2 := v2) (n := x.natAbs) (m := y.natAbs) hv1 hv2 hl)
  clear h1 h2 hv1 hv2 hl
  by_cases n1 : x < 0
  · by_cases n2 : y < 0
    · have HR := Lib.hid (cmpI_neg n1 n2)
      have hb := cmpN_bd x.natAbs y.natAbs
      generalize cmpN x.natAbs y.natAbs = c at *
      rw [decide_eq_true n1] at a1
      rw [decide_eq_true n2] at a2
      clear n1 n2
      go_enter Tryz.func57, Tryz.ntmps57
      go_upto_region 1 with fail
      go_quiet (fail)
      go_upto_region 5 with fail
      go_quiet ((go_at_call 75; exact quiet_add (HC.out _)))
      go_wp2_with fail
      go_ret
      exact ⟨ret_int HR.out.symm, _, rfl⟩
    · have HR := Lib.hid (cmpI_neg_pos n1 n2)
      rw [decide_eq_true n1] at a1
      rw [decide_eq_false n2] at a2
      clear n1 n2
      go_enter Tryz.func57, Tryz.ntmps57
      go_upto_region 1 with fail
      go_quiet (fail)
      go_wp2_with fail
      go_ret
      exact ⟨ret_int HR.out.symm, _, rfl⟩
  · by_cases n2 : y < 0
    · have HR := Lib.hid (cmpI_pos_neg n1 n2)
      rw [decide_eq_false n1] at a1
      rw [decide_eq_true n2] at a2
      clear n1 n2
      go_enter Tryz.func57, Tryz.ntmps57
      go_upto_region 1 with fail
      go_quiet (fail)
      go_wp2_with fail
      go_ret
      exact ⟨ret_int HR.out.symm, _, rfl⟩
    · have HR := Lib.hid (cmpI_pos n1 n2)
      have hb := cmpN_bd x.natAbs y.natAbs
      generalize cmpN x.natAbs y.natAbs = c at *
      rw [decide_eq_false n1] at a1
      rw [decide_eq_false n2] at a2
      clear n1 n2
      go_enter Tryz.func57, Tryz.ntmps57
      go_upto_region 1 with fail
      go_quiet (fail)
      go_upto_region 5 with fail
      go_quiet ((go_at_call 75; exact quiet_add (HC.out _)))
      go_wp2_with fail
      go_ret
      exact ⟨ret_int HR.out.symm, _, rfl⟩

end Go.Proofs.YtnihfhfakadepaaGreatDoor
namespace Go.Proofs.YtnihfhfakadepaaGreatDoor
open Go.RowKit

theorem row_lt {w : World} {b : Nat} {o : Obj} (h : w.heap[b]? = some o) : b < w.heap.size := (Array.getElem?_eq_some_iff.1 h).1

/-- A whole number in a block of its own. -/
def BInt (w : World) (p : Nat) (n : Int) : Prop := ∃ v, w.heap[p]? = some (.cells #[.bool (decide (n < 0)), v] 81 (0, 0)) ∧ N32 w v n.natAbs
/-- A fraction in a block of its own. -/
def BRat (w : World) (p : Nat) (a b : Int) : Prop := ∃ va vb, w.heap[p]? = some (.cells #[.bool (decide (a < 0)), va, .bool (decide (b < 0)), vb] 83 (0, 0)) ∧ N32 w va a.natAbs ∧ N32 w vb b.natAbs

theorem BInt.lt {w : World} {p : Nat} {n : Int} (h : BInt w p n) : p < w.heap.size := by obtain ⟨v, h, _⟩ := h; exact row_lt h
theorem BRat.lt {w : World} {p : Nat} {a b : Int} (h : BRat w p a b) : p < w.heap.size := by obtain ⟨_, _, h, _⟩ := h; exact row_lt h

theorem BInt.at_ {w : World} {p : Nat} {n : Int} (h : BInt w p n) : IntAt w p 0 n := by
  obtain ⟨v, hb, hv⟩ := h
  exact ⟨cell_of_row w p 0 _ _ _ hb, frozen_of_row w p 0 _ _ hb, ⟨v, cell_of_row w p 1 _ _ _ hb, hv⟩, frozen_of_row w p 1 _ _ hb⟩
theorem BRat.a {w : World} {p : Nat} {a b : Int} (h : BRat w p a b) : IntAt w p 0 a := by
  obtain ⟨va, vb, hb, hv, _⟩ := h
  exact ⟨cell_of_row w p 0 _ _ _ hb, frozen_of_row w p 0 _ _ hb, ⟨va, cell_of_row w p 1 _ _ _ hb, hv⟩, frozen_of_row w p 1 _ _ hb⟩
theorem BRat.b {w : World} {p : Nat} {a b : Int} (h : BRat w p a b) : IntAt w p 2 b := by
  obtain ⟨va, vb, hb, _, hv⟩ := h
  exact ⟨cell_of_row w p 2 _ _ _ hb, frozen_of_row w p 2 _ _ hb, ⟨vb, cell_of_row w p 3 _ _ _ hb, hv⟩, frozen_of_row w p 3 _ _ hb⟩

theorem slot_of {w : World} {p o : Nat} {cs : Array Value} {t : TypeId} (h : w.heap[p]? = some (.cells cs t (0, 0))) (ho : o < cs.size) : Slot w p o :=
  ⟨⟨cs[o], by rw [cell_of_row w p o _ _ _ h]; exact Array.getElem?_eq_getElem ho⟩, frozen_of_row w p o _ _ h⟩

/-- A list of words is not in a struct's block. -/
theorem N32.ne {w : World} {v : Value} {n p : Nat} {cs : Array Value} {t : TypeId} (h : N32 w v n) (hb : w.heap[p]? = some (.cells cs t (0, 0))) (ht : (119 : Nat) ≠ t) : ∀ g, v.ownBlock = some g → g ≠ p := fun _ hg => own_ne_blk h hb ht hg

theorem N32.keepS {w w' : World} {v : Value} {n p : Nat} {cs : Array Value} {t : TypeId} (h : N32 w v n) (hb : w.heap[p]? = some (.cells cs t (0, 0))) (ht : (119 : Nat) ≠ t) (hk : Keeps (fun k => k = p) w w') : N32 w' v n :=
  Arr.kept h fun g hg => hk.block g (h.lt hg) (h.ne hb ht g hg)
theorem N32.later {w w' : World} {v : Value} {n : Nat} (h : N32 w v n) (hk : Keeps (fun _ => False) w w') : N32 w' v n := Arr.later h hk

theorem BInt.later {w w' : World} {p : Nat} {n : Int} (h : BInt w p n) (hk : Keeps (fun _ => False) w w') : BInt w' p n := by
  obtain ⟨v, hb, hv⟩ := h
  exact ⟨v, hk.blk hb, hv.later hk⟩
theorem BRat.later {w w' : World} {p : Nat} {a b : Int} (h : BRat w p a b) (hk : Keeps (fun _ => False) w w') : BRat w' p a b := by
  obtain ⟨va, vb, hb, h1, h2⟩ := h
  exact ⟨va, vb, hk.blk hb, h1.later hk, h2.later hk⟩
theorem IntAt.later {w w' : World} {b o : Nat} {n : Int} (h : IntAt w b o n) (hk : Keeps (fun _ => False) w w') : IntAt w' b o n := by
  obtain ⟨v, hv, hn⟩ := h.abs
  have hb := hk.block b (cell_lt h.neg) (fun h => h)
  exact ⟨hk.cell (fun h => h) h.neg, (World.frozen?_of_block (a := ⟨b, o, none⟩) hb).trans h.fneg, ⟨v, hk.cell (fun h => h) hv, N32.later hn hk⟩, (World.frozen?_of_block (a := ⟨b, o + 1, none⟩) hb).trans h.fabs⟩
theorem Slot.of_int {w : World} {b o : Nat} {n : Int} (h : IntAt w b o n) : Slot w b o ∧ Slot w b (o + 1) := by
  obtain ⟨v, hv, _⟩ := h.abs
  exact ⟨⟨⟨_, h.neg⟩, h.fneg⟩, ⟨⟨v, hv⟩, h.fabs⟩⟩

theorem BInt.other {w w' : World} {p q : Nat} {n : Int} {cs : Array Value} {t : TypeId} (h : BInt w p n) (hb : w.heap[q]? = some (.cells cs t (0, 0))) (ht : (119 : Nat) ≠ t) (hk : Keeps (fun k => k = q) w w') (hne : p ≠ q) : BInt w' p n := by
  obtain ⟨v, hp, hv⟩ := h
  exact ⟨v, (hk.block p (row_lt hp) hne).trans hp, hv.keepS hb ht hk⟩
theorem BRat.other {w w' : World} {p q : Nat} {a b : Int} {cs : Array Value} {t : TypeId} (h : BRat w p a b) (hb : w.heap[q]? = some (.cells cs t (0, 0))) (ht : (119 : Nat) ≠ t) (hk : Keeps (fun k => k = q) w w') (hne : p ≠ q) : BRat w' p a b := by
  obtain ⟨va, vb, hp, h1, h2⟩ := h
  exact ⟨va, vb, (hk.block p (row_lt hp) hne).trans hp, h1.keepS hb ht hk, h2.keepS hb ht hk⟩

/-- What was given, in the block. -/
theorem Gave.block {w w' : World} {b o : Nat} {n : Int} (h : Gave w w' b o n) {cs : Array Value} {t : TypeId} (hb : w.heap[b]? = some (.cells cs t (0, 0))) (ht : (119 : Nat) ≠ t) :
    ∃ v, w'.heap[b]? = some (.cells ((cs.setIfInBounds (o + 1) v).setIfInBounds o (.bool (decide (n < 0)))) t (0, 0)) ∧ N32 w' v n.natAbs ∧ Keeps (fun k => k = b) w w' := by
  obtain ⟨w1, v, hk, hv, rfl⟩ := h
  have hb1 := hk.blk hb
  have hk2 : Keeps (fun k => k = b) w1 ((w1.setCell ⟨b, o + 1, none⟩ v).setCell ⟨b, o, none⟩ (.bool (decide (n < 0)))) := ((Keeps.refl (fun k => k = b) w1).setCell (p := ⟨b, o + 1, none⟩) (.inl rfl) v).setCell (p := ⟨b, o, none⟩) (.inl rfl) _
  exact ⟨v, setCell_blk (setCell_blk hb1), hv.keepS hb1 ht hk2, (hk.mono (S' := fun k => k = b) fun _ h => h.elim).trans hk2 fun _ h => .inl h⟩

theorem Gave.bint {w w' : World} {p : Nat} {n : Int} (h : Gave w w' p 0 n) {u0 u1 : Value} (hb : w.heap[p]? = some (.cells #[u0, u1] 81 (0, 0))) : BInt w' p n ∧ Keeps (fun k => k = p) w w' := by
  obtain ⟨v, h1, h2, h3⟩ := h.block hb (by decide)
  exact ⟨⟨v, h1, h2⟩, h3⟩

/-- A block that was not there: nothing that was there has turned. -/
theorem Keeps.fresh {w w1 w' : World} {p : Nat} (h1 : Keeps (fun _ => False) w w1) (h : Keeps (fun k => k = p) w1 w') (hp : w.heap.size ≤ p) : Keeps (fun _ => False) w w' :=
  h1.trans h fun _ hk => .inr (hk ▸ hp)

set_option maxRecDepth 100000 in
set_option maxHeartbeats 2000000 in
theorem newInt_any {w : World} (x : Int) (hx : -9223372036854775808 ≤ x) (hx2 : x ≤ 9223372036854775807) :
    Calls Tryz.prog 52 #[.int .i64 x] w fun e w' => ∃ p, e = .returned (.pointer (some ⟨p, 0, none⟩)) ∧ BInt w' p x ∧ Keeps (fun _ => False) w w' ∧ w.heap.size ≤ p := by
  obtain ⟨w1, hw1⟩ : ∃ w1, w.alloc (.cells #[.bool false, .slice none 0 0] 81) = w1 := ⟨_, rfl⟩
  obtain ⟨p, hp⟩ : ∃ p, w.heap.size = p := ⟨_, rfl⟩
  have hb : w1.heap[p]? = some (.cells #[.bool false, .slice none 0 0] 81 (0, 0)) := by rw [← hw1, ← hp]; exact heap_alloc_new _ _
  have hk : Keeps (fun _ => False) w w1 := by rw [← hw1]; exact (Keeps.refl _ _).alloc _
  have HS := Lib.hid (setInt64_any x hx hx2 (slot_of hb (o := 0) (by simp)) (slot_of hb (o := 0 + 1) (by simp)))
  have HB := Lib.hid hb; have HK := Lib.hid hk
  clear hb hk
  go_enter Tryz.func52, Tryz.ntmps52
  go_wp2_with (go_at_call 72; refine HS.out.mono ?_; rintro e w2 ⟨rfl, hg⟩)
  obtain ⟨h1, h2⟩ := hg.bint HB.out
  go_ret
  exact ⟨p, rfl, h1, HK.out.fresh h2 (by omega), by omega⟩

set_option maxRecDepth 100000 in
set_option maxHeartbeats 2000000 in
theorem abs_any {w : World} {b o b1 o1 : Nat} {n : Int} (h : IntAt w b1 o1 n) (hl : (digs 4294967296 n.natAbs).length ≤ 1000) (s0 : Slot w b o) (s1 : Slot w b (o + 1)) :
    Calls Tryz.prog 55 #[.pointer (some ⟨b, o, none⟩), .pointer (some ⟨b1, o1, none⟩)] w fun e w' => e = .returned (.pointer (some ⟨b, o, none⟩)) ∧ Gave w w' b o n.natAbs := by
  obtain ⟨v, c1, hv⟩ := h.abs
  have HT := Lib.hid (twin_any hv hl)
  have S0 := Lib.hid s0; have S1 := Lib.hid s1
  clear h hv hl s0 s1
  go_enter Tryz.func55, Tryz.ntmps55
  go_wp2_with (first | (go_at_call 74; refine HT.out.mono ?_; rintro e w1 ⟨v1, rfl, hn1, hk1⟩; have HN := Lib.hid (show N32 w1 v1 n.natAbs from hn1); have HK := Lib.hid hk1; clear hn1 hk1) | (go_at_call 73; refine (give_any HN.out (S0.out.later HK.out) (S1.out.later HK.out)).mono ?_; rintro e w2 ⟨rfl, hw2⟩; subst hw2))
  go_ret
  exact ⟨rfl, gave_of HK.out HN.out rfl (by simp [sgB])⟩

end Go.Proofs.YtnihfhfakadepaaGreatDoor
