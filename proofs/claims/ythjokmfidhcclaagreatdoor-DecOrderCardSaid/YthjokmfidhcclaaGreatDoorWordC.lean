/- Package math/big: a list of words cut where its noughts begin; one word; a copy. -/
import Derived.Test.YthjokmfidhcclaaGreatDoorWordB
import Derived.Laws.CopyOwn
namespace Go.Proofs.YthjokmfidhcclaaGreatDoor
open Go.RowKit

set_option maxRecDepth 100000 in
set_option maxHeartbeats 2000000 in
theorem norm64_any {w : World} {g n : Nat} {L : List Nat} (h : Blk w g L) (hn : n ≤ L.length) (hd : ∀ x ∈ L.take n, x < 18446744073709551616) :
    Calls Tryz.prog 41 #[.slice (some ⟨g, 0, none⟩) n L.length] w fun e w' => ∃ k, e = .returned (.slice (some ⟨g, 0, none⟩) k L.length) ∧ BN w (.slice (some ⟨g, 0, none⟩) k L.length) (dval 18446744073709551616 (L.take n)) ∧ w' = w := by
  have fin : ∀ k : Nat, k ≤ n → (∀ j x, k ≤ j → (L.take n)[j]? = some x → x = 0) → (∀ x, 0 < k → (L.take n)[k - 1]? = some x → x ≠ 0) → BN w (.slice (some ⟨g, 0, none⟩) k L.length) (dval 18446744073709551616 (L.take n)) := fun k hk hz hl => by
    unfold BN
    rw [digs_cutV hd (by rw [List.length_take]; omega) hz hl, List.take_take, Nat.min_eq_left hk]
    exact Buf.take h (by omega)
  have FIN := Lib.hid fin
  have HB := Lib.hid h
  have hL := h.2
  clear hd fin h
  obtain ⟨c, hc⟩ : ∃ c, L.length = c := ⟨_, rfl⟩
  have HC := Lib.hid hc
  rw [hc] at hn hL FIN ⊢
  clear hc
  go_enter Tryz.func41, Tryz.ntmps41
  go_wp2
  go_loop [3] (fun i => ∃ k : Nat, k ≤ n ∧ i = .int .i64 k ∧ Hid (∀ (j x : Nat), k ≤ j → (L.take n)[j]? = some x → x = 0)) (fun i => (intOf i).toNat)
  case atStart => exact ⟨n, Nat.le_refl _, rfl, Lib.hid fun j x hj hx => by rw [List.getElem?_eq_none (by rw [List.length_take]; omega)] at hx; cases hx⟩
  case round =>
    obtain ⟨k, hk, rfl, hz⟩ := hrel
    rcases Nat.eq_zero_or_pos k with rfl | hk0
    · go_wp2
      go_ret
      exact ⟨0, rfl, FIN.out 0 (Nat.zero_le _) hz.out fun x h => by omega, rfl⟩
    · obtain ⟨q, rfl⟩ : ∃ q, k = q + 1 := ⟨k - 1, by omega⟩
      have hq : q < L.length := by have := HC.out; omega
      have h1 := HB.out.cell hq
      have HT := Lib.hid (show (L.take n)[q]? = some L[q] by rw [List.getElem?_take_of_lt (by omega), List.getElem?_eq_getElem hq])
      obtain ⟨x, hx⟩ : ∃ x, L[q] = x := ⟨_, rfl⟩
      rw [hx] at h1 HT
      clear hx
      cases hb : ((x : Int) == 0)
      · have hb' : x ≠ 0 := by simpa using hb
        have HF := Lib.hid (FIN.out (q + 1) hk hz.out fun y _ hy => by rw [Nat.add_sub_cancel, HT.out] at hy; injection hy with hy; rw [← hy]; exact hb')
        clear FIN hz hb'
        go_wp2
        go_ret
        exact ⟨q + 1, rfl, HF.out, rfl⟩
      · have hb' : x = 0 := by simpa using hb
        have HZ : Hid (∀ (j x : Nat), q ≤ j → (L.take n)[j]? = some x → x = 0) := Lib.hid fun j y hj hy => by
          rcases Nat.eq_or_lt_of_le hj with rfl | hlt
          · rw [HT.out] at hy
            injection hy with hy
            omega
          · exact hz.out j y hlt hy
        clear FIN hz hb'
        go_wp2
        go_round
        case rel => exact ⟨q, by omega, by go_num, HZ⟩
        case measure => simp [intOf]

/-- A new list of words. -/
def NewN (w : World) (n : Nat) (e : Ending) (w' : World) : Prop :=
  ∃ v, e = .returned v ∧ BN w' v n ∧ Keeps (fun _ => False) w w' ∧ (∀ g, v.ownBlock = some g → w.heap.size ≤ g)

set_option maxRecDepth 100000 in
set_option maxHeartbeats 2000000 in
theorem setWord_new {w : World} (x : Nat) (hx0 : 0 < x) (hx : x < 18446744073709551616) :
    Calls Tryz.prog 74 #[.slice none 0 0, .int .u64 x] w fun e w' => NewN w x e w' := by
  have HM := Lib.hid (show Calls Tryz.prog 38 #[.slice none 0 0, .int .i64 1] w (fun e w' => Made w (.slice none 0 0) 1 e w') from make_any (Buf.nil w) 1 (by omega) (by omega))
  have hb : ((x : Int) == 0) = false := by rw [beq_eq_false_iff_ne]; omega
  go_enter Tryz.func74, Tryz.ntmps74
  go_wp2_with (go_at_call 38; ((with_reducible refine HM.out.mono ?_); rintro e w1 ⟨g, L, rfl, hbk, hl, hk, hg⟩; have HB := Lib.hid hbk; have HK := Lib.hid hk; have HG := Lib.hid hg; have hcell := hbk.cell (j := 0) (by omega); have hfr := hbk.frozen 0; have hlt := hbk.lt; clear hbk hk hg))
  go_ret
  have hge : w.heap.size ≤ g := by
    rcases HG.out with h | h
    · cases h
    · exact h
  refine ⟨_, rfl, ?_, HK.out.setNew hge _, fun k hk => by cases hk; exact hge⟩
  unfold BN
  have hd : digs 18446744073709551616 x = [x] := by
    rw [digs_pos (by omega) hx0, Nat.mod_eq_of_lt hx, Nat.div_eq_of_lt hx, digs_zero]
  have h2 := HB.out.set 0 x
  have h3 := Buf.take h2 (m := 1) (by rw [List.length_set]; exact hl)
  rw [List.length_set] at h3
  rw [hd]
  obtain ⟨a, l, rfl⟩ : ∃ a l, L = a :: l := by
    cases L with
    | nil => simp at hl
    | cons a l => exact ⟨a, l, rfl⟩
  simpa using h3

theorem Buf.cells {w : World} {g n c : Nat} {l : List Nat} (h : Buf w (.slice (some ⟨g, 0, none⟩) n c) l) : ∀ j u, (wcs .u64 l)[j]? = some u → w.cell? ((⟨g, 0, none⟩ : Addr).add j) = some u := by
  rcases h with ⟨e, _⟩ | ⟨g', L, e, hb, ht⟩
  · injection e with e; cases e
  · injection e with e1 e2 e3
    injection e1 with e1
    injection e1 with e1
    subst e1
    intro j u hj
    have hjl : j < l.length := by
      have := (List.getElem?_eq_some_iff.1 hj).1
      rwa [wcs_length] at this
    rw [wcs_get hjl] at hj
    injection hj with hj
    subst hj
    have hL : L[j]? = some l[j] := by
      rw [← List.getElem?_take_of_lt (j := l.length) (by omega) , ht, List.getElem?_eq_getElem hjl]
    have hjL : j < L.length := (List.getElem?_eq_some_iff.1 hL).1
    have hc := hb.cell hjL
    rw [List.getElem?_eq_getElem hjL] at hL
    injection hL with hL
    rw [hL] at hc
    rcases Nat.eq_zero_or_pos j with rfl | h0
    · simpa [Addr.add] using hc
    · simpa [Addr.add, show ¬ j = 0 by omega] using hc

theorem Keeps.setRow {w w' : World} (h : Keeps (fun _ => False) w w') {g : Nat} (hg : w.heap.size ≤ g) (cs : Array Value) : Keeps (fun _ => False) w (w'.setRow g cs) :=
  ⟨h.os, h.tape, h.output, by rw [setRow_size]; exact h.size, fun k hk hs => by rw [setRow_other _ _ _ _ (by omega)]; exact h.block k hk hs⟩

set_option maxRecDepth 100000 in
set_option maxHeartbeats 2000000 in
theorem set_new {w : World} {vx : Value} {n : Nat} (hx : BN w vx n) (hn : 0 < n) (hl : (digs 18446744073709551616 n).length ≤ 100) :
    Calls Tryz.prog 37 #[.slice none 0 0, vx] w fun e w' => NewN w n e w' := by
  have hp : 0 < (digs 18446744073709551616 n).length := by rw [digs_pos (by omega) hn]; simp
  unfold BN at hx
  obtain ⟨gx, Lx, rfl, hbx, htx, hlx⟩ := hx.blk hp
  have HS := hx.cells
  unfold NewN BN
  generalize digs 18446744073709551616 n = l at *
  have HM := Lib.hid (make_any (Buf.nil w) l.length hp hl)
  have HSX := Lib.hid HS
  have HLX := Lib.hid (hbx.lt)
  have HBX := Lib.hid hx
  clear hbx htx HS hx
  generalize Lx.length = cx at *
  go_enter Tryz.func37, Tryz.ntmps37
  go_wp2_with (first | (go_at_call 38; ((with_reducible refine HM.out.mono ?_); rintro e w1 ⟨g, L, rfl, hbk, hlL, hk, hg⟩; have HB := Lib.hid hbk; have HB1 := Lib.hid hbk.1; have HK := Lib.hid hk; have HG := Lib.hid hg; have HSRC := Lib.hid (HBX.out.later hk).cells; clear hbk hk hg)) | ((with_reducible refine wpList_copy_own rfl _ _ 38 38 rfl 51 Tryz.underlying38 (by kernel_rfl) g 0 l.length L.length ⟨gx, 0, none⟩ l.length cx rfl rfl _ 51 HB1.out (wcs .u64 l) ?d1 HSRC.out ?d2 (wcs_one _ _) ?_); (case d1 => (rw [wcs_length]; exact (Nat.min_eq_left (by omega)).symm)); (case d2 => (simp only [wcs_length, List.size_toArray]; omega)); generalize hw6 : World.setRow w1 g _ = w6))
  have hge : w.heap.size ≤ g := by
    rcases HG.out with h | h
    · cases h
    · exact h
  go_ret
  have hblk : Blk w6 g (l ++ L.drop l.length) := by
    refine ⟨?_, by have := HB.out.2; simp; omega⟩
    rw [← hw6, setRow_heap _ _ _ _ _ _ HB.out.1]
    simp [wcs, List.map_drop]
  have hlen : (l ++ L.drop l.length).length = L.length := by simp; omega
  refine ⟨.slice (some ⟨g, 0, none⟩) l.length L.length, rfl, .inr ⟨g, _, by rw [hlen], hblk, by simp⟩, by rw [← hw6]; exact HK.out.setRow hge _, fun k hk => by cases hk; exact hge⟩

end Go.Proofs.YthjokmfidhcclaaGreatDoor
