/- Package math/big: a list of words times a word. -/
import Derived.Test.YthjokmfidhcclaaGreatDoorWordC
import Derived.Test.YthjokmfidhcclaaGreatDoorMulp
import Derived.Laws.Twins
import Derived.IntWalk
namespace Go.Proofs.YthjokmfidhcclaaGreatDoor
open Go.RowKit

/-- Ahead of step k: c is carried; y and r are the factor and what is added. -/
structure MulW (B : Nat) (l L0 : List Nat) (y r k c : Nat) (L : List Nat) : Prop where
  len : L.length = L0.length
  lt : ∀ x ∈ L.take k, x < B
  clt : c < B
  val : dval B (L.take k) + c * B ^ k = dval B (l.take k) * y + r

theorem MulW.start {B : Nat} {l L0 : List Nat} {y r : Nat} (hr : r < B) : MulW B l L0 y r 0 r L0 := ⟨rfl, by simp, hr, by simp [dval]⟩

theorem MulW.step {B : Nat} {l L0 : List Nat} {y r k c : Nat} {L : List Nat} (h : MulW B l L0 y r k c L) (hy : y < B) {x : Nat} (hx : l[k]? = some x) (hxl : x < B) (hk : k < L.length) :
    MulW B l L0 y r (k + 1) ((x * y + c) / B) (L.set k ((x * y + c) % B)) := by
  have hB : 0 < B := by omega
  have hc := carry_lt (y := 0) h.clt hxl hB hy
  rw [Nat.add_zero, Nat.add_comm c] at hc
  have ht : (L.set k ((x * y + c) % B)).take (k + 1) = L.take k ++ [(x * y + c) % B] := by
    rw [List.take_add_one, List.getElem?_set_self hk, List.take_set_of_le (Nat.le_refl _)]
    rfl
  refine ⟨by rw [List.length_set]; exact h.len, ?_, hc.2, ?_⟩
  · rw [ht]
    intro z hz
    rcases List.mem_append.1 hz with hz | hz
    · exact h.lt z hz
    · rw [List.mem_singleton.1 hz]; exact Nat.mod_lt _ hB
  · have h1 := h.val
    have h2 := dval_take_succ B l k x hx
    have h3 := Nat.mod_add_div (x * y + c) B
    rw [ht, dval_append, h2, List.length_take, Nat.min_eq_left (by omega)]
    simp only [dval, Nat.mul_zero, Nat.add_zero]
    generalize (x * y + c) % B = lo at *
    generalize (x * y + c) / B = hi at *
    generalize dval B (L.take k) = S at *
    generalize dval B (l.take k) = T at *
    rw [Nat.pow_succ]
    generalize B ^ k = P at *
    grind

set_option maxRecDepth 100000 in
set_option maxHeartbeats 2000000 in
theorem mulAddVWW_any {w : World} {g gx c cx : Nat} {L l : List Nat} {y r : Nat} (hb : Blk w g L) (hx : Buf w (.slice (some ⟨gx, 0, none⟩) l.length cx) l) (hne : gx ≠ g) (hll : l.length ≤ L.length) (hl : ∀ x ∈ l, x < 18446744073709551616) (hy : y < 18446744073709551616) (hr : r < 18446744073709551616) :
    Calls Tryz.prog 20 #[.slice (some ⟨g, 0, none⟩) l.length c, .slice (some ⟨gx, 0, none⟩) l.length cx, .int .u64 y, .int .u64 r] w fun e w' => ∃ cr L', e = .returned (.int .u64 ((cr : Nat) : Int)) ∧ Blk w' g L' ∧ MulW 18446744073709551616 l L y r l.length cr L' ∧ Keeps (fun k => k = g) w w' := by
  have HX := Lib.hid hx.cells
  have HL := Lib.hid hl
  have HB := Lib.hid hb
  have hlen : L.length ≤ 1000 := hb.2
  have HLL := Lib.hid (show ∀ (wr : World) (L' : List Nat) (k cr : Nat), Blk wr g L' → MulW 18446744073709551616 l L y r k cr L' → l.length ≤ L'.length from fun _ _ _ _ _ h => by rw [h.len]; exact hll)
  clear hb hx hl
  go_enter Tryz.func20, Tryz.ntmps20
  go_wp2_with fail
  go_loopw [8, 19] (fun cc i wr => ∃ (k cr : Nat) (L' : List Nat), k ≤ l.length ∧ i = .int .i64 k ∧ cc = .int .u64 cr ∧ Hid (Blk wr g L') ∧ Hid (MulW 18446744073709551616 l L y r k cr L') ∧ Hid (Keeps (fun j => j = g) w wr)) (fun _ i _ => l.length - (intOf i).toNat)
  case atStart => exact ⟨0, r, L, Nat.zero_le _, rfl, rfl, HB, Lib.hid (MulW.start hr), Lib.hid (Keeps.refl _ _)⟩
  case round =>
    obtain ⟨k, cr, L', hk, rfl, rfl, hbk, hm, hkp⟩ := hrel
    by_cases hlt : k < l.length
    · have hkL : k < L'.length := by have := HLL.out _ _ _ _ hbk.out hm.out; omega
      have hg : l[k]? = some l[k] := List.getElem?_eq_getElem hlt
      have hxl := HL.out _ (List.getElem_mem hlt)
      have hc0 : w.cell? ⟨gx, k, none⟩ = some (.int .u64 (l[k] : Int)) := by
        have := HX.out k _ (wcs_get hlt)
        rcases Nat.eq_zero_or_pos k with h0 | h0
        · subst h0; simpa [Addr.add] using this
        · simpa [Addr.add, show ¬ k = 0 by omega] using this
      have hc1 : wr.cell? ⟨gx, k, none⟩ = some (.int .u64 (l[k] : Int)) := hkp.out.cell hne hc0
      have hc2 := hbk.out.cell hkL
      have hfr := hbk.out.frozen k
      obtain ⟨x, hxe⟩ : ∃ x, l[k] = x := ⟨_, rfl⟩
      rw [hxe] at hg hxl hc1
      obtain ⟨u, hu⟩ : ∃ u, L'[k] = u := ⟨_, rfl⟩
      rw [hu] at hc2
      have HM := Lib.hid (mulAddWWW_any (w := wr) x y cr hxl hy hm.out.clt)
      have HST := Lib.hid (hm.out.step hy hg hxl hkL)
      obtain ⟨q, hq⟩ : ∃ q, (x * y + cr) / 18446744073709551616 = q := ⟨_, rfl⟩
      obtain ⟨d, hd⟩ : ∃ d, (x * y + cr) % 18446744073709551616 = d := ⟨_, rfl⟩
      rw [hq, hd] at HM HST
      have HBS := Lib.hid (hbk.out.set k d)
      have HKS := Lib.hid (hkp.out.setCell (p := ⟨g, k, none⟩) (.inl rfl) (.int .u64 (d : Int)))
      clear hc0 hq hd hbk hm hg hxe hu
      go_wp2_with (go_at_call 80; ((with_reducible refine HM.out.mono ?_); rintro e w2 ⟨rfl, rfl⟩))
      go_roundw
      case measure => simp [intOf]; omega
      case rel => exact ⟨k + 1, q, _, by omega, by go_num, rfl, HBS, HST, HKS⟩
    · obtain rfl : k = l.length := by omega
      go_wp2_with fail
      go_ret
      exact ⟨cr, L', rfl, hbk.out, hm.out, hkp.out⟩

theorem Tryz.mulAddVWW_enters (args : Array Value) (w : World) : (callFunc 85 args).run Tryz.prog w = .ok (.enter 20 args) w :=
  run_callFunc_twin (twin := "math/big.mulAddVWW_g") Tryz.func85 (by kernel_rfl) (by kernel_rfl) (by kernel_rfl) (by kernel_rfl) Tryz.func20 (by kernel_rfl) (by kernel_rfl) (by kernel_rfl) args w

end Go.Proofs.YthjokmfidhcclaaGreatDoor
