/- Package math/big: the product of two lists of words, the plain way. -/
import Derived.Test.YthjokmfidhcclaaGreatDoorWordF
import Derived.Lib.SliceRun
namespace Go.Proofs.YthjokmfidhcclaaGreatDoor
open Go.RowKit

theorem MulOut.skip {B : Nat} {a b : List Nat} {i : Nat} {rs : List Nat} (h : MulOut B a b i rs) (hx : a[i]? = some 0) : MulOut B a b (i + 1) rs :=
  ⟨h.len, h.lt, by rw [h.val, dval_take_succ B a i 0 hx]; simp, fun k u hk hu => h.zero k u (by omega) hu⟩

theorem MulIn.leaveT {B : Nat} {a b : List Nat} {i c x N : Nat} {L L0 : List Nat} (h0 : MulOut B a b i (L0.take N)) (h : MulIn B a b i b.length c (dval B (L0.take N)) x (L.take N)) (hx : a[i]? = some x) : MulOut B a b (i + 1) ((L.set (i + b.length) c).take N) := by
  have := h.leave h0 hx
  rwa [List.take_set]

theorem Blk.wiped {g : Nat} : ∀ (n o : Nat) (w : World) (L : List Nat), Blk w g L → o + n ≤ L.length →
    ∃ L', Blk (w.setCells g o (List.replicate n (.int .u64 0))) g L' ∧ L'.length = L.length ∧ (∀ j, j < o → L'[j]? = L[j]?) ∧ (∀ j, o ≤ j → j < o + n → L'[j]? = some 0)
  | 0, o, w, L, h, _ => ⟨L, h, rfl, fun _ _ => rfl, fun j h1 h2 => by omega⟩
  | n + 1, o, w, L, h, hl => by
    have h2 := h.set o 0
    obtain ⟨L', h3, h4, h5, h6⟩ := Blk.wiped n (o + 1) _ _ h2 (by rw [List.length_set]; omega)
    refine ⟨L', h3, by rw [h4, List.length_set], fun j hj => ?_, fun j h1 h2 => ?_⟩
    · rw [h5 j (by omega), List.getElem?_set_ne (by omega)]
    · rcases Nat.eq_or_lt_of_le h1 with rfl | h1
      · rw [h5 o (by omega), List.getElem?_set_self (by omega)]
      · exact h6 j (by omega) (by omega)

theorem Keeps.setCells {S : Nat → Prop} {w : World} {g : Nat} (hg : S g) : ∀ (vs : List Value) (o : Nat) (w2 : World), Keeps S w w2 → Keeps S w (w2.setCells g o vs)
  | [], _, _, h => h
  | v :: r, o, _, h => Keeps.setCells hg r (o + 1) _ (h.setCell (p := ⟨g, o, none⟩) (.inl hg) v)

theorem wiped_start {w : World} {g N : Nat} {L a b : List Nat} (h : Blk w g L) (hN : N ≤ L.length) (hab : N = a.length + b.length) :
    ∃ L', Blk (w.setCells g 0 (List.replicate N (.int .u64 0))) g L' ∧ L'.length = L.length ∧ MulOut 18446744073709551616 a b 0 (L'.take N) := by
  obtain ⟨L', h1, h2, _, h3⟩ := Blk.wiped N 0 w L h (by omega)
  refine ⟨L', h1, h2, ?_⟩
  have : L'.take N = List.replicate N 0 := by
    apply List.ext_getElem?
    intro j
    by_cases hj : j < N
    · rw [List.getElem?_take_of_lt hj, h3 j (by omega) (by omega), List.getElem?_replicate, if_pos hj]
    · rw [List.getElem?_eq_none (by rw [List.length_take]; omega), List.getElem?_eq_none (by rw [List.length_replicate]; omega)]
  rw [this, hab]
  exact MulOut.start (by omega)

theorem Tryz.zero117 (w : World) : (zeroValue 51).run Tryz.prog w = .ok (.int .u64 0) w := by simp [zeroValue]; rfl

set_option maxRecDepth 100000 in
set_option maxHeartbeats 4000000 in
theorem basicMul_any {w : World} {g gx gy cx cy N : Nat} {L a b : List Nat} (hb : Blk w g L) (hx : Buf w (.slice (some ⟨gx, 0, none⟩) b.length cx) b) (hy : Buf w (.slice (some ⟨gy, 0, none⟩) a.length cy) a) (hnx : gx ≠ g) (hny : gy ≠ g) (hN : N ≤ L.length) (hab : N = a.length + b.length) (hb0 : 0 < b.length)
    (hbl : ∀ z ∈ b, z < 18446744073709551616) (hal : ∀ z ∈ a, z < 18446744073709551616) :
    Calls Tryz.prog 59 #[.slice (some ⟨g, 0, none⟩) N L.length, .slice (some ⟨gx, 0, none⟩) b.length cx, .slice (some ⟨gy, 0, none⟩) a.length cy] w fun e w' => e = .returned (.tuple #[]) ∧ ∃ L', Blk w' g L' ∧ L'.length = L.length ∧ MulOut 18446744073709551616 a b a.length (L'.take N) ∧ Keeps (fun k => k = g) w w' := by
  have hlen : L.length ≤ 1000 := hb.2
  have hcl := fun ty => Lib.run_clear_slice (P := Tryz.prog) w 38 51 ty (.int .u64 0) Tryz.underlying38 Tryz.zero117 rfl rfl g 0 N L.length (by omega) (fun j hj => by rw [Nat.zero_add, hb.cell (by omega)]; rfl) (fun j hj => by rw [Nat.zero_add]; exact hb.frozen j)
  obtain ⟨L1, h1, h2, h3⟩ := wiped_start (a := a) (b := b) hb hN hab
  have hk1 : Keeps (fun k => k = g) w (w.setCells g 0 (List.replicate N (.int .u64 0))) := Keeps.setCells (S := fun k => k = g) rfl _ _ _ (Keeps.refl _ _)
  obtain ⟨w1, hw1⟩ : ∃ w1, w.setCells g 0 (List.replicate N (.int .u64 0)) = w1 := ⟨_, rfl⟩
  rw [hw1] at h1 hk1 hcl
  have HX := Lib.hid hx; have HY := Lib.hid hy.cells
  have HB1 := Lib.hid h1; have HL1 := Lib.hid h2; have HM1 := Lib.hid h3; have HK1 := Lib.hid hk1
  have HBL := Lib.hid hbl; have HAL := Lib.hid hal
  have HENT := Lib.hid Tryz.addMulVVWW_enters
  have hsum : IntKind.i64.wrap ((b.length : Int) + (a.length : Int)) = (N : Int) := by simp only [IntKind.wrap_i64]; omega
  have HAB := Lib.hid hab
  have hab2 : a.length + b.length ≤ 1000 := by omega
  have hab3 : a.length + b.length ≤ L.length := by omega
  clear hb hx hy h1 h2 h3 hk1 hbl hal hw1 hab
  go_enter Tryz.func59, Tryz.ntmps59
  go_wp2_with fail
  go_loopw [17] (fun i2 wr => ∃ (k : Nat) (L' : List Nat), k ≤ a.length ∧ i2 = .int .i64 k ∧ Hid (Blk wr g L') ∧ Hid (L'.length = L.length) ∧ Hid (MulOut 18446744073709551616 a b k (L'.take N)) ∧ Hid (Keeps (fun j => j = g) w wr)) (fun i2 _ => a.length - (intOf i2).toNat)
  case atStart => exact ⟨0, L1, Nat.zero_le _, rfl, HB1, HL1, HM1, HK1⟩
  case round =>
    obtain ⟨k, L', hk, rfl, hbk, hle, hm, hkp⟩ := hrel
    by_cases hlt : k < a.length
    · have hg : a[k]? = some a[k] := List.getElem?_eq_getElem hlt
      have hxl := HAL.out _ (List.getElem_mem hlt)
      have hc0 : w.cell? ⟨gy, k, none⟩ = some (.int .u64 (a[k] : Int)) := by
        have := HY.out k _ (wcs_get hlt)
        rcases Nat.eq_zero_or_pos k with h0 | h0
        · subst h0; simpa [Addr.add] using this
        · simpa [Addr.add, show ¬ k = 0 by omega] using this
      have hc1 : wr.cell? ⟨gy, k, none⟩ = some (.int .u64 (a[k] : Int)) := hkp.out.cell hny hc0
      obtain ⟨x, hxe⟩ : ∃ x, a[k] = x := ⟨_, rfl⟩
      rw [hxe] at hg hxl hc1
      clear hc0 hxe
      by_cases hx0 : x = 0
      · subst hx0
        have HST := Lib.hid (hm.out.skip hg)
        clear hm hg
        go_wp2_with fail
        go_roundw
        case measure => simp [intOf]; omega
        case rel => exact ⟨k + 1, L', by omega, by go_num, hbk, hle, HST, hkp⟩
      · have hxb : ((x : Int) == 0) = false := by rw [beq_eq_false_iff_ne]; omega
        obtain ⟨e, he⟩ : ∃ e, k + b.length = e := ⟨_, rfl⟩
        have hk1 : IntKind.i64.wrap ((k : Int) + (b.length : Int)) = (e : Int) := by simp only [IntKind.wrap_i64]; omega
        have hk2 : IntKind.i64.wrap ((b.length : Int) + (k : Int)) = (e : Int) := by simp only [IntKind.wrap_i64]; omega
        have he1 : k ≤ e := by omega
        have he2 : e < N := by have := HAB.out; omega
        have he3 : e ≤ L.length := by omega
        have he4 : e ≤ N := by omega
        have hek : e - k = b.length := by omega
        have hLk : ¬ L.length = k := by omega
        have HE := Lib.hid he
        clear he
        have HM0 := Lib.hid hm.out
        have HG := Lib.hid hg
        have HC5 := Lib.hid (fun (W : World) (hkw : Keeps (fun j => j = g) w W) (hbw : Blk W g L') => (show Calls Tryz.prog 21 #[.slice (some ⟨g, k, none⟩) b.length (L.length - k), .slice (some ⟨g, k, none⟩) b.length (L.length - k), .slice (some ⟨gx, 0, none⟩) b.length cx, .int .u64 x, .int .u64 0] W (fun e w' => ∃ cr L2, e = .returned (.int .u64 ((cr : Nat) : Int)) ∧ Blk w' g L2 ∧ L2.length = L'.length ∧ MulIn 18446744073709551616 a b k b.length cr (dval 18446744073709551616 (L'.take N)) x (L2.take N) ∧ Keeps (fun k => k = g) W w') from
          addMulVVWW_any hbw (HX.out.kept hkw (fun q hq h => by cases hq; exact hnx h)) hnx (by omega) (by rw [hle.out]; exact hN) (HM0.out.enter (by omega) x) HBL.out hxl))
        clear hm hg
        go_upto_region 5 with fail
        refine Wg.wp_region_first (C := fun _ => True) (by kernel_rfl) 22 ?_
        have HK0 := Lib.hid (show Keeps (fun j => j = g) w { wr with drawn := wr.drawn + 1 } from hkp.out.drew)
        have HB0 := Lib.hid (show Blk { wr with drawn := wr.drawn + 1 } g L' from hbk.out.drew)
        clear hkp hbk hc1
        generalize { wr with drawn := wr.drawn + 1 } = W at *
        apply Wg.wpAnyP_stays (by kernel_rfl) [0, 1, 2, 3, 4, 5, 6, 7, 8, 9, 10, 11, 12, 13, 14, 15, 16, 17, 18, 19, 20] _ _ _ 3 _ trivial (by kernel_rfl) ?hs ?hr
        case hs =>
          repeat (apply Wg.wpStays_step rfl rfl; (intro w' hw'; clear hw'; go_simp; exact ⟨rfl, rfl⟩); go_simp)
          exact rfl
        case hr =>
          apply Wg.wpAnyP_one (i := 21) (fuel := 2) (by kernel_rfl) rfl rfl
          have hent := HENT.out
          go_simp
          clear hent
          refine Wg.plain_call (HC5.out W HK0.out HB0.out) ?_
          rintro e5 W5 ⟨cr, L5, rfl, hb5, hl5, hm5, hk5⟩
          have HB5 := Lib.hid hb5
          have HK5 := Lib.hid (HK0.out.trans hk5 fun _ h => .inl h)
          have HL5 := Lib.hid (hl5.trans hle.out)
          have HM5 := Lib.hid (MulIn.leaveT HM0.out hm5 HG.out)
          clear hb5 hl5 hm5 hk5 HC5
          refine ⟨_, rfl, trivial, ?_⟩
          have he5 : e < L5.length := by have := HL5.out; omega
          have hc5 := HB5.out.cell he5
          have hf5 := HB5.out.frozen e
          have hbl5 := HB5.out.lt
          apply Wg.wpAnyP_one (i := 22) (fuel := 1) (by kernel_rfl) rfl rfl
          go_simp
          refine ⟨trivial, ?_⟩
          apply Wg.wpAnyP_one (i := 23) (fuel := 0) (by kernel_rfl) rfl rfl
          go_simp
          refine ⟨trivial, by kernel_rfl, ?_⟩
          go_simp
          go_wp2_with fail
          have HB6 := Lib.hid (HB5.out.set e cr)
          have HK6 := Lib.hid (HK5.out.setCell (p := ⟨g, e, none⟩) (.inl rfl) (.int .u64 (cr : Int)))
          rw [HE.out] at HM5
          go_roundw
          case measure => simp [intOf]; omega
          case rel => exact ⟨k + 1, _, by omega, by go_num, HB6, Lib.hid (by rw [List.length_set]; exact HL5.out), HM5, HK6⟩
    · obtain rfl : k = a.length := by omega
      go_wp2_with fail
      go_end0
      exact ⟨rfl, L', hbk.out, hle.out, hm.out, hkp.out⟩

end Go.Proofs.YthjokmfidhcclaaGreatDoor
