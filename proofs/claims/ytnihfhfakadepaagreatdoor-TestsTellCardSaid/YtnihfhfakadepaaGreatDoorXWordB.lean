/- Package math/big: a list of words times a word, added to a list of words. Package math/big: the product of two lists of words, the plain way. Package math/big: do two lists of words share their room; the square of a number; a number times a number of one word. Package math/big: the square of a number; a number times a number of one word. Package math/big: a number times a number of one word. -/
import Derived.Test.YtnihfhfakadepaaGreatDoorXWordA
import Derived.Test.YtnihfhfakadepaaGreatDoorXBigA
import Derived.Lib.SliceRun
import Derived.LaidEqlPtr
namespace Go.Proofs.YtnihfhfakadepaaGreatDoor
open Go.RowKit

theorem MulIn.stepT {B : Nat} {a b : List Nat} {i j c D x N : Nat} {L : List Nat} (h : MulIn B a b i j c D x (L.take N)) (hx : x < B) {y z : Nat} (hN : i + j < N) (hy : L[i + j]? = some y) (hz : b[j]? = some z) (hzl : z < B) :
    MulIn B a b i (j + 1) ((c + x * z + y) / B) D x ((L.set (i + j) ((c + x * z + y) % B)).take N) := by
  have h2 := h.step hx (by rw [List.getElem?_take_of_lt hN]; exact hy) hz hzl
  rwa [List.take_set]

theorem split_add {t c : Nat} (V : Nat) (hV : 0 < V) : (t % V + c) % V = (c + t) % V ∧ (t % V + c) / V + t / V = (c + t) / V := by
  constructor
  · rw [Nat.mod_add_mod, Nat.add_comm]
  · have h1 : c + t = t % V + c + V * (t / V) := by have := Nat.mod_add_div t V; omega
    rw [h1, Nat.add_mul_div_left _ _ hV]

set_option maxRecDepth 100000 in
set_option maxHeartbeats 4000000 in
theorem addMulVVWW_any {w : World} {g gb cz cb i x D N : Nat} {L a b : List Nat} (hb : Blk w g L) (hx : Buf w (.slice (some ⟨gb, 0, none⟩) b.length cb) b) (hne : gb ≠ g) (hi : i + b.length ≤ N) (hN : N ≤ L.length) (hm : MulIn 18446744073709551616 a b i 0 0 D x (L.take N)) (hbl : ∀ z ∈ b, z < 18446744073709551616) (hxl : x < 18446744073709551616) :
    Calls Tryz.prog 68 #[.slice (some ⟨g, i, none⟩) b.length cz, .slice (some ⟨g, i, none⟩) b.length cz, .slice (some ⟨gb, 0, none⟩) b.length cb, .int .u64 x, .int .u64 0] w fun e w' => ∃ cr L', e = .returned (.int .u64 ((cr : Nat) : Int)) ∧ Blk w' g L' ∧ L'.length = L.length ∧ MulIn 18446744073709551616 a b i b.length cr D x (L'.take N) ∧ Keeps (fun k => k = g) w w' := by
  have HX := Lib.hid hx.cells
  have HL := Lib.hid hbl
  have HB := Lib.hid hb
  have HM := Lib.hid hm
  have hlen : L.length ≤ 1000 := hb.2
  clear hb hx hbl hm
  go_enter Tryz.func68, Tryz.ntmps68
  go_wp2_with fail
  go_loopw [10, 32] (fun cc i2 wr => ∃ (k cr : Nat) (L' : List Nat), k ≤ b.length ∧ i2 = .int .i64 k ∧ cc = .int .u64 cr ∧ Hid (Blk wr g L') ∧ Hid (L'.length = L.length) ∧ Hid (MulIn 18446744073709551616 a b i k cr D x (L'.take N)) ∧ Hid (Keeps (fun j => j = g) w wr)) (fun _ i2 _ => b.length - (intOf i2).toNat)
  case atStart => exact ⟨0, 0, L, Nat.zero_le _, rfl, rfl, HB, Lib.hid rfl, HM, Lib.hid (Keeps.refl _ _)⟩
  case round =>
    obtain ⟨k, cr, L', hk, rfl, rfl, hbk, hle, hm, hkp⟩ := hrel
    by_cases hlt : k < b.length
    · have hkL : i + k < L'.length := by have := hle.out; omega
      have hg : b[k]? = some b[k] := List.getElem?_eq_getElem hlt
      have hzl := HL.out _ (List.getElem_mem hlt)
      have hc0 : w.cell? ⟨gb, k, none⟩ = some (.int .u64 (b[k] : Int)) := by
        have := HX.out k _ (wcs_get hlt)
        rcases Nat.eq_zero_or_pos k with h0 | h0
        · subst h0; simpa [Addr.add] using this
        · simpa [Addr.add, show ¬ k = 0 by omega] using this
      have hc1 : wr.cell? ⟨gb, k, none⟩ = some (.int .u64 (b[k] : Int)) := hkp.out.cell hne hc0
      have hc2 := hbk.out.cell hkL
      have hfr := hbk.out.frozen (i + k)
      have hgu : L'[i + k]? = some L'[i + k] := List.getElem?_eq_getElem hkL
      obtain ⟨z, hze⟩ : ∃ z, b[k] = z := ⟨_, rfl⟩
      rw [hze] at hg hzl hc1
      obtain ⟨u, hu⟩ : ∃ u, L'[i + k] = u := ⟨_, rfl⟩
      rw [hu] at hc2 hgu
      have hul : u < 18446744073709551616 := hm.out.lt u (List.mem_of_getElem? (by rw [List.getElem?_take_of_lt (show i + k < N by omega)]; exact hgu))
      have HMW := Lib.hid (fun W : World => mulAddWWW_any (w := W) z x u hzl hxl hul)
      have HAD := Lib.hid (fun W : World => badd_any (w := W) ((z * x + u) % 18446744073709551616) cr)
      have HST := Lib.hid (hm.out.stepT hxl (show i + k < N by omega) hgu hg hzl)
      obtain ⟨s1, s2⟩ := split_add (t := z * x + u) (c := cr) 18446744073709551616 (by omega)
      have ct : cr + (z * x + u) = cr + x * z + u := by rw [Nat.mul_comm]; omega
      rw [ct] at s1 s2
      have hcl2 := HST.out.clt
      obtain ⟨hi1, ehi⟩ : ∃ h, (z * x + u) / 18446744073709551616 = h := ⟨_, rfl⟩
      obtain ⟨lo1, elo⟩ : ∃ h, (z * x + u) % 18446744073709551616 = h := ⟨_, rfl⟩
      rw [ehi, elo] at HMW
      rw [elo] at HAD s1 s2
      rw [ehi] at s2
      obtain ⟨q, hq⟩ : ∃ q, (cr + x * z + u) / 18446744073709551616 = q := ⟨_, rfl⟩
      obtain ⟨d, hd⟩ : ∃ d, (cr + x * z + u) % 18446744073709551616 = d := ⟨_, rfl⟩
      rw [hq] at HST s2 hcl2
      rw [hd] at HST s1
      rw [s1] at HAD
      obtain ⟨c2, hc2e⟩ : ∃ c2, (lo1 + cr) / 18446744073709551616 = c2 := ⟨_, rfl⟩
      rw [hc2e] at HAD s2
      have hwr : IntKind.u64.wrap ((c2 : Int) + (hi1 : Int)) = (q : Int) := by simp only [IntKind.wrap_u64]; omega
      have HBS := Lib.hid (fun n : Nat => Blk.set (w := wr.drewN n) hbk.out (i + k) d)
      have HKS := Lib.hid (fun n : Nat => (hkp.out.drewN n).setCell (p := ⟨g, i + k, none⟩) (.inl rfl) (.int .u64 (d : Int)))
      have HLS := Lib.hid (show (L'.set (i + k) d).length = L.length by rw [List.length_set]; exact hle.out)
      clear hc0 hq hd hbk hm hg hze hu hgu s1 s2 ct ehi elo hc2e hle hkp hcl2 hul hzl
      go_upto_region 7 with fail
      go_quiet ((go_at_call 114; exact (HMW.out _).mono fun e w' h => ⟨h.1, _, h.2⟩))
      go_wp2_with (go_at_call 115; ((with_reducible refine (HAD.out _).mono ?_); rintro e w2 ⟨rfl, rfl⟩))
      go_roundw
      case measure => simp [intOf]; omega
      case rel => exact ⟨k + 1, q, _, by omega, by go_num, rfl, HBS.out _, HLS, HST, HKS.out _⟩
    · obtain rfl : k = b.length := by omega
      go_wp2_with fail
      go_ret
      exact ⟨cr, L', rfl, hbk.out, hle.out, hm.out, hkp.out⟩

theorem Tryz.addMulVVWW_enters (args : Array Value) (w : World) : (callFunc 113 args).run Tryz.prog w = .ok (.enter 68 args) w :=
  run_callFunc_twin (twin := "math/big.addMulVVWW_g") Tryz.func113 (by kernel_rfl) (by kernel_rfl) (by kernel_rfl) (by kernel_rfl) Tryz.func68 (by kernel_rfl) (by kernel_rfl) (by kernel_rfl) args w

end Go.Proofs.YtnihfhfakadepaaGreatDoor
namespace Go.Proofs.YtnihfhfakadepaaGreatDoor
open Go.RowKit

theorem MulOut.skip {B : Nat} {a b : List Nat} {i : Nat} {rs : List Nat} (h : MulOut B a b i rs) (hx : a[i]? = some 0) : MulOut B a b (i + 1) rs :=
  ⟨h.len, h.lt, by rw [h.val, dval_take_succ B a i 0 hx]; simp, fun k u hk hu => h.zero k u (by omega) hu⟩

theorem MulIn.leaveT {B : Nat} {a b : List Nat} {i c x N : Nat} {L L0 : List Nat} (h0 : MulOut B a b i (L0.take N)) (h : MulIn B a b i b.length c (dval B (L0.take N)) x (L.take N)) (hx : a[i]? = some x) : MulOut B a b (i + 1) ((L.set (i + b.length) c).take N) := by
  have := h.leave h0 hx
  rwa [List.take_set]

theorem Blk.wiped {g : Nat} : ∀ (n o : Nat) (w : World) (L : List Nat), Blk w g L → o + n ≤ L.length →
    ∃ L', Blk (w.setCells g o (List.replicate n (.int .u64 0))) g L' ∧ L'.length = L.length ∧ (∀ j, j < o → L'[j]? = L[j]?) ∧ (∀ j, o ≤ j → j < o + n → L'[j]? = some 0)
  | 0, o, w, L, h, _ => ⟨L, h, rfl, fun _ _ => rfl, fun j h1 h2 => by omega⟩
  | n + 1, o, w, L, h, hl => by
    have h2 := h.set o 0
    obtain ⟨L', h3, h4, h5, h6⟩ := Blk.wiped n (o + 1) _ _ h2 (by rw [List.length_set]; omega)
    refine ⟨L', h3, by rw [h4, List.length_set], fun j hj => ?_, fun j h1 h2 => ?_⟩
    · rw [h5 j (by omega), List.getElem?_set_ne (by omega)]
    · rcases Nat.eq_or_lt_of_le h1 with rfl | h1
      · rw [h5 o (by omega), List.getElem?_set_self (by omega)]
      · exact h6 j (by omega) (by omega)

theorem Keeps.setCells {S : Nat → Prop} {w : World} {g : Nat} (hg : S g) : ∀ (vs : List Value) (o : Nat) (w2 : World), Keeps S w w2 → Keeps S w (w2.setCells g o vs)
  | [], _, _, h => h
  | v :: r, o, _, h => Keeps.setCells hg r (o + 1) _ (h.setCell (p := ⟨g, o, none⟩) (.inl hg) v)

theorem wiped_start {w : World} {g N : Nat} {L a b : List Nat} (h : Blk w g L) (hN : N ≤ L.length) (hab : N = a.length + b.length) :
    ∃ L', Blk (w.setCells g 0 (List.replicate N (.int .u64 0))) g L' ∧ L'.length = L.length ∧ MulOut 18446744073709551616 a b 0 (L'.take N) := by
  obtain ⟨L', h1, h2, _, h3⟩ := Blk.wiped N 0 w L h (by omega)
  refine ⟨L', h1, h2, ?_⟩
  have : L'.take N = List.replicate N 0 := by
    apply List.ext_getElem?
    intro j
    by_cases hj : j < N
    · rw [List.getElem?_take_of_lt hj, h3 j (by omega) (by omega), List.getElem?_replicate, if_pos hj]
    · rw [List.getElem?_eq_none (by rw [List.length_take]; omega), List.getElem?_eq_none (by rw [List.length_replicate]; omega)]
  rw [this, hab]
  exact MulOut.start (by omega)

theorem Tryz.zero117 (w : World) : (zeroValue 117).run Tryz.prog w = .ok (.int .u64 0) w := by simp [zeroValue]; rfl

set_option maxRecDepth 100000 in
set_option maxHeartbeats 4000000 in
theorem basicMul_any {w : World} {g gx gy cx cy N : Nat} {L a b : List Nat} (hb : Blk w g L) (hx : Buf w (.slice (some ⟨gx, 0, none⟩) b.length cx) b) (hy : Buf w (.slice (some ⟨gy, 0, none⟩) a.length cy) a) (hnx : gx ≠ g) (hny : gy ≠ g) (hN : N ≤ L.length) (hab : N = a.length + b.length) (hb0 : 0 < b.length)
    (hbl : ∀ z ∈ b, z < 18446744073709551616) (hal : ∀ z ∈ a, z < 18446744073709551616) :
    Calls Tryz.prog 96 #[.slice (some ⟨g, 0, none⟩) N L.length, .slice (some ⟨gx, 0, none⟩) b.length cx, .slice (some ⟨gy, 0, none⟩) a.length cy] w fun e w' => e = .returned (.tuple #[]) ∧ ∃ L', Blk w' g L' ∧ L'.length = L.length ∧ MulOut 18446744073709551616 a b a.length (L'.take N) ∧ Keeps (fun k => k = g) w w' := by
  have hlen : L.length ≤ 1000 := hb.2
  have hcl := fun ty => Lib.run_clear_slice (P := Tryz.prog) w 103 117 ty (.int .u64 0) Tryz.underlying103 Tryz.zero117 rfl rfl g 0 N L.length (by omega) (fun j hj => by rw [Nat.zero_add, hb.cell (by omega)]; rfl) (fun j hj => by rw [Nat.zero_add]; exact hb.frozen j)
  obtain ⟨L1, h1, h2, h3⟩ := wiped_start (a := a) (b := b) hb hN hab
  have hk1 : Keeps (fun k => k = g) w (w.setCells g 0 (List.replicate N (.int .u64 0))) := Keeps.setCells (S := fun k => k = g) rfl _ _ _ (Keeps.refl _ _)
  obtain ⟨w1, hw1⟩ : ∃ w1, w.setCells g 0 (List.replicate N (.int .u64 0)) = w1 := ⟨_, rfl⟩
  rw [hw1] at h1 hk1 hcl
  have HX := Lib.hid hx; have HY := Lib.hid hy.cells
  have HB1 := Lib.hid h1; have HL1 := Lib.hid h2; have HM1 := Lib.hid h3; have HK1 := Lib.hid hk1
  have HBL := Lib.hid hbl; have HAL := Lib.hid hal
  have HENT := Lib.hid Tryz.addMulVVWW_enters
  have hsum : IntKind.i64.wrap ((b.length : Int) + (a.length : Int)) = (N : Int) := by simp only [IntKind.wrap_i64]; omega
  have HAB := Lib.hid hab
  have hab2 : a.length + b.length ≤ 1000 := by omega
  have hab3 : a.length + b.length ≤ L.length := by omega
  clear hb hx hy h1 h2 h3 hk1 hbl hal hw1 hab
  go_enter Tryz.func96, Tryz.ntmps96
  go_wp2_with fail
  go_loopw [17] (fun i2 wr => ∃ (k : Nat) (L' : List Nat), k ≤ a.length ∧ i2 = .int .i64 k ∧ Hid (Blk wr g L') ∧ Hid (L'.length = L.length) ∧ Hid (MulOut 18446744073709551616 a b k (L'.take N)) ∧ Hid (Keeps (fun j => j = g) w wr)) (fun i2 _ => a.length - (intOf i2).toNat)
  case atStart => exact ⟨0, L1, Nat.zero_le _, rfl, HB1, HL1, HM1, HK1⟩
  case round =>
    obtain ⟨k, L', hk, rfl, hbk, hle, hm, hkp⟩ := hrel
    by_cases hlt : k < a.length
    · have hg : a[k]? = some a[k] := List.getElem?_eq_getElem hlt
      have hxl := HAL.out _ (List.getElem_mem hlt)
      have hc0 : w.cell? ⟨gy, k, none⟩ = some (.int .u64 (a[k] : Int)) := by
        have := HY.out k _ (wcs_get hlt)
        rcases Nat.eq_zero_or_pos k with h0 | h0
        · subst h0; simpa [Addr.add] using this
        · simpa [Addr.add, show ¬ k = 0 by omega] using this
      have hc1 : wr.cell? ⟨gy, k, none⟩ = some (.int .u64 (a[k] : Int)) := hkp.out.cell hny hc0
      obtain ⟨x, hxe⟩ : ∃ x, a[k] = x := ⟨_, rfl⟩
      rw [hxe] at hg hxl hc1
      clear hc0 hxe
      by_cases hx0 : x = 0
      · subst hx0
        have HST := Lib.hid (hm.out.skip hg)
        clear hm hg
        go_wp2_with fail
        go_roundw
        case measure => simp [intOf]; omega
        case rel => exact ⟨k + 1, L', by omega, by go_num, hbk, hle, HST, hkp⟩
      · have hxb : ((x : Int) == 0) = false := by rw [beq_eq_false_iff_ne]; omega
        obtain ⟨e, he⟩ : ∃ e, k + b.length = e := ⟨_, rfl⟩
        have hk1 : IntKind.i64.wrap ((k : Int) + (b.length : Int)) = (e : Int) := by simp only [IntKind.wrap_i64]; omega
        have hk2 : IntKind.i64.wrap ((b.length : Int) + (k : Int)) = (e : Int) := by simp only [IntKind.wrap_i64]; omega
        have he1 : k ≤ e := by omega
        have he2 : e < N := by have := HAB.out; omega
        have he3 : e ≤ L.length := by omega
        have he4 : e ≤ N := by omega
        have hek : e - k = b.length := by omega
        have hLk : ¬ L.length = k := by omega
        have HE := Lib.hid he
        clear he
        have HM0 := Lib.hid hm.out
        have HG := Lib.hid hg
        have HC5 := Lib.hid (fun (W : World) (hkw : Keeps (fun j => j = g) w W) (hbw : Blk W g L') => (show Calls Tryz.prog 68 #[.slice (some ⟨g, k, none⟩) b.length (L.length - k), .slice (some ⟨g, k, none⟩) b.length (L.length - k), .slice (some ⟨gx, 0, none⟩) b.length cx, .int .u64 x, .int .u64 0] W (fun e w' => ∃ cr L2, e = .returned (.int .u64 ((cr : Nat) : Int)) ∧ Blk w' g L2 ∧ L2.length = L'.length ∧ MulIn 18446744073709551616 a b k b.length cr (dval 18446744073709551616 (L'.take N)) x (L2.take N) ∧ Keeps (fun k => k = g) W w') from
          addMulVVWW_any hbw (HX.out.kept hkw (fun q hq h => by cases hq; exact hnx h)) hnx (by omega) (by rw [hle.out]; exact hN) (HM0.out.enter (by omega) x) HBL.out hxl))
        clear hm hg
        go_upto_region 5 with fail
        refine Wg.wp_region_first (C := fun _ => True) (by kernel_rfl) 22 ?_
        have HK0 := Lib.hid (show Keeps (fun j => j = g) w { wr with drawn := wr.drawn + 1 } from hkp.out.drew)
        have HB0 := Lib.hid (show Blk { wr with drawn := wr.drawn + 1 } g L' from hbk.out.drew)
        clear hkp hbk hc1
        generalize { wr with drawn := wr.drawn + 1 } = W at *
        apply Wg.wpAnyP_stays (by kernel_rfl) [0, 1, 2, 3, 4, 5, 6, 7, 8, 9, 10, 11, 12, 13, 14, 15, 16, 17, 18, 19, 20] _ _ _ 3 _ trivial (by kernel_rfl) ?hs ?hr
        case hs =>
          repeat (apply Wg.wpStays_step rfl rfl; (intro w' hw'; clear hw'; go_simp; exact ⟨rfl, rfl⟩); go_simp)
          exact rfl
        case hr =>
          apply Wg.wpAnyP_one (i := 21) (fuel := 2) (by kernel_rfl) rfl rfl
          have hent := HENT.out
          go_simp
          clear hent
          refine Wg.plain_call (HC5.out W HK0.out HB0.out) ?_
          rintro e5 W5 ⟨cr, L5, rfl, hb5, hl5, hm5, hk5⟩
          have HB5 := Lib.hid hb5
          have HK5 := Lib.hid (HK0.out.trans hk5 fun _ h => .inl h)
          have HL5 := Lib.hid (hl5.trans hle.out)
          have HM5 := Lib.hid (MulIn.leaveT HM0.out hm5 HG.out)
          clear hb5 hl5 hm5 hk5 HC5
          refine ⟨_, rfl, trivial, ?_⟩
          have he5 : e < L5.length := by have := HL5.out; omega
          have hc5 := HB5.out.cell he5
          have hf5 := HB5.out.frozen e
          have hbl5 := HB5.out.lt
          apply Wg.wpAnyP_one (i := 22) (fuel := 1) (by kernel_rfl) rfl rfl
          go_simp
          refine ⟨trivial, ?_⟩
          apply Wg.wpAnyP_one (i := 23) (fuel := 0) (by kernel_rfl) rfl rfl
          go_simp
          refine ⟨trivial, by kernel_rfl, ?_⟩
          go_simp
          go_wp2_with fail
          have HB6 := Lib.hid (HB5.out.set e cr)
          have HK6 := Lib.hid (HK5.out.setCell (p := ⟨g, e, none⟩) (.inl rfl) (.int .u64 (cr : Int)))
          rw [HE.out] at HM5
          go_roundw
          case measure => simp [intOf]; omega
          case rel => exact ⟨k + 1, _, by omega, by go_num, HB6, Lib.hid (by rw [List.length_set]; exact HL5.out), HM5, HK6⟩
    · obtain rfl : k = a.length := by omega
      go_wp2_with fail
      go_end0
      exact ⟨rfl, L', hbk.out, hle.out, hm.out, hkp.out⟩

end Go.Proofs.YtnihfhfakadepaaGreatDoor
namespace Go.Proofs.YtnihfhfakadepaaGreatDoor
open Go.RowKit

set_option maxRecDepth 100000 in
set_option maxHeartbeats 2000000 in
theorem alias_some {w : World} {g gx n nx c cx : Nat} {L Lx : List Nat} (hg : Blk w g L) (hgx : Blk w gx Lx) (hne : g ≠ gx) (hc : n ≤ c) (hcx : nx ≤ cx) (h1 : c ≤ 1000) (h2 : cx ≤ 1000) :
    Calls Tryz.prog 95 #[.slice (some ⟨g, 0, none⟩) n c, .slice (some ⟨gx, 0, none⟩) nx cx] w fun e w' => e = .returned (.bool false) ∧ ∃ q, w' = w.drewN q := by
  rcases Nat.eq_zero_or_pos c with hc0 | hc0
  · subst hc0
    go_enter Tryz.func95, Tryz.ntmps95
    go_upto_region 1 with fail
    go_quiet (fail)
    go_wp2_with fail
    go_ret
    exact ⟨rfl, _, rfl⟩
  rcases Nat.eq_zero_or_pos cx with hx0 | hx0
  · subst hx0
    have d1 : decide ((0 : Int) < (c : Int)) = true := by simpa using hc0
    go_enter Tryz.func95, Tryz.ntmps95
    go_upto_region 1 with fail
    go_quiet (fail)
    go_wp2_with fail
    go_ret
    exact ⟨rfl, _, rfl⟩
  obtain ⟨p, hp⟩ : ∃ p, c = p + 1 := ⟨c - 1, by omega⟩
  obtain ⟨q, hq⟩ : ∃ q, cx = q + 1 := ⟨cx - 1, by omega⟩
  have w1 : IntKind.i64.wrap ((c : Int) - 1) = (p : Int) := by simp only [IntKind.wrap_i64]; omega
  have w2 : IntKind.i64.wrap ((cx : Int) - 1) = (q : Int) := by simp only [IntKind.wrap_i64]; omega
  have l1 : (p : Int) < (c : Int) := by omega
  have l2 : (q : Int) < (cx : Int) := by omega
  have i1 : (0 : Int) < (c : Int) := by omega
  have i2 : (0 : Int) < (cx : Int) := by omega
  have HG := Lib.hid hg; have HGX := Lib.hid hgx
  have heq : ∀ k, (binOp .eql 150 (.pointer (some ⟨g, p, none⟩)) (.pointer (some ⟨gx, q, none⟩))).run Tryz.prog (w.drewN k) = .ok (.bool false) (w.drewN k) := fun k => by
    obtain ⟨i, hi, _, hsz, _⟩ := info_parts Tryz.info117
    exact run_eql_ptr_other (w.drewN k) Tryz.underlying150 hi (by rw [hsz]; decide) (fun e => hne (congrArg Addr.block e)) (ca := (wcs .u64 L).toArray) (cb := (wcs .u64 Lx).toArray) hg.1 hgx.1
  have heq0 := heq 0
  clear hp hq hg hgx
  go_enter Tryz.func95, Tryz.ntmps95
  go_upto_region 1 with fail
  go_quiet (fail)
  go_wp2_with fail
  go_ret
  exact ⟨rfl, _, rfl⟩

set_option maxRecDepth 100000 in
set_option maxHeartbeats 2000000 in
theorem alias_nil {w : World} {v : Value} (hv : ∃ A n c, v = .slice A n c) :
    Calls Tryz.prog 95 #[.slice none 0 0, v] w fun e w' => e = .returned (.bool false) ∧ ∃ q, w' = w.drewN q := by
  obtain ⟨A, n, c, rfl⟩ := hv
  go_enter Tryz.func95, Tryz.ntmps95
  go_upto_region 1 with fail
  go_quiet (fail)
  go_wp2_with fail
  go_ret
  exact ⟨rfl, _, rfl⟩

theorem alias_any {w : World} {vz : Value} {lz : List Nat} {gx nx : Nat} {Lx : List Nat} (hz : Buf w vz lz) (hx : Blk w gx Lx) (hnx : nx ≤ Lx.length) (hne : ∀ g, vz.ownBlock = some g → g ≠ gx) :
    Calls Tryz.prog 95 #[vz, .slice (some ⟨gx, 0, none⟩) nx Lx.length] w fun e w' => e = .returned (.bool false) ∧ ∃ q, w' = w.drewN q := by
  rcases hz with ⟨rfl, _⟩ | ⟨g, L, rfl, hb, ht⟩
  · exact alias_nil ⟨_, _, _, rfl⟩
  · have h1 := congrArg List.length ht
    rw [List.length_take] at h1
    exact alias_some hb hx (hne g rfl) (by omega) hnx hb.2 hx.2

theorem two_words {w : World} {g : Nat} {L : List Nat} {x : Nat} (h : Blk w g L) (h2 : 2 ≤ L.length) (hx : x < 18446744073709551616) :
    Calls Tryz.prog 94 #[.slice (some ⟨g, 0, none⟩) 2 L.length] ((w.setCell ⟨g, 1, none⟩ (.int .u64 ((x * x / 18446744073709551616 : Nat) : Int))).setCell ⟨g, 0, none⟩ (.int .u64 ((x * x % 18446744073709551616 : Nat) : Int))) fun e w' => ∃ k, e = .returned (.slice (some ⟨g, 0, none⟩) k L.length) ∧ BN w' (.slice (some ⟨g, 0, none⟩) k L.length) (x * x) ∧ w' = (w.setCell ⟨g, 1, none⟩ (.int .u64 ((x * x / 18446744073709551616 : Nat) : Int))).setCell ⟨g, 0, none⟩ (.int .u64 ((x * x % 18446744073709551616 : Nat) : Int)) := by
  have hb := (h.set 1 (x * x / 18446744073709551616)).set 0 (x * x % 18446744073709551616)
  have hq : x * x / 18446744073709551616 < 18446744073709551616 := by
    apply Nat.div_lt_of_lt_mul
    have : x * x ≤ 18446744073709551615 * 18446744073709551615 := Nat.mul_le_mul (by omega) (by omega)
    omega
  have hr : x * x % 18446744073709551616 < 18446744073709551616 := Nat.mod_lt _ (by omega)
  have hv : x * x % 18446744073709551616 + 18446744073709551616 * (x * x / 18446744073709551616) = x * x := Nat.mod_add_div _ _
  generalize x * x / 18446744073709551616 = hi at *
  generalize x * x % 18446744073709551616 = lo at *
  obtain ⟨a, b, l, rfl⟩ : ∃ a b l, L = a :: b :: l := by
    match L, h2 with
    | a :: b :: l, _ => exact ⟨a, b, l, rfl⟩
  simp only [List.set_cons_succ, List.set_cons_zero] at hb
  have h3 := norm64_any hb (n := 2) (by simp) (fun y hy => by
    simp only [List.take_succ_cons, List.take_zero, List.mem_cons, List.not_mem_nil, or_false] at hy
    rcases hy with rfl | rfl
    · exact hr
    · exact hq)
  have e : dval 18446744073709551616 (List.take 2 (lo :: hi :: l)) = x * x := by simp [dval, hv]
  rw [e] at h3
  simp only [List.length_cons] at h3 ⊢
  exact h3.mono fun e w' ⟨k, h1, h2, h4⟩ => ⟨k, h1, by rw [h4]; exact h2, h4⟩

theorem norm_mul {w : World} {g N c : Nat} {L a : List Nat} (hb : Blk w g L) (hm : MulOut 18446744073709551616 a a a.length (L.take N)) (hN : N ≤ L.length) (hc : L.length = c) :
    Calls Tryz.prog 94 #[.slice (some ⟨g, 0, none⟩) N c] w fun e w' => ∃ k, e = .returned (.slice (some ⟨g, 0, none⟩) k c) ∧ BN w (.slice (some ⟨g, 0, none⟩) k c) (dval 18446744073709551616 a * dval 18446744073709551616 a) ∧ w' = w := by
  subst hc
  have := norm64_any hb hN hm.lt
  rwa [hm.done] at this

end Go.Proofs.YtnihfhfakadepaaGreatDoor
namespace Go.Proofs.YtnihfhfakadepaaGreatDoor
open Go.RowKit

/-- The three thresholds, as they are laid. -/
def Thr (w : World) : Prop := w.cell? ⟨2, 0, none⟩ = some (.int .i64 12) ∧ w.cell? ⟨3, 0, none⟩ = some (.int .i64 80) ∧ w.cell? ⟨4, 0, none⟩ = some (.int .i64 40)

theorem Thr.later {w w' : World} (h : Thr w) (hk : Keeps (fun _ => False) w w') : Thr w' := ⟨hk.cell (fun h => h) h.1, hk.cell (fun h => h) h.2.1, hk.cell (fun h => h) h.2.2⟩

set_option maxRecDepth 100000 in
set_option maxHeartbeats 4000000 in
theorem sqr_any {w : World} {vz vs vx : Value} {lz : List Nat} {n : Nat} (ht : Thr w) (hz : Buf w vz lz) (hx : BN w vx n) (hn : 0 < n) (hl : (digs 18446744073709551616 n).length ≤ 11) (hne : ∀ g, vz.ownBlock = some g → vx.ownBlock ≠ some g) :
    Calls Tryz.prog 84 #[vz, vs, vx] w fun e w' => Times w vz (n * n) e w' := by
  have hp : 0 < (digs 18446744073709551616 n).length := by rw [digs_pos (by omega) hn]; simp
  have hv := dval_digs (B := 18446744073709551616) (by omega) n
  have hlt := digs_lt (B := 18446744073709551616) (by omega) n
  unfold BN at hx
  obtain ⟨gx, Lx, rfl, hbx, htx, hlx⟩ := hx.blk hp
  have HNE := Lib.hid hne
  have HGX := Lib.hid (hbx.lt)
  have HX := Lib.hid hx
  have HT := Lib.hid ht
  have HV := Lib.hid hv
  have HLT := Lib.hid hlt
  clear hv hlt
  generalize digs 18446744073709551616 n = l at *
  by_cases h1 : l.length = 1
  · obtain ⟨x, rfl⟩ : ∃ x, l = [x] := List.length_eq_one_iff.1 h1
    have hxv : n = x := by rw [← HV.out]; simp [dval]
    subst hxv
    have hxl : n < 18446744073709551616 := HLT.out n (by simp)
    have HM := Lib.hid (show Calls Tryz.prog 92 #[vz, .int .i64 2] w (fun e w' => Made w vz 2 e w') from make_any hz 2 (by omega) (by omega))
    have HC := Lib.hid ((hx.cells 0 (.int .u64 (n : Int)) (by simp [wcs])))
    have HW := Lib.hid (fun W : World => mulWW_any (w := W) n n hxl hxl)
    have hcx : w.cell? ⟨gx, 0, none⟩ = some (.int .u64 (n : Int)) := HC.out
    have HTW := Lib.hid (fun (W : World) (g : Nat) (L : List Nat) (h : Blk W g L) (h2 : 2 ≤ L.length) => two_words h h2 hxl)
    simp only [List.length_cons, List.length_nil, Nat.zero_add] at hlx ⊢
    clear hx hbx htx hz ht hne hl hp h1 HC
    generalize Lx.length = cx at *
    generalize ((n * n / 18446744073709551616 : Nat) : Int) = hi at *
    generalize ((n * n % 18446744073709551616 : Nat) : Int) = lo at *
    go_enter Tryz.func84, Tryz.ntmps84
    go_wp2_with (first
      | (go_at_call 92; ((with_reducible refine HM.out.mono ?_); rintro e w1 ⟨g, L, rfl, hbk, hlL, hk, hg⟩; have HB := Lib.hid hbk; have HK := Lib.hid hk; have HG := Lib.hid hg; have HN := Lib.hid (HTW.out w1 g L hbk hlL); have hc0 := hbk.cell (j := 0) (by omega); have hc1 := hbk.cell (j := 1) (by omega); have hf0 := hbk.frozen 0; have hf1 := hbk.frozen 1; have hlt1 := hbk.lt; have hne0 : ¬ L = [] := (by intro h; subst h; simp at hlL); clear hbk hk hg HTW))
      | (go_at_call 93; ((with_reducible refine (HW.out _).mono ?_); rintro e w2 ⟨rfl, rfl⟩))
      | (go_at_call 94; ((with_reducible refine HN.out.mono ?_); rintro e w3 ⟨k, rfl, hbn, rfl⟩; have HBN := Lib.hid hbn; clear hbn)))
    go_ret
    exact ⟨_, rfl, HBN.out, ((HK.out.mono (S' := fun k => vz.ownBlock = some k) fun _ h => h.elim).setCell (p := ⟨g, 1, none⟩) HG.out _).setCell (p := ⟨g, 0, none⟩) HG.out _, fun k hk => by cases hk; exact HG.out⟩
  · have hne2 : ∀ g, vz.ownBlock = some g → g ≠ gx := fun g hg e => hne g hg (by rw [e]; rfl)
    have HA := Lib.hid (alias_any hz hbx hlx hne2)
    have HM := Lib.hid (fun q : Nat => make_any (w := w.drewN q) (hz.later (hk := (Keeps.refl _ w).drewN q)) (2 * l.length) (by omega) (by omega))
    have hbm := fun (W : World) (g : Nat) (L : List Nat) (hk : Keeps (fun _ => False) w W) (hb : Blk W g L) (hg : gx ≠ g) (hN : 2 * l.length ≤ L.length) => basicMul_any hb (hx.later hk) (hx.later hk) hg hg hN (by omega) hp HLT.out HLT.out
    have HBM := Lib.hid hbm
    have hw1 : IntKind.i64.wrap (2 * (l.length : Int)) = ((2 * l.length : Nat) : Int) := by simp only [IntKind.wrap_i64]; omega
    have hp1 : ((l.length : Int) == 0) = false := by rw [beq_eq_false_iff_ne]; omega
    have hp2 : ((l.length : Int) == 1) = false := by rw [beq_eq_false_iff_ne]; omega
    have hm12 : (l.length : Int) < 12 := by omega
    have hm80 : (l.length : Int) < 80 := by omega
    obtain ⟨m, hm⟩ : ∃ m, l.length = m := ⟨_, rfl⟩
    obtain ⟨m2, hm2⟩ : ∃ m2, 2 * l.length = m2 := ⟨_, rfl⟩
    rw [hm2] at HM HBM hw1
    rw [hm] at HBM HA hw1 hp1 hp2 hm12 hm80 hlx ⊢
    have HLM := Lib.hid hm
    clear hbm hx hbx htx hz ht hne hl hp h1 hne2 hm hm2
    generalize hcx : Lx.length = cx at *
    clear hcx
    go_enter Tryz.func84, Tryz.ntmps84
    go_wp2_with (first
      | (go_at_call 95; ((with_reducible refine HA.out.mono ?_); rintro e w0 ⟨rfl, q, rfl⟩; have HM0 := Lib.hid (HM.out q); have HK0 := Lib.hid ((Keeps.refl (fun _ => False) w).drewN q)))
      | (go_at_call 92; ((with_reducible refine HM0.out.mono ?_); rintro e w1 ⟨g, L, rfl, hbk, hlL, hk, hg⟩; have hgx := apart_new HNE.out HGX.out hg; have HK1 := Lib.hid (HK0.out.trans hk fun _ h => .inl h); have HG := Lib.hid hg; have HBQ := Lib.hid (HBM.out w1 g L HK1.out hbk hgx hlL); obtain ⟨t2, t3, _⟩ := HT.out.later HK1.out; clear hbk hk hg))
      | (go_at_call 96; ((with_reducible refine HBQ.out.mono ?_); rintro e w2 ⟨rfl, L2, hb2, hl2, ho2, hk2⟩; have HK2 := Lib.hid hk2; have HN := Lib.hid (norm_mul hb2 (by rw [HLM.out]; exact ho2) (by omega) hl2); clear hb2 hl2 ho2 hk2))
      | (go_at_call 94; ((with_reducible refine HN.out.mono ?_); rintro e w3 ⟨k, rfl, hbn, rfl⟩; have HBN := Lib.hid hbn; clear hbn)))
    go_ret
    refine ⟨_, rfl, by rw [← HV.out]; exact HBN.out, (HK1.out.mono (S' := fun k => vz.ownBlock = some k) fun _ h => h.elim).trans HK2.out fun k e => by subst e; exact HG.out, fun k hk => by cases hk; exact HG.out⟩

end Go.Proofs.YtnihfhfakadepaaGreatDoor
namespace Go.Proofs.YtnihfhfakadepaaGreatDoor
open Go.RowKit

theorem digs_oneV {y : Nat} (h0 : 0 < y) (h : y < 18446744073709551616) : digs 18446744073709551616 y = [y] := by
  rw [digs_pos (by omega) h0, Nat.mod_eq_of_lt h, Nat.div_eq_of_lt h, digs_zero]

set_option maxRecDepth 100000 in
set_option maxHeartbeats 2000000 in
theorem mulOne_any {w : World} {vz vs vx vy : Value} {lz : List Nat} {n y : Nat} (hz : Buf w vz lz) (hx : BN w vx n) (hn : 0 < n) (hl : (digs 18446744073709551616 n).length ≤ 90) (hne : ∀ g, vz.ownBlock = some g → vx.ownBlock ≠ some g) (hy : BN w vy y) (hy0 : 0 < y) (hyl : y < 18446744073709551616) :
    Calls Tryz.prog 85 #[vz, vs, vx, vy] w fun e w' => Times w vz (n * y) e w' := by
  have hp : 0 < (digs 18446744073709551616 n).length := by rw [digs_pos (by omega) hn]; simp
  have HM := Lib.hid (mulAddWW_any hz hx hn hl hne hy0 hyl)
  unfold BN at hx hy
  rw [digs_oneV hy0 hyl] at hy
  obtain ⟨gx, Lx, rfl, hbx, htx, hlx⟩ := hx.blk hp
  obtain ⟨gy, Ly, rfl, hby, hty, hly⟩ := hy.blk (by simp)
  have hc : w.cell? ⟨gy, 0, none⟩ = some (.int .u64 (y : Int)) := hy.cells 0 (.int .u64 (y : Int)) (by simp [wcs])
  simp only [List.length_cons, List.length_nil, Nat.zero_add] at *
  generalize (digs 18446744073709551616 n).length = m at *
  generalize hcx : Lx.length = cx at *
  generalize hcy : Ly.length = cy at *
  have h1 : ((m : Int) == 0) = false := by rw [beq_eq_false_iff_ne]; omega
  have h2 : ¬ (m : Int) < 1 := by omega
  clear hcx hcy hx hy hbx htx hby hty hz hne hn hl hlx hp
  go_enter Tryz.func85, Tryz.ntmps85
  go_wp2_with (go_at_call 101; ((with_reducible refine HM.out.mono ?_); rintro e w2 ⟨v, rfl, hv⟩; have HV := Lib.hid hv; clear hv))
  go_ret
  exact ⟨_, rfl, HV.out⟩

set_option maxRecDepth 100000 in
set_option maxHeartbeats 2000000 in
/-- The number of one word in front. -/
theorem mulSwap_any {w : World} {vs vx vy : Value} {n y : Nat} (hx : BN w vx n) (hn : 0 < n) (hl : (digs 18446744073709551616 n).length ≤ 90) (hy : BN w vy y) (hy0 : 0 < y) (hyl : y < 18446744073709551616) :
    Calls Tryz.prog 85 #[.slice none 0 0, vs, vy, vx] w fun e w' => Times w (.slice none 0 0) (y * n) e w' := by
  have hp : 0 < (digs 18446744073709551616 n).length := by rw [digs_pos (by omega) hn]; simp
  rcases Nat.lt_or_ge 1 (digs 18446744073709551616 n).length with h1 | h1
  · have HM := Lib.hid (mulOne_any (vs := vs) (Buf.nil w) hx hn hl (fun _ h => by cases h) hy hy0 hyl)
    rw [Nat.mul_comm n] at HM
    unfold BN at hx hy
    rw [digs_oneV hy0 hyl] at hy
    obtain ⟨gx, Lx, rfl, hbx, htx, hlx⟩ := hx.blk hp
    obtain ⟨gy, Ly, rfl, hby, hty, hly⟩ := hy.blk (by simp)
    simp only [List.length_cons, List.length_nil, Nat.zero_add] at *
    generalize (digs 18446744073709551616 n).length = m at *
    generalize hcx : Lx.length = cx at *
    generalize hcy : Ly.length = cy at *
    have h2 : (1 : Int) < (m : Int) := by omega
    clear hcx hcy hx hy hbx htx hby hty hn hl hlx hp
    go_enter Tryz.func85, Tryz.ntmps85
    go_wp2_with (go_at_call 85; ((with_reducible refine HM.out.mono ?_); rintro e w2 ⟨v, rfl, hv⟩; have HV := Lib.hid hv; clear hv))
    go_ret
    exact ⟨_, rfl, HV.out⟩
  · have hnl : n < 18446744073709551616 := by
      have := digs_lt_pow (B := 18446744073709551616) (by omega) n
      have h2 : 18446744073709551616 ^ (digs 18446744073709551616 n).length ≤ 18446744073709551616 ^ 1 := Nat.pow_le_pow_right (by omega) h1
      rw [Nat.pow_one] at h2
      omega
    exact mulOne_any (Buf.nil w) hy hy0 (by rw [digs_oneV hy0 hyl]; simp) (fun _ h => by cases h) hx hn hnl

set_option maxRecDepth 100000 in
set_option maxHeartbeats 2000000 in
theorem mulNone_any {w : World} {vs vx : Value} {n : Nat} (hx : BN w vx n) (hn : 0 < n) :
    Calls Tryz.prog 85 #[.slice none 0 0, vs, .slice none 0 0, vx] w fun e w' => e = .returned (.slice none 0 0) ∧ w' = w := by
  have hp : 0 < (digs 18446744073709551616 n).length := by rw [digs_pos (by omega) hn]; simp
  unfold BN at hx
  obtain ⟨gx, Lx, rfl, hbx, htx, hlx⟩ := hx.blk hp
  generalize (digs 18446744073709551616 n).length = m at *
  generalize hcx : Lx.length = cx at *
  have h2 : (0 : Int) < (m : Int) := by omega
  have h1 : ((m : Int) == 0) = false := by rw [beq_eq_false_iff_ne]; omega
  have h3 : ¬ (m : Int) < 0 := by omega
  clear hcx hx hbx htx hlx hp
  have HI : Hid (Calls Tryz.prog 85 #[.slice none 0 0, vs, .slice (some ⟨gx, 0, none⟩) m cx, .slice none 0 0] w fun e w' => e = .returned (.slice none 0 0) ∧ w' = w) := by
    refine Lib.hid ?_
    go_enter Tryz.func85, Tryz.ntmps85
    go_wp2_with fail
    go_ret
    exact ⟨rfl, rfl⟩
  go_enter Tryz.func85, Tryz.ntmps85
  go_wp2_with (go_at_call 85; ((with_reducible refine HI.out.mono ?_); rintro e w2 ⟨rfl, rfl⟩))
  go_ret
  exact ⟨rfl, rfl⟩

end Go.Proofs.YtnihfhfakadepaaGreatDoor
