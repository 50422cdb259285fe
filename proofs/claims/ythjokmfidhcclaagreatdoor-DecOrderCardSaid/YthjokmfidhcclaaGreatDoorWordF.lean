/- Package math/big: a list of words times a word, added to a list of words. -/
import Derived.Test.YthjokmfidhcclaaGreatDoorWordE
import Derived.Test.YthjokmfidhcclaaGreatDoorMin
namespace Go.Proofs.YthjokmfidhcclaaGreatDoor
open Go.RowKit

theorem MulIn.stepT {B : Nat} {a b : List Nat} {i j c D x N : Nat} {L : List Nat} (h : MulIn B a b i j c D x (L.take N)) (hx : x < B) {y z : Nat} (hN : i + j < N) (hy : L[i + j]? = some y) (hz : b[j]? = some z) (hzl : z < B) :
    MulIn B a b i (j + 1) ((c + x * z + y) / B) D x ((L.set (i + j) ((c + x * z + y) % B)).take N) := by
  have h2 := h.step hx (by rw [List.getElem?_take_of_lt hN]; exact hy) hz hzl
  rwa [List.take_set]

theorem split_add {t c : Nat} (V : Nat) (hV : 0 < V) : (t % V + c) % V = (c + t) % V ∧ (t % V + c) / V + t / V = (c + t) / V := by
  constructor
  · rw [Nat.mod_add_mod, Nat.add_comm]
  · have h1 : c + t = t % V + c + V * (t / V) := by have := Nat.mod_add_div t V; omega
    rw [h1, Nat.add_mul_div_left _ _ hV]

set_option maxRecDepth 100000 in
set_option maxHeartbeats 4000000 in
theorem addMulVVWW_any {w : World} {g gb cz cb i x D N : Nat} {L a b : List Nat} (hb : Blk w g L) (hx : Buf w (.slice (some ⟨gb, 0, none⟩) b.length cb) b) (hne : gb ≠ g) (hi : i + b.length ≤ N) (hN : N ≤ L.length) (hm : MulIn 18446744073709551616 a b i 0 0 D x (L.take N)) (hbl : ∀ z ∈ b, z < 18446744073709551616) (hxl : x < 18446744073709551616) :
    Calls Tryz.prog 21 #[.slice (some ⟨g, i, none⟩) b.length cz, .slice (some ⟨g, i, none⟩) b.length cz, .slice (some ⟨gb, 0, none⟩) b.length cb, .int .u64 x, .int .u64 0] w fun e w' => ∃ cr L', e = .returned (.int .u64 ((cr : Nat) : Int)) ∧ Blk w' g L' ∧ L'.length = L.length ∧ MulIn 18446744073709551616 a b i b.length cr D x (L'.take N) ∧ Keeps (fun k => k = g) w w' := by
  have HX := Lib.hid hx.cells
  have HL := Lib.hid hbl
  have HB := Lib.hid hb
  have HM := Lib.hid hm
  have hlen : L.length ≤ 1000 := hb.2
  clear hb hx hbl hm
  go_enter Tryz.func21, Tryz.ntmps21
  go_wp2_with fail
  go_loopw [10, 32] (fun cc i2 wr => ∃ (k cr : Nat) (L' : List Nat), k ≤ b.length ∧ i2 = .int .i64 k ∧ cc = .int .u64 cr ∧ Hid (Blk wr g L') ∧ Hid (L'.length = L.length) ∧ Hid (MulIn 18446744073709551616 a b i k cr D x (L'.take N)) ∧ Hid (Keeps (fun j => j = g) w wr)) (fun _ i2 _ => b.length - (intOf i2).toNat)
  case atStart => exact ⟨0, 0, L, Nat.zero_le _, rfl, rfl, HB, Lib.hid rfl, HM, Lib.hid (Keeps.refl _ _)⟩
  case round =>
    obtain ⟨k, cr, L', hk, rfl, rfl, hbk, hle, hm, hkp⟩ := hrel
    by_cases hlt : k < b.length
    · have hkL : i + k < L'.length := by have := hle.out; omega
      have hg : b[k]? = some b[k] := List.getElem?_eq_getElem hlt
      have hzl := HL.out _ (List.getElem_mem hlt)
      have hc0 : w.cell? ⟨gb, k, none⟩ = some (.int .u64 (b[k] : Int)) := by
        have := HX.out k _ (wcs_get hlt)
        rcases Nat.eq_zero_or_pos k with h0 | h0
        · subst h0; simpa [Addr.add] using this
        · simpa [Addr.add, show ¬ k = 0 by omega] using this
      have hc1 : wr.cell? ⟨gb, k, none⟩ = some (.int .u64 (b[k] : Int)) := hkp.out.cell hne hc0
      have hc2 := hbk.out.cell hkL
      have hfr := hbk.out.frozen (i + k)
      have hgu : L'[i + k]? = some L'[i + k] := List.getElem?_eq_getElem hkL
      obtain ⟨z, hze⟩ : ∃ z, b[k] = z := ⟨_, rfl⟩
      rw [hze] at hg hzl hc1
      obtain ⟨u, hu⟩ : ∃ u, L'[i + k] = u := ⟨_, rfl⟩
      rw [hu] at hc2 hgu
      have hul : u < 18446744073709551616 := hm.out.lt u (List.mem_of_getElem? (by rw [List.getElem?_take_of_lt (show i + k < N by omega)]; exact hgu))
      have HMW := Lib.hid (fun W : World => mulAddWWW_any (w := W) z x u hzl hxl hul)
      have HAD := Lib.hid (fun W : World => badd_any (w := W) ((z * x + u) % 18446744073709551616) cr)
      have HST := Lib.hid (hm.out.stepT hxl (show i + k < N by omega) hgu hg hzl)
      obtain ⟨s1, s2⟩ := split_add (t := z * x + u) (c := cr) 18446744073709551616 (by omega)
      have ct : cr + (z * x + u) = cr + x * z + u := by rw [Nat.mul_comm]; omega
      rw [ct] at s1 s2
      have hcl2 := HST.out.clt
      obtain ⟨hi1, ehi⟩ : ∃ h, (z * x + u) / 18446744073709551616 = h := ⟨_, rfl⟩
      obtain ⟨lo1, elo⟩ : ∃ h, (z * x + u) % 18446744073709551616 = h := ⟨_, rfl⟩
      rw [ehi, elo] at HMW
      rw [elo] at HAD s1 s2
      rw [ehi] at s2
      obtain ⟨q, hq⟩ : ∃ q, (cr + x * z + u) / 18446744073709551616 = q := ⟨_, rfl⟩
      obtain ⟨d, hd⟩ : ∃ d, (cr + x * z + u) % 18446744073709551616 = d := ⟨_, rfl⟩
      rw [hq] at HST s2 hcl2
      rw [hd] at HST s1
      rw [s1] at HAD
      obtain ⟨c2, hc2e⟩ : ∃ c2, (lo1 + cr) / 18446744073709551616 = c2 := ⟨_, rfl⟩
      rw [hc2e] at HAD s2
      have hwr : IntKind.u64.wrap ((c2 : Int) + (hi1 : Int)) = (q : Int) := by simp only [IntKind.wrap_u64]; omega
      have HBS := Lib.hid (fun n : Nat => Blk.set (w := wr.drewN n) hbk.out (i + k) d)
      have HKS := Lib.hid (fun n : Nat => (hkp.out.drewN n).setCell (p := ⟨g, i + k, none⟩) (.inl rfl) (.int .u64 (d : Int)))
      have HLS := Lib.hid (show (L'.set (i + k) d).length = L.length by rw [List.length_set]; exact hle.out)
      clear hc0 hq hd hbk hm hg hze hu hgu s1 s2 ct ehi elo hc2e hle hkp hcl2 hul hzl
      go_upto_region 7 with fail
      go_quiet ((go_at_call 80; exact (HMW.out _).mono fun e w' h => ⟨h.1, _, h.2⟩))
      go_wp2_with (go_at_call 42; ((with_reducible refine (HAD.out _).mono ?_); rintro e w2 ⟨rfl, rfl⟩))
      go_roundw
      case measure => simp [intOf]; omega
      case rel => exact ⟨k + 1, q, _, by omega, by go_num, rfl, HBS.out _, HLS, HST, HKS.out _⟩
    · obtain rfl : k = b.length := by omega
      go_wp2_with fail
      go_ret
      exact ⟨cr, L', rfl, hbk.out, hle.out, hm.out, hkp.out⟩

theorem Tryz.addMulVVWW_enters (args : Array Value) (w : World) : (callFunc 79 args).run Tryz.prog w = .ok (.enter 21 args) w :=
  run_callFunc_twin (twin := "math/big.addMulVVWW_g") Tryz.func79 (by kernel_rfl) (by kernel_rfl) (by kernel_rfl) (by kernel_rfl) Tryz.func21 (by kernel_rfl) (by kernel_rfl) (by kernel_rfl) args w

end Go.Proofs.YthjokmfidhcclaaGreatDoor
