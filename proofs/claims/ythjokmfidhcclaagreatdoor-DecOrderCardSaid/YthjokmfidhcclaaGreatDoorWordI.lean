/- Package math/big: the square of a number; a number times a number of one word. -/
import Derived.Test.YthjokmfidhcclaaGreatDoorWordH
namespace Go.Proofs.YthjokmfidhcclaaGreatDoor
open Go.RowKit

/-- The three thresholds, as they are laid. -/
def Thr (w : World) : Prop := w.cell? ⟨1, 0, none⟩ = some (.int .i64 12) ∧ w.cell? ⟨2, 0, none⟩ = some (.int .i64 80) ∧ w.cell? ⟨3, 0, none⟩ = some (.int .i64 40)

theorem Thr.later {w w' : World} (h : Thr w) (hk : Keeps (fun _ => False) w w') : Thr w' := ⟨hk.cell (fun h => h) h.1, hk.cell (fun h => h) h.2.1, hk.cell (fun h => h) h.2.2⟩

set_option maxRecDepth 100000 in
set_option maxHeartbeats 4000000 in
theorem sqr_any {w : World} {vz vs vx : Value} {lz : List Nat} {n : Nat} (ht : Thr w) (hz : Buf w vz lz) (hx : BN w vx n) (hn : 0 < n) (hl : (digs 18446744073709551616 n).length ≤ 11) (hne : ∀ g, vz.ownBlock = some g → vx.ownBlock ≠ some g) :
    Calls Tryz.prog 46 #[vz, vs, vx] w fun e w' => Times w vz (n * n) e w' := by
  have hp : 0 < (digs 18446744073709551616 n).length := by rw [digs_pos (by omega) hn]; simp
  have hv := dval_digs (B := 18446744073709551616) (by omega) n
  have hlt := digs_lt (B := 18446744073709551616) (by omega) n
  unfold BN at hx
  obtain ⟨gx, Lx, rfl, hbx, htx, hlx⟩ := hx.blk hp
  have HNE := Lib.hid hne
  have HGX := Lib.hid (hbx.lt)
  have HX := Lib.hid hx
  have HT := Lib.hid ht
  have HV := Lib.hid hv
  have HLT := Lib.hid hlt
  clear hv hlt
  generalize digs 18446744073709551616 n = l at *
  by_cases h1 : l.length = 1
  · obtain ⟨x, rfl⟩ : ∃ x, l = [x] := List.length_eq_one_iff.1 h1
    have hxv : n = x := by rw [← HV.out]; simp [dval]
    subst hxv
    have hxl : n < 18446744073709551616 := HLT.out n (by simp)
    have HM := Lib.hid (show Calls Tryz.prog 38 #[vz, .int .i64 2] w (fun e w' => Made w vz 2 e w') from make_any hz 2 (by omega) (by omega))
    have HC := Lib.hid ((hx.cells 0 (.int .u64 (n : Int)) (by simp [wcs])))
    have HW := Lib.hid (fun W : World => mulWW_any (w := W) n n hxl hxl)
    have hcx : w.cell? ⟨gx, 0, none⟩ = some (.int .u64 (n : Int)) := HC.out
    have HTW := Lib.hid (fun (W : World) (g : Nat) (L : List Nat) (h : Blk W g L) (h2 : 2 ≤ L.length) => two_words h h2 hxl)
    simp only [List.length_cons, List.length_nil, Nat.zero_add] at hlx ⊢
    clear hx hbx htx hz ht hne hl hp h1 HC
    generalize Lx.length = cx at *
    generalize ((n * n / 18446744073709551616 : Nat) : Int) = hi at *
    generalize ((n * n % 18446744073709551616 : Nat) : Int) = lo at *
    go_enter Tryz.func46, Tryz.ntmps46
    go_wp2_with (first
      | (go_at_call 38; ((with_reducible refine HM.out.mono ?_); rintro e w1 ⟨g, L, rfl, hbk, hlL, hk, hg⟩; have HB := Lib.hid hbk; have HK := Lib.hid hk; have HG := Lib.hid hg; have HN := Lib.hid (HTW.out w1 g L hbk hlL); have hc0 := hbk.cell (j := 0) (by omega); have hc1 := hbk.cell (j := 1) (by omega); have hf0 := hbk.frozen 0; have hf1 := hbk.frozen 1; have hlt1 := hbk.lt; have hne0 : ¬ L = [] := (by intro h; subst h; simp at hlL); clear hbk hk hg HTW))
      | (go_at_call 57; ((with_reducible refine (HW.out _).mono ?_); rintro e w2 ⟨rfl, rfl⟩))
      | (go_at_call 41; ((with_reducible refine HN.out.mono ?_); rintro e w3 ⟨k, rfl, hbn, rfl⟩; have HBN := Lib.hid hbn; clear hbn)))
    go_ret
    exact ⟨_, rfl, HBN.out, ((HK.out.mono (S' := fun k => vz.ownBlock = some k) fun _ h => h.elim).setCell (p := ⟨g, 1, none⟩) HG.out _).setCell (p := ⟨g, 0, none⟩) HG.out _, fun k hk => by cases hk; exact HG.out⟩
  · have hne2 : ∀ g, vz.ownBlock = some g → g ≠ gx := fun g hg e => hne g hg (by rw [e]; rfl)
    have HA := Lib.hid (alias_any hz hbx hlx hne2)
    have HM := Lib.hid (fun q : Nat => make_any (w := w.drewN q) (hz.later (hk := (Keeps.refl _ w).drewN q)) (2 * l.length) (by omega) (by omega))
    have hbm := fun (W : World) (g : Nat) (L : List Nat) (hk : Keeps (fun _ => False) w W) (hb : Blk W g L) (hg : gx ≠ g) (hN : 2 * l.length ≤ L.length) => basicMul_any hb (hx.later hk) (hx.later hk) hg hg hN (by omega) hp HLT.out HLT.out
    have HBM := Lib.hid hbm
    have hw1 : IntKind.i64.wrap (2 * (l.length : Int)) = ((2 * l.length : Nat) : Int) := by simp only [IntKind.wrap_i64]; omega
    have hp1 : ((l.length : Int) == 0) = false := by rw [beq_eq_false_iff_ne]; omega
    have hp2 : ((l.length : Int) == 1) = false := by rw [beq_eq_false_iff_ne]; omega
    have hm12 : (l.length : Int) < 12 := by omega
    have hm80 : (l.length : Int) < 80 := by omega
    obtain ⟨m, hm⟩ : ∃ m, l.length = m := ⟨_, rfl⟩
    obtain ⟨m2, hm2⟩ : ∃ m2, 2 * l.length = m2 := ⟨_, rfl⟩
    rw [hm2] at HM HBM hw1
    rw [hm] at HBM HA hw1 hp1 hp2 hm12 hm80 hlx ⊢
    have HLM := Lib.hid hm
    clear hbm hx hbx htx hz ht hne hl hp h1 hne2 hm hm2
    generalize hcx : Lx.length = cx at *
    clear hcx
    go_enter Tryz.func46, Tryz.ntmps46
    go_wp2_with (first
      | (go_at_call 58; ((with_reducible refine HA.out.mono ?_); rintro e w0 ⟨rfl, q, rfl⟩; have HM0 := Lib.hid (HM.out q); have HK0 := Lib.hid ((Keeps.refl (fun _ => False) w).drewN q)))
      | (go_at_call 38; ((with_reducible refine HM0.out.mono ?_); rintro e w1 ⟨g, L, rfl, hbk, hlL, hk, hg⟩; have hgx := apart_new HNE.out HGX.out hg; have HK1 := Lib.hid (HK0.out.trans hk fun _ h => .inl h); have HG := Lib.hid hg; have HBQ := Lib.hid (HBM.out w1 g L HK1.out hbk hgx hlL); obtain ⟨t2, t3, _⟩ := HT.out.later HK1.out; clear hbk hk hg))
      | (go_at_call 59; ((with_reducible refine HBQ.out.mono ?_); rintro e w2 ⟨rfl, L2, hb2, hl2, ho2, hk2⟩; have HK2 := Lib.hid hk2; have HN := Lib.hid (norm_mul hb2 (by rw [HLM.out]; exact ho2) (by omega) hl2); clear hb2 hl2 ho2 hk2))
      | (go_at_call 41; ((with_reducible refine HN.out.mono ?_); rintro e w3 ⟨k, rfl, hbn, rfl⟩; have HBN := Lib.hid hbn; clear hbn)))
    go_ret
    refine ⟨_, rfl, by rw [← HV.out]; exact HBN.out, (HK1.out.mono (S' := fun k => vz.ownBlock = some k) fun _ h => h.elim).trans HK2.out fun k e => by subst e; exact HG.out, fun k hk => by cases hk; exact HG.out⟩

end Go.Proofs.YthjokmfidhcclaaGreatDoor
