/- Package math/big: a number times a word, a number of its own made. -/
import Derived.Test.YthjokmfidhcclaaGreatDoorWordD
namespace Go.Proofs.YthjokmfidhcclaaGreatDoor
open Go.RowKit

/-- A number handed back: in the room that was given, or in new. -/
def Times (w : World) (vz : Value) (n : Nat) (e : Ending) (w' : World) : Prop :=
  ∃ v, e = .returned v ∧ BN w' v n ∧ Keeps (fun g => vz.ownBlock = some g) w w' ∧ (∀ g, v.ownBlock = some g → vz.ownBlock = some g ∨ w.heap.size ≤ g)

/-- What the steps made, with the last word behind it. -/
theorem MulW.out {B : Nat} {l L0 : List Nat} {y c : Nat} {L : List Nat} (h : MulW B l L0 y 0 l.length c L) (hk : l.length < L.length) : dval B ((L.set l.length c).take (l.length + 1)) = dval B l * y ∧ (∀ x ∈ (L.set l.length c).take (l.length + 1), x < B) := by
  have ht : (L.set l.length c).take (l.length + 1) = L.take l.length ++ [c] := by
    rw [List.take_add_one, List.getElem?_set_self hk, List.take_set_of_le (Nat.le_refl _)]
    rfl
  rw [ht]
  constructor
  · rw [dval_append, List.length_take, Nat.min_eq_left (by omega)]
    have := h.val
    rw [List.take_length, Nat.add_zero] at this
    simp only [dval, Nat.mul_zero, Nat.add_zero]
    rw [← this, Nat.mul_comm c]
  · intro z hz
    rcases List.mem_append.1 hz with hz | hz
    · exact h.lt z hz
    · rw [List.mem_singleton.1 hz]; exact h.clt

theorem apart_new {w : World} {vz : Value} {gx n c g : Nat} (h : ∀ g, vz.ownBlock = some g → (Value.slice (some ⟨gx, 0, none⟩) n c).ownBlock ≠ some g) (hx : gx < w.heap.size) (hg : vz.ownBlock = some g ∨ w.heap.size ≤ g) : gx ≠ g := by
  rcases hg with hg | hg
  · intro e
    exact h g hg (by rw [e]; rfl)
  · omega

theorem norm_after {w : World} {g m1 c : Nat} {l L0 L : List Nat} {y cr m : Nat} (hb : Blk w g L) (hm : MulW 18446744073709551616 l L0 y 0 m cr L) (hll : l.length = m) (hm1 : m + 1 = m1) (hc : L0.length = c) (hmc : m1 ≤ c) :
    Calls Tryz.prog 41 #[.slice (some ⟨g, 0, none⟩) m1 c] (w.setCell ⟨g, m, none⟩ (.int .u64 (cr : Int))) fun e w' => ∃ k, e = .returned (.slice (some ⟨g, 0, none⟩) k c) ∧ BN w' (.slice (some ⟨g, 0, none⟩) k c) (dval 18446744073709551616 l * y) ∧ w' = w.setCell ⟨g, m, none⟩ (.int .u64 (cr : Int)) := by
  subst hll hm1
  have hl := hm.len
  have ho := hm.out (by omega)
  have h2 := hb.set l.length cr
  have hs : (L.set l.length cr).length = c := by rw [List.length_set]; omega
  have := norm64_any h2 (n := l.length + 1) (by omega) ho.2
  rw [hs, ho.1] at this
  exact this.mono fun e w' ⟨k, h1, h2, h3⟩ => ⟨k, h1, by rw [h3]; exact h2, h3⟩

theorem keeps_times {w w1 w2 : World} {vz : Value} {g : Nat} (hk : Keeps (fun _ => False) w w1) (hk2 : Keeps (fun k => k = g) w1 w2) (hg : vz.ownBlock = some g ∨ w.heap.size ≤ g) (j : Nat) (u : Value) : Keeps (fun k => vz.ownBlock = some k) w (w2.setCell ⟨g, j, none⟩ u) :=
  ((hk.mono (S' := fun k => vz.ownBlock = some k) fun _ h => h.elim).trans hk2 fun k e => by subst e; exact hg).setCell hg u

set_option maxRecDepth 100000 in
set_option maxHeartbeats 2000000 in
theorem mulAddWW_any {w : World} {vz vx : Value} {lz : List Nat} {n y : Nat} (hz : Buf w vz lz) (hx : BN w vx n) (hn : 0 < n) (hl : (digs 18446744073709551616 n).length ≤ 90) (hne : ∀ g, vz.ownBlock = some g → vx.ownBlock ≠ some g) (hy0 : 0 < y) (hy : y < 18446744073709551616) :
    Calls Tryz.prog 64 #[vz, vx, .int .u64 y, .int .u64 0] w fun e w' => Times w vz (n * y) e w' := by
  have hp : 0 < (digs 18446744073709551616 n).length := by rw [digs_pos (by omega) hn]; simp
  have hv := dval_digs (B := 18446744073709551616) (by omega) n
  have hlt := digs_lt (B := 18446744073709551616) (by omega) n
  unfold BN at hx
  rw [← hv]
  clear hv hn
  generalize digs 18446744073709551616 n = l at *
  obtain ⟨gx, Lx, rfl, hbx, htx, hlx⟩ := hx.blk hp
  have HM := Lib.hid (make_any hz (l.length + 1) (by omega) (by omega))
  have HMV := Lib.hid (fun (W : World) (g : Nat) (L : List Nat) (hb : Blk W g L) (hk : Keeps (fun _ => False) w W) (hgx : gx ≠ g) (hlL : l.length + 1 ≤ L.length) => show Calls Tryz.prog 20 #[.slice (some ⟨g, 0, none⟩) l.length L.length, .slice (some ⟨gx, 0, none⟩) l.length Lx.length, .int .u64 y, .int .u64 0] W (fun e w' => ∃ cr L', e = .returned (.int .u64 ((cr : Nat) : Int)) ∧ Blk w' g L' ∧ MulW 18446744073709551616 l L y 0 l.length cr L' ∧ Keeps (fun k => k = g) W w') from mulAddVWW_any (c := L.length) (y := y) (r := 0) hb (hx.later hk) hgx (by omega) hlt hy (by omega))
  have HNE := Lib.hid hne
  have HGX := Lib.hid (hbx.lt)
  obtain ⟨m1, hm1⟩ : ∃ m1, l.length + 1 = m1 := ⟨_, rfl⟩
  have hw1 : IntKind.i64.wrap ((l.length : Int) + 1) = (m1 : Int) := by simp only [IntKind.wrap_i64]; omega
  rw [hm1] at HM HMV
  have hy1 : ((y : Int) == 0) = false := by rw [beq_eq_false_iff_ne]; omega
  have hp1 : ((l.length : Int) == 0) = false := by rw [beq_eq_false_iff_ne]; omega
  have hd := Tryz.mulAddVWW_enters
  clear hne hbx htx hx hz hy hy0 hlt
  obtain ⟨m, hm⟩ : ∃ m, l.length = m := ⟨_, rfl⟩
  have HLM := Lib.hid hm
  rw [hm] at HMV hm1 hw1 hp1 hl hp hlx ⊢
  clear hm
  have hmm : m < m1 := by omega
  have HM1 := Lib.hid hm1
  clear hm1
  go_enter Tryz.func64, Tryz.ntmps64
  go_wp2_with (first
    | (go_at_call 38; ((with_reducible refine HM.out.mono ?_); rintro e w1 ⟨g, L, rfl, hbk, hlL, hk, hg⟩; have hgx := apart_new HNE.out HGX.out hg; have HB := Lib.hid hbk; have HK := Lib.hid hk; have HG := Lib.hid hg; have HV := Lib.hid (HMV.out w1 g L hbk hk hgx hlL); clear hbk hk hg HMV hgx))
    | (go_at_call 20; ((with_reducible refine HV.out.mono ?_); rintro e w2 ⟨cr, L', rfl, hb2, hm2, hk2⟩; have hL2 : L'.length = L.length := hm2.len; have hL3 : m < L'.length := (by omega); have hfr := hb2.frozen m; have hcl := hb2.cell hL3; have hbl := hb2.lt; have HB2 := Lib.hid hb2; have HM2 := Lib.hid hm2; have HK2 := Lib.hid hk2; have HN := Lib.hid (norm_after hb2 hm2 HLM.out HM1.out rfl hlL); clear hb2 hm2 hk2))
    | (go_at_call 41; ((with_reducible refine HN.out.mono ?_); rintro e w3 ⟨k, rfl, hbn, rfl⟩; have HBN := Lib.hid hbn; clear hbn)))
  go_ret
  exact ⟨_, rfl, HBN.out, keeps_times HK.out HK2.out HG.out _ _, fun k hk => by cases hk; exact HG.out⟩

end Go.Proofs.YthjokmfidhcclaaGreatDoor
