/- Package math/big: do two lists of words share their room; the square of a number; a number times a number of one word. -/
import Derived.Test.YthjokmfidhcclaaGreatDoorWordG
import Derived.LaidEqlPtr
namespace Go.Proofs.YthjokmfidhcclaaGreatDoor
open Go.RowKit

set_option maxRecDepth 100000 in
set_option maxHeartbeats 2000000 in
theorem alias_some {w : World} {g gx n nx c cx : Nat} {L Lx : List Nat} (hg : Blk w g L) (hgx : Blk w gx Lx) (hne : g ≠ gx) (hc : n ≤ c) (hcx : nx ≤ cx) (h1 : c ≤ 1000) (h2 : cx ≤ 1000) :
    Calls Tryz.prog 58 #[.slice (some ⟨g, 0, none⟩) n c, .slice (some ⟨gx, 0, none⟩) nx cx] w fun e w' => e = .returned (.bool false) ∧ ∃ q, w' = w.drewN q := by
  rcases Nat.eq_zero_or_pos c with hc0 | hc0
  · subst hc0
    go_enter Tryz.func58, Tryz.ntmps58
    go_upto_region 1 with fail
    go_quiet (fail)
    go_wp2_with fail
    go_ret
    exact ⟨rfl, _, rfl⟩
  rcases Nat.eq_zero_or_pos cx with hx0 | hx0
  · subst hx0
    have d1 : decide ((0 : Int) < (c : Int)) = true := by simpa using hc0
    go_enter Tryz.func58, Tryz.ntmps58
    go_upto_region 1 with fail
    go_quiet (fail)
    go_wp2_with fail
    go_ret
    exact ⟨rfl, _, rfl⟩
  obtain ⟨p, hp⟩ : ∃ p, c = p + 1 := ⟨c - 1, by omega⟩
  obtain ⟨q, hq⟩ : ∃ q, cx = q + 1 := ⟨cx - 1, by omega⟩
  have w1 : IntKind.i64.wrap ((c : Int) - 1) = (p : Int) := by simp only [IntKind.wrap_i64]; omega
  have w2 : IntKind.i64.wrap ((cx : Int) - 1) = (q : Int) := by simp only [IntKind.wrap_i64]; omega
  have l1 : (p : Int) < (c : Int) := by omega
  have l2 : (q : Int) < (cx : Int) := by omega
  have i1 : (0 : Int) < (c : Int) := by omega
  have i2 : (0 : Int) < (cx : Int) := by omega
  have HG := Lib.hid hg; have HGX := Lib.hid hgx
  have heq : ∀ k, (binOp .eql 76 (.pointer (some ⟨g, p, none⟩)) (.pointer (some ⟨gx, q, none⟩))).run Tryz.prog (w.drewN k) = .ok (.bool false) (w.drewN k) := fun k => by
    obtain ⟨i, hi, _, hsz, _⟩ := info_parts Tryz.info51
    exact run_eql_ptr_other (w.drewN k) Tryz.underlying76 hi (by rw [hsz]; decide) (fun e => hne (congrArg Addr.block e)) (ca := (wcs .u64 L).toArray) (cb := (wcs .u64 Lx).toArray) hg.1 hgx.1
  have heq0 := heq 0
  clear hp hq hg hgx
  go_enter Tryz.func58, Tryz.ntmps58
  go_upto_region 1 with fail
  go_quiet (fail)
  go_wp2_with fail
  go_ret
  exact ⟨rfl, _, rfl⟩

set_option maxRecDepth 100000 in
set_option maxHeartbeats 2000000 in
theorem alias_nil {w : World} {v : Value} (hv : ∃ A n c, v = .slice A n c) :
    Calls Tryz.prog 58 #[.slice none 0 0, v] w fun e w' => e = .returned (.bool false) ∧ ∃ q, w' = w.drewN q := by
  obtain ⟨A, n, c, rfl⟩ := hv
  go_enter Tryz.func58, Tryz.ntmps58
  go_upto_region 1 with fail
  go_quiet (fail)
  go_wp2_with fail
  go_ret
  exact ⟨rfl, _, rfl⟩

theorem alias_any {w : World} {vz : Value} {lz : List Nat} {gx nx : Nat} {Lx : List Nat} (hz : Buf w vz lz) (hx : Blk w gx Lx) (hnx : nx ≤ Lx.length) (hne : ∀ g, vz.ownBlock = some g → g ≠ gx) :
    Calls Tryz.prog 58 #[vz, .slice (some ⟨gx, 0, none⟩) nx Lx.length] w fun e w' => e = .returned (.bool false) ∧ ∃ q, w' = w.drewN q := by
  rcases hz with ⟨rfl, _⟩ | ⟨g, L, rfl, hb, ht⟩
  · exact alias_nil ⟨_, _, _, rfl⟩
  · have h1 := congrArg List.length ht
    rw [List.length_take] at h1
    exact alias_some hb hx (hne g rfl) (by omega) hnx hb.2 hx.2

theorem two_words {w : World} {g : Nat} {L : List Nat} {x : Nat} (h : Blk w g L) (h2 : 2 ≤ L.length) (hx : x < 18446744073709551616) :
    Calls Tryz.prog 41 #[.slice (some ⟨g, 0, none⟩) 2 L.length] ((w.setCell ⟨g, 1, none⟩ (.int .u64 ((x * x / 18446744073709551616 : Nat) : Int))).setCell ⟨g, 0, none⟩ (.int .u64 ((x * x % 18446744073709551616 : Nat) : Int))) fun e w' => ∃ k, e = .returned (.slice (some ⟨g, 0, none⟩) k L.length) ∧ BN w' (.slice (some ⟨g, 0, none⟩) k L.length) (x * x) ∧ w' = (w.setCell ⟨g, 1, none⟩ (.int .u64 ((x * x / 18446744073709551616 : Nat) : Int))).setCell ⟨g, 0, none⟩ (.int .u64 ((x * x % 18446744073709551616 : Nat) : Int)) := by
  have hb := (h.set 1 (x * x / 18446744073709551616)).set 0 (x * x % 18446744073709551616)
  have hq : x * x / 18446744073709551616 < 18446744073709551616 := by
    apply Nat.div_lt_of_lt_mul
    have : x * x ≤ 18446744073709551615 * 18446744073709551615 := Nat.mul_le_mul (by omega) (by omega)
    omega
  have hr : x * x % 18446744073709551616 < 18446744073709551616 := Nat.mod_lt _ (by omega)
  have hv : x * x % 18446744073709551616 + 18446744073709551616 * (x * x / 18446744073709551616) = x * x := Nat.mod_add_div _ _
  generalize x * x / 18446744073709551616 = hi at *
  generalize x * x % 18446744073709551616 = lo at *
  obtain ⟨a, b, l, rfl⟩ : ∃ a b l, L = a :: b :: l := by
    match L, h2 with
    | a :: b :: l, _ => exact ⟨a, b, l, rfl⟩
  simp only [List.set_cons_succ, List.set_cons_zero] at hb
  have h3 := norm64_any hb (n := 2) (by simp) (fun y hy => by
    simp only [List.take_succ_cons, List.take_zero, List.mem_cons, List.not_mem_nil, or_false] at hy
    rcases hy with rfl | rfl
    · exact hr
    · exact hq)
  have e : dval 18446744073709551616 (List.take 2 (lo :: hi :: l)) = x * x := by simp [dval, hv]
  rw [e] at h3
  simp only [List.length_cons] at h3 ⊢
  exact h3.mono fun e w' ⟨k, h1, h2, h4⟩ => ⟨k, h1, by rw [h4]; exact h2, h4⟩

theorem norm_mul {w : World} {g N c : Nat} {L a : List Nat} (hb : Blk w g L) (hm : MulOut 18446744073709551616 a a a.length (L.take N)) (hN : N ≤ L.length) (hc : L.length = c) :
    Calls Tryz.prog 41 #[.slice (some ⟨g, 0, none⟩) N c] w fun e w' => ∃ k, e = .returned (.slice (some ⟨g, 0, none⟩) k c) ∧ BN w (.slice (some ⟨g, 0, none⟩) k c) (dval 18446744073709551616 a * dval 18446744073709551616 a) ∧ w' = w := by
  subst hc
  have := norm64_any hb hN hm.lt
  rwa [hm.done] at this

end Go.Proofs.YthjokmfidhcclaaGreatDoor
