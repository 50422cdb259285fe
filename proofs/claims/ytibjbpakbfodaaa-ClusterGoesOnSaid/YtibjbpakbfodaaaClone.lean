/- The four instances of slices.Clone: what comes back is a row of its own, with the same cells. -/
import Derived.Test.YtibjbpakbfodaaaBase
import Derived.WalkKit
import Derived.WalkSpells
import Derived.WalkLawsBesides
import Derived.Lib.Hide
namespace Go.Proofs.Ytibjbpakbfodaaa
open Go.RowKit

theorem own_base {w : World} {base e size : Nat} {v : Value} {n : Nat} {xs : List Value} (h : w.ownsRow base e size v n xs) : w.ownsRow 0 e size v n xs := by
  refine ⟨h.1, ?_⟩
  rcases h.2 with hn | ⟨g, cap, cur, rfl, _, r⟩
  · exact .inl hn
  · exact .inr ⟨g, cap, cur, rfl, Nat.zero_le _, r⟩

theorem Try.info44 : (Try.prog.info? 44).map (fun i => (i.zero, i.size, i.bytes)) = some (some (.agg #[.int .i64 0, .int .i64 0]), 2, 16) := by kernel_rfl

set_option maxRecDepth 100000 in
set_option maxHeartbeats 1000000 in
theorem cloneItem_some {w : World} (ad : Addr) (len cap : Nat) (xs : List Value) (hl : xs.length = len * 2) (hc : ∀ j u, xs[j]? = some u → w.cell? (ad.add j) = some u) (h1 : ∀ u ∈ xs, u.oneCell' = true) (hlen : len ≤ 100000) :
    Calls Try.prog 86 #[.slice (some ad) len cap] w fun e w' => ∃ v', e = .returned v' ∧ w'.ownsRow 0 44 2 v' len xs ∧ (∀ g, v'.ownBlock = some g → w.heap.size ≤ g) ∧ Keeps (fun _ => False) w w' := by
  obtain ⟨i0, hi, hz, hsz, hby⟩ := info_parts Try.info44
  have HI := Lib.hid hi; have HZ := Lib.hid hz; have HS := Lib.hid hsz; have HB := Lib.hid hby
  have HL := Lib.hid hl; have HC := Lib.hid hc; have H1 := Lib.hid h1
  clear hi hz hsz hby hl hc h1
  have hq := fun (w : World) => Lib.run_eql_slice_nil (P := Try.prog) w 22 44 (some ad) len cap 0 0 Try.underlying22
  go_enter Try.func86, Try.ntmps86
  go_wp2_with (at_builtin; (refine wpList_append_own _ rfl _ _ 22 rfl w.heap.size 44 i0 _ 2 16 Try.underlying22 HI.out HZ.out HS.out HB.out rfl (by decide) (.slice (some ⟨w.heap.size, 0, none⟩) 0 0) 0 [] rfl (World.ownsRow_lit _ _ 0 (by simp) (by simp [maxLen]) (by simp)) ad len cap xs rfl HL.out ?c1 H1.out ?c2 ?c3 ?c4 ?_; (case c1 => (intro j u hj; exact ((Keeps.refl (fun _ => False) w).alloc _).cellA (fun h => h) (HC.out j u hj))); (case c2 => (simp [maxLen]; omega)); (case c3 => omega); (case c4 => simp); intro v' w1 hown hgrow _; clear HC))
  go_ret
  refine ⟨_, rfl, by simpa using own_base hown, fun g hg => (hown.lt g hg).1, ?_⟩
  exact ((Keeps.refl (fun _ => False) w).alloc _).trans (S' := fun k => k = w.heap.size) (Keeps.of_grown hgrow (fun k hk => .inl (by simp [Value.ownBlock] at hk; exact hk.symm))) (fun k hk => .inr (by omega))

set_option maxRecDepth 100000 in
set_option maxHeartbeats 1000000 in
theorem cloneItem_none {w : World} (len cap : Nat) :
    Calls Try.prog 86 #[.slice none len cap] w fun e w' => e = .returned (.slice none 0 0) ∧ w' = w := by
  have hq := fun (w : World) => Lib.run_eql_slice_nil (P := Try.prog) w 22 44 none len cap 0 0 Try.underlying22
  go_enter Try.func86, Try.ntmps86
  go_wp2
  go_ret
  exact ⟨rfl, rfl⟩

theorem cloneItem_any {w : World} {S : Nat → Prop} {v : Value} {xs : List Value} (h : Sl w S v 2 xs) (n : Nat) (hn : xs.length = n * 2) (h1 : ∀ u ∈ xs, u.oneCell' = true) (hlen : n ≤ 100000) :
    Calls Try.prog 86 #[v] w fun e w' => ∃ A c, e = .returned (.slice A n c) ∧ w'.ownsRow 0 44 2 (.slice A n c) n xs ∧ (∀ g, (Value.slice A n c).ownBlock = some g → w.heap.size ≤ g) ∧ Keeps (fun _ => False) w w' := by
  obtain ⟨A, len, cap, rfl, hl, _, _, hc⟩ := h
  obtain rfl : len = n := by omega
  cases A with
  | none =>
    have h0 : len = 0 := by
      rcases Nat.eq_zero_or_pos xs.length with h | h
      · omega
      · obtain ⟨b, off, hA, _⟩ := hc h
        cases hA
    subst h0
    have hx : xs = [] := List.eq_nil_of_length_eq_zero (by omega)
    subst hx
    exact (cloneItem_none 0 cap).mono fun e w' ⟨he, hw⟩ => ⟨_, _, he, hw ▸ World.ownsRow_nil w 0 44 2, fun g hg => by simp [Value.ownBlock] at hg, by subst hw; exact Keeps.refl _ _⟩
  | some ad =>
    refine (cloneItem_some (w := w) ad len cap xs hl (fun j u hj => ?_) h1 hlen).mono fun e w' ⟨v', he, ho, hg, hk⟩ => by
      obtain ⟨A, c, rfl, _⟩ := own_slice ho
      exact ⟨A, c, he, ho, hg, hk⟩
    obtain ⟨b, off, hA, _, hcell⟩ := hc (by have := (List.getElem?_eq_some_iff.1 hj).1; omega)
    injection hA with hA
    subst hA
    rw [Addr.add_lit]
    exact hcell j u hj

theorem Try.info3 : (Try.prog.info? 3).map (fun i => (i.zero, i.size, i.bytes)) = some (some (.int .i64 0), 1, 8) := by kernel_rfl

set_option maxRecDepth 100000 in
set_option maxHeartbeats 1000000 in
theorem cloneInt_some {w : World} (ad : Addr) (len cap : Nat) (xs : List Value) (hl : xs.length = len * 1) (hc : ∀ j u, xs[j]? = some u → w.cell? (ad.add j) = some u) (h1 : ∀ u ∈ xs, u.oneCell' = true) (hlen : len ≤ 100000) :
    Calls Try.prog 87 #[.slice (some ad) len cap] w fun e w' => ∃ v', e = .returned v' ∧ w'.ownsRow 0 3 1 v' len xs ∧ (∀ g, v'.ownBlock = some g → w.heap.size ≤ g) ∧ Keeps (fun _ => False) w w' := by
  obtain ⟨i0, hi, hz, hsz, hby⟩ := info_parts Try.info3
  have HI := Lib.hid hi; have HZ := Lib.hid hz; have HS := Lib.hid hsz; have HB := Lib.hid hby
  have HL := Lib.hid hl; have HC := Lib.hid hc; have H1 := Lib.hid h1
  clear hi hz hsz hby hl hc h1
  have hq := fun (w : World) => Lib.run_eql_slice_nil (P := Try.prog) w 23 3 (some ad) len cap 0 0 Try.underlying23
  go_enter Try.func87, Try.ntmps87
  go_wp2_with (at_builtin; (refine wpList_append_own _ rfl _ _ 23 rfl w.heap.size 3 i0 _ 1 8 Try.underlying23 HI.out HZ.out HS.out HB.out rfl (by decide) (.slice (some ⟨w.heap.size, 0, none⟩) 0 0) 0 [] rfl (World.ownsRow_lit _ _ 0 (by simp) (by simp [maxLen]) (by simp)) ad len cap xs rfl HL.out ?c1 H1.out ?c2 ?c3 ?c4 ?_; (case c1 => (intro j u hj; exact ((Keeps.refl (fun _ => False) w).alloc _).cellA (fun h => h) (HC.out j u hj))); (case c2 => (simp [maxLen]; omega)); (case c3 => omega); (case c4 => simp); intro v' w1 hown hgrow _; clear HC))
  go_ret
  refine ⟨_, rfl, by simpa using own_base hown, fun g hg => (hown.lt g hg).1, ?_⟩
  exact ((Keeps.refl (fun _ => False) w).alloc _).trans (S' := fun k => k = w.heap.size) (Keeps.of_grown hgrow (fun k hk => .inl (by simp [Value.ownBlock] at hk; exact hk.symm))) (fun k hk => .inr (by omega))

set_option maxRecDepth 100000 in
set_option maxHeartbeats 1000000 in
theorem cloneInt_none {w : World} (len cap : Nat) :
    Calls Try.prog 87 #[.slice none len cap] w fun e w' => e = .returned (.slice none 0 0) ∧ w' = w := by
  have hq := fun (w : World) => Lib.run_eql_slice_nil (P := Try.prog) w 23 3 none len cap 0 0 Try.underlying23
  go_enter Try.func87, Try.ntmps87
  go_wp2
  go_ret
  exact ⟨rfl, rfl⟩

theorem cloneInt_any {w : World} {S : Nat → Prop} {v : Value} {xs : List Value} (h : Sl w S v 1 xs) (n : Nat) (hn : xs.length = n * 1) (h1 : ∀ u ∈ xs, u.oneCell' = true) (hlen : n ≤ 100000) :
    Calls Try.prog 87 #[v] w fun e w' => ∃ A c, e = .returned (.slice A n c) ∧ w'.ownsRow 0 3 1 (.slice A n c) n xs ∧ (∀ g, (Value.slice A n c).ownBlock = some g → w.heap.size ≤ g) ∧ Keeps (fun _ => False) w w' := by
  obtain ⟨A, len, cap, rfl, hl, _, _, hc⟩ := h
  obtain rfl : len = n := by omega
  cases A with
  | none =>
    have h0 : len = 0 := by
      rcases Nat.eq_zero_or_pos xs.length with h | h
      · omega
      · obtain ⟨b, off, hA, _⟩ := hc h
        cases hA
    subst h0
    have hx : xs = [] := List.eq_nil_of_length_eq_zero (by omega)
    subst hx
    exact (cloneInt_none 0 cap).mono fun e w' ⟨he, hw⟩ => ⟨_, _, he, hw ▸ World.ownsRow_nil w 0 3 1, fun g hg => by simp [Value.ownBlock] at hg, by subst hw; exact Keeps.refl _ _⟩
  | some ad =>
    refine (cloneInt_some (w := w) ad len cap xs hl (fun j u hj => ?_) h1 hlen).mono fun e w' ⟨v', he, ho, hg, hk⟩ => by
      obtain ⟨A, c, rfl, _⟩ := own_slice ho
      exact ⟨A, c, he, ho, hg, hk⟩
    obtain ⟨b, off, hA, _, hcell⟩ := hc (by have := (List.getElem?_eq_some_iff.1 hj).1; omega)
    injection hA with hA
    subst hA
    rw [Addr.add_lit]
    exact hcell j u hj

theorem Try.info25 : (Try.prog.info? 25).map (fun i => (i.zero, i.size, i.bytes)) = some (some (.agg #[.int .i64 0, .int .i64 0, .int .i64 0, .int .i64 0, .slice none 0 0, .int .i64 0, .int .i64 0, .int .i64 0, .slice none 0 0, .slice none 0 0, .slice none 0 0]), 11, 152) := by kernel_rfl

set_option maxRecDepth 100000 in
set_option maxHeartbeats 1000000 in
theorem cloneNode_some {w : World} (ad : Addr) (len cap : Nat) (xs : List Value) (hl : xs.length = len * 11) (hc : ∀ j u, xs[j]? = some u → w.cell? (ad.add j) = some u) (h1 : ∀ u ∈ xs, u.oneCell' = true) (hlen : len ≤ 100000) :
    Calls Try.prog 81 #[.slice (some ad) len cap] w fun e w' => ∃ v', e = .returned v' ∧ w'.ownsRow 0 25 11 v' len xs ∧ (∀ g, v'.ownBlock = some g → w.heap.size ≤ g) ∧ Keeps (fun _ => False) w w' := by
  obtain ⟨i0, hi, hz, hsz, hby⟩ := info_parts Try.info25
  have HI := Lib.hid hi; have HZ := Lib.hid hz; have HS := Lib.hid hsz; have HB := Lib.hid hby
  have HL := Lib.hid hl; have HC := Lib.hid hc; have H1 := Lib.hid h1
  clear hi hz hsz hby hl hc h1
  have hq := fun (w : World) => Lib.run_eql_slice_nil (P := Try.prog) w 47 25 (some ad) len cap 0 0 Try.underlying47
  go_enter Try.func81, Try.ntmps81
  go_wp2_with (at_builtin; (refine wpList_append_own _ rfl _ _ 47 rfl w.heap.size 25 i0 _ 11 152 Try.underlying47 HI.out HZ.out HS.out HB.out rfl (by decide) (.slice (some ⟨w.heap.size, 0, none⟩) 0 0) 0 [] rfl (World.ownsRow_lit _ _ 0 (by simp) (by simp [maxLen]) (by simp)) ad len cap xs rfl HL.out ?c1 H1.out ?c2 ?c3 ?c4 ?_; (case c1 => (intro j u hj; exact ((Keeps.refl (fun _ => False) w).alloc _).cellA (fun h => h) (HC.out j u hj))); (case c2 => (simp [maxLen]; omega)); (case c3 => omega); (case c4 => simp); intro v' w1 hown hgrow _; clear HC))
  go_ret
  refine ⟨_, rfl, by simpa using own_base hown, fun g hg => (hown.lt g hg).1, ?_⟩
  exact ((Keeps.refl (fun _ => False) w).alloc _).trans (S' := fun k => k = w.heap.size) (Keeps.of_grown hgrow (fun k hk => .inl (by simp [Value.ownBlock] at hk; exact hk.symm))) (fun k hk => .inr (by omega))

set_option maxRecDepth 100000 in
set_option maxHeartbeats 1000000 in
theorem cloneNode_none {w : World} (len cap : Nat) :
    Calls Try.prog 81 #[.slice none len cap] w fun e w' => e = .returned (.slice none 0 0) ∧ w' = w := by
  have hq := fun (w : World) => Lib.run_eql_slice_nil (P := Try.prog) w 47 25 none len cap 0 0 Try.underlying47
  go_enter Try.func81, Try.ntmps81
  go_wp2
  go_ret
  exact ⟨rfl, rfl⟩

theorem cloneNode_any {w : World} {S : Nat → Prop} {v : Value} {xs : List Value} (h : Sl w S v 11 xs) (n : Nat) (hn : xs.length = n * 11) (h1 : ∀ u ∈ xs, u.oneCell' = true) (hlen : n ≤ 100000) :
    Calls Try.prog 81 #[v] w fun e w' => ∃ A c, e = .returned (.slice A n c) ∧ w'.ownsRow 0 25 11 (.slice A n c) n xs ∧ (∀ g, (Value.slice A n c).ownBlock = some g → w.heap.size ≤ g) ∧ Keeps (fun _ => False) w w' := by
  obtain ⟨A, len, cap, rfl, hl, _, _, hc⟩ := h
  obtain rfl : len = n := by omega
  cases A with
  | none =>
    have h0 : len = 0 := by
      rcases Nat.eq_zero_or_pos xs.length with h | h
      · omega
      · obtain ⟨b, off, hA, _⟩ := hc h
        cases hA
    subst h0
    have hx : xs = [] := List.eq_nil_of_length_eq_zero (by omega)
    subst hx
    exact (cloneNode_none 0 cap).mono fun e w' ⟨he, hw⟩ => ⟨_, _, he, hw ▸ World.ownsRow_nil w 0 25 11, fun g hg => by simp [Value.ownBlock] at hg, by subst hw; exact Keeps.refl _ _⟩
  | some ad =>
    refine (cloneNode_some (w := w) ad len cap xs hl (fun j u hj => ?_) h1 hlen).mono fun e w' ⟨v', he, ho, hg, hk⟩ => by
      obtain ⟨A, c, rfl, _⟩ := own_slice ho
      exact ⟨A, c, he, ho, hg, hk⟩
    obtain ⟨b, off, hA, _, hcell⟩ := hc (by have := (List.getElem?_eq_some_iff.1 hj).1; omega)
    injection hA with hA
    subst hA
    rw [Addr.add_lit]
    exact hcell j u hj

theorem Try.info38 : (Try.prog.info? 38).map (fun i => (i.zero, i.size, i.bytes)) = some (some (.agg #[.int .i64 0, .int .i64 0, .int .i64 0, .int .i64 0, .int .i64 0, .int .i64 0, .int .i64 0, .slice none 0 0, .bool false]), 9, 88) := by kernel_rfl

set_option maxRecDepth 100000 in
set_option maxHeartbeats 1000000 in
theorem cloneMsg_some {w : World} (ad : Addr) (len cap : Nat) (xs : List Value) (hl : xs.length = len * 9) (hc : ∀ j u, xs[j]? = some u → w.cell? (ad.add j) = some u) (h1 : ∀ u ∈ xs, u.oneCell' = true) (hlen : len ≤ 100000) :
    Calls Try.prog 82 #[.slice (some ad) len cap] w fun e w' => ∃ v', e = .returned v' ∧ w'.ownsRow 0 38 9 v' len xs ∧ (∀ g, v'.ownBlock = some g → w.heap.size ≤ g) ∧ Keeps (fun _ => False) w w' := by
  obtain ⟨i0, hi, hz, hsz, hby⟩ := info_parts Try.info38
  have HI := Lib.hid hi; have HZ := Lib.hid hz; have HS := Lib.hid hsz; have HB := Lib.hid hby
  have HL := Lib.hid hl; have HC := Lib.hid hc; have H1 := Lib.hid h1
  clear hi hz hsz hby hl hc h1
  have hq := fun (w : World) => Lib.run_eql_slice_nil (P := Try.prog) w 28 38 (some ad) len cap 0 0 Try.underlying28
  go_enter Try.func82, Try.ntmps82
  go_wp2_with (at_builtin; (refine wpList_append_own _ rfl _ _ 28 rfl w.heap.size 38 i0 _ 9 88 Try.underlying28 HI.out HZ.out HS.out HB.out rfl (by decide) (.slice (some ⟨w.heap.size, 0, none⟩) 0 0) 0 [] rfl (World.ownsRow_lit _ _ 0 (by simp) (by simp [maxLen]) (by simp)) ad len cap xs rfl HL.out ?c1 H1.out ?c2 ?c3 ?c4 ?_; (case c1 => (intro j u hj; exact ((Keeps.refl (fun _ => False) w).alloc _).cellA (fun h => h) (HC.out j u hj))); (case c2 => (simp [maxLen]; omega)); (case c3 => omega); (case c4 => simp); intro v' w1 hown hgrow _; clear HC))
  go_ret
  refine ⟨_, rfl, by simpa using own_base hown, fun g hg => (hown.lt g hg).1, ?_⟩
  exact ((Keeps.refl (fun _ => False) w).alloc _).trans (S' := fun k => k = w.heap.size) (Keeps.of_grown hgrow (fun k hk => .inl (by simp [Value.ownBlock] at hk; exact hk.symm))) (fun k hk => .inr (by omega))

set_option maxRecDepth 100000 in
set_option maxHeartbeats 1000000 in
theorem cloneMsg_none {w : World} (len cap : Nat) :
    Calls Try.prog 82 #[.slice none len cap] w fun e w' => e = .returned (.slice none 0 0) ∧ w' = w := by
  have hq := fun (w : World) => Lib.run_eql_slice_nil (P := Try.prog) w 28 38 none len cap 0 0 Try.underlying28
  go_enter Try.func82, Try.ntmps82
  go_wp2
  go_ret
  exact ⟨rfl, rfl⟩

theorem cloneMsg_any {w : World} {S : Nat → Prop} {v : Value} {xs : List Value} (h : Sl w S v 9 xs) (n : Nat) (hn : xs.length = n * 9) (h1 : ∀ u ∈ xs, u.oneCell' = true) (hlen : n ≤ 100000) :
    Calls Try.prog 82 #[v] w fun e w' => ∃ A c, e = .returned (.slice A n c) ∧ w'.ownsRow 0 38 9 (.slice A n c) n xs ∧ (∀ g, (Value.slice A n c).ownBlock = some g → w.heap.size ≤ g) ∧ Keeps (fun _ => False) w w' := by
  obtain ⟨A, len, cap, rfl, hl, _, _, hc⟩ := h
  obtain rfl : len = n := by omega
  cases A with
  | none =>
    have h0 : len = 0 := by
      rcases Nat.eq_zero_or_pos xs.length with h | h
      · omega
      · obtain ⟨b, off, hA, _⟩ := hc h
        cases hA
    subst h0
    have hx : xs = [] := List.eq_nil_of_length_eq_zero (by omega)
    subst hx
    exact (cloneMsg_none 0 cap).mono fun e w' ⟨he, hw⟩ => ⟨_, _, he, hw ▸ World.ownsRow_nil w 0 38 9, fun g hg => by simp [Value.ownBlock] at hg, by subst hw; exact Keeps.refl _ _⟩
  | some ad =>
    refine (cloneMsg_some (w := w) ad len cap xs hl (fun j u hj => ?_) h1 hlen).mono fun e w' ⟨v', he, ho, hg, hk⟩ => by
      obtain ⟨A, c, rfl, _⟩ := own_slice ho
      exact ⟨A, c, he, ho, hg, hk⟩
    obtain ⟨b, off, hA, _, hcell⟩ := hc (by have := (List.getElem?_eq_some_iff.1 hj).1; omega)
    injection hA with hA
    subst hA
    rw [Addr.add_lit]
    exact hcell j u hj

end Go.Proofs.Ytibjbpakbfodaaa
