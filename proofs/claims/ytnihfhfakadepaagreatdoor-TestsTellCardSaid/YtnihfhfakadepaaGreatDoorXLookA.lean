/- Package logic: what is wrong with a value. Package verdictref2: what is wrong with a value. -/
import Derived.Test.YtnihfhfakadepaaGreatDoorXTreeA
import Derived.Test.YtnihfhfakadepaaGreatDoorXUtfA
import Derived.Test.YtnihfhfakadepaaGreatDoorXRefA
namespace Go.Proofs.YtnihfhfakadepaaGreatDoor
open Go.RowKit

/-- The tables of the library, as they are laid. -/
def Tabs (w : World) : Prop := Thr w ∧ Lib.Utf8Tabs 0 1 w
theorem Keeps.toBelow {w w' : World} (h : Keeps (fun _ => False) w w') : Below w.heap.size w w' := h.below (Nat.le_refl _) fun _ h => h.elim
theorem Tabs.later {w w' : World} (h : Tabs w) (hk : Keeps (fun _ => False) w w') : Tabs w' := ⟨h.1.later hk, Utf8Tabs_below h.2 hk.toBelow⟩
/-- Five tables, in blocks 0 to 4. -/
theorem Tabs.keep {S : Nat → Prop} {w w' : World} (h : Tabs w) (hk : Keeps S w w') (hs : ∀ k, S k → 5 ≤ k) : Tabs w' := by
  have hn : ∀ k, k < 5 → ¬ S k := fun k hk h => by have := hs k h; omega
  obtain ⟨⟨a, b, c⟩, d, e⟩ := h
  exact ⟨⟨hk.cell (hn 2 (by omega)) a, hk.cell (hn 3 (by omega)) b, hk.cell (hn 4 (by omega)) c⟩, fun i hi => hk.cell (hn 0 (by omega)) (d i hi), fun i hi => ⟨hk.cell (hn 1 (by omega)) (e i hi).1, hk.cell (hn 1 (by omega)) (e i hi).2⟩⟩

theorem valid_any {w : World} (s : ByteArray) (hs : s.size ≤ 1000) (ht : Tabs w) :
    Calls Tryz.prog 41 #[.string s] w fun e w' => e = .returned (.bool (Lib.validD s.data.toList)) ∧ Keeps (fun _ => False) w w' :=
  (Any.utf8_ValidString Tryz.lays196 s w (by omega) ht.2).mono fun _ _ ⟨h1, h2⟩ => ⟨h1, Keeps.of_below h2⟩

def Cnt (w : World) (t : TypeId) (c n : Nat) : Prop := w.heap[c]? = some (.cells #[.int .i64 (n : Int)] t (0, 0))

/-- A counter's look at a value: what is said, and what is counted. -/
def LookSays (f : Nat) (t : TypeId) (w : World) (c : Nat) (v : Val) (depth n : Nat) (arg : Value) : Prop :=
  Calls Tryz.prog f #[.pointer (some ⟨c, 0, none⟩), arg, .int .i64 depth] w fun e w' => e = .returned (.int .i64 (lookV v depth n).1) ∧ Cnt w' t c (lookV v depth n).2 ∧ Keeps (fun k => k = c) w w'

set_option maxRecDepth 100000 in
set_option maxHeartbeats 4000000 in
theorem look_any {S : Nat → Prop} {c : Nat} (m : Nat) : ∀ (v : Val), SizeOf.sizeOf v < m → ∀ (w : World) (b o n depth : Nat), VOk w S v → S c → ¬ S b → 5 ≤ c → Tabs w → At w b o v.cells → Cnt w 57 c n → n ≤ 2000 → depth ≤ 100 →
    LookSays 24 57 w c v depth n (.pointer (some ⟨b, o, none⟩)) := by
  induction m with
  | zero => intro v h; omega
  | succ m ih =>
    intro v hm w b o n depth hv hSc hSb h5 ht hat hc hn hd
    obtain ⟨kd, ys, d, t, lv, l⟩ := v
    have hbc : b ≠ c := fun e => hSb (e ▸ hSc)
    unfold LookSays
    have c0 := cell_of_row w c 0 _ _ _ hc
    have cf := frozen_of_row w c 0 _ _ hc
    have cl := row_lt hc
    simp only [List.getElem?_toArray, List.getElem?_cons_zero] at c0
    go_enter Tryz.func24, Tryz.ntmps24
    go_upto_region 2 with fail
    have hc1 := setCell_blk (k := 0) (u := .int .i64 ((n : Int) + 1)) hc
    have hk1 : Keeps (fun k => k = c) w (w.setCell ⟨c, 0, none⟩ (.int .i64 ((n : Int) + 1))) := (Keeps.refl (fun k => k = c) w).setCell (p := ⟨c, 0, none⟩) (.inl rfl) _
    generalize w.setCell ⟨c, 0, none⟩ (.int .i64 ((n : Int) + 1)) = w1 at *
    have HC1 : Hid (Cnt w1 57 c (n + 1)) := Lib.hid hc1
    have K1 := Lib.hid hk1
    have hat1 := hat.keep hk1 hbc
    have HV1 := Lib.hid (VOk.into hk1 (S := S) (S' := S) (fun k _ e => by rw [e]; exact hSc) (fun _ _ h => h) _ hv)
    have HT1 := Lib.hid (ht.keep hk1 fun k e => by rw [e]; exact h5)
    have v0 := hat1 0 _ rfl
    have v1 := hat1 2 _ rfl
    have v2 := hat1 3 _ rfl
    have v3 := hat1 4 _ rfl
    have v4 := hat1 5 _ rfl
    have c1 := cell_of_row w1 c 0 _ _ _ hc1
    simp at c1 v0
    have HR := Lib.hid (show ∀ r, lookV (.mk kd ys d t lv l) depth n = (r, n + 1) → (Ending.returned (.int .i64 r) = .returned (.int .i64 (lookV (.mk kd ys d t lv l) depth n).1) ∧ Cnt w1 57 c (lookV (.mk kd ys d t lv l) depth n).2 ∧ Keeps (fun k => k = c) w w1) from fun r hr => by rw [hr]; exact ⟨rfl, hc1, hk1⟩)
    clear hc1 hk1 hat1 hat hc hv ht c0 cf cl
    by_cases g1 : 2000 < n + 1
    · have g1z : (n : Int) + 1 > 2000 := by omega
      have HX := Lib.hid (HR.out 4 (by unfold lookV; rw [if_pos (.inl g1)]))
      go_wp2_with fail
      go_ret
      exact HX.out
    have g1z : ¬ (n : Int) + 1 > 2000 := by omega
    by_cases g2 : 20 < depth
    · have g2z : (depth : Int) > 20 := by omega
      have HX := Lib.hid (HR.out 4 (by unfold lookV; rw [if_pos (.inr g2)]))
      go_wp2_with fail
      go_ret
      exact HX.out
    have g2z : ¬ (depth : Int) > 20 := by omega
    have hno : ¬ (2000 < n + 1 ∨ 20 < depth) := by omega
    rcases (show kd = 1 ∨ kd = 2 ∨ kd = 3 ∨ kd = 4 ∨ kd = 5 ∨ (kd ≠ 1 ∧ kd ≠ 2 ∧ kd ≠ 3 ∧ kd ≠ 4 ∧ kd ≠ 5) by omega) with rfl | rfl | rfl | rfl | rfl | ⟨k1, k2, k3, k4, k5⟩
    · have HX := Lib.hid (HR.out 0 (by unfold lookV; rw [if_neg hno]; rfl))
      go_wp2_with fail
      go_ret
      exact HX.out
    · have HX := Lib.hid (HR.out 0 (by unfold lookV; rw [if_neg hno]; rfl))
      go_wp2_with fail
      go_ret
      exact HX.out
    · have HX := Lib.hid (show lookV (.mk 3 ys d t lv l) depth n = (wrongD d, n + 1) by unfold lookV; rw [if_neg hno]; rfl)
      have HW := Lib.hid (fun W : World => decWrong_any (w := W) d)
      go_wp2_with (go_at_call 40; ((with_reducible refine (HW.out _).mono ?_); rintro e w2 ⟨rfl, hk2⟩; have HK2 := Lib.hid hk2; clear hk2))
      go_ret
      rw [HX.out]
      exact ⟨rfl, HK2.out.blk HC1.out, K1.out.trans HK2.out fun _ h => h.elim⟩
    · by_cases g3 : 1000 < t.size
      · have g3z : (t.size : Int) > 1000 := by omega
        have HX := Lib.hid (HR.out 4 (by unfold lookV; rw [if_neg hno]; simp [g3]))
        go_wp2_with fail
        go_ret
        exact HX.out
      · have g3z : ¬ (t.size : Int) > 1000 := by omega
        have HX := Lib.hid (show lookV (.mk 4 ys d t lv l) depth n = (if Lib.validD t.data.toList then 0 else 2, n + 1) by unfold lookV; rw [if_neg hno]; simp [g3])
        have HU := Lib.hid (valid_any t (by omega) HT1.out)
        generalize Lib.validD t.data.toList = ok at *
        cases ok
        · go_wp2_with (go_at_call 41; ((with_reducible refine HU.out.mono ?_); rintro e w2 ⟨rfl, hk2⟩; have HK2 := Lib.hid hk2; clear hk2))
          go_ret
          rw [HX.out]
          exact ⟨rfl, HK2.out.blk HC1.out, K1.out.trans HK2.out fun _ h => h.elim⟩
        · go_wp2_with (go_at_call 41; ((with_reducible refine HU.out.mono ?_); rintro e w2 ⟨rfl, hk2⟩; have HK2 := Lib.hid hk2; clear hk2))
          go_ret
          rw [HX.out]
          exact ⟨rfl, HK2.out.blk HC1.out, K1.out.trans HK2.out fun _ h => h.elim⟩
    · obtain ⟨hrow, hvl⟩ := HV1.out.row
      have HSZ := Lib.hid (show ∀ (k : Nat) (x : Val), l[k]? = some x → SizeOf.sizeOf x < m from fun k x h => by have := Val.lt_of_get (k := 5) (y := ys) (d := d) (t := t) (lv := lv) h; omega)
      obtain ⟨A, len, cap, hlv, _⟩ := id hrow
      subst hlv
      obtain ⟨rfl, hcap, hmax, hel⟩ := hrow.elem
      have HL := Lib.hid hvl; have HE := Lib.hid hel
      clear hrow hvl hel
      by_cases g4 : 200 < l.length
      · have g4z : (l.length : Int) > 200 := by omega
        have HX := Lib.hid (HR.out 5 (by unfold lookV; rw [if_neg hno]; simp [g4]))
        go_wp2_with fail
        go_ret
        exact HX.out
      have g4z : ¬ (l.length : Int) > 200 := by omega
      have HX := Lib.hid (show lookV (.mk 5 ys d t (.slice A l.length cap) l) depth n = lookL l (depth + 1) (n + 1) by unfold lookV; rw [if_neg hno]; simp [g4])
      obtain ⟨len, hlen⟩ : ∃ len, l.length = len := ⟨_, rfl⟩
      rw [hlen] at hcap g4 g4z v4
      have HLEN := Lib.hid hlen
      have HAT := Lib.hid (fun (W : World) (hk : Keeps (fun k => k = c) w1 W) => hk.cell (b := b) (o := o + 5) hbc v4)
      clear hlen HR
      go_wp2_with fail
      go_loopw [68] (fun i wr => ∃ k nk, i = .int .i64 ((k : Nat) : Int) ∧ k ≤ len ∧ Hid (Cnt wr 57 c nk) ∧ nk ≤ 2000 ∧ Hid (lookL (l.drop k) (depth + 1) nk = lookL l (depth + 1) (n + 1)) ∧ Hid (Keeps (fun k => k = c) w1 wr)) (fun i _ => ((len : Int) - intOf i).toNat)
      case atStart => exact ⟨0, n + 1, rfl, by omega, HC1, by omega, Lib.hid rfl, Lib.hid (Keeps.refl _ _)⟩
      case round =>
        obtain ⟨k, nk, rfl, hk, hc, hnk, he, hkk⟩ := hrel
        rcases (show k = len ∨ k < len by omega) with rfl | hlt
        · go_wp2_with fail
          go_ret
          rw [HX.out, ← he.out, List.drop_of_length_le (by have := HLEN.out; omega)]
          exact ⟨rfl, hc.out, K1.out.trans hkk.out fun _ h => .inl h⟩
        · have hlz : (k : Int) < (len : Int) := by omega
          have hkl : k < l.length := by have := HLEN.out; omega
          have hgx : l[k]? = some l[k] := List.getElem?_eq_getElem hkl
          have hdr := List.drop_eq_getElem_cons hkl
          generalize l[k] = x at *
          obtain ⟨bb, off, rfl, hnb, hatx⟩ := HE.out k x hgx
          have hbbc : bb ≠ c := fun e => hnb (e ▸ hSc)
          have HI := Lib.hid (ih x (HSZ.out k x hgx) _ bb (off + k * 6) nk (depth + 1) (VOk.into hkk.out (S := S) (S' := S) (fun k _ e => by rw [e]; exact hSc) (fun _ _ h => h) _ (HL.out.get hgx)) hSc hnb h5 (HT1.out.keep hkk.out fun k e => by rw [e]; exact h5) (hatx.keep hkk.out hbbc) hc.out hnk (by omega))
          unfold LookSays at HI
          rw [show ((depth + 1 : Nat) : Int) = (depth : Int) + 1 from rfl] at HI
          have v4' := HAT.out _ hkk.out
          have hcn := lookV_count x (depth + 1) nk
          have HE2 := Lib.hid (show lookL (l.drop k) (depth + 1) nk = if (lookV x (depth + 1) nk).1 ≠ 0 then lookV x (depth + 1) nk else lookL (l.drop (k + 1)) (depth + 1) (lookV x (depth + 1) nk).2 by rw [hdr]; rfl)
          generalize lookV x (depth + 1) nk = r at *
          obtain ⟨r1, r2⟩ := r
          simp only at HI hcn HE2
          by_cases hr : r1 = 0
          · subst hr
            have hn2 := hcn rfl
            have HE3 := Lib.hid (show lookL (l.drop (k + 1)) (depth + 1) r2 = lookL l (depth + 1) (n + 1) by rw [← he.out, HE2.out, if_neg (by simp)])
            clear HE2 hcn hdr hgx hatx
            go_wp2_with (go_at_call 24; ((with_reducible refine HI.out.mono ?_); rintro e w2 ⟨rfl, hc2, hk2⟩; have HC2 := Lib.hid hc2; have HK2 := Lib.hid (hkk.out.trans hk2 fun _ h => .inl h); clear hc2 hk2))
            go_roundw
            case measure => simp [intOf]; omega
            case rel => exact ⟨k + 1, r2, by go_num, by omega, HC2, hn2, HE3, HK2⟩
          · have hrb : (r1 != 0) = true := by simpa using hr
            have HE3 := Lib.hid (show lookL l (depth + 1) (n + 1) = (r1, r2) by rw [← he.out, HE2.out, if_pos hr])
            clear HE2 hcn hdr hgx hatx
            go_wp2_with (go_at_call 24; ((with_reducible refine HI.out.mono ?_); rintro e w2 ⟨rfl, hc2, hk2⟩; have HC2 := Lib.hid hc2; have HK2 := Lib.hid (hkk.out.trans hk2 fun _ h => .inl h); clear hc2 hk2))
            go_ret
            rw [HX.out, HE3.out]
            exact ⟨rfl, HC2.out, K1.out.trans HK2.out fun _ h => .inl h⟩
    · have HX := Lib.hid (HR.out 1 (by unfold lookV; rw [if_neg hno, if_neg (by omega), if_neg (by omega), if_neg (by omega), if_neg (by omega)]))
      have e1 : (kd == 1) = false := by simpa using k1
      have e2 : (kd == 2) = false := by simpa using k2
      have e3 : (kd == 3) = false := by simpa using k3
      have e4 : (kd == 4) = false := by simpa using k4
      have e5 : (kd == 5) = false := by simpa using k5
      go_wp2_with fail
      go_ret
      exact HX.out

theorem Tabs.size {w : World} (h : Tabs w) : 5 ≤ w.heap.size := by have := cell_lt h.1.2.2; omega

set_option maxRecDepth 100000 in
set_option maxHeartbeats 4000000 in
theorem lwrong_any {w : World} {v : Val} (hv : VOk w (fun _ => False) v) (ht : Tabs w) :
    Calls Tryz.prog 15 #[.agg v.cells.toArray] w fun e w' => e = .returned (.int .i64 (wrongV v)) ∧ Keeps (fun _ => False) w w' := by
  have HB : ∀ w1 w2, w.alloc (.cells v.cells.toArray 26) = w1 → w1.alloc (.cells #[.int .i64 0] 57) = w2 → Hid (Calls Tryz.prog 24 #[.pointer (some ⟨w1.heap.size, 0, none⟩), .pointer (some ⟨w.heap.size, 0, none⟩), .int .i64 1] w2 fun e w' => e = .returned (.int .i64 (wrongV v)) ∧ Keeps (fun _ => False) w w') := by
    intro w1 w2 h1 h2
    have k1 : Keeps (fun _ => False) w w1 := by rw [← h1]; exact (Keeps.refl _ _).alloc _
    have k2 : Keeps (fun _ => False) w1 w2 := by rw [← h2]; exact (Keeps.refl _ _).alloc _
    have s1 : w1.heap.size = w.heap.size + 1 := by rw [← h1]; simp
    have hb1 : w1.heap[w.heap.size]? = some (.cells v.cells.toArray 26 (0, 0)) := by rw [← h1]; exact heap_alloc_new _ _
    have hc2 : w2.heap[w1.heap.size]? = some (.cells #[.int .i64 0] 57 (0, 0)) := by rw [← h2]; exact heap_alloc_new _ _
    have hb2 := k2.blk hb1
    have k12 := k1.trans k2 fun _ h => .inl h
    have hat : At w2 w.heap.size 0 v.cells := fun j u hj => by
      rw [Nat.zero_add, cell_of_row w2 w.heap.size j _ _ _ hb2, List.getElem?_toArray]
      exact hj
    have := ht.size
    refine Lib.hid ((look_any (S := fun k => k = w1.heap.size) (c := w1.heap.size) (SizeOf.sizeOf v + 1) v (by omega) w2 w.heap.size 0 0 1 (VOk.into k12 (fun _ _ h => h.elim) (fun k hk e => by omega) _ hv) rfl (by omega) (by omega) (ht.later k12) hat hc2 (by omega) (by omega)).mono ?_)
    rintro e w3 ⟨rfl, _, hk3⟩
    exact ⟨rfl, k12.trans hk3 fun k e => .inr (by omega)⟩
  obtain ⟨w1, h1⟩ : ∃ w1, w.alloc (.cells v.cells.toArray 26) = w1 := ⟨_, rfl⟩
  obtain ⟨w2, h2⟩ : ∃ w2, w1.alloc (.cells #[.int .i64 0] 57) = w2 := ⟨_, rfl⟩
  have H := HB w1 w2 h1 h2
  obtain ⟨p1, hp1⟩ : ∃ p, w.heap.size = p := ⟨_, rfl⟩
  obtain ⟨p2, hp2⟩ : ∃ p, w1.heap.size = p := ⟨_, rfl⟩
  rw [hp1, hp2] at H
  clear HB hv ht
  obtain ⟨kd, ys, d, t, lv, l⟩ := v
  simp only [Val.cells] at h1 ⊢
  go_enter Tryz.func15, Tryz.ntmps15
  go_wp2_with (go_at_call 24; ((with_reducible refine H.out.mono ?_); rintro e w3 ⟨rfl, hk⟩; have HK := Lib.hid hk; clear hk))
  go_ret
  exact ⟨rfl, HK.out⟩

end Go.Proofs.YtnihfhfakadepaaGreatDoor
namespace Go.Proofs.YtnihfhfakadepaaGreatDoor
open Go.RowKit

theorem Cnt.alloc {w : World} {t : TypeId} {c n : Nat} (h : Cnt w t c n) (o : Obj) : Cnt (w.alloc o) t c n := ((Keeps.refl (fun _ => False) w).alloc o).blk h

set_option maxRecDepth 100000 in
set_option maxHeartbeats 4000000 in
theorem lookR_any {S : Nat → Prop} {c : Nat} (m : Nat) : ∀ (v : Val), SizeOf.sizeOf v < m → ∀ (w : World) (n depth : Nat), VOk w S v → S c → c < w.heap.size → 5 ≤ c → Tabs w → Cnt w 49 c n → n ≤ 2000 → depth ≤ 100 →
    LookSays 17 49 w c v depth n (.agg v.cells.toArray) := by
  induction m with
  | zero => intro v h; omega
  | succ m ih =>
    intro v hm w n depth hv hSc hcl h5 ht hc hn hd
    obtain ⟨kd, ys, d, t, lv, l⟩ := v
    unfold LookSays
    obtain ⟨w0, h0⟩ : ∃ w0, w.alloc (.cells (Val.mk kd ys d t lv l).cells.toArray 26) = w0 := ⟨_, rfl⟩
    obtain ⟨b, hb⟩ : ∃ b, w.heap.size = b := ⟨_, rfl⟩
    have k0 : Keeps (fun _ => False) w w0 := by rw [← h0]; exact (Keeps.refl _ _).alloc _
    have hb0 : w0.heap[b]? = some (.cells (Val.mk kd ys d t lv l).cells.toArray 26 (0, 0)) := by rw [← h0, ← hb]; exact heap_alloc_new _ _
    have hbc : b ≠ c := by omega
    have hat : At w0 b 0 (Val.mk kd ys d t lv l).cells := fun j u hj => by
      rw [Nat.zero_add, cell_of_row w0 b j _ _ _ hb0, List.getElem?_toArray]
      exact hj
    have hc0 := k0.blk hc
    have hv0 := hv.later k0
    have ht0 := ht.later k0
    have K0 := Lib.hid k0
    have c0 := cell_of_row w0 c 0 _ _ _ hc0
    have cf := frozen_of_row w0 c 0 _ _ hc0
    have cl := row_lt hc0
    simp only [List.getElem?_toArray, List.getElem?_cons_zero] at c0
    have HB := Lib.hid hb; have H0 := Lib.hid h0
    simp only [Val.cells] at h0
    simp only [Val.cells]
    clear k0 hb0 hc hv ht
    go_enter Tryz.func17, Tryz.ntmps17
    go_upto_region 2 with fail
    have hc1 := setCell_blk (k := 0) (u := .int .i64 ((n : Int) + 1)) hc0
    have hk1 : Keeps (fun k => k = c) w0 (w0.setCell ⟨c, 0, none⟩ (.int .i64 ((n : Int) + 1))) := (Keeps.refl (fun k => k = c) w0).setCell (p := ⟨c, 0, none⟩) (.inl rfl) _
    generalize w0.setCell ⟨c, 0, none⟩ (.int .i64 ((n : Int) + 1)) = w1 at *
    have HC1 : Hid (Cnt w1 49 c (n + 1)) := Lib.hid hc1
    have K1 := Lib.hid (show Keeps (fun k => k = c) w w1 from (K0.out.mono (S' := fun k => k = c) fun _ h => h.elim).trans hk1 fun _ h => .inl h)
    have hat1 := hat.keep hk1 hbc
    have HV1 := Lib.hid (VOk.into hk1 (S := S) (S' := S) (fun k _ e => by rw [e]; exact hSc) (fun _ _ h => h) _ hv0)
    have HT1 := Lib.hid (ht0.keep hk1 fun k e => by rw [e]; exact h5)
    have v0 := hat1 0 _ rfl
    have v1 := hat1 2 _ rfl
    have v2 := hat1 3 _ rfl
    have v3 := hat1 4 _ rfl
    have v4 := hat1 5 _ rfl
    have c1 := cell_of_row w1 c 0 _ _ _ hc1
    simp at c1 v0 v1 v2 v3 v4
    have hcl1 : c < w1.heap.size := row_lt hc1
    have HR := Lib.hid (show ∀ r, lookV (.mk kd ys d t lv l) depth n = (r, n + 1) → (Ending.returned (.int .i64 r) = .returned (.int .i64 (lookV (.mk kd ys d t lv l) depth n).1) ∧ Cnt w1 49 c (lookV (.mk kd ys d t lv l) depth n).2 ∧ Keeps (fun k => k = c) w w1) from fun r hr => by rw [hr]; exact ⟨rfl, hc1, K1.out⟩)
    clear hc1 hk1 hat1 hat hc0 hv0 ht0 c0 cf cl
    by_cases g1 : 2000 < n + 1
    · have g1z : (n : Int) + 1 > 2000 := by omega
      have HX := Lib.hid (HR.out 4 (by unfold lookV; rw [if_pos (.inl g1)]))
      go_wp2_with fail
      go_ret
      exact HX.out
    have g1z : ¬ (n : Int) + 1 > 2000 := by omega
    by_cases g2 : 20 < depth
    · have g2z : (depth : Int) > 20 := by omega
      have HX := Lib.hid (HR.out 4 (by unfold lookV; rw [if_pos (.inr g2)]))
      go_wp2_with fail
      go_ret
      exact HX.out
    have g2z : ¬ (depth : Int) > 20 := by omega
    have hno : ¬ (2000 < n + 1 ∨ 20 < depth) := by omega
    rcases (show kd = 1 ∨ kd = 2 ∨ kd = 3 ∨ kd = 4 ∨ kd = 5 ∨ (kd ≠ 1 ∧ kd ≠ 2 ∧ kd ≠ 3 ∧ kd ≠ 4 ∧ kd ≠ 5) by omega) with rfl | rfl | rfl | rfl | rfl | ⟨k1, k2, k3, k4, k5⟩
    · have HX := Lib.hid (HR.out 0 (by unfold lookV; rw [if_neg hno]; rfl))
      go_wp2_with fail
      go_ret
      exact HX.out
    · have HX := Lib.hid (HR.out 0 (by unfold lookV; rw [if_neg hno]; rfl))
      go_wp2_with fail
      go_ret
      exact HX.out
    · have HX := Lib.hid (show lookV (.mk 3 ys d t lv l) depth n = (wrongD d, n + 1) by unfold lookV; rw [if_neg hno]; rfl)
      have HW := Lib.hid (fun W : World => refWrong_any (w := W) d)
      go_wp2_with (go_at_call 31; ((with_reducible refine (HW.out _).mono ?_); rintro e w2 ⟨rfl, hk2⟩; have HK2 := Lib.hid hk2; clear hk2))
      go_ret
      rw [HX.out]
      exact ⟨rfl, HK2.out.blk HC1.out, K1.out.trans HK2.out fun _ h => h.elim⟩
    · by_cases g3 : 1000 < t.size
      · have g3z : (t.size : Int) > 1000 := by omega
        have HX := Lib.hid (HR.out 4 (by unfold lookV; rw [if_neg hno]; simp [g3]))
        go_wp2_with fail
        go_ret
        exact HX.out
      · have g3z : ¬ (t.size : Int) > 1000 := by omega
        have HX := Lib.hid (show lookV (.mk 4 ys d t lv l) depth n = (if Lib.validD t.data.toList then 0 else 2, n + 1) by unfold lookV; rw [if_neg hno]; simp [g3])
        have HU := Lib.hid (refUtf8_any (w := w1) t (by omega))
        generalize Lib.validD t.data.toList = ok at *
        cases ok
        · go_wp2_with (go_at_call 32; ((with_reducible refine HU.out.mono ?_); rintro e w2 ⟨rfl, rfl⟩))
          go_ret
          rw [HX.out]
          exact ⟨rfl, HC1.out, K1.out⟩
        · go_wp2_with (go_at_call 32; ((with_reducible refine HU.out.mono ?_); rintro e w2 ⟨rfl, rfl⟩))
          go_ret
          rw [HX.out]
          exact ⟨rfl, HC1.out, K1.out⟩
    · obtain ⟨hrow, hvl⟩ := HV1.out.row
      have HSZ := Lib.hid (show ∀ (k : Nat) (x : Val), l[k]? = some x → SizeOf.sizeOf x < m from fun k x h => by have := Val.lt_of_get (k := 5) (y := ys) (d := d) (t := t) (lv := lv) h; omega)
      obtain ⟨A, len, cap, hlv, _⟩ := id hrow
      subst hlv
      obtain ⟨rfl, hcap, hmax, hel⟩ := hrow.elem
      have HL := Lib.hid hvl; have HE := Lib.hid hel
      clear hrow hvl hel
      by_cases g4 : 200 < l.length
      · have g4z : (l.length : Int) > 200 := by omega
        have HX := Lib.hid (HR.out 5 (by unfold lookV; rw [if_neg hno]; simp [g4]))
        go_wp2_with fail
        go_ret
        exact HX.out
      have g4z : ¬ (l.length : Int) > 200 := by omega
      have HX := Lib.hid (show lookV (.mk 5 ys d t (.slice A l.length cap) l) depth n = lookL l (depth + 1) (n + 1) by unfold lookV; rw [if_neg hno]; simp [g4])
      obtain ⟨len, hlen⟩ : ∃ len, l.length = len := ⟨_, rfl⟩
      rw [hlen] at hcap g4 g4z v4
      have HLEN := Lib.hid hlen
      have HAT := Lib.hid (fun (W : World) (hk : Keeps (fun k => k = c) w1 W) => hk.cell (b := b) (o := 5) hbc v4)
      clear hlen HR
      go_wp2_with fail
      go_loopw [61] (fun i wr => ∃ k nk, i = .int .i64 ((k : Nat) : Int) ∧ k ≤ len ∧ Hid (Cnt wr 49 c nk) ∧ nk ≤ 2000 ∧ Hid (lookL (l.drop k) (depth + 1) nk = lookL l (depth + 1) (n + 1)) ∧ Hid (Keeps (fun k => k = c) w1 wr)) (fun i _ => ((len : Int) - intOf i).toNat)
      case atStart => exact ⟨0, n + 1, rfl, by omega, HC1, by omega, Lib.hid rfl, Lib.hid (Keeps.refl _ _)⟩
      case round =>
        obtain ⟨k, nk, rfl, hk, hc, hnk, he, hkk⟩ := hrel
        rcases (show k = len ∨ k < len by omega) with rfl | hlt
        · go_wp2_with fail
          go_ret
          rw [HX.out, ← he.out, List.drop_of_length_le (by have := HLEN.out; omega)]
          exact ⟨rfl, hc.out, K1.out.trans hkk.out fun _ h => .inl h⟩
        · have hlz : (k : Int) < (len : Int) := by omega
          have hkl : k < l.length := by have := HLEN.out; omega
          have hgx : l[k]? = some l[k] := List.getElem?_eq_getElem hkl
          have hdr := List.drop_eq_getElem_cons hkl
          generalize l[k] = x at *
          obtain ⟨bb, off, rfl, hnb, hatx⟩ := HE.out k x hgx
          have hbbc : bb ≠ c := fun e => hnb (e ▸ hSc)
          have hatw := hatx.keep hkk.out hbbc
          have HI := Lib.hid (fun (W : World) (hw : Keeps (fun k => k = c) w1 W) (hcw : Cnt W 49 c nk) => ih x (HSZ.out k x hgx) W nk (depth + 1) (VOk.into hw (S := S) (S' := S) (fun k _ e => by rw [e]; exact hSc) (fun _ _ h => h) _ (HL.out.get hgx)) hSc (row_lt hcw) h5 (HT1.out.keep hw fun k e => by rw [e]; exact h5) hcw hnk (by omega))
          unfold LookSays at HI
          rw [show ((depth + 1 : Nat) : Int) = (depth : Int) + 1 from rfl] at HI
          have v4' := HAT.out _ hkk.out
          have hcn := lookV_count x (depth + 1) nk
          have HE2 := Lib.hid (show lookL (l.drop k) (depth + 1) nk = if (lookV x (depth + 1) nk).1 ≠ 0 then lookV x (depth + 1) nk else lookL (l.drop (k + 1)) (depth + 1) (lookV x (depth + 1) nk).2 by rw [hdr]; rfl)
          generalize lookV x (depth + 1) nk = r at *
          obtain ⟨r1, r2⟩ := r
          simp only at HI hcn HE2
          obtain ⟨kx, yx, dx, tx, lx, ex⟩ := x
          obtain ⟨Ax, nx, cx, hlx, _⟩ := (HL.out.get hgx).row.1
          subst hlx
          have u0 := hatw 0 _ rfl
          have u1 := hatw 1 _ rfl
          have u2 := hatw 2 _ rfl
          have u3 := hatw 3 _ rfl
          have u4 := hatw 4 _ rfl
          have u5 := hatw 5 _ rfl
          simp only [Nat.add_zero] at u0
          simp only [Val.cells] at HI
          clear hatw hatx hgx hdr
          by_cases hr : r1 = 0
          · subst hr
            have hn2 := hcn rfl
            have HE3 := Lib.hid (show lookL (l.drop (k + 1)) (depth + 1) r2 = lookL l (depth + 1) (n + 1) by rw [← he.out, HE2.out, if_neg (by simp)])
            clear HE2 hcn
            go_wp2_with (go_at_call 17; ((with_reducible refine (HI.out _ (hkk.out.alloc _) (hc.out.alloc _)).mono ?_); rintro e w2 ⟨rfl, hc2, hk2⟩; have HC2 := Lib.hid hc2; have HK2 := Lib.hid ((hkk.out.alloc _).trans hk2 fun _ h => .inl h); clear hc2 hk2))
            go_roundw
            case measure => simp [intOf]; omega
            case rel => exact ⟨k + 1, r2, by go_num, by omega, HC2, hn2, HE3, HK2⟩
          · have hrb : (r1 != 0) = true := by simpa using hr
            have HE3 := Lib.hid (show lookL l (depth + 1) (n + 1) = (r1, r2) by rw [← he.out, HE2.out, if_pos hr])
            clear HE2 hcn
            go_wp2_with (go_at_call 17; ((with_reducible refine (HI.out _ (hkk.out.alloc _) (hc.out.alloc _)).mono ?_); rintro e w2 ⟨rfl, hc2, hk2⟩; have HC2 := Lib.hid hc2; have HK2 := Lib.hid ((hkk.out.alloc _).trans hk2 fun _ h => .inl h); clear hc2 hk2))
            go_ret
            rw [HX.out, HE3.out]
            exact ⟨rfl, HC2.out, K1.out.trans HK2.out fun _ h => .inl h⟩
    · have HX := Lib.hid (HR.out 1 (by unfold lookV; rw [if_neg hno, if_neg (by omega), if_neg (by omega), if_neg (by omega), if_neg (by omega)]))
      rcases (show kd < 1 ∨ 5 < kd by omega) with h | h
      · go_wp2_with fail
        go_ret
        exact HX.out
      · have h2 : ¬ kd < 1 := by omega
        have h3 : kd > 5 := by omega
        go_wp2_with fail
        go_ret
        exact HX.out

set_option maxRecDepth 100000 in
set_option maxHeartbeats 4000000 in
theorem rwrong_any {w : World} {v : Val} (hv : VOk w (fun _ => False) v) (ht : Tabs w) :
    Calls Tryz.prog 7 #[.agg v.cells.toArray] w fun e w' => e = .returned (.int .i64 (wrongV v)) ∧ Keeps (fun _ => False) w w' := by
  have HB : ∀ w1 w2, w.alloc (.cells v.cells.toArray 26) = w1 → w1.alloc (.cells #[.int .i64 0] 49) = w2 → Hid (Calls Tryz.prog 17 #[.pointer (some ⟨w1.heap.size, 0, none⟩), .agg v.cells.toArray, .int .i64 1] w2 fun e w' => e = .returned (.int .i64 (wrongV v)) ∧ Keeps (fun _ => False) w w') := by
    intro w1 w2 h1 h2
    have k1 : Keeps (fun _ => False) w w1 := by rw [← h1]; exact (Keeps.refl _ _).alloc _
    have k2 : Keeps (fun _ => False) w1 w2 := by rw [← h2]; exact (Keeps.refl _ _).alloc _
    have s1 : w1.heap.size = w.heap.size + 1 := by rw [← h1]; simp
    have hc2 : w2.heap[w1.heap.size]? = some (.cells #[.int .i64 0] 49 (0, 0)) := by rw [← h2]; exact heap_alloc_new _ _
    have k12 := k1.trans k2 fun _ h => .inl h
    have := ht.size
    refine Lib.hid ((lookR_any (S := fun k => k = w1.heap.size) (c := w1.heap.size) (SizeOf.sizeOf v + 1) v (by omega) w2 0 1 (VOk.into k12 (fun _ _ h => h.elim) (fun k hk e => by omega) _ hv) rfl (row_lt hc2) (by omega) (ht.later k12) hc2 (by omega) (by omega)).mono ?_)
    rintro e w3 ⟨rfl, _, hk3⟩
    exact ⟨rfl, k12.trans hk3 fun k e => .inr (by omega)⟩
  obtain ⟨w1, h1⟩ : ∃ w1, w.alloc (.cells v.cells.toArray 26) = w1 := ⟨_, rfl⟩
  obtain ⟨w2, h2⟩ : ∃ w2, w1.alloc (.cells #[.int .i64 0] 49) = w2 := ⟨_, rfl⟩
  have H := HB w1 w2 h1 h2
  obtain ⟨p1, hp1⟩ : ∃ p, w.heap.size = p := ⟨_, rfl⟩
  have hat : At w2 p1 0 v.cells := fun j u hj => by
    have hb1 : w1.heap[p1]? = some (.cells v.cells.toArray 26 (0, 0)) := by rw [← h1, ← hp1]; exact heap_alloc_new _ _
    have hb2 := ((Keeps.refl (fun _ => False) w1).alloc (.cells #[.int .i64 0] 49)).blk hb1
    rw [h2] at hb2
    rw [Nat.zero_add, cell_of_row w2 p1 j _ _ _ hb2, List.getElem?_toArray]
    exact hj
  obtain ⟨p2, hp2⟩ : ∃ p, w1.heap.size = p := ⟨_, rfl⟩
  rw [hp2] at H
  clear HB ht
  obtain ⟨kd, ys, d, t, lv, l⟩ := v
  obtain ⟨A, len, cap, hlv, _⟩ := hv.row.1
  subst hlv
  have q0 := hat 0 _ rfl
  have q1 := hat 1 _ rfl
  have q2 := hat 2 _ rfl
  have q3 := hat 3 _ rfl
  have q4 := hat 4 _ rfl
  have q5 := hat 5 _ rfl
  simp only [Nat.add_zero, Nat.zero_add] at q0 q1 q2 q3 q4 q5
  clear hat
  simp only [Val.cells] at h1 H ⊢
  go_enter Tryz.func7, Tryz.ntmps7
  go_wp2_with (go_at_call 17; ((with_reducible refine H.out.mono ?_); rintro e w3 ⟨rfl, hk⟩; have HK := Lib.hid hk; clear hk))
  go_ret
  exact ⟨rfl, HK.out⟩

end Go.Proofs.YtnihfhfakadepaaGreatDoor
