/- Package verdictref8: of which types a test may be asked. -/
import Derived.Test.YtnihfhfakadepaaGreatDoorXAppIn
namespace Go.Proofs.YtnihfhfakadepaaGreatDoor
open Go.RowKit
/-- A test and a type in boxes. -/
theorem testty_boxes (w : World) (ca cb : Array Value) : ∃ w2 pa pb, ((w.alloc (.cells ca 29)).alloc (.cells cb 32)) = w2 ∧ w.heap.size = pa ∧ pa + 1 = pb ∧ Keeps (fun _ => False) w w2 ∧ w2.heap[pa]? = some (.cells ca 29 (0, 0)) ∧ w2.heap[pb]? = some (.cells cb 32 (0, 0)) := by
  have k1 : Keeps (fun _ => False) w (w.alloc (.cells ca 29)) := (Keeps.refl _ _).alloc _
  have k2 : Keeps (fun _ => False) (w.alloc (.cells ca 29)) ((w.alloc (.cells ca 29)).alloc (.cells cb 32)) := (Keeps.refl _ _).alloc _
  have a := heap_alloc_new w (.cells ca 29)
  have b := heap_alloc_new (w.alloc (.cells ca 29)) (.cells cb 32)
  have s1 : (w.alloc (.cells ca 29)).heap.size = w.heap.size + 1 := by simp
  rw [s1] at b
  exact ⟨_, _, _, rfl, rfl, rfl, k1.trans k2 fun _ h => .inl h, k2.blk a, b⟩

/-- Yes or no is handed back, and new memory alone is written. -/
def SaysB (f : Nat) (args : Array Value) (w : World) (r : Bool) : Prop :=
  Calls Tryz.prog f args w fun e w' => e = .returned (.bool r) ∧ Keeps (fun _ => False) w w'

set_option maxRecDepth 100000 in
set_option maxHeartbeats 16000000 in
theorem rfits_any (m : Nat) : ∀ (t : Tst), SizeOf.sizeOf t < m → ∀ (w : World) (ty : Int) (At : Option Addr) (nt ct : Nat), TOk w t → TGood t →
    SaysB 12 #[.agg t.cells.toArray, .agg #[.int .i64 ty, .slice At nt ct]] w (fitsT t ty) := by
  induction m with
  | zero => intro t h; omega
  | succ m ih =>
    intro t hm w ty Aty nty cty hto hg
    obtain ⟨kd, va, vb, oa, ob, kvv, l⟩ := t
    obtain ⟨hva, hvb, hrow, hkids⟩ := hto.parts
    obtain ⟨g1, g2, g3, g4⟩ := hg.parts
    have HSZ := Lib.hid (show ∀ (k : Nat) (x : Tst), l[k]? = some x → SizeOf.sizeOf x < m from fun k x h => by have := Tst.lt_of_get (k := kd) (a := va) (b := vb) (oa := oa) (ob := ob) (kv := kvv) h; omega)
    have HDEF := Lib.hid (show fitsT (.mk kd va vb oa ob kvv l) ty = if kd = 1 then true else if kd = 8 ∨ kd = 9 then fitsL l ty else if ty = 6 ∨ va.kind = 1 then true else if (va.kind = 2 ∧ ty = 2) ∨ (va.kind = 3 ∧ ty = 3) ∨ (va.kind = 4 ∧ ty = 4) then true else false by unfold fitsT; rfl)
    generalize fitsT (.mk kd va vb oa ob kvv l) ty = R at *
    obtain ⟨w2, pa, pb, e2, epa, epb, k2, ba, bb⟩ := testty_boxes w (Tst.mk kd va vb oa ob kvv l).cells.toArray #[.int .i64 ty, .slice Aty nty cty]
    have HAT := Lib.hid (show ∀ W, Keeps (fun _ => False) w2 W → At W pa 0 (Tst.mk kd va vb oa ob kvv l).cells from fun W hk j u hj => by rw [Nat.zero_add, cell_of_row W pa j _ _ _ (hk.blk ba), List.getElem?_toArray]; exact hj)
    have HTY := Lib.hid (fun (W : World) (hk : Keeps (fun _ => False) w2 W) => (⟨cell_of_row W pb 0 _ _ _ (hk.blk bb), cell_of_row W pb 1 _ _ _ (hk.blk bb)⟩ : W.cell? ⟨pb, 0, none⟩ = some (.int .i64 ty) ∧ W.cell? ⟨pb, 1, none⟩ = some (.slice Aty nty cty)))
    have HIH := Lib.hid (fun (k : Nat) (x : Tst) (hx : l[k]? = some x) (h8 : 8 ≤ kd) (W : World) (hk : Keeps (fun _ => False) w2 W) => ih x (HSZ.out k x hx) W ty Aty nty cty (TOk.later (k2.trans hk fun _ h => .inl h) x (hkids.get hx)) ((g4 h8).get hx))
    have HKD := Lib.hid (fun (k : Nat) (x : Tst) (hx : l[k]? = some x) => hkids.get hx)
    obtain ⟨ka, ya, da, ta, la, ea⟩ := va
    obtain ⟨kb, yb, db, tb, lb, eb⟩ := vb
    obtain ⟨Aa, na, ca, hla⟩ := hva.slice
    obtain ⟨Ab, nb, cb, hlb⟩ := hvb.slice
    obtain ⟨Ak, nk, ck, hkv⟩ := hrow.slice
    subst hla hlb hkv
    unfold SaysB at HIH
    simp only [Tst.cells] at e2 ⊢
    simp only [Val.kind] at HDEF
    have K2 := Lib.hid k2
    have HEP := Lib.hid (And.intro e2 (And.intro epa epb))
    have FY := Lib.hid (show ∀ r, R = r → Ending.returned (.bool r) = .returned (.bool R) from fun r h => by rw [h])
    have KR := Lib.hid (Keeps.refl (fun _ => False) w2)
    unfold SaysB
    clear k2 ba bb hva hvb hkids ih g3 g4 hto hg
    have t0 := (HAT.out w2 KR.out).kind
    obtain ⟨a1, _, _, _, _, _⟩ := (HAT.out w2 KR.out).partA
    obtain ⟨y0, y1⟩ := HTY.out w2 KR.out
    simp only [Nat.zero_add] at a1
    rcases (show kd = 1 ∨ (kd = 8 ∨ kd = 9) ∨ (kd ≠ 1 ∧ kd < 8) by omega) with rfl | h89 | ⟨hn1, hn8⟩
    · have HY := Lib.hid (FY.out true HDEF.out)
      go_enter Tryz.func12, Tryz.ntmps12
      go_wp2_with fail
      go_ret
      exact ⟨HY.out, K2.out⟩
    · have HRR := Lib.hid (show R = fitsL l ty from HDEF.out.trans (by rw [if_neg (by omega), if_pos h89]))
      have f1 : (kd == 1) = false := by simp; omega
      have f8 : kd ≥ 8 := by omega
      clear HDEF h89 a1
      obtain ⟨hnk, hck, hmx, hel⟩ := hrow.elemT
      subst hnk
      have HE := Lib.hid hel
      obtain ⟨r1, r2, r3⟩ := (HAT.out w2 KR.out).rest
      simp only [Nat.zero_add] at r3
      clear hrow hel r1 r2
      obtain ⟨len, hlen⟩ : ∃ len, l.length = len := ⟨_, rfl⟩
      rw [hlen] at r3 hck
      have HLEN := Lib.hid hlen
      have hlb : len ≤ 9223372036854775807 := Nat.le_trans hck (Nat.le_trans hmx (by decide))
      clear hlen
      as_aux_lemma =>
      go_enter Tryz.func12, Tryz.ntmps12
      go_wp2_with fail
      go_loopw [16] (fun i wr => ∃ k, i = .int .i64 ((k : Nat) : Int) ∧ k ≤ len ∧ Hid (fitsL (l.drop k) ty = fitsL l ty) ∧ Hid (Keeps (fun _ => False) w2 wr)) (fun i _ => ((len : Int) - intOf i).toNat)
      case atStart => exact ⟨0, rfl, by omega, Lib.hid rfl, KR⟩
      case round =>
        obtain ⟨k, rfl, hk, he, hkk⟩ := hrel
        clear t0 r3 y0 y1
        rcases (show k = len ∨ k < len by omega) with rfl | hlt
        · have HY := Lib.hid (FY.out true (by rw [HRR.out, ← he.out, List.drop_of_length_le (by have := HLEN.out; omega)]; rfl))
          go_wp2_with fail
          go_ret
          exact ⟨HY.out, K2.out.trans hkk.out fun _ h => .inl h⟩
        · have hlz : (k : Int) < (len : Int) := by omega
          have hkl : k < l.length := by have := HLEN.out; omega
          have hgx : l[k]? = some l[k] := List.getElem?_eq_getElem hkl
          have hdr := List.drop_eq_getElem_cons hkl
          generalize l[k] = x at *
          obtain ⟨bb, off, rfl, hatx⟩ := HE.out k x hgx
          have HI := Lib.hid (HIH.out k x hgx f8)
          have hatw := hatx.keep (K2.out.trans hkk.out fun _ h => .inl h) (fun h => h)
          have HE2 := Lib.hid (show fitsL l ty = if fitsT x ty then fitsL (l.drop (k + 1)) ty else false by rw [← he.out, hdr]; rfl)
          generalize fitsT x ty = D at *
          have htx := HKD.out k x hgx
          obtain ⟨xk, xa, xb, xoa, xob, xkv, xl⟩ := x
          obtain ⟨hxa, hxb, hxr, _⟩ := htx.parts
          obtain ⟨xka, xya, xda, xta, xla, xea⟩ := xa
          obtain ⟨xkb, xyb, xdb, xtb, xlb, xeb⟩ := xb
          obtain ⟨xAa, xna, xca, hxla⟩ := hxa.slice
          obtain ⟨xAb, xnb, xcb, hxlb⟩ := hxb.slice
          obtain ⟨xAk, xnk, xck, hxkv⟩ := hxr.slice
          subst hxla hxlb hxkv
          have u0 := hatw.kind
          obtain ⟨u1, u2, u3, u4, u5, u6⟩ := hatw.partA
          obtain ⟨u7, u8, u9, u10, u11, u12⟩ := hatw.partB
          obtain ⟨u13, u14, u15⟩ := hatw.rest
          simp only [Tst.cells] at HI
          clear hatw htx hxa hxb hxr hgx hdr hatx he
          go_upto_region 7 with fail
          have hb9 := heap_alloc_new wr (.cells #[.int .i64 xk, .int .i64 xka, .bool xya, .int .i64 xda.coef, .int .i64 xda.exp, .string xta, .slice xAa xna xca, .int .i64 xkb, .bool xyb, .int .i64 xdb.coef, .int .i64 xdb.exp, .string xtb, .slice xAb xnb xcb, .bool xoa, .bool xob, .slice xAk xnk xck] 29)
          have hka := hkk.out.alloc (.cells #[.int .i64 xk, .int .i64 xka, .bool xya, .int .i64 xda.coef, .int .i64 xda.exp, .string xta, .slice xAa xna xca, .int .i64 xkb, .bool xyb, .int .i64 xdb.coef, .int .i64 xdb.exp, .string xtb, .slice xAb xnb xcb, .bool xoa, .bool xob, .slice xAk xnk xck] 29)
          obtain ⟨p9, hp9⟩ : ∃ q, wr.heap.size = q := ⟨_, rfl⟩
          rw [hp9] at hb9 ⊢
          generalize wr.alloc (.cells #[.int .i64 xk, .int .i64 xka, .bool xya, .int .i64 xda.coef, .int .i64 xda.exp, .string xta, .slice xAa xna xca, .int .i64 xkb, .bool xyb, .int .i64 xdb.coef, .int .i64 xdb.exp, .string xtb, .slice xAb xnb xcb, .bool xoa, .bool xob, .slice xAk xnk xck] 29) = wA at *
          have KA := Lib.hid hka
          have H9 := Lib.hid (show At wA p9 0 (Tst.mk xk (.mk xka xya xda xta (.slice xAa xna xca) xea) (.mk xkb xyb xdb xtb (.slice xAb xnb xcb) xeb) xoa xob (.slice xAk xnk xck) xl).cells from fun j u hj => by rw [Nat.zero_add, cell_of_row wA p9 j _ _ _ hb9, List.getElem?_toArray]; exact hj)
          clear u0 u1 u2 u3 u4 u5 u6 u7 u8 u9 u10 u11 u12 u13 u14 u15 hb9 hp9 hka
          have u0 := H9.out.kind
          obtain ⟨u1, u2, u3, u4, u5, u6⟩ := H9.out.partA
          obtain ⟨u7, u8, u9, u10, u11, u12⟩ := H9.out.partB
          obtain ⟨u13, u14, u15⟩ := H9.out.rest
          obtain ⟨y0, y1⟩ := HTY.out wA KA.out
          simp only [Nat.zero_add] at u1 u2 u3 u4 u5 u6 u7 u8 u9 u10 u11 u12 u13 u14 u15
          cases D
          · have HY := Lib.hid (FY.out false (by rw [HRR.out, HE2.out]; rfl))
            go_wp2_with (go_at_call 12; ((with_reducible refine (HI.out _ KA.out).mono ?_); rintro e w5 ⟨rfl, hk⟩; have J5 := Lib.hid (KA.out.trans hk fun _ h => .inl h); clear hk u0 u1 u2 u3 u4 u5 u6 u7 u8 u9 u10 u11 u12 u13 u14 u15 y0 y1))
            go_ret
            exact ⟨HY.out, K2.out.trans J5.out fun _ h => .inl h⟩
          · have HE3 := Lib.hid (show fitsL (l.drop (k + 1)) ty = fitsL l ty by rw [HE2.out]; rfl)
            go_wp2_with (go_at_call 12; ((with_reducible refine (HI.out _ KA.out).mono ?_); rintro e w5 ⟨rfl, hk⟩; have J5 := Lib.hid (KA.out.trans hk fun _ h => .inl h); clear hk u0 u1 u2 u3 u4 u5 u6 u7 u8 u9 u10 u11 u12 u13 u14 u15 y0 y1))
            go_roundw
            case measure => simp [intOf]; omega
            case rel => exact ⟨k + 1, by go_num, by omega, HE3, J5⟩
    · have f1 : (kd == 1) = false := by simpa using hn1
      have f8 : ¬ kd ≥ 8 := by omega
      have HRR := Lib.hid (HDEF.out.trans (by rw [if_neg hn1, if_neg (by omega)]))
      clear HDEF hn1 hn8
      by_cases h6 : ty = 6
      · have HY := Lib.hid (FY.out true (HRR.out.trans (if_pos (.inl h6))))
        subst h6
        clear HRR
        go_enter Tryz.func12, Tryz.ntmps12
        go_wp2_with fail
        go_ret
        exact ⟨HY.out, K2.out⟩
      · have e6 : (ty == 6) = false := by simpa using h6
        by_cases h1 : ka = 1
        · have HY := Lib.hid (FY.out true (HRR.out.trans (if_pos (.inr h1))))
          subst h1
          clear HRR h6
          go_enter Tryz.func12, Tryz.ntmps12
          go_wp2_with fail
          go_ret
          exact ⟨HY.out, K2.out⟩
        · have e1 : (ka == 1) = false := by simpa using h1
          have HR2 := Lib.hid (HRR.out.trans (if_neg (by omega)))
          clear HRR h6 h1
          rcases (show ka = 2 ∨ ka = 3 ∨ ka = 4 ∨ (ka ≠ 2 ∧ ka ≠ 3 ∧ ka ≠ 4) by omega) with rfl | rfl | rfl | ⟨n2, n3, n4⟩
          · by_cases ht : ty = 2
            · have HY := Lib.hid (FY.out true (HR2.out.trans (if_pos (by omega))))
              subst ht
              go_enter Tryz.func12, Tryz.ntmps12
              go_wp2_with fail
              go_ret
              exact ⟨HY.out, K2.out⟩
            · have HY := Lib.hid (FY.out false (HR2.out.trans (if_neg (by omega))))
              have et : (ty == 2) = false := by simpa using ht
              clear ht
              go_enter Tryz.func12, Tryz.ntmps12
              go_wp2_with fail
              go_ret
              exact ⟨HY.out, K2.out⟩
          · by_cases ht : ty = 3
            · have HY := Lib.hid (FY.out true (HR2.out.trans (if_pos (by omega))))
              subst ht
              go_enter Tryz.func12, Tryz.ntmps12
              go_wp2_with fail
              go_ret
              exact ⟨HY.out, K2.out⟩
            · have HY := Lib.hid (FY.out false (HR2.out.trans (if_neg (by omega))))
              have et : (ty == 3) = false := by simpa using ht
              clear ht
              go_enter Tryz.func12, Tryz.ntmps12
              go_wp2_with fail
              go_ret
              exact ⟨HY.out, K2.out⟩
          · by_cases ht : ty = 4
            · have HY := Lib.hid (FY.out true (HR2.out.trans (if_pos (by omega))))
              subst ht
              go_enter Tryz.func12, Tryz.ntmps12
              go_wp2_with fail
              go_ret
              exact ⟨HY.out, K2.out⟩
            · have HY := Lib.hid (FY.out false (HR2.out.trans (if_neg (by omega))))
              have et : (ty == 4) = false := by simpa using ht
              clear ht
              go_enter Tryz.func12, Tryz.ntmps12
              go_wp2_with fail
              go_ret
              exact ⟨HY.out, K2.out⟩
          · have HY := Lib.hid (FY.out false (HR2.out.trans (if_neg (by omega))))
            have e2' : (ka == 2) = false := by simpa using n2
            have e3' : (ka == 3) = false := by simpa using n3
            have e4' : (ka == 4) = false := by simpa using n4
            clear n2 n3 n4
            go_enter Tryz.func12, Tryz.ntmps12
            go_wp2_with fail
            go_ret
            exact ⟨HY.out, K2.out⟩

end Go.Proofs.YtnihfhfakadepaaGreatDoor
