/- A test with which nothing is wrong is of kinds of which something is said. No walk is here. Package trials: of which types a test may be asked. A test with which nothing is wrong compares with values that are no lists. No walk is here. -/
import Derived.Test.YtnihfhfakadepaaGreatDoorXAppIn
import Derived.Test.YtnihfhfakadepaaGreatDoorXFitsB
import Derived.Maps.OwnSet
import Derived.Maps.OwnOps
import Derived.Maps.Views
namespace Go.Proofs.YtnihfhfakadepaaGreatDoor

theorem valW_kind {v : Val} (h : valW v = 0) : 1 ≤ v.kind ∧ v.kind ≤ 4 := by
  unfold valW at h
  split at h
  · rename_i h1; exact absurd h h1
  · rename_i h1
    split at h
    · simp at h
    · rename_i h5
      have h0 : wrongV v = 0 := by simpa using h1
      obtain ⟨kd, ys, d, t, lv, l⟩ := v
      simp only [Val.kind] at h5 ⊢
      unfold wrongV lookV at h0
      split at h0
      · simp at h0
      · split at h0
        · omega
        · split at h0
          · omega
          · split at h0
            · omega
            · simp at h0

mutual
theorem good_of_right : ∀ (t : Tst) (d : Nat), wrongT t d = 0 → TGood t
  | .mk k a b oa ob kv l, d, h => by
    unfold wrongT at h
    unfold TGood
    split at h
    · simp at h
    · split at h
      · exact ⟨by omega, by omega, fun h2 => by omega, fun h8 => by omega⟩
      · split at h
        · exact ⟨by omega, by omega, fun _ => valW_kind h, fun h8 => by omega⟩
        · split at h
          · exact ⟨by omega, by omega, fun h2 => by omega, fun h8 => by omega⟩
          · split at h
            · exact ⟨by omega, by omega, fun h2 => by omega, fun h8 => by omega⟩
            · split at h
              · split at h
                · simp at h
                · exact ⟨by omega, by omega, fun h2 => by omega, fun _ => good_of_rights l _ h⟩
              · simp at h
theorem good_of_rights : ∀ (l : List Tst) (d : Nat), wrongL l d = 0 → TGoodL l
  | [], _, _ => by unfold TGoodL; trivial
  | t :: l, d, h => by
    unfold wrongL at h
    unfold TGoodL
    split at h
    · rename_i h1; exact absurd h h1
    · rename_i h1
      exact ⟨good_of_right t d (by simpa using h1), good_of_rights l d h⟩
end

end Go.Proofs.YtnihfhfakadepaaGreatDoor
namespace Go.Proofs.YtnihfhfakadepaaGreatDoor
open Go.RowKit Go.Maps
mutual
/-- A test whose comparisons have a value that is no list. -/
def TFit : Tst → Prop
  | .mk k a _ _ _ _ kids => (2 ≤ k → k ≤ 7 → 1 ≤ a.kind ∧ a.kind ≤ 4) ∧ (8 ≤ k → TFitL kids)
def TFitL : List Tst → Prop
  | [] => True
  | t :: l => TFit t ∧ TFitL l
end
theorem TFit.parts {k : Int} {a b : Val} {oa ob : Bool} {kv : Value} {l : List Tst} (h : TFit (.mk k a b oa ob kv l)) : (2 ≤ k → k ≤ 7 → 1 ≤ a.kind ∧ a.kind ≤ 4) ∧ (8 ≤ k → TFitL l) := by
  unfold TFit at h
  exact h
theorem TFitL.get : ∀ {l : List Tst}, TFitL l → ∀ {k : Nat} {x : Tst}, l[k]? = some x → TFit x
  | [], _, k, x, h => by simp at h
  | y :: l, h, 0, x, hx => by
    unfold TFitL at h
    simp at hx
    subst hx
    exact h.1
  | y :: l, h, k + 1, x, hx => by
    unfold TFitL at h
    rw [List.getElem?_cons_succ] at hx
    exact TFitL.get h.2 hx

theorem keyed3 : Keyed Tryz.prog 3 := int_keyed Tryz.underlying3
theorem zero3 (w : World) : (zeroValue 3).run Tryz.prog w = .ok (.int .i64 0) w := by kernel_rfl
theorem map_kept {w w' : World} {k b n : Nat} {R : Value → Option (DataW Unit × List MemPlace)} {D : DataW Unit} (h : w.ownsMap Tryz.prog k R b n D) (hb : w'.heap[b]? = w.heap[b]?) : w'.ownsMap Tryz.prog k R b n D := by
  obtain ⟨es, clock, h1, h2⟩ := h
  exact ⟨es, clock, hb.trans h1, h2⟩

set_option maxRecDepth 100000 in
/-- The map of kinds, made: its run, and what it says. -/
theorem kinds_map (w : World) : ∃ w3 w4 w5 w6 b, w.alloc (.map #[] 0) = w3 ∧ w.heap.size = b ∧ (Instr.mapUpdate 53 (.map (some b)) (.int .i64 2) (.int .i64 2)).run Tryz.prog w3 = .ok () w4 ∧
    (Instr.mapUpdate 53 (.map (some b)) (.int .i64 3) (.int .i64 3)).run Tryz.prog w4 = .ok () w5 ∧ (Instr.mapUpdate 53 (.map (some b)) (.int .i64 4) (.int .i64 4)).run Tryz.prog w5 = .ok () w6 ∧ Keeps (fun _ => False) w w6 ∧
    ∀ W, Keeps (fun _ => False) w6 W → ∀ k : Int, 2 ≤ k → k ≤ 4 → (Instr.lookup 53 (.map (some b)) (.int .i64 k) false).run Tryz.prog W = .ok (.int .i64 k) W := by
  have k3 : Keeps (fun _ => False) w (w.alloc (.map #[] 0)) := (Keeps.refl _ _).alloc _
  have m3 : (w.alloc (.map #[] 0)).ownsMap Tryz.prog 3 (plainElem (H := Unit) Tryz.prog 3) w.heap.size 0 (.map []) := World.ownsMap_made _ _ _ _
  have wf : ∀ k : Int, 2 ≤ k → k ≤ 4 → (Lit.int .i64 k).wf = true := fun k h1 h2 => WalkArith.wf_i64 (by omega)
  have key : ∀ k : Int, 2 ≤ k → k ≤ 4 → keyOf Tryz.prog 3 (.int .i64 k) = some (.int .i64 k) := fun k h1 h2 => keyOf_int_mk Tryz.underlying3 (wf k h1 h2)
  obtain ⟨w4, r4, m4, g4⟩ := m3.update keyed3 Tryz.underlying53 (by decide) (key 2 (by omega) (by omega)) (plainElem_int Tryz.underlying3 (wf 2 (by omega) (by omega)))
  obtain ⟨w5, r5, m5, g5⟩ := m4.update keyed3 Tryz.underlying53 (by decide) (key 3 (by omega) (by omega)) (plainElem_int Tryz.underlying3 (wf 3 (by omega) (by omega)))
  obtain ⟨w6, r6, m6, g6⟩ := m5.update keyed3 Tryz.underlying53 (by decide) (key 4 (by omega) (by omega)) (plainElem_int Tryz.underlying3 (wf 4 (by omega) (by omega)))
  have one : ∀ {a c : World}, a.grownBy c (some w.heap.size) → Keeps (fun k => k = w.heap.size) a c := fun h => Keeps.of_grown h fun k e => by injection e with e; exact .inl e.symm
  have k4 := k3.trans (one g4) fun k e => .inr (by omega)
  have k5 := k4.trans (one g5) fun k e => .inr (by omega)
  have k6 := k5.trans (one g6) fun k e => .inr (by omega)
  refine ⟨_, w4, w5, w6, _, rfl, rfl, r4, r5, r6, k6, fun W hk k h1 h2 => ?_⟩
  have mW := map_kept m6 (hk.block _ m6.lt fun h => h)
  obtain ⟨c, hrun, hat, _⟩ := mW.lookup_int keyed3 Tryz.underlying53 Tryz.underlying3 (zero3 W) (key k h1 h2)
  have hm := isMap_empty (H := Unit)
  have n1 : ∀ a c : Int, a ≠ c → Lit.int .i64 a ≠ Lit.int .i64 c := fun a c h e => by injection e with _ e; exact h e
  rcases (show k = 2 ∨ k = 3 ∨ k = 4 by omega) with rfl | rfl | rfl
  · rw [atKey_put_other (n1 _ _ (by omega)), atKey_put_other (n1 _ _ (by omega)), atKey_put_same hm (by trivial)] at hat
    injection hat with hat
    injection hat with _ hat
    subst hat
    exact hrun
  · rw [atKey_put_other (n1 _ _ (by omega)), atKey_put_same (hm.put _ _) (by trivial)] at hat
    injection hat with hat
    injection hat with _ hat
    subst hat
    exact hrun
  · rw [atKey_put_same ((hm.put _ _).put _ _) (by trivial)] at hat
    injection hat with hat
    injection hat with _ hat
    subst hat
    exact hrun

set_option maxRecDepth 100000 in
set_option maxHeartbeats 16000000 in
theorem fits_any (m : Nat) : ∀ (t : Tst), SizeOf.sizeOf t < m → ∀ (w : World) (ty : Int) (At : Option Addr) (nt ct : Nat), TOk w t → TGood t → TFit t →
    SaysB 11 #[.agg t.cells.toArray, .agg #[.int .i64 ty, .slice At nt ct]] w (fitsT t ty) := by
  induction m with
  | zero => intro t h; omega
  | succ m ih =>
    intro t hm w ty Aty nty cty hto hg hf
    obtain ⟨kd, va, vb, oa, ob, kvv, l⟩ := t
    obtain ⟨hva, hvb, hrow, hkids⟩ := hto.parts
    obtain ⟨g1, g2, g3, g4⟩ := hg.parts
    obtain ⟨f1, f2⟩ := hf.parts
    have hmm := @run_makeMap Tryz.prog
    have HSZ := Lib.hid (show ∀ (k : Nat) (x : Tst), l[k]? = some x → SizeOf.sizeOf x < m from fun k x h => by have := Tst.lt_of_get (k := kd) (a := va) (b := vb) (oa := oa) (ob := ob) (kv := kvv) h; omega)
    have HDEF := Lib.hid (show fitsT (.mk kd va vb oa ob kvv l) ty = if kd = 1 then true else if kd = 8 ∨ kd = 9 then fitsL l ty else if ty = 6 ∨ va.kind = 1 then true else if (va.kind = 2 ∧ ty = 2) ∨ (va.kind = 3 ∧ ty = 3) ∨ (va.kind = 4 ∧ ty = 4) then true else false by unfold fitsT; rfl)
    generalize fitsT (.mk kd va vb oa ob kvv l) ty = R at *
    obtain ⟨w1, pa, pb, e2, epa, epb, k1, ba1, bb1⟩ := testty_boxes w (Tst.mk kd va vb oa ob kvv l).cells.toArray #[.int .i64 ty, .slice Aty nty cty]
    obtain ⟨w3, w4, w5, w2, mb, e3, emb, r4, r5, r6, k12, hlook⟩ := kinds_map w1
    have k2 := k1.trans k12 fun _ h => .inl h
    have ba := k12.blk ba1
    have bb := k12.blk bb1
    have HLK := Lib.hid hlook
    clear k1 k12 ba1 bb1 hlook
    have HAT := Lib.hid (show ∀ W, Keeps (fun _ => False) w2 W → At W pa 0 (Tst.mk kd va vb oa ob kvv l).cells from fun W hk j u hj => by rw [Nat.zero_add, cell_of_row W pa j _ _ _ (hk.blk ba), List.getElem?_toArray]; exact hj)
    have HTY := Lib.hid (fun (W : World) (hk : Keeps (fun _ => False) w2 W) => (⟨cell_of_row W pb 0 _ _ _ (hk.blk bb), cell_of_row W pb 1 _ _ _ (hk.blk bb)⟩ : W.cell? ⟨pb, 0, none⟩ = some (.int .i64 ty) ∧ W.cell? ⟨pb, 1, none⟩ = some (.slice Aty nty cty)))
    have HIH := Lib.hid (fun (k : Nat) (x : Tst) (hx : l[k]? = some x) (h8 : 8 ≤ kd) (W : World) (hk : Keeps (fun _ => False) w2 W) => ih x (HSZ.out k x hx) W ty Aty nty cty (TOk.later (k2.trans hk fun _ h => .inl h) x (hkids.get hx)) ((g4 h8).get hx) ((f2 h8).get hx))
    have HKD := Lib.hid (fun (k : Nat) (x : Tst) (hx : l[k]? = some x) => hkids.get hx)
    obtain ⟨ka, ya, da, ta, la, ea⟩ := va
    obtain ⟨kb, yb, db, tb, lb, eb⟩ := vb
    obtain ⟨Aa, na, ca, hla⟩ := hva.slice
    obtain ⟨Ab, nb, cb, hlb⟩ := hvb.slice
    obtain ⟨Ak, nk, ck, hkv⟩ := hrow.slice
    subst hla hlb hkv
    unfold SaysB at HIH
    simp only [Tst.cells] at e2 ⊢
    simp only [Val.kind] at HDEF
    have K2 := Lib.hid k2
    have HEP := Lib.hid (And.intro e2 (And.intro epa (And.intro epb (And.intro e3 (And.intro emb (And.intro r4 (And.intro r5 r6)))))))
    have FY := Lib.hid (show ∀ r, R = r → Ending.returned (.bool r) = .returned (.bool R) from fun r h => by rw [h])
    have KR := Lib.hid (Keeps.refl (fun _ => False) w2)
    unfold SaysB
    clear k2 ba bb hva hvb hkids ih g3 g4 hto hg hf f2
    have t0 := (HAT.out w2 KR.out).kind
    obtain ⟨a1, _, _, _, _, _⟩ := (HAT.out w2 KR.out).partA
    obtain ⟨y0, y1⟩ := HTY.out w2 KR.out
    simp only [Nat.zero_add] at a1
    rcases (show kd = 1 ∨ (kd = 8 ∨ kd = 9) ∨ (kd ≠ 1 ∧ kd < 8) by omega) with rfl | (rfl | rfl) | ⟨hn1, hn8⟩
    · have HY := Lib.hid (FY.out true HDEF.out)
      go_enter Tryz.func11, Tryz.ntmps11
      go_wp2_with fail
      go_ret
      exact ⟨HY.out, K2.out⟩
    · have HRR := Lib.hid (show R = fitsL l ty from HDEF.out.trans (by rw [if_neg (by omega), if_pos (by omega)]))
      clear f1
      have f8 : (8 : Int) ≤ 8 := by omega
      clear HDEF a1
      obtain ⟨hnk, hck, hmx, hel⟩ := hrow.elemT
      subst hnk
      have HE := Lib.hid hel
      obtain ⟨r1, r2, r3⟩ := (HAT.out w2 KR.out).rest
      simp only [Nat.zero_add] at r3
      clear hrow hel r1 r2
      obtain ⟨len, hlen⟩ : ∃ len, l.length = len := ⟨_, rfl⟩
      rw [hlen] at r3 hck
      have HLEN := Lib.hid hlen
      have hlb : len ≤ 9223372036854775807 := Nat.le_trans hck (Nat.le_trans hmx (by decide))
      clear hlen
      as_aux_lemma =>
      go_enter Tryz.func11, Tryz.ntmps11
      go_wp2_with fail
      go_loopw [20] (fun i wr => ∃ k, i = .int .i64 ((k : Nat) : Int) ∧ k ≤ len ∧ Hid (fitsL (l.drop k) ty = fitsL l ty) ∧ Hid (Keeps (fun _ => False) w2 wr)) (fun i _ => ((len : Int) - intOf i).toNat)
      case atStart => exact ⟨0, rfl, by omega, Lib.hid rfl, KR⟩
      case round =>
        obtain ⟨k, rfl, hk, he, hkk⟩ := hrel
        clear t0 r3 y0 y1
        rcases (show k = len ∨ k < len by omega) with rfl | hlt
        · have HY := Lib.hid (FY.out true (by rw [HRR.out, ← he.out, List.drop_of_length_le (by have := HLEN.out; omega)]; rfl))
          go_wp2_with fail
          go_ret
          exact ⟨HY.out, K2.out.trans hkk.out fun _ h => .inl h⟩
        · have hlz : (k : Int) < (len : Int) := by omega
          have hkl : k < l.length := by have := HLEN.out; omega
          have hgx : l[k]? = some l[k] := List.getElem?_eq_getElem hkl
          have hdr := List.drop_eq_getElem_cons hkl
          generalize l[k] = x at *
          obtain ⟨bb, off, rfl, hatx⟩ := HE.out k x hgx
          have HI := Lib.hid (HIH.out k x hgx f8)
          have hatw := hatx.keep (K2.out.trans hkk.out fun _ h => .inl h) (fun h => h)
          have HE2 := Lib.hid (show fitsL l ty = if fitsT x ty then fitsL (l.drop (k + 1)) ty else false by rw [← he.out, hdr]; rfl)
          generalize fitsT x ty = D at *
          have htx := HKD.out k x hgx
          obtain ⟨xk, xa, xb, xoa, xob, xkv, xl⟩ := x
          obtain ⟨hxa, hxb, hxr, _⟩ := htx.parts
          obtain ⟨xka, xya, xda, xta, xla, xea⟩ := xa
          obtain ⟨xkb, xyb, xdb, xtb, xlb, xeb⟩ := xb
          obtain ⟨xAa, xna, xca, hxla⟩ := hxa.slice
          obtain ⟨xAb, xnb, xcb, hxlb⟩ := hxb.slice
          obtain ⟨xAk, xnk, xck, hxkv⟩ := hxr.slice
          subst hxla hxlb hxkv
          have u0 := hatw.kind
          obtain ⟨u1, u2, u3, u4, u5, u6⟩ := hatw.partA
          obtain ⟨u7, u8, u9, u10, u11, u12⟩ := hatw.partB
          obtain ⟨u13, u14, u15⟩ := hatw.rest
          simp only [Tst.cells] at HI
          clear hatw htx hxa hxb hxr hgx hdr hatx he
          go_upto_region 10 with fail
          have hb9 := heap_alloc_new wr (.cells #[.int .i64 xk, .int .i64 xka, .bool xya, .int .i64 xda.coef, .int .i64 xda.exp, .string xta, .slice xAa xna xca, .int .i64 xkb, .bool xyb, .int .i64 xdb.coef, .int .i64 xdb.exp, .string xtb, .slice xAb xnb xcb, .bool xoa, .bool xob, .slice xAk xnk xck] 29)
          have hka := hkk.out.alloc (.cells #[.int .i64 xk, .int .i64 xka, .bool xya, .int .i64 xda.coef, .int .i64 xda.exp, .string xta, .slice xAa xna xca, .int .i64 xkb, .bool xyb, .int .i64 xdb.coef, .int .i64 xdb.exp, .string xtb, .slice xAb xnb xcb, .bool xoa, .bool xob, .slice xAk xnk xck] 29)
          obtain ⟨p9, hp9⟩ : ∃ q, wr.heap.size = q := ⟨_, rfl⟩
          rw [hp9] at hb9 ⊢
          generalize wr.alloc (.cells #[.int .i64 xk, .int .i64 xka, .bool xya, .int .i64 xda.coef, .int .i64 xda.exp, .string xta, .slice xAa xna xca, .int .i64 xkb, .bool xyb, .int .i64 xdb.coef, .int .i64 xdb.exp, .string xtb, .slice xAb xnb xcb, .bool xoa, .bool xob, .slice xAk xnk xck] 29) = wA at *
          have KA := Lib.hid hka
          have H9 := Lib.hid (show At wA p9 0 (Tst.mk xk (.mk xka xya xda xta (.slice xAa xna xca) xea) (.mk xkb xyb xdb xtb (.slice xAb xnb xcb) xeb) xoa xob (.slice xAk xnk xck) xl).cells from fun j u hj => by rw [Nat.zero_add, cell_of_row wA p9 j _ _ _ hb9, List.getElem?_toArray]; exact hj)
          clear u0 u1 u2 u3 u4 u5 u6 u7 u8 u9 u10 u11 u12 u13 u14 u15 hb9 hp9 hka
          have u0 := H9.out.kind
          obtain ⟨u1, u2, u3, u4, u5, u6⟩ := H9.out.partA
          obtain ⟨u7, u8, u9, u10, u11, u12⟩ := H9.out.partB
          obtain ⟨u13, u14, u15⟩ := H9.out.rest
          obtain ⟨y0, y1⟩ := HTY.out wA KA.out
          simp only [Nat.zero_add] at u1 u2 u3 u4 u5 u6 u7 u8 u9 u10 u11 u12 u13 u14 u15
          cases D
          · have HY := Lib.hid (FY.out false (by rw [HRR.out, HE2.out]; rfl))
            go_wp2_with (go_at_call 11; ((with_reducible refine (HI.out _ KA.out).mono ?_); rintro e w5 ⟨rfl, hk⟩; have J5 := Lib.hid (KA.out.trans hk fun _ h => .inl h); clear hk u0 u1 u2 u3 u4 u5 u6 u7 u8 u9 u10 u11 u12 u13 u14 u15 y0 y1))
            go_ret
            exact ⟨HY.out, K2.out.trans J5.out fun _ h => .inl h⟩
          · have HE3 := Lib.hid (show fitsL (l.drop (k + 1)) ty = fitsL l ty by rw [HE2.out]; rfl)
            go_wp2_with (go_at_call 11; ((with_reducible refine (HI.out _ KA.out).mono ?_); rintro e w5 ⟨rfl, hk⟩; have J5 := Lib.hid (KA.out.trans hk fun _ h => .inl h); clear hk u0 u1 u2 u3 u4 u5 u6 u7 u8 u9 u10 u11 u12 u13 u14 u15 y0 y1))
            go_roundw
            case measure => simp [intOf]; omega
            case rel => exact ⟨k + 1, by go_num, by omega, HE3, J5⟩
    · have HRR := Lib.hid (show R = fitsL l ty from HDEF.out.trans (by rw [if_neg (by omega), if_pos (by omega)]))
      clear f1
      have f8 : (8 : Int) ≤ 9 := by omega
      clear HDEF a1
      obtain ⟨hnk, hck, hmx, hel⟩ := hrow.elemT
      subst hnk
      have HE := Lib.hid hel
      obtain ⟨r1, r2, r3⟩ := (HAT.out w2 KR.out).rest
      simp only [Nat.zero_add] at r3
      clear hrow hel r1 r2
      obtain ⟨len, hlen⟩ : ∃ len, l.length = len := ⟨_, rfl⟩
      rw [hlen] at r3 hck
      have HLEN := Lib.hid hlen
      have hlb : len ≤ 9223372036854775807 := Nat.le_trans hck (Nat.le_trans hmx (by decide))
      clear hlen
      as_aux_lemma =>
      go_enter Tryz.func11, Tryz.ntmps11
      go_wp2_with fail
      go_loopw [20] (fun i wr => ∃ k, i = .int .i64 ((k : Nat) : Int) ∧ k ≤ len ∧ Hid (fitsL (l.drop k) ty = fitsL l ty) ∧ Hid (Keeps (fun _ => False) w2 wr)) (fun i _ => ((len : Int) - intOf i).toNat)
      case atStart => exact ⟨0, rfl, by omega, Lib.hid rfl, KR⟩
      case round =>
        obtain ⟨k, rfl, hk, he, hkk⟩ := hrel
        clear t0 r3 y0 y1
        rcases (show k = len ∨ k < len by omega) with rfl | hlt
        · have HY := Lib.hid (FY.out true (by rw [HRR.out, ← he.out, List.drop_of_length_le (by have := HLEN.out; omega)]; rfl))
          go_wp2_with fail
          go_ret
          exact ⟨HY.out, K2.out.trans hkk.out fun _ h => .inl h⟩
        · have hlz : (k : Int) < (len : Int) := by omega
          have hkl : k < l.length := by have := HLEN.out; omega
          have hgx : l[k]? = some l[k] := List.getElem?_eq_getElem hkl
          have hdr := List.drop_eq_getElem_cons hkl
          generalize l[k] = x at *
          obtain ⟨bb, off, rfl, hatx⟩ := HE.out k x hgx
          have HI := Lib.hid (HIH.out k x hgx f8)
          have hatw := hatx.keep (K2.out.trans hkk.out fun _ h => .inl h) (fun h => h)
          have HE2 := Lib.hid (show fitsL l ty = if fitsT x ty then fitsL (l.drop (k + 1)) ty else false by rw [← he.out, hdr]; rfl)
          generalize fitsT x ty = D at *
          have htx := HKD.out k x hgx
          obtain ⟨xk, xa, xb, xoa, xob, xkv, xl⟩ := x
          obtain ⟨hxa, hxb, hxr, _⟩ := htx.parts
          obtain ⟨xka, xya, xda, xta, xla, xea⟩ := xa
          obtain ⟨xkb, xyb, xdb, xtb, xlb, xeb⟩ := xb
          obtain ⟨xAa, xna, xca, hxla⟩ := hxa.slice
          obtain ⟨xAb, xnb, xcb, hxlb⟩ := hxb.slice
          obtain ⟨xAk, xnk, xck, hxkv⟩ := hxr.slice
          subst hxla hxlb hxkv
          have u0 := hatw.kind
          obtain ⟨u1, u2, u3, u4, u5, u6⟩ := hatw.partA
          obtain ⟨u7, u8, u9, u10, u11, u12⟩ := hatw.partB
          obtain ⟨u13, u14, u15⟩ := hatw.rest
          simp only [Tst.cells] at HI
          clear hatw htx hxa hxb hxr hgx hdr hatx he
          go_upto_region 10 with fail
          have hb9 := heap_alloc_new wr (.cells #[.int .i64 xk, .int .i64 xka, .bool xya, .int .i64 xda.coef, .int .i64 xda.exp, .string xta, .slice xAa xna xca, .int .i64 xkb, .bool xyb, .int .i64 xdb.coef, .int .i64 xdb.exp, .string xtb, .slice xAb xnb xcb, .bool xoa, .bool xob, .slice xAk xnk xck] 29)
          have hka := hkk.out.alloc (.cells #[.int .i64 xk, .int .i64 xka, .bool xya, .int .i64 xda.coef, .int .i64 xda.exp, .string xta, .slice xAa xna xca, .int .i64 xkb, .bool xyb, .int .i64 xdb.coef, .int .i64 xdb.exp, .string xtb, .slice xAb xnb xcb, .bool xoa, .bool xob, .slice xAk xnk xck] 29)
          obtain ⟨p9, hp9⟩ : ∃ q, wr.heap.size = q := ⟨_, rfl⟩
          rw [hp9] at hb9 ⊢
          generalize wr.alloc (.cells #[.int .i64 xk, .int .i64 xka, .bool xya, .int .i64 xda.coef, .int .i64 xda.exp, .string xta, .slice xAa xna xca, .int .i64 xkb, .bool xyb, .int .i64 xdb.coef, .int .i64 xdb.exp, .string xtb, .slice xAb xnb xcb, .bool xoa, .bool xob, .slice xAk xnk xck] 29) = wA at *
          have KA := Lib.hid hka
          have H9 := Lib.hid (show At wA p9 0 (Tst.mk xk (.mk xka xya xda xta (.slice xAa xna xca) xea) (.mk xkb xyb xdb xtb (.slice xAb xnb xcb) xeb) xoa xob (.slice xAk xnk xck) xl).cells from fun j u hj => by rw [Nat.zero_add, cell_of_row wA p9 j _ _ _ hb9, List.getElem?_toArray]; exact hj)
          clear u0 u1 u2 u3 u4 u5 u6 u7 u8 u9 u10 u11 u12 u13 u14 u15 hb9 hp9 hka
          have u0 := H9.out.kind
          obtain ⟨u1, u2, u3, u4, u5, u6⟩ := H9.out.partA
          obtain ⟨u7, u8, u9, u10, u11, u12⟩ := H9.out.partB
          obtain ⟨u13, u14, u15⟩ := H9.out.rest
          obtain ⟨y0, y1⟩ := HTY.out wA KA.out
          simp only [Nat.zero_add] at u1 u2 u3 u4 u5 u6 u7 u8 u9 u10 u11 u12 u13 u14 u15
          cases D
          · have HY := Lib.hid (FY.out false (by rw [HRR.out, HE2.out]; rfl))
            go_wp2_with (go_at_call 11; ((with_reducible refine (HI.out _ KA.out).mono ?_); rintro e w5 ⟨rfl, hk⟩; have J5 := Lib.hid (KA.out.trans hk fun _ h => .inl h); clear hk u0 u1 u2 u3 u4 u5 u6 u7 u8 u9 u10 u11 u12 u13 u14 u15 y0 y1))
            go_ret
            exact ⟨HY.out, K2.out.trans J5.out fun _ h => .inl h⟩
          · have HE3 := Lib.hid (show fitsL (l.drop (k + 1)) ty = fitsL l ty by rw [HE2.out]; rfl)
            go_wp2_with (go_at_call 11; ((with_reducible refine (HI.out _ KA.out).mono ?_); rintro e w5 ⟨rfl, hk⟩; have J5 := Lib.hid (KA.out.trans hk fun _ h => .inl h); clear hk u0 u1 u2 u3 u4 u5 u6 u7 u8 u9 u10 u11 u12 u13 u14 u15 y0 y1))
            go_roundw
            case measure => simp [intOf]; omega
            case rel => exact ⟨k + 1, by go_num, by omega, HE3, J5⟩
    · have n1 : (kd == 1) = false := by simpa using hn1
      have n8 : (kd == 8) = false := by simp; omega
      have n9 : (kd == 9) = false := by simp; omega
      have hka := f1 (by omega) (by omega)
      have HRR := Lib.hid (HDEF.out.trans (by rw [if_neg hn1, if_neg (by omega)]))
      clear HDEF hn1 hn8
      by_cases h6 : ty = 6
      · have HY := Lib.hid (FY.out true (HRR.out.trans (if_pos (.inl h6))))
        subst h6
        clear HRR
        go_enter Tryz.func11, Tryz.ntmps11
        go_wp2_with fail
        go_ret
        exact ⟨HY.out, K2.out⟩
      · have e6 : (ty == 6) = false := by simpa using h6
        by_cases h1 : ka = 1
        · have HY := Lib.hid (FY.out true (HRR.out.trans (if_pos (.inr h1))))
          subst h1
          clear HRR h6
          go_enter Tryz.func11, Tryz.ntmps11
          go_wp2_with fail
          go_ret
          exact ⟨HY.out, K2.out⟩
        · have e1 : (ka == 1) = false := by simpa using h1
          have HR2 := Lib.hid (HRR.out.trans (if_neg (by omega)))
          have hk4 : 2 ≤ ka := by simp only [Val.kind] at hka; omega
          clear HRR h6 h1
          simp only [Val.kind] at hka
          have hlk := HLK.out w2 KR.out ka hk4 hka.2
          have HV := Lib.hid (show R = (ka == ty) by
            refine HR2.out.trans ?_
            by_cases ht : ka = ty
            · exact (if_pos (by omega)).trans (by simpa using ht)
            · exact (if_neg (by omega)).trans (by simpa using ht))
          clear hka f1
          cases hb : (ka == ty)
          · have HY := Lib.hid (FY.out false (by rw [HV.out, hb]))
            go_enter Tryz.func11, Tryz.ntmps11
            go_wp2_with fail
            go_ret
            exact ⟨HY.out, K2.out⟩
          · have HY := Lib.hid (FY.out true (by rw [HV.out, hb]))
            go_enter Tryz.func11, Tryz.ntmps11
            go_wp2_with fail
            go_ret
            exact ⟨HY.out, K2.out⟩

end Go.Proofs.YtnihfhfakadepaaGreatDoor
namespace Go.Proofs.YtnihfhfakadepaaGreatDoor

mutual
theorem fit_of_right : ∀ (t : Tst) (d : Nat), wrongT t d = 0 → TFit t
  | .mk k a b oa ob kv l, d, h => by
    unfold wrongT at h
    unfold TFit
    split at h
    · simp at h
    · split at h
      · exact ⟨fun h2 => by omega, fun h8 => by omega⟩
      · split at h
        · exact ⟨fun _ _ => valW_kind h, fun h8 => by omega⟩
        · split at h
          · refine ⟨fun _ _ => ?_, fun h8 => by omega⟩
            split at h
            · rename_i h1; exact absurd h h1
            · rename_i h1; exact valW_kind (by simpa using h1)
          · split at h
            · refine ⟨fun _ _ => ?_, fun h8 => by omega⟩
              split at h
              · rename_i h1; exact absurd h h1
              · rename_i h1; exact valW_kind (by simpa using h1)
            · split at h
              · refine ⟨fun _ _ => by omega, fun _ => ?_⟩
                split at h
                · simp at h
                · exact fit_of_rights l _ h
              · simp at h
theorem fit_of_rights : ∀ (l : List Tst) (d : Nat), wrongL l d = 0 → TFitL l
  | [], _, _ => by unfold TFitL; trivial
  | t :: l, d, h => by
    unfold wrongL at h
    unfold TFitL
    split at h
    · rename_i h1; exact absurd h h1
    · rename_i h1
      exact ⟨fit_of_right t d (by simpa using h1), fit_of_rights l d h⟩
end

end Go.Proofs.YtnihfhfakadepaaGreatDoor
