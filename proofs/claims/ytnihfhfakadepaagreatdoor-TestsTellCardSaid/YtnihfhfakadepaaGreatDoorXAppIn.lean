/- Package trials: what a right test 'from one to another' tells of a value. -/
import Derived.Test.YtnihfhfakadepaaGreatDoorXLogB
import Derived.Test.YtnihfhfakadepaaGreatDoorXEqA
import Derived.Deep.CutBlock
import Derived.Deep.DeepCutAuto
namespace Go.Proofs.YtnihfhfakadepaaGreatDoor
open Go.RowKit

mutual
/-- A test of whose kinds something is said. -/
def TGood : Tst → Prop
  | .mk k a _ _ _ _ kids => 1 ≤ k ∧ k ≤ 9 ∧ (k = 2 → 1 ≤ a.kind ∧ a.kind ≤ 4) ∧ (8 ≤ k → TGoodL kids)
def TGoodL : List Tst → Prop
  | [] => True
  | t :: l => TGood t ∧ TGoodL l
end
theorem TGood.parts {k : Int} {a b : Val} {oa ob : Bool} {kv : Value} {l : List Tst} (h : TGood (.mk k a b oa ob kv l)) : 1 ≤ k ∧ k ≤ 9 ∧ (k = 2 → 1 ≤ a.kind ∧ a.kind ≤ 4) ∧ (8 ≤ k → TGoodL l) := by
  unfold TGood at h
  exact h
theorem TGoodL.get : ∀ {l : List Tst}, TGoodL l → ∀ {k : Nat} {x : Tst}, l[k]? = some x → TGood x
  | [], _, k, x, h => by simp at h
  | y :: l, h, 0, x, hx => by
    unfold TGoodL at h
    simp at hx
    subst hx
    exact h.1
  | y :: l, h, k + 1, x, hx => by
    unfold TGoodL at h
    rw [List.getElem?_cons_succ] at hx
    exact TGoodL.get h.2 hx

/-- A truth's kind, and its yes. -/
def kH (h : Int) : Int := if h = 1 then 1 else 2
def yH (h : Int) : Bool := decide (h = 2)
abbrev frm (x : Int) (y : Bool) : Array Value := #[.int .i64 x, .bool y, .int .i64 0, .int .i64 0, .string ⟨#[]⟩, .slice none 0 0]
theorem hC_frm (h : Int) : hC h = frm (kH h) (yH h) := rfl
/-- What is handed back, in its cells. -/
theorem Hands.frm {f : Nat} {args : Array Value} {w : World} {h : Int} (H : Hands f args w (hC h)) : Calls Tryz.prog f args w fun e w' => e = .returned (.agg #[.int .i64 (kH h), .bool (yH h), .int .i64 0, .int .i64 0, .string ⟨#[]⟩, .slice none 0 0]) ∧ Keeps (fun _ => False) w w' := H
theorem Hands.arg {f : Nat} {w : World} {h r : Int} (H : Hands f #[.agg (hC h)] w (hC r)) : Calls Tryz.prog f #[.agg #[.int .i64 (kH h), .bool (yH h), .int .i64 0, .int .i64 0, .string ⟨#[]⟩, .slice none 0 0]] w fun e w' => e = .returned (.agg #[.int .i64 (kH r), .bool (yH r), .int .i64 0, .int .i64 0, .string ⟨#[]⟩, .slice none 0 0]) ∧ Keeps (fun _ => False) w w' := H
theorem Hands.args {f : Nat} {w : World} {h g r : Int} (H : Hands f #[.agg (hC h), .agg (hC g)] w (hC r)) : Calls Tryz.prog f #[.agg #[.int .i64 (kH h), .bool (yH h), .int .i64 0, .int .i64 0, .string ⟨#[]⟩, .slice none 0 0], .agg #[.int .i64 (kH g), .bool (yH g), .int .i64 0, .int .i64 0, .string ⟨#[]⟩, .slice none 0 0]] w fun e w' => e = .returned (.agg #[.int .i64 (kH r), .bool (yH r), .int .i64 0, .int .i64 0, .string ⟨#[]⟩, .slice none 0 0]) ∧ Keeps (fun _ => False) w w' := H

/-- Three boxes: a test, a value and a result. -/
theorem test_boxes (w : World) (ca cb : Array Value) : ∃ w2 pa pb p, (((w.alloc (.cells ca 29)).alloc (.cells cb 26)).alloc (.cells zero6 26)) = w2 ∧ w.heap.size = pa ∧ pa + 1 = pb ∧ pb + 1 = p ∧ Keeps (fun _ => False) w w2 ∧ w2.heap[pa]? = some (.cells ca 29 (0, 0)) ∧ w2.heap[pb]? = some (.cells cb 26 (0, 0)) ∧ w2.heap[p]? = some (.cells zero6 26 (0, 0)) := by
  have k1 : Keeps (fun _ => False) w (w.alloc (.cells ca 29)) := (Keeps.refl _ _).alloc _
  have k2 : Keeps (fun _ => False) (w.alloc (.cells ca 29)) ((w.alloc (.cells ca 29)).alloc (.cells cb 26)) := (Keeps.refl _ _).alloc _
  have k3 : Keeps (fun _ => False) ((w.alloc (.cells ca 29)).alloc (.cells cb 26)) (((w.alloc (.cells ca 29)).alloc (.cells cb 26)).alloc (.cells zero6 26)) := (Keeps.refl _ _).alloc _
  have a := heap_alloc_new w (.cells ca 29)
  have b := heap_alloc_new (w.alloc (.cells ca 29)) (.cells cb 26)
  have c := heap_alloc_new ((w.alloc (.cells ca 29)).alloc (.cells cb 26)) (.cells zero6 26)
  have s1 : (w.alloc (.cells ca 29)).heap.size = w.heap.size + 1 := by simp
  have s2 : ((w.alloc (.cells ca 29)).alloc (.cells cb 26)).heap.size = w.heap.size + 1 + 1 := by simp
  rw [s1] at b
  rw [s2] at c
  exact ⟨_, _, _, _, rfl, rfl, rfl, rfl, (k1.trans k2 fun _ h => .inl h).trans k3 fun _ h => .inl h, k3.blk (k2.blk a), k3.blk b, c⟩


/-- Two truths in two boxes of their own. -/
def TwoIn (w wx : World) (s5 s6 : Value) (g h : Int) : Prop :=
  ∃ p5 p6, s5 = .pointer (some ⟨p5, 0, none⟩) ∧ s6 = .pointer (some ⟨p6, 0, none⟩) ∧ p5 ≠ p6 ∧ w.heap.size ≤ p5 ∧ w.heap.size ≤ p6 ∧ wx.heap[p5]? = some (.cells (frm (kH g) (yH g)) 26 (0, 0)) ∧ wx.heap[p6]? = some (.cells (frm (kH h) (yH h)) 26 (0, 0)) ∧ Keeps (fun _ => False) w wx

theorem Wg.plain_store {P : Program} {C : World → Prop} {o : Oper} {a : Act} {K : Act → World → Prop} {w w' : World} {t : TypeId} {pa x : Operand} {v u : Value} (hop : o.op = Op.store t pa x) (hv : a.eval pa = v) (hu : a.eval x = u)
    (h : (Instr.storeAt t v u).run P w = .ok () w') (hC : C w') (hK : K (a.put o.dst undef) w') : Wg.plainUpon P C o a K ((execOp a.eval o).run P w) := by
  subst hv hu
  simp [execOp, hop, h, Result.andThen, Wg.plainUpon]
  exact ⟨hC, hK⟩

set_option maxRecDepth 100000 in
set_option maxHeartbeats 4000000 in
/-- A struct of six cells, stored: its run. -/
theorem store6 {w : World} {r : Nat} {u0 u1 u2 u3 u4 u5 : Value} (x : Int) (y : Bool) (h : w.heap[r]? = some (.cells #[u0, u1, u2, u3, u4, u5] 26 (0, 0))) :
    ∃ w', (Instr.storeAt 26 (.pointer (some ⟨r, 0, none⟩)) (.agg #[.int .i64 x, .bool y, .int .i64 0, .int .i64 0, .string ⟨#[]⟩, .slice none 0 0])).run Tryz.prog w = .ok () w' ∧ w'.heap[r]? = some (.cells #[.int .i64 x, .bool y, .int .i64 0, .int .i64 0, .string ⟨#[]⟩, .slice none 0 0] 26 (0, 0)) ∧ Keeps (fun k => k = r) w w' := by
  obtain ⟨z0, z1, z2, z3, z4, z5, zf⟩ := cells6 h
  have zl := row_lt h
  obtain ⟨wf, hwf, hfb, hfk⟩ := put6 (v0 := .int .i64 x) (v1 := .bool y) (v2 := .int .i64 0) (v3 := .int .i64 0) (v4 := .string ⟨#[]⟩) (v5 := .slice none 0 0) h
  refine ⟨wf, ?_, hfb, hfk⟩
  go_simp

set_option maxRecDepth 100000 in
set_option maxHeartbeats 200000000 in
theorem apply_in {w : World} {va vb : Val} {oa ob : Bool} {kvv : Value} {l : List Tst} {v : Val} (hto : TOk w (.mk 7 va vb oa ob kvv l)) (hv : ∃ A n c, v.lv = .slice A n c) (ht : Thr w) :
    Hands 16 #[.agg (Tst.mk 7 va vb oa ob kvv l).cells.toArray, .agg v.cells.toArray] w (hC (min (if oa then lessH va v else 2 - lessH v va) (if ob then lessH v vb else 2 - lessH vb v))) := by
    obtain ⟨hva, hvb, hrow, hkids⟩ := hto.parts
    have HL1 := Lib.hid (fun (W : World) (hk : Keeps (fun _ => False) w W) => less_any (ht.later hk) v va hv (by obtain ⟨_, _, _, _, lv, _⟩ := va; exact hva.slice))
    have HL2 := Lib.hid (fun (W : World) (hk : Keeps (fun _ => False) w W) => less_any (ht.later hk) va v (by obtain ⟨_, _, _, _, lv, _⟩ := va; exact hva.slice) hv)
    have HL3 := Lib.hid (fun (W : World) (hk : Keeps (fun _ => False) w W) => less_any (ht.later hk) v vb hv (by obtain ⟨_, _, _, _, lv, _⟩ := vb; exact hvb.slice))
    have HL4 := Lib.hid (fun (W : World) (hk : Keeps (fun _ => False) w W) => less_any (ht.later hk) vb v (by obtain ⟨_, _, _, _, lv, _⟩ := vb; exact hvb.slice) hv)
    have BD1 := Lib.hid (lessH_bd v va)
    have BD2 := Lib.hid (lessH_bd va v)
    have BD3 := Lib.hid (lessH_bd v vb)
    have BD4 := Lib.hid (lessH_bd vb v)
    generalize hx1 : lessH v va = L1 at *
    generalize hx2 : lessH va v = L2 at *
    generalize hx3 : lessH v vb = L3 at *
    generalize hx4 : lessH vb v = L4 at *
    clear hx1 hx2 hx3 hx4 hto
    obtain ⟨w2, pa, pb, p, e2, epa, epb, ep, k2, ba, bb, bp⟩ := test_boxes w (Tst.mk 7 va vb oa ob kvv l).cells.toArray v.cells.toArray
    have HAT := Lib.hid (show ∀ W, Keeps (fun _ => False) w2 W → At W pa 0 (Tst.mk 7 va vb oa ob kvv l).cells from fun W hk j u hj => by rw [Nat.zero_add, cell_of_row W pa j _ _ _ (hk.blk ba), List.getElem?_toArray]; exact hj)
    have HVV := Lib.hid (fun (W : World) (hk : Keeps (fun _ => False) w2 W) => hk.blk bb)
    obtain ⟨kv, yv, dv, tv, lv, ev⟩ := v
    obtain ⟨ka, ya, da, ta, la, ea⟩ := va
    obtain ⟨kb, yb, db, tb, lb, eb⟩ := vb
    obtain ⟨Aa, na, ca, hla⟩ := hva.slice
    obtain ⟨Ab, nb, cb, hlb⟩ := hvb.slice
    obtain ⟨Ak, nk, ck, hkv⟩ := hrow.slice
    obtain ⟨Av, nv, cv, hlv⟩ := hv
    simp only [Val.lv] at hlv
    subst hla hlb hkv hlv
    have HVC := Lib.hid (fun (W : World) (hk : Keeps (fun _ => False) w2 W) => cells6 (HVV.out W hk))
    simp only [Val.cells] at HL1 HL2 HL3 HL4
    simp only [Tst.cells, Val.cells] at e2 ⊢
    have K2 := Lib.hid k2; have BP := Lib.hid bp; have HPL := Lib.hid (show w.heap.size ≤ p by omega)
    have HPW := Lib.hid (show p < w2.heap.size from row_lt bp)
    have HEP := Lib.hid (And.intro e2 (And.intro epa (And.intro epb ep)))
    have KR := Lib.hid (Keeps.refl (fun _ => False) w2)
    have HN1 := Lib.hid (fun W : World => Hands.arg (not_any (w := W) L1 BD1.out.1 BD1.out.2))
    have HN4 := Lib.hid (fun W : World => Hands.arg (not_any (w := W) L4 BD4.out.1 BD4.out.2))
    have HAND := Lib.hid (fun (g h : Int) (g0 : 0 ≤ g) (g2 : g ≤ 2) (h0 : 0 ≤ h) (h2 : h ≤ 2) (W : World) => Hands.args (and_any (w := W) g h g0 g2 h0 h2))
    unfold Hands
    clear HVV k2 ba bb bp hva hvb hkids ht hrow
    have t0 := (HAT.out w2 KR.out).kind
    go_enter Tryz.func16, Tryz.ntmps16
    go_upto_region 13 with fail
    clear t0
    go_cut [5, 6] (fun s5 s6 wx => TwoIn w2 wx s5 s6 (2 - L1) (2 - L4))
    case first =>
      have KW := Lib.hid (show Keeps (fun _ => False) w2 { w2 with drawn := w2.drawn + 1 } from (Keeps.refl _ w2).drew)
      refine Wg.wp_region_first (C := fun w' => Keeps (fun _ => False) w2 w') (by kernel_rfl) 13 ?_
      generalize { w2 with drawn := w2.drawn + 1 } = W at *
      apply Wg.wpAnyP_stays (by kernel_rfl) [0, 1, 2, 5, 6, 7] _ _ _ 8 _ KW.out (by kernel_rfl) ?hs ?hr
      case hs =>
        repeat (apply Wg.wpStays_step rfl rfl; (intro w' hw'; obtain ⟨a1, a2, a3, a4, a5, a6⟩ := (HAT.out w' hw').partA; obtain ⟨b1, b2, b3, b4, b5, b6⟩ := (HAT.out w' hw').partB; obtain ⟨v0, v1, v2, v3, v4, v5, _⟩ := HVC.out w' hw'; simp only [Nat.zero_add] at a1 a2 a3 a4 a5 a6 b1 b2 b3 b4 b5 b6; clear hw'; go_simp; exact ⟨rfl, rfl⟩); go_simp)
        exact rfl
      case hr =>
        apply Wg.wpAnyP_three (i := 3) (k := 10) (l := 11) (fuel := 7) (by kernel_rfl) rfl rfl rfl rfl rfl rfl
        · as_aux_lemma =>
          go_simp
          refine Wg.plain_call ((HL1.out W (K2.out.trans KW.out fun _ h => .inl h)).frm) ?_
          rintro e9 V1 ⟨rfl, hk⟩
          have J1 := Lib.hid (KW.out.trans hk fun _ h => .inl h)
          refine ⟨_, rfl, J1.out, ?_⟩
          clear hk
          apply Wg.wpAnyP_three (i := 4) (k := 10) (l := 11) (fuel := 6) (by kernel_rfl) rfl rfl rfl rfl rfl rfl
          · as_aux_lemma =>
            go_simp
            refine Wg.plain_call (HN1.out V1) ?_
            rintro e9 V2 ⟨rfl, hk⟩
            have J2 := Lib.hid (J1.out.trans hk fun _ h => .inl h)
            refine ⟨_, rfl, J2.out, ?_⟩
            clear hk
            apply Wg.wpAnyP_three (i := 8) (k := 10) (l := 11) (fuel := 5) (by kernel_rfl) rfl rfl rfl rfl rfl rfl
            · as_aux_lemma =>
              go_simp
              refine Wg.plain_call ((HL4.out V2 (K2.out.trans J2.out fun _ h => .inl h)).frm) ?_
              rintro e9 V3 ⟨rfl, hk⟩
              have J3 := Lib.hid (J2.out.trans hk fun _ h => .inl h)
              refine ⟨_, rfl, J3.out, ?_⟩
              clear hk
              apply Wg.wpAnyP_three (i := 9) (k := 10) (l := 11) (fuel := 4) (by kernel_rfl) rfl rfl rfl rfl rfl rfl
              · as_aux_lemma =>
                go_simp
                refine Wg.plain_call (HN4.out V3) ?_
                rintro e9 V4 ⟨rfl, hk⟩
                have J4 := Lib.hid (J3.out.trans hk fun _ h => .inl h)
                refine ⟨_, rfl, J4.out, ?_⟩
                clear hk
                apply Wg.wpAnyP_two (i := 10) (k := 11) (fuel := 3) (by kernel_rfl) rfl rfl rfl rfl
                · skip
                  go_simp
                  refine ⟨J4.out.alloc _, ?_⟩
                  have hz := heap_alloc_new V4 (.cells zero6 26)
                  have hk : Keeps (fun _ => False) V4 (V4.alloc (.cells zero6 26)) := (Keeps.refl _ _).alloc _
                  obtain ⟨p5, hp⟩ : ∃ q, V4.heap.size = q := ⟨_, rfl⟩
                  rw [hp] at hz ⊢
                  generalize V4.alloc (.cells zero6 26) = V5 at *
                  have J5 := Lib.hid (J4.out.trans hk fun _ h => .inl h)
                  have F5 := Lib.hid (show w2.heap.size ≤ p5 by have := J4.out.size; omega)
                  have H5_5 := Lib.hid hz
                  clear hz hk hp
                  apply Wg.wpAnyP_one (i := 11) (fuel := 2) (by kernel_rfl) rfl rfl
                  go_simp
                  refine ⟨J5.out.alloc _, ?_⟩
                  have hz := heap_alloc_new V5 (.cells zero6 26)
                  have hk : Keeps (fun _ => False) V5 (V5.alloc (.cells zero6 26)) := (Keeps.refl _ _).alloc _
                  obtain ⟨p6, hp⟩ : ∃ q, V5.heap.size = q := ⟨_, rfl⟩
                  rw [hp] at hz ⊢
                  generalize V5.alloc (.cells zero6 26) = V6 at *
                  have J6 := Lib.hid (J5.out.trans hk fun _ h => .inl h)
                  have F6 := Lib.hid (show w2.heap.size ≤ p6 by have := J5.out.size; omega)
                  have NE := Lib.hid (show p5 ≠ p6 by have := row_lt H5_5.out; omega)
                  have H5_6 := Lib.hid (hk.blk H5_5.out)
                  have H6_6 := Lib.hid hz
                  clear hz hk hp
                  have h5 := H5_6.out
                  have h6 := H6_6.out
                  obtain ⟨wf, hwf, hfb, hfk⟩ := store6 (kH (2 - L1)) (yH (2 - L1)) h5
                  have KF := Lib.hid (J6.out.trans hfk fun k e => .inr (by have := F5.out; omega))
                  have H6F := Lib.hid ((hfk.block p6 (row_lt h6) (fun e => NE.out e.symm)).trans h6)
                  apply Wg.wpAnyP_one (i := 12) (fuel := 1) (by kernel_rfl) rfl rfl
                  refine Wg.plain_store rfl rfl rfl hwf (.inr KF.out) ?_
                  clear hwf
                  have h6f := H6F.out
                  obtain ⟨wg, hwg, hgb, hgk⟩ := store6 (kH (2 - L4)) (yH (2 - L4)) h6f
                  have TI := Lib.hid (show TwoIn w2 wg (.pointer (some ⟨p5, 0, none⟩)) (.pointer (some ⟨p6, 0, none⟩)) (2 - L1) (2 - L4) from ⟨p5, p6, rfl, rfl, NE.out, F5.out, F6.out, (hgk.block p5 (row_lt hfb) (fun e => NE.out e)).trans hfb, hgb, KF.out.trans hgk fun k e => .inr (by have := F6.out; omega)⟩)
                  apply Wg.wpAnyP_one (i := 13) (fuel := 0) (by kernel_rfl) rfl rfl
                  refine Wg.plain_store rfl rfl rfl hwg (.inl (Nat.le_refl _)) ?_
                  refine ⟨by kernel_rfl, ?_⟩
                  go_simp
                  clear hwg hgb hgk hfb hfk h5 h6 h6f
                  apply ‹∀ (a' : Act) (w' : World), Met _ a' w' → _›
                  go_meet
                  exact TI.out
                · skip
                  go_simp
                  refine ⟨J4.out.alloc _, ?_⟩
                  have hz := heap_alloc_new V4 (.cells zero6 26)
                  have hk : Keeps (fun _ => False) V4 (V4.alloc (.cells zero6 26)) := (Keeps.refl _ _).alloc _
                  obtain ⟨p6, hp⟩ : ∃ q, V4.heap.size = q := ⟨_, rfl⟩
                  rw [hp] at hz ⊢
                  generalize V4.alloc (.cells zero6 26) = V5 at *
                  have J5 := Lib.hid (J4.out.trans hk fun _ h => .inl h)
                  have F6 := Lib.hid (show w2.heap.size ≤ p6 by have := J4.out.size; omega)
                  have H6_5 := Lib.hid hz
                  clear hz hk hp
                  apply Wg.wpAnyP_one (i := 10) (fuel := 2) (by kernel_rfl) rfl rfl
                  go_simp
                  refine ⟨J5.out.alloc _, ?_⟩
                  have hz := heap_alloc_new V5 (.cells zero6 26)
                  have hk : Keeps (fun _ => False) V5 (V5.alloc (.cells zero6 26)) := (Keeps.refl _ _).alloc _
                  obtain ⟨p5, hp⟩ : ∃ q, V5.heap.size = q := ⟨_, rfl⟩
                  rw [hp] at hz ⊢
                  generalize V5.alloc (.cells zero6 26) = V6 at *
                  have J6 := Lib.hid (J5.out.trans hk fun _ h => .inl h)
                  have F5 := Lib.hid (show w2.heap.size ≤ p5 by have := J5.out.size; omega)
                  have NE := Lib.hid (show p5 ≠ p6 by have := row_lt H6_5.out; omega)
                  have H6_6 := Lib.hid (hk.blk H6_5.out)
                  have H5_6 := Lib.hid hz
                  clear hz hk hp
                  have h5 := H5_6.out
                  have h6 := H6_6.out
                  obtain ⟨wf, hwf, hfb, hfk⟩ := store6 (kH (2 - L1)) (yH (2 - L1)) h5
                  have KF := Lib.hid (J6.out.trans hfk fun k e => .inr (by have := F5.out; omega))
                  have H6F := Lib.hid ((hfk.block p6 (row_lt h6) (fun e => NE.out e.symm)).trans h6)
                  apply Wg.wpAnyP_one (i := 12) (fuel := 1) (by kernel_rfl) rfl rfl
                  refine Wg.plain_store rfl rfl rfl hwf (.inr KF.out) ?_
                  clear hwf
                  have h6f := H6F.out
                  obtain ⟨wg, hwg, hgb, hgk⟩ := store6 (kH (2 - L4)) (yH (2 - L4)) h6f
                  have TI := Lib.hid (show TwoIn w2 wg (.pointer (some ⟨p5, 0, none⟩)) (.pointer (some ⟨p6, 0, none⟩)) (2 - L1) (2 - L4) from ⟨p5, p6, rfl, rfl, NE.out, F5.out, F6.out, (hgk.block p5 (row_lt hfb) (fun e => NE.out e)).trans hfb, hgb, KF.out.trans hgk fun k e => .inr (by have := F6.out; omega)⟩)
                  apply Wg.wpAnyP_one (i := 13) (fuel := 0) (by kernel_rfl) rfl rfl
                  refine Wg.plain_store rfl rfl rfl hwg (.inl (Nat.le_refl _)) ?_
                  refine ⟨by kernel_rfl, ?_⟩
                  go_simp
                  clear hwg hgb hgk hfb hfk h5 h6 h6f
                  apply ‹∀ (a' : Act) (w' : World), Met _ a' w' → _›
                  go_meet
                  exact TI.out
              · as_aux_lemma =>
                go_simp
                refine ⟨J3.out.alloc _, ?_⟩
                have hz := heap_alloc_new V3 (.cells zero6 26)
                have hk : Keeps (fun _ => False) V3 (V3.alloc (.cells zero6 26)) := (Keeps.refl _ _).alloc _
                obtain ⟨p5, hp⟩ : ∃ q, V3.heap.size = q := ⟨_, rfl⟩
                rw [hp] at hz ⊢
                generalize V3.alloc (.cells zero6 26) = V4 at *
                have J4 := Lib.hid (J3.out.trans hk fun _ h => .inl h)
                have F5 := Lib.hid (show w2.heap.size ≤ p5 by have := J3.out.size; omega)
                have H5_4 := Lib.hid hz
                clear hz hk hp
                apply Wg.wpAnyP_two (i := 9) (k := 11) (fuel := 3) (by kernel_rfl) rfl rfl rfl rfl
                · skip
                  go_simp
                  refine Wg.plain_call (HN4.out V4) ?_
                  rintro e9 V5 ⟨rfl, hk⟩
                  have J5 := Lib.hid (J4.out.trans hk fun _ h => .inl h)
                  have H5_5 := Lib.hid (hk.blk H5_4.out)
                  refine ⟨_, rfl, J5.out, ?_⟩
                  clear hk
                  apply Wg.wpAnyP_one (i := 11) (fuel := 2) (by kernel_rfl) rfl rfl
                  go_simp
                  refine ⟨J5.out.alloc _, ?_⟩
                  have hz := heap_alloc_new V5 (.cells zero6 26)
                  have hk : Keeps (fun _ => False) V5 (V5.alloc (.cells zero6 26)) := (Keeps.refl _ _).alloc _
                  obtain ⟨p6, hp⟩ : ∃ q, V5.heap.size = q := ⟨_, rfl⟩
                  rw [hp] at hz ⊢
                  generalize V5.alloc (.cells zero6 26) = V6 at *
                  have J6 := Lib.hid (J5.out.trans hk fun _ h => .inl h)
                  have F6 := Lib.hid (show w2.heap.size ≤ p6 by have := J5.out.size; omega)
                  have NE := Lib.hid (show p5 ≠ p6 by have := row_lt H5_5.out; omega)
                  have H5_6 := Lib.hid (hk.blk H5_5.out)
                  have H6_6 := Lib.hid hz
                  clear hz hk hp
                  have h5 := H5_6.out
                  have h6 := H6_6.out
                  obtain ⟨wf, hwf, hfb, hfk⟩ := store6 (kH (2 - L1)) (yH (2 - L1)) h5
                  have KF := Lib.hid (J6.out.trans hfk fun k e => .inr (by have := F5.out; omega))
                  have H6F := Lib.hid ((hfk.block p6 (row_lt h6) (fun e => NE.out e.symm)).trans h6)
                  apply Wg.wpAnyP_one (i := 12) (fuel := 1) (by kernel_rfl) rfl rfl
                  refine Wg.plain_store rfl rfl rfl hwf (.inr KF.out) ?_
                  clear hwf
                  have h6f := H6F.out
                  obtain ⟨wg, hwg, hgb, hgk⟩ := store6 (kH (2 - L4)) (yH (2 - L4)) h6f
                  have TI := Lib.hid (show TwoIn w2 wg (.pointer (some ⟨p5, 0, none⟩)) (.pointer (some ⟨p6, 0, none⟩)) (2 - L1) (2 - L4) from ⟨p5, p6, rfl, rfl, NE.out, F5.out, F6.out, (hgk.block p5 (row_lt hfb) (fun e => NE.out e)).trans hfb, hgb, KF.out.trans hgk fun k e => .inr (by have := F6.out; omega)⟩)
                  apply Wg.wpAnyP_one (i := 13) (fuel := 0) (by kernel_rfl) rfl rfl
                  refine Wg.plain_store rfl rfl rfl hwg (.inl (Nat.le_refl _)) ?_
                  refine ⟨by kernel_rfl, ?_⟩
                  go_simp
                  clear hwg hgb hgk hfb hfk h5 h6 h6f
                  apply ‹∀ (a' : Act) (w' : World), Met _ a' w' → _›
                  go_meet
                  exact TI.out
                · skip
                  go_simp
                  refine ⟨J4.out.alloc _, ?_⟩
                  have hz := heap_alloc_new V4 (.cells zero6 26)
                  have hk : Keeps (fun _ => False) V4 (V4.alloc (.cells zero6 26)) := (Keeps.refl _ _).alloc _
                  obtain ⟨p6, hp⟩ : ∃ q, V4.heap.size = q := ⟨_, rfl⟩
                  rw [hp] at hz ⊢
                  generalize V4.alloc (.cells zero6 26) = V5 at *
                  have J5 := Lib.hid (J4.out.trans hk fun _ h => .inl h)
                  have F6 := Lib.hid (show w2.heap.size ≤ p6 by have := J4.out.size; omega)
                  have NE := Lib.hid (show p5 ≠ p6 by have := row_lt H5_4.out; omega)
                  have H5_5 := Lib.hid (hk.blk H5_4.out)
                  have H6_5 := Lib.hid hz
                  clear hz hk hp
                  apply Wg.wpAnyP_one (i := 9) (fuel := 2) (by kernel_rfl) rfl rfl
                  go_simp
                  refine Wg.plain_call (HN4.out V5) ?_
                  rintro e9 V6 ⟨rfl, hk⟩
                  have J6 := Lib.hid (J5.out.trans hk fun _ h => .inl h)
                  have H5_6 := Lib.hid (hk.blk H5_5.out)
                  have H6_6 := Lib.hid (hk.blk H6_5.out)
                  refine ⟨_, rfl, J6.out, ?_⟩
                  clear hk
                  have h5 := H5_6.out
                  have h6 := H6_6.out
                  obtain ⟨wf, hwf, hfb, hfk⟩ := store6 (kH (2 - L1)) (yH (2 - L1)) h5
                  have KF := Lib.hid (J6.out.trans hfk fun k e => .inr (by have := F5.out; omega))
                  have H6F := Lib.hid ((hfk.block p6 (row_lt h6) (fun e => NE.out e.symm)).trans h6)
                  apply Wg.wpAnyP_one (i := 12) (fuel := 1) (by kernel_rfl) rfl rfl
                  refine Wg.plain_store rfl rfl rfl hwf (.inr KF.out) ?_
                  clear hwf
                  have h6f := H6F.out
                  obtain ⟨wg, hwg, hgb, hgk⟩ := store6 (kH (2 - L4)) (yH (2 - L4)) h6f
                  have TI := Lib.hid (show TwoIn w2 wg (.pointer (some ⟨p5, 0, none⟩)) (.pointer (some ⟨p6, 0, none⟩)) (2 - L1) (2 - L4) from ⟨p5, p6, rfl, rfl, NE.out, F5.out, F6.out, (hgk.block p5 (row_lt hfb) (fun e => NE.out e)).trans hfb, hgb, KF.out.trans hgk fun k e => .inr (by have := F6.out; omega)⟩)
                  apply Wg.wpAnyP_one (i := 13) (fuel := 0) (by kernel_rfl) rfl rfl
                  refine Wg.plain_store rfl rfl rfl hwg (.inl (Nat.le_refl _)) ?_
                  refine ⟨by kernel_rfl, ?_⟩
                  go_simp
                  clear hwg hgb hgk hfb hfk h5 h6 h6f
                  apply ‹∀ (a' : Act) (w' : World), Met _ a' w' → _›
                  go_meet
                  exact TI.out
              · as_aux_lemma =>
                go_simp
                refine ⟨J3.out.alloc _, ?_⟩
                have hz := heap_alloc_new V3 (.cells zero6 26)
                have hk : Keeps (fun _ => False) V3 (V3.alloc (.cells zero6 26)) := (Keeps.refl _ _).alloc _
                obtain ⟨p6, hp⟩ : ∃ q, V3.heap.size = q := ⟨_, rfl⟩
                rw [hp] at hz ⊢
                generalize V3.alloc (.cells zero6 26) = V4 at *
                have J4 := Lib.hid (J3.out.trans hk fun _ h => .inl h)
                have F6 := Lib.hid (show w2.heap.size ≤ p6 by have := J3.out.size; omega)
                have H6_4 := Lib.hid hz
                clear hz hk hp
                apply Wg.wpAnyP_two (i := 9) (k := 10) (fuel := 3) (by kernel_rfl) rfl rfl rfl rfl
                · skip
                  go_simp
                  refine Wg.plain_call (HN4.out V4) ?_
                  rintro e9 V5 ⟨rfl, hk⟩
                  have J5 := Lib.hid (J4.out.trans hk fun _ h => .inl h)
                  have H6_5 := Lib.hid (hk.blk H6_4.out)
                  refine ⟨_, rfl, J5.out, ?_⟩
                  clear hk
                  apply Wg.wpAnyP_one (i := 10) (fuel := 2) (by kernel_rfl) rfl rfl
                  go_simp
                  refine ⟨J5.out.alloc _, ?_⟩
                  have hz := heap_alloc_new V5 (.cells zero6 26)
                  have hk : Keeps (fun _ => False) V5 (V5.alloc (.cells zero6 26)) := (Keeps.refl _ _).alloc _
                  obtain ⟨p5, hp⟩ : ∃ q, V5.heap.size = q := ⟨_, rfl⟩
                  rw [hp] at hz ⊢
                  generalize V5.alloc (.cells zero6 26) = V6 at *
                  have J6 := Lib.hid (J5.out.trans hk fun _ h => .inl h)
                  have F5 := Lib.hid (show w2.heap.size ≤ p5 by have := J5.out.size; omega)
                  have NE := Lib.hid (show p5 ≠ p6 by have := row_lt H6_5.out; omega)
                  have H6_6 := Lib.hid (hk.blk H6_5.out)
                  have H5_6 := Lib.hid hz
                  clear hz hk hp
                  have h5 := H5_6.out
                  have h6 := H6_6.out
                  obtain ⟨wf, hwf, hfb, hfk⟩ := store6 (kH (2 - L1)) (yH (2 - L1)) h5
                  have KF := Lib.hid (J6.out.trans hfk fun k e => .inr (by have := F5.out; omega))
                  have H6F := Lib.hid ((hfk.block p6 (row_lt h6) (fun e => NE.out e.symm)).trans h6)
                  apply Wg.wpAnyP_one (i := 12) (fuel := 1) (by kernel_rfl) rfl rfl
                  refine Wg.plain_store rfl rfl rfl hwf (.inr KF.out) ?_
                  clear hwf
                  have h6f := H6F.out
                  obtain ⟨wg, hwg, hgb, hgk⟩ := store6 (kH (2 - L4)) (yH (2 - L4)) h6f
                  have TI := Lib.hid (show TwoIn w2 wg (.pointer (some ⟨p5, 0, none⟩)) (.pointer (some ⟨p6, 0, none⟩)) (2 - L1) (2 - L4) from ⟨p5, p6, rfl, rfl, NE.out, F5.out, F6.out, (hgk.block p5 (row_lt hfb) (fun e => NE.out e)).trans hfb, hgb, KF.out.trans hgk fun k e => .inr (by have := F6.out; omega)⟩)
                  apply Wg.wpAnyP_one (i := 13) (fuel := 0) (by kernel_rfl) rfl rfl
                  refine Wg.plain_store rfl rfl rfl hwg (.inl (Nat.le_refl _)) ?_
                  refine ⟨by kernel_rfl, ?_⟩
                  go_simp
                  clear hwg hgb hgk hfb hfk h5 h6 h6f
                  apply ‹∀ (a' : Act) (w' : World), Met _ a' w' → _›
                  go_meet
                  exact TI.out
                · skip
                  go_simp
                  refine ⟨J4.out.alloc _, ?_⟩
                  have hz := heap_alloc_new V4 (.cells zero6 26)
                  have hk : Keeps (fun _ => False) V4 (V4.alloc (.cells zero6 26)) := (Keeps.refl _ _).alloc _
                  obtain ⟨p5, hp⟩ : ∃ q, V4.heap.size = q := ⟨_, rfl⟩
                  rw [hp] at hz ⊢
                  generalize V4.alloc (.cells zero6 26) = V5 at *
                  have J5 := Lib.hid (J4.out.trans hk fun _ h => .inl h)
                  have F5 := Lib.hid (show w2.heap.size ≤ p5 by have := J4.out.size; omega)
                  have NE := Lib.hid (show p5 ≠ p6 by have := row_lt H6_4.out; omega)
                  have H6_5 := Lib.hid (hk.blk H6_4.out)
                  have H5_5 := Lib.hid hz
                  clear hz hk hp
                  apply Wg.wpAnyP_one (i := 9) (fuel := 2) (by kernel_rfl) rfl rfl
                  go_simp
                  refine Wg.plain_call (HN4.out V5) ?_
                  rintro e9 V6 ⟨rfl, hk⟩
                  have J6 := Lib.hid (J5.out.trans hk fun _ h => .inl h)
                  have H5_6 := Lib.hid (hk.blk H5_5.out)
                  have H6_6 := Lib.hid (hk.blk H6_5.out)
                  refine ⟨_, rfl, J6.out, ?_⟩
                  clear hk
                  have h5 := H5_6.out
                  have h6 := H6_6.out
                  obtain ⟨wf, hwf, hfb, hfk⟩ := store6 (kH (2 - L1)) (yH (2 - L1)) h5
                  have KF := Lib.hid (J6.out.trans hfk fun k e => .inr (by have := F5.out; omega))
                  have H6F := Lib.hid ((hfk.block p6 (row_lt h6) (fun e => NE.out e.symm)).trans h6)
                  apply Wg.wpAnyP_one (i := 12) (fuel := 1) (by kernel_rfl) rfl rfl
                  refine Wg.plain_store rfl rfl rfl hwf (.inr KF.out) ?_
                  clear hwf
                  have h6f := H6F.out
                  obtain ⟨wg, hwg, hgb, hgk⟩ := store6 (kH (2 - L4)) (yH (2 - L4)) h6f
                  have TI := Lib.hid (show TwoIn w2 wg (.pointer (some ⟨p5, 0, none⟩)) (.pointer (some ⟨p6, 0, none⟩)) (2 - L1) (2 - L4) from ⟨p5, p6, rfl, rfl, NE.out, F5.out, F6.out, (hgk.block p5 (row_lt hfb) (fun e => NE.out e)).trans hfb, hgb, KF.out.trans hgk fun k e => .inr (by have := F6.out; omega)⟩)
                  apply Wg.wpAnyP_one (i := 13) (fuel := 0) (by kernel_rfl) rfl rfl
                  refine Wg.plain_store rfl rfl rfl hwg (.inl (Nat.le_refl _)) ?_
                  refine ⟨by kernel_rfl, ?_⟩
                  go_simp
                  clear hwg hgb hgk hfb hfk h5 h6 h6f
                  apply ‹∀ (a' : Act) (w' : World), Met _ a' w' → _›
                  go_meet
                  exact TI.out
            · as_aux_lemma =>
              go_simp
              refine ⟨J2.out.alloc _, ?_⟩
              have hz := heap_alloc_new V2 (.cells zero6 26)
              have hk : Keeps (fun _ => False) V2 (V2.alloc (.cells zero6 26)) := (Keeps.refl _ _).alloc _
              obtain ⟨p5, hp⟩ : ∃ q, V2.heap.size = q := ⟨_, rfl⟩
              rw [hp] at hz ⊢
              generalize V2.alloc (.cells zero6 26) = V3 at *
              have J3 := Lib.hid (J2.out.trans hk fun _ h => .inl h)
              have F5 := Lib.hid (show w2.heap.size ≤ p5 by have := J2.out.size; omega)
              have H5_3 := Lib.hid hz
              clear hz hk hp
              apply Wg.wpAnyP_two (i := 8) (k := 11) (fuel := 4) (by kernel_rfl) rfl rfl rfl rfl
              · skip
                go_simp
                refine Wg.plain_call ((HL4.out V3 (K2.out.trans J3.out fun _ h => .inl h)).frm) ?_
                rintro e9 V4 ⟨rfl, hk⟩
                have J4 := Lib.hid (J3.out.trans hk fun _ h => .inl h)
                have H5_4 := Lib.hid (hk.blk H5_3.out)
                refine ⟨_, rfl, J4.out, ?_⟩
                clear hk
                apply Wg.wpAnyP_two (i := 9) (k := 11) (fuel := 3) (by kernel_rfl) rfl rfl rfl rfl
                · skip
                  go_simp
                  refine Wg.plain_call (HN4.out V4) ?_
                  rintro e9 V5 ⟨rfl, hk⟩
                  have J5 := Lib.hid (J4.out.trans hk fun _ h => .inl h)
                  have H5_5 := Lib.hid (hk.blk H5_4.out)
                  refine ⟨_, rfl, J5.out, ?_⟩
                  clear hk
                  apply Wg.wpAnyP_one (i := 11) (fuel := 2) (by kernel_rfl) rfl rfl
                  go_simp
                  refine ⟨J5.out.alloc _, ?_⟩
                  have hz := heap_alloc_new V5 (.cells zero6 26)
                  have hk : Keeps (fun _ => False) V5 (V5.alloc (.cells zero6 26)) := (Keeps.refl _ _).alloc _
                  obtain ⟨p6, hp⟩ : ∃ q, V5.heap.size = q := ⟨_, rfl⟩
                  rw [hp] at hz ⊢
                  generalize V5.alloc (.cells zero6 26) = V6 at *
                  have J6 := Lib.hid (J5.out.trans hk fun _ h => .inl h)
                  have F6 := Lib.hid (show w2.heap.size ≤ p6 by have := J5.out.size; omega)
                  have NE := Lib.hid (show p5 ≠ p6 by have := row_lt H5_5.out; omega)
                  have H5_6 := Lib.hid (hk.blk H5_5.out)
                  have H6_6 := Lib.hid hz
                  clear hz hk hp
                  have h5 := H5_6.out
                  have h6 := H6_6.out
                  obtain ⟨wf, hwf, hfb, hfk⟩ := store6 (kH (2 - L1)) (yH (2 - L1)) h5
                  have KF := Lib.hid (J6.out.trans hfk fun k e => .inr (by have := F5.out; omega))
                  have H6F := Lib.hid ((hfk.block p6 (row_lt h6) (fun e => NE.out e.symm)).trans h6)
                  apply Wg.wpAnyP_one (i := 12) (fuel := 1) (by kernel_rfl) rfl rfl
                  refine Wg.plain_store rfl rfl rfl hwf (.inr KF.out) ?_
                  clear hwf
                  have h6f := H6F.out
                  obtain ⟨wg, hwg, hgb, hgk⟩ := store6 (kH (2 - L4)) (yH (2 - L4)) h6f
                  have TI := Lib.hid (show TwoIn w2 wg (.pointer (some ⟨p5, 0, none⟩)) (.pointer (some ⟨p6, 0, none⟩)) (2 - L1) (2 - L4) from ⟨p5, p6, rfl, rfl, NE.out, F5.out, F6.out, (hgk.block p5 (row_lt hfb) (fun e => NE.out e)).trans hfb, hgb, KF.out.trans hgk fun k e => .inr (by have := F6.out; omega)⟩)
                  apply Wg.wpAnyP_one (i := 13) (fuel := 0) (by kernel_rfl) rfl rfl
                  refine Wg.plain_store rfl rfl rfl hwg (.inl (Nat.le_refl _)) ?_
                  refine ⟨by kernel_rfl, ?_⟩
                  go_simp
                  clear hwg hgb hgk hfb hfk h5 h6 h6f
                  apply ‹∀ (a' : Act) (w' : World), Met _ a' w' → _›
                  go_meet
                  exact TI.out
                · skip
                  go_simp
                  refine ⟨J4.out.alloc _, ?_⟩
                  have hz := heap_alloc_new V4 (.cells zero6 26)
                  have hk : Keeps (fun _ => False) V4 (V4.alloc (.cells zero6 26)) := (Keeps.refl _ _).alloc _
                  obtain ⟨p6, hp⟩ : ∃ q, V4.heap.size = q := ⟨_, rfl⟩
                  rw [hp] at hz ⊢
                  generalize V4.alloc (.cells zero6 26) = V5 at *
                  have J5 := Lib.hid (J4.out.trans hk fun _ h => .inl h)
                  have F6 := Lib.hid (show w2.heap.size ≤ p6 by have := J4.out.size; omega)
                  have NE := Lib.hid (show p5 ≠ p6 by have := row_lt H5_4.out; omega)
                  have H5_5 := Lib.hid (hk.blk H5_4.out)
                  have H6_5 := Lib.hid hz
                  clear hz hk hp
                  apply Wg.wpAnyP_one (i := 9) (fuel := 2) (by kernel_rfl) rfl rfl
                  go_simp
                  refine Wg.plain_call (HN4.out V5) ?_
                  rintro e9 V6 ⟨rfl, hk⟩
                  have J6 := Lib.hid (J5.out.trans hk fun _ h => .inl h)
                  have H5_6 := Lib.hid (hk.blk H5_5.out)
                  have H6_6 := Lib.hid (hk.blk H6_5.out)
                  refine ⟨_, rfl, J6.out, ?_⟩
                  clear hk
                  have h5 := H5_6.out
                  have h6 := H6_6.out
                  obtain ⟨wf, hwf, hfb, hfk⟩ := store6 (kH (2 - L1)) (yH (2 - L1)) h5
                  have KF := Lib.hid (J6.out.trans hfk fun k e => .inr (by have := F5.out; omega))
                  have H6F := Lib.hid ((hfk.block p6 (row_lt h6) (fun e => NE.out e.symm)).trans h6)
                  apply Wg.wpAnyP_one (i := 12) (fuel := 1) (by kernel_rfl) rfl rfl
                  refine Wg.plain_store rfl rfl rfl hwf (.inr KF.out) ?_
                  clear hwf
                  have h6f := H6F.out
                  obtain ⟨wg, hwg, hgb, hgk⟩ := store6 (kH (2 - L4)) (yH (2 - L4)) h6f
                  have TI := Lib.hid (show TwoIn w2 wg (.pointer (some ⟨p5, 0, none⟩)) (.pointer (some ⟨p6, 0, none⟩)) (2 - L1) (2 - L4) from ⟨p5, p6, rfl, rfl, NE.out, F5.out, F6.out, (hgk.block p5 (row_lt hfb) (fun e => NE.out e)).trans hfb, hgb, KF.out.trans hgk fun k e => .inr (by have := F6.out; omega)⟩)
                  apply Wg.wpAnyP_one (i := 13) (fuel := 0) (by kernel_rfl) rfl rfl
                  refine Wg.plain_store rfl rfl rfl hwg (.inl (Nat.le_refl _)) ?_
                  refine ⟨by kernel_rfl, ?_⟩
                  go_simp
                  clear hwg hgb hgk hfb hfk h5 h6 h6f
                  apply ‹∀ (a' : Act) (w' : World), Met _ a' w' → _›
                  go_meet
                  exact TI.out
              · skip
                go_simp
                refine ⟨J3.out.alloc _, ?_⟩
                have hz := heap_alloc_new V3 (.cells zero6 26)
                have hk : Keeps (fun _ => False) V3 (V3.alloc (.cells zero6 26)) := (Keeps.refl _ _).alloc _
                obtain ⟨p6, hp⟩ : ∃ q, V3.heap.size = q := ⟨_, rfl⟩
                rw [hp] at hz ⊢
                generalize V3.alloc (.cells zero6 26) = V4 at *
                have J4 := Lib.hid (J3.out.trans hk fun _ h => .inl h)
                have F6 := Lib.hid (show w2.heap.size ≤ p6 by have := J3.out.size; omega)
                have NE := Lib.hid (show p5 ≠ p6 by have := row_lt H5_3.out; omega)
                have H5_4 := Lib.hid (hk.blk H5_3.out)
                have H6_4 := Lib.hid hz
                clear hz hk hp
                apply Wg.wpAnyP_one (i := 8) (fuel := 3) (by kernel_rfl) rfl rfl
                go_simp
                refine Wg.plain_call ((HL4.out V4 (K2.out.trans J4.out fun _ h => .inl h)).frm) ?_
                rintro e9 V5 ⟨rfl, hk⟩
                have J5 := Lib.hid (J4.out.trans hk fun _ h => .inl h)
                have H5_5 := Lib.hid (hk.blk H5_4.out)
                have H6_5 := Lib.hid (hk.blk H6_4.out)
                refine ⟨_, rfl, J5.out, ?_⟩
                clear hk
                apply Wg.wpAnyP_one (i := 9) (fuel := 2) (by kernel_rfl) rfl rfl
                go_simp
                refine Wg.plain_call (HN4.out V5) ?_
                rintro e9 V6 ⟨rfl, hk⟩
                have J6 := Lib.hid (J5.out.trans hk fun _ h => .inl h)
                have H5_6 := Lib.hid (hk.blk H5_5.out)
                have H6_6 := Lib.hid (hk.blk H6_5.out)
                refine ⟨_, rfl, J6.out, ?_⟩
                clear hk
                have h5 := H5_6.out
                have h6 := H6_6.out
                obtain ⟨wf, hwf, hfb, hfk⟩ := store6 (kH (2 - L1)) (yH (2 - L1)) h5
                have KF := Lib.hid (J6.out.trans hfk fun k e => .inr (by have := F5.out; omega))
                have H6F := Lib.hid ((hfk.block p6 (row_lt h6) (fun e => NE.out e.symm)).trans h6)
                apply Wg.wpAnyP_one (i := 12) (fuel := 1) (by kernel_rfl) rfl rfl
                refine Wg.plain_store rfl rfl rfl hwf (.inr KF.out) ?_
                clear hwf
                have h6f := H6F.out
                obtain ⟨wg, hwg, hgb, hgk⟩ := store6 (kH (2 - L4)) (yH (2 - L4)) h6f
                have TI := Lib.hid (show TwoIn w2 wg (.pointer (some ⟨p5, 0, none⟩)) (.pointer (some ⟨p6, 0, none⟩)) (2 - L1) (2 - L4) from ⟨p5, p6, rfl, rfl, NE.out, F5.out, F6.out, (hgk.block p5 (row_lt hfb) (fun e => NE.out e)).trans hfb, hgb, KF.out.trans hgk fun k e => .inr (by have := F6.out; omega)⟩)
                apply Wg.wpAnyP_one (i := 13) (fuel := 0) (by kernel_rfl) rfl rfl
                refine Wg.plain_store rfl rfl rfl hwg (.inl (Nat.le_refl _)) ?_
                refine ⟨by kernel_rfl, ?_⟩
                go_simp
                clear hwg hgb hgk hfb hfk h5 h6 h6f
                apply ‹∀ (a' : Act) (w' : World), Met _ a' w' → _›
                go_meet
                exact TI.out
            · as_aux_lemma =>
              go_simp
              refine ⟨J2.out.alloc _, ?_⟩
              have hz := heap_alloc_new V2 (.cells zero6 26)
              have hk : Keeps (fun _ => False) V2 (V2.alloc (.cells zero6 26)) := (Keeps.refl _ _).alloc _
              obtain ⟨p6, hp⟩ : ∃ q, V2.heap.size = q := ⟨_, rfl⟩
              rw [hp] at hz ⊢
              generalize V2.alloc (.cells zero6 26) = V3 at *
              have J3 := Lib.hid (J2.out.trans hk fun _ h => .inl h)
              have F6 := Lib.hid (show w2.heap.size ≤ p6 by have := J2.out.size; omega)
              have H6_3 := Lib.hid hz
              clear hz hk hp
              apply Wg.wpAnyP_two (i := 8) (k := 10) (fuel := 4) (by kernel_rfl) rfl rfl rfl rfl
              · skip
                go_simp
                refine Wg.plain_call ((HL4.out V3 (K2.out.trans J3.out fun _ h => .inl h)).frm) ?_
                rintro e9 V4 ⟨rfl, hk⟩
                have J4 := Lib.hid (J3.out.trans hk fun _ h => .inl h)
                have H6_4 := Lib.hid (hk.blk H6_3.out)
                refine ⟨_, rfl, J4.out, ?_⟩
                clear hk
                apply Wg.wpAnyP_two (i := 9) (k := 10) (fuel := 3) (by kernel_rfl) rfl rfl rfl rfl
                · skip
                  go_simp
                  refine Wg.plain_call (HN4.out V4) ?_
                  rintro e9 V5 ⟨rfl, hk⟩
                  have J5 := Lib.hid (J4.out.trans hk fun _ h => .inl h)
                  have H6_5 := Lib.hid (hk.blk H6_4.out)
                  refine ⟨_, rfl, J5.out, ?_⟩
                  clear hk
                  apply Wg.wpAnyP_one (i := 10) (fuel := 2) (by kernel_rfl) rfl rfl
                  go_simp
                  refine ⟨J5.out.alloc _, ?_⟩
                  have hz := heap_alloc_new V5 (.cells zero6 26)
                  have hk : Keeps (fun _ => False) V5 (V5.alloc (.cells zero6 26)) := (Keeps.refl _ _).alloc _
                  obtain ⟨p5, hp⟩ : ∃ q, V5.heap.size = q := ⟨_, rfl⟩
                  rw [hp] at hz ⊢
                  generalize V5.alloc (.cells zero6 26) = V6 at *
                  have J6 := Lib.hid (J5.out.trans hk fun _ h => .inl h)
                  have F5 := Lib.hid (show w2.heap.size ≤ p5 by have := J5.out.size; omega)
                  have NE := Lib.hid (show p5 ≠ p6 by have := row_lt H6_5.out; omega)
                  have H6_6 := Lib.hid (hk.blk H6_5.out)
                  have H5_6 := Lib.hid hz
                  clear hz hk hp
                  have h5 := H5_6.out
                  have h6 := H6_6.out
                  obtain ⟨wf, hwf, hfb, hfk⟩ := store6 (kH (2 - L1)) (yH (2 - L1)) h5
                  have KF := Lib.hid (J6.out.trans hfk fun k e => .inr (by have := F5.out; omega))
                  have H6F := Lib.hid ((hfk.block p6 (row_lt h6) (fun e => NE.out e.symm)).trans h6)
                  apply Wg.wpAnyP_one (i := 12) (fuel := 1) (by kernel_rfl) rfl rfl
                  refine Wg.plain_store rfl rfl rfl hwf (.inr KF.out) ?_
                  clear hwf
                  have h6f := H6F.out
                  obtain ⟨wg, hwg, hgb, hgk⟩ := store6 (kH (2 - L4)) (yH (2 - L4)) h6f
                  have TI := Lib.hid (show TwoIn w2 wg (.pointer (some ⟨p5, 0, none⟩)) (.pointer (some ⟨p6, 0, none⟩)) (2 - L1) (2 - L4) from ⟨p5, p6, rfl, rfl, NE.out, F5.out, F6.out, (hgk.block p5 (row_lt hfb) (fun e => NE.out e)).trans hfb, hgb, KF.out.trans hgk fun k e => .inr (by have := F6.out; omega)⟩)
                  apply Wg.wpAnyP_one (i := 13) (fuel := 0) (by kernel_rfl) rfl rfl
                  refine Wg.plain_store rfl rfl rfl hwg (.inl (Nat.le_refl _)) ?_
                  refine ⟨by kernel_rfl, ?_⟩
                  go_simp
                  clear hwg hgb hgk hfb hfk h5 h6 h6f
                  apply ‹∀ (a' : Act) (w' : World), Met _ a' w' → _›
                  go_meet
                  exact TI.out
                · skip
                  go_simp
                  refine ⟨J4.out.alloc _, ?_⟩
                  have hz := heap_alloc_new V4 (.cells zero6 26)
                  have hk : Keeps (fun _ => False) V4 (V4.alloc (.cells zero6 26)) := (Keeps.refl _ _).alloc _
                  obtain ⟨p5, hp⟩ : ∃ q, V4.heap.size = q := ⟨_, rfl⟩
                  rw [hp] at hz ⊢
                  generalize V4.alloc (.cells zero6 26) = V5 at *
                  have J5 := Lib.hid (J4.out.trans hk fun _ h => .inl h)
                  have F5 := Lib.hid (show w2.heap.size ≤ p5 by have := J4.out.size; omega)
                  have NE := Lib.hid (show p5 ≠ p6 by have := row_lt H6_4.out; omega)
                  have H6_5 := Lib.hid (hk.blk H6_4.out)
                  have H5_5 := Lib.hid hz
                  clear hz hk hp
                  apply Wg.wpAnyP_one (i := 9) (fuel := 2) (by kernel_rfl) rfl rfl
                  go_simp
                  refine Wg.plain_call (HN4.out V5) ?_
                  rintro e9 V6 ⟨rfl, hk⟩
                  have J6 := Lib.hid (J5.out.trans hk fun _ h => .inl h)
                  have H5_6 := Lib.hid (hk.blk H5_5.out)
                  have H6_6 := Lib.hid (hk.blk H6_5.out)
                  refine ⟨_, rfl, J6.out, ?_⟩
                  clear hk
                  have h5 := H5_6.out
                  have h6 := H6_6.out
                  obtain ⟨wf, hwf, hfb, hfk⟩ := store6 (kH (2 - L1)) (yH (2 - L1)) h5
                  have KF := Lib.hid (J6.out.trans hfk fun k e => .inr (by have := F5.out; omega))
                  have H6F := Lib.hid ((hfk.block p6 (row_lt h6) (fun e => NE.out e.symm)).trans h6)
                  apply Wg.wpAnyP_one (i := 12) (fuel := 1) (by kernel_rfl) rfl rfl
                  refine Wg.plain_store rfl rfl rfl hwf (.inr KF.out) ?_
                  clear hwf
                  have h6f := H6F.out
                  obtain ⟨wg, hwg, hgb, hgk⟩ := store6 (kH (2 - L4)) (yH (2 - L4)) h6f
                  have TI := Lib.hid (show TwoIn w2 wg (.pointer (some ⟨p5, 0, none⟩)) (.pointer (some ⟨p6, 0, none⟩)) (2 - L1) (2 - L4) from ⟨p5, p6, rfl, rfl, NE.out, F5.out, F6.out, (hgk.block p5 (row_lt hfb) (fun e => NE.out e)).trans hfb, hgb, KF.out.trans hgk fun k e => .inr (by have := F6.out; omega)⟩)
                  apply Wg.wpAnyP_one (i := 13) (fuel := 0) (by kernel_rfl) rfl rfl
                  refine Wg.plain_store rfl rfl rfl hwg (.inl (Nat.le_refl _)) ?_
                  refine ⟨by kernel_rfl, ?_⟩
                  go_simp
                  clear hwg hgb hgk hfb hfk h5 h6 h6f
                  apply ‹∀ (a' : Act) (w' : World), Met _ a' w' → _›
                  go_meet
                  exact TI.out
              · skip
                go_simp
                refine ⟨J3.out.alloc _, ?_⟩
                have hz := heap_alloc_new V3 (.cells zero6 26)
                have hk : Keeps (fun _ => False) V3 (V3.alloc (.cells zero6 26)) := (Keeps.refl _ _).alloc _
                obtain ⟨p5, hp⟩ : ∃ q, V3.heap.size = q := ⟨_, rfl⟩
                rw [hp] at hz ⊢
                generalize V3.alloc (.cells zero6 26) = V4 at *
                have J4 := Lib.hid (J3.out.trans hk fun _ h => .inl h)
                have F5 := Lib.hid (show w2.heap.size ≤ p5 by have := J3.out.size; omega)
                have NE := Lib.hid (show p5 ≠ p6 by have := row_lt H6_3.out; omega)
                have H6_4 := Lib.hid (hk.blk H6_3.out)
                have H5_4 := Lib.hid hz
                clear hz hk hp
                apply Wg.wpAnyP_one (i := 8) (fuel := 3) (by kernel_rfl) rfl rfl
                go_simp
                refine Wg.plain_call ((HL4.out V4 (K2.out.trans J4.out fun _ h => .inl h)).frm) ?_
                rintro e9 V5 ⟨rfl, hk⟩
                have J5 := Lib.hid (J4.out.trans hk fun _ h => .inl h)
                have H5_5 := Lib.hid (hk.blk H5_4.out)
                have H6_5 := Lib.hid (hk.blk H6_4.out)
                refine ⟨_, rfl, J5.out, ?_⟩
                clear hk
                apply Wg.wpAnyP_one (i := 9) (fuel := 2) (by kernel_rfl) rfl rfl
                go_simp
                refine Wg.plain_call (HN4.out V5) ?_
                rintro e9 V6 ⟨rfl, hk⟩
                have J6 := Lib.hid (J5.out.trans hk fun _ h => .inl h)
                have H5_6 := Lib.hid (hk.blk H5_5.out)
                have H6_6 := Lib.hid (hk.blk H6_5.out)
                refine ⟨_, rfl, J6.out, ?_⟩
                clear hk
                have h5 := H5_6.out
                have h6 := H6_6.out
                obtain ⟨wf, hwf, hfb, hfk⟩ := store6 (kH (2 - L1)) (yH (2 - L1)) h5
                have KF := Lib.hid (J6.out.trans hfk fun k e => .inr (by have := F5.out; omega))
                have H6F := Lib.hid ((hfk.block p6 (row_lt h6) (fun e => NE.out e.symm)).trans h6)
                apply Wg.wpAnyP_one (i := 12) (fuel := 1) (by kernel_rfl) rfl rfl
                refine Wg.plain_store rfl rfl rfl hwf (.inr KF.out) ?_
                clear hwf
                have h6f := H6F.out
                obtain ⟨wg, hwg, hgb, hgk⟩ := store6 (kH (2 - L4)) (yH (2 - L4)) h6f
                have TI := Lib.hid (show TwoIn w2 wg (.pointer (some ⟨p5, 0, none⟩)) (.pointer (some ⟨p6, 0, none⟩)) (2 - L1) (2 - L4) from ⟨p5, p6, rfl, rfl, NE.out, F5.out, F6.out, (hgk.block p5 (row_lt hfb) (fun e => NE.out e)).trans hfb, hgb, KF.out.trans hgk fun k e => .inr (by have := F6.out; omega)⟩)
                apply Wg.wpAnyP_one (i := 13) (fuel := 0) (by kernel_rfl) rfl rfl
                refine Wg.plain_store rfl rfl rfl hwg (.inl (Nat.le_refl _)) ?_
                refine ⟨by kernel_rfl, ?_⟩
                go_simp
                clear hwg hgb hgk hfb hfk h5 h6 h6f
                apply ‹∀ (a' : Act) (w' : World), Met _ a' w' → _›
                go_meet
                exact TI.out
          · as_aux_lemma =>
            go_simp
            refine ⟨J1.out.alloc _, ?_⟩
            have hz := heap_alloc_new V1 (.cells zero6 26)
            have hk : Keeps (fun _ => False) V1 (V1.alloc (.cells zero6 26)) := (Keeps.refl _ _).alloc _
            obtain ⟨p5, hp⟩ : ∃ q, V1.heap.size = q := ⟨_, rfl⟩
            rw [hp] at hz ⊢
            generalize V1.alloc (.cells zero6 26) = V2 at *
            have J2 := Lib.hid (J1.out.trans hk fun _ h => .inl h)
            have F5 := Lib.hid (show w2.heap.size ≤ p5 by have := J1.out.size; omega)
            have H5_2 := Lib.hid hz
            clear hz hk hp
            apply Wg.wpAnyP_two (i := 4) (k := 11) (fuel := 5) (by kernel_rfl) rfl rfl rfl rfl
            · as_aux_lemma =>
              go_simp
              refine Wg.plain_call (HN1.out V2) ?_
              rintro e9 V3 ⟨rfl, hk⟩
              have J3 := Lib.hid (J2.out.trans hk fun _ h => .inl h)
              have H5_3 := Lib.hid (hk.blk H5_2.out)
              refine ⟨_, rfl, J3.out, ?_⟩
              clear hk
              apply Wg.wpAnyP_two (i := 8) (k := 11) (fuel := 4) (by kernel_rfl) rfl rfl rfl rfl
              · skip
                go_simp
                refine Wg.plain_call ((HL4.out V3 (K2.out.trans J3.out fun _ h => .inl h)).frm) ?_
                rintro e9 V4 ⟨rfl, hk⟩
                have J4 := Lib.hid (J3.out.trans hk fun _ h => .inl h)
                have H5_4 := Lib.hid (hk.blk H5_3.out)
                refine ⟨_, rfl, J4.out, ?_⟩
                clear hk
                apply Wg.wpAnyP_two (i := 9) (k := 11) (fuel := 3) (by kernel_rfl) rfl rfl rfl rfl
                · skip
                  go_simp
                  refine Wg.plain_call (HN4.out V4) ?_
                  rintro e9 V5 ⟨rfl, hk⟩
                  have J5 := Lib.hid (J4.out.trans hk fun _ h => .inl h)
                  have H5_5 := Lib.hid (hk.blk H5_4.out)
                  refine ⟨_, rfl, J5.out, ?_⟩
                  clear hk
                  apply Wg.wpAnyP_one (i := 11) (fuel := 2) (by kernel_rfl) rfl rfl
                  go_simp
                  refine ⟨J5.out.alloc _, ?_⟩
                  have hz := heap_alloc_new V5 (.cells zero6 26)
                  have hk : Keeps (fun _ => False) V5 (V5.alloc (.cells zero6 26)) := (Keeps.refl _ _).alloc _
                  obtain ⟨p6, hp⟩ : ∃ q, V5.heap.size = q := ⟨_, rfl⟩
                  rw [hp] at hz ⊢
                  generalize V5.alloc (.cells zero6 26) = V6 at *
                  have J6 := Lib.hid (J5.out.trans hk fun _ h => .inl h)
                  have F6 := Lib.hid (show w2.heap.size ≤ p6 by have := J5.out.size; omega)
                  have NE := Lib.hid (show p5 ≠ p6 by have := row_lt H5_5.out; omega)
                  have H5_6 := Lib.hid (hk.blk H5_5.out)
                  have H6_6 := Lib.hid hz
                  clear hz hk hp
                  have h5 := H5_6.out
                  have h6 := H6_6.out
                  obtain ⟨wf, hwf, hfb, hfk⟩ := store6 (kH (2 - L1)) (yH (2 - L1)) h5
                  have KF := Lib.hid (J6.out.trans hfk fun k e => .inr (by have := F5.out; omega))
                  have H6F := Lib.hid ((hfk.block p6 (row_lt h6) (fun e => NE.out e.symm)).trans h6)
                  apply Wg.wpAnyP_one (i := 12) (fuel := 1) (by kernel_rfl) rfl rfl
                  refine Wg.plain_store rfl rfl rfl hwf (.inr KF.out) ?_
                  clear hwf
                  have h6f := H6F.out
                  obtain ⟨wg, hwg, hgb, hgk⟩ := store6 (kH (2 - L4)) (yH (2 - L4)) h6f
                  have TI := Lib.hid (show TwoIn w2 wg (.pointer (some ⟨p5, 0, none⟩)) (.pointer (some ⟨p6, 0, none⟩)) (2 - L1) (2 - L4) from ⟨p5, p6, rfl, rfl, NE.out, F5.out, F6.out, (hgk.block p5 (row_lt hfb) (fun e => NE.out e)).trans hfb, hgb, KF.out.trans hgk fun k e => .inr (by have := F6.out; omega)⟩)
                  apply Wg.wpAnyP_one (i := 13) (fuel := 0) (by kernel_rfl) rfl rfl
                  refine Wg.plain_store rfl rfl rfl hwg (.inl (Nat.le_refl _)) ?_
                  refine ⟨by kernel_rfl, ?_⟩
                  go_simp
                  clear hwg hgb hgk hfb hfk h5 h6 h6f
                  apply ‹∀ (a' : Act) (w' : World), Met _ a' w' → _›
                  go_meet
                  exact TI.out
                · skip
                  go_simp
                  refine ⟨J4.out.alloc _, ?_⟩
                  have hz := heap_alloc_new V4 (.cells zero6 26)
                  have hk : Keeps (fun _ => False) V4 (V4.alloc (.cells zero6 26)) := (Keeps.refl _ _).alloc _
                  obtain ⟨p6, hp⟩ : ∃ q, V4.heap.size = q := ⟨_, rfl⟩
                  rw [hp] at hz ⊢
                  generalize V4.alloc (.cells zero6 26) = V5 at *
                  have J5 := Lib.hid (J4.out.trans hk fun _ h => .inl h)
                  have F6 := Lib.hid (show w2.heap.size ≤ p6 by have := J4.out.size; omega)
                  have NE := Lib.hid (show p5 ≠ p6 by have := row_lt H5_4.out; omega)
                  have H5_5 := Lib.hid (hk.blk H5_4.out)
                  have H6_5 := Lib.hid hz
                  clear hz hk hp
                  apply Wg.wpAnyP_one (i := 9) (fuel := 2) (by kernel_rfl) rfl rfl
                  go_simp
                  refine Wg.plain_call (HN4.out V5) ?_
                  rintro e9 V6 ⟨rfl, hk⟩
                  have J6 := Lib.hid (J5.out.trans hk fun _ h => .inl h)
                  have H5_6 := Lib.hid (hk.blk H5_5.out)
                  have H6_6 := Lib.hid (hk.blk H6_5.out)
                  refine ⟨_, rfl, J6.out, ?_⟩
                  clear hk
                  have h5 := H5_6.out
                  have h6 := H6_6.out
                  obtain ⟨wf, hwf, hfb, hfk⟩ := store6 (kH (2 - L1)) (yH (2 - L1)) h5
                  have KF := Lib.hid (J6.out.trans hfk fun k e => .inr (by have := F5.out; omega))
                  have H6F := Lib.hid ((hfk.block p6 (row_lt h6) (fun e => NE.out e.symm)).trans h6)
                  apply Wg.wpAnyP_one (i := 12) (fuel := 1) (by kernel_rfl) rfl rfl
                  refine Wg.plain_store rfl rfl rfl hwf (.inr KF.out) ?_
                  clear hwf
                  have h6f := H6F.out
                  obtain ⟨wg, hwg, hgb, hgk⟩ := store6 (kH (2 - L4)) (yH (2 - L4)) h6f
                  have TI := Lib.hid (show TwoIn w2 wg (.pointer (some ⟨p5, 0, none⟩)) (.pointer (some ⟨p6, 0, none⟩)) (2 - L1) (2 - L4) from ⟨p5, p6, rfl, rfl, NE.out, F5.out, F6.out, (hgk.block p5 (row_lt hfb) (fun e => NE.out e)).trans hfb, hgb, KF.out.trans hgk fun k e => .inr (by have := F6.out; omega)⟩)
                  apply Wg.wpAnyP_one (i := 13) (fuel := 0) (by kernel_rfl) rfl rfl
                  refine Wg.plain_store rfl rfl rfl hwg (.inl (Nat.le_refl _)) ?_
                  refine ⟨by kernel_rfl, ?_⟩
                  go_simp
                  clear hwg hgb hgk hfb hfk h5 h6 h6f
                  apply ‹∀ (a' : Act) (w' : World), Met _ a' w' → _›
                  go_meet
                  exact TI.out
              · skip
                go_simp
                refine ⟨J3.out.alloc _, ?_⟩
                have hz := heap_alloc_new V3 (.cells zero6 26)
                have hk : Keeps (fun _ => False) V3 (V3.alloc (.cells zero6 26)) := (Keeps.refl _ _).alloc _
                obtain ⟨p6, hp⟩ : ∃ q, V3.heap.size = q := ⟨_, rfl⟩
                rw [hp] at hz ⊢
                generalize V3.alloc (.cells zero6 26) = V4 at *
                have J4 := Lib.hid (J3.out.trans hk fun _ h => .inl h)
                have F6 := Lib.hid (show w2.heap.size ≤ p6 by have := J3.out.size; omega)
                have NE := Lib.hid (show p5 ≠ p6 by have := row_lt H5_3.out; omega)
                have H5_4 := Lib.hid (hk.blk H5_3.out)
                have H6_4 := Lib.hid hz
                clear hz hk hp
                apply Wg.wpAnyP_one (i := 8) (fuel := 3) (by kernel_rfl) rfl rfl
                go_simp
                refine Wg.plain_call ((HL4.out V4 (K2.out.trans J4.out fun _ h => .inl h)).frm) ?_
                rintro e9 V5 ⟨rfl, hk⟩
                have J5 := Lib.hid (J4.out.trans hk fun _ h => .inl h)
                have H5_5 := Lib.hid (hk.blk H5_4.out)
                have H6_5 := Lib.hid (hk.blk H6_4.out)
                refine ⟨_, rfl, J5.out, ?_⟩
                clear hk
                apply Wg.wpAnyP_one (i := 9) (fuel := 2) (by kernel_rfl) rfl rfl
                go_simp
                refine Wg.plain_call (HN4.out V5) ?_
                rintro e9 V6 ⟨rfl, hk⟩
                have J6 := Lib.hid (J5.out.trans hk fun _ h => .inl h)
                have H5_6 := Lib.hid (hk.blk H5_5.out)
                have H6_6 := Lib.hid (hk.blk H6_5.out)
                refine ⟨_, rfl, J6.out, ?_⟩
                clear hk
                have h5 := H5_6.out
                have h6 := H6_6.out
                obtain ⟨wf, hwf, hfb, hfk⟩ := store6 (kH (2 - L1)) (yH (2 - L1)) h5
                have KF := Lib.hid (J6.out.trans hfk fun k e => .inr (by have := F5.out; omega))
                have H6F := Lib.hid ((hfk.block p6 (row_lt h6) (fun e => NE.out e.symm)).trans h6)
                apply Wg.wpAnyP_one (i := 12) (fuel := 1) (by kernel_rfl) rfl rfl
                refine Wg.plain_store rfl rfl rfl hwf (.inr KF.out) ?_
                clear hwf
                have h6f := H6F.out
                obtain ⟨wg, hwg, hgb, hgk⟩ := store6 (kH (2 - L4)) (yH (2 - L4)) h6f
                have TI := Lib.hid (show TwoIn w2 wg (.pointer (some ⟨p5, 0, none⟩)) (.pointer (some ⟨p6, 0, none⟩)) (2 - L1) (2 - L4) from ⟨p5, p6, rfl, rfl, NE.out, F5.out, F6.out, (hgk.block p5 (row_lt hfb) (fun e => NE.out e)).trans hfb, hgb, KF.out.trans hgk fun k e => .inr (by have := F6.out; omega)⟩)
                apply Wg.wpAnyP_one (i := 13) (fuel := 0) (by kernel_rfl) rfl rfl
                refine Wg.plain_store rfl rfl rfl hwg (.inl (Nat.le_refl _)) ?_
                refine ⟨by kernel_rfl, ?_⟩
                go_simp
                clear hwg hgb hgk hfb hfk h5 h6 h6f
                apply ‹∀ (a' : Act) (w' : World), Met _ a' w' → _›
                go_meet
                exact TI.out
            · as_aux_lemma =>
              go_simp
              refine ⟨J2.out.alloc _, ?_⟩
              have hz := heap_alloc_new V2 (.cells zero6 26)
              have hk : Keeps (fun _ => False) V2 (V2.alloc (.cells zero6 26)) := (Keeps.refl _ _).alloc _
              obtain ⟨p6, hp⟩ : ∃ q, V2.heap.size = q := ⟨_, rfl⟩
              rw [hp] at hz ⊢
              generalize V2.alloc (.cells zero6 26) = V3 at *
              have J3 := Lib.hid (J2.out.trans hk fun _ h => .inl h)
              have F6 := Lib.hid (show w2.heap.size ≤ p6 by have := J2.out.size; omega)
              have NE := Lib.hid (show p5 ≠ p6 by have := row_lt H5_2.out; omega)
              have H5_3 := Lib.hid (hk.blk H5_2.out)
              have H6_3 := Lib.hid hz
              clear hz hk hp
              apply Wg.wpAnyP_one (i := 4) (fuel := 4) (by kernel_rfl) rfl rfl
              go_simp
              refine Wg.plain_call (HN1.out V3) ?_
              rintro e9 V4 ⟨rfl, hk⟩
              have J4 := Lib.hid (J3.out.trans hk fun _ h => .inl h)
              have H5_4 := Lib.hid (hk.blk H5_3.out)
              have H6_4 := Lib.hid (hk.blk H6_3.out)
              refine ⟨_, rfl, J4.out, ?_⟩
              clear hk
              apply Wg.wpAnyP_one (i := 8) (fuel := 3) (by kernel_rfl) rfl rfl
              go_simp
              refine Wg.plain_call ((HL4.out V4 (K2.out.trans J4.out fun _ h => .inl h)).frm) ?_
              rintro e9 V5 ⟨rfl, hk⟩
              have J5 := Lib.hid (J4.out.trans hk fun _ h => .inl h)
              have H5_5 := Lib.hid (hk.blk H5_4.out)
              have H6_5 := Lib.hid (hk.blk H6_4.out)
              refine ⟨_, rfl, J5.out, ?_⟩
              clear hk
              apply Wg.wpAnyP_one (i := 9) (fuel := 2) (by kernel_rfl) rfl rfl
              go_simp
              refine Wg.plain_call (HN4.out V5) ?_
              rintro e9 V6 ⟨rfl, hk⟩
              have J6 := Lib.hid (J5.out.trans hk fun _ h => .inl h)
              have H5_6 := Lib.hid (hk.blk H5_5.out)
              have H6_6 := Lib.hid (hk.blk H6_5.out)
              refine ⟨_, rfl, J6.out, ?_⟩
              clear hk
              have h5 := H5_6.out
              have h6 := H6_6.out
              obtain ⟨wf, hwf, hfb, hfk⟩ := store6 (kH (2 - L1)) (yH (2 - L1)) h5
              have KF := Lib.hid (J6.out.trans hfk fun k e => .inr (by have := F5.out; omega))
              have H6F := Lib.hid ((hfk.block p6 (row_lt h6) (fun e => NE.out e.symm)).trans h6)
              apply Wg.wpAnyP_one (i := 12) (fuel := 1) (by kernel_rfl) rfl rfl
              refine Wg.plain_store rfl rfl rfl hwf (.inr KF.out) ?_
              clear hwf
              have h6f := H6F.out
              obtain ⟨wg, hwg, hgb, hgk⟩ := store6 (kH (2 - L4)) (yH (2 - L4)) h6f
              have TI := Lib.hid (show TwoIn w2 wg (.pointer (some ⟨p5, 0, none⟩)) (.pointer (some ⟨p6, 0, none⟩)) (2 - L1) (2 - L4) from ⟨p5, p6, rfl, rfl, NE.out, F5.out, F6.out, (hgk.block p5 (row_lt hfb) (fun e => NE.out e)).trans hfb, hgb, KF.out.trans hgk fun k e => .inr (by have := F6.out; omega)⟩)
              apply Wg.wpAnyP_one (i := 13) (fuel := 0) (by kernel_rfl) rfl rfl
              refine Wg.plain_store rfl rfl rfl hwg (.inl (Nat.le_refl _)) ?_
              refine ⟨by kernel_rfl, ?_⟩
              go_simp
              clear hwg hgb hgk hfb hfk h5 h6 h6f
              apply ‹∀ (a' : Act) (w' : World), Met _ a' w' → _›
              go_meet
              exact TI.out
          · as_aux_lemma =>
            go_simp
            refine ⟨J1.out.alloc _, ?_⟩
            have hz := heap_alloc_new V1 (.cells zero6 26)
            have hk : Keeps (fun _ => False) V1 (V1.alloc (.cells zero6 26)) := (Keeps.refl _ _).alloc _
            obtain ⟨p6, hp⟩ : ∃ q, V1.heap.size = q := ⟨_, rfl⟩
            rw [hp] at hz ⊢
            generalize V1.alloc (.cells zero6 26) = V2 at *
            have J2 := Lib.hid (J1.out.trans hk fun _ h => .inl h)
            have F6 := Lib.hid (show w2.heap.size ≤ p6 by have := J1.out.size; omega)
            have H6_2 := Lib.hid hz
            clear hz hk hp
            apply Wg.wpAnyP_two (i := 4) (k := 10) (fuel := 5) (by kernel_rfl) rfl rfl rfl rfl
            · as_aux_lemma =>
              go_simp
              refine Wg.plain_call (HN1.out V2) ?_
              rintro e9 V3 ⟨rfl, hk⟩
              have J3 := Lib.hid (J2.out.trans hk fun _ h => .inl h)
              have H6_3 := Lib.hid (hk.blk H6_2.out)
              refine ⟨_, rfl, J3.out, ?_⟩
              clear hk
              apply Wg.wpAnyP_two (i := 8) (k := 10) (fuel := 4) (by kernel_rfl) rfl rfl rfl rfl
              · skip
                go_simp
                refine Wg.plain_call ((HL4.out V3 (K2.out.trans J3.out fun _ h => .inl h)).frm) ?_
                rintro e9 V4 ⟨rfl, hk⟩
                have J4 := Lib.hid (J3.out.trans hk fun _ h => .inl h)
                have H6_4 := Lib.hid (hk.blk H6_3.out)
                refine ⟨_, rfl, J4.out, ?_⟩
                clear hk
                apply Wg.wpAnyP_two (i := 9) (k := 10) (fuel := 3) (by kernel_rfl) rfl rfl rfl rfl
                · skip
                  go_simp
                  refine Wg.plain_call (HN4.out V4) ?_
                  rintro e9 V5 ⟨rfl, hk⟩
                  have J5 := Lib.hid (J4.out.trans hk fun _ h => .inl h)
                  have H6_5 := Lib.hid (hk.blk H6_4.out)
                  refine ⟨_, rfl, J5.out, ?_⟩
                  clear hk
                  apply Wg.wpAnyP_one (i := 10) (fuel := 2) (by kernel_rfl) rfl rfl
                  go_simp
                  refine ⟨J5.out.alloc _, ?_⟩
                  have hz := heap_alloc_new V5 (.cells zero6 26)
                  have hk : Keeps (fun _ => False) V5 (V5.alloc (.cells zero6 26)) := (Keeps.refl _ _).alloc _
                  obtain ⟨p5, hp⟩ : ∃ q, V5.heap.size = q := ⟨_, rfl⟩
                  rw [hp] at hz ⊢
                  generalize V5.alloc (.cells zero6 26) = V6 at *
                  have J6 := Lib.hid (J5.out.trans hk fun _ h => .inl h)
                  have F5 := Lib.hid (show w2.heap.size ≤ p5 by have := J5.out.size; omega)
                  have NE := Lib.hid (show p5 ≠ p6 by have := row_lt H6_5.out; omega)
                  have H6_6 := Lib.hid (hk.blk H6_5.out)
                  have H5_6 := Lib.hid hz
                  clear hz hk hp
                  have h5 := H5_6.out
                  have h6 := H6_6.out
                  obtain ⟨wf, hwf, hfb, hfk⟩ := store6 (kH (2 - L1)) (yH (2 - L1)) h5
                  have KF := Lib.hid (J6.out.trans hfk fun k e => .inr (by have := F5.out; omega))
                  have H6F := Lib.hid ((hfk.block p6 (row_lt h6) (fun e => NE.out e.symm)).trans h6)
                  apply Wg.wpAnyP_one (i := 12) (fuel := 1) (by kernel_rfl) rfl rfl
                  refine Wg.plain_store rfl rfl rfl hwf (.inr KF.out) ?_
                  clear hwf
                  have h6f := H6F.out
                  obtain ⟨wg, hwg, hgb, hgk⟩ := store6 (kH (2 - L4)) (yH (2 - L4)) h6f
                  have TI := Lib.hid (show TwoIn w2 wg (.pointer (some ⟨p5, 0, none⟩)) (.pointer (some ⟨p6, 0, none⟩)) (2 - L1) (2 - L4) from ⟨p5, p6, rfl, rfl, NE.out, F5.out, F6.out, (hgk.block p5 (row_lt hfb) (fun e => NE.out e)).trans hfb, hgb, KF.out.trans hgk fun k e => .inr (by have := F6.out; omega)⟩)
                  apply Wg.wpAnyP_one (i := 13) (fuel := 0) (by kernel_rfl) rfl rfl
                  refine Wg.plain_store rfl rfl rfl hwg (.inl (Nat.le_refl _)) ?_
                  refine ⟨by kernel_rfl, ?_⟩
                  go_simp
                  clear hwg hgb hgk hfb hfk h5 h6 h6f
                  apply ‹∀ (a' : Act) (w' : World), Met _ a' w' → _›
                  go_meet
                  exact TI.out
                · skip
                  go_simp
                  refine ⟨J4.out.alloc _, ?_⟩
                  have hz := heap_alloc_new V4 (.cells zero6 26)
                  have hk : Keeps (fun _ => False) V4 (V4.alloc (.cells zero6 26)) := (Keeps.refl _ _).alloc _
                  obtain ⟨p5, hp⟩ : ∃ q, V4.heap.size = q := ⟨_, rfl⟩
                  rw [hp] at hz ⊢
                  generalize V4.alloc (.cells zero6 26) = V5 at *
                  have J5 := Lib.hid (J4.out.trans hk fun _ h => .inl h)
                  have F5 := Lib.hid (show w2.heap.size ≤ p5 by have := J4.out.size; omega)
                  have NE := Lib.hid (show p5 ≠ p6 by have := row_lt H6_4.out; omega)
                  have H6_5 := Lib.hid (hk.blk H6_4.out)
                  have H5_5 := Lib.hid hz
                  clear hz hk hp
                  apply Wg.wpAnyP_one (i := 9) (fuel := 2) (by kernel_rfl) rfl rfl
                  go_simp
                  refine Wg.plain_call (HN4.out V5) ?_
                  rintro e9 V6 ⟨rfl, hk⟩
                  have J6 := Lib.hid (J5.out.trans hk fun _ h => .inl h)
                  have H5_6 := Lib.hid (hk.blk H5_5.out)
                  have H6_6 := Lib.hid (hk.blk H6_5.out)
                  refine ⟨_, rfl, J6.out, ?_⟩
                  clear hk
                  have h5 := H5_6.out
                  have h6 := H6_6.out
                  obtain ⟨wf, hwf, hfb, hfk⟩ := store6 (kH (2 - L1)) (yH (2 - L1)) h5
                  have KF := Lib.hid (J6.out.trans hfk fun k e => .inr (by have := F5.out; omega))
                  have H6F := Lib.hid ((hfk.block p6 (row_lt h6) (fun e => NE.out e.symm)).trans h6)
                  apply Wg.wpAnyP_one (i := 12) (fuel := 1) (by kernel_rfl) rfl rfl
                  refine Wg.plain_store rfl rfl rfl hwf (.inr KF.out) ?_
                  clear hwf
                  have h6f := H6F.out
                  obtain ⟨wg, hwg, hgb, hgk⟩ := store6 (kH (2 - L4)) (yH (2 - L4)) h6f
                  have TI := Lib.hid (show TwoIn w2 wg (.pointer (some ⟨p5, 0, none⟩)) (.pointer (some ⟨p6, 0, none⟩)) (2 - L1) (2 - L4) from ⟨p5, p6, rfl, rfl, NE.out, F5.out, F6.out, (hgk.block p5 (row_lt hfb) (fun e => NE.out e)).trans hfb, hgb, KF.out.trans hgk fun k e => .inr (by have := F6.out; omega)⟩)
                  apply Wg.wpAnyP_one (i := 13) (fuel := 0) (by kernel_rfl) rfl rfl
                  refine Wg.plain_store rfl rfl rfl hwg (.inl (Nat.le_refl _)) ?_
                  refine ⟨by kernel_rfl, ?_⟩
                  go_simp
                  clear hwg hgb hgk hfb hfk h5 h6 h6f
                  apply ‹∀ (a' : Act) (w' : World), Met _ a' w' → _›
                  go_meet
                  exact TI.out
              · skip
                go_simp
                refine ⟨J3.out.alloc _, ?_⟩
                have hz := heap_alloc_new V3 (.cells zero6 26)
                have hk : Keeps (fun _ => False) V3 (V3.alloc (.cells zero6 26)) := (Keeps.refl _ _).alloc _
                obtain ⟨p5, hp⟩ : ∃ q, V3.heap.size = q := ⟨_, rfl⟩
                rw [hp] at hz ⊢
                generalize V3.alloc (.cells zero6 26) = V4 at *
                have J4 := Lib.hid (J3.out.trans hk fun _ h => .inl h)
                have F5 := Lib.hid (show w2.heap.size ≤ p5 by have := J3.out.size; omega)
                have NE := Lib.hid (show p5 ≠ p6 by have := row_lt H6_3.out; omega)
                have H6_4 := Lib.hid (hk.blk H6_3.out)
                have H5_4 := Lib.hid hz
                clear hz hk hp
                apply Wg.wpAnyP_one (i := 8) (fuel := 3) (by kernel_rfl) rfl rfl
                go_simp
                refine Wg.plain_call ((HL4.out V4 (K2.out.trans J4.out fun _ h => .inl h)).frm) ?_
                rintro e9 V5 ⟨rfl, hk⟩
                have J5 := Lib.hid (J4.out.trans hk fun _ h => .inl h)
                have H5_5 := Lib.hid (hk.blk H5_4.out)
                have H6_5 := Lib.hid (hk.blk H6_4.out)
                refine ⟨_, rfl, J5.out, ?_⟩
                clear hk
                apply Wg.wpAnyP_one (i := 9) (fuel := 2) (by kernel_rfl) rfl rfl
                go_simp
                refine Wg.plain_call (HN4.out V5) ?_
                rintro e9 V6 ⟨rfl, hk⟩
                have J6 := Lib.hid (J5.out.trans hk fun _ h => .inl h)
                have H5_6 := Lib.hid (hk.blk H5_5.out)
                have H6_6 := Lib.hid (hk.blk H6_5.out)
                refine ⟨_, rfl, J6.out, ?_⟩
                clear hk
                have h5 := H5_6.out
                have h6 := H6_6.out
                obtain ⟨wf, hwf, hfb, hfk⟩ := store6 (kH (2 - L1)) (yH (2 - L1)) h5
                have KF := Lib.hid (J6.out.trans hfk fun k e => .inr (by have := F5.out; omega))
                have H6F := Lib.hid ((hfk.block p6 (row_lt h6) (fun e => NE.out e.symm)).trans h6)
                apply Wg.wpAnyP_one (i := 12) (fuel := 1) (by kernel_rfl) rfl rfl
                refine Wg.plain_store rfl rfl rfl hwf (.inr KF.out) ?_
                clear hwf
                have h6f := H6F.out
                obtain ⟨wg, hwg, hgb, hgk⟩ := store6 (kH (2 - L4)) (yH (2 - L4)) h6f
                have TI := Lib.hid (show TwoIn w2 wg (.pointer (some ⟨p5, 0, none⟩)) (.pointer (some ⟨p6, 0, none⟩)) (2 - L1) (2 - L4) from ⟨p5, p6, rfl, rfl, NE.out, F5.out, F6.out, (hgk.block p5 (row_lt hfb) (fun e => NE.out e)).trans hfb, hgb, KF.out.trans hgk fun k e => .inr (by have := F6.out; omega)⟩)
                apply Wg.wpAnyP_one (i := 13) (fuel := 0) (by kernel_rfl) rfl rfl
                refine Wg.plain_store rfl rfl rfl hwg (.inl (Nat.le_refl _)) ?_
                refine ⟨by kernel_rfl, ?_⟩
                go_simp
                clear hwg hgb hgk hfb hfk h5 h6 h6f
                apply ‹∀ (a' : Act) (w' : World), Met _ a' w' → _›
                go_meet
                exact TI.out
            · as_aux_lemma =>
              go_simp
              refine ⟨J2.out.alloc _, ?_⟩
              have hz := heap_alloc_new V2 (.cells zero6 26)
              have hk : Keeps (fun _ => False) V2 (V2.alloc (.cells zero6 26)) := (Keeps.refl _ _).alloc _
              obtain ⟨p5, hp⟩ : ∃ q, V2.heap.size = q := ⟨_, rfl⟩
              rw [hp] at hz ⊢
              generalize V2.alloc (.cells zero6 26) = V3 at *
              have J3 := Lib.hid (J2.out.trans hk fun _ h => .inl h)
              have F5 := Lib.hid (show w2.heap.size ≤ p5 by have := J2.out.size; omega)
              have NE := Lib.hid (show p5 ≠ p6 by have := row_lt H6_2.out; omega)
              have H6_3 := Lib.hid (hk.blk H6_2.out)
              have H5_3 := Lib.hid hz
              clear hz hk hp
              apply Wg.wpAnyP_one (i := 4) (fuel := 4) (by kernel_rfl) rfl rfl
              go_simp
              refine Wg.plain_call (HN1.out V3) ?_
              rintro e9 V4 ⟨rfl, hk⟩
              have J4 := Lib.hid (J3.out.trans hk fun _ h => .inl h)
              have H5_4 := Lib.hid (hk.blk H5_3.out)
              have H6_4 := Lib.hid (hk.blk H6_3.out)
              refine ⟨_, rfl, J4.out, ?_⟩
              clear hk
              apply Wg.wpAnyP_one (i := 8) (fuel := 3) (by kernel_rfl) rfl rfl
              go_simp
              refine Wg.plain_call ((HL4.out V4 (K2.out.trans J4.out fun _ h => .inl h)).frm) ?_
              rintro e9 V5 ⟨rfl, hk⟩
              have J5 := Lib.hid (J4.out.trans hk fun _ h => .inl h)
              have H5_5 := Lib.hid (hk.blk H5_4.out)
              have H6_5 := Lib.hid (hk.blk H6_4.out)
              refine ⟨_, rfl, J5.out, ?_⟩
              clear hk
              apply Wg.wpAnyP_one (i := 9) (fuel := 2) (by kernel_rfl) rfl rfl
              go_simp
              refine Wg.plain_call (HN4.out V5) ?_
              rintro e9 V6 ⟨rfl, hk⟩
              have J6 := Lib.hid (J5.out.trans hk fun _ h => .inl h)
              have H5_6 := Lib.hid (hk.blk H5_5.out)
              have H6_6 := Lib.hid (hk.blk H6_5.out)
              refine ⟨_, rfl, J6.out, ?_⟩
              clear hk
              have h5 := H5_6.out
              have h6 := H6_6.out
              obtain ⟨wf, hwf, hfb, hfk⟩ := store6 (kH (2 - L1)) (yH (2 - L1)) h5
              have KF := Lib.hid (J6.out.trans hfk fun k e => .inr (by have := F5.out; omega))
              have H6F := Lib.hid ((hfk.block p6 (row_lt h6) (fun e => NE.out e.symm)).trans h6)
              apply Wg.wpAnyP_one (i := 12) (fuel := 1) (by kernel_rfl) rfl rfl
              refine Wg.plain_store rfl rfl rfl hwf (.inr KF.out) ?_
              clear hwf
              have h6f := H6F.out
              obtain ⟨wg, hwg, hgb, hgk⟩ := store6 (kH (2 - L4)) (yH (2 - L4)) h6f
              have TI := Lib.hid (show TwoIn w2 wg (.pointer (some ⟨p5, 0, none⟩)) (.pointer (some ⟨p6, 0, none⟩)) (2 - L1) (2 - L4) from ⟨p5, p6, rfl, rfl, NE.out, F5.out, F6.out, (hgk.block p5 (row_lt hfb) (fun e => NE.out e)).trans hfb, hgb, KF.out.trans hgk fun k e => .inr (by have := F6.out; omega)⟩)
              apply Wg.wpAnyP_one (i := 13) (fuel := 0) (by kernel_rfl) rfl rfl
              refine Wg.plain_store rfl rfl rfl hwg (.inl (Nat.le_refl _)) ?_
              refine ⟨by kernel_rfl, ?_⟩
              go_simp
              clear hwg hgb hgk hfb hfk h5 h6 h6f
              apply ‹∀ (a' : Act) (w' : World), Met _ a' w' → _›
              go_meet
              exact TI.out
        · as_aux_lemma =>
          go_simp
          refine ⟨KW.out.alloc _, ?_⟩
          have hz := heap_alloc_new W (.cells zero6 26)
          have hk : Keeps (fun _ => False) W (W.alloc (.cells zero6 26)) := (Keeps.refl _ _).alloc _
          obtain ⟨p5, hp⟩ : ∃ q, W.heap.size = q := ⟨_, rfl⟩
          rw [hp] at hz ⊢
          generalize W.alloc (.cells zero6 26) = V1 at *
          have J1 := Lib.hid (KW.out.trans hk fun _ h => .inl h)
          have F5 := Lib.hid (show w2.heap.size ≤ p5 by have := KW.out.size; omega)
          have H5_1 := Lib.hid hz
          clear hz hk hp
          apply Wg.wpAnyP_two (i := 3) (k := 11) (fuel := 6) (by kernel_rfl) rfl rfl rfl rfl
          · as_aux_lemma =>
            go_simp
            refine Wg.plain_call ((HL1.out V1 (K2.out.trans J1.out fun _ h => .inl h)).frm) ?_
            rintro e9 V2 ⟨rfl, hk⟩
            have J2 := Lib.hid (J1.out.trans hk fun _ h => .inl h)
            have H5_2 := Lib.hid (hk.blk H5_1.out)
            refine ⟨_, rfl, J2.out, ?_⟩
            clear hk
            apply Wg.wpAnyP_two (i := 4) (k := 11) (fuel := 5) (by kernel_rfl) rfl rfl rfl rfl
            · as_aux_lemma =>
              go_simp
              refine Wg.plain_call (HN1.out V2) ?_
              rintro e9 V3 ⟨rfl, hk⟩
              have J3 := Lib.hid (J2.out.trans hk fun _ h => .inl h)
              have H5_3 := Lib.hid (hk.blk H5_2.out)
              refine ⟨_, rfl, J3.out, ?_⟩
              clear hk
              apply Wg.wpAnyP_two (i := 8) (k := 11) (fuel := 4) (by kernel_rfl) rfl rfl rfl rfl
              · skip
                go_simp
                refine Wg.plain_call ((HL4.out V3 (K2.out.trans J3.out fun _ h => .inl h)).frm) ?_
                rintro e9 V4 ⟨rfl, hk⟩
                have J4 := Lib.hid (J3.out.trans hk fun _ h => .inl h)
                have H5_4 := Lib.hid (hk.blk H5_3.out)
                refine ⟨_, rfl, J4.out, ?_⟩
                clear hk
                apply Wg.wpAnyP_two (i := 9) (k := 11) (fuel := 3) (by kernel_rfl) rfl rfl rfl rfl
                · skip
                  go_simp
                  refine Wg.plain_call (HN4.out V4) ?_
                  rintro e9 V5 ⟨rfl, hk⟩
                  have J5 := Lib.hid (J4.out.trans hk fun _ h => .inl h)
                  have H5_5 := Lib.hid (hk.blk H5_4.out)
                  refine ⟨_, rfl, J5.out, ?_⟩
                  clear hk
                  apply Wg.wpAnyP_one (i := 11) (fuel := 2) (by kernel_rfl) rfl rfl
                  go_simp
                  refine ⟨J5.out.alloc _, ?_⟩
                  have hz := heap_alloc_new V5 (.cells zero6 26)
                  have hk : Keeps (fun _ => False) V5 (V5.alloc (.cells zero6 26)) := (Keeps.refl _ _).alloc _
                  obtain ⟨p6, hp⟩ : ∃ q, V5.heap.size = q := ⟨_, rfl⟩
                  rw [hp] at hz ⊢
                  generalize V5.alloc (.cells zero6 26) = V6 at *
                  have J6 := Lib.hid (J5.out.trans hk fun _ h => .inl h)
                  have F6 := Lib.hid (show w2.heap.size ≤ p6 by have := J5.out.size; omega)
                  have NE := Lib.hid (show p5 ≠ p6 by have := row_lt H5_5.out; omega)
                  have H5_6 := Lib.hid (hk.blk H5_5.out)
                  have H6_6 := Lib.hid hz
                  clear hz hk hp
                  have h5 := H5_6.out
                  have h6 := H6_6.out
                  obtain ⟨wf, hwf, hfb, hfk⟩ := store6 (kH (2 - L1)) (yH (2 - L1)) h5
                  have KF := Lib.hid (J6.out.trans hfk fun k e => .inr (by have := F5.out; omega))
                  have H6F := Lib.hid ((hfk.block p6 (row_lt h6) (fun e => NE.out e.symm)).trans h6)
                  apply Wg.wpAnyP_one (i := 12) (fuel := 1) (by kernel_rfl) rfl rfl
                  refine Wg.plain_store rfl rfl rfl hwf (.inr KF.out) ?_
                  clear hwf
                  have h6f := H6F.out
                  obtain ⟨wg, hwg, hgb, hgk⟩ := store6 (kH (2 - L4)) (yH (2 - L4)) h6f
                  have TI := Lib.hid (show TwoIn w2 wg (.pointer (some ⟨p5, 0, none⟩)) (.pointer (some ⟨p6, 0, none⟩)) (2 - L1) (2 - L4) from ⟨p5, p6, rfl, rfl, NE.out, F5.out, F6.out, (hgk.block p5 (row_lt hfb) (fun e => NE.out e)).trans hfb, hgb, KF.out.trans hgk fun k e => .inr (by have := F6.out; omega)⟩)
                  apply Wg.wpAnyP_one (i := 13) (fuel := 0) (by kernel_rfl) rfl rfl
                  refine Wg.plain_store rfl rfl rfl hwg (.inl (Nat.le_refl _)) ?_
                  refine ⟨by kernel_rfl, ?_⟩
                  go_simp
                  clear hwg hgb hgk hfb hfk h5 h6 h6f
                  apply ‹∀ (a' : Act) (w' : World), Met _ a' w' → _›
                  go_meet
                  exact TI.out
                · skip
                  go_simp
                  refine ⟨J4.out.alloc _, ?_⟩
                  have hz := heap_alloc_new V4 (.cells zero6 26)
                  have hk : Keeps (fun _ => False) V4 (V4.alloc (.cells zero6 26)) := (Keeps.refl _ _).alloc _
                  obtain ⟨p6, hp⟩ : ∃ q, V4.heap.size = q := ⟨_, rfl⟩
                  rw [hp] at hz ⊢
                  generalize V4.alloc (.cells zero6 26) = V5 at *
                  have J5 := Lib.hid (J4.out.trans hk fun _ h => .inl h)
                  have F6 := Lib.hid (show w2.heap.size ≤ p6 by have := J4.out.size; omega)
                  have NE := Lib.hid (show p5 ≠ p6 by have := row_lt H5_4.out; omega)
                  have H5_5 := Lib.hid (hk.blk H5_4.out)
                  have H6_5 := Lib.hid hz
                  clear hz hk hp
                  apply Wg.wpAnyP_one (i := 9) (fuel := 2) (by kernel_rfl) rfl rfl
                  go_simp
                  refine Wg.plain_call (HN4.out V5) ?_
                  rintro e9 V6 ⟨rfl, hk⟩
                  have J6 := Lib.hid (J5.out.trans hk fun _ h => .inl h)
                  have H5_6 := Lib.hid (hk.blk H5_5.out)
                  have H6_6 := Lib.hid (hk.blk H6_5.out)
                  refine ⟨_, rfl, J6.out, ?_⟩
                  clear hk
                  have h5 := H5_6.out
                  have h6 := H6_6.out
                  obtain ⟨wf, hwf, hfb, hfk⟩ := store6 (kH (2 - L1)) (yH (2 - L1)) h5
                  have KF := Lib.hid (J6.out.trans hfk fun k e => .inr (by have := F5.out; omega))
                  have H6F := Lib.hid ((hfk.block p6 (row_lt h6) (fun e => NE.out e.symm)).trans h6)
                  apply Wg.wpAnyP_one (i := 12) (fuel := 1) (by kernel_rfl) rfl rfl
                  refine Wg.plain_store rfl rfl rfl hwf (.inr KF.out) ?_
                  clear hwf
                  have h6f := H6F.out
                  obtain ⟨wg, hwg, hgb, hgk⟩ := store6 (kH (2 - L4)) (yH (2 - L4)) h6f
                  have TI := Lib.hid (show TwoIn w2 wg (.pointer (some ⟨p5, 0, none⟩)) (.pointer (some ⟨p6, 0, none⟩)) (2 - L1) (2 - L4) from ⟨p5, p6, rfl, rfl, NE.out, F5.out, F6.out, (hgk.block p5 (row_lt hfb) (fun e => NE.out e)).trans hfb, hgb, KF.out.trans hgk fun k e => .inr (by have := F6.out; omega)⟩)
                  apply Wg.wpAnyP_one (i := 13) (fuel := 0) (by kernel_rfl) rfl rfl
                  refine Wg.plain_store rfl rfl rfl hwg (.inl (Nat.le_refl _)) ?_
                  refine ⟨by kernel_rfl, ?_⟩
                  go_simp
                  clear hwg hgb hgk hfb hfk h5 h6 h6f
                  apply ‹∀ (a' : Act) (w' : World), Met _ a' w' → _›
                  go_meet
                  exact TI.out
              · skip
                go_simp
                refine ⟨J3.out.alloc _, ?_⟩
                have hz := heap_alloc_new V3 (.cells zero6 26)
                have hk : Keeps (fun _ => False) V3 (V3.alloc (.cells zero6 26)) := (Keeps.refl _ _).alloc _
                obtain ⟨p6, hp⟩ : ∃ q, V3.heap.size = q := ⟨_, rfl⟩
                rw [hp] at hz ⊢
                generalize V3.alloc (.cells zero6 26) = V4 at *
                have J4 := Lib.hid (J3.out.trans hk fun _ h => .inl h)
                have F6 := Lib.hid (show w2.heap.size ≤ p6 by have := J3.out.size; omega)
                have NE := Lib.hid (show p5 ≠ p6 by have := row_lt H5_3.out; omega)
                have H5_4 := Lib.hid (hk.blk H5_3.out)
                have H6_4 := Lib.hid hz
                clear hz hk hp
                apply Wg.wpAnyP_one (i := 8) (fuel := 3) (by kernel_rfl) rfl rfl
                go_simp
                refine Wg.plain_call ((HL4.out V4 (K2.out.trans J4.out fun _ h => .inl h)).frm) ?_
                rintro e9 V5 ⟨rfl, hk⟩
                have J5 := Lib.hid (J4.out.trans hk fun _ h => .inl h)
                have H5_5 := Lib.hid (hk.blk H5_4.out)
                have H6_5 := Lib.hid (hk.blk H6_4.out)
                refine ⟨_, rfl, J5.out, ?_⟩
                clear hk
                apply Wg.wpAnyP_one (i := 9) (fuel := 2) (by kernel_rfl) rfl rfl
                go_simp
                refine Wg.plain_call (HN4.out V5) ?_
                rintro e9 V6 ⟨rfl, hk⟩
                have J6 := Lib.hid (J5.out.trans hk fun _ h => .inl h)
                have H5_6 := Lib.hid (hk.blk H5_5.out)
                have H6_6 := Lib.hid (hk.blk H6_5.out)
                refine ⟨_, rfl, J6.out, ?_⟩
                clear hk
                have h5 := H5_6.out
                have h6 := H6_6.out
                obtain ⟨wf, hwf, hfb, hfk⟩ := store6 (kH (2 - L1)) (yH (2 - L1)) h5
                have KF := Lib.hid (J6.out.trans hfk fun k e => .inr (by have := F5.out; omega))
                have H6F := Lib.hid ((hfk.block p6 (row_lt h6) (fun e => NE.out e.symm)).trans h6)
                apply Wg.wpAnyP_one (i := 12) (fuel := 1) (by kernel_rfl) rfl rfl
                refine Wg.plain_store rfl rfl rfl hwf (.inr KF.out) ?_
                clear hwf
                have h6f := H6F.out
                obtain ⟨wg, hwg, hgb, hgk⟩ := store6 (kH (2 - L4)) (yH (2 - L4)) h6f
                have TI := Lib.hid (show TwoIn w2 wg (.pointer (some ⟨p5, 0, none⟩)) (.pointer (some ⟨p6, 0, none⟩)) (2 - L1) (2 - L4) from ⟨p5, p6, rfl, rfl, NE.out, F5.out, F6.out, (hgk.block p5 (row_lt hfb) (fun e => NE.out e)).trans hfb, hgb, KF.out.trans hgk fun k e => .inr (by have := F6.out; omega)⟩)
                apply Wg.wpAnyP_one (i := 13) (fuel := 0) (by kernel_rfl) rfl rfl
                refine Wg.plain_store rfl rfl rfl hwg (.inl (Nat.le_refl _)) ?_
                refine ⟨by kernel_rfl, ?_⟩
                go_simp
                clear hwg hgb hgk hfb hfk h5 h6 h6f
                apply ‹∀ (a' : Act) (w' : World), Met _ a' w' → _›
                go_meet
                exact TI.out
            · as_aux_lemma =>
              go_simp
              refine ⟨J2.out.alloc _, ?_⟩
              have hz := heap_alloc_new V2 (.cells zero6 26)
              have hk : Keeps (fun _ => False) V2 (V2.alloc (.cells zero6 26)) := (Keeps.refl _ _).alloc _
              obtain ⟨p6, hp⟩ : ∃ q, V2.heap.size = q := ⟨_, rfl⟩
              rw [hp] at hz ⊢
              generalize V2.alloc (.cells zero6 26) = V3 at *
              have J3 := Lib.hid (J2.out.trans hk fun _ h => .inl h)
              have F6 := Lib.hid (show w2.heap.size ≤ p6 by have := J2.out.size; omega)
              have NE := Lib.hid (show p5 ≠ p6 by have := row_lt H5_2.out; omega)
              have H5_3 := Lib.hid (hk.blk H5_2.out)
              have H6_3 := Lib.hid hz
              clear hz hk hp
              apply Wg.wpAnyP_one (i := 4) (fuel := 4) (by kernel_rfl) rfl rfl
              go_simp
              refine Wg.plain_call (HN1.out V3) ?_
              rintro e9 V4 ⟨rfl, hk⟩
              have J4 := Lib.hid (J3.out.trans hk fun _ h => .inl h)
              have H5_4 := Lib.hid (hk.blk H5_3.out)
              have H6_4 := Lib.hid (hk.blk H6_3.out)
              refine ⟨_, rfl, J4.out, ?_⟩
              clear hk
              apply Wg.wpAnyP_one (i := 8) (fuel := 3) (by kernel_rfl) rfl rfl
              go_simp
              refine Wg.plain_call ((HL4.out V4 (K2.out.trans J4.out fun _ h => .inl h)).frm) ?_
              rintro e9 V5 ⟨rfl, hk⟩
              have J5 := Lib.hid (J4.out.trans hk fun _ h => .inl h)
              have H5_5 := Lib.hid (hk.blk H5_4.out)
              have H6_5 := Lib.hid (hk.blk H6_4.out)
              refine ⟨_, rfl, J5.out, ?_⟩
              clear hk
              apply Wg.wpAnyP_one (i := 9) (fuel := 2) (by kernel_rfl) rfl rfl
              go_simp
              refine Wg.plain_call (HN4.out V5) ?_
              rintro e9 V6 ⟨rfl, hk⟩
              have J6 := Lib.hid (J5.out.trans hk fun _ h => .inl h)
              have H5_6 := Lib.hid (hk.blk H5_5.out)
              have H6_6 := Lib.hid (hk.blk H6_5.out)
              refine ⟨_, rfl, J6.out, ?_⟩
              clear hk
              have h5 := H5_6.out
              have h6 := H6_6.out
              obtain ⟨wf, hwf, hfb, hfk⟩ := store6 (kH (2 - L1)) (yH (2 - L1)) h5
              have KF := Lib.hid (J6.out.trans hfk fun k e => .inr (by have := F5.out; omega))
              have H6F := Lib.hid ((hfk.block p6 (row_lt h6) (fun e => NE.out e.symm)).trans h6)
              apply Wg.wpAnyP_one (i := 12) (fuel := 1) (by kernel_rfl) rfl rfl
              refine Wg.plain_store rfl rfl rfl hwf (.inr KF.out) ?_
              clear hwf
              have h6f := H6F.out
              obtain ⟨wg, hwg, hgb, hgk⟩ := store6 (kH (2 - L4)) (yH (2 - L4)) h6f
              have TI := Lib.hid (show TwoIn w2 wg (.pointer (some ⟨p5, 0, none⟩)) (.pointer (some ⟨p6, 0, none⟩)) (2 - L1) (2 - L4) from ⟨p5, p6, rfl, rfl, NE.out, F5.out, F6.out, (hgk.block p5 (row_lt hfb) (fun e => NE.out e)).trans hfb, hgb, KF.out.trans hgk fun k e => .inr (by have := F6.out; omega)⟩)
              apply Wg.wpAnyP_one (i := 13) (fuel := 0) (by kernel_rfl) rfl rfl
              refine Wg.plain_store rfl rfl rfl hwg (.inl (Nat.le_refl _)) ?_
              refine ⟨by kernel_rfl, ?_⟩
              go_simp
              clear hwg hgb hgk hfb hfk h5 h6 h6f
              apply ‹∀ (a' : Act) (w' : World), Met _ a' w' → _›
              go_meet
              exact TI.out
          · as_aux_lemma =>
            go_simp
            refine ⟨J1.out.alloc _, ?_⟩
            have hz := heap_alloc_new V1 (.cells zero6 26)
            have hk : Keeps (fun _ => False) V1 (V1.alloc (.cells zero6 26)) := (Keeps.refl _ _).alloc _
            obtain ⟨p6, hp⟩ : ∃ q, V1.heap.size = q := ⟨_, rfl⟩
            rw [hp] at hz ⊢
            generalize V1.alloc (.cells zero6 26) = V2 at *
            have J2 := Lib.hid (J1.out.trans hk fun _ h => .inl h)
            have F6 := Lib.hid (show w2.heap.size ≤ p6 by have := J1.out.size; omega)
            have NE := Lib.hid (show p5 ≠ p6 by have := row_lt H5_1.out; omega)
            have H5_2 := Lib.hid (hk.blk H5_1.out)
            have H6_2 := Lib.hid hz
            clear hz hk hp
            apply Wg.wpAnyP_one (i := 3) (fuel := 5) (by kernel_rfl) rfl rfl
            go_simp
            refine Wg.plain_call ((HL1.out V2 (K2.out.trans J2.out fun _ h => .inl h)).frm) ?_
            rintro e9 V3 ⟨rfl, hk⟩
            have J3 := Lib.hid (J2.out.trans hk fun _ h => .inl h)
            have H5_3 := Lib.hid (hk.blk H5_2.out)
            have H6_3 := Lib.hid (hk.blk H6_2.out)
            refine ⟨_, rfl, J3.out, ?_⟩
            clear hk
            apply Wg.wpAnyP_one (i := 4) (fuel := 4) (by kernel_rfl) rfl rfl
            go_simp
            refine Wg.plain_call (HN1.out V3) ?_
            rintro e9 V4 ⟨rfl, hk⟩
            have J4 := Lib.hid (J3.out.trans hk fun _ h => .inl h)
            have H5_4 := Lib.hid (hk.blk H5_3.out)
            have H6_4 := Lib.hid (hk.blk H6_3.out)
            refine ⟨_, rfl, J4.out, ?_⟩
            clear hk
            apply Wg.wpAnyP_one (i := 8) (fuel := 3) (by kernel_rfl) rfl rfl
            go_simp
            refine Wg.plain_call ((HL4.out V4 (K2.out.trans J4.out fun _ h => .inl h)).frm) ?_
            rintro e9 V5 ⟨rfl, hk⟩
            have J5 := Lib.hid (J4.out.trans hk fun _ h => .inl h)
            have H5_5 := Lib.hid (hk.blk H5_4.out)
            have H6_5 := Lib.hid (hk.blk H6_4.out)
            refine ⟨_, rfl, J5.out, ?_⟩
            clear hk
            apply Wg.wpAnyP_one (i := 9) (fuel := 2) (by kernel_rfl) rfl rfl
            go_simp
            refine Wg.plain_call (HN4.out V5) ?_
            rintro e9 V6 ⟨rfl, hk⟩
            have J6 := Lib.hid (J5.out.trans hk fun _ h => .inl h)
            have H5_6 := Lib.hid (hk.blk H5_5.out)
            have H6_6 := Lib.hid (hk.blk H6_5.out)
            refine ⟨_, rfl, J6.out, ?_⟩
            clear hk
            have h5 := H5_6.out
            have h6 := H6_6.out
            obtain ⟨wf, hwf, hfb, hfk⟩ := store6 (kH (2 - L1)) (yH (2 - L1)) h5
            have KF := Lib.hid (J6.out.trans hfk fun k e => .inr (by have := F5.out; omega))
            have H6F := Lib.hid ((hfk.block p6 (row_lt h6) (fun e => NE.out e.symm)).trans h6)
            apply Wg.wpAnyP_one (i := 12) (fuel := 1) (by kernel_rfl) rfl rfl
            refine Wg.plain_store rfl rfl rfl hwf (.inr KF.out) ?_
            clear hwf
            have h6f := H6F.out
            obtain ⟨wg, hwg, hgb, hgk⟩ := store6 (kH (2 - L4)) (yH (2 - L4)) h6f
            have TI := Lib.hid (show TwoIn w2 wg (.pointer (some ⟨p5, 0, none⟩)) (.pointer (some ⟨p6, 0, none⟩)) (2 - L1) (2 - L4) from ⟨p5, p6, rfl, rfl, NE.out, F5.out, F6.out, (hgk.block p5 (row_lt hfb) (fun e => NE.out e)).trans hfb, hgb, KF.out.trans hgk fun k e => .inr (by have := F6.out; omega)⟩)
            apply Wg.wpAnyP_one (i := 13) (fuel := 0) (by kernel_rfl) rfl rfl
            refine Wg.plain_store rfl rfl rfl hwg (.inl (Nat.le_refl _)) ?_
            refine ⟨by kernel_rfl, ?_⟩
            go_simp
            clear hwg hgb hgk hfb hfk h5 h6 h6f
            apply ‹∀ (a' : Act) (w' : World), Met _ a' w' → _›
            go_meet
            exact TI.out
        · as_aux_lemma =>
          go_simp
          refine ⟨KW.out.alloc _, ?_⟩
          have hz := heap_alloc_new W (.cells zero6 26)
          have hk : Keeps (fun _ => False) W (W.alloc (.cells zero6 26)) := (Keeps.refl _ _).alloc _
          obtain ⟨p6, hp⟩ : ∃ q, W.heap.size = q := ⟨_, rfl⟩
          rw [hp] at hz ⊢
          generalize W.alloc (.cells zero6 26) = V1 at *
          have J1 := Lib.hid (KW.out.trans hk fun _ h => .inl h)
          have F6 := Lib.hid (show w2.heap.size ≤ p6 by have := KW.out.size; omega)
          have H6_1 := Lib.hid hz
          clear hz hk hp
          apply Wg.wpAnyP_two (i := 3) (k := 10) (fuel := 6) (by kernel_rfl) rfl rfl rfl rfl
          · as_aux_lemma =>
            go_simp
            refine Wg.plain_call ((HL1.out V1 (K2.out.trans J1.out fun _ h => .inl h)).frm) ?_
            rintro e9 V2 ⟨rfl, hk⟩
            have J2 := Lib.hid (J1.out.trans hk fun _ h => .inl h)
            have H6_2 := Lib.hid (hk.blk H6_1.out)
            refine ⟨_, rfl, J2.out, ?_⟩
            clear hk
            apply Wg.wpAnyP_two (i := 4) (k := 10) (fuel := 5) (by kernel_rfl) rfl rfl rfl rfl
            · as_aux_lemma =>
              go_simp
              refine Wg.plain_call (HN1.out V2) ?_
              rintro e9 V3 ⟨rfl, hk⟩
              have J3 := Lib.hid (J2.out.trans hk fun _ h => .inl h)
              have H6_3 := Lib.hid (hk.blk H6_2.out)
              refine ⟨_, rfl, J3.out, ?_⟩
              clear hk
              apply Wg.wpAnyP_two (i := 8) (k := 10) (fuel := 4) (by kernel_rfl) rfl rfl rfl rfl
              · skip
                go_simp
                refine Wg.plain_call ((HL4.out V3 (K2.out.trans J3.out fun _ h => .inl h)).frm) ?_
                rintro e9 V4 ⟨rfl, hk⟩
                have J4 := Lib.hid (J3.out.trans hk fun _ h => .inl h)
                have H6_4 := Lib.hid (hk.blk H6_3.out)
                refine ⟨_, rfl, J4.out, ?_⟩
                clear hk
                apply Wg.wpAnyP_two (i := 9) (k := 10) (fuel := 3) (by kernel_rfl) rfl rfl rfl rfl
                · skip
                  go_simp
                  refine Wg.plain_call (HN4.out V4) ?_
                  rintro e9 V5 ⟨rfl, hk⟩
                  have J5 := Lib.hid (J4.out.trans hk fun _ h => .inl h)
                  have H6_5 := Lib.hid (hk.blk H6_4.out)
                  refine ⟨_, rfl, J5.out, ?_⟩
                  clear hk
                  apply Wg.wpAnyP_one (i := 10) (fuel := 2) (by kernel_rfl) rfl rfl
                  go_simp
                  refine ⟨J5.out.alloc _, ?_⟩
                  have hz := heap_alloc_new V5 (.cells zero6 26)
                  have hk : Keeps (fun _ => False) V5 (V5.alloc (.cells zero6 26)) := (Keeps.refl _ _).alloc _
                  obtain ⟨p5, hp⟩ : ∃ q, V5.heap.size = q := ⟨_, rfl⟩
                  rw [hp] at hz ⊢
                  generalize V5.alloc (.cells zero6 26) = V6 at *
                  have J6 := Lib.hid (J5.out.trans hk fun _ h => .inl h)
                  have F5 := Lib.hid (show w2.heap.size ≤ p5 by have := J5.out.size; omega)
                  have NE := Lib.hid (show p5 ≠ p6 by have := row_lt H6_5.out; omega)
                  have H6_6 := Lib.hid (hk.blk H6_5.out)
                  have H5_6 := Lib.hid hz
                  clear hz hk hp
                  have h5 := H5_6.out
                  have h6 := H6_6.out
                  obtain ⟨wf, hwf, hfb, hfk⟩ := store6 (kH (2 - L1)) (yH (2 - L1)) h5
                  have KF := Lib.hid (J6.out.trans hfk fun k e => .inr (by have := F5.out; omega))
                  have H6F := Lib.hid ((hfk.block p6 (row_lt h6) (fun e => NE.out e.symm)).trans h6)
                  apply Wg.wpAnyP_one (i := 12) (fuel := 1) (by kernel_rfl) rfl rfl
                  refine Wg.plain_store rfl rfl rfl hwf (.inr KF.out) ?_
                  clear hwf
                  have h6f := H6F.out
                  obtain ⟨wg, hwg, hgb, hgk⟩ := store6 (kH (2 - L4)) (yH (2 - L4)) h6f
                  have TI := Lib.hid (show TwoIn w2 wg (.pointer (some ⟨p5, 0, none⟩)) (.pointer (some ⟨p6, 0, none⟩)) (2 - L1) (2 - L4) from ⟨p5, p6, rfl, rfl, NE.out, F5.out, F6.out, (hgk.block p5 (row_lt hfb) (fun e => NE.out e)).trans hfb, hgb, KF.out.trans hgk fun k e => .inr (by have := F6.out; omega)⟩)
                  apply Wg.wpAnyP_one (i := 13) (fuel := 0) (by kernel_rfl) rfl rfl
                  refine Wg.plain_store rfl rfl rfl hwg (.inl (Nat.le_refl _)) ?_
                  refine ⟨by kernel_rfl, ?_⟩
                  go_simp
                  clear hwg hgb hgk hfb hfk h5 h6 h6f
                  apply ‹∀ (a' : Act) (w' : World), Met _ a' w' → _›
                  go_meet
                  exact TI.out
                · skip
                  go_simp
                  refine ⟨J4.out.alloc _, ?_⟩
                  have hz := heap_alloc_new V4 (.cells zero6 26)
                  have hk : Keeps (fun _ => False) V4 (V4.alloc (.cells zero6 26)) := (Keeps.refl _ _).alloc _
                  obtain ⟨p5, hp⟩ : ∃ q, V4.heap.size = q := ⟨_, rfl⟩
                  rw [hp] at hz ⊢
                  generalize V4.alloc (.cells zero6 26) = V5 at *
                  have J5 := Lib.hid (J4.out.trans hk fun _ h => .inl h)
                  have F5 := Lib.hid (show w2.heap.size ≤ p5 by have := J4.out.size; omega)
                  have NE := Lib.hid (show p5 ≠ p6 by have := row_lt H6_4.out; omega)
                  have H6_5 := Lib.hid (hk.blk H6_4.out)
                  have H5_5 := Lib.hid hz
                  clear hz hk hp
                  apply Wg.wpAnyP_one (i := 9) (fuel := 2) (by kernel_rfl) rfl rfl
                  go_simp
                  refine Wg.plain_call (HN4.out V5) ?_
                  rintro e9 V6 ⟨rfl, hk⟩
                  have J6 := Lib.hid (J5.out.trans hk fun _ h => .inl h)
                  have H5_6 := Lib.hid (hk.blk H5_5.out)
                  have H6_6 := Lib.hid (hk.blk H6_5.out)
                  refine ⟨_, rfl, J6.out, ?_⟩
                  clear hk
                  have h5 := H5_6.out
                  have h6 := H6_6.out
                  obtain ⟨wf, hwf, hfb, hfk⟩ := store6 (kH (2 - L1)) (yH (2 - L1)) h5
                  have KF := Lib.hid (J6.out.trans hfk fun k e => .inr (by have := F5.out; omega))
                  have H6F := Lib.hid ((hfk.block p6 (row_lt h6) (fun e => NE.out e.symm)).trans h6)
                  apply Wg.wpAnyP_one (i := 12) (fuel := 1) (by kernel_rfl) rfl rfl
                  refine Wg.plain_store rfl rfl rfl hwf (.inr KF.out) ?_
                  clear hwf
                  have h6f := H6F.out
                  obtain ⟨wg, hwg, hgb, hgk⟩ := store6 (kH (2 - L4)) (yH (2 - L4)) h6f
                  have TI := Lib.hid (show TwoIn w2 wg (.pointer (some ⟨p5, 0, none⟩)) (.pointer (some ⟨p6, 0, none⟩)) (2 - L1) (2 - L4) from ⟨p5, p6, rfl, rfl, NE.out, F5.out, F6.out, (hgk.block p5 (row_lt hfb) (fun e => NE.out e)).trans hfb, hgb, KF.out.trans hgk fun k e => .inr (by have := F6.out; omega)⟩)
                  apply Wg.wpAnyP_one (i := 13) (fuel := 0) (by kernel_rfl) rfl rfl
                  refine Wg.plain_store rfl rfl rfl hwg (.inl (Nat.le_refl _)) ?_
                  refine ⟨by kernel_rfl, ?_⟩
                  go_simp
                  clear hwg hgb hgk hfb hfk h5 h6 h6f
                  apply ‹∀ (a' : Act) (w' : World), Met _ a' w' → _›
                  go_meet
                  exact TI.out
              · skip
                go_simp
                refine ⟨J3.out.alloc _, ?_⟩
                have hz := heap_alloc_new V3 (.cells zero6 26)
                have hk : Keeps (fun _ => False) V3 (V3.alloc (.cells zero6 26)) := (Keeps.refl _ _).alloc _
                obtain ⟨p5, hp⟩ : ∃ q, V3.heap.size = q := ⟨_, rfl⟩
                rw [hp] at hz ⊢
                generalize V3.alloc (.cells zero6 26) = V4 at *
                have J4 := Lib.hid (J3.out.trans hk fun _ h => .inl h)
                have F5 := Lib.hid (show w2.heap.size ≤ p5 by have := J3.out.size; omega)
                have NE := Lib.hid (show p5 ≠ p6 by have := row_lt H6_3.out; omega)
                have H6_4 := Lib.hid (hk.blk H6_3.out)
                have H5_4 := Lib.hid hz
                clear hz hk hp
                apply Wg.wpAnyP_one (i := 8) (fuel := 3) (by kernel_rfl) rfl rfl
                go_simp
                refine Wg.plain_call ((HL4.out V4 (K2.out.trans J4.out fun _ h => .inl h)).frm) ?_
                rintro e9 V5 ⟨rfl, hk⟩
                have J5 := Lib.hid (J4.out.trans hk fun _ h => .inl h)
                have H5_5 := Lib.hid (hk.blk H5_4.out)
                have H6_5 := Lib.hid (hk.blk H6_4.out)
                refine ⟨_, rfl, J5.out, ?_⟩
                clear hk
                apply Wg.wpAnyP_one (i := 9) (fuel := 2) (by kernel_rfl) rfl rfl
                go_simp
                refine Wg.plain_call (HN4.out V5) ?_
                rintro e9 V6 ⟨rfl, hk⟩
                have J6 := Lib.hid (J5.out.trans hk fun _ h => .inl h)
                have H5_6 := Lib.hid (hk.blk H5_5.out)
                have H6_6 := Lib.hid (hk.blk H6_5.out)
                refine ⟨_, rfl, J6.out, ?_⟩
                clear hk
                have h5 := H5_6.out
                have h6 := H6_6.out
                obtain ⟨wf, hwf, hfb, hfk⟩ := store6 (kH (2 - L1)) (yH (2 - L1)) h5
                have KF := Lib.hid (J6.out.trans hfk fun k e => .inr (by have := F5.out; omega))
                have H6F := Lib.hid ((hfk.block p6 (row_lt h6) (fun e => NE.out e.symm)).trans h6)
                apply Wg.wpAnyP_one (i := 12) (fuel := 1) (by kernel_rfl) rfl rfl
                refine Wg.plain_store rfl rfl rfl hwf (.inr KF.out) ?_
                clear hwf
                have h6f := H6F.out
                obtain ⟨wg, hwg, hgb, hgk⟩ := store6 (kH (2 - L4)) (yH (2 - L4)) h6f
                have TI := Lib.hid (show TwoIn w2 wg (.pointer (some ⟨p5, 0, none⟩)) (.pointer (some ⟨p6, 0, none⟩)) (2 - L1) (2 - L4) from ⟨p5, p6, rfl, rfl, NE.out, F5.out, F6.out, (hgk.block p5 (row_lt hfb) (fun e => NE.out e)).trans hfb, hgb, KF.out.trans hgk fun k e => .inr (by have := F6.out; omega)⟩)
                apply Wg.wpAnyP_one (i := 13) (fuel := 0) (by kernel_rfl) rfl rfl
                refine Wg.plain_store rfl rfl rfl hwg (.inl (Nat.le_refl _)) ?_
                refine ⟨by kernel_rfl, ?_⟩
                go_simp
                clear hwg hgb hgk hfb hfk h5 h6 h6f
                apply ‹∀ (a' : Act) (w' : World), Met _ a' w' → _›
                go_meet
                exact TI.out
            · as_aux_lemma =>
              go_simp
              refine ⟨J2.out.alloc _, ?_⟩
              have hz := heap_alloc_new V2 (.cells zero6 26)
              have hk : Keeps (fun _ => False) V2 (V2.alloc (.cells zero6 26)) := (Keeps.refl _ _).alloc _
              obtain ⟨p5, hp⟩ : ∃ q, V2.heap.size = q := ⟨_, rfl⟩
              rw [hp] at hz ⊢
              generalize V2.alloc (.cells zero6 26) = V3 at *
              have J3 := Lib.hid (J2.out.trans hk fun _ h => .inl h)
              have F5 := Lib.hid (show w2.heap.size ≤ p5 by have := J2.out.size; omega)
              have NE := Lib.hid (show p5 ≠ p6 by have := row_lt H6_2.out; omega)
              have H6_3 := Lib.hid (hk.blk H6_2.out)
              have H5_3 := Lib.hid hz
              clear hz hk hp
              apply Wg.wpAnyP_one (i := 4) (fuel := 4) (by kernel_rfl) rfl rfl
              go_simp
              refine Wg.plain_call (HN1.out V3) ?_
              rintro e9 V4 ⟨rfl, hk⟩
              have J4 := Lib.hid (J3.out.trans hk fun _ h => .inl h)
              have H5_4 := Lib.hid (hk.blk H5_3.out)
              have H6_4 := Lib.hid (hk.blk H6_3.out)
              refine ⟨_, rfl, J4.out, ?_⟩
              clear hk
              apply Wg.wpAnyP_one (i := 8) (fuel := 3) (by kernel_rfl) rfl rfl
              go_simp
              refine Wg.plain_call ((HL4.out V4 (K2.out.trans J4.out fun _ h => .inl h)).frm) ?_
              rintro e9 V5 ⟨rfl, hk⟩
              have J5 := Lib.hid (J4.out.trans hk fun _ h => .inl h)
              have H5_5 := Lib.hid (hk.blk H5_4.out)
              have H6_5 := Lib.hid (hk.blk H6_4.out)
              refine ⟨_, rfl, J5.out, ?_⟩
              clear hk
              apply Wg.wpAnyP_one (i := 9) (fuel := 2) (by kernel_rfl) rfl rfl
              go_simp
              refine Wg.plain_call (HN4.out V5) ?_
              rintro e9 V6 ⟨rfl, hk⟩
              have J6 := Lib.hid (J5.out.trans hk fun _ h => .inl h)
              have H5_6 := Lib.hid (hk.blk H5_5.out)
              have H6_6 := Lib.hid (hk.blk H6_5.out)
              refine ⟨_, rfl, J6.out, ?_⟩
              clear hk
              have h5 := H5_6.out
              have h6 := H6_6.out
              obtain ⟨wf, hwf, hfb, hfk⟩ := store6 (kH (2 - L1)) (yH (2 - L1)) h5
              have KF := Lib.hid (J6.out.trans hfk fun k e => .inr (by have := F5.out; omega))
              have H6F := Lib.hid ((hfk.block p6 (row_lt h6) (fun e => NE.out e.symm)).trans h6)
              apply Wg.wpAnyP_one (i := 12) (fuel := 1) (by kernel_rfl) rfl rfl
              refine Wg.plain_store rfl rfl rfl hwf (.inr KF.out) ?_
              clear hwf
              have h6f := H6F.out
              obtain ⟨wg, hwg, hgb, hgk⟩ := store6 (kH (2 - L4)) (yH (2 - L4)) h6f
              have TI := Lib.hid (show TwoIn w2 wg (.pointer (some ⟨p5, 0, none⟩)) (.pointer (some ⟨p6, 0, none⟩)) (2 - L1) (2 - L4) from ⟨p5, p6, rfl, rfl, NE.out, F5.out, F6.out, (hgk.block p5 (row_lt hfb) (fun e => NE.out e)).trans hfb, hgb, KF.out.trans hgk fun k e => .inr (by have := F6.out; omega)⟩)
              apply Wg.wpAnyP_one (i := 13) (fuel := 0) (by kernel_rfl) rfl rfl
              refine Wg.plain_store rfl rfl rfl hwg (.inl (Nat.le_refl _)) ?_
              refine ⟨by kernel_rfl, ?_⟩
              go_simp
              clear hwg hgb hgk hfb hfk h5 h6 h6f
              apply ‹∀ (a' : Act) (w' : World), Met _ a' w' → _›
              go_meet
              exact TI.out
          · as_aux_lemma =>
            go_simp
            refine ⟨J1.out.alloc _, ?_⟩
            have hz := heap_alloc_new V1 (.cells zero6 26)
            have hk : Keeps (fun _ => False) V1 (V1.alloc (.cells zero6 26)) := (Keeps.refl _ _).alloc _
            obtain ⟨p5, hp⟩ : ∃ q, V1.heap.size = q := ⟨_, rfl⟩
            rw [hp] at hz ⊢
            generalize V1.alloc (.cells zero6 26) = V2 at *
            have J2 := Lib.hid (J1.out.trans hk fun _ h => .inl h)
            have F5 := Lib.hid (show w2.heap.size ≤ p5 by have := J1.out.size; omega)
            have NE := Lib.hid (show p5 ≠ p6 by have := row_lt H6_1.out; omega)
            have H6_2 := Lib.hid (hk.blk H6_1.out)
            have H5_2 := Lib.hid hz
            clear hz hk hp
            apply Wg.wpAnyP_one (i := 3) (fuel := 5) (by kernel_rfl) rfl rfl
            go_simp
            refine Wg.plain_call ((HL1.out V2 (K2.out.trans J2.out fun _ h => .inl h)).frm) ?_
            rintro e9 V3 ⟨rfl, hk⟩
            have J3 := Lib.hid (J2.out.trans hk fun _ h => .inl h)
            have H5_3 := Lib.hid (hk.blk H5_2.out)
            have H6_3 := Lib.hid (hk.blk H6_2.out)
            refine ⟨_, rfl, J3.out, ?_⟩
            clear hk
            apply Wg.wpAnyP_one (i := 4) (fuel := 4) (by kernel_rfl) rfl rfl
            go_simp
            refine Wg.plain_call (HN1.out V3) ?_
            rintro e9 V4 ⟨rfl, hk⟩
            have J4 := Lib.hid (J3.out.trans hk fun _ h => .inl h)
            have H5_4 := Lib.hid (hk.blk H5_3.out)
            have H6_4 := Lib.hid (hk.blk H6_3.out)
            refine ⟨_, rfl, J4.out, ?_⟩
            clear hk
            apply Wg.wpAnyP_one (i := 8) (fuel := 3) (by kernel_rfl) rfl rfl
            go_simp
            refine Wg.plain_call ((HL4.out V4 (K2.out.trans J4.out fun _ h => .inl h)).frm) ?_
            rintro e9 V5 ⟨rfl, hk⟩
            have J5 := Lib.hid (J4.out.trans hk fun _ h => .inl h)
            have H5_5 := Lib.hid (hk.blk H5_4.out)
            have H6_5 := Lib.hid (hk.blk H6_4.out)
            refine ⟨_, rfl, J5.out, ?_⟩
            clear hk
            apply Wg.wpAnyP_one (i := 9) (fuel := 2) (by kernel_rfl) rfl rfl
            go_simp
            refine Wg.plain_call (HN4.out V5) ?_
            rintro e9 V6 ⟨rfl, hk⟩
            have J6 := Lib.hid (J5.out.trans hk fun _ h => .inl h)
            have H5_6 := Lib.hid (hk.blk H5_5.out)
            have H6_6 := Lib.hid (hk.blk H6_5.out)
            refine ⟨_, rfl, J6.out, ?_⟩
            clear hk
            have h5 := H5_6.out
            have h6 := H6_6.out
            obtain ⟨wf, hwf, hfb, hfk⟩ := store6 (kH (2 - L1)) (yH (2 - L1)) h5
            have KF := Lib.hid (J6.out.trans hfk fun k e => .inr (by have := F5.out; omega))
            have H6F := Lib.hid ((hfk.block p6 (row_lt h6) (fun e => NE.out e.symm)).trans h6)
            apply Wg.wpAnyP_one (i := 12) (fuel := 1) (by kernel_rfl) rfl rfl
            refine Wg.plain_store rfl rfl rfl hwf (.inr KF.out) ?_
            clear hwf
            have h6f := H6F.out
            obtain ⟨wg, hwg, hgb, hgk⟩ := store6 (kH (2 - L4)) (yH (2 - L4)) h6f
            have TI := Lib.hid (show TwoIn w2 wg (.pointer (some ⟨p5, 0, none⟩)) (.pointer (some ⟨p6, 0, none⟩)) (2 - L1) (2 - L4) from ⟨p5, p6, rfl, rfl, NE.out, F5.out, F6.out, (hgk.block p5 (row_lt hfb) (fun e => NE.out e)).trans hfb, hgb, KF.out.trans hgk fun k e => .inr (by have := F6.out; omega)⟩)
            apply Wg.wpAnyP_one (i := 13) (fuel := 0) (by kernel_rfl) rfl rfl
            refine Wg.plain_store rfl rfl rfl hwg (.inl (Nat.le_refl _)) ?_
            refine ⟨by kernel_rfl, ?_⟩
            go_simp
            clear hwg hgb hgk hfb hfk h5 h6 h6f
            apply ‹∀ (a' : Act) (w' : World), Met _ a' w' → _›
            go_meet
            exact TI.out
    case rest =>
      obtain ⟨p5, p6, rfl, rfl, hne, f5, f6, h5, h6, hk⟩ := hcut
      have KC := Lib.hid hk; have NE := Lib.hid hne; have F5 := Lib.hid f5; have F6 := Lib.hid f6; have H5 := Lib.hid h5; have H6 := Lib.hid h6
      clear hk hne f5 f6 h5 h6
      obtain ⟨t13, t14, _⟩ := (HAT.out wc KC.out).rest
      simp only [Nat.zero_add] at t13 t14
      cases oa <;> cases ob
      · as_aux_lemma =>
        obtain ⟨y0, y1, y2, y3, y4, y5, _⟩ := cells6 H5.out
        obtain ⟨x0, x1, x2, x3, x4, x5, _⟩ := cells6 H6.out
        have HA := Lib.hid (fun X : World => HAND.out (2 - L1) (2 - L4) (by have := BD1.out; have := BD2.out; omega) (by have := BD1.out; have := BD2.out; omega) (by have := BD3.out; have := BD4.out; omega) (by have := BD3.out; have := BD4.out; omega) X)
        generalize hr : min (2 - L1) (2 - L4) = r at *
        go_wp2_with (go_at_call 28; ((with_reducible refine (HA.out _).mono ?_); rintro e w9 ⟨rfl, hk⟩; have K9 := Lib.hid (KC.out.trans hk fun _ h => .inl h); clear hk t13 t14 y0 y1 y2 y3 y4 y5 x0 x1 x2 x3 x4 x5; have hb9 := K9.out.blk BP.out; (obtain ⟨z0, z1, z2, z3, z4, z5, zf⟩ := cells6 hb9); have zl := row_lt hb9; (obtain ⟨wf, hwf, hfb, hfk⟩ := put6 (v0 := .int .i64 (kH r)) (v1 := .bool (yH r)) (v2 := .int .i64 0) (v3 := .int .i64 0) (v4 := .string ⟨#[]⟩) (v5 := .slice none 0 0) hb9); (obtain ⟨q0, q1, q2, q3, q4, q5, qf⟩ := cells6 hfb); clear hb9))
        (try simp only [Exit.inBlock, Exit.then])
        refine bodyPost_ret (v := .agg #[.int .i64 (kH r), .bool (yH r), .int .i64 0, .int .i64 0, .string ⟨#[]⟩, .slice none 0 0]) (by simp [results, Tryz.results16, go_sem, q0, q1, q2, q3, q4, q5]) rfl ?_
        refine ⟨?_, handed K2.out K9.out hfk HPL.out⟩
        rw [hC_frm]
      · as_aux_lemma =>
        obtain ⟨b1, b2, b3, b4, b5, b6⟩ := (HAT.out wc KC.out).partB
        obtain ⟨v0, v1, v2, v3, v4, v5, _⟩ := HVC.out wc KC.out
        simp only [Nat.zero_add] at b1 b2 b3 b4 b5 b6
        go_upto_region 18 with (go_at_call 26; ((with_reducible refine ((HL3.out _ (K2.out.trans KC.out fun _ h => .inl h)).frm).mono ?_); rintro e x6 ⟨rfl, hk⟩; have KX6 := Lib.hid (KC.out.trans hk fun _ h => .inl h); have hq := hk.blk H6.out; have HO := Lib.hid (hk.blk H5.out); clear hk t13 t14 v0 v1 v2 v3 v4 v5 b1 b2 b3 b4 b5 b6; (obtain ⟨z0, z1, z2, z3, z4, z5, zf⟩ := cells6 hq); have zl := row_lt hq; (obtain ⟨wf6, hwf, hfb, hfk⟩ := put6 (v0 := .int .i64 (kH L3)) (v1 := .bool (yH L3)) (v2 := .int .i64 0) (v3 := .int .i64 0) (v4 := .string ⟨#[]⟩) (v5 := .slice none 0 0) hq)))
        have KY6 := Lib.hid (KX6.out.trans hfk fun k e => .inr (by have := F6.out; omega))
        have G6 := Lib.hid hfb
        have G5_6 := Lib.hid ((hfk.block p5 (row_lt HO.out) (by have := NE.out; omega)).trans HO.out)
        clear hq HO z0 z1 z2 z3 z4 z5 zf zl hwf hfb hfk
        obtain ⟨t13, t14, _⟩ := (HAT.out wf6 KY6.out).rest
        simp only [Nat.zero_add] at t13 t14
        obtain ⟨y0, y1, y2, y3, y4, y5, _⟩ := cells6 G5_6.out
        obtain ⟨x0, x1, x2, x3, x4, x5, _⟩ := cells6 G6.out
        have HA := Lib.hid (fun X : World => HAND.out (2 - L1) (L3) (by have := BD1.out; have := BD2.out; omega) (by have := BD1.out; have := BD2.out; omega) (by have := BD3.out; have := BD4.out; omega) (by have := BD3.out; have := BD4.out; omega) X)
        generalize hr : min (2 - L1) (L3) = r at *
        go_wp2_with (go_at_call 28; ((with_reducible refine (HA.out _).mono ?_); rintro e w9 ⟨rfl, hk⟩; have K9 := Lib.hid (KY6.out.trans hk fun _ h => .inl h); clear hk t13 t14 y0 y1 y2 y3 y4 y5 x0 x1 x2 x3 x4 x5; have hb9 := K9.out.blk BP.out; (obtain ⟨z0, z1, z2, z3, z4, z5, zf⟩ := cells6 hb9); have zl := row_lt hb9; (obtain ⟨wf, hwf, hfb, hfk⟩ := put6 (v0 := .int .i64 (kH r)) (v1 := .bool (yH r)) (v2 := .int .i64 0) (v3 := .int .i64 0) (v4 := .string ⟨#[]⟩) (v5 := .slice none 0 0) hb9); (obtain ⟨q0, q1, q2, q3, q4, q5, qf⟩ := cells6 hfb); clear hb9))
        (try simp only [Exit.inBlock, Exit.then])
        refine bodyPost_ret (v := .agg #[.int .i64 (kH r), .bool (yH r), .int .i64 0, .int .i64 0, .string ⟨#[]⟩, .slice none 0 0]) (by simp [results, Tryz.results16, go_sem, q0, q1, q2, q3, q4, q5]) rfl ?_
        refine ⟨?_, handed K2.out K9.out hfk HPL.out⟩
        rw [hC_frm]
      · as_aux_lemma =>
        obtain ⟨a1, a2, a3, a4, a5, a6⟩ := (HAT.out wc KC.out).partA
        obtain ⟨v0, v1, v2, v3, v4, v5, _⟩ := HVC.out wc KC.out
        simp only [Nat.zero_add] at a1 a2 a3 a4 a5 a6
        go_upto_region 16 with (go_at_call 26; ((with_reducible refine ((HL2.out _ (K2.out.trans KC.out fun _ h => .inl h)).frm).mono ?_); rintro e x5 ⟨rfl, hk⟩; have KX5 := Lib.hid (KC.out.trans hk fun _ h => .inl h); have hq := hk.blk H5.out; have HO := Lib.hid (hk.blk H6.out); clear hk t13 t14 v0 v1 v2 v3 v4 v5 a1 a2 a3 a4 a5 a6; (obtain ⟨z0, z1, z2, z3, z4, z5, zf⟩ := cells6 hq); have zl := row_lt hq; (obtain ⟨wf5, hwf, hfb, hfk⟩ := put6 (v0 := .int .i64 (kH L2)) (v1 := .bool (yH L2)) (v2 := .int .i64 0) (v3 := .int .i64 0) (v4 := .string ⟨#[]⟩) (v5 := .slice none 0 0) hq)))
        have KY5 := Lib.hid (KX5.out.trans hfk fun k e => .inr (by have := F5.out; omega))
        have G5 := Lib.hid hfb
        have G6_5 := Lib.hid ((hfk.block p6 (row_lt HO.out) (by have := NE.out; omega)).trans HO.out)
        clear hq HO z0 z1 z2 z3 z4 z5 zf zl hwf hfb hfk
        obtain ⟨t13, t14, _⟩ := (HAT.out wf5 KY5.out).rest
        simp only [Nat.zero_add] at t13 t14
        obtain ⟨y0, y1, y2, y3, y4, y5, _⟩ := cells6 G5.out
        obtain ⟨x0, x1, x2, x3, x4, x5, _⟩ := cells6 G6_5.out
        have HA := Lib.hid (fun X : World => HAND.out (L2) (2 - L4) (by have := BD1.out; have := BD2.out; omega) (by have := BD1.out; have := BD2.out; omega) (by have := BD3.out; have := BD4.out; omega) (by have := BD3.out; have := BD4.out; omega) X)
        generalize hr : min (L2) (2 - L4) = r at *
        go_wp2_with (go_at_call 28; ((with_reducible refine (HA.out _).mono ?_); rintro e w9 ⟨rfl, hk⟩; have K9 := Lib.hid (KY5.out.trans hk fun _ h => .inl h); clear hk t13 t14 y0 y1 y2 y3 y4 y5 x0 x1 x2 x3 x4 x5; have hb9 := K9.out.blk BP.out; (obtain ⟨z0, z1, z2, z3, z4, z5, zf⟩ := cells6 hb9); have zl := row_lt hb9; (obtain ⟨wf, hwf, hfb, hfk⟩ := put6 (v0 := .int .i64 (kH r)) (v1 := .bool (yH r)) (v2 := .int .i64 0) (v3 := .int .i64 0) (v4 := .string ⟨#[]⟩) (v5 := .slice none 0 0) hb9); (obtain ⟨q0, q1, q2, q3, q4, q5, qf⟩ := cells6 hfb); clear hb9))
        (try simp only [Exit.inBlock, Exit.then])
        refine bodyPost_ret (v := .agg #[.int .i64 (kH r), .bool (yH r), .int .i64 0, .int .i64 0, .string ⟨#[]⟩, .slice none 0 0]) (by simp [results, Tryz.results16, go_sem, q0, q1, q2, q3, q4, q5]) rfl ?_
        refine ⟨?_, handed K2.out K9.out hfk HPL.out⟩
        rw [hC_frm]
      · as_aux_lemma =>
        obtain ⟨a1, a2, a3, a4, a5, a6⟩ := (HAT.out wc KC.out).partA
        obtain ⟨v0, v1, v2, v3, v4, v5, _⟩ := HVC.out wc KC.out
        simp only [Nat.zero_add] at a1 a2 a3 a4 a5 a6
        go_upto_region 16 with (go_at_call 26; ((with_reducible refine ((HL2.out _ (K2.out.trans KC.out fun _ h => .inl h)).frm).mono ?_); rintro e x5 ⟨rfl, hk⟩; have KX5 := Lib.hid (KC.out.trans hk fun _ h => .inl h); have hq := hk.blk H5.out; have HO := Lib.hid (hk.blk H6.out); clear hk t13 t14 v0 v1 v2 v3 v4 v5 a1 a2 a3 a4 a5 a6; (obtain ⟨z0, z1, z2, z3, z4, z5, zf⟩ := cells6 hq); have zl := row_lt hq; (obtain ⟨wf5, hwf, hfb, hfk⟩ := put6 (v0 := .int .i64 (kH L2)) (v1 := .bool (yH L2)) (v2 := .int .i64 0) (v3 := .int .i64 0) (v4 := .string ⟨#[]⟩) (v5 := .slice none 0 0) hq)))
        have KY5 := Lib.hid (KX5.out.trans hfk fun k e => .inr (by have := F5.out; omega))
        have G5 := Lib.hid hfb
        have G6_5 := Lib.hid ((hfk.block p6 (row_lt HO.out) (by have := NE.out; omega)).trans HO.out)
        clear hq HO z0 z1 z2 z3 z4 z5 zf zl hwf hfb hfk
        obtain ⟨t13, t14, _⟩ := (HAT.out wf5 KY5.out).rest
        simp only [Nat.zero_add] at t13 t14
        obtain ⟨b1, b2, b3, b4, b5, b6⟩ := (HAT.out wf5 KY5.out).partB
        obtain ⟨v0, v1, v2, v3, v4, v5, _⟩ := HVC.out wf5 KY5.out
        simp only [Nat.zero_add] at b1 b2 b3 b4 b5 b6
        go_upto_region 18 with (go_at_call 26; ((with_reducible refine ((HL3.out _ (K2.out.trans KY5.out fun _ h => .inl h)).frm).mono ?_); rintro e x6 ⟨rfl, hk⟩; have KX6 := Lib.hid (KY5.out.trans hk fun _ h => .inl h); have hq := hk.blk G6_5.out; have HO := Lib.hid (hk.blk G5.out); clear hk t13 t14 v0 v1 v2 v3 v4 v5 b1 b2 b3 b4 b5 b6; (obtain ⟨z0, z1, z2, z3, z4, z5, zf⟩ := cells6 hq); have zl := row_lt hq; (obtain ⟨wf6, hwf, hfb, hfk⟩ := put6 (v0 := .int .i64 (kH L3)) (v1 := .bool (yH L3)) (v2 := .int .i64 0) (v3 := .int .i64 0) (v4 := .string ⟨#[]⟩) (v5 := .slice none 0 0) hq)))
        have KY6 := Lib.hid (KX6.out.trans hfk fun k e => .inr (by have := F6.out; omega))
        have G6 := Lib.hid hfb
        have G5_6 := Lib.hid ((hfk.block p5 (row_lt HO.out) (by have := NE.out; omega)).trans HO.out)
        clear hq HO z0 z1 z2 z3 z4 z5 zf zl hwf hfb hfk
        obtain ⟨t13, t14, _⟩ := (HAT.out wf6 KY6.out).rest
        simp only [Nat.zero_add] at t13 t14
        obtain ⟨y0, y1, y2, y3, y4, y5, _⟩ := cells6 G5_6.out
        obtain ⟨x0, x1, x2, x3, x4, x5, _⟩ := cells6 G6.out
        have HA := Lib.hid (fun X : World => HAND.out (L2) (L3) (by have := BD1.out; have := BD2.out; omega) (by have := BD1.out; have := BD2.out; omega) (by have := BD3.out; have := BD4.out; omega) (by have := BD3.out; have := BD4.out; omega) X)
        generalize hr : min (L2) (L3) = r at *
        go_wp2_with (go_at_call 28; ((with_reducible refine (HA.out _).mono ?_); rintro e w9 ⟨rfl, hk⟩; have K9 := Lib.hid (KY6.out.trans hk fun _ h => .inl h); clear hk t13 t14 y0 y1 y2 y3 y4 y5 x0 x1 x2 x3 x4 x5; have hb9 := K9.out.blk BP.out; (obtain ⟨z0, z1, z2, z3, z4, z5, zf⟩ := cells6 hb9); have zl := row_lt hb9; (obtain ⟨wf, hwf, hfb, hfk⟩ := put6 (v0 := .int .i64 (kH r)) (v1 := .bool (yH r)) (v2 := .int .i64 0) (v3 := .int .i64 0) (v4 := .string ⟨#[]⟩) (v5 := .slice none 0 0) hb9); (obtain ⟨q0, q1, q2, q3, q4, q5, qf⟩ := cells6 hfb); clear hb9))
        (try simp only [Exit.inBlock, Exit.then])
        refine bodyPost_ret (v := .agg #[.int .i64 (kH r), .bool (yH r), .int .i64 0, .int .i64 0, .string ⟨#[]⟩, .slice none 0 0]) (by simp [results, Tryz.results16, go_sem, q0, q1, q2, q3, q4, q5]) rfl ?_
        refine ⟨?_, handed K2.out K9.out hfk HPL.out⟩
        rw [hC_frm]

end Go.Proofs.YtnihfhfakadepaaGreatDoor
