/- ClusterGoesOn, walked. -/
import Derived.Test.YtibjbpakbfodaaaXGoA
import Derived.Test.YtibjbpakbfodaaaXCalml
import Derived.Test.YtibjbpakbfodaaaXSeen
import Derived.Test.YtibjbpakbfodaaaRefA
import Derived.Test.YtibjbpakbfodaaaFirstf
namespace Go.Proofs.Ytibjbpakbfodaaa
open Go.RowKit

set_option maxRecDepth 100000 in
set_option maxHeartbeats 8000000 in
theorem clRunNo_any {w : World} {S : Nat → Prop} {n : Int} {ev : Value} {evs : List Evt} (hev : Sl w S ev 3 (evs.flatMap evtCells)) (hb : (n < 1 ∨ 5 < n) ∨ 300 < evs.length) :
    Calls Try.prog 44 #[.int .i64 n, ev] w fun e w' => e = .returned (.tuple #[.agg #[.slice none 0 0, .slice none 0 0], .int .i64 (if n < 1 ∨ 5 < n then 3 else 5)]) ∧ Keeps Free w w' := by
  have HEV := Lib.hid hev; have HBAD := Lib.hid hb
  obtain ⟨A, C, rfl⟩ := hev.form (evts_len evs) (by decide)
  clear hev hb
  obtain ⟨cd, hcd⟩ : ∃ cd : Int, (if n < 1 ∨ 5 < n then (3 : Int) else 5) = cd := ⟨_, rfl⟩
  rw [hcd]
  have HCD := Lib.hid hcd
  clear hcd
  obtain ⟨wz, hal⟩ : ∃ wz, w.alloc (.cells #[.slice none 0 0, .slice none 0 0] 55) = wz := ⟨_, rfl⟩
  obtain ⟨R, hR⟩ : ∃ R, w.heap.size = R := ⟨_, rfl⟩
  have hbz : wz.heap[R]? = some (.cells #[.slice none 0 0, .slice none 0 0] 55 (0, 0)) := by rw [← hal, ← hR]; exact heap_alloc_new _ _
  have hkz : Keeps Free w wz := by rw [← hal]; exact (Keeps.refl _ w).alloc _
  have HBZ := Lib.hid hbz; have HKZ := Lib.hid hkz; have HR := Lib.hid hR
  clear hbz hkz
  go_enter Try.func44, Try.ntmps44
  go_wp2_with fail
  refine (clStart_any wz n).mono ?_
  rintro e w1 ⟨k1, hr⟩
  have K1 := Lib.hid k1
  clear k1
  rcases hr with ⟨ho, rfl⟩ | ⟨ho, W, rfl, hW, hok⟩
  · have hif : cd = 3 := by rw [← HCD.out]; exact if_pos ho
    have HIF := Lib.hid hif
    clear ho hif
    obtain ⟨B, hB⟩ : ∃ B, w1.heap.size = B := ⟨_, rfl⟩
    obtain ⟨w2, hal2⟩ : ∃ w2, w1.alloc (.cells #[.slice none 0 0, .slice none 0 0] 55) = w2 := ⟨_, rfl⟩
    have hb2 : w2.heap[B]? = some (.cells #[.slice none 0 0, .slice none 0 0] 55 (0, 0)) := by rw [← hal2, ← hB]; exact heap_alloc_new _ _
    have hk2 : Keeps Free w1 w2 := by rw [← hal2]; exact (Keeps.refl _ w1).alloc _
    obtain ⟨w3, hw3, hb3, hk3⟩ := put2 (v0 := .slice none 0 0) (v1 := .slice none 0 0) hb2 rfl
    have hr0 := hk2.blk (K1.out.blk HBZ.out)
    have hRB : R ≠ B := by have := laid_lt (K1.out.blk HBZ.out); omega
    have hr2 := (hk3.block R (laid_lt hr0) hRB).trans hr0
    obtain ⟨d0, d1, df⟩ := cells2 hb2
    obtain ⟨c0, c1, cf⟩ := cells2 hb3
    obtain ⟨r0, r1, rf⟩ := cells2 hr2
    obtain ⟨wf, hwf, hfb, hfk⟩ := put2 (v0 := .slice none 0 0) (v1 := .slice none 0 0) hr2 rfl
    obtain ⟨z0, z1, zf⟩ := cells2 hfb
    have HFK := Lib.hid hfk; have HK2 := Lib.hid (hk2.trans hk3 fun j e => .inr (by omega))
    clear hb2 hk2 hr2 hfb hfk hb3 hk3 hr0
    go_wp2_with fail
    refine bodyPost_ret (v := .tuple #[.agg #[.slice none 0 0, .slice none 0 0], .int .i64 3]) (by simp [results, Try.results44, go_sem, z0, z1]) rfl ?_
    exact ⟨by rw [HIF.out], ((HKZ.out.trans K1.out fun _ h => .inl h).trans HK2.out fun _ h => .inl h).trans HFK.out fun j e => .inr (by have := HR.out; omega)⟩
  · have hif : cd = 5 := by rw [← HCD.out]; exact if_neg ho
    have HIF := Lib.hid hif
    have hl' : decide (300 < (evs.length : Int)) = true := by have := HBAD.out.resolve_left ho; simp; omega
    obtain ⟨nodes, net, nv, ov⟩ := W
    have hok2 := hok Free (fun k h => h.elim)
    obtain ⟨NA, NC, en1⟩ := hok2.cells.form (nods_len nodes) (by decide)
    obtain ⟨OA, OC, en2⟩ := hok2.msgs.cells.form (mess_len net) (by decide)
    simp only at en1 en2
    subst en1 en2
    clear ho hif hok hok2 hW
    obtain ⟨B, hB⟩ : ∃ B, w1.heap.size = B := ⟨_, rfl⟩
    obtain ⟨w2, hal2⟩ : ∃ w2, w1.alloc (.cells #[.slice NA nodes.length NC, .slice OA net.length OC] 55) = w2 := ⟨_, rfl⟩
    have hk2 : Keeps Free w1 w2 := by rw [← hal2]; exact (Keeps.refl _ w1).alloc _
    have hr2 := hk2.blk (K1.out.blk HBZ.out)
    obtain ⟨r0, r1, rf⟩ := cells2 hr2
    obtain ⟨wf, hwf, hfb, hfk⟩ := put2 (v0 := .slice none 0 0) (v1 := .slice none 0 0) hr2 rfl
    obtain ⟨z0, z1, zf⟩ := cells2 hfb
    have HFK := Lib.hid hfk; have HK2 := Lib.hid hk2
    clear hk2 hr2 hfb hfk
    simp only
    go_wp2_with fail
    refine bodyPost_ret (v := .tuple #[.agg #[.slice none 0 0, .slice none 0 0], .int .i64 5]) (by simp [results, Try.results44, go_sem, z0, z1]) rfl ?_
    exact ⟨by rw [HIF.out], ((HKZ.out.trans K1.out fun _ h => .inl h).trans HK2.out fun _ h => .inl h).trans HFK.out fun j e => .inr (by have := HR.out; omega)⟩

/-- The world lies in block B. -/
def GoAt (w : World) (B : Nat) (u : Wld) (wr : World) : Prop :=
  ∃ W, WldOk wr (fun j => j = B) W ∧ WldV.w W = u ∧ wr.heap[B]? = some (.cells #[W.nv, W.ov] 55 (0, 0)) ∧ Keeps Free w wr

theorem GoAt.later {w wr wx : World} {B : Nat} {u : Wld} (h : GoAt w B u wr) (hk : Keeps Free wr wx) : GoAt w B u wx := by
  obtain ⟨W, h1, h2, h3, h4⟩ := h
  exact ⟨W, h1.into hk (fun _ _ h => h.elim) (fun _ _ h => h), h2, hk.blk h3, h4.trans hk (fun _ h => .inl h)⟩

theorem map_getD (l : List NodV) (k : Nat) (h : k < l.length) : (l.map NodV.n).getD k (start 0 0) = l[k].n := by
  rw [List.getD_eq_getElem?_getD, List.getElem?_map, List.getElem?_eq_getElem h]; rfl

/-- A message of a row: its cells. -/
theorem mes_at {w : World} {S : Nat → Prop} {l : List MesV} {A : Option Addr} {n c : Nat} (h : Sl w S (.slice A n c) 9 (l.flatMap mesCells)) (he : ∀ x ∈ l, MesOk w S x) {k : Nat} (hk : k < l.length) :
    ∃ b off m IA IL IC, A = some ⟨b, off, none⟩ ∧ l[k] = ⟨m, .slice IA IL IC⟩ ∧ MesOk w S ⟨m, .slice IA IL IC⟩ ∧
      w.cell? ⟨b, off + k * 9, none⟩ = some (.int .i64 m.kind) ∧ w.cell? ⟨b, off + k * 9 + 1, none⟩ = some (.int .i64 m.src) ∧ w.cell? ⟨b, off + k * 9 + 2, none⟩ = some (.int .i64 m.dst) ∧ w.cell? ⟨b, off + k * 9 + 3, none⟩ = some (.int .i64 m.term) ∧
      w.cell? ⟨b, off + k * 9 + 4, none⟩ = some (.int .i64 m.index) ∧ w.cell? ⟨b, off + k * 9 + 5, none⟩ = some (.int .i64 m.logTerm) ∧ w.cell? ⟨b, off + k * 9 + 6, none⟩ = some (.int .i64 m.commit) ∧ w.cell? ⟨b, off + k * 9 + 7, none⟩ = some (.slice IA IL IC) ∧ w.cell? ⟨b, off + k * 9 + 8, none⟩ = some (.bool m.yes) := by
  obtain ⟨A', n', c', e, h1, h2, h3, h4⟩ := h
  injection e with e1 e2 e3
  subst e1 e2 e3
  rw [mess_len] at h1
  obtain ⟨b, off, rfl, h5, h6⟩ := h4 (by rw [mess_len]; omega)
  have hx := he _ (List.getElem_mem hk)
  have hc : ∀ j u, j < 9 → (mesCells l[k])[j]? = some u → w.cell? ⟨b, off + k * 9 + j, none⟩ = some u := fun j u hj hu => by
    rw [Nat.add_assoc]
    exact h6 _ _ (by rw [flat_get mesCells 9 (fun _ => rfl) l k l[k] j (List.getElem?_eq_getElem hk) hj]; exact hu)
  generalize hxx : l[k] = xx at hx hc
  obtain ⟨m, iv⟩ := xx
  have hx2 := hx
  obtain ⟨IA, IL, IC, e, -⟩ := hx
  simp only at e
  subst e
  exact ⟨b, off, m, IA, IL, IC, rfl, rfl, hx2, hc 0 _ (by decide) rfl, hc 1 _ (by decide) rfl, hc 2 _ (by decide) rfl, hc 3 _ (by decide) rfl, hc 4 _ (by decide) rfl, hc 5 _ (by decide) rfl, hc 6 _ (by decide) rfl, hc 7 _ (by decide) rfl, hc 8 _ (by decide) rfl⟩

theorem cells9v {w : World} {b : Nat} {t : TypeId} {v0 v1 v2 v3 v4 v5 v6 v7 v8 : Value} (h : w.heap[b]? = some (.cells #[v0, v1, v2, v3, v4, v5, v6, v7, v8] t (0, 0))) :
    w.cell? ⟨b, 0, none⟩ = some v0 ∧ w.cell? ⟨b, 1, none⟩ = some v1 ∧ w.cell? ⟨b, 2, none⟩ = some v2 ∧ w.cell? ⟨b, 3, none⟩ = some v3 ∧ w.cell? ⟨b, 4, none⟩ = some v4 ∧ w.cell? ⟨b, 5, none⟩ = some v5 ∧ w.cell? ⟨b, 6, none⟩ = some v6 ∧ w.cell? ⟨b, 7, none⟩ = some v7 ∧ w.cell? ⟨b, 8, none⟩ = some v8 ∧ ∀ k, w.frozen? ⟨b, k, none⟩ = false :=
  ⟨cell_of_row w b 0 _ _ _ h, cell_of_row w b 1 _ _ _ h, cell_of_row w b 2 _ _ _ h, cell_of_row w b 3 _ _ _ h, cell_of_row w b 4 _ _ _ h, cell_of_row w b 5 _ _ _ h, cell_of_row w b 6 _ _ _ h, cell_of_row w b 7 _ _ _ h, cell_of_row w b 8 _ _ _ h, fun k => frozen_of_row w b k _ _ h⟩

theorem nd_of {u : Wld} {W : WldV} (h : WldV.w W = u) {b : Nat} (hb : b < W.nodes.length) : u.nd ((b : Int) + 1) = W.nodes[b].n := by
  rw [← h]
  unfold Wld.nd WldV.w
  simp only
  rw [show ((b : Int) + 1 - 1).toNat = b by omega, List.getElem?_map, List.getElem?_eq_getElem hb]
  rfl

/-- What a call that steps the world comes to, stored. -/
theorem GoAt.stored {w wr w5 : World} {B : Nat} {u : Wld} (h : GoAt w B u wr) (hB : w.heap.size ≤ B) {W5 : WldV} (h5 : WldOk w5 (fun j => j = B) W5) (hk : Keeps Free wr w5) :
    ∃ NA5 NC5 OA5 OC5 wf, W5.nv = .slice NA5 W5.nodes.length NC5 ∧ W5.ov = .slice OA5 W5.net.length OC5 ∧ (w5.setCell ⟨B, 0, none⟩ (.slice NA5 W5.nodes.length NC5)).setCell ⟨B, 1, none⟩ (.slice OA5 W5.net.length OC5) = wf ∧ GoAt w B (WldV.w W5) wf ∧ Keeps (fun j => j = B) w5 wf ∧
      ∃ v0 v1, w5.cell? ⟨B, 0, none⟩ = some v0 ∧ w5.cell? ⟨B, 1, none⟩ = some v1 ∧ (∀ k, w5.frozen? ⟨B, k, none⟩ = false) ∧ wf.heap[B]? = some (.cells #[.slice NA5 W5.nodes.length NC5, .slice OA5 W5.net.length OC5] 55 (0, 0)) := by
  obtain ⟨W, h1, h2, h3, h4⟩ := h
  obtain ⟨NA5, NC5, e1⟩ := h5.cells.form (nods_len W5.nodes) (by decide)
  obtain ⟨OA5, OC5, e2⟩ := h5.msgs.cells.form (mess_len W5.net) (by decide)
  have hb5 := hk.blk h3
  obtain ⟨wf, hwf, hfb, hfk⟩ := put2 (v0 := .slice NA5 W5.nodes.length NC5) (v1 := .slice OA5 W5.net.length OC5) hb5 rfl
  obtain ⟨d0, d1, df⟩ := cells2 hb5
  exact ⟨NA5, NC5, OA5, OC5, wf, e1, e2, hwf, ⟨W5, h5.into hfk (fun _ _ h => h) (fun _ _ h => h), rfl, by rw [e1, e2]; exact hfb, (h4.trans hk fun _ h => .inl h).trans hfk fun j e => .inr (by omega)⟩, hfk, _, _, d0, d1, df, hfb⟩

theorem GoAt.blk {w wr : World} {B : Nat} {u : Wld} (h : GoAt w B u wr) : B < wr.heap.size := by obtain ⟨W, _, _, h3, _⟩ := h; exact laid_lt h3

set_option maxRecDepth 100000 in
set_option maxHeartbeats 16000000 in
theorem clusterGoesOn_walk {w : World} {ev : Value} {evs : List Evt} (hstp : StepSays) (n : Int) (hev : Sl w Free ev 3 (evs.flatMap evtCells)) (cmd : Int) :
    Calls Try.prog 17 #[.int .i64 n, ev, .int .i64 cmd] w fun e w' => e = .returned (.bool true) ∧ Keeps Free w w' := by
  have HSTP := Lib.hid hstp; have HEV := Lib.hid hev
  obtain ⟨EA, EC, rfl⟩ := hev.form (evts_len evs) (by decide)
  have HAL := Lib.hid (alive16_any hstp w)
  clear hstp hev
  by_cases hbad : (n < 1 ∨ 5 < n) ∨ 300 < evs.length
  · have hca := fun (w' : World) (hk : Keeps Free w w') => clRunNo_any (w := w') (S := Free) (HEV.out.into (S' := Free) hk (fun _ _ h => h.elim) (fun _ _ h => h)) hbad
    obtain ⟨cd, hcd⟩ : ∃ cd : Int, (if n < 1 ∨ 5 < n then (3 : Int) else 5) = cd := ⟨_, rfl⟩
    rw [hcd] at hca
    have q1 : (cd != 0) = true := by rw [bne_iff_ne, ← hcd]; split <;> omega
    have HCA := Lib.hid hca
    clear hbad hcd hca
    go_enter Try.func17, Try.ntmps17
    go_wp2_with (first
      | (go_at_call 36
         refine HAL.out.mono ?_
         rintro e w1 ⟨rfl, hk1⟩
         have HK1 := Lib.hid hk1
         clear hk1 HAL)
      | (go_at_call 44
         refine (HCA.out _ HK1.out).mono ?_
         rintro e w2 ⟨rfl, hk2⟩
         have HK2 := Lib.hid hk2
         obtain ⟨A, hA⟩ : ∃ A, w2.heap.size = A := ⟨_, rfl⟩
         obtain ⟨wa, hwa⟩ : ∃ wa, w2.alloc (.cells #[.slice none 0 0, .slice none 0 0] 55) = wa := ⟨_, rfl⟩
         have hba := heap_alloc_new w2 (.cells #[.slice none 0 0, .slice none 0 0] 55)
         have hka := (Keeps.refl Free w2).alloc (.cells #[.slice none 0 0, .slice none 0 0] 55)
         rw [hwa] at hba hka
         rw [hA] at hba
         obtain ⟨wf, hwf, hfb, hfk⟩ := put2 (v0 := .slice none 0 0) (v1 := .slice none 0 0) hba rfl
         obtain ⟨d0, d1, df⟩ := cells2 hba
         have HKA := Lib.hid (((HK1.out.trans hk2 (fun _ h => .inl h)).trans hka (fun _ h => .inl h)).trans hfk (fun j e => .inr (by have := HK1.out.size; have := hk2.size; omega)))
         clear hk2 hba hka hfb hfk HCA))
    go_ret
    exact ⟨rfl, HKA.out⟩
  have hnn : ¬ (n < 1 ∨ 5 < n) := fun h => hbad (.inl h)
  have hll : evs.length ≤ 300 := by omega
  have HN := Lib.hid hnn
  have HCA := Lib.hid (fun (w' : World) (hk : Keeps Free w w') => clRun_any (w := w') (Q := Free) (S := Free) HSTP.out (HEV.out.into (S' := Free) hk (fun _ _ h => h.elim) (fun _ _ h => h)) (fun k h => h.elim) hll hnn)
  have hn5 : n ≤ 5 := by omega
  have hn1 : 1 ≤ n := by omega
  clear hbad hnn
  go_enter Try.func17, Try.ntmps17
  go_upto_region 4 with (first
    | (go_at_call 36
       refine HAL.out.mono ?_
       rintro e w1 ⟨rfl, hk1⟩
       have HK1 := Lib.hid hk1
       clear hk1 HAL)
    | (go_at_call 44
       refine (HCA.out _ HK1.out).mono ?_
       rintro e w2 ⟨W2, rfl, hw2, hok2, hk2⟩
       obtain ⟨nodes, nt2, nv2, ov2⟩ := W2
       obtain ⟨NA, NC, en1⟩ := hok2.cells.form (nods_len nodes) (by decide)
       obtain ⟨OA2, OC2, en2⟩ := hok2.msgs.cells.form (mess_len nt2) (by decide)
       simp only at en1 en2
       subst en1 en2
       have HW2 := Lib.hid hw2; have HOK2 := Lib.hid hok2; have HK2 := Lib.hid hk2
       clear hw2 hok2 hk2 HCA
       simp only))
  obtain ⟨wa, hwa⟩ : ∃ wa, w2.alloc (.cells #[.slice NA nodes.length NC, .slice OA2 nt2.length OC2] 55) = wa := ⟨_, rfl⟩
  have hka := (Keeps.refl Free w2).alloc (.cells #[.slice NA nodes.length NC, .slice OA2 nt2.length OC2] 55)
  have hba := heap_alloc_new w2 (.cells #[.slice NA nodes.length NC, .slice OA2 nt2.length OC2] 55)
  obtain ⟨B, hA⟩ : ∃ A, w2.heap.size = A := ⟨_, rfl⟩
  have HWB := Lib.hid (show w.heap.size ≤ B by rw [← hA]; have := HK1.out.size; have := HK2.out.size; omega)
  rw [hwa] at hka hba ⊢
  rw [hA] at hba ⊢
  have HKA := Lib.hid ((HK1.out.trans HK2.out (fun _ h => .inl h)).trans hka (fun _ h => .inl h))
  -- the messages are lost
  have hb3 := setCell_blk (k := 1) (u := .slice none 0 0) hba
  have hk3 := (Keeps.refl (fun j => j = B) wa).setCell (p := ⟨B, 1, none⟩) (.inl rfl) (.slice none 0 0)
  obtain ⟨w3, hw3⟩ : ∃ w3, wa.setCell ⟨B, 1, none⟩ (.slice none 0 0) = w3 := ⟨_, rfl⟩
  rw [hw3] at hb3 hk3
  have hok3 : WldOk w3 (fun j => j = B) ⟨nodes, [], .slice NA nodes.length NC, .slice none 0 0⟩ := by
    have h1 := (HOK2.out.into (S' := fun j => j = B) hka (fun _ _ h => h.elim) (fun j hj e => by omega)).into (S' := fun j => j = B) hk3 (fun _ _ h => h) (fun _ _ h => h)
    exact ⟨h1.cells, h1.each, noMsgs _ _⟩
  have HU := Lib.hid (show (⟨nodes.map NodV.n, []⟩ : Wld) = ⟨(ran n evs).nodes, []⟩ by rw [← HW2.out]; rfl)
  have HNS := Lib.hid (show nodes.map NodV.n = (ran n evs).nodes by rw [← HW2.out]; rfl)
  have hnl : (nodes.length : Int) = n := by have := (ran_sound HN.out evs).len; rw [← HNS.out, List.length_map] at this; exact this
  have HNL := Lib.hid hnl
  have hnl5 : nodes.length ≤ 5 := by omega
  have hnl1 : 0 < nodes.length := by omega
  have HK3 := Lib.hid (HKA.out.trans hk3 (fun j e => .inr (by rw [e]; exact HWB.out)))
  have HB3 := Lib.hid (hb3.trans rfl : w3.heap[B]? = some (.cells #[.slice NA nodes.length NC, .slice none 0 0] 55 (0, 0))); have HOK3 := Lib.hid hok3
  obtain ⟨c0, c1, cf⟩ := cells2 hba
  clear hwa hka hba hA hb3 hk3 hok3 HOK2 hnl
  go_upto_region 8 with fail
  clear hw3 c0 c1 cf
  obtain ⟨c0, c1, cf⟩ := cells2 HB3.out
  -- the best one
  go_upto_block 0 with fail
  go_cut [9, 10] (fun b h wx => ∃ (bb : Nat) (hh : Int), b = .int .i64 (bb : Int) ∧ h = .int .i64 hh ∧ bestOf (nodes.map NodV.n) nodes.length = (bb, hh) ∧ Keeps Free w3 wx)
  case first =>
    clear c0 c1 cf
    have HBS := Lib.hid (bestOf_spec (nodes.map NodV.n) (fun x hx => by
      rw [HNS.out] at hx
      obtain ⟨i, hi, rfl⟩ := List.mem_iff_getElem.1 hx
      exact ((ran_sound HN.out evs).good i hi).term0))
    go_wp2_with fail
    go_loopw [9, 10, 38] (fun b h i wr => ∃ k : Nat, k ≤ nodes.length ∧ i = .int .i64 k ∧ b = .int .i64 ((bestOf (nodes.map NodV.n) k).1 : Int) ∧ h = .int .i64 (bestOf (nodes.map NodV.n) k).2 ∧ Keeps Free w3 wr) (fun b h i _ => 10 - (intOf i).toNat)
    case atStart => exact ⟨0, Nat.zero_le _, rfl, rfl, rfl, Keeps.refl _ _⟩
    case round =>
      obtain ⟨k, hk, rfl, rfl, rfl, hkr⟩ := hrel
      have HKR := Lib.hid hkr
      clear hkr
      by_cases hlt : k < nodes.length
      · have hbl := (HBS.out k (by rw [List.length_map]; omega)).1 (by rw [List.length_map]; exact hnl1)
        rw [List.length_map] at hbl
        have HBE := Lib.hid (show bestOf (nodes.map NodV.n) (k + 1) = (if lastT ((nodes.map NodV.n).getD (bestOf (nodes.map NodV.n) k).1 (start 0 0)).log < lastT ((nodes.map NodV.n).getD k (start 0 0)).log ∨ (lastT ((nodes.map NodV.n).getD k (start 0 0)).log = lastT ((nodes.map NodV.n).getD (bestOf (nodes.map NodV.n) k).1 (start 0 0)).log ∧ ((nodes.map NodV.n).getD (bestOf (nodes.map NodV.n) k).1 (start 0 0)).log.length < ((nodes.map NodV.n).getD k (start 0 0)).log.length) then k else (bestOf (nodes.map NodV.n) k).1, if (bestOf (nodes.map NodV.n) k).2 < ((nodes.map NodV.n).getD k (start 0 0)).term then ((nodes.map NodV.n).getD k (start 0 0)).term else (bestOf (nodes.map NodV.n) k).2) from rfl)
        generalize bestOf (nodes.map NodV.n) k = bp at *
        obtain ⟨bb, hh⟩ := bp
        simp only at hbl HBE ⊢
        rw [map_getD _ _ hlt, map_getD _ _ hbl] at HBE
        obtain ⟨b, off, x, LA, LC, VA, VL, VC, MA, ML, MC, PA, PL, PC, rfl, hxk, hxo, r0, r1, r2, r3, r4, r5, r6, r7, r8, r9, r10⟩ := HOK3.out.node HKR.out hlt
        obtain ⟨b', off', y, LA', LC', VA', VL', VC', MA', ML', MC', PA', PL', PC', hA', hyk, hyo, s0, s1, s2, s3, s4, s5, s6, s7, s8, s9, s10⟩ := HOK3.out.node HKR.out hbl
        injection hA' with hA'
        injection hA' with hA1 hA2
        subst hA1 hA2
        rw [hxk, hyk] at HBE
        simp only at HBE
        have hg := HNS.out
        have hx60 : x.log.length ≤ 60 := by
          have h1 := (ran_sound HN.out evs).good k (by rw [← hg, List.length_map]; exact hlt)
          have h2 : (ran n evs).nodes[k]'(by rw [← hg, List.length_map]; exact hlt) = x := by simp only [← hg, List.getElem_map, hxk]
          rw [h2] at h1
          exact h1.log60
        have hy60 : y.log.length ≤ 60 := by
          have h1 := (ran_sound HN.out evs).good bb (by rw [← hg, List.length_map]; exact hbl)
          have h2 : (ran n evs).nodes[bb]'(by rw [← hg, List.length_map]; exact hbl) = y := by simp only [← hg, List.getElem_map, hyk]
          rw [h2] at h1
          exact h1.log60
        have HXO := Lib.hid hxo; have HYO := Lib.hid hyo
        clear hg hxk hyk hxo hyo
        obtain ⟨w4, b4, hal4, hb4, hk4, hbb4⟩ := box11 wr (.int .i64 x.id) (.int .i64 x.n) (.int .i64 x.term) (.int .i64 x.vote) (.slice LA x.log.length LC) (.int .i64 x.commit) (.int .i64 x.role) (.int .i64 x.boss) (.slice VA VL VC) (.slice MA ML MC) (.slice PA PL PC)
        obtain ⟨w5, b5, hal5, hb5, hk5, hbb5⟩ := box11 w4 (.int .i64 y.id) (.int .i64 y.n) (.int .i64 y.term) (.int .i64 y.vote) (.slice LA' y.log.length LC') (.int .i64 y.commit) (.int .i64 y.role) (.int .i64 y.boss) (.slice VA' VL' VC') (.slice MA' ML' MC') (.slice PA' PL' PC')
        have t0 := hk4.cell (fun h => h) s0; have t1 := hk4.cell (fun h => h) s1; have t2 := hk4.cell (fun h => h) s2; have t3 := hk4.cell (fun h => h) s3; have t4 := hk4.cell (fun h => h) s4; have t5 := hk4.cell (fun h => h) s5; have t6 := hk4.cell (fun h => h) s6; have t7 := hk4.cell (fun h => h) s7; have t8 := hk4.cell (fun h => h) s8; have t9 := hk4.cell (fun h => h) s9; have t10 := hk4.cell (fun h => h) s10
        obtain ⟨d0, d1, df⟩ := cells2 (hk4.blk (HKR.out.blk HB3.out))
        have hk45 := hk4.trans hk5 (fun _ h => .inl h)
        have HX5 := Lib.hid (HXO.out.into (S' := Free) hk45 (fun _ _ h => h.elim) (fun _ _ h => h.elim)).log; have HY5 := Lib.hid (HYO.out.into (S' := Free) hk45 (fun _ _ h => h.elim) (fun _ _ h => h.elim)).log
        simp only at HX5 HY5
        have HB4 := Lib.hid (hk5.blk hbb4); have HB5 := Lib.hid hbb5; have HK45 := Lib.hid hk45
        clear hk4 hk5 hbb4 hbb5 hk45 s0 s1 s2 s3 s4 s5 s6 s7 s8 s9 s10
        go_upto_region 12 with fail
        clear r0 r1 r2 r3 r4 r5 r6 r7 r8 r9 r10 t0 t1 t2 t3 t4 t5 t6 t7 t8 t9 t10 d0 d1 df hal4 hal5 hb4 hb5
        obtain ⟨ta, hta⟩ : ∃ ta, termAt x.log (x.log.length : Int) = ta := ⟨_, rfl⟩
        obtain ⟨tb, htb⟩ : ∃ tb, termAt y.log (y.log.length : Int) = tb := ⟨_, rfl⟩
        have HATX := Lib.hid (fun (w' : World) (hk : Keeps Free w5 w') => (hta ▸ at_any (HX5.out.into (S' := Free) hk (fun _ _ h => h.elim) (fun _ _ h => h)) (x.log.length : Int) (by omega) : Calls Try.prog 51 #[.slice LA x.log.length LC, .int .i64 (x.log.length : Int)] w' fun e w'' => e = .returned (.int .i64 ta) ∧ w'' = w'))
        have HATY := Lib.hid (fun (w' : World) (hk : Keeps Free w5 w') => (htb ▸ at_any (HY5.out.into (S' := Free) hk (fun _ _ h => h.elim) (fun _ _ h => h)) (y.log.length : Int) (by omega) : Calls Try.prog 51 #[.slice LA' y.log.length LC', .int .i64 (y.log.length : Int)] w' fun e w'' => e = .returned (.int .i64 tb) ∧ w'' = w'))
        have HTA := Lib.hid (show lastT x.log = ta from hta); have HTB := Lib.hid (show lastT y.log = tb from htb)
        clear hta htb
        go_cut [14, 15] (fun p q wx => p = .int .i64 ta ∧ q = .int .i64 tb ∧ Keeps Free w5 wx)
        case first =>
          refine Wf.wp_region_first (C := fun w' => Keeps Free w5 w') (by kernel_rfl) 99 ?_
          have HKW := Lib.hid (show Keeps Free w5 { w5 with drawn := w5.drawn + 1 } from (Keeps.refl Free w5).drew)
          obtain ⟨W, hW⟩ : ∃ W : World, W = { w5 with drawn := w5.drawn + 1 } := ⟨_, rfl⟩
          rw [← hW] at HKW ⊢
          clear hW
          apply Wf.wpAnyP_stays (by kernel_rfl) [0, 1, 2, 3, 4, 6, 7, 8, 9, 10] _ _ _ 4 _ HKW.out (by kernel_rfl) ?hs ?hr
          case hs =>
            apply Wf.wpStays_step rfl rfl
            · intro w' hw'
              clear hw'
              go_simp
              exact ⟨rfl, rfl⟩
            go_simp
            apply Wf.wpStays_step rfl rfl
            · intro w' hw'
              obtain ⟨e0, e1, e2, e3, e4, e5, e6, e7, e8, e9, e10, ef⟩ := cells11 (Keeps.blk hw' HB4.out)
              clear hw'
              go_simp
              exact ⟨rfl, rfl⟩
            go_simp
            apply Wf.wpStays_step rfl rfl
            · intro w' hw'
              clear hw'
              go_simp
              exact ⟨rfl, rfl⟩
            go_simp
            apply Wf.wpStays_step rfl rfl
            · intro w' hw'
              obtain ⟨e0, e1, e2, e3, e4, e5, e6, e7, e8, e9, e10, ef⟩ := cells11 (Keeps.blk hw' HB4.out)
              clear hw'
              go_simp
              exact ⟨rfl, rfl⟩
            go_simp
            apply Wf.wpStays_step rfl rfl
            · intro w' hw'
              clear hw'
              go_simp
              exact ⟨rfl, rfl⟩
            go_simp
            apply Wf.wpStays_step rfl rfl
            · intro w' hw'
              clear hw'
              go_simp
              exact ⟨rfl, rfl⟩
            go_simp
            apply Wf.wpStays_step rfl rfl
            · intro w' hw'
              obtain ⟨e0, e1, e2, e3, e4, e5, e6, e7, e8, e9, e10, ef⟩ := cells11 (Keeps.blk hw' HB5.out)
              clear hw'
              go_simp
              exact ⟨rfl, rfl⟩
            go_simp
            apply Wf.wpStays_step rfl rfl
            · intro w' hw'
              clear hw'
              go_simp
              exact ⟨rfl, rfl⟩
            go_simp
            apply Wf.wpStays_step rfl rfl
            · intro w' hw'
              obtain ⟨e0, e1, e2, e3, e4, e5, e6, e7, e8, e9, e10, ef⟩ := cells11 (Keeps.blk hw' HB5.out)
              clear hw'
              go_simp
              exact ⟨rfl, rfl⟩
            go_simp
            apply Wf.wpStays_step rfl rfl
            · intro w' hw'
              clear hw'
              go_simp
              exact ⟨rfl, rfl⟩
            go_simp
            exact rfl
          case hr =>
            apply Wf.wpAnyP_one (i := 5) (fuel := 3) (by kernel_rfl) rfl rfl
            go_simp
            refine (HATX.out _ HKW.out).mono ?_
            rintro e w6 ⟨rfl, rfl⟩
            refine ⟨_, rfl, HKW.out, ?_⟩
            go_simp
            apply Wf.wpAnyP_one (i := 11) (fuel := 2) (by kernel_rfl) rfl rfl
            go_simp
            refine (HATY.out _ HKW.out).mono ?_
            rintro e w7 ⟨rfl, rfl⟩
            refine ⟨_, rfl, HKW.out, ?_⟩
            go_simp
            apply Wf.wpAnyP_stays (by kernel_rfl) [12, 13] _ _ _ 0 _ HKW.out (by kernel_rfl) ?hs ?hr
            case hs =>
              apply Wf.wpStays_step rfl rfl
              · intro w' hw'
                clear hw'
                go_simp
                exact ⟨rfl, rfl⟩
              go_simp
              apply Wf.wpStays_step rfl rfl
              · intro w' hw'
                clear hw'
                go_simp
                exact ⟨rfl, rfl⟩
              go_simp
              exact rfl
            case hr =>
              refine ⟨by kernel_rfl, ?_⟩
              go_wp2_with fail
              go_meet
              exact ⟨rfl, rfl, HKW.out⟩
        case rest =>
          obtain ⟨rfl, rfl, hkx⟩ := hcut
          obtain ⟨w6, rfl⟩ : ∃ w6 : World, w6 = wc := ⟨_, rfl⟩
          have HKX := Lib.hid hkx
          obtain ⟨p0, p1, p2, p3, p4, p5, p6, p7, p8, p9, p10, pf⟩ := cells11 (hkx.blk HB4.out)
          obtain ⟨q0, q1, q2, q3, q4, q5, q6, q7, q8, q9, q10, qf⟩ := cells11 (hkx.blk HB5.out)
          obtain ⟨xl, hxl⟩ : ∃ xl : Int, (x.log.length : Int) = xl := ⟨_, rfl⟩
          obtain ⟨cb, hcb⟩ : ∃ cb, (decide (tb < ta) || ((ta == tb) && decide (y.log.length < x.log.length))) = cb := ⟨_, rfl⟩
          have HCB := Lib.hid hcb
          clear hkx hxl hcb
          go_upto_region 13 with fail
          go_cut [76] (fun s wx => s = .bool cb ∧ wx = w6)
          case first =>
            cases z1 : decide (tb < ta)
            case true =>
              as_aux_lemma =>
                go_wp2_with fail
                go_meet
                exact ⟨by rw [← HCB.out, z1]; rfl, rfl⟩
            case false =>
              cases z2 : (ta == tb)
              case false =>
                as_aux_lemma =>
                  go_wp2_with fail
                  go_meet
                  exact ⟨by rw [← HCB.out, z1, z2]; rfl, rfl⟩
              case true =>
                as_aux_lemma =>
                  go_wp2_with fail
                  go_meet
                  exact ⟨by rw [← HCB.out, z1, z2]; rfl, rfl⟩
          case rest =>
            obtain ⟨rfl, rfl⟩ := hcut
            obtain ⟨w7, rfl⟩ : ∃ w7 : World, w7 = wc := ⟨_, rfl⟩
            have HNX := Lib.hid (show (bestOf (nodes.map NodV.n) (k + 1)).1 = (if cb = true then k else bb) ∧ (bestOf (nodes.map NodV.n) (k + 1)).2 = (if hh < x.term then x.term else hh) by
              rw [HBE.out, HTA.out, HTB.out]
              refine ⟨?_, rfl⟩
              have hcc := HCB.out
              simp only
              by_cases hc : tb < ta ∨ (ta = tb ∧ y.log.length < x.log.length)
              · rw [if_pos hc, if_pos (by rw [← hcc]; simp; omega)]
              · rw [if_neg hc, if_neg (by rw [← hcc]; simp; omega)])
            clear HBE HCB HATX HATY
            go_upto_if 76 with fail
            go_cut [9] (fun s wx => s = .int .i64 ((if cb = true then k else bb : Nat) : Int) ∧ wx = w7)
            case first =>
              cases cb
              case true =>
                as_aux_lemma =>
                  go_wp2_with fail
                  go_meet
                  exact ⟨rfl, rfl⟩
              case false =>
                as_aux_lemma =>
                  go_wp2_with fail
                  go_meet
                  exact ⟨rfl, rfl⟩
            case rest =>
              obtain ⟨rfl, rfl⟩ := hcut
              obtain ⟨w8, rfl⟩ : ∃ w8 : World, w8 = wc := ⟨_, rfl⟩
              generalize (if cb = true then k else bb) = nb at *
              have HKF := Lib.hid ((HKR.out.trans HK45.out (fun _ h => .inl h)).trans HKX.out (fun _ h => .inl h))
              by_cases ht : hh < x.term
              · have z1 : decide (hh < x.term) = true := by simp; omega
                rw [if_pos ht] at HNX
                clear ht
                go_wp2_with fail
                go_roundw
                case rel => exact ⟨k + 1, by omega, by go_num, by rw [HNX.out.1], by rw [HNX.out.2], HKF.out⟩
                case measure => simp [intOf]; omega
              · have z1 : decide (hh < x.term) = false := by simp; omega
                rw [if_neg ht] at HNX
                clear ht
                go_wp2_with fail
                go_roundw
                case rel => exact ⟨k + 1, by omega, by go_num, by rw [HNX.out.1], by rw [HNX.out.2], HKF.out⟩
                case measure => simp [intOf]; omega
      · obtain rfl : k = nodes.length := by omega
        go_wp2_with fail
        go_meet
        exact ⟨_, _, rfl, rfl, rfl, HKR.out⟩
  case rest =>
    obtain ⟨bb, hh, rfl, rfl, hbe, hkx⟩ := hcut
    obtain ⟨w4, rfl⟩ : ∃ w4 : World, w4 = wc := ⟨_, rfl⟩
    have hbl : bb < nodes.length := by
      have h1 := (bestOf_spec (nodes.map NodV.n) (fun x hx => by
        rw [HNS.out] at hx
        obtain ⟨i, hi, rfl⟩ := List.mem_iff_getElem.1 hx
        exact ((ran_sound HN.out evs).good i hi).term0) nodes.length (by rw [List.length_map]; exact Nat.le_refl _)).1 (by rw [List.length_map]; exact hnl1)
      rw [hbe, List.length_map] at h1
      exact h1
    have HBE := Lib.hid hbe; have HKX := Lib.hid hkx; have HB4 := Lib.hid (hkx.blk HB3.out); have HK4 := Lib.hid (HK3.out.trans hkx (fun _ h => .inl h))
    have HOK4 := Lib.hid (HOK3.out.into (S' := fun j => j = B) hkx (fun _ _ h => h.elim) (fun _ _ h => h))
    clear hbe hkx c0 c1 cf
    obtain ⟨b, off, x, LA, LC, VA, VL, VC, MA, ML, MC, PA, PL, PC, rfl, hxk, hxo, r0, r1, r2, r3, r4, r5, r6, r7, r8, r9, r10⟩ := HOK4.out.node (Keeps.refl Free w4) hbl
    obtain ⟨c0, c1, cf⟩ := cells2 HB4.out
    have HXK := Lib.hid (show nodes[bb].n = x by rw [hxk])
    have hx60 : x.log.length ≤ 60 := by
      have h1 := (ran_sound HN.out evs).good bb (by rw [← HNS.out, List.length_map]; exact hbl)
      have h2 : (ran n evs).nodes[bb]'(by rw [← HNS.out, List.length_map]; exact hbl) = x := by simp only [← HNS.out, List.getElem_map, hxk]
      rw [h2] at h1
      exact h1.log60
    have hwb : IntKind.i64.wrap ((bb : Int) + 1) = (bb : Int) + 1 := IntWalk.i64_in _ (by omega)
    have hwl : IntKind.i64.wrap ((x.log.length : Int) + 2) = (x.log.length : Int) + 2 := IntWalk.i64_in _ (by omega)
    clear hxk hxo
    by_cases hroom : 60 < x.log.length + 2
    · have z1 : decide (60 < (x.log.length : Int) + 2) = true := by simp; omega
      clear hroom
      go_wp2_with fail
      go_ret
      exact ⟨rfl, HK4.out⟩
    have z1 : decide (60 < (x.log.length : Int) + 2) = false := by simp; omega
    obtain ⟨id, hid⟩ : ∃ id : Int, (bb : Int) + 1 = id := ⟨_, rfl⟩
    have HID := Lib.hid hid
    have HST := Lib.hid (HSTP.out w4 (fun j => j = B) ⟨nodes, [], .slice (some ⟨b, off, none⟩) nodes.length NC, .slice none 0 0⟩ ⟨7, (bb : Int) + 1, 0⟩ HOK4.out (fun j e => by rw [e]; exact laid_lt HB4.out) (by simp only; omega) (by simp))
    have HGO := Lib.hid (ran_goes HN.out evs hll cmd (b := bb) (high := hh) (by rw [← HNS.out, List.length_map]; exact HBE.out) (by
      have h1 := nd_of (u := ran n evs) (W := ⟨nodes, nt2, .slice (some ⟨b, off, none⟩) nodes.length NC, .slice OA2 nt2.length OC2⟩) (by rw [← HW2.out]) hbl
      simp only at h1
      rw [h1, HXK.out]
      omega))
    have HGT4 := Lib.hid (show GoAt w B ⟨(ran n evs).nodes, []⟩ w4 from ⟨_, HOK4.out, HU.out, HB4.out, HK4.out⟩)
    have HS4 := Lib.hid (fewer (ran_sound HN.out evs) (ran_inv HN.out evs) (net := []) (fun m hm => by simp at hm) (by simp)).1
    have hcx : WldV.w ⟨nodes, [], .slice (some ⟨b, off, none⟩) nodes.length NC, .slice none 0 0⟩ = ⟨(ran n evs).nodes, []⟩ := HU.out
    have HCX := Lib.hid hcx
    clear hcx hid hroom
    go_upto_region 22 with (first
      | (go_at_call 47
         refine HST.out.mono ?_
         rintro e w5 ⟨W5, rfl, h51, h52, k5⟩
         obtain ⟨NA5, NC5, OA5, OC5, wf, e1, e2, hwf, hgo, hkf, v0, v1, d0, d1, df, -⟩ := HGT4.out.stored HWB.out h52 k5
         rw [HCX.out] at h51
         rw [h51] at hgo
         have HGF := Lib.hid hgo
         obtain ⟨nd5, nt5, nv5, ov5⟩ := W5
         simp only at e1 e2
         subst e1 e2
         clear r0 r1 r2 r3 r4 r5 r6 r7 r8 r9 r10 c0 c1 cf h51 h52 hgo
         simp only))
    clear HST HGT4 k5 hkf d0 d1 df hwf hwl z1
    obtain ⟨u0, hu0⟩ : ∃ u0, cstep ⟨(ran n evs).nodes, []⟩ ⟨7, (bb : Int) + 1, 0⟩ = u0 := ⟨_, rfl⟩
    rw [hu0] at HGF HGO
    have HS0 := Lib.hid (hu0 ▸ cstep_sound HS4.out _ : Sound n u0)
    clear hu0
    go_upto_block 2 with fail
    go_cut [17] (fun _ wx => GoAt w B (tryN hh ((bb : Int) + 1) (evs.length + 2) u0) wx ∧ Sound n (tryN hh ((bb : Int) + 1) (evs.length + 2) u0))
    case first =>
      have hwl : IntKind.i64.wrap ((evs.length : Int) + 2) = (evs.length : Int) + 2 := IntWalk.i64_in _ (by omega)
      go_wp2_with fail
      go_loopw [17] (fun i wr => ∃ ki : Int, 0 ≤ ki ∧ ki ≤ (evs.length : Int) + 2 ∧ i = .int .i64 ki ∧ ∃ u, tryN hh ((bb : Int) + 1) (evs.length + 2 - ki.toNat) u = tryN hh ((bb : Int) + 1) (evs.length + 2) u0 ∧ Sound n u ∧ GoAt w B u wr) (fun i _ => evs.length + 3 - (intOf i).toNat)
      case atStart => exact ⟨0, Int.le_refl _, by omega, rfl, u0, rfl, HS0.out, HGF.out⟩
      case round =>
        obtain ⟨ki, hk0, hk2, rfl, u, huu, hsu, hgu⟩ := hrel
        have HGU := Lib.hid hgu; have HSU := Lib.hid hsu; have HUU := Lib.hid huu
        obtain ⟨W, i1, i2, i3, i4⟩ := hgu
        obtain ⟨nd, nt, nv, ov⟩ := W
        obtain ⟨NA', NC', en1⟩ := i1.cells.form (nods_len nd) (by decide)
        obtain ⟨OA', OC', en2⟩ := i1.msgs.cells.form (mess_len nt) (by decide)
        simp only at en1 en2
        subst en1 en2
        have hndn : (nd.length : Int) = n := by have := hsu.len; rw [← i2] at this; simpa [WldV.w] using this
        have hbn : bb < nd.length := by have := HNL.out; omega
        obtain ⟨b2, off2, x2, LA2, LC2, VA2, VL2, VC2, MA2, ML2, MC2, PA2, PL2, PC2, rfl, hxk2, -, r0, r1, r2, r3, r4, r5, r6, r7, r8, r9, r10⟩ := i1.node (Keeps.refl Free wr) hbn
        have HTM := Lib.hid (show (u.nd ((bb : Int) + 1)).term = x2.term by rw [nd_of i2 hbn, hxk2])
        have hnt60 : nt.length ≤ 60 := by have := hsu.net; rw [← i2] at this; simpa [WldV.w, said] using this
        obtain ⟨c0, c1, cf⟩ := cells2 i3
        have I2 := Lib.hid i2
        by_cases hlt : ki < (evs.length : Int) + 2
        · have z1 : decide (ki < (evs.length : Int) + 2) = true := by simp; omega
          by_cases ht : x2.term ≤ hh
          · have z2 : decide (x2.term ≤ hh) = true := by simp; omega
            have hst := HSTP.out wr (fun j => j = B) ⟨nd, nt, .slice (some ⟨b2, off2, none⟩) nd.length NC', .slice OA' nt.length OC'⟩ ⟨1, (bb : Int) + 1, 0⟩ i1 (fun j e => by rw [e]; exact laid_lt i3) (by simp only; omega) (by simp only; omega)
            simp only at hst
            have HST := Lib.hid hst
            have HNX := Lib.hid (show tryN hh ((bb : Int) + 1) (evs.length + 2 - (ki + 1).toNat) (cstep u ⟨1, (bb : Int) + 1, 0⟩) = tryN hh ((bb : Int) + 1) (evs.length + 2) u0 by
              rw [← HUU.out, show evs.length + 2 - ki.toNat = (evs.length + 2 - (ki + 1).toNat) + 1 by omega]
              conv => rhs; unfold tryN
              rw [if_pos (by rw [HTM.out]; exact ht)])
            have hwk : IntKind.i64.wrap (ki + 1) = ki + 1 := IntWalk.i64_in _ (by omega)
            have HLT := Lib.hid hlt
            clear hst i1 i2 i3 i4 ht hlt hxk2 huu hsu
            go_wp2_with fail
            refine HST.out.mono ?_
            rintro e w5 ⟨W5, rfl, h51, h52, k5⟩
            obtain ⟨NA5, NC5, OA5, OC5, wf5, e1, e2, hwf5, hgo5, hkf5, v05, v15, d0, d1, df, -⟩ := HGU.out.stored HWB.out h52 k5
            rw [I2.out] at h51
            rw [h51] at hgo5
            have HGF5 := Lib.hid hgo5
            obtain ⟨nd5, nt5, nv5, ov5⟩ := W5
            simp only at e1 e2
            subst e1 e2
            clear r0 r1 r2 r3 r4 r5 r6 r7 r8 r9 r10 c0 c1 cf h51 h52 hgo5 k5 hkf5
            simp only
            go_wp2_with fail
            go_roundw
            case rel => exact ⟨ki + 1, by omega, by have := HLT.out; omega, rfl, _, HNX.out, cstep_sound HSU.out _, HGF5.out⟩
            case measure => simp [intOf]; omega
          · have z2 : decide (x2.term ≤ hh) = false := by simp; omega
            have HEQ := Lib.hid (show tryN hh ((bb : Int) + 1) (evs.length + 2) u0 = u by
              rw [← HUU.out]
              exact tryN_done (by rw [HTM.out]; omega) _)
            clear ht hlt i1 i2 i3 i4 hxk2 huu hsu
            go_wp2_with fail
            go_meet
            exact ⟨by rw [HEQ.out]; exact HGU.out, by rw [HEQ.out]; exact HSU.out⟩
        · have z1 : decide (ki < (evs.length : Int) + 2) = false := by simp; omega
          have HEQ := Lib.hid (show tryN hh ((bb : Int) + 1) (evs.length + 2) u0 = u by
            rw [← HUU.out, show evs.length + 2 - ki.toNat = 0 by omega]
            rfl)
          clear hlt i1 i2 i3 i4 hxk2 huu hsu
          go_wp2_with fail
          go_meet
          exact ⟨by rw [HEQ.out]; exact HGU.out, by rw [HEQ.out]; exact HSU.out⟩
    case rest =>
      obtain ⟨hgu, hsu⟩ := hcut
      obtain ⟨w6, rfl⟩ : ∃ w6 : World, w6 = wc := ⟨_, rfl⟩
      obtain ⟨u1, hu1⟩ : ∃ u1, tryN hh ((bb : Int) + 1) (evs.length + 2) u0 = u1 := ⟨_, rfl⟩
      rw [hu1] at hgu hsu HGO
      have HG1 := Lib.hid hgu; have HS1 := Lib.hid hsu
      clear hu1 HGF HS0 HCX HS4 HXK HOK4 HB4 HK4
      obtain ⟨W, i1, i2, i3, i4⟩ := hgu
      obtain ⟨nd, nt, nv, ov⟩ := W
      obtain ⟨NA', NC', en1⟩ := i1.cells.form (nods_len nd) (by decide)
      obtain ⟨OA', OC', en2⟩ := i1.msgs.cells.form (mess_len nt) (by decide)
      simp only at en1 en2
      subst en1 en2
      have hndn : (nd.length : Int) = n := by have := hsu.len; rw [← i2] at this; simpa [WldV.w] using this
      have hbn : bb < nd.length := by have := HNL.out; omega
      have hnt60 : nt.length ≤ 60 := by have := hsu.net; rw [← i2] at this; simpa [WldV.w, said] using this
      have HNN := Lib.hid hndn
      have I1 := Lib.hid i1; have I2 := Lib.hid i2; have I3 := Lib.hid i3; have I4 := Lib.hid i4
      obtain ⟨c0, c1, cf⟩ := cells2 i3
      have hlt6 := laid_lt i3
      clear i1 i2 i3 i4 hsu hndn
      obtain ⟨tm, htm⟩ : ∃ tm, (u1.nd ((bb : Int) + 1)).term = tm := ⟨_, rfl⟩
      have HTM := Lib.hid htm
      clear htm
      go_upto_block 4 with fail
      go_cut [18] (fun v wx => ∃ L : List MesV, said L = (said nt).filter (fun m => decide (m.term = tm)) ∧ wx.ownsRow w6.heap.size 38 9 v L.length (L.flatMap mesCells) ∧ (∀ m ∈ L, MesOk wx (fun j => j = B) m) ∧ Keeps Free w6 wx)
      case first =>
        obtain ⟨i0, hi0, hz, hsz, hby⟩ := info_parts Try.info38
        have HI := Lib.hid hi0; have HZ := Lib.hid hz; have HSZ := Lib.hid hsz; have HBY := Lib.hid hby
        clear hi0 hz hsz hby
        go_wp2_with fail
        go_loopw [18, 124] (fun v i wr => ∃ k : Nat, k ≤ nt.length ∧ i = .int .i64 k ∧ ∃ L : List MesV, said L = (said (nt.take k)).filter (fun m => decide (m.term = tm)) ∧ L.length ≤ k ∧ wr.ownsRow w6.heap.size 38 9 v L.length (L.flatMap mesCells) ∧ (∀ m ∈ L, m ∈ nt) ∧ Keeps Free w6 wr) (fun v i _ => nt.length + 1 - (intOf i).toNat)
        case atStart => exact ⟨0, Nat.zero_le _, rfl, [], rfl, Nat.le_refl _, World.ownsRow_nil _ _ _ _, fun m hm => by simp at hm, Keeps.refl _ _⟩
        case round =>
          obtain ⟨k, hk, rfl, L, hL1, hL2, ho, hL3, hkr⟩ := hrel
          obtain ⟨VA', VC', rfl, -, -⟩ := own_slice ho
          have HL1 := Lib.hid hL1; have HO := Lib.hid ho; have HL3 := Lib.hid hL3; have HKR := Lib.hid hkr
          clear hL1 ho hL3 hkr
          by_cases hlt : k < nt.length
          · obtain ⟨b3, off3, m, IA, IL, IC, rfl, hmk, hmo, r0, r1, r2, r3, r4, r5, r6, r7, r8⟩ := mes_at (I1.out.msgs.cells.into (S' := Free) HKR.out (fun _ _ h => h.elim) (fun _ _ h => h.elim)) (fun x hx => Sl.into (S' := Free) (I1.out.msgs.each x hx) HKR.out (fun _ _ h => h.elim) (fun _ _ h => h.elim)) hlt
            have HMK := Lib.hid hmk; have HMO := Lib.hid hmo
            have hb7 := heap_alloc_new wr (.cells #[.int .i64 m.kind, .int .i64 m.src, .int .i64 m.dst, .int .i64 m.term, .int .i64 m.index, .int .i64 m.logTerm, .int .i64 m.commit, .slice IA IL IC, .bool m.yes] 38)
            have hk7 := (Keeps.refl Free wr).alloc (.cells #[.int .i64 m.kind, .int .i64 m.src, .int .i64 m.dst, .int .i64 m.term, .int .i64 m.index, .int .i64 m.logTerm, .int .i64 m.commit, .slice IA IL IC, .bool m.yes] 38)
            obtain ⟨w7, hal⟩ : ∃ w7, wr.alloc (.cells #[.int .i64 m.kind, .int .i64 m.src, .int .i64 m.dst, .int .i64 m.term, .int .i64 m.index, .int .i64 m.logTerm, .int .i64 m.commit, .slice IA IL IC, .bool m.yes] 38) = w7 := ⟨_, rfl⟩
            obtain ⟨b7, hb7e⟩ : ∃ b7, wr.heap.size = b7 := ⟨_, rfl⟩
            rw [hal] at hb7 hk7
            rw [hb7e] at hb7
            have HB7 := Lib.hid hb7; have HK7 := Lib.hid hk7; have HBX := Lib.hid (hk7.blk (HKR.out.blk I3.out)); have HO7 := Lib.hid (own_later HO.out hk7); have HKR7 := Lib.hid (HKR.out.trans hk7 (fun _ h => .inl h))
            obtain ⟨b2, off2, x2, LA2, LC2, VA2, VL2, VC2, MA2, ML2, MC2, PA2, PL2, PC2, hA2, hxk2, -, s0, s1, s2, s3, s4, s5, s6, s7, s8, s9, s10⟩ := I1.out.node HKR7.out hbn
            subst hA2
            have htx : x2.term = tm := by rw [← HTM.out, nd_of I2.out hbn, hxk2]
            rw [htx] at s2
            clear htx hxk2 hmk hmo hb7 hk7
            go_upto_region 30 with fail
            clear r0 r1 r2 r3 r4 r5 r6 r7 r8 hal hb7e
            obtain ⟨tb, htb⟩ : ∃ tb, (m.term == tm) = tb := ⟨_, rfl⟩
            have HTB := Lib.hid htb
            go_cut [136] (fun s wx => s = .bool tb ∧ Keeps Free w7 wx)
            case first =>
              refine Wf.wp_region_first (C := fun w' => Keeps Free w7 w') (by kernel_rfl) 99 ?_
              have HKW := Lib.hid (show Keeps Free w7 { w7 with drawn := w7.drawn + 1 } from (Keeps.refl Free w7).drew)
              obtain ⟨WW, hW⟩ : ∃ W : World, W = { w7 with drawn := w7.drawn + 1 } := ⟨_, rfl⟩
              rw [← hW] at HKW ⊢
              clear hW
              apply Wf.wpAnyP_stays (by kernel_rfl) [0, 1, 2, 3, 4, 5, 6, 7, 8] _ _ _ 0 _ HKW.out (by kernel_rfl) ?hs ?hr
              case hs =>
                apply Wf.wpStays_step rfl rfl
                · intro w' hw'
                  clear hw'
                  go_simp
                  exact ⟨rfl, rfl⟩
                go_simp
                apply Wf.wpStays_step rfl rfl
                · intro w' hw'
                  obtain ⟨e0, e1, e2, e3, e4, e5, e6, e7, e8, ef⟩ := cells9v (Keeps.blk hw' HB7.out)
                  clear hw'
                  go_simp
                  exact ⟨rfl, rfl⟩
                go_simp
                apply Wf.wpStays_step rfl rfl
                · intro w' hw'
                  clear hw'
                  go_simp
                  exact ⟨rfl, rfl⟩
                go_simp
                apply Wf.wpStays_step rfl rfl
                · intro w' hw'
                  obtain ⟨e0, e1, ef⟩ := cells2 (Keeps.blk hw' HBX.out)
                  clear hw'
                  go_simp
                  exact ⟨rfl, rfl⟩
                go_simp
                apply Wf.wpStays_step rfl rfl
                · intro w' hw'
                  clear hw'
                  go_simp
                  exact ⟨rfl, rfl⟩
                go_simp
                apply Wf.wpStays_step rfl rfl
                · intro w' hw'
                  clear hw'
                  go_simp
                  exact ⟨rfl, rfl⟩
                go_simp
                apply Wf.wpStays_step rfl rfl
                · intro w' hw'
                  clear hw'
                  go_simp
                  exact ⟨rfl, rfl⟩
                go_simp
                apply Wf.wpStays_step rfl rfl
                · intro w' hw'
                  have n0 := Keeps.cell hw' (fun h => h) s2
                  clear hw'
                  go_simp
                  exact ⟨rfl, rfl⟩
                go_simp
                apply Wf.wpStays_step rfl rfl
                · intro w' hw'
                  clear hw'
                  go_simp
                  exact ⟨rfl, rfl⟩
                go_simp
                exact rfl
              case hr =>
                refine ⟨by kernel_rfl, ?_⟩
                go_wp2_with fail
                go_meet
                exact ⟨rfl, HKW.out⟩
            case rest =>
              obtain ⟨rfl, hkx⟩ := hcut
              obtain ⟨w8, rfl⟩ : ∃ w8 : World, w8 = wc := ⟨_, rfl⟩
              have HKX := Lib.hid (HKR7.out.trans hkx (fun _ h => .inl h))
              have HO8 := Lib.hid (own_later HO7.out hkx)
              obtain ⟨p0, p1, p2, p3, p4, p5, p6, p7, p8, pf⟩ := cells9v (hkx.blk HB7.out)
              have HTK := Lib.hid (show said (nt.take (k + 1)) = said (nt.take k) ++ [m] by
                have e : nt.take (k + 1) = nt.take k ++ [nt[k]] := List.take_succ_eq_append_getElem hlt
                rw [e, HMK.out]
                simp [said])
              clear htb hkx s0 s1 s2 s3 s4 s5 s6 s7 s8 s9 s10
              cases tb
              case false =>
                have HLN := Lib.hid (show said L = (said (nt.take (k + 1))).filter (fun m => decide (m.term = tm)) by
                  rw [HTK.out, List.filter_append, HL1.out]
                  have h1 := HTB.out
                  rw [beq_eq_false_iff_ne] at h1
                  simp [h1])
                go_wp2_with fail
                go_roundw
                case rel => exact ⟨k + 1, by omega, by go_num, L, HLN.out, by omega, HO8.out, HL3.out, HKX.out⟩
                case measure => simp [intOf]; omega
              case true =>
                have HLN := Lib.hid (show said (L ++ [⟨m, .slice IA IL IC⟩]) = (said (nt.take (k + 1))).filter (fun m => decide (m.term = tm)) by
                  rw [HTK.out, List.filter_append, ← HL1.out]
                  have h1 := HTB.out
                  rw [beq_iff_eq] at h1
                  simp [h1, said])
                have hw1 := Lib.hid (heap_alloc_new w8 (.cells #[.int .i64 m.kind, .int .i64 m.src, .int .i64 m.dst, .int .i64 m.term, .int .i64 m.index, .int .i64 m.logTerm, .int .i64 m.commit, .slice IA IL IC, .bool m.yes] 38))
                have HK1 := Lib.hid (HKX.out.alloc (.cells #[.int .i64 m.kind, .int .i64 m.src, .int .i64 m.dst, .int .i64 m.term, .int .i64 m.index, .int .i64 m.logTerm, .int .i64 m.commit, .slice IA IL IC, .bool m.yes] 38))
                go_wp2_with (at_builtin; (refine wpList_append_own _ rfl _ _ 28 rfl w6.heap.size 38 i0 _ 9 88 Try.underlying28 HI.out HZ.out HSZ.out HBY.out rfl (by decide) (.slice VA' L.length VC') L.length (L.flatMap mesCells) rfl (HO8.out.alloc _) ⟨w8.heap.size, 0, none⟩ 1 1 (mesCells ⟨m, .slice IA IL IC⟩) rfl rfl (World.news_of_block (cs := #[.int .i64 m.kind, .int .i64 m.src, .int .i64 m.dst, .int .i64 m.term, .int .i64 m.index, .int .i64 m.logTerm, .int .i64 m.commit, .slice IA IL IC, .bool m.yes]) (t := 38) (fr := (0, 0)) hw1.out) (by simp [mesCells, Value.oneCell']) ?c2 ?c3 ?c4 ?_; (case c2 => (simp [maxLen]; omega)); (case c3 => omega); (case c4 => (have := HKX.out.size; simp; omega)); intro v' w9 hown hgrow _))
                have HO9 := Lib.hid hown
                have HK9 := Lib.hid (HK1.out.trans (S' := fun g => (Value.slice VA' L.length VC').ownBlock = some g) (Keeps.of_grown hgrow fun g hg => .inl hg) fun g hg => .inr (HO8.out.lt g hg).1)
                clear hown hgrow
                go_roundw
                case rel => exact ⟨k + 1, by omega, by go_num, L ++ [⟨m, .slice IA IL IC⟩], HLN.out, by simp; omega, by rw [List.length_append, List.flatMap_append]; simpa using HO9.out, fun y hy => by
                  rcases List.mem_append.1 hy with hy | hy
                  · exact HL3.out y hy
                  · simp only [List.mem_singleton] at hy
                    subst hy
                    rw [← HMK.out]
                    exact List.getElem_mem hlt, HK9.out⟩
                case measure => simp [intOf]; omega
          · obtain rfl : k = nt.length := by omega
            go_wp2_with fail
            go_meet
            exact ⟨L, by rw [HL1.out, List.take_length], HO.out, fun y hy => Sl.into (I1.out.msgs.each y (HL3.out y hy)) HKR.out (fun _ _ h => h.elim) (fun _ _ h => h), HKR.out⟩
      case rest =>
        obtain ⟨L, hL, ho, hLm, hkx⟩ := hcut
        obtain ⟨w9, rfl⟩ : ∃ w9 : World, w9 = wc := ⟨_, rfl⟩
        obtain ⟨VA9, VC9, rfl, -, -⟩ := own_slice ho
        have hb9 := hkx.blk I3.out
        have hgb : ∀ g, (Value.slice VA9 L.length VC9).ownBlock = some g → g ≠ B := fun g hg => by have := (ho.lt g hg).1; omega
        have hk10 := (Keeps.refl (fun j => j = B) w9).setCell (p := ⟨B, 1, none⟩) (.inl rfl) (.slice VA9 L.length VC9)
        have hb10 := setCell_blk (k := 1) (u := .slice VA9 L.length VC9) hb9
        obtain ⟨w10, hw10⟩ : ∃ w10, w9.setCell ⟨B, 1, none⟩ (.slice VA9 L.length VC9) = w10 := ⟨_, rfl⟩
        rw [hw10] at hk10 hb10
        have hok10 : WldOk w10 (fun j => j = B) ⟨nd, L, .slice NA' nd.length NC', .slice VA9 L.length VC9⟩ := by
          have h1 := (I1.out.into (S' := fun j => j = B) hkx (fun _ _ h => h.elim) (fun _ _ h => h)).into (S' := fun j => j = B) hk10 (fun _ _ h => h) (fun _ _ h => h)
          exact ⟨h1.cells, h1.each, ⟨(Sl.of_own ho hgb).into hk10 (fun _ _ h => h) (fun _ _ h => h), fun m hm => Sl.into (hLm m hm) hk10 (fun _ _ h => h) (fun _ _ h => h)⟩⟩
        have hno : WldV.w ⟨nd, L, .slice NA' nd.length NC', .slice VA9 L.length VC9⟩ = nowOf ((bb : Int) + 1) u1 := by
          unfold nowOf
          rw [HTM.out, ← I2.out]
          unfold WldV.w
          simp only [hL]
        have HK10 := Lib.hid ((I4.out.trans hkx (fun _ h => .inl h)).trans hk10 (fun j e => .inr (by rw [e]; exact HWB.out)))
        have HG10 := Lib.hid (show GoAt w B (nowOf ((bb : Int) + 1) u1) w10 from ⟨_, hok10, hno, hb10.trans rfl, HK10.out⟩)
        have HS10 := Lib.hid (show Sound n (nowOf ((bb : Int) + 1) u1) from ⟨HS1.out.len, HS1.out.good, HS1.out.id, HS1.out.n, Nat.le_trans (List.length_filter_le _ _) HS1.out.net⟩)
        have HC1 := Lib.hid (lawCalm_any (n := n) HSTP.out hok10 (fun j e => by rw [e]; exact laid_lt hb10) (by rw [hno]; exact HS10.out) HN.out)
        have HNO := Lib.hid hno
        obtain ⟨p0, p1, pf⟩ := cells2 hb9
        obtain ⟨q0, q1, qf⟩ := cells2 (hb10.trans rfl : w10.heap[B]? = some (.cells #[.slice NA' nd.length NC', .slice VA9 L.length VC9] 55 (0, 0)))
        simp only at HC1
        clear hL ho hLm hkx hb9 hk10 hb10 hok10 hno hgb c0 c1 cf
        go_upto_region 36 with (first
          | (go_at_call 52
             refine HC1.out.mono ?_
             rintro e w11 ⟨W11, rfl, hw11, hok11, k11⟩
             obtain ⟨NA11, NC11, OA11, OC11, wf11, e1, e2, hwf11, hgo11, hkf11, v0, v1, d0, d1, df, hfb11⟩ := HG10.out.stored HWB.out hok11 k11
             rw [HNO.out] at hw11
             rw [hw11] at hgo11
             have HGF11 := Lib.hid hgo11
             obtain ⟨nd11, nt11, nv11, ov11⟩ := W11
             simp only at e1 e2
             subst e1 e2
             have hs11 : Sound n (calmN 3000 (nowOf ((bb : Int) + 1) u1)) := calmN_sound 3000 HS10.out
             have HS11 := Lib.hid hs11
             have hls := hs11.lens HN.out
             have hokf : WldOk wf11 (fun j => j = B) ⟨nd11, nt11, .slice NA11 nd11.length NC11, .slice OA11 nt11.length OC11⟩ := hok11.into hkf11 (fun _ _ h => h) (fun _ _ h => h)
             simp only at hfb11
             obtain ⟨c0, c1, cf⟩ := cells2 hfb11
             have h47 := HSTP.out wf11 (fun j => j = B) ⟨nd11, nt11, .slice NA11 nd11.length NC11, .slice OA11 nt11.length OC11⟩ ⟨3, (bb : Int) + 1, cmd⟩ hokf (fun j e => by rw [e]; exact laid_lt hfb11) (by rw [← hw11] at hls; have := hls.1; simpa [WldV.w] using this) (by rw [← hw11] at hls; have := hls.2; simpa [WldV.w, said] using this)
             simp only at h47
             have H47 := Lib.hid h47; have HW11 := Lib.hid hw11
             clear h47 hokf hgo11 hfb11 hls hs11 hw11 hok11 k11 hkf11 HC1 q0 q1 qf p0 p1 pf
             simp only)
          | (go_at_call 47
             refine H47.out.mono ?_
             rintro e w12 ⟨W12, rfl, hw12, hok12, k12⟩
             obtain ⟨nd12, nt12, nv12, ov12⟩ := W12
             obtain ⟨NA12, NC12, e1⟩ := hok12.cells.form (nods_len nd12) (by decide)
             obtain ⟨OA12, OC12, e2⟩ := hok12.msgs.cells.form (mess_len nt12) (by decide)
             simp only at e1 e2
             subst e1 e2
             rw [HW11.out] at hw12
             have hc2 := lawCalm_any (n := n) HSTP.out hok12 (fun j e => by rw [e]; exact Nat.lt_of_lt_of_le (HGF11.out.blk) k12.size) (by rw [hw12]; exact cstep_sound HS11.out _) HN.out
             simp only at hc2
             have HC2 := Lib.hid hc2; have HW12 := Lib.hid hw12; have HK12 := Lib.hid k12
             clear hc2 hw12 hok12 k12 H47 c0 c1 cf d0 d1 df hwf11
             simp only)
          | (go_at_call 52
             refine HC2.out.mono ?_
             rintro e w13 ⟨W13, rfl, hw13, hok13, k13⟩
             obtain ⟨NA13, NC13, OA13, OC13, wf13, e1, e2, hwf13, hgo13, hkf13, v0', v1', d0, d1, df, hfb13⟩ := HGF11.out.stored HWB.out hok13 (HK12.out.trans k13 (fun _ h => .inl h))
             rw [HW12.out] at hw13
             rw [hw13] at hgo13
             have HGF13 := Lib.hid hgo13
             obtain ⟨nd13, nt13, nv13, ov13⟩ := W13
             simp only at e1 e2
             subst e1 e2
             clear hw13 hok13 k13 hkf13 hgo13 HC2
             simp only))
        clear HG10 HS10 HNO HK10 HTM HW11 HGF11 HS11 HW12 HK12 I1 I2 I3 I4 HNN HS1 HG1 d0 d1 df hwf13 HSTP HEV
        obtain ⟨uF, huF⟩ : ∃ uF, calmN 3000 (cstep (calmN 3000 (nowOf ((bb : Int) + 1) u1)) ⟨3, (bb : Int) + 1, cmd⟩) = uF := ⟨_, rfl⟩
        rw [huF] at HGF13 HGO
        clear huF
        obtain ⟨g1, g2, g3, ⟨lg, g4⟩, g5⟩ := HGO.out
        obtain ⟨W, i1, i2, i3, i4⟩ := HGF13.out
        obtain ⟨ndF, ntF, nv, ov⟩ := W
        obtain ⟨NF, NFC, en1⟩ := i1.cells.form (nods_len ndF) (by decide)
        obtain ⟨OF, OFC, en2⟩ := i1.msgs.cells.form (mess_len ntF) (by decide)
        simp only at en1 en2
        subst en1 en2
        have hndF : (ndF.length : Int) = n := by have := g1.len; rw [← i2] at this; simpa [WldV.w] using this
        have hbF : bb < ndF.length := by have := HNL.out; omega
        rw [nd_of i2 hbF] at g2 g3 g4
        obtain ⟨b2, off2, x2, LA2, LC2, VA2, VL2, VC2, MA2, ML2, MC2, PA2, PL2, PC2, rfl, hxk2, hxo2, s0, s1, s2, s3, s4, s5, s6, s7, s8, s9, s10⟩ := i1.node (Keeps.refl Free wf13) hbF
        have HALL := Lib.hid (show ∀ (j : Nat) (hj : j < ndF.length), ndF[j].n.log = x2.log from fun j hj => by
          have h1 := g5 ((j : Int) + 1) (by omega) (by omega)
          rw [nd_of i2 hj, nd_of i2 hbF, hxk2] at h1
          exact h1)
        rw [hxk2] at g2 g3 g4
        simp only at g2 g3 g4
        have hx60 : x2.log.length ≤ 60 := by
          have h1 := (g1.nd_good (k := (bb : Int) + 1) (by omega) (by omega)).1.log60
          rw [nd_of i2 hbF, hxk2] at h1
          exact h1
        rw [g3] at s5
        rw [g2] at s6
        have hkk : x2.log.length = lg.length + 1 := by rw [g4]; simp
        have hit : ∀ (h : lg.length < x2.log.length), x2.log[lg.length] = ⟨x2.term, cmd⟩ := by
          rw [g4]
          intro h
          simp
        obtain ⟨b4, off4, rfl, -, t0, t1⟩ := Sl.item' (show Sl wf13 (fun j => j = B) (.slice LA2 x2.log.length LC2) 2 (itemCells x2.log) from hxo2.log) (j := lg.length) (by omega)
        rw [hit (by omega)] at t0 t1
        simp only at t0 t1
        obtain ⟨wB, bB, halB, hbB, hkB, hbbB⟩ := box11 wf13 (.int .i64 x2.id) (.int .i64 x2.n) (.int .i64 x2.term) (.int .i64 x2.vote) (.slice (some ⟨b4, off4, none⟩) x2.log.length LC2) (.int .i64 (x2.log.length : Int)) (.int .i64 3) (.int .i64 x2.boss) (.slice VA2 VL2 VC2) (.slice MA2 ML2 MC2) (.slice PA2 PL2 PC2)
        have HBB := Lib.hid hbbB; have HKB := Lib.hid hkB; have HI1 := Lib.hid i1; have HI3 := Lib.hid i3; have HI4 := Lib.hid i4; have HXO := Lib.hid hxo2; have HNF := Lib.hid hndF
        have j0 := hkB.cell (fun h => h) t0; have j1 := hkB.cell (fun h => h) t1
        obtain ⟨c0, c1, cf⟩ := cells2 i3
        have hwk : IntKind.i64.wrap ((x2.log.length : Int) - 1) = (lg.length : Int) := by rw [IntWalk.i64_in _ (by omega)]; omega
        have hz0 : ((x2.log.length : Int) == 0) = false := by rw [beq_eq_false_iff_ne]; omega
        have hlx : lg.length < x2.log.length := by omega
        clear g1 g2 g3 g4 g5 i1 i2 i3 i4 hxk2 hxo2 hit hkB hbbB t0 t1 hkk HGO hndF HGF13
        go_upto_region 37 with fail
        clear s0 s1 s2 s3 s4 s5 s6 s7 s8 s9 s10 c0 c1 cf halB hbB
        go_cut [188] (fun s wx => s = .bool false ∧ Keeps Free wB wx)
        case first =>
          refine Wf.wp_region_first (C := fun w' => Keeps Free wB w') (by kernel_rfl) 99 ?_
          have HKW := Lib.hid (show Keeps Free wB { wB with drawn := wB.drawn + 1 } from (Keeps.refl Free wB).drew)
          obtain ⟨WW, hW⟩ : ∃ W : World, W = { wB with drawn := wB.drawn + 1 } := ⟨_, rfl⟩
          rw [← hW] at HKW ⊢
          clear hW
          apply Wf.wpAnyP_stays (by kernel_rfl) [0, 1, 2, 3, 4, 5, 6, 7, 8, 9, 10, 11, 12, 13, 14, 15, 16, 17, 18, 19, 20, 21, 22, 23, 24, 25, 26, 27, 28, 29, 30, 31] _ _ _ 0 _ HKW.out (by kernel_rfl) ?hs ?hr
          case hs =>
            apply Wf.wpStays_step rfl rfl
            · intro w' hw'
              clear hw'
              go_simp
              exact ⟨rfl, rfl⟩
            go_simp
            apply Wf.wpStays_step rfl rfl
            · intro w' hw'
              obtain ⟨e0, e1, e2, e3, e4, e5, e6, e7, e8, e9, e10, ef⟩ := cells11 (Keeps.blk hw' HBB.out)
              clear hw'
              go_simp
              exact ⟨rfl, rfl⟩
            go_simp
            apply Wf.wpStays_step rfl rfl
            · intro w' hw'
              clear hw'
              go_simp
              exact ⟨rfl, rfl⟩
            go_simp
            apply Wf.wpStays_step rfl rfl
            · intro w' hw'
              clear hw'
              go_simp
              exact ⟨rfl, rfl⟩
            go_simp
            apply Wf.wpStays_wanted rfl (by rfl)
            · intro w' hw'
              clear hw'
              go_simp
              exact ⟨rfl, rfl⟩
            go_simp
            apply Wf.wpStays_wanted rfl (by rfl)
            · intro w' hw'
              obtain ⟨e0, e1, e2, e3, e4, e5, e6, e7, e8, e9, e10, ef⟩ := cells11 (Keeps.blk hw' HBB.out)
              clear hw'
              go_simp
              exact ⟨rfl, rfl⟩
            go_simp
            apply Wf.wpStays_wanted rfl (by rfl)
            · intro w' hw'
              clear hw'
              go_simp
              exact ⟨rfl, rfl⟩
            go_simp
            apply Wf.wpStays_wanted rfl (by rfl)
            · intro w' hw'
              obtain ⟨e0, e1, e2, e3, e4, e5, e6, e7, e8, e9, e10, ef⟩ := cells11 (Keeps.blk hw' HBB.out)
              clear hw'
              go_simp
              exact ⟨rfl, rfl⟩
            go_simp
            apply Wf.wpStays_wanted rfl (by rfl)
            · intro w' hw'
              clear hw'
              go_simp
              exact ⟨rfl, rfl⟩
            go_simp
            apply Wf.wpStays_wanted rfl (by rfl)
            · intro w' hw'
              clear hw'
              go_simp
              exact ⟨rfl, rfl⟩
            go_simp
            apply Wf.wpStays_step rfl rfl
            · intro w' hw'
              clear hw'
              go_simp
              exact ⟨rfl, rfl⟩
            go_simp
            apply Wf.wpStays_step rfl rfl
            · intro w' hw'
              clear hw'
              go_simp
              exact ⟨rfl, rfl⟩
            go_simp
            apply Wf.wpStays_wanted rfl (by rfl)
            · intro w' hw'
              clear hw'
              go_simp
              exact ⟨rfl, rfl⟩
            go_simp
            apply Wf.wpStays_wanted rfl (by rfl)
            · intro w' hw'
              obtain ⟨e0, e1, e2, e3, e4, e5, e6, e7, e8, e9, e10, ef⟩ := cells11 (Keeps.blk hw' HBB.out)
              clear hw'
              go_simp
              exact ⟨rfl, rfl⟩
            go_simp
            apply Wf.wpStays_wanted rfl (by rfl)
            · intro w' hw'
              clear hw'
              go_simp
              exact ⟨rfl, rfl⟩
            go_simp
            apply Wf.wpStays_wanted rfl (by rfl)
            · intro w' hw'
              clear hw'
              go_simp
              exact ⟨rfl, rfl⟩
            go_simp
            apply Wf.wpStays_step rfl rfl
            · intro w' hw'
              clear hw'
              go_simp
              exact ⟨rfl, rfl⟩
            go_simp
            apply Wf.wpStays_step rfl rfl
            · intro w' hw'
              clear hw'
              go_simp
              exact ⟨rfl, rfl⟩
            go_simp
            apply Wf.wpStays_wanted rfl (by rfl)
            · intro w' hw'
              clear hw'
              go_simp
              exact ⟨rfl, rfl⟩
            go_simp
            apply Wf.wpStays_wanted rfl (by rfl)
            · intro w' hw'
              obtain ⟨e0, e1, e2, e3, e4, e5, e6, e7, e8, e9, e10, ef⟩ := cells11 (Keeps.blk hw' HBB.out)
              clear hw'
              go_simp
              exact ⟨rfl, rfl⟩
            go_simp
            apply Wf.wpStays_wanted rfl (by rfl)
            · intro w' hw'
              clear hw'
              go_simp
              exact ⟨rfl, rfl⟩
            go_simp
            apply Wf.wpStays_wanted rfl (by rfl)
            · intro w' hw'
              obtain ⟨e0, e1, e2, e3, e4, e5, e6, e7, e8, e9, e10, ef⟩ := cells11 (Keeps.blk hw' HBB.out)
              clear hw'
              go_simp
              exact ⟨rfl, rfl⟩
            go_simp
            apply Wf.wpStays_wanted rfl (by rfl)
            · intro w' hw'
              clear hw'
              go_simp
              exact ⟨rfl, rfl⟩
            go_simp
            apply Wf.wpStays_wanted rfl (by rfl)
            · intro w' hw'
              clear hw'
              go_simp
              exact ⟨rfl, rfl⟩
            go_simp
            apply Wf.wpStays_wanted rfl (by rfl)
            · intro w' hw'
              clear hw'
              go_simp
              exact ⟨rfl, rfl⟩
            go_simp
            apply Wf.wpStays_wanted rfl (by rfl)
            · intro w' hw'
              have n0 := Keeps.cell hw' (fun h => h) j0
              have n1 := Keeps.cell hw' (fun h => h) j1
              clear hw'
              go_simp
              exact ⟨rfl, rfl⟩
            go_simp
            apply Wf.wpStays_wanted rfl (by rfl)
            · intro w' hw'
              clear hw'
              go_simp
              exact ⟨rfl, rfl⟩
            go_simp
            apply Wf.wpStays_wanted rfl (by rfl)
            · intro w' hw'
              obtain ⟨e0, e1, e2, e3, e4, e5, e6, e7, e8, e9, e10, ef⟩ := cells11 (Keeps.blk hw' HBB.out)
              clear hw'
              go_simp
              exact ⟨rfl, rfl⟩
            go_simp
            apply Wf.wpStays_wanted rfl (by rfl)
            · intro w' hw'
              clear hw'
              go_simp
              exact ⟨rfl, rfl⟩
            go_simp
            apply Wf.wpStays_wanted rfl (by rfl)
            · intro w' hw'
              clear hw'
              go_simp
              exact ⟨rfl, rfl⟩
            go_simp
            apply Wf.wpStays_wanted rfl (by rfl)
            · intro w' hw'
              clear hw'
              go_simp
              exact ⟨rfl, rfl⟩
            go_simp
            apply Wf.wpStays_step rfl rfl
            · intro w' hw'
              clear hw'
              go_simp
              exact ⟨rfl, rfl⟩
            go_simp
            exact rfl
          case hr =>
            refine ⟨by kernel_rfl, ?_⟩
            go_wp2_with fail
            go_meet
            exact ⟨rfl, HKW.out⟩
        case rest =>
          obtain ⟨rfl, hkx⟩ := hcut
          obtain ⟨wC, rfl⟩ : ∃ wC : World, wC = wc := ⟨_, rfl⟩
          have HKC := Lib.hid (HKB.out.trans hkx (fun _ h => .inl h)); have HBC := Lib.hid (hkx.blk HBB.out)
          have HB2 := Lib.hid (HKC.out.blk HI3.out)
          obtain ⟨c0, c1, cf⟩ := cells2 HB2.out
          clear hkx j0 j1 hwk hz0
          go_wp2_with fail
          clear c0 c1 cf
          go_loopw [192] (fun i wr => ∃ k : Nat, k ≤ ndF.length ∧ i = .int .i64 k ∧ Keeps Free wC wr) (fun i _ => 10 - (intOf i).toNat)
          case atStart => exact ⟨0, Nat.zero_le _, rfl, Keeps.refl _ _⟩
          case round =>
            obtain ⟨k, hk, rfl, hkr⟩ := hrel
            have HKR := Lib.hid hkr
            clear hkr
            have hnd5 : ndF.length ≤ 5 := by have := HNF.out; omega
            by_cases hlt : k < ndF.length
            · obtain ⟨b3, off3, y, LA3, LC3, VA3, VL3, VC3, MA3, ML3, MC3, PA3, PL3, PC3, hA3, hyk, hyo, s0, s1, s2, s3, s4, s5, s6, s7, s8, s9, s10⟩ := HI1.out.node (HKC.out.trans HKR.out (fun _ h => .inl h)) hlt
              injection hA3 with hA3
              injection hA3 with hA3 hA4
              subst hA3 hA4
              have hyl : y.log = x2.log := by have := HALL.out k hlt; rwa [hyk] at this
              obtain ⟨wD, bD, halD, hbD, hkD, hbbD⟩ := box11 wr (.int .i64 y.id) (.int .i64 y.n) (.int .i64 y.term) (.int .i64 y.vote) (.slice LA3 y.log.length LC3) (.int .i64 y.commit) (.int .i64 y.role) (.int .i64 y.boss) (.slice VA3 VL3 VC3) (.slice MA3 ML3 MC3) (.slice PA3 PL3 PC3)
              obtain ⟨p0, p1, p2, p3, p4, p5, p6, p7, p8, p9, p10, pf⟩ := cells11 hbbD
              obtain ⟨q0, q1, q2, q3, q4, q5, q6, q7, q8, q9, q10, qf⟩ := cells11 (hkD.blk (HKR.out.blk HBC.out))
              have h34 := same_any (w := wD) (S := Free) (l := y.log) (v1 := .slice LA3 y.log.length LC3) (v2 := .slice (some ⟨b4, off4, none⟩) x2.log.length LC2) ((hyo.into (S' := Free) hkD (fun _ _ h => h.elim) (fun _ _ h => h.elim)).log) (by
                rw [hyl]
                exact (HXO.out.into (S' := Free) ((HKC.out.trans HKR.out (fun _ h => .inl h)).trans hkD (fun _ h => .inl h)) (fun _ _ h => h.elim) (fun _ _ h => h.elim)).log) (by rw [hyl]; omega)
              have H34 := Lib.hid h34; have HKD := Lib.hid hkD
              clear h34 hyl hyk hyo hkD hbbD
              go_wp2_with (first
                | (go_at_call 34
                   refine H34.out.mono ?_
                   rintro e wE ⟨rfl, hkE⟩
                   have HKE := Lib.hid hkE
                   clear hkE H34))
              go_roundw
              case rel => exact ⟨k + 1, by omega, by go_num, (HKR.out.trans HKD.out (fun _ h => .inl h)).trans HKE.out (fun _ h => .inl h)⟩
              case measure => simp [intOf]; omega
            · go_wp2_with fail
              go_ret
              exact ⟨rfl, (HI4.out.trans HKC.out (fun _ h => .inl h)).trans HKR.out (fun _ h => .inl h)⟩
end Go.Proofs.Ytibjbpakbfodaaa
