/- RaftWhole, walked. -/
import Derived.Test.YtibjbpakbfodaaaAlive
import Derived.Test.YtibjbpakbfodaaaSame
import Derived.Deep.LoopGhost
namespace Go.Proofs.Ytibjbpakbfodaaa
open Go.RowKit
theorem cells9 {w : World} {b : Nat} {t : TypeId} {v0 v1 v2 v3 v4 v5 v6 v7 v8 : Value} (h : w.heap[b]? = some (.cells #[v0, v1, v2, v3, v4, v5, v6, v7, v8] t (0, 0))) :
    w.cell? ⟨b, 0, none⟩ = some v0 ∧ w.cell? ⟨b, 1, none⟩ = some v1 ∧ w.cell? ⟨b, 2, none⟩ = some v2 ∧ w.cell? ⟨b, 3, none⟩ = some v3 ∧ w.cell? ⟨b, 4, none⟩ = some v4 ∧ w.cell? ⟨b, 5, none⟩ = some v5 ∧
      w.cell? ⟨b, 6, none⟩ = some v6 ∧ w.cell? ⟨b, 7, none⟩ = some v7 ∧ w.cell? ⟨b, 8, none⟩ = some v8 :=
  ⟨cell_of_row w b 0 _ _ _ h, cell_of_row w b 1 _ _ _ h, cell_of_row w b 2 _ _ _ h, cell_of_row w b 3 _ _ _ h, cell_of_row w b 4 _ _ _ h, cell_of_row w b 5 _ _ _ h, cell_of_row w b 6 _ _ _ h, cell_of_row w b 7 _ _ _ h, cell_of_row w b 8 _ _ _ h⟩

theorem Sl.head {w : World} {S : Nat → Prop} {A : Option Addr} {n c : Nat} {l : List Itm} (h : Sl w S (.slice A n c) 2 (itemCells l)) {k : Nat} (hk : k ≤ l.length) : Sl w S (.slice A k c) 2 (itemCells (l.take k)) := by
  obtain ⟨A', n', c', e, hl, h1, h2, hc⟩ := h
  injection e with e1 e2 e3
  subst e1 e2 e3
  rw [itemCells_length] at hl
  refine ⟨A, k, c, rfl, by rw [itemCells_length, List.length_take]; omega, by omega, h2, fun hp => ?_⟩
  rw [itemCells_length, List.length_take] at hp
  obtain ⟨b, off, rfl, hb, hcell⟩ := hc (by rw [itemCells_length]; omega)
  refine ⟨b, off, rfl, hb, fun j u hj => hcell j u ?_⟩
  rw [← itemCells_take, List.getElem?_take] at hj
  split at hj
  · exact hj
  · cases hj

set_option maxRecDepth 100000 in
set_option maxHeartbeats 8000000 in
theorem whole_walk {w : World} {x : NodV} {m : MesV} (h : NodeOk w Free x) (hm : MesOk w Free m) :
    Calls Try.prog 5 #[.agg (nodCells x).toArray, .agg (mesCells m).toArray] w fun e w' => e = .returned (.bool true) ∧ Keeps Free w w' := by
  have hrc : ∀ w1, Keeps Free w w1 → Calls Try.prog 30 #[.agg (nodCells x).toArray, .agg (mesCells m).toArray] w1 (Hands w1 (receive x.n m.m).1 (receive x.n m.m).2) := fun w1 hk => receive_any (h.into hk (fun _ _ h => h) (fun _ _ h => h)) (hm.into hk (fun _ _ h => h) (fun _ _ h => h))
  have HRC := Lib.hid hrc
  have H := Lib.hid h; have HM := Lib.hid hm
  obtain ⟨n, lv, vv, nv, mv⟩ := x
  obtain ⟨⟨LA, LL, LC, rfl, hll, -⟩, ⟨VA, VL, VC, rfl, -⟩, ⟨NA, NL, NC, rfl, -⟩, ⟨MA, ML, MC, rfl, -⟩⟩ := h
  obtain ⟨m, iv⟩ := m
  obtain ⟨IA, IL, IC, rfl, hil, -⟩ := hm
  obtain rfl : LL = n.log.length := by rw [itemCells_length] at hll; simp only at hll; omega
  obtain rfl : IL = m.items.length := by rw [itemCells_length] at hil; simp only at hil; omega
  simp only [nodCells, mesCells] at HRC
  simp only [nodCells, mesCells]
  clear hrc hll hil
  go_enter Try.func5, Try.ntmps5
  go_wp2_with fail
  obtain ⟨k0, k1, k2⟩ := two_boxes w (.cells #[.int .i64 n.id, .int .i64 n.n, .int .i64 n.term, .int .i64 n.vote, .slice LA n.log.length LC, .int .i64 n.commit, .int .i64 n.role, .int .i64 n.boss, .slice VA VL VC, .slice NA NL NC, .slice MA ML MC] 25)
    (.cells #[.int .i64 m.kind, .int .i64 m.src, .int .i64 m.dst, .int .i64 m.term, .int .i64 m.index, .int .i64 m.logTerm, .int .i64 m.commit, .slice IA m.items.length IC, .bool m.yes] 38)
  refine (alive_any _).mono ?_
  rintro e w3 ⟨rfl, hk3⟩
  have HK3 := Lib.hid (k0.trans hk3 (fun _ h => .inl h))
  have hb1 := hk3.blk k1
  have hb2 := hk3.blk k2
  have hlt : w.heap.size + 1 < w3.heap.size := (Array.getElem?_eq_some_iff.1 hb2).1
  clear k0 k1 k2 hk3
  generalize hB : w.heap.size = B at *
  obtain ⟨b0, b1, b2, b3, b4, b5, b6, b7, b8, b9, b10, bf⟩ := cells11 hb1
  obtain ⟨d0, d1, d2, d3, d4, d5, d6, d7, d8⟩ := cells9 hb2
  go_wp2_with fail
  refine (HRC.out _ HK3.out).mono ?_
  rintro e w4 ⟨x', ov, out, rfl, hx', hso, hnok, hmok, hk4⟩
  have hb1' := hk4.blk hb1
  have hb2' := hk4.blk hb2
  have HK4 := Lib.hid (HK3.out.trans hk4 (fun _ h => .inl h))
  have HB := Lib.hid hB
  clear hb1 hb2 hlt hk4 b0 b1 b2 b3 b4 b5 b6 b7 b8 b9 b10 bf d0 d1 d2 d3 d4 d5 d6 d7 d8 HRC hB
  obtain ⟨n', lv, vv, nv, mv⟩ := x'
  have HN := Lib.hid hnok; have HMS := Lib.hid hmok
  obtain ⟨⟨XA, XL, XC, rfl, hll, -⟩, ⟨VA', VL', VC', rfl, -⟩, ⟨NA', NL', NC', rfl, -⟩, ⟨MA', ML', MC', rfl, -⟩⟩ := hnok
  obtain rfl : XL = n'.log.length := by rw [itemCells_length] at hll; simp only at hll; omega
  obtain ⟨OA, OL, OC, rfl, hol, -⟩ := hmok.cells
  obtain rfl : OL = out.length := by rw [flat_length _ 9 (fun _ => rfl)] at hol; omega
  simp only [nodCells]
  have ka : Keeps (fun _ => False) w4 (w4.alloc (.cells #[.int .i64 n'.id, .int .i64 n'.n, .int .i64 n'.term, .int .i64 n'.vote, .slice XA n'.log.length XC, .int .i64 n'.commit, .int .i64 n'.role, .int .i64 n'.boss, .slice VA' VL' VC', .slice NA' NL' NC', .slice MA' ML' MC'] 25)) := (Keeps.refl _ w4).alloc _
  have hb3 := heap_alloc_new w4 (.cells #[.int .i64 n'.id, .int .i64 n'.n, .int .i64 n'.term, .int .i64 n'.vote, .slice XA n'.log.length XC, .int .i64 n'.commit, .int .i64 n'.role, .int .i64 n'.boss, .slice VA' VL' VC', .slice NA' NL' NC', .slice MA' ML' MC'] 25)
  obtain ⟨w5, hal⟩ : ∃ w5, w4.alloc (.cells #[.int .i64 n'.id, .int .i64 n'.n, .int .i64 n'.term, .int .i64 n'.vote, .slice XA n'.log.length XC, .int .i64 n'.commit, .int .i64 n'.role, .int .i64 n'.boss, .slice VA' VL' VC', .slice NA' NL' NC', .slice MA' ML' MC'] 25) = w5 := ⟨_, rfl⟩
  rw [hal] at ka hb3
  have hb1 := ka.blk hb1'
  have hb2 := ka.blk hb2'
  have HK5 := Lib.hid (HK4.out.trans ka (fun _ h => .inl h))
  have hn5 := HN.out.into (S' := Free) ka (fun _ _ h => h) (fun _ _ h => h)
  have ho5 := HMS.out.into (S' := Free) ka (fun _ _ h => h) (fun _ _ h => h)
  have H5 := Lib.hid (H.out.into (S' := Free) HK5.out (fun _ _ h => h) (fun _ _ h => h))
  have HM5 := Lib.hid (Sl.into (S' := Free) HM.out HK5.out (fun _ _ h => h) (fun _ _ h => h))
  have HN5 := Lib.hid hn5; have HO5 := Lib.hid ho5
  clear ka hb1' hb2' hn5 ho5 hll hol hmok HN HMS H HM
  obtain ⟨B2, hB2⟩ : ∃ B2, w4.heap.size = B2 := ⟨_, rfl⟩
  rw [hB2] at hb3
  have b4 : w5.cell? ⟨B, 4, none⟩ = some (.slice LA n.log.length LC) := cell_of_row w5 B 4 _ _ _ hb1
  have x4 : w5.cell? ⟨B2, 4, none⟩ = some (.slice XA n'.log.length XC) := cell_of_row w5 B2 4 _ _ _ hb3
  obtain ⟨d0, d1, d2, d3, d4, d5, d6, d7, d8⟩ := cells9 hb2
  have HHB1 := Lib.hid hb1; have HHB2 := Lib.hid hb2; have HHB3 := Lib.hid hb3
  have HX := Lib.hid hx'; have HSO := Lib.hid hso
  clear hb1 hb2 hb3 d1 d2 d3 d6 d8 hx' hso
  have fin : ∀ w', Keeps Free w5 w' → Keeps Free w w' := fun w' hk => HK5.out.trans hk (fun _ h => .inl h)
  have FIN := Lib.hid fin
  clear fin
  cases hk3 : (m.kind != 3)
  case true =>
    go_wp2_with fail
    go_ret
    exact ⟨rfl, FIN.out _ (Keeps.refl _ _)⟩
  have hkind : m.kind = 3 := by simpa using hk3
  have HKD := Lib.hid hkind
  clear hkind
  cases hol : ((out.length : Int) != 1)
  case true =>
    go_wp2_with fail
    go_ret
    exact ⟨rfl, FIN.out _ (Keeps.refl _ _)⟩
  have hol1 : out.length = 1 := by simp at hol; omega
  obtain ⟨s, rfl⟩ : ∃ s, out = [s] := List.length_eq_one_iff.1 hol1
  obtain ⟨ob, oo, rfl, s4, s8⟩ : ∃ b off, OA = some ⟨b, off, none⟩ ∧ w5.cell? ⟨b, off + 4, none⟩ = some (.int .i64 s.m.index) ∧ w5.cell? ⟨b, off + 8, none⟩ = some (.bool s.m.yes) := by
    obtain ⟨A, L, C, e, _, _, _, hc⟩ := HO5.out.cells
    injection e with e1 e2 e3
    subst e1
    obtain ⟨b, off, rfl, _, hcell⟩ := hc (by simp [mesCells])
    exact ⟨b, off, rfl, hcell 4 _ rfl, hcell 8 _ rfl⟩
  clear hol hol1
  cases hy : s.m.yes
  case false =>
    go_wp2_with fail
    go_ret
    exact ⟨rfl, FIN.out _ (Keeps.refl _ _)⟩
  have hs : (receive n m).2 = [s.m] := by rw [← HSO.out]; rfl
  have hwl : wrong n = 0 ∧ lost n m = false := by
    unfold receive at hs
    split at hs
    · simp at hs
    · rename_i hc
      exact ⟨by omega, by cases hl : lost n m; rfl; exact absurd (.inr hl) hc⟩
  have hg := good_of_wrong hwl.1
  have hx' : n' = (receive n m).1 := HX.out
  have hg' : Good n' := by rw [hx']; exact received_good hg
  obtain ⟨i0, i1, i2, i3, i4, i5, i6⟩ := receive_whole HKD.out hs hy
  rw [← hx'] at i2 i4 i5 i6
  have hl60 := hg.log60
  have hl60' := hg'.log60
  obtain ⟨k, hk⟩ : ∃ k : Nat, m.index = k := ⟨m.index.toNat, by omega⟩
  have hkt : m.index.toNat = k := by omega
  rw [hkt] at i4 i5 i6
  rw [i1] at i2
  rw [hk] at i2 i3 i6
  have hkl : k + m.items.length ≤ n'.log.length := by omega
  have hkn : k ≤ n.log.length := by omega
  rw [i1, hk] at s4
  rw [hk] at d4
  have HI4 := Lib.hid i4; have HI5 := Lib.hid i5; have HI6 := Lib.hid i6; have HKN := Lib.hid hkn; have HKL := Lib.hid hkl; have HL := Lib.hid hl60; have HL' := Lib.hid hl60'
  have hq1 : decide ((k : Int) < 0) = false := by simp
  have hw : IntKind.i64.wrap ((k : Int) + m.items.length) = k + m.items.length := IntWalk.i64_in _ (by omega)
  have hq3 : decide ((n'.log.length : Int) < (k : Int) + m.items.length) = false := by simp; omega
  have hq4 : decide ((n.log.length : Int) < (k : Int)) = false := by simp; omega
  clear i0 i1 i2 i3 i4 i5 i6 hs hwl hg hg' hx' hkt hk hk3 hl60 hl60' hkl hkn
  go_upto_region 6 with fail
  go_quiet (fail)
  clear hq1 hw hq3 hq4
  have hkn := HKN.out
  go_wp2_with fail
  clear hkn
  have hkq : Keeps (fun _ => False) w5 (w5.drewN nq) := (Keeps.refl _ w5).drewN _
  go_loopw [69] (fun i wr => ∃ j : Nat, j ≤ m.items.length ∧ i = .int .i64 j ∧ Keeps (fun _ => False) w5 wr) (fun i _ => match i with | .int _ j => m.items.length - j.toNat | _ => 0)
  case atStart => exact ⟨0, by omega, rfl, hkq⟩
  case round =>
    obtain ⟨j, hj, rfl, hk⟩ := hrel
    have HKR := Lib.hid hk
    have b4' := hk.cell (fun h => h) b4
    have x4' := hk.cell (fun h => h) x4
    have d4' := hk.cell (fun h => h) d4
    have d5' := hk.cell (fun h => h) d5
    have d7' := hk.cell (fun h => h) d7
    have hsm := HM5.out.keep hk (fun _ _ h => h.elim)
    have hsx := HN5.out.log.keep hk (fun _ _ h => h.elim)
    have hsn := H5.out.log.keep hk (fun _ _ h => h.elim)
    clear b4 x4 d4 d5 d7 hk
    by_cases hlt : j < m.items.length
    · obtain ⟨mb, mo, rfl, _, p1, p2⟩ := hsm.item' hlt
      have hkj : k + j < n'.log.length := by have := HKL.out; omega
      obtain ⟨xb, xo, rfl, _, q1, q2⟩ := hsx.item' hkj
      have heq : (n'.log[k + j]).term = (m.items[j]).term := by
        have := HI4.out j hlt
        rw [List.getElem?_eq_getElem hkj] at this
        simpa using this
      rw [heq] at q1
      have hwj : IntKind.i64.wrap ((k : Int) + j) = ((k + j : Nat) : Int) := by rw [IntWalk.i64_in _ (by have := HL'.out; omega)]; omega
      generalize (m.items[j]).term = tt at *
      generalize (m.items[j]).cmd = tc at *
      clear hsm hsx hsn b4' q2 d5' heq
      have ka := (Keeps.refl (fun _ => False) wr).alloc (.cells #[.int .i64 tt, .int .i64 tc] 44)
      have hbi := heap_alloc_new wr (.cells #[.int .i64 tt, .int .i64 tc] 44)
      obtain ⟨wa, hal2⟩ : ∃ wa, wr.alloc (.cells #[.int .i64 tt, .int .i64 tc] 44) = wa := ⟨_, rfl⟩
      obtain ⟨ia, hia⟩ : ∃ ia, wr.heap.size = ia := ⟨_, rfl⟩
      rw [hal2] at ka hbi
      rw [hia] at hbi
      have i0 : wa.cell? ⟨ia, 0, none⟩ = some (.int .i64 tt) := cell_of_row wa ia 0 _ _ _ hbi
      have x4'' := ka.cell (fun h => h) x4'
      have d4'' := ka.cell (fun h => h) d4'
      have q1' := ka.cell (fun h => h) q1
      have KA := Lib.hid ka
      clear hbi ka
      have hj60 : m.items.length ≤ 60 := by have := HKL.out; have := HL'.out; omega
      go_upto_region 11 with fail
      clear hal2 hia x4' d4' q1 p1 p2 d7'
      go_quiet (fail)
      go_wp2_with fail
      go_roundw
      case measure => simp only; omega
      case rel => exact ⟨j + 1, by omega, by go_num, HKR.out.trans (KA.out.drewN _) (fun _ h => .inl h)⟩
    · have hjl : j = m.items.length := by omega
      have f2 : ∀ ξ : Kp wr, ξ.val.cell? ⟨B2, 4, none⟩ = some (.slice XA n'.log.length XC) := fun ξ => ξ.keeps.cell (fun h => h) x4'
      have fb : ∀ ξ : Kp wr, ξ.val.cell? ⟨B, 4, none⟩ = some (.slice LA n.log.length LC) := fun ξ => ξ.keeps.cell (fun h => h) b4'
      have f4 : ∀ ξ : Kp wr, ξ.val.cell? ⟨B + 1, 4, none⟩ = some (.int .i64 k) := fun ξ => ξ.keeps.cell (fun h => h) d4'
      have f5 : ∀ ξ : Kp wr, ξ.val.cell? ⟨B + 1, 5, none⟩ = some (.int .i64 m.logTerm) := fun ξ => ξ.keeps.cell (fun h => h) d5'
      have hkx : k ≤ n'.log.length := by have := HKL.out; omega
      have hcall : ∀ ξ : Kp wr, Calls Try.prog 34 #[.slice XA k XC, .slice LA k LC] ξ.val fun e w'' => e = .returned (.bool true) ∧ ∃ ξ' : Kp wr, w'' = ξ'.val := fun ξ => by
        refine (same_any (l := n'.log.take k) (hsx.keep ξ.keeps (fun _ _ h => h.elim) |>.head hkx) (by rw [HI5.out]; exact (hsn.keep ξ.keeps (fun _ _ h => h.elim) |>.head HKN.out)) (by have := HL'.out; simp; omega)).mono ?_
        rintro e w'' ⟨rfl, hk⟩
        exact ⟨rfl, ⟨w'', ξ.keeps.trans hk (fun _ h => .inl h)⟩, rfl⟩
      have hcx : n'.log.length ≤ XC := by
        obtain ⟨A, L, C, e, _, h1, _⟩ := hsx
        injection e with e1 e2 e3; omega
      have hcn : n.log.length ≤ LC := by
        obtain ⟨A, L, C, e, _, h1, _⟩ := hsn
        injection e with e1 e2 e3; omega
      have HC := Lib.hid hcall
      have hk1 : k = 0 ∨ k - 1 < n'.log.length := by omega
      have HK1 := Lib.hid hk1
      clear hk1
      have hkn := HKN.out
      have hkxc : k ≤ XC := by omega
      have hknc : k ≤ LC := by omega
      clear hcall hsm hsn x4' b4' d4' d5' d7'
      go_upto_region 14 with fail
      by_cases hk0 : k = 0
      · subst hk0
        clear hsx
        refine wp_region_quiet_k (by kernel_rfl) (by kernel_rfl) ?_
        repeat (go_big_quiet_step (first | exact HC.out _ | (go_at_call 34; exact HC.out _)))
        refine wpQuiet_nil ?_
        intro _ hw'
        obtain ⟨ξ, hw''⟩ := hw'
        subst hw''
        go_wp2_with fail
        go_ret
        exact ⟨rfl, FIN.out _ ((HKR.out.trans ξ.keeps (fun _ h => .inl h)).mono fun _ h => h.elim)⟩
      · obtain ⟨xb, xo, rfl, -, q1, -⟩ := hsx.item' (j := k - 1) (HK1.out.resolve_left hk0)
        have hk1' : k - 1 < n'.log.length := HK1.out.resolve_left hk0
        have heq : (n'.log[k - 1]).term = m.logTerm := by
          have := HI6.out.resolve_left (by omega)
          rw [List.getElem?_eq_getElem hk1'] at this
          simpa using this
        rw [heq] at q1
        have g1 : ∀ ξ : Kp wr, ξ.val.cell? ⟨xb, xo + (k - 1) * 2, none⟩ = some (.int .i64 m.logTerm) := fun ξ => ξ.keeps.cell (fun h => h) q1
        have hb0 : ((k : Int) == 0) = false := by rw [beq_eq_false_iff_ne]; omega
        have hwk : IntKind.i64.wrap ((k : Int) - 1) = ((k - 1 : Nat) : Int) := by rw [IntWalk.i64_in _ (by have := HL'.out; omega)]; omega
        have hmx : maxLen ≤ 9223372036854775807 := by simp [maxLen]
        clear hsx q1 heq hk0
        refine wp_region_quiet_k (by kernel_rfl) (by kernel_rfl) ?_
        repeat (go_big_quiet_step (first | exact HC.out _ | (go_at_call 34; exact HC.out _)))
        refine wpQuiet_nil ?_
        intro _ hw'
        obtain ⟨ξ, hw''⟩ := hw'
        subst hw''
        go_wp2_with fail
        go_ret
        exact ⟨rfl, FIN.out _ ((HKR.out.trans ξ.keeps (fun _ h => .inl h)).mono fun _ h => h.elim)⟩
end Go.Proofs.Ytibjbpakbfodaaa
