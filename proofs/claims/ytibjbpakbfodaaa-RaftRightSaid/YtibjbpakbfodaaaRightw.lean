/- RaftRight, walked. -/
import Derived.Test.YtibjbpakbfodaaaAllb
import Derived.Test.YtibjbpakbfodaaaAlive
import Derived.Deep.LoopGhost
namespace Go.Proofs.Ytibjbpakbfodaaa
open Go.RowKit


/-- The cells of one node of a slice of nodes. -/
theorem Sl.node {w : World} {S : Nat → Prop} {A : Option Addr} {len c : Nat} {l : List NodV} (h : Sl w S (.slice A len c) 11 (l.flatMap nodCells)) {j : Nat} (hj : j < l.length) :
    ∃ b off, A = some ⟨b, off, none⟩ ∧ ∀ i u, i < 11 → (nodCells l[j])[i]? = some u → w.cell? ⟨b, off + j * 11 + i, none⟩ = some u := by
  obtain ⟨A', len', c', e, hl, _, _, hc⟩ := h
  injection e with e1 e2 e3
  subst e1
  have hfl : (l.flatMap nodCells).length = l.length * 11 := flat_length nodCells 11 (fun _ => rfl) l
  obtain ⟨b, off, rfl, _, hcell⟩ := hc (by omega)
  refine ⟨b, off, rfl, fun i u hi hu => ?_⟩
  rw [Nat.add_assoc]
  exact hcell _ _ ((flat_get nodCells 11 (fun _ => rfl) l j l[j] i (List.getElem?_eq_getElem hj) hi).trans hu)

set_option maxRecDepth 100000 in
set_option maxHeartbeats 8000000 in
theorem right_walk {w : World} {x : NodV} {m : MesV} (h : NodeOk w Free x) (hm : MesOk w Free m) (cmd : Int) :
    Calls Try.prog 6 #[.agg (nodCells x).toArray, .agg (mesCells m).toArray, .int .i64 cmd] w fun e w' => e = .returned (.bool true) ∧ Keeps Free w w' := by
  have hwr : ∀ w1, Keeps Free w w1 → Calls Try.prog 18 #[.agg (nodCells x).toArray] w1 fun e w' => e = .returned (.int .i64 (wrong x.n)) ∧ Keeps Free w1 w' := fun w1 hk => wrong_any (h.into hk (fun _ _ h => h) (fun _ _ h => h))
  have HW := Lib.hid hwr
  clear hwr
  have hal : ∀ w1, Keeps Free w w1 → Calls Try.prog 35 #[.agg (nodCells x).toArray, .agg (mesCells m).toArray, .int .i64 cmd] w1 (AllOf w1 x.n m.m cmd) := fun w1 hk => all_any (h.into hk (fun _ _ h => h) (fun _ _ h => h)) (Sl.into hm hk (fun _ _ h => h) (fun _ _ h => h)) cmd
  have HAL := Lib.hid hal
  clear hal
  obtain ⟨n, lv, vv, nv, mv⟩ := x
  obtain ⟨⟨LA, LL, LC, rfl, hll, -⟩, ⟨VA, VL, VC, rfl, -⟩, ⟨NA, NL, NC, rfl, -⟩, ⟨MA, ML, MC, rfl, -⟩⟩ := h
  obtain ⟨m, iv⟩ := m
  obtain ⟨IA, IL, IC, rfl, hil, -⟩ := hm
  obtain rfl : LL = n.log.length := by rw [itemCells_length] at hll; simp only at hll; omega
  obtain rfl : IL = m.items.length := by rw [itemCells_length] at hil; simp only at hil; omega
  have hca : (nodCells ⟨n, .slice LA n.log.length LC, .slice VA VL VC, .slice NA NL NC, .slice MA ML MC⟩).toArray = #[.int .i64 n.id, .int .i64 n.n, .int .i64 n.term, .int .i64 n.vote, .slice LA n.log.length LC, .int .i64 n.commit, .int .i64 n.role, .int .i64 n.boss, .slice VA VL VC, .slice NA NL NC, .slice MA ML MC] := rfl
  have hcm : (mesCells ⟨m, .slice IA m.items.length IC⟩).toArray = #[.int .i64 m.kind, .int .i64 m.src, .int .i64 m.dst, .int .i64 m.term, .int .i64 m.index, .int .i64 m.logTerm, .int .i64 m.commit, .slice IA m.items.length IC, .bool m.yes] := rfl
  rw [hca, hcm] at HAL ⊢
  rw [hca] at HW
  simp only at HAL HW ⊢
  clear hll hil hca hcm
  go_enter Try.func6, Try.ntmps6
  obtain ⟨k0, k1, k2⟩ := two_boxes w (.cells #[.int .i64 n.id, .int .i64 n.n, .int .i64 n.term, .int .i64 n.vote, .slice LA n.log.length LC, .int .i64 n.commit, .int .i64 n.role, .int .i64 n.boss, .slice VA VL VC, .slice NA NL NC, .slice MA ML MC] 25) (.cells #[.int .i64 m.kind, .int .i64 m.src, .int .i64 m.dst, .int .i64 m.term, .int .i64 m.index, .int .i64 m.logTerm, .int .i64 m.commit, .slice IA m.items.length IC, .bool m.yes] 38)
  go_wp2_with fail
  refine (alive_any _).mono ?_
  rintro e w3 ⟨rfl, hk3⟩
  have HK3 := Lib.hid (k0.trans hk3 (fun _ h => .inl h))
  have hb1 := hk3.blk k1
  have hb2 := hk3.blk k2
  clear k0 k1 k2 hk3
  generalize hB : w.heap.size = B at *
  obtain ⟨b0, b1, b2, b3, b4, b5, b6, b7, b8, b9, b10, bf⟩ := cells11 hb1
  obtain ⟨d0, d1, d2, d3, d4, d5, d6, d7, d8⟩ := cells9 hb2
  have HB1 := Lib.hid hb1; have HBE := Lib.hid hB
  clear hb1 hb2 hB
  go_wp2_with fail
  refine (HW.out _ HK3.out).mono ?_
  rintro e w3' ⟨rfl, hk3⟩
  have HK3' := Lib.hid (HK3.out.trans hk3 (fun _ h => .inl h))
  have HB1' := Lib.hid (hk3.blk HB1.out)
  have d0' := hk3.cell (fun h => h) d0
  have d1' := hk3.cell (fun h => h) d1
  have d2' := hk3.cell (fun h => h) d2
  have d3' := hk3.cell (fun h => h) d3
  have d4' := hk3.cell (fun h => h) d4
  have d5' := hk3.cell (fun h => h) d5
  have d6' := hk3.cell (fun h => h) d6
  have d7' := hk3.cell (fun h => h) d7
  have d8' := hk3.cell (fun h => h) d8
  clear b0 b1 b2 b3 b4 b5 b6 b7 b8 b9 b10 bf d0 d1 d2 d3 d4 d5 d6 d7 d8 hk3 HW HK3 HB1
  obtain ⟨b0, b1, b2, b3, b4, b5, b6, b7, b8, b9, b10, bf⟩ := cells11 HB1'.out
  cases hw0 : (wrong n != 0)
  case true =>
    go_wp2_with fail
    go_ret
    exact ⟨rfl, HK3'.out⟩
  case false =>
    have g := good_of_wrong (by simpa using hw0 : wrong n = 0)
    have HG := Lib.hid g
    clear g
    go_wp2_with fail
    refine (HAL.out _ HK3'.out).mono ?_
    rintro e w4 ⟨nv, ov, l, out, rfl, hnv, hl, hshp, hov, hso, hiv, hk4⟩
    have HK4 := Lib.hid (HK3'.out.trans hk4 (fun _ h => .inl h))
    have hb1' := hk4.blk HB1'.out
    clear b0 b1 b2 b3 b4 b5 b6 b7 b8 b9 b10 bf d0' d1' d2' d3' d4' d5' d6' d7' d8' hk4 HAL hso hiv hov hw0
    obtain ⟨b0, b1, b2, b3, b4, b5, b6, b7, b8, b9, b10, bf⟩ := cells11 hb1'
    clear b2 b3 b4 b5 b6 b7 b8 b9 b10 bf hb1'
    have hlen : l.length = 5 := by have := congrArg List.length hl; simpa using this
    have hvs : ∀ x ∈ l, wrong x.n = 0 ∧ Same n x.n := fun x hx => by
      have h1 : x.n ∈ l.map NodV.n := List.mem_map_of_mem hx
      rw [hl] at h1
      simp only [List.mem_cons, List.not_mem_nil, or_false] at h1
      rcases h1 with h1 | h1 | h1 | h1 | h1 <;> rw [h1]
      · exact ⟨wrong_of_good (timeout_good HG.out), timeout_same n⟩
      · exact ⟨wrong_of_good (beat_good HG.out), beat_same n⟩
      · exact ⟨wrong_of_good (propose_good cmd HG.out), propose_same n cmd⟩
      · exact ⟨wrong_of_good (received_good HG.out), receive_same n m⟩
      · exact ⟨wrong_of_good (restart_good HG.out), restart_same n⟩
    have hnv2 := hnv
    obtain ⟨A, L, C, rfl, hL, -⟩ := hnv
    obtain rfl : L = 5 := by rw [flat_length nodCells 11 (fun _ => rfl)] at hL; omega
    have HNV := Lib.hid hnv2; have HVS := Lib.hid hvs; have HSH := Lib.hid hshp; have HLEN := Lib.hid hlen
    clear hnv2 hvs hshp hlen hL hl
    go_wp2_with fail
    go_loopw [25] (fun i wr => ∃ j : Nat, j ≤ 5 ∧ i = .int .i64 j ∧ Keeps Free w4 wr) (fun i _ => match i with | .int _ j => 5 - j.toNat | _ => 0)
    case atStart => exact ⟨0, by omega, rfl, Keeps.refl _ _⟩
    case round =>
      obtain ⟨j, hj, rfl, hk⟩ := hrel
      have HKR := Lib.hid hk
      have n2 := hk.cell (fun h => h) b0
      have n3 := hk.cell (fun h => h) b1
      have hsl := HNV.out.keep hk (fun _ _ h => h)
      clear b0 b1
      by_cases hlt : j < 5
      · have hjl : j < l.length := by have := HLEN.out; omega
        obtain ⟨b, off, rfl, hcell⟩ := hsl.node hjl
        have hv := HVS.out _ (List.getElem_mem hjl)
        obtain ⟨⟨la, lc, va, vl, vc, na, nl, nc, ma, ml, mc, e1, e2, e3, e4⟩, hnok⟩ := HSH.out _ (List.getElem_mem hjl)
        have hls : List.length l = 5 := HLEN.out
        generalize l[j] = yy at *
        obtain ⟨y, lv, vv, nv, mv⟩ := yy
        simp only at e1 e2 e3 e4 hv
        subst e1 e2 e3 e4
        have c0 := hcell 0 _ (by omega) rfl
        have c1 := hcell 1 _ (by omega) rfl
        have c2 := hcell 2 _ (by omega) rfl
        have c3 := hcell 3 _ (by omega) rfl
        have c4 := hcell 4 _ (by omega) rfl
        have c5 := hcell 5 _ (by omega) rfl
        have c6 := hcell 6 _ (by omega) rfl
        have c7 := hcell 7 _ (by omega) rfl
        have c8 := hcell 8 _ (by omega) rfl
        have c9 := hcell 9 _ (by omega) rfl
        have c10 := hcell 10 _ (by omega) rfl
        simp only [Nat.add_zero] at c0 c1 c2 c3 c4 c5 c6 c7 c8 c9 c10
        have hbl := cell_lt c0
        have ka : Keeps Free wr (wr.alloc (.cells #[.int .i64 y.id, .int .i64 y.n, .int .i64 y.term, .int .i64 y.vote, .slice la y.log.length lc, .int .i64 y.commit, .int .i64 y.role, .int .i64 y.boss, .slice va vl vc, .slice na nl nc, .slice ma ml mc] 25)) := (Keeps.refl Free wr).alloc _
        have hbi := heap_alloc_new wr (.cells #[.int .i64 y.id, .int .i64 y.n, .int .i64 y.term, .int .i64 y.vote, .slice la y.log.length lc, .int .i64 y.commit, .int .i64 y.role, .int .i64 y.boss, .slice va vl vc, .slice na nl nc, .slice ma ml mc] 25)
        obtain ⟨wa, hal2⟩ : ∃ wa, wr.alloc (.cells #[.int .i64 y.id, .int .i64 y.n, .int .i64 y.term, .int .i64 y.vote, .slice la y.log.length lc, .int .i64 y.commit, .int .i64 y.role, .int .i64 y.boss, .slice va vl vc, .slice na nl nc, .slice ma ml mc] 25) = wa := ⟨_, rfl⟩
        obtain ⟨ia, hia⟩ : ∃ ia, wr.heap.size = ia := ⟨_, rfl⟩
        rw [hal2] at ka hbi
        rw [hia] at hbi
        obtain ⟨i0, i1, i2, i3, i4, i5, i6, i7, i8, i9, i10, if_⟩ := cells11 hbi
        have n2' := ka.cell (fun h => h) n2
        have n3' := ka.cell (fun h => h) n3
        have KA := Lib.hid (hk.trans ka (fun _ h => .inl h))
        have hwy := wrong_any (hnok.into (S' := Free) KA.out (fun _ _ h => h) (fun _ _ h => h))
        have hcy : (nodCells ⟨y, .slice la y.log.length lc, .slice va vl vc, .slice na nl nc, .slice ma ml mc⟩).toArray = #[.int .i64 y.id, .int .i64 y.n, .int .i64 y.term, .int .i64 y.vote, .slice la y.log.length lc, .int .i64 y.commit, .int .i64 y.role, .int .i64 y.boss, .slice va vl vc, .slice na nl nc, .slice ma ml mc] := rfl
        rw [hcy, hv.1] at hwy
        have HWY := Lib.hid hwy; have HV := Lib.hid hv; have HBI := Lib.hid hbi
        clear hbi ka hcell hsl hls hk hwy hcy hnok hv
        go_wp2_with fail
        refine HWY.out.mono ?_
        rintro e wb ⟨rfl, hkb⟩
        have z0 := hkb.cell (fun h => h) i0
        have z1 := hkb.cell (fun h => h) i1
        have m2 := hkb.cell (fun h => h) n2'
        have m3 := hkb.cell (fun h => h) n3'
        have KB := Lib.hid (KA.out.trans hkb (fun _ h => .inl h))
        have q1 : (y.id != n.id) = false := by rw [HV.out.2.1]; simp
        have q2 : (y.n != n.n) = false := by rw [HV.out.2.2]; simp
        clear hkb i0 i1 i2 i3 i4 i5 i6 i7 i8 i9 i10 if_ n2 n3 n2' n3' c0 c1 c2 c3 c4 c5 c6 c7 c8 c9 c10 hal2 hia hbl
        go_wp2_with fail
        go_roundw
        case measure => simp only; omega
        case rel => exact ⟨j + 1, by omega, by go_num, KB.out⟩
      · have hj5 : j = 5 := by omega
        subst hj5
        clear hsl hk
        go_wp2_with fail
        go_ret
        exact ⟨rfl, HK4.out.trans HKR.out (fun _ h => .inl h)⟩
end Go.Proofs.Ytibjbpakbfodaaa
