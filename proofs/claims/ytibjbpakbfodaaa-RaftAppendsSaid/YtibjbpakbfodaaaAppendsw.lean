/- RaftAppends, walked. -/
import Derived.Test.YtibjbpakbfodaaaAllb
import Derived.Test.YtibjbpakbfodaaaAlive
import Derived.Deep.LoopGhost
namespace Go.Proofs.Ytibjbpakbfodaaa
open Go.RowKit


/-- The cells of one node of a slice of nodes. -/
theorem Sl.node {w : World} {S : Nat → Prop} {A : Option Addr} {len c : Nat} {l : List NodV} (h : Sl w S (.slice A len c) 11 (l.flatMap nodCells)) {j : Nat} (hj : j < l.length) :
    ∃ b off, A = some ⟨b, off, none⟩ ∧ ∀ i u, i < 11 → (nodCells l[j])[i]? = some u → w.cell? ⟨b, off + j * 11 + i, none⟩ = some u := by
  obtain ⟨A', len', c', e, hl, _, _, hc⟩ := h
  injection e with e1 e2 e3
  subst e1
  have hfl : (l.flatMap nodCells).length = l.length * 11 := flat_length nodCells 11 (fun _ => rfl) l
  obtain ⟨b, off, rfl, _, hcell⟩ := hc (by omega)
  refine ⟨b, off, rfl, fun i u hi hu => ?_⟩
  rw [Nat.add_assoc]
  exact hcell _ _ ((flat_get nodCells 11 (fun _ => rfl) l j l[j] i (List.getElem?_eq_getElem hj) hi).trans hu)

set_option maxRecDepth 100000 in
set_option maxHeartbeats 2000000 in
theorem same_big {w : World} {S : Nat → Prop} {v1 v2 : Value} {l : List Itm} (h1 : Sl w S v1 2 (itemCells l)) (h2 : Sl w S v2 2 (itemCells l)) (hl : l.length ≤ 9223372036854775807) :
    Calls Try.prog 34 #[v1, v2] w fun e w' => e = .returned (.bool true) ∧ Keeps (fun _ => False) w w' := by
  obtain ⟨A, n, c, rfl, hn, hc1, hc2, hcell⟩ := h1
  obtain ⟨A2, n2, c', rfl, hn2, hc12, hc22, hcell2⟩ := h2
  obtain rfl : n = l.length := by rw [itemCells_length] at hn; omega
  obtain rfl : n2 = l.length := by rw [itemCells_length] at hn2; omega
  have H := Lib.hid (show Sl w S (.slice A l.length c) 2 (itemCells l) from ⟨A, l.length, c, rfl, hn, hc1, hc2, hcell⟩)
  have H2 := Lib.hid (show Sl w S (.slice A2 l.length c') 2 (itemCells l) from ⟨A2, l.length, c', rfl, hn2, hc12, hc22, hcell2⟩)
  clear hcell hcell2 hn hn2 hc2 hc22 hc1 hc12
  go_enter Try.func34, Try.ntmps34
  go_wp2_with fail
  go_loopw [13] (fun i wr => ∃ (j : Nat), j ≤ l.length ∧ i = .int .i64 j ∧ Keeps (fun _ => False) w wr) (fun i _ => match i with | .int _ j => l.length - j.toNat | _ => 0)
  case atStart => exact ⟨0, by omega, rfl, Keeps.refl _ _⟩
  case round =>
    obtain ⟨j, hj, rfl, hk⟩ := hrel
    have HK := Lib.hid hk
    have hsl := (H.out.keep hk (fun _ _ h => h.elim))
    have hsl2 := (H2.out.keep hk (fun _ _ h => h.elim))
    clear hk
    by_cases hlt : j < l.length
    · obtain ⟨b, off, rfl, hbS, i1, i2⟩ := hsl.item' hlt
      obtain ⟨b2, off2, rfl, hbS2, k1, k2⟩ := hsl2.item' hlt
      clear hsl hsl2 hbS hbS2
      generalize l[j] = it at *
      obtain ⟨tt, tc⟩ := it
      simp only at i1 i2 k1 k2
      go_upto_region 6 with fail
      go_quiet (fail)
      go_wp2_with fail
      go_roundw
      case measure => simp only; omega
      case rel => exact ⟨j + 1, by omega, by go_num, HK.out.trans ((Keeps.refl _ _).drewN _) (fun _ h => .inl h)⟩
    · have hj' : j = l.length := by omega
      subst hj'
      clear hsl hsl2
      go_wp2
      go_ret
      exact ⟨rfl, HK.out⟩

/-- What a leader becomes, held against what it was: a leader of the term has no less. -/
theorem all_adds {n : Nod} {m : Mes} {cmd : Int} (hr : n.role = 3) {y : Nod} (hy : y ∈ [(timeout n).1, (beat n).1, (propose n cmd).1, (receive n m).1, restart n]) : Adds n y := by
  simp only [List.mem_cons, List.not_mem_nil, or_false] at hy
  rcases hy with h1 | h1 | h1 | h1 | h1 <;> rw [h1]
  · exact timeout_adds hr
  · exact beat_adds n
  · exact propose_adds n cmd
  · exact receive_adds hr
  · exact restart_adds n

theorem Sl.head {w : World} {S : Nat → Prop} {A : Option Addr} {n c : Nat} {l : List Itm} (h : Sl w S (.slice A n c) 2 (itemCells l)) {k : Nat} (hk : k ≤ l.length) : Sl w S (.slice A k c) 2 (itemCells (l.take k)) := by
  obtain ⟨A', n', c', e, hl, h1, h2, hc⟩ := h
  injection e with e1 e2 e3
  subst e1 e2 e3
  rw [itemCells_length] at hl
  refine ⟨A, k, c, rfl, by rw [itemCells_length, List.length_take]; omega, by omega, h2, fun hp => ?_⟩
  rw [itemCells_length, List.length_take] at hp
  obtain ⟨b, off, rfl, hb, hcell⟩ := hc (by rw [itemCells_length]; omega)
  refine ⟨b, off, rfl, hb, fun j u hj => hcell j u ?_⟩
  rw [← itemCells_take, List.getElem?_take] at hj
  split at hj
  · exact hj
  · cases hj

set_option maxRecDepth 100000 in
set_option maxHeartbeats 8000000 in
theorem appends_walk {w : World} {x : NodV} {m : MesV} (h : NodeOk w Free x) (hm : MesOk w Free m) (cmd : Int) :
    Calls Try.prog 8 #[.agg (nodCells x).toArray, .agg (mesCells m).toArray, .int .i64 cmd] w fun e w' => e = .returned (.bool true) ∧ Keeps Free w w' := by
  have HH := Lib.hid h
  have hal : ∀ w1, Keeps Free w w1 → Calls Try.prog 35 #[.agg (nodCells x).toArray, .agg (mesCells m).toArray, .int .i64 cmd] w1 (AllOf w1 x.n m.m cmd) := fun w1 hk => all_any (h.into hk (fun _ _ h => h) (fun _ _ h => h)) (Sl.into hm hk (fun _ _ h => h) (fun _ _ h => h)) cmd
  have HAL := Lib.hid hal
  clear hal
  obtain ⟨n, lv, vv, nv, mv⟩ := x
  obtain ⟨⟨LA, LL, LC, rfl, hll, -⟩, ⟨VA, VL, VC, rfl, -⟩, ⟨NA, NL, NC, rfl, -⟩, ⟨MA, ML, MC, rfl, -⟩⟩ := h
  obtain ⟨m, iv⟩ := m
  obtain ⟨IA, IL, IC, rfl, hil, -⟩ := hm
  obtain rfl : LL = n.log.length := by rw [itemCells_length] at hll; simp only at hll; omega
  obtain rfl : IL = m.items.length := by rw [itemCells_length] at hil; simp only at hil; omega
  have hca : (nodCells ⟨n, .slice LA n.log.length LC, .slice VA VL VC, .slice NA NL NC, .slice MA ML MC⟩).toArray = #[.int .i64 n.id, .int .i64 n.n, .int .i64 n.term, .int .i64 n.vote, .slice LA n.log.length LC, .int .i64 n.commit, .int .i64 n.role, .int .i64 n.boss, .slice VA VL VC, .slice NA NL NC, .slice MA ML MC] := rfl
  have hcm : (mesCells ⟨m, .slice IA m.items.length IC⟩).toArray = #[.int .i64 m.kind, .int .i64 m.src, .int .i64 m.dst, .int .i64 m.term, .int .i64 m.index, .int .i64 m.logTerm, .int .i64 m.commit, .slice IA m.items.length IC, .bool m.yes] := rfl
  rw [hca, hcm] at HAL ⊢
  simp only at HAL ⊢
  clear hll hil hca hcm
  go_enter Try.func8, Try.ntmps8
  obtain ⟨k0, k1, k2⟩ := two_boxes w (.cells #[.int .i64 n.id, .int .i64 n.n, .int .i64 n.term, .int .i64 n.vote, .slice LA n.log.length LC, .int .i64 n.commit, .int .i64 n.role, .int .i64 n.boss, .slice VA VL VC, .slice NA NL NC, .slice MA ML MC] 25) (.cells #[.int .i64 m.kind, .int .i64 m.src, .int .i64 m.dst, .int .i64 m.term, .int .i64 m.index, .int .i64 m.logTerm, .int .i64 m.commit, .slice IA m.items.length IC, .bool m.yes] 38)
  go_wp2_with fail
  refine (alive_any _).mono ?_
  rintro e w3 ⟨rfl, hk3⟩
  have HK3 := Lib.hid (k0.trans hk3 (fun _ h => .inl h))
  have hb1 := hk3.blk k1
  have hb2 := hk3.blk k2
  clear k0 k1 k2 hk3
  generalize hB : w.heap.size = B at *
  obtain ⟨b0, b1, b2, b3, b4, b5, b6, b7, b8, b9, b10, bf⟩ := cells11 hb1
  obtain ⟨d0, d1, d2, d3, d4, d5, d6, d7, d8⟩ := cells9 hb2
  have HB1 := Lib.hid hb1; have HBE := Lib.hid hB
  clear hb1 hb2 hB
  cases hr0 : (n.role != 3)
  case true =>
    go_wp2_with fail
    go_ret
    exact ⟨rfl, HK3.out⟩
  case false =>
    have hr3 : n.role = 3 := by simpa using hr0
    have HR3 := Lib.hid hr3
    clear hr3
    go_wp2_with fail
    refine (HAL.out _ HK3.out).mono ?_
    rintro e w4 ⟨nv, ov, l, out, rfl, hnv, hl, hshp, hov, hso, hiv, hk4⟩
    have HK4 := Lib.hid (HK3.out.trans hk4 (fun _ h => .inl h))
    have hb1' := hk4.blk HB1.out
    clear b0 b1 b2 b3 b4 b5 b6 b7 b8 b9 b10 bf d0 d1 d2 d3 d4 d5 d6 d7 d8 hk4 HAL hso hiv hov hr0
    obtain ⟨b0, b1, b2, b3, b4, b5, b6, b7, b8, b9, b10, bf⟩ := cells11 hb1'
    clear b0 b1 b3 b6 b7 b8 b9 b10 bf hb1'
    have hlen : l.length = 5 := by have := congrArg List.length hl; simpa using this
    have hvs : ∀ x ∈ l, Adds n x.n := fun x hx => by
      have h1 : x.n ∈ l.map NodV.n := List.mem_map_of_mem hx
      rw [hl] at h1
      exact all_adds HR3.out h1
    have hnv2 := hnv
    obtain ⟨A, L, C, rfl, hL, -⟩ := hnv
    obtain rfl : L = 5 := by rw [flat_length nodCells 11 (fun _ => rfl)] at hL; omega
    have hno : NodeOk w4 Free ⟨n, .slice LA n.log.length LC, .slice VA VL VC, .slice NA NL NC, .slice MA ML MC⟩ := HH.out.into HK4.out (fun _ _ h => h) (fun _ _ h => h)
    have HNV := Lib.hid hnv2; have HVS := Lib.hid hvs; have HSH := Lib.hid hshp; have HLEN := Lib.hid hlen; have HNO := Lib.hid hno
    clear hnv2 hvs hshp hlen hL hl hno
    go_wp2_with fail
    go_loopw [25] (fun i wr => ∃ j : Nat, j ≤ 5 ∧ i = .int .i64 j ∧ Keeps Free w4 wr) (fun i _ => match i with | .int _ j => 5 - j.toNat | _ => 0)
    case atStart => exact ⟨0, by omega, rfl, Keeps.refl _ _⟩
    case round =>
      obtain ⟨j, hj, rfl, hk⟩ := hrel
      have HKR := Lib.hid hk
      have n2 := hk.cell (fun h => h) b2
      have n4 := hk.cell (fun h => h) b4
      have n5 := hk.cell (fun h => h) b5
      have hsl := HNV.out.keep hk (fun _ _ h => h)
      clear b2 b4 b5
      by_cases hlt : j < 5
      · have hjl : j < l.length := by have := HLEN.out; omega
        obtain ⟨b, off, rfl, hcell⟩ := hsl.node hjl
        have hv := HVS.out _ (List.getElem_mem hjl)
        obtain ⟨⟨la, lc, va, vl, vc, na, nl, nc, ma, ml, mc, e1, e2, e3, e4⟩, hnok⟩ := HSH.out _ (List.getElem_mem hjl)
        have hls : List.length l = 5 := HLEN.out
        generalize l[j] = yy at *
        obtain ⟨y, lv, vv, nv, mv⟩ := yy
        simp only at e1 e2 e3 e4 hv
        subst e1 e2 e3 e4
        have c0 := hcell 0 _ (by omega) rfl
        have c1 := hcell 1 _ (by omega) rfl
        have c2 := hcell 2 _ (by omega) rfl
        have c3 := hcell 3 _ (by omega) rfl
        have c4 := hcell 4 _ (by omega) rfl
        have c5 := hcell 5 _ (by omega) rfl
        have c6 := hcell 6 _ (by omega) rfl
        have c7 := hcell 7 _ (by omega) rfl
        have c8 := hcell 8 _ (by omega) rfl
        have c9 := hcell 9 _ (by omega) rfl
        have c10 := hcell 10 _ (by omega) rfl
        simp only [Nat.add_zero] at c0 c1 c2 c3 c4 c5 c6 c7 c8 c9 c10
        have hbl := cell_lt c0
        have ka : Keeps Free wr (wr.alloc (.cells #[.int .i64 y.id, .int .i64 y.n, .int .i64 y.term, .int .i64 y.vote, .slice la y.log.length lc, .int .i64 y.commit, .int .i64 y.role, .int .i64 y.boss, .slice va vl vc, .slice na nl nc, .slice ma ml mc] 25)) := (Keeps.refl Free wr).alloc _
        have hbi := heap_alloc_new wr (.cells #[.int .i64 y.id, .int .i64 y.n, .int .i64 y.term, .int .i64 y.vote, .slice la y.log.length lc, .int .i64 y.commit, .int .i64 y.role, .int .i64 y.boss, .slice va vl vc, .slice na nl nc, .slice ma ml mc] 25)
        obtain ⟨wa, hal2⟩ : ∃ wa, wr.alloc (.cells #[.int .i64 y.id, .int .i64 y.n, .int .i64 y.term, .int .i64 y.vote, .slice la y.log.length lc, .int .i64 y.commit, .int .i64 y.role, .int .i64 y.boss, .slice va vl vc, .slice na nl nc, .slice ma ml mc] 25) = wa := ⟨_, rfl⟩
        obtain ⟨ia, hia⟩ : ∃ ia, wr.heap.size = ia := ⟨_, rfl⟩
        rw [hal2] at ka hbi
        rw [hia] at hbi
        obtain ⟨i0, i1, i2, i3, i4, i5, i6, i7, i8, i9, i10, if_⟩ := cells11 hbi
        have n2' := ka.cell (fun h => h) n2
        have n4' := ka.cell (fun h => h) n4
        have n5' := ka.cell (fun h => h) n5
        have KA := Lib.hid (hk.trans ka (fun _ h => .inl h))
        have hly := (hnok.into (S' := Free) KA.out (fun _ _ h => h) (fun _ _ h => h)).log
        have hln := (HNO.out.into (S' := Free) KA.out (fun _ _ h => h) (fun _ _ h => h)).log
        have HV := Lib.hid hv; have HLY := Lib.hid hly; have HLN := Lib.hid hln
        clear hbi ka hcell hsl hls hk hnok hv n2 n4 n5 i0 i1 i3 i7 i8 i9 i10 if_ hly hln
        go_upto_region 9 with fail
        clear c0 c1 c2 c3 c4 c5 c6 c7 c8 c9 c10 hal2 hia hbl
        cases hy3 : (y.role == 3)
        case false =>
          go_quiet (fail)
          go_wp2_with fail
          go_roundw
          case measure => simp only; omega
          case rel => exact ⟨j + 1, by omega, by go_num, KA.out.drewN _⟩
        case true =>
          cases hyt : (y.term == n.term)
          case false =>
            go_quiet (fail)
            go_wp2_with fail
            go_roundw
            case measure => simp only; omega
            case rel => exact ⟨j + 1, by omega, by go_num, KA.out.drewN _⟩
          case true =>
            obtain ⟨a1, a2, a3⟩ := HV.out (by simpa using hy3) (by simpa using hyt)
            have q1 : decide (y.log.length < n.log.length) = false := by simp; omega
            have q3 : decide (y.commit < n.commit) = false := by simp; omega
            have hcl : n.log.length ≤ 9223372036854775807 ∧ n.log.length ≤ lc := by
              obtain ⟨A, L, C, e, h0, h1, h2, _⟩ := HLY.out
              injection e with e1 e2 e3
              have : maxLen ≤ 9223372036854775807 := by simp [maxLen]
              omega
            have hcall : ∀ ξ : Kp wa, Calls Try.prog 34 #[.slice la n.log.length lc, .slice LA n.log.length LC] ξ.val fun e w'' => e = .returned (.bool true) ∧ ∃ ξ' : Kp wa, w'' = ξ'.val := fun ξ => by
              refine (same_big (l := n.log) (by have := (HLY.out.keep ξ.keeps (fun _ _ h => h.elim)).head a1; rw [a2] at this; exact this) (HLN.out.keep ξ.keeps (fun _ _ h => h.elim)) hcl.1).mono ?_
              rintro e w'' ⟨rfl, hk⟩
              exact ⟨rfl, ⟨w'', ξ.keeps.trans hk (fun _ h => .inl h)⟩, rfl⟩
            have f2 : ∀ ξ : Kp wa, ξ.val.cell? ⟨ia, 2, none⟩ = some (.int .i64 y.term) := fun ξ => ξ.keeps.cell (fun h => h) i2
            have f4 : ∀ ξ : Kp wa, ξ.val.cell? ⟨ia, 4, none⟩ = some (.slice la y.log.length lc) := fun ξ => ξ.keeps.cell (fun h => h) i4
            have f5 : ∀ ξ : Kp wa, ξ.val.cell? ⟨ia, 5, none⟩ = some (.int .i64 y.commit) := fun ξ => ξ.keeps.cell (fun h => h) i5
            have f6 : ∀ ξ : Kp wa, ξ.val.cell? ⟨ia, 6, none⟩ = some (.int .i64 y.role) := fun ξ => ξ.keeps.cell (fun h => h) i6
            have g2 : ∀ ξ : Kp wa, ξ.val.cell? ⟨B, 2, none⟩ = some (.int .i64 n.term) := fun ξ => ξ.keeps.cell (fun h => h) n2'
            have g4 : ∀ ξ : Kp wa, ξ.val.cell? ⟨B, 4, none⟩ = some (.slice LA n.log.length LC) := fun ξ => ξ.keeps.cell (fun h => h) n4'
            have g5 : ∀ ξ : Kp wa, ξ.val.cell? ⟨B, 5, none⟩ = some (.int .i64 n.commit) := fun ξ => ξ.keeps.cell (fun h => h) n5'
            have HC := Lib.hid hcall
            have hcap : n.log.length ≤ lc := hcl.2
            clear hcall i2 i4 i5 i6 n2' n4' n5' a1 a2 a3 hcl
            refine wp_region_quiet_k (by kernel_rfl) (by kernel_rfl) ?_
            repeat (go_big_quiet_step (first | exact HC.out _ | (go_at_call 34; exact HC.out _)))
            refine wpQuiet_nil ?_
            intro _ hw'
            obtain ⟨ξ, hw''⟩ := hw'
            subst hw''
            go_wp2_with fail
            go_roundw
            case measure => simp only; omega
            case rel => exact ⟨j + 1, by omega, by go_num, KA.out.trans ξ.keeps (fun _ h => h.elim)⟩
      · have hj5 : j = 5 := by omega
        subst hj5
        clear hsl hk
        go_wp2_with fail
        go_ret
        exact ⟨rfl, HK4.out.trans HKR.out (fun _ h => .inl h)⟩
end Go.Proofs.Ytibjbpakbfodaaa
