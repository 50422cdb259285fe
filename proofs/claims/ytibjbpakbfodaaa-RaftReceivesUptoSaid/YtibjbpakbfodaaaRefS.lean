/- The document's answer, chapter 15: are two nodes, or two rows of messages, the same? -/
import Derived.Test.YtibjbpakbfodaaaRefB
namespace Go.Proofs.Ytibjbpakbfodaaa
open Go.RowKit

theorem Sl.shape {w : World} {S : Nat → Prop} {v : Value} {size : Nat} {xs : List Value} (h : Sl w S v size xs) {n : Nat} (hn : xs.length = n * size) (hs : 0 < size) : ∃ A c, v = .slice A n c := by
  obtain ⟨A, len, cap, hv, hl, _⟩ := h
  have : len = n := Nat.eq_of_mul_eq_mul_right hs (hl.symm.trans hn)
  subst this
  exact ⟨A, cap, hv⟩

theorem NodeOk.shape {w : World} {S : Nat → Prop} {n : Nod} {lv vv nv mv : Value} (h : NodeOk w S ⟨n, lv, vv, nv, mv⟩) : ∃ LA LC VA VC NA NC MA MC, lv = .slice LA n.log.length LC ∧ vv = .slice VA n.votes.length VC ∧ nv = .slice NA n.next.length NC ∧ mv = .slice MA n.mtch.length MC := by
  obtain ⟨LA, LC, e1⟩ := Sl.shape h.log (itemCells_length _) (by decide)
  obtain ⟨VA, VC, e2⟩ := Sl.shape h.votes (intCells_length _) (by decide)
  obtain ⟨NA, NC, e3⟩ := Sl.shape h.next (intCells_length _) (by decide)
  obtain ⟨MA, MC, e4⟩ := Sl.shape h.mtch (intCells_length _) (by decide)
  exact ⟨LA, LC, VA, VC, NA, NC, MA, MC, e1, e2, e3, e4⟩

set_option maxRecDepth 100000 in
set_option maxHeartbeats 4000000 in
theorem sameNode_any {w : World} {x y : NodV} (hx : NodeOk w Free x) (hy : NodeOk w Free y) (he : y.n = x.n) (hl1 : x.n.log.length ≤ 2000000) (hl2 : x.n.votes.length ≤ 2000000) (hl3 : x.n.next.length ≤ 2000000) (hl4 : x.n.mtch.length ≤ 2000000) :
    Calls Try.prog 22 #[.agg (nodCells x).toArray, .agg (nodCells y).toArray] w fun e w' => e = .returned (.bool true) ∧ Keeps Free w w' := by
  obtain ⟨n, lv, vv, nv, mv⟩ := x
  obtain ⟨n', lv', vv', nv', mv'⟩ := y
  simp only at he
  subst he
  have C1 := Lib.hid (fun (w1 : World) (hk : Keeps Free w w1) => sameItems_any (hx.log.keep hk (fun _ _ h => h)) (hy.log.keep hk (fun _ _ h => h)) hl1)
  have C2 := Lib.hid (fun (w1 : World) (hk : Keeps Free w w1) => sameInts_any (hx.votes.keep hk (fun _ _ h => h)) (hy.votes.keep hk (fun _ _ h => h)) hl2)
  have C3 := Lib.hid (fun (w1 : World) (hk : Keeps Free w w1) => sameInts_any (hx.next.keep hk (fun _ _ h => h)) (hy.next.keep hk (fun _ _ h => h)) hl3)
  have C4 := Lib.hid (fun (w1 : World) (hk : Keeps Free w w1) => sameInts_any (hx.mtch.keep hk (fun _ _ h => h)) (hy.mtch.keep hk (fun _ _ h => h)) hl4)
  obtain ⟨LA, LC, VA, VC, NA, NC, MA, MC, rfl, rfl, rfl, rfl⟩ := hx.shape
  obtain ⟨LA', LC', VA', VC', NA', NC', MA', MC', rfl, rfl, rfl, rfl⟩ := hy.shape
  clear hx hy
  generalize n'.log.length = LL at *
  generalize n'.votes.length = VL at *
  generalize n'.next.length = NL at *
  generalize n'.mtch.length = ML at *
  simp only [nodCells]
  simp only at C1 C2 C3 C4
  obtain ⟨K0, B1, B2⟩ := two_boxes w (.cells #[.int .i64 n'.id, .int .i64 n'.n, .int .i64 n'.term, .int .i64 n'.vote, .slice LA LL LC, .int .i64 n'.commit, .int .i64 n'.role, .int .i64 n'.boss, .slice VA VL VC, .slice NA NL NC, .slice MA ML MC] 25)
    (.cells #[.int .i64 n'.id, .int .i64 n'.n, .int .i64 n'.term, .int .i64 n'.vote, .slice LA' LL LC', .int .i64 n'.commit, .int .i64 n'.role, .int .i64 n'.boss, .slice VA' VL VC', .slice NA' NL NC', .slice MA' ML MC'] 25)
  have K0' := Lib.hid K0; have B1' := Lib.hid B1; have B2' := Lib.hid B2
  clear K0 B1 B2
  obtain ⟨id, nn, tm, vt, lg, cm, rl, bs, vs, nx, mt⟩ := n'
  simp only at *
  go_enter Try.func22, Try.ntmps22
  go_wp2_with (first
    | (go_at_call 34; refine (C1.out _ K0'.out).mono ?_; rintro e w3 ⟨rfl, hk3⟩
       have K3 := Lib.hid (K0'.out.trans hk3 (fun _ h => .inl h))
       have B13 := Lib.hid (hk3.blk B1'.out)
       have B23 := Lib.hid (hk3.blk B2'.out)
       obtain ⟨_, _, _, _, _, b5, b6, b7, b8, b9, b10, bf⟩ := cells11 B13.out
       obtain ⟨_, _, _, _, _, r5, r6, r7, r8, r9, r10, rf⟩ := cells11 B23.out
       clear C1)
    | (go_at_call 64; refine (C2.out _ K3.out).mono ?_; rintro e w4 ⟨rfl, hk4⟩
       have K4 := Lib.hid (K3.out.trans hk4 (fun _ h => .inl h))
       have B14 := Lib.hid (hk4.blk B13.out)
       have B24 := Lib.hid (hk4.blk B23.out)
       obtain ⟨_, _, _, _, _, _, _, _, b84, b94, b104, bf4⟩ := cells11 B14.out
       obtain ⟨_, _, _, _, _, _, _, _, r84, r94, r104, rf4⟩ := cells11 B24.out
       clear C2)
    | (go_at_call 64; refine (C3.out _ K4.out).mono ?_; rintro e w5 ⟨rfl, hk5⟩
       have K5 := Lib.hid (K4.out.trans hk5 (fun _ h => .inl h))
       have B15 := Lib.hid (hk5.blk B14.out)
       have B25 := Lib.hid (hk5.blk B24.out)
       obtain ⟨_, _, _, _, _, _, _, _, b85, b95, b105, bf5⟩ := cells11 B15.out
       obtain ⟨_, _, _, _, _, _, _, _, r85, r95, r105, rf5⟩ := cells11 B25.out
       clear C3)
    | (go_at_call 64; refine (C4.out _ K5.out).mono ?_; rintro e w6 ⟨rfl, hk6⟩
       have K6 := Lib.hid (K5.out.trans hk6 (fun _ h => .inl h))
       clear C4))
  go_ret
  exact ⟨rfl, K6.out⟩
/-- The cells of one message of a slice of messages. -/
theorem Sl.mes {w : World} {S : Nat → Prop} {A : Option Addr} {len c : Nat} {l : List MesV} (h : Sl w S (.slice A len c) 9 (l.flatMap mesCells)) {j : Nat} (hj : j < l.length) :
    ∃ b off, A = some ⟨b, off, none⟩ ∧ ∀ i u, i < 9 → (mesCells l[j])[i]? = some u → w.cell? ⟨b, off + j * 9 + i, none⟩ = some u := by
  obtain ⟨A', len', c', e, hl, _, _, hc⟩ := h
  injection e with e1 e2 e3
  subst e1
  have hfl : (l.flatMap mesCells).length = l.length * 9 := flat_length mesCells 9 (fun _ => rfl) l
  obtain ⟨b, off, rfl, _, hcell⟩ := hc (by omega)
  refine ⟨b, off, rfl, fun i u hi hu => ?_⟩
  rw [Nat.add_assoc]
  exact hcell _ _ ((flat_get mesCells 9 (fun _ => rfl) l j l[j] i (List.getElem?_eq_getElem hj) hi).trans hu)

theorem cells9 {w : World} {b : Nat} {t : TypeId} {v0 v1 v2 v3 v4 v5 v6 v7 v8 : Value} (h : w.heap[b]? = some (.cells #[v0, v1, v2, v3, v4, v5, v6, v7, v8] t (0, 0))) :
    w.cell? ⟨b, 0, none⟩ = some v0 ∧ w.cell? ⟨b, 1, none⟩ = some v1 ∧ w.cell? ⟨b, 2, none⟩ = some v2 ∧ w.cell? ⟨b, 3, none⟩ = some v3 ∧ w.cell? ⟨b, 4, none⟩ = some v4 ∧ w.cell? ⟨b, 5, none⟩ = some v5 ∧
      w.cell? ⟨b, 6, none⟩ = some v6 ∧ w.cell? ⟨b, 7, none⟩ = some v7 ∧ w.cell? ⟨b, 8, none⟩ = some v8 :=
  ⟨cell_of_row w b 0 _ _ _ h, cell_of_row w b 1 _ _ _ h, cell_of_row w b 2 _ _ _ h, cell_of_row w b 3 _ _ _ h, cell_of_row w b 4 _ _ _ h, cell_of_row w b 5 _ _ _ h, cell_of_row w b 6 _ _ _ h, cell_of_row w b 7 _ _ _ h, cell_of_row w b 8 _ _ _ h⟩

theorem Sl.form9 {w : World} {S : Nat → Prop} {v : Value} {l : List MesV} (h : Sl w S v 9 (l.flatMap mesCells)) : ∃ A c, v = .slice A l.length c := Sl.shape h (flat_length mesCells 9 (fun _ => rfl) l) (by decide)

theorem MesOk.shape {w : World} {S : Nat → Prop} {m : MesV} (h : MesOk w S m) : ∃ A c, m.iv = .slice A m.m.items.length c := Sl.shape h (itemCells_length _) (by decide)

set_option maxRecDepth 100000 in
set_option maxHeartbeats 4000000 in
theorem sameMsgs_any {w : World} {ov ov' : Value} {out out' : List MesV} (h : MsgsOk w Free ov out) (h' : MsgsOk w Free ov' out') (he : said out' = said out) (hl : out.length ≤ 1000) (hi : ∀ m ∈ out, m.m.items.length ≤ 2000000) :
    Calls Try.prog 23 #[ov, ov'] w fun e w' => e = .returned (.bool true) ∧ Keeps Free w w' := by
  obtain ⟨A, c, rfl⟩ := h.cells.form9
  obtain ⟨A', c', rfl⟩ := h'.cells.form9
  have hl' : out'.length = out.length := by have := congrArg List.length he; simpa [said] using this
  have hx : ∀ j (h1 : j < out.length), ∃ h2 : j < out'.length, out'[j].m = out[j].m := fun j h1 => ⟨by omega, by
    have := congrArg (fun l => l[j]?) he
    simp only [said, List.getElem?_map, List.getElem?_eq_getElem h1, List.getElem?_eq_getElem (show j < out'.length by omega), Option.map_some, Option.some.injEq] at this
    exact this⟩
  have hn0 : ∃ n, out.length = n := ⟨_, rfl⟩
  obtain ⟨n, hn⟩ := hn0
  rw [hl', hn]
  rw [hn] at hl
  have HX := Lib.hid hx; have H := Lib.hid h; have H' := Lib.hid h'; have HI := Lib.hid hi
  clear h h' hx hi he
  have HN := Lib.hid hn; have HL' := Lib.hid hl'
  clear hn hl'
  go_enter Try.func23, Try.ntmps23
  go_wp2_with fail
  go_loopw [15] (fun i wr => ∃ (j : Nat), j ≤ n ∧ i = .int .i64 j ∧ Keeps Free w wr) (fun i _ => match i with | .int _ j => n - j.toNat | _ => 0)
  case atStart => exact ⟨0, by omega, rfl, Keeps.refl _ _⟩
  case round =>
    obtain ⟨j, hj, rfl, hk⟩ := hrel
    by_cases hlt : j < n
    · obtain ⟨hj2, he⟩ := HX.out j (by rw [HN.out]; exact hlt)
      have hj1 : j < out.length := by rw [HN.out]; exact hlt
      have hcs := (H.out.into hk (fun _ _ h => h) (fun _ _ h => h) : MsgsOk wr Free _ _)
      have hcs' := (H'.out.into hk (fun _ _ h => h) (fun _ _ h => h) : MsgsOk wr Free _ _)
      obtain ⟨b, off, rfl, hc⟩ := Sl.mes (hcs.cells) hj1
      obtain ⟨b', off', rfl, hc'⟩ := Sl.mes (hcs'.cells) hj2
      have hm := hcs.each _ (List.getElem_mem hj1)
      have hm' := hcs'.each _ (List.getElem_mem hj2)
      have hil := HI.out _ (List.getElem_mem hj1)
      generalize out[j] = x at *
      generalize out'[j] = y at *
      obtain ⟨m, iv⟩ := x
      obtain ⟨m', iv'⟩ := y
      simp only at he
      subst he
      obtain ⟨IA, IC, e⟩ := hm.shape
      obtain ⟨IA', IC', e'⟩ := hm'.shape
      simp only at e e'
      subst e e'
      have HS := Lib.hid (fun (w1 : World) (hk1 : Keeps Free wr w1) => sameItems_any (hm.keep hk1 (fun _ _ h => h)) (hm'.keep hk1 (fun _ _ h => h)) hil)
      have a0 := hc 0 _ (by decide) rfl
      have a1 := hc 1 _ (by decide) rfl
      have a2 := hc 2 _ (by decide) rfl
      have a3 := hc 3 _ (by decide) rfl
      have a4 := hc 4 _ (by decide) rfl
      have a5 := hc 5 _ (by decide) rfl
      have a6 := hc 6 _ (by decide) rfl
      have a7 := hc 7 _ (by decide) rfl
      have a8 := hc 8 _ (by decide) rfl
      have k0 := hc' 0 _ (by decide) rfl
      have k1 := hc' 1 _ (by decide) rfl
      have k2 := hc' 2 _ (by decide) rfl
      have k3 := hc' 3 _ (by decide) rfl
      have k4 := hc' 4 _ (by decide) rfl
      have k5 := hc' 5 _ (by decide) rfl
      have k6 := hc' 6 _ (by decide) rfl
      have k7 := hc' 7 _ (by decide) rfl
      have k8 := hc' 8 _ (by decide) rfl
      simp only [Nat.add_zero] at a0 k0
      simp only at HS
      have HK := Lib.hid hk
      clear hc hc' hm hm' hk hcs hcs' hil
      clear HX H H' HI HL'
      obtain ⟨kind, src, dst, term, index, logTerm, commit, items, yes⟩ := m'
      simp only at *
      generalize items.length = il at *
      have hbl := cell_lt a0
      have hbl' := cell_lt k0
      go_upto_region 6 with fail
      go_cut [6, 7] from 6 to 7 (fun s6 s7 wx => ∃ p q, s6 = .pointer (some ⟨p, 0, none⟩) ∧ s7 = .pointer (some ⟨q, 0, none⟩) ∧ Keeps Free wr wx ∧
        wx.heap[p]? = some (.cells #[.int .i64 kind, .int .i64 src, .int .i64 dst, .int .i64 term, .int .i64 index, .int .i64 logTerm, .int .i64 commit, .slice IA il IC, .bool yes] 38 (0, 0)) ∧
        wx.heap[q]? = some (.cells #[.int .i64 kind, .int .i64 src, .int .i64 dst, .int .i64 term, .int .i64 index, .int .i64 logTerm, .int .i64 commit, .slice IA' il IC', .bool yes] 38 (0, 0)))
      case first =>
        go_region
        all_goals
          go_wp2_with fail
          go_meet
          first
            | exact ⟨_, _, rfl, rfl, (two_boxes wr _ _).1.drew, (two_boxes wr _ _).2.1, (two_boxes wr _ _).2.2⟩
            | exact ⟨_, _, rfl, rfl, (two_boxes wr _ _).1.drew, (two_boxes wr _ _).2.2, (two_boxes wr _ _).2.1⟩
      case rest =>
        obtain ⟨p, q, rfl, rfl, hkx, B1, B2⟩ := hcut
        obtain ⟨a0, a1, a2, a3, a4, a5, a6, a7, a8⟩ := cells9 B1
        obtain ⟨k0, k1, k2, k3, k4, k5, k6, k7, k8⟩ := cells9 B2
        have HKX := Lib.hid hkx
        clear hkx B1 B2
        go_wp2_with (go_at_call 34; refine (HS.out _ HKX.out).mono ?_; rintro e w3 ⟨rfl, hk3⟩; clear HS)
        go_roundw
        case measure => simp only; omega
        case rel => exact ⟨j + 1, by omega, by go_num, (HK.out.trans HKX.out (fun _ h => .inl h)).trans hk3 (fun _ h => .inl h)⟩
    · have hj' : j = n := by omega
      subst hj'
      go_wp2
      go_ret
      exact ⟨rfl, hk⟩
end Go.Proofs.Ytibjbpakbfodaaa
