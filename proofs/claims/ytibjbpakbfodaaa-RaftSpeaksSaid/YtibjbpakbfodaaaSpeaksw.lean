/- RaftSpeaks, walked. -/
import Derived.Test.YtibjbpakbfodaaaAll
import Derived.Test.YtibjbpakbfodaaaAlive
import Derived.Deep.LoopGhost
namespace Go.Proofs.Ytibjbpakbfodaaa
open Go.RowKit


/-- The cells of one node of a slice of nodes. -/
theorem Sl.node {w : World} {S : Nat → Prop} {A : Option Addr} {len c : Nat} {l : List NodV} (h : Sl w S (.slice A len c) 11 (l.flatMap nodCells)) {j : Nat} (hj : j < l.length) :
    ∃ b off, A = some ⟨b, off, none⟩ ∧ ∀ i u, i < 11 → (nodCells l[j])[i]? = some u → w.cell? ⟨b, off + j * 11 + i, none⟩ = some u := by
  obtain ⟨A', len', c', e, hl, _, _, hc⟩ := h
  injection e with e1 e2 e3
  subst e1
  have hfl : (l.flatMap nodCells).length = l.length * 11 := flat_length nodCells 11 (fun _ => rfl) l
  obtain ⟨b, off, rfl, _, hcell⟩ := hc (by omega)
  refine ⟨b, off, rfl, fun i u hi hu => ?_⟩
  rw [Nat.add_assoc]
  exact hcell _ _ ((flat_get nodCells 11 (fun _ => rfl) l j l[j] i (List.getElem?_eq_getElem hj) hi).trans hu)


/-- The cells of one message of a slice of messages. -/
theorem Sl.mes {w : World} {S : Nat → Prop} {A : Option Addr} {len c : Nat} {l : List MesV} (h : Sl w S (.slice A len c) 9 (l.flatMap mesCells)) {j : Nat} (hj : j < l.length) :
    ∃ b off, A = some ⟨b, off, none⟩ ∧ ∀ i u, i < 9 → (mesCells l[j])[i]? = some u → w.cell? ⟨b, off + j * 9 + i, none⟩ = some u := by
  obtain ⟨A', len', c', e, hl, _, _, hc⟩ := h
  injection e with e1 e2 e3
  subst e1
  have hfl : (l.flatMap mesCells).length = l.length * 9 := flat_length mesCells 9 (fun _ => rfl) l
  obtain ⟨b, off, rfl, _, hcell⟩ := hc (by omega)
  refine ⟨b, off, rfl, fun i u hi hu => ?_⟩
  rw [Nat.add_assoc]
  exact hcell _ _ ((flat_get mesCells 9 (fun _ => rfl) l j l[j] i (List.getElem?_eq_getElem hj) hi).trans hu)

/-- Is there one of the first so many nodes in this term? -/
def inTerm (l : List NodV) (t : Int) (j : Nat) : Bool := (l.take j).any fun y => y.n.term == t

theorem inTerm_succ (l : List NodV) (t : Int) {j : Nat} (hj : j < l.length) : inTerm l t (j + 1) = (inTerm l t j || (l[j].n.term == t)) := by
  unfold inTerm
  rw [List.take_succ_eq_append_getElem hj, List.any_append]
  simp

theorem all_speak (n : Nod) (m : Mes) (cmd : Int) {l : List NodV} (hl : l.map NodV.n = [(timeout n).1, (beat n).1, (propose n cmd).1, (receive n m).1, restart n]) {s : Mes}
    (hs : s ∈ (timeout n).2 ++ ((beat n).2 ++ ((propose n cmd).2.1 ++ (receive n m).2))) :
    s.src = n.id ∧ s.dst ≠ n.id ∧ 1 ≤ s.dst ∧ s.dst ≤ n.n ∧ s.items.length ≤ 3 ∧ inTerm l s.term 5 = true := by
  have hin : ∀ y : Nod, y ∈ l.map NodV.n → s.term = y.term → inTerm l s.term 5 = true := fun y hy he => by
    have hlen : l.length = 5 := by have := congrArg List.length hl; simpa using this
    obtain ⟨x, hx, rfl⟩ := List.mem_map.1 hy
    unfold inTerm
    rw [List.take_of_length_le (by omega), List.any_eq_true]
    exact ⟨x, hx, by simp [he]⟩
  rcases List.mem_append.1 hs with h | h
  · obtain ⟨a1, a2, a3, a4, a5, a6⟩ := timeout_speaks n s h
    exact ⟨a1, a2, a3, a4, a5, hin _ (by rw [hl]; simp) a6⟩
  rcases List.mem_append.1 h with h | h
  · obtain ⟨a1, a2, a3, a4, a5, a6⟩ := beat_speaks n s h
    exact ⟨a1, a2, a3, a4, a5, hin _ (by rw [hl]; simp) a6⟩
  rcases List.mem_append.1 h with h | h
  · obtain ⟨a1, a2, a3, a4, a5, a6⟩ := propose_speaks n cmd s h
    exact ⟨a1, a2, a3, a4, a5, hin _ (by rw [hl]; simp) a6⟩
  · obtain ⟨a1, a2, a3, a4, a5, a6⟩ := receive_speaks n m s h
    exact ⟨a1, a2, a3, a4, a5, hin _ (by rw [hl]; simp) a6⟩

set_option maxRecDepth 100000 in
set_option maxHeartbeats 8000000 in
theorem speaks_walk {w : World} {x : NodV} {m : MesV} (h : NodeOk w Free x) (hm : MesOk w Free m) (cmd : Int) :
    Calls Try.prog 9 #[.agg (nodCells x).toArray, .agg (mesCells m).toArray, .int .i64 cmd] w fun e w' => e = .returned (.bool true) ∧ Keeps Free w w' := by
  have hwr : ∀ w1, Keeps Free w w1 → Calls Try.prog 18 #[.agg (nodCells x).toArray] w1 fun e w' => e = .returned (.int .i64 (wrong x.n)) ∧ Keeps Free w1 w' := fun w1 hk => wrong_any (h.into hk (fun _ _ h => h) (fun _ _ h => h))
  have HW := Lib.hid hwr
  clear hwr
  have hal : ∀ w1, Keeps Free w w1 → Calls Try.prog 35 #[.agg (nodCells x).toArray, .agg (mesCells m).toArray, .int .i64 cmd] w1 (AllOf w1 x.n m.m cmd) := fun w1 hk => all_any (h.into hk (fun _ _ h => h) (fun _ _ h => h)) (Sl.into hm hk (fun _ _ h => h) (fun _ _ h => h)) cmd
  have HAL := Lib.hid hal
  clear hal
  obtain ⟨n, lv, vv, nv, mv⟩ := x
  obtain ⟨⟨LA, LL, LC, rfl, hll, -⟩, ⟨VA, VL, VC, rfl, -⟩, ⟨NA, NL, NC, rfl, -⟩, ⟨MA, ML, MC, rfl, -⟩⟩ := h
  obtain ⟨m, iv⟩ := m
  obtain ⟨IA, IL, IC, rfl, hil, -⟩ := hm
  obtain rfl : LL = n.log.length := by rw [itemCells_length] at hll; simp only at hll; omega
  obtain rfl : IL = m.items.length := by rw [itemCells_length] at hil; simp only at hil; omega
  have hca : (nodCells ⟨n, .slice LA n.log.length LC, .slice VA VL VC, .slice NA NL NC, .slice MA ML MC⟩).toArray = #[.int .i64 n.id, .int .i64 n.n, .int .i64 n.term, .int .i64 n.vote, .slice LA n.log.length LC, .int .i64 n.commit, .int .i64 n.role, .int .i64 n.boss, .slice VA VL VC, .slice NA NL NC, .slice MA ML MC] := rfl
  have hcm : (mesCells ⟨m, .slice IA m.items.length IC⟩).toArray = #[.int .i64 m.kind, .int .i64 m.src, .int .i64 m.dst, .int .i64 m.term, .int .i64 m.index, .int .i64 m.logTerm, .int .i64 m.commit, .slice IA m.items.length IC, .bool m.yes] := rfl
  rw [hca, hcm] at HAL ⊢
  rw [hca] at HW
  simp only at HAL HW ⊢
  clear hll hil hca hcm
  go_enter Try.func9, Try.ntmps9
  obtain ⟨k0, k1, k2⟩ := two_boxes w (.cells #[.int .i64 n.id, .int .i64 n.n, .int .i64 n.term, .int .i64 n.vote, .slice LA n.log.length LC, .int .i64 n.commit, .int .i64 n.role, .int .i64 n.boss, .slice VA VL VC, .slice NA NL NC, .slice MA ML MC] 25) (.cells #[.int .i64 m.kind, .int .i64 m.src, .int .i64 m.dst, .int .i64 m.term, .int .i64 m.index, .int .i64 m.logTerm, .int .i64 m.commit, .slice IA m.items.length IC, .bool m.yes] 38)
  go_wp2_with fail
  refine (alive_any _).mono ?_
  rintro e w3 ⟨rfl, hk3⟩
  have HK3 := Lib.hid (k0.trans hk3 (fun _ h => .inl h))
  have hb1 := hk3.blk k1
  have hb2 := hk3.blk k2
  clear k0 k1 k2 hk3
  generalize hB : w.heap.size = B at *
  obtain ⟨b0, b1, b2, b3, b4, b5, b6, b7, b8, b9, b10, bf⟩ := cells11 hb1
  obtain ⟨d0, d1, d2, d3, d4, d5, d6, d7, d8⟩ := cells9 hb2
  have HB1 := Lib.hid hb1; have HBE := Lib.hid hB
  clear hb1 hb2 hB
  go_wp2_with fail
  refine (HW.out _ HK3.out).mono ?_
  rintro e w3' ⟨rfl, hk3⟩
  have HK3' := Lib.hid (HK3.out.trans hk3 (fun _ h => .inl h))
  have HB1' := Lib.hid (hk3.blk HB1.out)
  have d0' := hk3.cell (fun h => h) d0
  have d1' := hk3.cell (fun h => h) d1
  have d2' := hk3.cell (fun h => h) d2
  have d3' := hk3.cell (fun h => h) d3
  have d4' := hk3.cell (fun h => h) d4
  have d5' := hk3.cell (fun h => h) d5
  have d6' := hk3.cell (fun h => h) d6
  have d7' := hk3.cell (fun h => h) d7
  have d8' := hk3.cell (fun h => h) d8
  clear b0 b1 b2 b3 b4 b5 b6 b7 b8 b9 b10 bf d0 d1 d2 d3 d4 d5 d6 d7 d8 hk3 HW HK3 HB1
  obtain ⟨b0, b1, b2, b3, b4, b5, b6, b7, b8, b9, b10, bf⟩ := cells11 HB1'.out
  cases hw0 : (wrong n != 0)
  case true =>
    have hw1 : wrong n ≠ 0 := by simpa using hw0
    have ht : timeout n = (n, []) := by unfold timeout; rw [if_pos (.inl hw1)]
    have hb : beat n = (n, []) := by unfold beat; rw [if_pos (.inl hw1)]
    have hp : propose n cmd = (n, [], false) := by unfold propose; rw [if_pos (.inl hw1)]
    have hr : receive n m = (n, []) := by unfold receive; rw [if_pos (.inl hw1)]
    have HN := Lib.hid (show (timeout n).2 ++ ((beat n).2 ++ ((propose n cmd).2.1 ++ (receive n m).2)) = [] by rw [ht, hb, hp, hr]; rfl)
    clear ht hb hp hr hw1
    go_wp2_with fail
    refine (HAL.out _ HK3'.out).mono ?_
    rintro e w4 ⟨nv, ov, l, out, rfl, hnv, hl, hshp, hov, hso, hiv, hk4⟩
    rw [HN.out] at hso
    have ho : out = [] := by
      have := congrArg List.length hso
      simp only [said, List.length_map, List.length_nil] at this
      exact List.eq_nil_of_length_eq_zero this
    subst ho
    have HK4 := Lib.hid (HK3'.out.trans hk4 (fun _ h => .inl h))
    obtain ⟨A, L, C, rfl, hL, -⟩ := hov
    obtain rfl : L = 0 := by simp at hL; omega
    clear hnv hl hshp hiv hk4 HAL hso hL
    go_wp2_with fail
    go_ret
    exact ⟨rfl, HK4.out⟩
  case false =>
    have g := good_of_wrong (by simpa using hw0 : wrong n = 0)
    have HG := Lib.hid g
    clear g
    go_wp2_with fail
    refine (HAL.out _ HK3'.out).mono ?_
    rintro e w4 ⟨nv, ov, l, out, rfl, hnv, hl, hshp, hov, hso, hiv, hk4⟩
    have HK4 := Lib.hid (HK3'.out.trans hk4 (fun _ h => .inl h))
    have hb1' := hk4.blk HB1'.out
    clear b0 b1 b2 b3 b4 b5 b6 b7 b8 b9 b10 bf d0' d1' d2' d3' d4' d5' d6' d7' d8' hk4 HAL hw0
    obtain ⟨b0, b1, b2, b3, b4, b5, b6, b7, b8, b9, b10, bf⟩ := cells11 hb1'
    clear b2 b3 b4 b5 b6 b7 b8 b9 b10 bf hb1'
    have hlen : l.length = 5 := by have := congrArg List.length hl; simpa using this
    have hol : out.length ≤ 40 := by
      have := congrArg List.length hso
      have h1 := timeout_len n; have h2 := beat_len n; have h3 := propose_len n cmd; have h4 := receive_len n m
      simp only [said, List.length_map, List.length_append] at this
      omega
    have hsp : ∀ s ∈ out, s.m.src = n.id ∧ s.m.dst ≠ n.id ∧ 1 ≤ s.m.dst ∧ s.m.dst ≤ n.n ∧ s.m.items.length ≤ 3 ∧ inTerm l s.m.term 5 = true := fun s hs =>
      all_speak n m cmd hl (by rw [← hso]; exact List.mem_map_of_mem hs)
    have hnv2 := hnv; have hov2 := hov
    obtain ⟨A, L, C, rfl, hL, -⟩ := hnv
    obtain rfl : L = 5 := by rw [flat_length nodCells 11 (fun _ => rfl)] at hL; omega
    obtain ⟨OA, OL, OC, rfl, hOL, -⟩ := hov
    obtain rfl : OL = out.length := by rw [flat_length mesCells 9 (fun _ => rfl)] at hOL; omega
    have HNV := Lib.hid hnv2; have HOV := Lib.hid hov2; have HSP := Lib.hid hsp; have HSH := Lib.hid hshp; have HLEN := Lib.hid hlen; have HOL := Lib.hid hol; have HIV := Lib.hid hiv
    clear hnv2 hov2 hsp hshp hlen hL hl hso hOL hol hiv
    go_wp2_with fail
    go_loopw [40] (fun i wr => ∃ j : Nat, j ≤ out.length ∧ i = .int .i64 j ∧ Keeps Free w4 wr) (fun i _ => match i with | .int _ j => out.length - j.toNat | _ => 0)
    case atStart => exact ⟨0, by omega, rfl, Keeps.refl _ _⟩
    case round =>
      obtain ⟨j, hj, rfl, hk⟩ := hrel
      have HKR := Lib.hid hk
      have n0 := hk.cell (fun h => h) b0
      have n1 := hk.cell (fun h => h) b1
      have hsl := HOV.out.keep hk (fun _ _ h => h)
      clear hk b0 b1
      by_cases hlt : j < out.length
      · obtain ⟨b, off, rfl, hcell⟩ := hsl.mes hlt
        obtain ⟨s1, s2, s3, s4, s5, s6⟩ := HSP.out _ (List.getElem_mem hlt)
        obtain ⟨SA, SC, e1⟩ := HIV.out _ (List.getElem_mem hlt)
        have hj40 : j < 40 := by have := HOL.out; omega
        generalize out[j] = ss at *
        obtain ⟨s, iv⟩ := ss
        simp only at e1 s1 s2 s3 s4 s5 s6
        subst e1
        have c0 := hcell 0 _ (by omega) rfl
        have c1 := hcell 1 _ (by omega) rfl
        have c2 := hcell 2 _ (by omega) rfl
        have c3 := hcell 3 _ (by omega) rfl
        have c4 := hcell 4 _ (by omega) rfl
        have c5 := hcell 5 _ (by omega) rfl
        have c6 := hcell 6 _ (by omega) rfl
        have c7 := hcell 7 _ (by omega) rfl
        have c8 := hcell 8 _ (by omega) rfl
        simp only [Nat.add_zero] at c0 c1 c2 c3 c4 c5 c6 c7 c8
        have hbl := cell_lt c0
        have ka : Keeps Free wr (wr.alloc (.cells #[.int .i64 s.kind, .int .i64 s.src, .int .i64 s.dst, .int .i64 s.term, .int .i64 s.index, .int .i64 s.logTerm, .int .i64 s.commit, .slice SA s.items.length SC, .bool s.yes] 38)) := (Keeps.refl Free wr).alloc _
        have hbi := heap_alloc_new wr (.cells #[.int .i64 s.kind, .int .i64 s.src, .int .i64 s.dst, .int .i64 s.term, .int .i64 s.index, .int .i64 s.logTerm, .int .i64 s.commit, .slice SA s.items.length SC, .bool s.yes] 38)
        obtain ⟨wa, hal2⟩ : ∃ wa, wr.alloc (.cells #[.int .i64 s.kind, .int .i64 s.src, .int .i64 s.dst, .int .i64 s.term, .int .i64 s.index, .int .i64 s.logTerm, .int .i64 s.commit, .slice SA s.items.length SC, .bool s.yes] 38) = wa := ⟨_, rfl⟩
        obtain ⟨ia, hia⟩ : ∃ ia, wr.heap.size = ia := ⟨_, rfl⟩
        rw [hal2] at ka hbi
        rw [hia] at hbi
        obtain ⟨i0, i1, i2, i3, i4, i5, i6, i7, i8⟩ := cells9 hbi
        have n0' := ka.cell (fun h => h) n0
        have n1' := ka.cell (fun h => h) n1
        have KA := Lib.hid (HKR.out.trans ka (fun _ h => .inl h))
        clear hbi ka hcell i0 i4 i5 i6 i8 hsl
        have q1 : (s.src != n.id) = false := by rw [s1]; simp
        have q2 : (s.dst == n.id) = false := by simpa using s2
        have q3 : decide (s.dst < 1) = false := by simp; omega
        have q4 : decide (n.n < s.dst) = false := by simp; omega
        have q5 : decide (3 < (s.items.length : Int)) = false := by simp; omega
        have q5' : s.items.length ≤ 3 := s5
        have HIN := Lib.hid s6; have HJ := Lib.hid hj40
        clear s1 s2 s5 s6
        go_wp2_with fail
        clear q1 q2 q3 q4 q5 q5' c0 c1 c2 c3 c4 c5 c6 c7 c8 i1 i2 i7 hal2 hia n0 n1 n0' n1' hbl s3 s4
        go_loopw [13, 76] (fun a i wr2 => ∃ k : Nat, k ≤ 5 ∧ i = .int .i64 k ∧ a = .bool (inTerm l s.term k) ∧ Keeps Free wa wr2) (fun _ i _ => match i with | .int _ k => 5 - k.toNat | _ => 0)
        case atStart => exact ⟨0, by omega, rfl, rfl, Keeps.refl _ _⟩
        case round =>
          obtain ⟨k, hk5, rfl, rfl, hkk⟩ := hrel
          have HKK := Lib.hid hkk
          have i3' := hkk.cell (fun h => h) i3
          have hnl := HNV.out.keep (KA.out.trans hkk (fun _ h => .inl h)) (fun _ _ h => h)
          clear hkk i3
          by_cases hlt5 : k < 5
          · have hjl : k < l.length := by have := HLEN.out; omega
            obtain ⟨b', off', rfl, hcell'⟩ := hnl.node hjl
            obtain ⟨la, lc, va, vl, vc, na, nl, nc, ma, ml, mc, e1, e2, e3, e4⟩ := HSH.out _ (List.getElem_mem hjl)
            have hsucc := inTerm_succ l s.term hjl
            generalize l[k] = yy at *
            obtain ⟨y, lv, vv, nv, mv⟩ := yy
            simp only at e1 e2 e3 e4 hsucc
            subst e1 e2 e3 e4
            have x0 := hcell' 0 _ (by omega) rfl
            have x1 := hcell' 1 _ (by omega) rfl
            have x2 := hcell' 2 _ (by omega) rfl
            have x3 := hcell' 3 _ (by omega) rfl
            have x4 := hcell' 4 _ (by omega) rfl
            have x5 := hcell' 5 _ (by omega) rfl
            have x6 := hcell' 6 _ (by omega) rfl
            have x7 := hcell' 7 _ (by omega) rfl
            have x8 := hcell' 8 _ (by omega) rfl
            have x9 := hcell' 9 _ (by omega) rfl
            have x10 := hcell' 10 _ (by omega) rfl
            simp only [Nat.add_zero] at x0 x1 x2 x3 x4 x5 x6 x7 x8 x9 x10
            have kb : Keeps Free wr (wr.alloc (.cells #[.int .i64 y.id, .int .i64 y.n, .int .i64 y.term, .int .i64 y.vote, .slice la y.log.length lc, .int .i64 y.commit, .int .i64 y.role, .int .i64 y.boss, .slice va vl vc, .slice na nl nc, .slice ma ml mc] 25)) := (Keeps.refl Free wr).alloc _
            have hbj := heap_alloc_new wr (.cells #[.int .i64 y.id, .int .i64 y.n, .int .i64 y.term, .int .i64 y.vote, .slice la y.log.length lc, .int .i64 y.commit, .int .i64 y.role, .int .i64 y.boss, .slice va vl vc, .slice na nl nc, .slice ma ml mc] 25)
            obtain ⟨wb, hal3⟩ : ∃ wb, wr.alloc (.cells #[.int .i64 y.id, .int .i64 y.n, .int .i64 y.term, .int .i64 y.vote, .slice la y.log.length lc, .int .i64 y.commit, .int .i64 y.role, .int .i64 y.boss, .slice va vl vc, .slice na nl nc, .slice ma ml mc] 25) = wb := ⟨_, rfl⟩
            obtain ⟨ib, hib⟩ : ∃ ib, wr.heap.size = ib := ⟨_, rfl⟩
            rw [hal3] at kb hbj
            rw [hib] at hbj
            obtain ⟨z0, z1, z2, z3, z4, z5, z6, z7, z8, z9, z10, zf⟩ := cells11 hbj
            have i3'' := kb.cell (fun h => h) i3'
            have KB := Lib.hid (HKK.out.trans kb (fun _ h => .inl h))
            have HSU := Lib.hid hsucc
            clear hbj kb hcell' z0 z1 z3 z4 z5 z6 z7 z8 z9 z10 zf hnl hsucc
            cases hin : inTerm l s.term k
            case true =>
              have hs1 : inTerm l s.term (k + 1) = true := by rw [HSU.out, hin]; rfl
              have HS1 := Lib.hid hs1
              clear hs1
              go_wp2_with fail
              go_roundw
              case measure => simp only; omega
              case rel => exact ⟨k + 1, by omega, by go_num, by rw [HS1.out], KB.out⟩
            case false =>
              have hs1 : inTerm l s.term (k + 1) = (y.term == s.term) := by rw [HSU.out, hin]; rfl
              have HS1 := Lib.hid hs1
              clear hs1
              go_wp2_with fail
              go_roundw
              case measure => simp only; omega
              case rel => exact ⟨k + 1, by omega, by go_num, by rw [HS1.out], KB.out⟩
          · obtain rfl : k = 5 := by omega
            have hin : inTerm l s.term 5 = true := HIN.out
            have HKF := Lib.hid (KA.out.trans HKK.out (fun _ h => .inl h))
            clear hnl i3'
            go_wp2_with fail
            go_roundw
            case measure => simp only; omega
            case rel => exact ⟨j + 1, by omega, by go_num, HKF.out⟩
      · have hj5 : j = out.length := by omega
        subst hj5
        clear hsl
        go_wp2_with fail
        go_ret
        exact ⟨rfl, HK4.out.trans HKR.out (fun _ h => .inl h)⟩
end Go.Proofs.Ytibjbpakbfodaaa
