/- ClusterLogs, walked. -/
import Derived.Test.YtibjbpakbfodaaaSeen
import Derived.Test.YtibjbpakbfodaaaTail
namespace Go.Proofs.Ytibjbpakbfodaaa
open Go.RowKit

theorem log_cap {w : World} {S : Nat → Prop} {A : Option Addr} {c : Nat} {l : List Itm} (h : Sl w S (.slice A l.length c) 2 (itemCells l)) : l.length ≤ c := by
  obtain ⟨A', n', c', e, _, h1, _⟩ := h
  injection e with e1 e2 e3
  omega

set_option maxRecDepth 100000 in
set_option maxHeartbeats 8000000 in
theorem logs_look {w : World} {S : Nat → Prop} {W : WldV} (hok : WldOk w S W) (h60 : ∀ x ∈ W.nodes, x.n.log.length ≤ 60) (hn5 : W.nodes.length ≤ 5)
    (hm : ∀ a ∈ W.nodes, ∀ b ∈ W.nodes, ∀ (i : Nat) (h : i < a.n.log.length) (h' : i < b.n.log.length), a.n.log[i].term = b.n.log[i].term → a.n.log.take (i + 1) = b.n.log.take (i + 1)) :
    Calls Try.prog 39 #[.agg #[W.nv, W.ov]] w fun e w' => e = .returned (.bool true) ∧ Keeps Free w w' := by
  obtain ⟨nodes, net, nv, ov⟩ := W
  obtain ⟨NA, NC, en1⟩ := hok.cells.form (nods_len nodes) (by decide)
  obtain ⟨OA, OC, en2⟩ := hok.msgs.cells.form (mess_len net) (by decide)
  simp only at en1 en2 hn5
  subst en1 en2
  obtain ⟨wz, B, hal, hB, hkz, hbz⟩ := box2 w (.slice NA nodes.length NC) (.slice OA net.length OC)
  obtain ⟨c0, c1, cf⟩ := cells2 hbz
  have HOK := Lib.hid hok; have H60 := Lib.hid h60; have HM := Lib.hid hm; have HKZ := Lib.hid hkz; have HBZ := Lib.hid hbz
  clear hok h60 hm hbz hkz
  go_enter Try.func39, Try.ntmps39
  go_wp2_with fail
  go_loopw [11] (fun i wr => ∃ k : Nat, k ≤ nodes.length ∧ i = .int .i64 k ∧ Keeps Free wz wr) (fun i _ => nodes.length + 1 - (intOf i).toNat)
  case atStart => exact ⟨0, Nat.zero_le _, rfl, Keeps.refl _ _⟩
  case round =>
    obtain ⟨k, hk, rfl, hkr⟩ := hrel
    have HKR := Lib.hid hkr
    clear hkr
    by_cases hlt : k < nodes.length
    · obtain ⟨b, off, x, LA, LC, VA, VL, VC, MA, ML, MC, PA, PL, PC, rfl, hxk, hxo, r0, r1, r2, r3, r4, r5, r6, r7, r8, r9, r10⟩ := HOK.out.node (HKZ.out.trans HKR.out fun _ h => .inl h) hlt
      obtain ⟨w4, b4, hal4, hb4, hk4, hbb4⟩ := box11 wr (.int .i64 x.id) (.int .i64 x.n) (.int .i64 x.term) (.int .i64 x.vote) (.slice LA x.log.length LC) (.int .i64 x.commit) (.int .i64 x.role) (.int .i64 x.boss) (.slice VA VL VC) (.slice MA ML MC) (.slice PA PL PC)
      obtain ⟨p0, p1, p2, p3, p4, p5, p6, p7, p8, p9, p10, pf⟩ := cells11 hbb4
      have d0 := hk4.cell (fun h => h) (HKR.out.cell (fun h => h) c0)
      have hx60 := H60.out nodes[k] (List.getElem_mem hlt)
      rw [hxk] at hx60
      have HX60 := Lib.hid hx60; have HXK := Lib.hid hxk; have HXO := Lib.hid hxo; have HK4 := Lib.hid hk4; have HBB4 := Lib.hid hbb4
      clear hxk hxo hk4 hbb4 hx60
      go_wp2_with fail
      obtain ⟨wo, hwo⟩ : ∃ wo, wo = wr := ⟨_, rfl⟩
      subst hwo
      go_loopw [18] (fun i wr => ∃ j : Nat, j ≤ nodes.length ∧ i = .int .i64 j ∧ Keeps Free w4 wr) (fun i _ => nodes.length + 1 - (intOf i).toNat)
      case atStart => exact ⟨0, Nat.zero_le _, rfl, Keeps.refl _ _⟩
      case round =>
        obtain ⟨j, hj, rfl, hkr2⟩ := hrel
        have HKR2 := Lib.hid hkr2
        clear hkr2
        by_cases hlt2 : j < nodes.length
        · obtain ⟨b', off', y, LA', LC', VA', VL', VC', MA', ML', MC', PA', PL', PC', hA', hyk, hyo, s0, s1, s2, s3, s4, s5, s6, s7, s8, s9, s10⟩ := HOK.out.node (((HKZ.out.trans HKR.out fun _ h => .inl h).trans HK4.out fun _ h => .inl h).trans HKR2.out fun _ h => .inl h) hlt2
          injection hA' with hA'
          injection hA' with hA1 hA2
          subst hA1 hA2
          obtain ⟨w5, b5, hal5, hb5, hk5, hbb5⟩ := box11 wr (.int .i64 y.id) (.int .i64 y.n) (.int .i64 y.term) (.int .i64 y.vote) (.slice LA' y.log.length LC') (.int .i64 y.commit) (.int .i64 y.role) (.int .i64 y.boss) (.slice VA' VL' VC') (.slice MA' ML' MC') (.slice PA' PL' PC')
          have hy60 := H60.out nodes[j] (List.getElem_mem hlt2)
          rw [hyk] at hy60
          have q4 := (hk5.cell (fun h => h) (HKR2.out.cell (fun h => h) p4))
          have t4 := (cells11 hbb5).2.2.2.2.1
          have hmm := HM.out nodes[k] (List.getElem_mem hlt) nodes[j] (List.getElem_mem hlt2)
          rw [HXK.out, hyk] at hmm
          have HMM := Lib.hid hmm; have HY60 := Lib.hid hy60; have HYO := Lib.hid hyo; have HK5 := Lib.hid hk5; have HX := Lib.hid ((HXO.out.into (S' := S) (((HK4.out.trans HKR2.out fun _ h => .inl h).trans hk5 fun _ h => .inl h)) (fun _ _ h => h.elim) fun _ _ h => h).log); have HY := Lib.hid ((hyo.into (S' := S) hk5 (fun _ _ h => h.elim) fun _ _ h => h).log)
          clear hmm hyk hyo hk5 hbb5 hy60
          go_wp2_with fail
          obtain ⟨wq, hwq⟩ : ∃ wq, wq = wr := ⟨_, rfl⟩
          subst hwq
          have hx6 : x.log.length ≤ 60 := HX60.out
          have hy6 : y.log.length ≤ 60 := HY60.out
          go_loopw [7] (fun i wr => ∃ m : Nat, m ≤ x.log.length ∧ i = .int .i64 m ∧ Keeps Free w5 wr) (fun i _ => (intOf i).toNat)
          case atStart => exact ⟨_, Nat.le_refl _, rfl, Keeps.refl _ _⟩
          case round =>
            obtain ⟨m, hml, rfl, hkr3⟩ := hrel
            have HKR3 := Lib.hid hkr3
            have e4 := hkr3.cell (fun h => h) q4
            have f4 := hkr3.cell (fun h => h) t4
            clear hkr3
            by_cases hm0 : m = 0
            · subst hm0
              go_wp2_with fail
              go_roundw
              case rel => exact ⟨j + 1, by omega, by go_num, (HKR2.out.trans HK5.out fun _ h => .inl h).trans HKR3.out fun _ h => .inl h⟩
              case measure => simp [intOf]; omega
            · obtain ⟨m, rfl⟩ : ∃ m', m = m' + 1 := ⟨m - 1, by omega⟩
              have hmx : m < x.log.length := by omega
              have hsx := HX.out.into (S' := S) HKR3.out (fun _ _ h => h.elim) fun _ _ h => h
              have hsy := HY.out.into (S' := S) HKR3.out (fun _ _ h => h.elim) fun _ _ h => h
              have hxc := log_cap hsx
              have hyc := log_cap hsy
              have HSX := Lib.hid hsx; have HSY := Lib.hid hsy
              rw [show ((m + 1 : Nat) : Int) = (m : Int) + 1 from by omega] at *
              have hw1 : IntKind.i64.wrap ((m : Int) + 1 - 1) = (m : Int) := by rw [IntWalk.i64_in _ (by omega)]; omega
              by_cases hmy : m < y.log.length
              · obtain ⟨ba, oa, rfl, -, i1, -⟩ := hsx.item' hmx
                obtain ⟨bb, ob, rfl, -, i2, -⟩ := hsy.item' hmy
                have hq : decide ((m : Int) + 1 ≤ (y.log.length : Int)) = true := by simp; omega
                clear hsx hsy
                by_cases he : x.log[m].term = y.log[m].term
                · have hsm := HMM.out m hmx hmy he
                  rw [he] at i1
                  have HSM := Lib.hid hsm
                  clear hsm he
                  generalize y.log[m].term = tt at *
                  go_upto_region 10 with fail
                  go_quiet (fail)
                  clear hq hw1
                  have fa : ∀ ξ : Kp (wr.drewN nq), ξ.val.cell? ⟨b4, 4, none⟩ = some (.slice (some ⟨ba, oa, none⟩) x.log.length LC) := fun ξ => ξ.keeps.cell (fun h => h) e4
                  have fb : ∀ ξ : Kp (wr.drewN nq), ξ.val.cell? ⟨b5, 4, none⟩ = some (.slice (some ⟨bb, ob, none⟩) y.log.length LC') := fun ξ => ξ.keeps.cell (fun h => h) f4
                  have hcall : ∀ ξ : Kp (wr.drewN nq), Calls Try.prog 34 #[.slice (some ⟨ba, oa, none⟩) (m + 1) LC, .slice (some ⟨bb, ob, none⟩) (m + 1) LC'] ξ.val fun e w'' => e = .returned (.bool true) ∧ ∃ ξ' : Kp (wr.drewN nq), w'' = ξ'.val := fun ξ => by
                    have kx : Keeps Free wr ξ.val := ((Keeps.refl Free wr).drewN nq).trans ξ.keeps fun _ h => .inl h
                    have g1 := (HSX.out.into (S' := S) kx (fun _ _ h => h.elim) fun _ _ h => h).head (k := m + 1) (by omega)
                    have g2 := (HSY.out.into (S' := S) kx (fun _ _ h => h.elim) fun _ _ h => h).head (k := m + 1) (by omega)
                    refine (same_any (l := x.log.take (m + 1)) g1 (by rw [HSM.out]; exact g2) (by rw [List.length_take]; omega)).mono ?_
                    rintro e w'' ⟨rfl, hk⟩
                    exact ⟨rfl, ⟨w'', ξ.keeps.trans hk (fun _ h => .inl h)⟩, rfl⟩
                  have HC := Lib.hid hcall
                  have hmx1 : m + 1 ≤ LC := by omega
                  have hmy1 : m + 1 ≤ LC' := by omega
                  clear hcall i1 i2 e4 f4
                  go_upto_region 11 with fail
                  refine wp_region_quiet_k (by kernel_rfl) (by kernel_rfl) ?_
                  repeat (go_big_quiet_step (first | exact HC.out _ | (go_at_call 34; exact HC.out _)))
                  refine wpQuiet_nil ?_
                  intro _ hw'
                  obtain ⟨ξ, hw''⟩ := hw'
                  subst hw''
                  go_wp2_with fail
                  go_roundw
                  case rel => exact ⟨j + 1, by omega, by go_num, (((HKR2.out.trans HK5.out fun _ h => .inl h).trans HKR3.out fun _ h => .inl h).drewN nq).trans ξ.keeps fun _ h => .inl h⟩
                  case measure => simp [intOf]; omega
                · have hne : (x.log[m].term == y.log[m].term) = false := by rw [beq_eq_false_iff_ne]; exact he
                  clear he
                  generalize x.log[m].term = tx at *
                  generalize y.log[m].term = ty at *
                  go_upto_region 10 with fail
                  go_quiet (fail)
                  clear hq
                  go_wp2_with fail
                  go_roundw
                  case rel => exact ⟨m, by omega, by go_num, HKR3.out.drewN nq⟩
                  case measure => simp [intOf]
              · have hq : decide ((m : Int) + 1 ≤ (y.log.length : Int)) = false := by simp; omega
                clear hsx hsy
                go_upto_region 10 with fail
                go_quiet (fail)
                clear hq
                go_wp2_with fail
                go_roundw
                case rel => exact ⟨m, by omega, by go_num, HKR3.out.drewN nq⟩
                case measure => simp [intOf]
        · go_wp2_with fail
          go_roundw
          case rel => exact ⟨k + 1, by omega, by go_num, (HKR.out.trans HK4.out fun _ h => .inl h).trans HKR2.out fun _ h => .inl h⟩
          case measure => simp [intOf]; omega
    · go_wp2_with fail
      go_ret
      exact ⟨rfl, HKZ.out.trans HKR.out fun _ h => .inl h⟩
end Go.Proofs.Ytibjbpakbfodaaa
