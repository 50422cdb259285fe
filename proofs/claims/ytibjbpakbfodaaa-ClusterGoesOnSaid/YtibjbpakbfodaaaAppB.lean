/- (*peer).appended, where the log has what the message stands on: the loop over the items. -/
import Derived.Test.YtibjbpakbfodaaaAppA
import Derived.Deep.LoopGhost
namespace Go.Proofs.Ytibjbpakbfodaaa
open Go.RowKit

/-- The head of a row that is owned. -/
theorem own_take {w : World} {base e size : Nat} {A : Option Addr} {n c : Nat} {xs : List Value} (h : w.ownsRow base e size (.slice A n c) n xs) {a : Nat} (ha : a ≤ n) (hn : 0 < n) : w.ownsRow base e size (.slice A a c) a (xs.take (a * size)) := by
  have hle : a * size ≤ n * size := Nat.mul_le_mul_right _ ha
  refine ⟨by rw [List.length_take, h.1]; omega, ?_⟩
  rcases h.2 with ⟨_, h0⟩ | ⟨g, cap, cur, e1, h1, h2, h3, h4, h5, h6⟩
  · omega
  · injection e1 with e1 e2 e3
    subst e1 e3
    refine .inr ⟨g, c, cur, rfl, h1, h2, by omega, h4, h5, ?_⟩
    rw [← h6, List.take_take, Nat.min_eq_left hle]

/-- The log has been cut at a place. -/
theorem Peer.cutLog {w w2 : World} {S : Nat → Prop} {p : Nat} {x : NodV} {ov : Value} {out : List MesV} (h : Peer w S p x ov out) (hk : Keeps (fun _ => False) w w2) {A : Option Addr} {c : Nat} (hv : x.lv = .slice A x.n.log.length c) {a : Nat} (ha : a ≤ x.n.log.length) (h0 : 0 < x.n.log.length) (cm : Int) :
    Peer ((w2.setCell ⟨p, 4, none⟩ (.slice A a c)).setCell ⟨p, 5, none⟩ (.int .i64 cm)) S p ⟨{ x.n with log := x.n.log.take a, commit := cm }, .slice A a c, x.vv, x.nv, x.mv⟩ ov out ∧ Keeps S w ((w2.setCell ⟨p, 4, none⟩ (.slice A a c)).setCell ⟨p, 5, none⟩ (.int .i64 cm)) := by
  have h2 := h.later hk
  have hkk : Keeps S w ((w2.setCell ⟨p, 4, none⟩ (.slice A a c)).setCell ⟨p, 5, none⟩ (.int .i64 cm)) := ((hk.mono (fun _ h => h.elim)).setCell (.inl h.pS) _).setCell (.inl h.pS) _
  have mv : ∀ {base e size : Nat} {v : Value} {n : Nat} {xs : List Value}, w2.ownsRow base e size v n xs → v.ownBlock ≠ some p → ((w2.setCell ⟨p, 4, none⟩ (.slice A a c)).setCell ⟨p, 5, none⟩ (.int .i64 cm)).ownsRow base e size v n xs := fun hr hne => own_set (own_set hr _ hne) _ hne
  have hlo := h2.log
  rw [hv] at hlo
  have hln := h2.log_ne
  rw [hv] at hln
  have hob : (Value.slice A a c).ownBlock = (Value.slice A x.n.log.length c).ownBlock := by cases A <;> rfl
  refine ⟨{ blk := ?_, log := ?_, votes := mv h2.votes h2.votes_ne, next := mv h2.next h2.next_ne, mtch := mv h2.mtch h2.mtch_ne, outs := mv h2.outs h2.out_ne, items := fun m hm => (h.items m hm).keep hkk (fun _ _ h => h), late := h2.late, pS := h.pS,
            lS := fun g hg => h.lS g (by rw [hv, ← hob]; exact hg), vS := h.vS, nS := h.nS, mS := h.mS, oS := h.oS, vn := h.vn, vm := h.vm, nm := h.nm, lt := fun k hk' => by rw [setCell_size, setCell_size]; exact h2.lt k hk' }, hkk⟩
  · rw [setCell_blk (setCell_blk h2.blk)]
    rfl
  · have := own_take hlo ha h0
    rw [itemCells_take] at this
    have h3 := mv this (by rw [hob]; exact hln)
    show World.ownsRow _ 0 44 2 (.slice A a c) (x.n.log.take a).length (itemCells (x.n.log.take a))
    rw [List.length_take, Nat.min_eq_left ha]
    exact h3

theorem taken_same {k : Nat} {x y : Itm} {t l : List Itm} {c : Int} (h : l[k]? = some y) (he : y.term = x.term) : taken k (x :: t) l c = taken (k + 1) t l c := by
  rw [taken]; simp only [h]; rw [if_neg (by simp [he])]
theorem taken_cut {k : Nat} {x y : Itm} {t l : List Itm} {c : Int} (h : l[k]? = some y) (he : y.term ≠ x.term) : taken k (x :: t) l c = taken (k + 1) t (l.take k ++ [x]) (min c k) := by
  rw [taken]; simp only [h]; rw [if_pos he]
theorem taken_end {k : Nat} {x : Itm} {t l : List Itm} {c : Int} (h : l[k]? = none) : taken k (x :: t) l c = taken (k + 1) t (l ++ [x]) c := by
  rw [taken]; simp only [h]

/-- What stands at item j of a slice that reads as items. -/
theorem Sl.item {w : World} {S : Nat → Prop} {A : Option Addr} {n c : Nat} {l : List Itm} (h : Sl w S (.slice A n c) 2 (itemCells l)) {j : Nat} (hj : j < l.length) : ∃ b off, A = some ⟨b, off, none⟩ ∧ ¬ S b ∧ w.cell? ⟨b, off + j * 2, none⟩ = some (.int .i64 l[j].term) ∧ w.cell? ⟨b, off + j * 2 + 1, none⟩ = some (.int .i64 l[j].cmd) := by
  obtain ⟨A', n', c', e, hl, _, _, hc⟩ := h
  injection e with e1 e2 e3
  subst e1
  obtain ⟨b, off, rfl, hb, hcell⟩ := hc (by rw [itemCells_length]; omega)
  have g0 := flat_get (fun x : Itm => [Value.int .i64 x.term, Value.int .i64 x.cmd]) 2 (fun _ => rfl) l j l[j] 0 (List.getElem?_eq_getElem hj) (by omega)
  have g1 := flat_get (fun x : Itm => [Value.int .i64 x.term, Value.int .i64 x.cmd]) 2 (fun _ => rfl) l j l[j] 1 (List.getElem?_eq_getElem hj) (by omega)
  exact ⟨b, off, rfl, hb, hcell _ _ g0, by rw [Nat.add_assoc]; exact hcell _ _ g1⟩

set_option maxRecDepth 100000 in
set_option maxHeartbeats 4000000 in
theorem appended_takes {w : World} {S : Nat → Prop} {p : Nat} {x : NodV} {ov : Value} {out : List MesV} (h : Peer w S p x ov out) {mb : Nat} {m : MesV} (hm : MesAt w S mb m) (h1 : ¬ m.m.term < x.n.term) (h2 : x.n.role ≠ 3) (hl : x.n.log.length ≤ 60)
    (hi0 : 0 ≤ m.m.index) (hi1 : m.m.index + m.m.items.length ≤ 60) (hc0 : 0 ≤ x.n.commit) (hc1 : x.n.commit ≤ 1000) (hout : out.length ≤ 90) (y : Nod) (hla : ¬ lacks y.log m.m) (hy : y = follow x.n m.m.term m.m.src) :
    Calls Try.prog 74 #[.pointer (some ⟨p, 0, none⟩), .pointer (some ⟨mb, 0, none⟩)] w (LacksPost w S p y m.m out) := by
  obtain ⟨LA, LC, VA, VC, NA, NC, MA, MC, OA, OC, hlv, hvv, hnv, hmv, hov, c0, c1, c2, c3, c4, c5, c6, c7, c8, c9, c10, c11, hfz, hpl⟩ := h.open_
  obtain ⟨d0, d1, d2, d3, d4, d5, d6, d7, d8⟩ := hm.cells
  clear hlv hvv hnv hmv hov c0 c1 c3 c4 c5 c7 c8 c9 c10 c11 hfz d0 d2 d4 d5 d6 d7 d8
  obtain ⟨i0, hi, hz, hsz, hby⟩ := info_parts Try.info44
  have HI := Lib.hid hi; have HZ := Lib.hid hz; have HS := Lib.hid hsz; have HB := Lib.hid hby
  clear hi hz hsz hby
  have HP := Lib.hid h; have HM := Lib.hid hm
  have HY := Lib.hid hy
  clear hy
  have hd : decide (m.m.term < x.n.term) = false := by simpa using h1
  have hb : (x.n.role == 3) = false := by rw [beq_eq_false_iff_ne]; exact h2
  go_enter Try.func74, Try.ntmps74
  go_wp2_with fail
  go_quiet (fail)
  clear hd hb
  generalize hwo : w.drewN nq = wo
  have hK : Keeps (fun _ => False) w wo := by rw [← hwo]; exact (Keeps.refl _ w).drewN nq
  clear hwo
  have e1 := hK.cell (fun h => h) d1
  have e3 := hK.cell (fun h => h) d3
  have HP1 := Lib.hid (h.later hK); have HK := Lib.hid hK
  clear c2 c6 d1 d3 hK
  go_upto_region 2 with fail
  go_cut [39] (fun _ wx => Peer wx S p ⟨y, x.lv, .slice none 0 0, .slice none 0 0, .slice none 0 0⟩ ov out ∧ Keeps S w wx)
  case first =>
    as_aux_lemma =>
      have K2 := Lib.hid (Keeps.refl (fun _ => False) wo).drew
      all_goals
        go_still_tail 9, (by kernel_rfl)
        go_wp2_with (go_at_call 69; refine (follow_any (HP1.out.later K2.out) m.m.term m.m.src).mono ?_; rintro e w2 ⟨rfl, hp2, hk2⟩)
        go_meet
        exact ⟨by rw [HY.out]; exact hp2, ((HK.out.trans K2.out (fun _ h => .inl h)).mono (fun _ h => h.elim)).trans hk2 (fun _ h => .inl h)⟩
  case rest =>
    obtain ⟨wp, rfl⟩ : ∃ wp : World, wp = wc := ⟨_, rfl⟩
    obtain ⟨hp, hk⟩ := hcut
    have hm1 := hm.keep hk (fun _ _ h => h)
    obtain ⟨d0, d1, d2, d3, d4, d5, d6, d7, d8⟩ := hm1.cells
    have hyl : y.log = x.n.log := by rw [HY.out]; rfl
    have hyc : y.commit = x.n.commit := by rw [HY.out]; rfl
    obtain ⟨LA, LC, VA, VC, NA, NC, MA, MC, OA, OC, hlv, hvv, hnv, hmv, hov, c0, c1, c2, c3, c4, c5, c6, c7, c8, c9, c10, c11, hfz, hpl1⟩ := hp.open_
    simp only at hlv c4
    rw [← hyl] at hl
    rw [← hyc] at hc0 hc1
    have HP2 := Lib.hid hp; have HK2 := Lib.hid hk; have HM1 := Lib.hid hm1; have HLV := Lib.hid hlv
    obtain ⟨T, hT⟩ : ∃ T, T = termAt y.log m.m.index := ⟨_, rfl⟩
    have hcall : ∀ w1 : World, Keeps (fun _ => False) wp w1 → Calls Try.prog 61 #[.pointer (some ⟨p, 0, none⟩), .int .i64 m.m.index] w1 fun e w' => e = .returned (.int .i64 T) ∧ w' = w1 := by
      intro w1 hk1
      rw [hT]
      exact termAt_any (hp.later hk1) _ hl (by omega) (by omega)
    have HC := Lib.hid hcall; have HT := Lib.hid hT
    clear hlv hvv hnv hmv hov c0 c1 c2 c3 c5 c6 c7 c8 c9 c10 c11 hfz d0 d2 d3 d8 hp hk hm1 hyl hyc hcall hT e1 e3
    go_upto_region 3 with fail
    go_cut [79] (fun s wx => s = .bool false ∧ Keeps (fun _ => False) wp wx)
    case first =>
      as_aux_lemma =>
        have h3 : ¬ (y.log.length : Int) < m.m.index := fun h => hla (.inl h)
        have hd : decide ((y.log.length : Int) < m.m.index) = false := by simpa using h3
        by_cases h4 : T = m.m.logTerm
        · have hb : (T != m.m.logTerm) = false := by rw [h4]; simp
          clear h4
          go_quiet ((go_at_call 61; exact Calls.quiet_of_same (HC.out _ ((Keeps.refl _ wp).drewN _))))
          clear hd hb
          go_wp2_with fail
          go_meet
          exact ⟨rfl, (Keeps.refl _ wp).drewN _⟩
        · have hb : (T != m.m.logTerm) = true := by rw [bne_iff_ne]; exact h4
          have h5 : ¬ 0 < m.m.index := fun h => hla (.inr ⟨by rw [← HT.out]; exact h4, h⟩)
          have hd2 : decide (0 < m.m.index) = false := by simpa using h5
          clear h4
          go_quiet ((go_at_call 61; exact Calls.quiet_of_same (HC.out _ ((Keeps.refl _ wp).drewN _))))
          clear hd hb hd2
          go_wp2_with fail
          go_meet
          exact ⟨rfl, (Keeps.refl _ wp).drewN _⟩
    case rest =>
      obtain ⟨wr0, rfl⟩ : ∃ wr0 : World, wr0 = wc := ⟨_, rfl⟩
      obtain ⟨rfl, hk3⟩ := hcut
      have hil : ¬ (y.log.length : Int) < m.m.index := fun h => hla (.inl h)
      have HLA := Lib.hid hla
      have HP3 := Lib.hid (HP2.out.later hk3)
      have HM3 := Lib.hid (HM1.out.keep hk3 (fun _ _ h => h.elim))
      have HK3 := Lib.hid (HK2.out.trans (hk3.mono (S' := S) (fun _ h => h.elim)) (fun _ h => .inl h))
      obtain ⟨k, hk⟩ : ∃ k : Nat, m.m.index = k := ⟨m.m.index.toNat, by omega⟩
      obtain ⟨IA, il, ic, hiv, hic, hi1, hi2, hicell⟩ := HM3.out.ok
      have hill : il = m.m.items.length := by rw [itemCells_length] at hic; omega
      subst hill
      have e7 := (HM3.out.cells).2.2.2.2.2.2.2.1
      rw [hiv] at e7
      have HIC := Lib.hid hicell; have HIV := Lib.hid hiv; have HKK := Lib.hid hk
      clear hk3 d1 d4 d5 d6 d7 c4 hla hicell hiv hic hk hi2
      go_wp2_with fail
      go_loopg [105] m.m.items.length (fun g i wr => ∃ (j : Nat) (l : List Itm) (c : Int) (lv : Value) (S1 : Nat → Prop), j ≤ m.m.items.length ∧ g = m.m.items.length - j ∧ i = .int .i64 j ∧ taken k m.m.items y.log y.commit = taken (k + j) (m.m.items.drop j) l c ∧ k + j ≤ l.length ∧ l.length ≤ 60 ∧
          0 ≤ c ∧ c ≤ 1000 ∧ Peer wr S1 p ⟨{ y with log := l, commit := c }, lv, .slice none 0 0, .slice none 0 0, .slice none 0 0⟩ ov out ∧ Keeps S w wr ∧ ∀ g, S1 g → S g ∨ w.heap.size ≤ g)
      case atStart => exact ⟨0, y.log, y.commit, x.lv, S, by omega, rfl, rfl, by simp, by have := HKK.out; omega, hl, hc0, hc1, HP3.out, HK3.out, fun g hg => .inl hg⟩
      case round =>
        obtain ⟨j, l, c, lv, S1, hj, hgk, rfl, ht, hjl, hl60, hc0', hc1', hpj, hkj, hsj⟩ := hrel
        have HGK := Lib.hid hgk; have HTK := Lib.hid ht; have HKJ := Lib.hid hkj; have HSJ := Lib.hid hsj; have HPJ := Lib.hid hpj
        have hmj := hm.keep hkj (fun _ _ h => h)
        have HMJ := Lib.hid hmj
        have f4 := hmj.cells.2.2.2.2.1
        rw [HKK.out] at f4
        obtain ⟨LA, LC, VA, VC, NA, NC, MA, MC, OA, OC, hlv, hvv, hnv, hmv, hov, c0, c1, c2, c3, c4, c5, c6, c7, c8, c9, c10, c11, hfz, hplj⟩ := hpj.open_
        simp only at hlv c4 c5
        have q4 := hfz 4; have q5 := hfz 5
        have HLV' := Lib.hid hlv
        have hll : l.length ≤ LC := by
          obtain ⟨A, c', e, h1, _⟩ := own_slice hpj.log
          simp only at e h1
          rw [hlv] at e; injection e with _ _ e; omega
        clear e7 hlv hvv hnv hmv hov c0 c1 c2 c3 c6 c7 c8 c9 c10 c11 hfz hpj hkj hsj hmj ht hgk
        by_cases hlt : j < m.m.items.length
        · have hsl := HMJ.out.ok
          unfold MesOk at hsl
          rw [HIV.out] at hsl
          obtain ⟨b, off, rfl, hbS, i1, i2⟩ := hsl.item hlt
          have hbl := cell_lt i1
          have hmbl := cell_lt f4
          have hdr : m.m.items.drop j = m.m.items[j] :: m.m.items.drop (j + 1) := List.drop_eq_getElem_cons hlt
          have HDR := Lib.hid hdr
          clear hdr hsl
          generalize m.m.items[j] = it at *
          obtain ⟨tt, tc⟩ := it
          simp only at i1 i2
          go_upto_region 9 with fail
          have hw : IntKind.i64.wrap ((k : Int) + (j : Int)) = (k : Int) + (j : Int) := IntWalk.i64_in _ (by omega)
          by_cases hal : k + j < l.length
          · obtain ⟨g, rfl, lc, _⟩ := own_cell (by have := HPJ.out.log; simp only at this; rw [HLV'.out] at this; exact this) (show 0 < l.length by omega)
            have hit := lc ((k + j) * 2) (by omega)
            have hgk := flat_get (fun x : Itm => [Value.int .i64 x.term, Value.int .i64 x.cmd]) 2 (fun _ => rfl) l (k + j) l[k + j] 0 (List.getElem?_eq_getElem hal) (by omega)
            rw [show itemCells l = l.flatMap fun x : Itm => [Value.int .i64 x.term, Value.int .i64 x.cmd] from rfl, show (k + j) * 2 = (k + j) * 2 + 0 from rfl, hgk] at hit
            have hit' : wr.cell? ⟨g, (k + j) * 2, none⟩ = some (.int .i64 l[k + j].term) := hit
            have hgl := cell_lt hit'
            have hel : l[k + j]? = some l[k + j] := List.getElem?_eq_getElem hal
            have HEL := Lib.hid hel
            clear lc hit hgk hel
            generalize l[k + j] = yy at *
            have hd : decide ((k : Int) + (j : Int) < (l.length : Int)) = true := by simp; omega
            by_cases he : yy.term = tt
            · have hb : (yy.term != tt) = false := by rw [he]; simp
              have HE := Lib.hid he
              clear he
              go_quiet (fail)
              clear hd hb hw
              have K1 := Lib.hid (((Keeps.refl (fun _ => False) wr).alloc (.cells #[.int .i64 tt, .int .i64 tc] 44)).drewN nq)
              go_wp2
              go_roundg (m.m.items.length - (j + 1))
              case measure => rw [HGK.out]; omega
              case rel => exact ⟨j + 1, l, c, lv, S1, by omega, rfl, by go_num, by rw [HTK.out, HDR.out, taken_same HEL.out HE.out]; rfl, by omega, hl60, hc0', hc1', HPJ.out.later K1.out, HKJ.out.trans (K1.out.mono (S' := S) (fun _ h => h.elim)) (fun _ h => .inl h), HSJ.out⟩
            · have hb : (yy.term != tt) = true := by rw [bne_iff_ne]; exact he
              have HE := Lib.hid he
              clear he
              go_quiet (fail)
              clear hd hb hw
              have K1 := Lib.hid (((Keeps.refl (fun _ => False) wr).alloc (.cells #[.int .i64 tt, .int .i64 tc] 44)).drewN nq)
              go_upto_if 137 with fail
              go_cut [145] (fun _ wx => Peer wx S1 p ⟨{ y with log := l.take (k + j), commit := min c ((k + j : Nat) : Int) }, .slice (some ⟨g, 0, none⟩) (k + j) LC, .slice none 0 0, .slice none 0 0, .slice none 0 0⟩ ov out ∧ Keeps S1 wr wx ∧
                wx.heap[wr.heap.size]? = some (.cells #[.int .i64 tt, .int .i64 tc] 44 (0, 0)))
              case first =>
                as_aux_lemma =>
                  have hcl := fun cm => HPJ.out.cutLog K1.out (by simp only; exact HLV'.out) (a := k + j) (by simp only; omega) (by simp only; omega) cm
                  have HCL := Lib.hid hcl
                  have hplt := HPJ.out.lt p HPJ.out.pS
                  have hxb : ∀ cm, ((((wr.alloc (Obj.cells #[.int .i64 tt, .int .i64 tc] 44 (0, 0))).drewN nq).setCell ⟨p, 4, none⟩ (.slice (some ⟨g, 0, none⟩) (k + j) LC)).setCell ⟨p, 5, none⟩ (.int .i64 cm)).heap[wr.heap.size]? = some (.cells #[.int .i64 tt, .int .i64 tc] 44 (0, 0)) := fun cm => by
                    refine (Below.heap_setCell _ _ _ _ (by simp only; omega)).trans ((Below.heap_setCell _ _ _ _ (by simp only; omega)).trans ?_)
                    exact heap_alloc_new wr _
                  have HXB := Lib.hid hxb
                  clear hcl hxb hplt
                  by_cases hca : (k : Int) + (j : Int) < c
                  · go_wp2
                    go_meet
                    have e : min c ((k + j : Nat) : Int) = (k : Int) + (j : Int) := by omega
                    rw [e]
                    exact ⟨(HCL.out _).1, (HCL.out _).2, HXB.out _⟩
                  · go_wp2
                    go_meet
                    have e : min c ((k + j : Nat) : Int) = c := by omega
                    rw [e]
                    exact ⟨(HCL.out _).1, (HCL.out _).2, HXB.out _⟩
              case rest =>
                obtain ⟨wo', rfl⟩ : ∃ wo' : World, wo' = wc := ⟨_, rfl⟩
                obtain ⟨hpc, hkc, hxc⟩ := hcut
                have x0 := cell_of_row wo' wr.heap.size 0 _ _ _ hxc
                have x1 := cell_of_row wo' wr.heap.size 1 _ _ _ hxc
                simp only [List.getElem?_toArray, List.getElem?_cons_zero, List.getElem?_cons_succ] at x0 x1
                have HPW := Lib.hid hpc; have HKW := Lib.hid hkc
                have hnk : taken k m.m.items y.log y.commit = taken (k + j + 1) (m.m.items.drop (j + 1)) (l.take (k + j) ++ [⟨tt, tc⟩]) (min c ((k + j : Nat) : Int)) := by rw [HTK.out, HDR.out, taken_cut HEL.out HE.out]
                have HNK := Lib.hid hnk
                have hlen2 : (l.take (k + j)).length = k + j := by rw [List.length_take]; omega
                have HLEN := Lib.hid hlen2
                have hk60 : k + j + 1 ≤ 60 := by have := HKK.out; omega
                have hc0n : 0 ≤ min c ((k + j : Nat) : Int) := by omega
                have hc1n : min c ((k + j : Nat) : Int) ≤ 1000 := by omega
                obtain ⟨LA2, LC2, VA, VC, NA, NC, MA, MC, OA, OC, hlv2, hvv2, hnv2, hmv2, hov2, n0, n1, n2, n3, n4, n5, n6, n7, n8, n9, n10, n11, hfz2, hplW⟩ := hpc.open_
                simp only at hlv2 n4
                rw [HLEN.out] at hlv2 n4
                injection hlv2 with e1 _ e2
                subst e1 e2
                have r4 := hfz2 4
                have hol := hpc.log
                simp only [hlen2] at hol
                have HO := Lib.hid hol
                have HN := Lib.hid hpc.log_ne
                clear hvv2 hnv2 hmv2 hov2 n0 n1 n2 n3 n5 n6 n7 n8 n9 n10 n11 hfz2 hpc hkc hxc hnk hlen2 hol c4 c5 f4 q4 q5 hmbl hbl hgl i1 i2 hit'
                go_upto_region 13 with fail
                have K2 := Lib.hid ((Keeps.refl (fun _ => False) wo').alloc (.cells #[.int .i64 tt, .int .i64 tc] 44)).drew
                go_region_law (
                  (refine step_append_lies _ (by rfl) _ _ _ (by rfl) 0 44 i0 _ 2 16 Try.underlying22 HI.out HZ.out HS.out HB.out rfl (by omega) (.slice (some ⟨g, 0, none⟩) (k + j) LC) (k + j) _ (by rfl) (HO.out.alloc _)
                      ⟨wo'.heap.size, 0, none⟩ 1 1 [.int .i64 tt, .int .i64 tc] (by rfl) (by rfl)
                      (World.news_of_block (cs := #[.int .i64 tt, .int .i64 tc]) (t := 44) (fr := (0, 0)) (heap_alloc_new wo' _)) (by simp [Value.oneCell'])
                      (by omega) (by simp [maxLen]; omega) (by omega) (by simp) (wo'.heap.size + 1) (by simp) ?_
                   intro gg cap w1 hown1 hgrow hat hltg
                   have k4 := cell_grown K2.out hgrow n4 HN.out
                   have g4 := frozen_grown K2.out hgrow hplW r4 HN.out))
                all_goals
                  go_wp2
                  rw [itemCells_snoc] at hown1
                  obtain ⟨r1, r2, r3⟩ := HPW.out.logged K2.out hown1 (by rw [List.length_append, HLEN.out]; rfl) hgrow (by rcases hat with e | e; exact .inl e; exact .inr (by omega))
                  have r4 := HKJ.out.trans (HKW.out.trans r2 (fun _ h => .inl h)) HSJ.out
                  have r5 := fun g hg => (r3 g hg).elim (fun h => HSJ.out g h) (fun h => .inr (Nat.le_trans (Nat.le_trans HKJ.out.size HKW.out.size) h))
                  clear hown1 hgrow r2 r3
                  go_roundg (m.m.items.length - (j + 1))
                  case measure => rw [HGK.out]; omega
                  case rel => exact ⟨j + 1, _, _, _, _, by omega, rfl, by go_num, HNK.out, by rw [List.length_append, HLEN.out]; simp; omega, by rw [List.length_append, HLEN.out]; simp; omega, hc0n, hc1n, r1, r4, r5⟩
          · have hjl' : k + j = l.length := by omega
            have hd : decide ((k : Int) + (j : Int) < (l.length : Int)) = false := by simp; omega
            have hel : l[k + j]? = none := List.getElem?_eq_none (by omega)
            have hnk : taken k m.m.items y.log y.commit = taken (k + j + 1) (m.m.items.drop (j + 1)) (l ++ [⟨tt, tc⟩]) c := by rw [HTK.out, HDR.out, taken_end hel]
            have HNK := Lib.hid hnk
            clear hel hnk
            go_quiet (fail)
            clear hd hw
            have hk1 := ((Keeps.refl (fun _ => False) wr).alloc (.cells #[.int .i64 tt, .int .i64 tc] 44)).drewN nq
            have hxc : ((wr.alloc (Obj.cells #[.int .i64 tt, .int .i64 tc] 44 (0, 0))).drewN nq).heap[wr.heap.size]? = some (.cells #[.int .i64 tt, .int .i64 tc] 44 (0, 0)) := heap_alloc_new wr _
            generalize hwo : (wr.alloc (Obj.cells #[.int .i64 tt, .int .i64 tc] 44 (0, 0))).drewN nq = wo' at *
            clear hwo
            have x0 := cell_of_row wo' wr.heap.size 0 _ _ _ hxc
            have x1 := cell_of_row wo' wr.heap.size 1 _ _ _ hxc
            simp only [List.getElem?_toArray, List.getElem?_cons_zero, List.getElem?_cons_succ] at x0 x1
            have hpc := HPJ.out.later hk1
            have hkc := hk1.mono (S' := S1) (fun _ h => h.elim)
            have HPW := Lib.hid hpc; have HKW := Lib.hid hkc
            have HLEN := Lib.hid hjl'.symm
            have hk60 : k + j + 1 ≤ 60 := by have := HKK.out; omega
            have hc0n := hc0'
            have hc1n := hc1'
            obtain ⟨LA2, LC2, VA, VC, NA, NC, MA, MC, OA, OC, hlv2, hvv2, hnv2, hmv2, hov2, n0, n1, n2, n3, n4, n5, n6, n7, n8, n9, n10, n11, hfz2, hplW⟩ := hpc.open_
            simp only at hlv2 n4
            have hlvl : lv = .slice LA2 (k + j) LC2 := by rw [hjl']; exact hlv2
            subst hlvl
            rw [← hjl'] at n4
            have r4 := hfz2 4
            have hol := hpc.log
            simp only [← hjl'] at hol
            have HO := Lib.hid hol
            have HN := Lib.hid hpc.log_ne
            have hge : decide ((k : Int) + (j : Int) < ((k + j : Nat) : Int)) = false := by simp
            clear hvv2 hnv2 hmv2 hov2 hlv2 n0 n1 n2 n3 n5 n6 n7 n8 n9 n10 n11 hfz2 hpc hkc hxc hol hk1 c4 c5 f4 q4 q5 hmbl hbl i1 i2 hjl'
            go_upto_region 13 with fail
            have K2 := Lib.hid ((Keeps.refl (fun _ => False) wo').alloc (.cells #[.int .i64 tt, .int .i64 tc] 44)).drew
            go_region_law (
              (refine step_append_lies _ (by rfl) _ _ _ (by rfl) 0 44 i0 _ 2 16 Try.underlying22 HI.out HZ.out HS.out HB.out rfl (by omega) (.slice LA2 (k + j) LC2) (k + j) _ (by rfl) (HO.out.alloc _)
                  ⟨wo'.heap.size, 0, none⟩ 1 1 [.int .i64 tt, .int .i64 tc] (by rfl) (by rfl)
                  (World.news_of_block (cs := #[.int .i64 tt, .int .i64 tc]) (t := 44) (fr := (0, 0)) (heap_alloc_new wo' _)) (by simp [Value.oneCell'])
                  (by omega) (by simp [maxLen]; omega) (by omega) (by simp) (wo'.heap.size + 1) (by simp) ?_
               intro gg cap w1 hown1 hgrow hat hltg
               have k4 := cell_grown K2.out hgrow n4 HN.out
               have g4 := frozen_grown K2.out hgrow hplW r4 HN.out))
            all_goals
              go_wp2
              rw [itemCells_snoc] at hown1
              obtain ⟨r1, r2, r3⟩ := HPW.out.logged K2.out hown1 (by rw [List.length_append, HLEN.out]; rfl) hgrow (by rcases hat with e | e; exact .inl e; exact .inr (by omega))
              have r4 := HKJ.out.trans (HKW.out.trans r2 (fun _ h => .inl h)) HSJ.out
              have r5 := fun g hg => (r3 g hg).elim (fun h => HSJ.out g h) (fun h => .inr (Nat.le_trans (Nat.le_trans HKJ.out.size HKW.out.size) h))
              clear hown1 hgrow r2 r3
              go_roundg (m.m.items.length - (j + 1))
              case measure => rw [HGK.out]; omega
              case rel => exact ⟨j + 1, _, _, _, _, by omega, rfl, by go_num, HNK.out, by rw [List.length_append, HLEN.out]; simp; omega, by rw [List.length_append, HLEN.out]; simp; omega, hc0n, hc1n, r1, r4, r5⟩
        · have hj' : j = m.m.items.length := by omega
          subst hj'
          have htt : taken k m.m.items y.log y.commit = (l, c) := by rw [HTK.out, List.drop_length]; rfl
          have HTT := Lib.hid htt
          obtain ⟨g0, g1, g2, g3, g4, g5, g6, g7, g8⟩ := HMJ.out.cells
          rw [HIV.out] at g7
          have hiln : (m.m.items.length : Int) ≤ 60 := by omega
          clear htt g0 g2 g3 g4 g5 g8 c4 q4
          go_upto_region 15 with fail
          have hw : IntKind.i64.wrap ((k : Int) + (m.m.items.length : Int)) = (k : Int) + (m.m.items.length : Int) := IntWalk.i64_in _ (by have := HKK.out; omega)
          go_quiet (fail)
          clear hw
          generalize hwo : wr.drewN nq = wq at *
          have hkq : Keeps (fun _ => False) wr wq := by rw [← hwo]; exact (Keeps.refl _ wr).drewN nq
          clear hwo
          have b1 := hkq.cell (fun h => h) g1
          have b6 := hkq.cell (fun h => h) g6
          have b5 := hkq.cell (fun h => h) c5
          have HPQ := Lib.hid (HPJ.out.later hkq)
          have HKQ := Lib.hid (HKJ.out.trans (hkq.mono (S' := S) (fun _ h => h.elim)) (fun _ h => .inl h))
          obtain ⟨LA2, LC2, VA, VC, NA, NC, MA, MC, OA, OC, hlv2, hvv2, hnv2, hmv2, hov2, n0, n1, n2, n3, n4, n5, n6, n7, n8, n9, n10, n11, hfz2, hplW⟩ := HPQ.out.open_
          have r5 := hfz2 5
          clear hlv2 hvv2 hnv2 hmv2 hov2 n0 n1 n2 n3 n4 n5 n6 n7 n8 n9 n10 n11 hfz2 g1 g6 g7 c5 q5 f4
          have go : ∀ cm, cm = max c (min m.m.commit ((k : Int) + (m.m.items.length : Int))) → ∀ w5, Peer w5 S1 p ⟨{ y with log := l, commit := cm }, lv, .slice none 0 0, .slice none 0 0, .slice none 0 0⟩ ov out → Keeps S w w5 →
              Calls Try.prog 60 #[.pointer (some ⟨p, 0, none⟩), .agg #[.int .i64 4, .int .i64 0, .int .i64 m.m.src, .int .i64 0, .int .i64 ((k : Int) + (m.m.items.length : Int)), .int .i64 0, .int .i64 0, .slice none 0 0, .bool true]] w5 fun e w' => e = .returned (.tuple #[]) ∧ LacksPost w S p y m.m out e w' := by
            rintro cm hcm w5 hp5 hk5
            refine (say_lit hp5 4 m.m.src ((k : Int) + (m.m.items.length : Int)) 0 0 [] (.slice none 0 0) true (nilItems _ _) (fun _ h => by simp [Value.ownBlock] at h) (by omega)).mono ?_
            rintro e w6 ⟨rfl, S6, ov6, hp6, hk6, hs6⟩
            refine ⟨rfl, rfl, S6, _, ov6, _, hp6, ?_, hk5.trans hk6 HSJ.out, fun a ha => ?_⟩
            · have hn : ¬ ((y.log.length : Int) < m.m.index ∨ (termAt y.log m.m.index ≠ m.m.logTerm ∧ 0 < m.m.index)) := HLA.out
              rw [if_neg hn, HKK.out, Int.toNat_natCast, HTT.out, ← hcm]
              rfl
            · rcases hs6 a ha with h1 | h1
              · exact HSJ.out a h1
              · exact .inr (Nat.le_trans hk5.size h1)
          have GO := Lib.hid go
          clear go
          go_wp2_with fail
          go_cut [191] (fun _ wx => Peer wx S1 p ⟨{ y with log := l, commit := max c (min m.m.commit ((k : Int) + (m.m.items.length : Int))) }, lv, .slice none 0 0, .slice none 0 0, .slice none 0 0⟩ ov out ∧ Keeps S w wx)
          case first =>
            as_aux_lemma =>
              have hmx := fun cm => HPQ.out.setInt (Keeps.refl (fun _ => False) wq).drew 5 (.int .i64 cm) { y with log := l, commit := cm } rfl rfl rfl rfl rfl
              have HMX := Lib.hid hmx
              clear hmx
              by_cases h5 : (k : Int) + (m.m.items.length : Int) < m.m.commit
              · by_cases h6 : c < (k : Int) + (m.m.items.length : Int)
                all_goals
                  go_region
                  all_goals
                    go_wp2_with fail
                    go_meet
                    first
                    | rw [show max c (min m.m.commit ((k : Int) + (m.m.items.length : Int))) = (k : Int) + (m.m.items.length : Int) from by omega]
                    | rw [show max c (min m.m.commit ((k : Int) + (m.m.items.length : Int))) = m.m.commit from by omega]
                    | rw [show max c (min m.m.commit ((k : Int) + (m.m.items.length : Int))) = c from by omega]
                    exact ⟨(HMX.out _).1, HKQ.out.trans (HMX.out _).2 HSJ.out⟩
              · by_cases h6 : c < m.m.commit
                all_goals
                  go_region
                  all_goals
                    go_wp2_with fail
                    go_meet
                    first
                    | rw [show max c (min m.m.commit ((k : Int) + (m.m.items.length : Int))) = (k : Int) + (m.m.items.length : Int) from by omega]
                    | rw [show max c (min m.m.commit ((k : Int) + (m.m.items.length : Int))) = m.m.commit from by omega]
                    | rw [show max c (min m.m.commit ((k : Int) + (m.m.items.length : Int))) = c from by omega]
                    exact ⟨(HMX.out _).1, HKQ.out.trans (HMX.out _).2 HSJ.out⟩
          case rest =>
            obtain ⟨wo, rfl⟩ : ∃ wo : World, wo = wc := ⟨_, rfl⟩
            obtain ⟨hp5, hk5⟩ := hcut
            have z1 := (HM.out.keep hk5 (fun _ _ h => h)).cells.2.1
            have GO2 := Lib.hid (GO.out _ rfl _ hp5 hk5)
            clear b1 b5 b6
            go_wp2_with (go_at_call 60; refine GO2.out.mono ?_; rintro e w2 ⟨rfl, hq⟩; have HQ := Lib.hid hq; clear hq)
            refine bodyPost_ret (v := .tuple #[]) (results_none rfl _ _ _) rfl ?_
            exact HQ.out

/-- 'appended' answers as the plain model says. -/
theorem appended_any {w : World} {S : Nat → Prop} {p : Nat} {x : NodV} {ov : Value} {out : List MesV} (h : Peer w S p x ov out) {mb : Nat} {m : MesV} (hm : MesAt w S mb m) (hl : x.n.log.length ≤ 60)
    (hi0 : 0 ≤ m.m.index) (hi1 : m.m.index + m.m.items.length ≤ 60) (hc0 : 0 ≤ x.n.commit) (hc1 : x.n.commit ≤ 1000) (hout : out.length ≤ 90) :
    Calls Try.prog 74 #[.pointer (some ⟨p, 0, none⟩), .pointer (some ⟨mb, 0, none⟩)] w fun e w' => e = .returned (.tuple #[]) ∧
      ∃ S' x' ov' ms, Peer w' S' p x' ov' (out ++ ms) ∧ (x'.n, Go.Proofs.Ytibjbpakbfodaaa.said ms) = appended x.n m.m ∧ Keeps S w w' ∧ ∀ k, S' k → S k ∨ w.heap.size ≤ k := by
  by_cases h1 : m.m.term < x.n.term ∨ x.n.role = 3
  · refine (appended_refuse h hm h1 hout).mono ?_
    rintro e w' ⟨rfl, S', ov', ms, hp, hms, hk, hs⟩
    exact ⟨rfl, S', x, ov', ms, hp, by unfold appended; rw [if_pos h1, hms], hk, hs⟩
  · have h1' : ¬ m.m.term < x.n.term := fun h => h1 (.inl h)
    have h2' : x.n.role ≠ 3 := fun h => h1 (.inr h)
    have key : Calls Try.prog 74 #[.pointer (some ⟨p, 0, none⟩), .pointer (some ⟨mb, 0, none⟩)] w (LacksPost w S p (follow x.n m.m.term m.m.src) m.m out) := by
      by_cases hla : lacks (follow x.n m.m.term m.m.src).log m.m
      · exact appended_lacks h hm h1' h2' hl hi0 hi1 hout _ hla rfl
      · exact appended_takes h hm h1' h2' hl hi0 hi1 hc0 hc1 hout _ hla rfl
    refine key.mono ?_
    rintro e w' ⟨rfl, S', x', ov', ms, hp, hms, hk, hs⟩
    refine ⟨rfl, S', x', ov', ms, hp, ?_, hk, hs⟩
    unfold appended
    rw [if_neg h1, hms]
end Go.Proofs.Ytibjbpakbfodaaa
