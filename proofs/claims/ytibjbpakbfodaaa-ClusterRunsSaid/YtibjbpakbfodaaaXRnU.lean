/- The document's answer, chapter 16: Step, of a message that is on its way, walked; then Step, of any event. -/
import Derived.Test.YtibjbpakbfodaaaXRnT
import Derived.Test.YtibjbpakbfodaaaXRefO
namespace Go.Proofs.Ytibjbpakbfodaaa
open Go.RowKit

theorem own_cap {w : World} {base e s n m c : Nat} {A : Option Addr} {xs : List Value} (h : w.ownsRow base e s (.slice A n c) m xs) : n ≤ c := by
  obtain ⟨A', c', e', h1, _⟩ := own_slice h
  injection e' with e1 e2 e3
  omega

theorem Sl.take9 {w : World} {S : Nat → Prop} {A : Option Addr} {n c : Nat} {l : List MesV} (h : Sl w S (.slice A n c) 9 (l.flatMap mesCells)) {k : Nat} (hk : k ≤ l.length) : Sl w S (.slice A k c) 9 ((l.take k).flatMap mesCells) := by
  obtain ⟨A', n', c', e, h1, h2, h3, h4⟩ := h
  injection e with e1 e2 e3
  subst e1 e2 e3
  rw [mess_len] at h1
  refine ⟨A, k, c, rfl, by rw [mess_len, List.length_take]; omega, by omega, h3, fun h => ?_⟩
  obtain ⟨b, off, rfl, h5, h6⟩ := h4 (by rw [mess_len, List.length_take] at h; rw [mess_len]; omega)
  refine ⟨b, off, rfl, h5, fun j u hj => h6 j u ?_⟩
  rw [← flat_take mesCells 9 (fun _ => rfl) l k hk] at hj
  rw [List.getElem?_take] at hj
  split at hj
  · exact hj
  · cases hj

theorem Sl.drop9 {w : World} {S : Nat → Prop} {b off n c : Nat} {l : List MesV} (h : Sl w S (.slice (some ⟨b, off, none⟩) n c) 9 (l.flatMap mesCells)) (hl : l.length = n) {k : Nat} (hk : k ≤ n) :
    Sl w S (.slice (some ⟨b, off + k * 9, none⟩) (n - k) (c - k)) 9 ((l.drop k).flatMap mesCells) := by
  obtain ⟨A', n', c', e, h1, h2, h3, h4⟩ := h
  injection e with e1 e2 e3
  subst e1 e2 e3
  refine ⟨_, n - k, c - k, rfl, by rw [mess_len, List.length_drop, hl], by omega, by omega, fun h => ?_⟩
  obtain ⟨b', off', e, h5, h6⟩ := h4 (by rw [mess_len, List.length_drop] at h; rw [mess_len]; omega)
  injection e with e
  injection e with e1 e2
  subst e1 e2
  refine ⟨b, _, rfl, h5, fun j u hj => ?_⟩
  rw [Nat.add_assoc]
  refine h6 (k * 9 + j) u ?_
  rw [← hj, ← flat_drop mesCells 9 (fun _ => rfl) l k (by omega), List.getElem?_drop]

theorem drop_any {w : World} {S : Nat → Prop} {g n c k : Nat} {l : List MesV} (h : Sl w S (.slice (some ⟨g, 0, none⟩) l.length c) 9 (l.flatMap mesCells)) (hk : k ≤ l.length) (hc : l.length ≤ c) (hn : n = l.length - k := by rfl) :
    Sl w S (.slice (if c = k then some ⟨g, 0, none⟩ else some ⟨g, k * 9, none⟩) n (c - k)) 9 ((l.drop k).flatMap mesCells) := by
  subst hn
  split
  · rename_i e
    have hz : l.drop k = [] := List.drop_eq_nil_of_le (by omega)
    rw [hz]
    exact ⟨_, _, _, rfl, by simp; omega, by omega, by omega, fun hp => by simp at hp⟩
  · have := Sl.drop9 h rfl hk
    rwa [Nat.zero_add] at this

set_option maxRecDepth 100000 in
set_option maxHeartbeats 16000000 in
theorem stepR_msgs {w : World} {Q : Nat → Prop} {W : WldV} {ev : Evt} {n : Int} (h0 : WldOk w Q W) (hQ : ∀ k, Q k → k < w.heap.size) (hs : Sound n W.w) (hn : ¬ (n < 1 ∨ 5 < n)) (hit : ∀ m ∈ W.net, m.m.items.length ≤ 2000000) (hkind : ev.kind = 4 ∨ ev.kind = 5 ∨ ev.kind = 6) :
    Calls Try.prog 48 #[.agg #[W.nv, W.ov], .agg #[.int .i64 ev.kind, .int .i64 ev.node, .int .i64 ev.pick]] w fun e w' => ∃ W' : WldV, e = .returned (.agg #[W'.nv, W'.ov]) ∧ W'.w = cstep W.w ev ∧ WldOk w' Q W' ∧ Keeps Free w w' := by
  have HIT := Lib.hid hit
  clear hit
  have H0 := Lib.hid h0
  obtain ⟨nodes, net, nv, ov⟩ := W
  obtain ⟨NA, NC, en1⟩ := h0.cells.form (nods_len nodes) (by decide)
  obtain ⟨OA, OC, en2⟩ := h0.msgs.cells.form (mess_len net) (by decide)
  simp only at en1 en2
  subst en1 en2
  have hnl : nodes.length ≤ 5 := by have := hs.len; simp only [WldV.w, List.length_map] at this; omega
  have hml : net.length ≤ 60 := by have := hs.net; simpa [WldV.w, said] using this
  have HGD := Lib.hid (fun (i : Nat) (h : i < nodes.length) => (by have := hs.good i (by simpa [WldV.w] using h); simpa [WldV.w] using this : Good nodes[i].n))
  obtain ⟨k, nd, pk⟩ := ev
  simp only at hkind ⊢
  have HKIND := Lib.hid hkind
  clear hkind
  clear h0 hs hn
  obtain ⟨wa, wb, wz, e1, e2, e3, s1, s2, s3, hk3, b1, b2, b3⟩ := three_boxes w (Obj.cells #[Value.slice NA nodes.length NC, Value.slice OA net.length OC] 55) (Obj.cells #[Value.int IntKind.i64 k, Value.int IntKind.i64 nd, Value.int IntKind.i64 pk] 63) (Obj.cells #[Value.slice none 0 0, Value.slice none 0 0] 55)
  obtain ⟨B, hB⟩ : ∃ B, w.heap.size = B := ⟨_, rfl⟩
  rw [hB] at s1 s2 s3 b1 b2 b3 hQ
  have HQ := Lib.hid hQ; have HBW := Lib.hid hB
  -- the net's clone
  have hwl := heap_alloc_new wz (.cells #[] 38)
  have hkl := (Keeps.refl Free wz).alloc (.cells #[] 38)
  have hrow0 := World.ownsRow_lit (w := wz) (base := B + 3) (e := 38) (size := 9) #[] 0 (by omega) (by simp [maxLen]) rfl
  have hsl := World.size_alloc wz (.cells #[] 38)
  obtain ⟨wl, hal⟩ : ∃ wl, wz.alloc (.cells #[] 38) = wl := ⟨_, rfl⟩
  rw [hal] at hwl hkl hrow0 hsl
  have hkwl : Keeps Free w wl := hk3.trans hkl (fun _ h => .inl h)
  obtain ⟨i0, hi0, hz, hsz, hby⟩ := info_parts Try.info38
  obtain ⟨v1, w1, hr1, ho1, hk1, hv1⟩ := app_row (t := 28) (ty := 28) Try.underlying28 hi0 hz hsz hby rfl (by decide) (by decide) (base := B + 3) (by omega) (v := .slice (some ⟨B + 3, 0, none⟩) 0 0) (n := 0) (xs := []) (by rw [s3] at hrow0; simpa using hrow0) (H0.out.msgs.cells.into (S' := Free) hkwl (fun _ _ h => h.elim) (fun _ _ h => h.elim)) (mess_one (w := wl) (S := Q) fun m hm => Sl.into (H0.out.msgs.each m hm) hkwl (fun _ _ h => h.elim) fun _ _ h => h) (by omega)
  rw [Nat.zero_add, List.nil_append] at ho1
  obtain ⟨A1, C1, rfl, -, -⟩ := own_slice ho1
  have hkb : Keeps (fun k => k = B + 3) wl w1 := hk1.mono fun k hk => by simp [Value.ownBlock] at hk; exact .inl hk.symm
  have hk01 : Keeps Free w w1 := hkwl.trans hkb fun k e => .inr (by omega)
  have q1 : w1.heap[B]? = some (.cells #[.slice NA nodes.length NC, .slice OA net.length OC] 55 (0, 0)) := (hkb.block _ (by omega) (by omega)).trans (hkl.blk b1)
  have q2 : w1.heap[B + 1]? = some (.cells #[.int .i64 k, .int .i64 nd, .int .i64 pk] 63 (0, 0)) := (hkb.block _ (by omega) (by omega)).trans (hkl.blk b2)
  have q3 : w1.heap[B + 2]? = some (.cells #[.slice none 0 0, .slice none 0 0] 55 (0, 0)) := (hkb.block _ (by omega) (by omega)).trans (hkl.blk b3)
  have HR1 := Lib.hid hr1; have HO1 := Lib.hid ho1; have HK01 := Lib.hid hk01; have Q1 := Lib.hid q1; have Q2 := Lib.hid q2; have Q3 := Lib.hid q3
  have hs1 : B + 3 ≤ w1.heap.size := by have := hkb.size; omega
  obtain ⟨b7, hb7e⟩ : ∃ b7, w1.heap.size = b7 := ⟨_, rfl⟩
  have HS7 := Lib.hid hb7e
  rw [hb7e] at hs1
  clear hb7e
  clear hr1 ho1 hkb hk01 q1 q2 q3 hwl hrow0 hkwl hk1 hv1 hi0 hz hsz hby hQ
  obtain ⟨c0, c1, cf⟩ := cells2 (hkl.blk b1)
  clear hkl b1 b2 b3 hk3
  go_enter Try.func48, Try.ntmps48
  go_upto_region 3 with (at_builtin; refine wpList_append_run rfl _ _ 28 rfl rfl rfl HR1.out ?_)
  clear c0 c1 cf hal hB e1 e2 e3 hsl
  obtain ⟨c0, c1, cf⟩ := cells2 Q1.out
  obtain ⟨f0, f1, f2, ff⟩ := cells3 Q2.out
  go_upto_region 4 with fail
  go_cut [30] (fun s wx => s = .bool true ∧ wx = w1)
  case first =>
    rcases HKIND.out with e | e | e
    · have k4 : (k == 4) = true := by rw [beq_iff_eq]; omega
      clear e
      go_wp2_with fail
      go_meet
      exact ⟨rfl, rfl⟩
    · have k4 : (k == 4) = false := by rw [beq_eq_false_iff_ne]; omega
      have k5 : (k == 5) = true := by rw [beq_iff_eq]; omega
      clear e
      go_wp2_with fail
      go_meet
      exact ⟨rfl, rfl⟩
    · have k4 : (k == 4) = false := by rw [beq_eq_false_iff_ne]; omega
      have k5 : (k == 5) = false := by rw [beq_eq_false_iff_ne]; omega
      have k6 : (k == 6) = true := by rw [beq_iff_eq]; omega
      clear e
      go_wp2_with fail
      go_meet
      exact ⟨rfl, rfl⟩
  case rest =>
    obtain ⟨rfl, rfl⟩ := hcut
    obtain ⟨w1, rfl⟩ : ∃ w1 : World, w1 = wc := ⟨_, rfl⟩
    go_upto_if 30 with fail
    go_cut [5, 6, 7] (fun more nt nd' wx => MidR w Q B ⟨nodes.map NodV.n, said net⟩ ⟨k, nd, pk⟩ more nt nd' wx)
    case first =>
      by_cases hp : pk < 0 ∨ (net.length : Int) ≤ pk
      · have HCS := Lib.hid (show (WldV.w ⟨nodes, net, .slice NA nodes.length NC, .slice OA net.length OC⟩) = cstep (WldV.w ⟨nodes, net, .slice NA nodes.length NC, .slice OA net.length OC⟩) ⟨k, nd, pk⟩ from (cstep_nopick (ev := ⟨k, nd, pk⟩) HKIND.out hp).symm)
        obtain ⟨wf, hwf, hfb, hfk⟩ := put2 (v0 := .slice NA nodes.length NC) (v1 := .slice OA net.length OC) Q3.out rfl
        obtain ⟨z0, z1, zf⟩ := cells2 hfb
        obtain ⟨y0, y1, yf⟩ := cells2 Q3.out
        have HFK := Lib.hid hfk
        clear hfb hfk
        have HOK := Lib.hid (show WldOk wf Q ⟨nodes, net, .slice NA nodes.length NC, .slice OA net.length OC⟩ ∧ Keeps Free w wf from
          ⟨(H0.out.into (S' := Apart Q B b7) HK01.out (fun _ _ h => h.elim) fun j hj h => h.elim id fun h => by have := HBW.out; omega).into HFK.out (fun j _ e => .inr (by omega)) (fun _ _ h => .inl h), HK01.out.trans HFK.out fun j e => .inr (by have := HBW.out; omega)⟩)
        by_cases hp1 : pk < 0
        · have p1 : decide (pk < 0) = true := by simp; omega
          clear hp hp1
          go_wp2_with fail
          refine bodyPost_ret (v := .agg #[.slice NA nodes.length NC, .slice OA net.length OC]) (by simp [results, Try.results48, go_sem, z0, z1]) rfl ?_
          exact ⟨⟨nodes, net, _, _⟩, rfl, HCS.out, HOK.out.1, HOK.out.2⟩
        · have p1 : decide (pk < 0) = false := by simp; omega
          have p2 : decide ((net.length : Int) ≤ pk) = true := by simp; omega
          clear hp hp1
          go_wp2_with fail
          refine bodyPost_ret (v := .agg #[.slice NA nodes.length NC, .slice OA net.length OC]) (by simp [results, Try.results48, go_sem, z0, z1]) rfl ?_
          exact ⟨⟨nodes, net, _, _⟩, rfl, HCS.out, HOK.out.1, HOK.out.2⟩
      obtain ⟨j, rfl⟩ : ∃ j : Nat, pk = j := ⟨pk.toNat, by omega⟩
      have hj : j < net.length := by omega
      have p1 : decide ((j : Int) < 0) = false := by simp
      have p2 : decide ((net.length : Int) ≤ (j : Int)) = false := by simp; omega
      clear hp
      obtain ⟨g1, rfl, hgc, hgf⟩ := own_at (f := mesCells) (s := 9) (fun _ => rfl) (own_zero HO1.out) hj
      have hm0 := H0.out.msgs.each net[j] (List.getElem_mem hj)
      have hmi := HIT.out net[j] (List.getElem_mem hj)
      obtain ⟨mm, hmm⟩ : ∃ mm, net[j] = mm := ⟨_, rfl⟩
      rw [hmm] at hgc hm0 hmi
      obtain ⟨m, iv⟩ := mm
      obtain ⟨IA, IC, hiv⟩ := hm0.shape
      simp only at hiv hmi
      subst hiv
      have HMM := Lib.hid hmm; have HM0 := Lib.hid hm0
      have r0 : w1.cell? ⟨g1, j * 9, none⟩ = some (.int .i64 m.kind) := hgc 0 _ (by decide) rfl
      have r1 := hgc 1 _ (by decide) rfl; have r2 := hgc 2 _ (by decide) rfl; have r3 := hgc 3 _ (by decide) rfl; have r4 := hgc 4 _ (by decide) rfl; have r5 := hgc 5 _ (by decide) rfl
      have r6 := hgc 6 _ (by decide) rfl; have r7 := hgc 7 _ (by decide) rfl; have r8 := hgc 8 _ (by decide) rfl
      have hk8 := (Keeps.refl Free w1).alloc (.cells #[.int .i64 m.kind, .int .i64 m.src, .int .i64 m.dst, .int .i64 m.term, .int .i64 m.index, .int .i64 m.logTerm, .int .i64 m.commit, .slice IA m.items.length IC, .bool m.yes] 38)
      have hb8 := heap_alloc_new w1 (.cells #[.int .i64 m.kind, .int .i64 m.src, .int .i64 m.dst, .int .i64 m.term, .int .i64 m.index, .int .i64 m.logTerm, .int .i64 m.commit, .slice IA m.items.length IC, .bool m.yes] 38)
      obtain ⟨w2, hal⟩ : ∃ w2, w1.alloc (.cells #[.int .i64 m.kind, .int .i64 m.src, .int .i64 m.dst, .int .i64 m.term, .int .i64 m.index, .int .i64 m.logTerm, .int .i64 m.commit, .slice IA m.items.length IC, .bool m.yes] 38) = w2 := ⟨_, rfl⟩
      have hb7e := HS7.out
      have hs2 := World.size_alloc w1 (.cells #[.int .i64 m.kind, .int .i64 m.src, .int .i64 m.dst, .int .i64 m.term, .int .i64 m.index, .int .i64 m.logTerm, .int .i64 m.commit, .slice IA m.items.length IC, .bool m.yes] 38)
      rw [hal] at hk8 hb8 hs2
      rw [hb7e] at hb8 hs2
      have HB8 := Lib.hid hb8; have HK8 := Lib.hid hk8; have HS2 := Lib.hid hs2
      obtain ⟨f0', f1', f2', ff'⟩ := cells3 (hk8.blk Q2.out)
      clear hgc hmm hm0 hk8 hb8 hs2
      have HG1 := Lib.hid (show B + 3 ≤ g1 ∧ g1 < b7 from ⟨(HO1.out.lt g1 rfl).1, by have := (HO1.out.lt g1 rfl).2; omega⟩)
      go_upto_if 49 with fail
      have B1W := Lib.hid (HK8.out.blk Q2.out)
      have hcc : net.length ≤ C1 := own_cap HO1.out
      have hwj : IntKind.i64.wrap ((j : Int) + 1) = (j : Int) + 1 := IntWalk.i64_in _ (by omega)
      obtain ⟨i0', hi0', hz', hsz', hby'⟩ := info_parts Try.info38
      have HI38 := Lib.hid hi0'; have HZ38 := Lib.hid hz'; have HS38 := Lib.hid hsz'; have HY38 := Lib.hid hby'
      clear hi0' hz' hsz' hby' r0 r1 r2 r3 r4 r5 r6 r7 r8 f0' f1' f2' ff' c0 c1 cf f0 f1 f2 ff hal hb7e
      go_cut [6] (fun nt wx => ∃ A n c, nt = .slice A n c ∧ wx.ownsRow (B + 3) 38 9 (.slice A n c) (netOf net k j).length ((netOf net k j).flatMap mesCells) ∧ Keeps Free w2 wx)
      case first =>
        by_cases hn5 : k = 5
        · have k5 : (k != 5) = false := by rw [bne, show (k == 5) = true by rw [beq_iff_eq]; exact hn5]; rfl
          have e1 : netOf net k j = net := by unfold netOf; rw [if_pos hn5]
          have HE1 := Lib.hid e1
          clear hn5 e1
          go_wp2_with fail
          go_meet
          exact ⟨_, _, _, rfl, by rw [HE1.out]; exact own_later HO1.out HK8.out, Keeps.refl _ _⟩
        · have k5 : (k != 5) = true := by rw [bne_iff_ne]; exact hn5
          go_upto_region 9 with fail
          refine Wf.wp_region_first (C := fun w' => Keeps Free w2 w') (by kernel_rfl) 99 ?_
          have HKW := Lib.hid (show Keeps Free w2 { w2 with drawn := w2.drawn + 1 } from (Keeps.refl Free w2).drew)
          obtain ⟨W, hW⟩ : ∃ W : World, W = { w2 with drawn := w2.drawn + 1 } := ⟨_, rfl⟩
          have HWS := Lib.hid (show W.heap.size = b7 + 1 by rw [hW]; exact HS2.out)
          rw [← hW] at HKW ⊢
          clear hW
          apply Wf.wpAnyP_stays (by kernel_rfl) [1, 2, 3, 4, 6, 7, 8, 9, 10] _ _ _ 4 _ HKW.out (by kernel_rfl) ?hs ?hr
          case hs =>
            apply Wf.wpStays_step rfl rfl
            · intro w' hw'
              clear hw'
              go_simp
              exact ⟨rfl, rfl⟩
            go_simp
            apply Wf.wpStays_step rfl rfl
            · intro w' hw'
              clear hw'
              go_simp
              exact ⟨rfl, rfl⟩
            go_simp
            apply Wf.wpStays_step rfl rfl
            · intro w' hw'
              obtain ⟨e0, e1, e2, ef⟩ := cells3 (Keeps.blk hw' B1W.out)
              clear hw'
              go_simp
              exact ⟨rfl, rfl⟩
            go_simp
            apply Wf.wpStays_step rfl rfl
            · intro w' hw'
              clear hw'
              go_simp
              rw [if_pos (by omega)]
              exact ⟨rfl, rfl⟩
            go_simp
            apply Wf.wpStays_step rfl rfl
            · intro w' hw'
              clear hw'
              go_simp
              exact ⟨rfl, rfl⟩
            go_simp
            apply Wf.wpStays_step rfl rfl
            · intro w' hw'
              clear hw'
              go_simp
              exact ⟨rfl, rfl⟩
            go_simp
            apply Wf.wpStays_step rfl rfl
            · intro w' hw'
              obtain ⟨e0, e1, e2, ef⟩ := cells3 (Keeps.blk hw' B1W.out)
              clear hw'
              go_simp
              exact ⟨rfl, rfl⟩
            go_simp
            apply Wf.wpStays_step rfl rfl
            · intro w' hw'
              clear hw'
              go_simp
              exact ⟨rfl, rfl⟩
            go_simp
            apply Wf.wpStays_step rfl rfl
            · intro w' hw'
              clear hw'
              go_simp
              rw [if_pos (by omega)]
              exact ⟨rfl, rfl⟩
            go_simp
            exact rfl
          case hr =>
            have HO2 := Lib.hid (own_later (own_later HO1.out HK8.out) HKW.out)
            apply Wf.wpAnyP_one (i := 0) (fuel := 3) (by kernel_rfl) rfl rfl
            have hrow0 := World.ownsRow_lit (w := W) (base := b7 + 1) (e := 38) (size := 9) #[] 0 (by have := HWS.out; omega) (by simp [maxLen]) rfl
            have hka := (Keeps.refl Free W).alloc (.cells #[] 38)
            go_simp
            refine ⟨HKW.out.alloc _, ?_⟩
            obtain ⟨Wa, hWa⟩ : ∃ Wa, W.alloc (.cells #[] 38) = Wa := ⟨_, rfl⟩
            rw [hWa] at hrow0 hka ⊢
            have hWas : Wa.heap.size = b7 + 2 := by rw [← hWa]; simp [HWS.out]
            rw [HWS.out] at hrow0 ⊢
            have HKA := Lib.hid hka
            have hKWa := HKW.out.trans hka (fun _ h => .inl h)
            have HKWA := Lib.hid hKWa
            clear hWa hka hKWa
            have hs0 := Sl.of_own (S := Free) (own_later HO2.out HKA.out) (fun _ _ h => h)
            have hone : ∀ u ∈ net.flatMap mesCells, u.oneCell' = true := mess_one (w := w) (S := Q) H0.out.msgs.each
            have hfr : ∀ (l : List MesV), (∀ x ∈ l, x ∈ net) → ∀ u ∈ l.flatMap mesCells, u.oneCell' = true := fun l hl => mess_one (w := w) (S := Q) fun x hx => H0.out.msgs.each x (hl x hx)
            obtain ⟨v5, W5, hr5, ho5, hk5, hv5⟩ := app_row (t := 28) (ty := 28) Try.underlying28 HI38.out HZ38.out HS38.out HY38.out rfl (by decide) (by decide) (base := b7 + 1) (by omega) (v := .slice (some ⟨b7 + 1, 0, none⟩) 0 0) (n := 0) (xs := []) (by simpa using hrow0) (hs0.take9 (l := net) (k := j) (Nat.le_of_lt hj)) (hfr _ fun x hx => List.mem_of_mem_take hx) (by omega)
            rw [Nat.zero_add, List.nil_append] at ho5
            obtain ⟨A5, C5, rfl, -, -⟩ := own_slice ho5
            have hk5b : Keeps (fun k => b7 + 1 ≤ k) Wa W5 := hk5.mono fun k hk => by simp [Value.ownBlock] at hk; exact .inl (by omega)
            have HK5 := Lib.hid (HKWA.out.trans hk5b fun k h => .inr (by have := HS2.out; omega))
            have HR5 := Lib.hid hr5; have HO5 := Lib.hid ho5
            have hs5 : Sl W5 Free (.slice (some ⟨g1, 0, none⟩) net.length C1) 9 (net.flatMap mesCells) := Sl.of_own (own_keep (own_later HO2.out HKA.out) fun g hg => hk5b.block g (by have h1 := own_lt (own_later HO2.out HKA.out) hg; exact h1) fun h => by
              simp [Value.ownBlock] at hg
              have := HG1.out
              omega) (fun _ _ h => h)
            have HS5 := Lib.hid hs5
            clear hr5 ho5 hk5 hv5 hs0 hs5 hrow0
            apply Wf.wpAnyP_one (i := 5) (fuel := 2) (by kernel_rfl) rfl rfl
            refine plainf_append rfl rfl rfl HR5.out ⟨.inr HK5.out, ?_⟩
            clear HR5
            go_simp
            have hd5 : Sl W5 Free (.slice (if C1 = j + 1 then some ⟨g1, 0, none⟩ else some ⟨g1, (j + 1) * 9, none⟩) (net.length - (j + 1)) (C1 - (j + 1))) 9 ((net.drop (j + 1)).flatMap mesCells) := drop_any HS5.out (Nat.succ_le_of_lt hj) hcc
            obtain ⟨v6, W6, hr6, ho6, hk6, hv6⟩ := app_row (t := 28) (ty := 28) Try.underlying28 HI38.out HZ38.out HS38.out HY38.out rfl (by decide) (by decide) (base := b7 + 1) (by have := hk5b.size; omega) HO5.out hd5 (hfr _ fun x hx => List.mem_of_mem_drop hx) (by omega)
            obtain ⟨A6, C6, rfl, -, -⟩ := own_slice ho6
            have hk6b : Keeps (fun k => b7 + 1 ≤ k) W5 W6 := hk6.mono fun k hk => .inl (HO5.out.lt k hk).1
            have HK6 := Lib.hid (HK5.out.trans hk6b fun k h => .inr (by have := HS2.out; omega))
            have HR6 := Lib.hid hr6
            have HO6 := Lib.hid (show W6.ownsRow (b7 + 1) 38 9 (.slice A6 (j + (net.length - (j + 1))) C6) (netOf net k j).length ((netOf net k j).flatMap mesCells) by
              have e1 : netOf net k j = net.take j ++ net.drop (j + 1) := by unfold netOf; rw [if_neg hn5]
              rw [e1, List.flatMap_append, List.length_append, List.length_take, List.length_drop, Nat.min_eq_left (Nat.le_of_lt hj)]
              exact ho6)
            clear hr6 ho6 hk6 hv6 hk6b hk5b hd5
            apply Wf.wpAnyP_one (i := 11) (fuel := 1) (by kernel_rfl) rfl rfl
            refine plainf_append rfl rfl rfl HR6.out ⟨.inr HK6.out, ?_⟩
            clear HR6
            go_simp
            apply Wf.wpAnyP_one (i := 12) (fuel := 0) (by kernel_rfl) rfl rfl
            go_simp
            refine ⟨HK6.out, ?_⟩
            refine ⟨by kernel_rfl, ?_⟩
            go_wp2_with fail
            all_goals
              go_meet
              exact ⟨A6, _, C6, rfl, ⟨HO6.out.1, HO6.out.2.imp id fun ⟨g, c, cur, e1, e2, e3⟩ => ⟨g, c, cur, e1, by have := HG1.out; omega, e3⟩⟩, HK6.out⟩
      case rest =>
        obtain ⟨wd, rfl⟩ : ∃ wd : World, wd = wc := ⟨_, rfl⟩
        obtain ⟨A2, n2, c2, rfl, o2, hk2⟩ := hcut
        obtain ⟨d0, d1, d2, d3, d4, d5, d6, d7, d8, df⟩ := cells9l (hk2.blk HB8.out)
        obtain ⟨f0, f1, f2, ff⟩ := cells3 (hk2.blk B1W.out)
        have HK2C := Lib.hid (HK8.out.trans hk2 (fun _ h => .inl h))
        have HK0C := Lib.hid (HK01.out.trans HK2C.out (fun _ h => .inl h))
        have HO2 := Lib.hid o2; have HMB := Lib.hid (hk2.blk HB8.out)
        obtain ⟨CC, hCC⟩ : ∃ CC, wd.heap.size = CC := ⟨_, rfl⟩
        have HSC := Lib.hid hCC
        have HLO := Lib.hid (show b7 + 1 ≤ CC by have := hk2.size; have := HS2.out; omega)
        have HAPC := Lib.hid (show ∀ j, j < w.heap.size → Apart Q B CC j → Q j from fun j hj h => h.elim id fun h => by have := HBW.out; omega)
        clear hk2 o2 hCC
        by_cases hk6 : k = 6
        · have k6 : (k != 6) = false := by rw [bne, show (k == 6) = true by rw [beq_iff_eq]; exact hk6]; rfl
          have hfin : MidR w Q B ⟨nodes.map NodV.n, said net⟩ ⟨k, nd, (j : Int)⟩ (.slice none 0 0) (.slice A2 n2 c2) (.slice NA nodes.length NC) wd :=
            ⟨CC, nodes, netOf net k j, [], HO2.out, fun x hx => Sl.into (H0.out.msgs.each x (netOf_sub x hx)) HK0C.out (fun _ _ h => h.elim) HAPC.out, noMsgs _ _, H0.out.cells.into HK0C.out (fun _ _ h => h.elim) HAPC.out, fun x hx => (H0.out.each x hx).into HK0C.out (fun _ _ h => h.elim) HAPC.out,
              by simp only [said, List.map_nil, List.append_nil]; exact (cstep_lost (ev := ⟨k, nd, (j : Int)⟩) (m := ⟨m, .slice IA m.items.length IC⟩) HKIND.out rfl hj HMM.out (.inl hk6)).symm, by have := netOf_len (net := net) (k := k) (j := j); simp; omega, HK2C.out.blk Q3.out, HK0C.out, by have := HLO.out; omega, by rw [HSC.out]; exact Nat.le_refl _, fun g hg => by rw [← HSC.out]; exact own_lt HO2.out hg⟩
          have HFIN := Lib.hid hfin
          clear hfin
          clear hk6
          go_wp2_with fail
          go_meet
          exact HFIN.out
        have k6 : (k != 6) = true := by rw [bne_iff_ne]; exact hk6
        have HN6 := Lib.hid hk6
        clear hk6
        by_cases hin : m.dst < 1 ∨ (nodes.length : Int) < m.dst
        · have hfin : MidR w Q B ⟨nodes.map NodV.n, said net⟩ ⟨k, nd, (j : Int)⟩ (.slice none 0 0) (.slice A2 n2 c2) (.slice NA nodes.length NC) wd :=
            ⟨CC, nodes, netOf net k j, [], HO2.out, fun x hx => Sl.into (H0.out.msgs.each x (netOf_sub x hx)) HK0C.out (fun _ _ h => h.elim) HAPC.out, noMsgs _ _, H0.out.cells.into HK0C.out (fun _ _ h => h.elim) HAPC.out, fun x hx => (H0.out.each x hx).into HK0C.out (fun _ _ h => h.elim) HAPC.out,
              by simp only [said, List.map_nil, List.append_nil]; exact (cstep_lost (ev := ⟨k, nd, (j : Int)⟩) (m := ⟨m, .slice IA m.items.length IC⟩) HKIND.out rfl hj HMM.out (.inr hin)).symm, by have := netOf_len (net := net) (k := k) (j := j); simp; omega, HK2C.out.blk Q3.out, HK0C.out, by have := HLO.out; omega, by rw [HSC.out]; exact Nat.le_refl _, fun g hg => by rw [← HSC.out]; exact own_lt HO2.out hg⟩
          have HFIN := Lib.hid hfin
          clear hfin
          by_cases hq1 : m.dst < 1
          · have q1 : decide (1 ≤ m.dst) = false := by simp; omega
            clear hin hq1
            go_wp2_with fail
            go_meet
            exact HFIN.out
          · have q1 : decide (1 ≤ m.dst) = true := by simp; omega
            have q2 : decide (m.dst ≤ (nodes.length : Int)) = false := by simp; omega
            clear hin hq1
            go_wp2_with fail
            go_meet
            exact HFIN.out
        · obtain ⟨i, hie⟩ : ∃ i : Nat, m.dst = (i : Int) + 1 := ⟨(m.dst - 1).toNat, by omega⟩
          have hi : i < nodes.length := by omega
          have q1 : decide (1 ≤ m.dst) = true := by simp; omega
          have q2 : decide (m.dst ≤ (nodes.length : Int)) = true := by simp; omega
          obtain ⟨b, off, x, LA, LC, VA, VC, MA, MC, PA, PC, rfl, hxi, hxo, s0, s1', s2', s3', s4, s5, s6, s7, s8, s9, s10⟩ := nod_at (H0.out.cells.into (S' := Apart Q B CC) HK0C.out (fun _ _ h => h.elim) HAPC.out) (fun x hx => (H0.out.each x hx).into HK0C.out (fun _ _ h => h.elim) HAPC.out) hi
          have HCS := Lib.hid (cstep_recv (nodes := nodes) (net := net) (ev := ⟨k, nd, (j : Int)⟩) (m := ⟨m, .slice IA m.items.length IC⟩) (by have := HKIND.out; have := HN6.out; simp only; omega) rfl hj HMM.out hin (i := i) (by simp only; omega) hi hxi)
          have hgd := HGD.out i hi
          rw [hxi] at hgd
          have HXO := Lib.hid hxo; have HG := Lib.hid hgd
          clear hin hxi hxo hgd
          have hwi : IntKind.i64.wrap (m.dst - 1) = (i : Int) := by rw [IntWalk.i64_in _ (by omega)]; omega
          have HIE := Lib.hid hie
          clear hie
          have HSC' := Lib.hid (show ∀ j, Apart Q B CC j → j < CC from fun j h => by
            rcases h with h | h
            · have := HQ.out j h; have := HLO.out; omega
            · omega)
          go_upto_region 11 with fail
          have HN0 := Lib.hid (fun (w' : World) (hk : Keeps Free wd w') => s0)
          go_cut [9, 10] (fun p ov wx => ∃ b9 x' moreV, p = .pointer (some ⟨b9, 0, none⟩) ∧ wx.heap[b9]? = some (.cells (nodCells x').toArray 25 (0, 0)) ∧ NodeOk wx (Apart Q B CC) x' ∧ MsgsOk wx (Apart Q B CC) ov moreV ∧ x'.n = (receive x m).1 ∧ said moreV = (receive x m).2 ∧ Keeps Free wd wx)
          case first =>
            clear HN0
            refine Wf.wp_region_first (C := fun w' => Keeps Free wd w') (by kernel_rfl) 99 ?_
            have HKW := Lib.hid (show Keeps Free wd { wd with drawn := wd.drawn + 1 } from (Keeps.refl Free wd).drew)
            obtain ⟨W, hW⟩ : ∃ W : World, W = { wd with drawn := wd.drawn + 1 } := ⟨_, rfl⟩
            have HWS := Lib.hid (show W.heap.size = CC by rw [hW]; exact HSC.out)
            rw [← hW] at HKW ⊢
            clear hW
            apply Wf.wpAnyP_stays (by kernel_rfl) [0, 1, 2, 3, 4, 5, 6] _ _ _ 7 _ HKW.out (by kernel_rfl) ?hs ?hr
            case hs =>
              apply Wf.wpStays_step rfl rfl
              · intro w' hw'
                clear hw'
                go_simp
                exact ⟨rfl, rfl⟩
              go_simp
              apply Wf.wpStays_step rfl rfl
              · intro w' hw'
                clear hw'
                go_simp
                exact ⟨rfl, rfl⟩
              go_simp
              apply Wf.wpStays_step rfl rfl
              · intro w' hw'
                obtain ⟨e0, e1, e2, e3, e4, e5, e6, e7, e8, ef⟩ := cells9l (Keeps.blk hw' HMB.out)
                clear hw'
                go_simp
                exact ⟨rfl, rfl⟩
              go_simp
              apply Wf.wpStays_step rfl rfl
              · intro w' hw'
                clear hw'
                go_simp
                exact ⟨rfl, rfl⟩
              go_simp
              apply Wf.wpStays_step rfl rfl
              · intro w' hw'
                clear hw'
                go_simp
                exact ⟨rfl, rfl⟩
              go_simp
              apply Wf.wpStays_step rfl rfl
              · intro w' hw'
                have n0 := Keeps.cell hw' (fun h => h) s0
                have n1 := Keeps.cell hw' (fun h => h) s1'
                have n2 := Keeps.cell hw' (fun h => h) s2'
                have n3 := Keeps.cell hw' (fun h => h) s3'
                have n4 := Keeps.cell hw' (fun h => h) s4
                have n5 := Keeps.cell hw' (fun h => h) s5
                have n6 := Keeps.cell hw' (fun h => h) s6
                have n7 := Keeps.cell hw' (fun h => h) s7
                have n8 := Keeps.cell hw' (fun h => h) s8
                have n9 := Keeps.cell hw' (fun h => h) s9
                have n10 := Keeps.cell hw' (fun h => h) s10
                clear hw'
                go_simp
                exact ⟨rfl, rfl⟩
              go_simp
              apply Wf.wpStays_step rfl rfl
              · intro w' hw'
                obtain ⟨e0, e1, e2, e3, e4, e5, e6, e7, e8, ef⟩ := cells9l (Keeps.blk hw' HMB.out)
                clear hw'
                go_simp
                exact ⟨rfl, rfl⟩
              go_simp
              exact rfl
            case hr =>
              clear s0 s1' s2' s3' s4 s5 s6 s7 s8 s9 s10 d0 d1 d2 d3 d4 d5 d6 d7 d8 df f0 f1 f2 ff
              apply Wf.wpAnyP_two (i := 7) (k := 11) (fuel := 6) (by kernel_rfl) rfl rfl rfl rfl
              · have hcall := receiveR_any (w := W) (x := ⟨x, .slice LA x.log.length LC, .slice VA x.votes.length VC, .slice MA x.next.length MC, .slice PA x.mtch.length PC⟩) (m := ⟨m, .slice IA m.items.length IC⟩) (HXO.out.into HKW.out (fun _ _ h => h.elim) (fun _ _ h => h)) (fun j h => by rw [HWS.out]; exact HSC'.out j h) (sized_good HG.out) (Sl.into (S' := Free) HM0.out (HK0C.out.trans HKW.out (fun _ h => h.elim)) (fun _ _ h => h.elim) (fun _ _ h => h.elim)) hmi
                simp only [nodCells, mesCells] at hcall
                go_simp
                refine hcall.mono ?_
                rintro e w3 ⟨⟨x3, lv3, vv3, nv3, mv3⟩, ov, out, rfl, hx3, hso, hok3, hms, hk3⟩
                obtain ⟨LA3, LC3, VA3, VC3, NA3, NC3, MA3, MC3, e1, e2, e3, e4⟩ := hok3.shape
                simp only at e1 e2 e3 e4 hx3
                subst e1 e2 e3 e4
                have HX3 := Lib.hid hx3; have HSO := Lib.hid hso; have HOK3 := Lib.hid hok3; have HMS := Lib.hid hms
                have HK3 := Lib.hid (HKW.out.trans hk3 (fun _ h => .inl h)); have HK3W := Lib.hid hk3
                clear hx3 hso hok3 hms hk3 hcall
                simp only [nodCells]
                refine ⟨_, rfl, HK3.out, ?_⟩
                go_simp
                apply Wf.wpAnyP_stays (by kernel_rfl) [8, 9, 10] _ _ _ 3 _ HK3.out (by kernel_rfl) ?hs ?hr
                case hs =>
                  apply Wf.wpStays_step rfl rfl
                  · intro w' hw'
                    clear hw'
                    go_simp
                    exact ⟨rfl, rfl⟩
                  go_simp
                  apply Wf.wpStays_step rfl rfl
                  · intro w' hw'
                    clear hw'
                    go_simp
                    exact ⟨rfl, rfl⟩
                  go_simp
                  apply Wf.wpStays_step rfl rfl
                  · intro w' hw'
                    clear hw'
                    go_simp
                    exact ⟨rfl, rfl⟩
                  go_simp
                  exact rfl
                case hr =>
                  apply Wf.wpAnyP_one (i := 11) (fuel := 2) (by kernel_rfl) rfl rfl
                  have hka := (Keeps.refl Free w3).alloc (.cells zero11 25)
                  have hba := heap_alloc_new w3 (.cells zero11 25)
                  go_simp
                  obtain ⟨wa3, hwa⟩ : ∃ wa3, w3.alloc (.cells zero11 25) = wa3 := ⟨_, rfl⟩
                  obtain ⟨b9, hb9⟩ : ∃ b9, w3.heap.size = b9 := ⟨_, rfl⟩
                  rw [hwa] at hka hba ⊢
                  rw [hb9] at hba ⊢
                  have HKA := Lib.hid (HK3.out.trans hka (fun _ h => .inl h))
                  refine ⟨HKA.out, ?_⟩
                  obtain ⟨wf, hwf, hfb, hfk⟩ := put11l (v0 := .int .i64 x3.id) (v1 := .int .i64 x3.n) (v2 := .int .i64 x3.term) (v3 := .int .i64 x3.vote) (v4 := .slice LA3 x3.log.length LC3) (v5 := .int .i64 x3.commit) (v6 := .int .i64 x3.role) (v7 := .int .i64 x3.boss) (v8 := .slice VA3 x3.votes.length VC3) (v9 := .slice NA3 x3.next.length NC3) (v10 := .slice MA3 x3.mtch.length MC3) hba rfl
                  obtain ⟨z0, z1, z2, z3, z4, z5, z6, z7, z8, z9, z10, zf⟩ := cells11 hba
                  have hsz3 := HK3W.out.size
                  have hb9c : CC ≤ b9 := by have := HWS.out; omega
                  have HFB := Lib.hid hfb
                  have HKF := Lib.hid (HKA.out.trans hfk (fun j e => .inr (by rw [e, HSC.out]; exact hb9c)))
                  have HN3 := Lib.hid ((HOK3.out.into (S' := fun j => Apart Q B CC j ∨ j = b9) hka (fun _ _ h => h.elim) (fun j hj h => h.elim id fun e => by omega)).into (S' := Apart Q B CC) hfk (fun j _ e => .inr e) (fun _ _ h => .inl h))
                  have HM3 := Lib.hid ((MsgsOk.into (S' := fun j => Apart Q B CC j ∨ j = b9) HMS.out hka (fun _ _ h => h.elim) (fun j hj h => h.elim (fun h => by rw [HWS.out]; exact HSC'.out j h) fun e => by omega)).into (S' := Apart Q B CC) hfk (fun j _ e => .inr e) (fun _ _ h => .inl h))
                  clear hka hba hwa hb9 hfb hfk
                  apply Wf.wpAnyP_one (i := 12) (fuel := 1) (by kernel_rfl) rfl rfl
                  go_simp
                  first | rw [hwf] | skip
                  refine ⟨HKF.out, ?_⟩
                  apply Wf.wpAnyP_one (i := 13) (fuel := 0) (by kernel_rfl) rfl rfl
                  go_simp
                  refine ⟨HKF.out, ?_⟩
                  refine ⟨by kernel_rfl, ?_⟩
                  clear z0 z1 z2 z3 z4 z5 z6 z7 z8 z9 z10 zf hwf
                  go_wp2_with fail
                  go_meet
                  exact ⟨b9, ⟨x3, .slice LA3 x3.log.length LC3, .slice VA3 x3.votes.length VC3, .slice NA3 x3.next.length NC3, .slice MA3 x3.mtch.length MC3⟩, out, rfl, HFB.out, HN3.out, HM3.out, HX3.out, HSO.out, HKF.out⟩
              · have hka := (Keeps.refl Free W).alloc (.cells zero11 25)
                have hba := heap_alloc_new W (.cells zero11 25)
                have hsa := World.size_alloc W (.cells zero11 25)
                go_simp
                obtain ⟨wa3, hwa⟩ : ∃ wa3, W.alloc (.cells zero11 25) = wa3 := ⟨_, rfl⟩
                rw [hwa] at hka hba hsa ⊢
                rw [HWS.out] at hba hsa ⊢
                have HKA := Lib.hid (HKW.out.trans hka (fun _ h => .inl h))
                refine ⟨HKA.out, ?_⟩
                have HBA := Lib.hid hba; have HSA := Lib.hid hsa
                clear hka hba hwa hsa
                have hcall := receiveR_any (w := wa3) (Q := fun j => Apart Q B CC j ∨ j = CC) (x := ⟨x, .slice LA x.log.length LC, .slice VA x.votes.length VC, .slice MA x.next.length MC, .slice PA x.mtch.length PC⟩) (m := ⟨m, .slice IA m.items.length IC⟩) (HXO.out.into HKA.out (fun _ _ h => h.elim) (fun j hj h => h.elim id fun e => by have := HSC.out; omega)) (fun j h => by rw [HSA.out]; rcases h with h | h; have := HSC'.out j h; omega; omega) (sized_good HG.out) (Sl.into (S' := Free) HM0.out (HK0C.out.trans HKA.out (fun _ h => h.elim)) (fun _ _ h => h.elim) (fun _ _ h => h.elim)) hmi
                simp only [nodCells, mesCells] at hcall
                apply Wf.wpAnyP_one (i := 7) (fuel := 5) (by kernel_rfl) rfl rfl
                go_simp
                refine hcall.mono ?_
                rintro e w3 ⟨⟨x3, lv3, vv3, nv3, mv3⟩, ov, out, rfl, hx3, hso, hok3, hms, hk3⟩
                obtain ⟨LA3, LC3, VA3, VC3, NA3, NC3, MA3, MC3, e1, e2, e3, e4⟩ := hok3.shape
                simp only at e1 e2 e3 e4 hx3
                subst e1 e2 e3 e4
                have HX3 := Lib.hid hx3; have HSO := Lib.hid hso; have HOK3 := Lib.hid hok3; have HMS := Lib.hid hms
                have HK3 := Lib.hid (HKA.out.trans hk3 (fun _ h => .inl h)); have hba3 := hk3.blk HBA.out
                clear hx3 hso hok3 hms hk3 hcall
                simp only [nodCells]
                refine ⟨_, rfl, HK3.out, ?_⟩
                go_simp
                apply Wf.wpAnyP_stays (by kernel_rfl) [8, 9, 10] _ _ _ 2 _ HK3.out (by kernel_rfl) ?hs ?hr
                case hs =>
                  apply Wf.wpStays_step rfl rfl
                  · intro w' hw'
                    clear hw'
                    go_simp
                    exact ⟨rfl, rfl⟩
                  go_simp
                  apply Wf.wpStays_step rfl rfl
                  · intro w' hw'
                    clear hw'
                    go_simp
                    exact ⟨rfl, rfl⟩
                  go_simp
                  apply Wf.wpStays_step rfl rfl
                  · intro w' hw'
                    clear hw'
                    go_simp
                    exact ⟨rfl, rfl⟩
                  go_simp
                  exact rfl
                case hr =>
                  obtain ⟨wf, hwf, hfb, hfk⟩ := put11l (v0 := .int .i64 x3.id) (v1 := .int .i64 x3.n) (v2 := .int .i64 x3.term) (v3 := .int .i64 x3.vote) (v4 := .slice LA3 x3.log.length LC3) (v5 := .int .i64 x3.commit) (v6 := .int .i64 x3.role) (v7 := .int .i64 x3.boss) (v8 := .slice VA3 x3.votes.length VC3) (v9 := .slice NA3 x3.next.length NC3) (v10 := .slice MA3 x3.mtch.length MC3) hba3 rfl
                  obtain ⟨z0, z1, z2, z3, z4, z5, z6, z7, z8, z9, z10, zf⟩ := cells11 hba3
                  have HFB := Lib.hid hfb
                  have HKF := Lib.hid (HK3.out.trans hfk (fun j e => .inr (by rw [e, HSC.out]; exact Nat.le_refl _)))
                  have HN3 := Lib.hid (HOK3.out.into (S' := Apart Q B CC) hfk (fun j _ e => .inr e) (fun _ _ h => .inl h))
                  have HM3 := Lib.hid (MsgsOk.into (S' := Apart Q B CC) HMS.out hfk (fun j _ e => by rw [e, HSA.out]; exact Nat.lt_succ_self _) (fun j _ h => by have := HSC'.out j h; have := HSA.out; omega))
                  clear hfb hfk hba3
                  apply Wf.wpAnyP_one (i := 12) (fuel := 1) (by kernel_rfl) rfl rfl
                  go_simp
                  first | rw [hwf] | skip
                  refine ⟨HKF.out, ?_⟩
                  apply Wf.wpAnyP_one (i := 13) (fuel := 0) (by kernel_rfl) rfl rfl
                  go_simp
                  refine ⟨HKF.out, ?_⟩
                  refine ⟨by kernel_rfl, ?_⟩
                  clear z0 z1 z2 z3 z4 z5 z6 z7 z8 z9 z10 zf hwf
                  go_wp2_with fail
                  go_meet
                  exact ⟨CC, ⟨x3, .slice LA3 x3.log.length LC3, .slice VA3 x3.votes.length VC3, .slice NA3 x3.next.length NC3, .slice MA3 x3.mtch.length MC3⟩, out, rfl, HFB.out, HN3.out, HM3.out, HX3.out, HSO.out, HKF.out⟩
          case rest =>
            obtain ⟨b9, ⟨x5, lv5, vv5, nv5, mv5⟩, moreV, rfl, h51, h52, h53, h54, h55, h56⟩ := hcut
            obtain ⟨LA5, LC5, VA5, VC5, NA5, NC5, MA5, MC5, e1, e2, e3, e4⟩ := h52.shape
            obtain ⟨OA5, OC5, e5⟩ := h53.cells.form (mess_len moreV) (by decide)
            simp only at e1 e2 e3 e4 h54
            subst e1 e2 e3 e4 e5
            have hcall := withN_any (w := wc) (i := i) (H0.out.cells.into (S' := Apart Q B CC) (HK0C.out.trans h56 (fun _ h => h.elim)) (fun _ _ h => h.elim) HAPC.out) (fun x hx => (H0.out.each x hx).into (HK0C.out.trans h56 (fun _ h => h.elim)) (fun _ _ h => h.elim) (fun _ _ h => h.elim)) hi (by simp only; omega) (h52.weak (fun _ _ h => h.elim))
            simp only [nodCells] at hcall
            have HCALL := Lib.hid hcall; have H52 := Lib.hid h52; have H53 := Lib.hid h53; have H54 := Lib.hid h54; have H55 := Lib.hid h55; have H56 := Lib.hid h56
            obtain ⟨d0, d1, d2, d3, d4, d5, d6, d7, d8, df⟩ := cells9l (h56.blk HMB.out)
            obtain ⟨u0, u1, u2, u3, u4, u5, u6, u7, u8, u9, u10, uf⟩ := cells11 h51
            clear hcall h51 h52 h53 h54 h55 h56 HN0 s0 s1' s2' s3' s4 s5 s6 s7 s8 s9 s10
            go_wp2_with (first
              | (go_at_call 85
                 refine HCALL.out.mono ?_
                 rintro e w6 ⟨A6, C6, rfl, hs6, hk6⟩
                 have HS6 := Lib.hid hs6; have HK6 := Lib.hid hk6
                 clear hs6 hk6 HCALL))
            go_meet
            have hkf := H56.out.trans HK6.out (fun _ h => .inl h)
            have hk0f := HK0C.out.trans hkf (fun _ h => h.elim)
            have hwc := H56.out.size
            exact ⟨CC, nodes.set i ⟨x5, .slice LA5 x5.log.length LC5, .slice VA5 x5.votes.length VC5, .slice NA5 x5.next.length NC5, .slice MA5 x5.mtch.length MC5⟩, netOf net k j, moreV, own_later HO2.out hkf, fun y hy => Sl.into (H0.out.msgs.each y (netOf_sub y hy)) hk0f (fun _ _ h => h.elim) HAPC.out, H53.out.into HK6.out (fun _ _ h => h.elim) (fun _ _ h => h),
              HS6.out.weak fun j _ h => by have := HSC'.out j h; have := HSC.out; omega,
              fun y hy => by
                rcases List.mem_or_eq_of_mem_set hy with hy | rfl
                · exact (H0.out.each y hy).into hk0f (fun _ _ h => h.elim) HAPC.out
                · exact H52.out.into HK6.out (fun _ _ h => h.elim) (fun _ _ h => h),
              by rw [HCS.out, List.map_set, H54.out, H55.out], by have h1 := receive_few x m; have h2 := netOf_len (net := net) (k := k) (j := j); rw [← H55.out] at h1; simp only [said, List.length_map] at h1; omega, hkf.blk (HK2C.out.blk Q3.out), hk0f, by have := HLO.out; omega, by have := hkf.size; have := HSC.out; omega, fun g hg => by rw [← HSC.out]; exact own_lt HO2.out hg⟩
    case rest =>
      obtain ⟨CC, nodesV, L, NA2, NC2, OA2, OL2, OC2, A2, n2, c2, LA2, LC2, w8, en, em, et, hr8, hl8, hi8, hn8, hx8, hc8, hl1, hb8, hk8, hkc, rfl⟩ := hcut.joined HQ.out
      subst en em et
      have HR8 := Lib.hid hr8; have HL8 := Lib.hid hl8; have HI8 := Lib.hid hi8; have HN8 := Lib.hid hn8; have HX8 := Lib.hid hx8; have HC8 := Lib.hid hc8; have HB8 := Lib.hid hb8; have HK8 := Lib.hid hk8; have HKC := Lib.hid hkc
      clear hr8 hl8 hi8 hn8 hx8 hc8 hb8 hk8 hkc HR1 hcut c0 c1 cf f0 f1 f2 ff
      go_wp2_with (at_builtin; refine wpList_append_run rfl _ _ 28 rfl rfl rfl HR8.out ?_)
      go_loop [6] (fun v => ∃ (j : Nat) (A : Option Addr) (m c : Nat), v = .slice A m c ∧ m + j = L.length ∧ j ≤ L.length - 60 ∧ Sl w8 (Apart Q B (B + 3)) (.slice A m c) 9 ((L.drop j).flatMap mesCells)) (fun v => slLen v)
      case atStart => exact ⟨0, _, _, _, rfl, rfl, Nat.zero_le _, by rw [List.drop_zero]; exact HL8.out⟩
      case round =>
        obtain ⟨j, A, m, c, rfl, hj, hj2, hsl⟩ := hrel
        have HSL := Lib.hid hsl
        by_cases hlt : 60 < m
        · obtain ⟨m, rfl⟩ : ∃ m', m = m' + 1 := ⟨m - 1, by omega⟩
          have hq : decide (60 < ((m + 1 : Nat) : Int)) = true := by simp; omega
          obtain ⟨A', n', c', e, -, hc1, -, hc2⟩ := hsl
          injection e with e1 e2 e3
          subst e1 e2 e3
          obtain ⟨b, off, rfl, -, -⟩ := hc2 (by rw [mess_len, List.length_drop]; omega)
          clear hc2
          go_wp2_with fail
          go_round
          case rel => exact ⟨j + 1, some ⟨b, off + 9, none⟩, m, c - 1, by go_num, by omega, by omega, by have := HSL.out.tail9 (by rw [List.length_drop]; omega); rwa [List.drop_drop] at this⟩
          case measure => simp [slLen]
        · have hq : decide (60 < (m : Int)) = false := by simp; omega
          obtain ⟨wf, hwf, hfb, hfk⟩ := put2 (v0 := .slice NA2 nodesV.length NC2) (v1 := .slice A m c) HB8.out rfl
          obtain ⟨z0, z1, zf⟩ := cells2 hfb
          have HFK := Lib.hid hfk
          have hjj : (said L).length - 60 = j := by simp [said]; omega
          have HTR := Lib.hid (show Wld.mk (nodesV.map NodV.n) (said (L.drop j)) = cstep ⟨nodes.map NodV.n, said net⟩ ⟨k, nd, pk⟩ by
            rw [← HC8.out]
            unfold trim
            rw [hjj]
            simp [said, List.map_drop])
          clear hfb hfk hsl hjj
          obtain ⟨y0, y1, yf⟩ := cells2 HB8.out
          go_wp2_with fail
          refine bodyPost_ret (v := .agg #[.slice NA2 nodesV.length NC2, .slice A m c]) (by simp [results, Try.results48, go_sem, z0, z1]) rfl ?_
          have hcl : ∀ j', j' < w8.heap.size → j' = B + 2 → Apart Q B (B + 3) j' := fun j' _ e => .inr (by omega)
          have hq2 : ∀ j', j' < w8.heap.size → Q j' → Apart Q B (B + 3) j' := fun _ _ h => .inl h
          exact ⟨⟨nodesV, L.drop j, _, _⟩, rfl, HTR.out, ⟨HN8.out.into HFK.out hcl hq2, fun x hx => (HX8.out x hx).into HFK.out hcl hq2, ⟨HSL.out.into HFK.out hcl hq2, fun mm hm => Sl.into (HI8.out mm (List.mem_of_mem_drop hm)) HFK.out hcl hq2⟩⟩,
            (HKC.out.trans HK8.out (fun j' h => .inr (by have := HBW.out; omega))).trans HFK.out (fun j' e => .inr (by have := HBW.out; omega))⟩

/-- Step of the document's answer, of any event. -/
theorem stepR_any {w : World} {Q : Nat → Prop} {W : WldV} {ev : Evt} {n : Int} (h0 : WldOk w Q W) (hQ : ∀ k, Q k → k < w.heap.size) (hs : Sound n W.w) (hn : ¬ (n < 1 ∨ 5 < n)) (hit : ∀ m ∈ W.net, m.m.items.length ≤ 2000000) :
    Calls Try.prog 48 #[.agg #[W.nv, W.ov], .agg #[.int .i64 ev.kind, .int .i64 ev.node, .int .i64 ev.pick]] w fun e w' => ∃ W' : WldV, e = .returned (.agg #[W'.nv, W'.ov]) ∧ W'.w = cstep W.w ev ∧ WldOk w' Q W' ∧ Keeps Free w w' := by
  by_cases h : ev.kind = 4 ∨ ev.kind = 5 ∨ ev.kind = 6
  · exact stepR_msgs h0 hQ hs hn hit h
  · exact stepR_acts h0 hQ hs hn h
end Go.Proofs.Ytibjbpakbfodaaa
