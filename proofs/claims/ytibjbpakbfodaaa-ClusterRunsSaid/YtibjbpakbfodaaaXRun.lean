/- The document's answer, chapter 16: Start and Run, walked; Run of the package where it has nothing to do. Messages that come, the oldest first, up to so many: plainly. No program is in sight. cluster.Calm, walked: messages come, the oldest first, up to so many. The document's answer, chapter 16: Calm, walked. The document's answer, chapter 16: Same, walked: of worlds that are the same it says so. ClusterRuns, walked: what events make of any number of nodes is what the document's answer says. -/
import Derived.Test.YtibjbpakbfodaaaXRnU
import Derived.Test.YtibjbpakbfodaaaXThru
import Derived.Test.YtibjbpakbfodaaaXPureC
import Derived.Test.YtibjbpakbfodaaaXWld
namespace Go.Proofs.Ytibjbpakbfodaaa
open Go.RowKit

set_option maxRecDepth 100000 in
set_option maxHeartbeats 8000000 in
theorem startR_any (w : World) (n : Int) : Calls Try.prog 80 #[.int .i64 n] w fun e w' => Keeps Free w w' ∧
    ((n < 1 ∨ 5 < n) ∧ e = .returned (.tuple #[.agg #[.slice none 0 0, .slice none 0 0], .int .i64 3]) ∨
     ¬ (n < 1 ∨ 5 < n) ∧ ∃ W : WldV, e = .returned (.tuple #[.agg #[W.nv, W.ov], .int .i64 0]) ∧ W.w = firstWld n ∧ ∀ Q : Nat → Prop, (∀ k, Q k → k < w.heap.size) → WldOk w' Q W) := by
  by_cases hout : n < 1 ∨ 5 < n
  · obtain ⟨wz, wf, e1, e2, k, r0, r1, r2, r3, rf⟩ : ∃ wz wf, w.alloc (.cells #[.slice none 0 0, .slice none 0 0] 55) = wz ∧ (wz.setCell ⟨w.heap.size, 0, none⟩ (.slice none 0 0)).setCell ⟨w.heap.size, 1, none⟩ (.slice none 0 0) = wf ∧ Keeps Free w wf ∧ wz.cell? ⟨w.heap.size, 0, none⟩ = some (.slice none 0 0) ∧
        wz.cell? ⟨w.heap.size, 1, none⟩ = some (.slice none 0 0) ∧ wf.cell? ⟨w.heap.size, 0, none⟩ = some (.slice none 0 0) ∧ wf.cell? ⟨w.heap.size, 1, none⟩ = some (.slice none 0 0) ∧ (∀ k, wz.frozen? ⟨w.heap.size, k, none⟩ = false) := by
      have hb := heap_alloc_new w (.cells #[.slice none 0 0, .slice none 0 0] 55)
      obtain ⟨wf, hwf, hfb, hfk⟩ := put2 (v0 := .slice none 0 0) (v1 := .slice none 0 0) hb rfl
      exact ⟨_, wf, rfl, hwf, ((Keeps.refl Free w).alloc _).trans hfk fun j e => .inr (by omega), (cells2 hb).1, (cells2 hb).2.1, (cells2 hfb).1, (cells2 hfb).2.1, (cells2 hb).2.2⟩
    have K := Lib.hid k
    have hq : (decide (n < 1) || decide (5 < n)) = true := by simpa using hout
    have HO := Lib.hid hout
    clear k hout
    go_enter Try.func80, Try.ntmps80
    cases h1 : decide (n < 1)
    case true =>
      clear hq
      go_wp2_with fail
      refine bodyPost_ret (v := .tuple #[.agg #[.slice none 0 0, .slice none 0 0], .int .i64 3]) (by simp [results, Try.results80, go_sem, r2, r3]) rfl ?_
      exact ⟨K.out, .inl ⟨HO.out, rfl⟩⟩
    case false =>
      have h2 : decide (5 < n) = true := by rw [h1] at hq; exact hq
      clear hq
      go_wp2_with fail
      refine bodyPost_ret (v := .tuple #[.agg #[.slice none 0 0, .slice none 0 0], .int .i64 3]) (by simp [results, Try.results80, go_sem, r2, r3]) rfl ?_
      exact ⟨K.out, .inl ⟨HO.out, rfl⟩⟩
  · obtain ⟨N, rfl⟩ : ∃ N : Nat, n = N := ⟨n.toNat, by omega⟩
    have hN1 : 1 ≤ N := by omega
    have hN5 : N ≤ 5 := by omega
    clear hout
    obtain ⟨k0, k1, k2⟩ := two_boxes w (.cells #[.slice none 0 0, .slice none 0 0] 55) (.cells #[.slice none 0 0, .slice none 0 0] 55)
    obtain ⟨wz, hwz⟩ : ∃ wz, (w.alloc (.cells #[.slice none 0 0, .slice none 0 0] 55)).alloc (.cells #[.slice none 0 0, .slice none 0 0] 55) = wz := ⟨_, rfl⟩
    rw [hwz] at k0 k1 k2
    obtain ⟨B, hB⟩ : ∃ B, w.heap.size = B := ⟨_, rfl⟩
    rw [hB] at k1 k2
    have K0 := Lib.hid k0; have K1 := Lib.hid k1; have K2 := Lib.hid k2; have HB := Lib.hid hB
    obtain ⟨y0, y1, yf⟩ := cells2 k2
    obtain ⟨ws, hws, hsb, hsk⟩ := put2 (v0 := .slice none 0 0) (v1 := .slice none 0 0) k2 rfl
    have KS0 := Lib.hid (k0.trans hsk fun j e => .inr (by omega)); have KS2 := Lib.hid hsb; have KS1 := Lib.hid ((hsk.block B (laid_lt k1) (by omega)).trans k1)
    have q1 : decide ((N : Int) < 1) = false := by simp; omega
    have q2 : decide (5 < (N : Int)) = false := by simp; omega
    clear k0 k1 k2 hsb hsk
    go_enter Try.func80, Try.ntmps80
    go_wp2_with fail
    clear y0 y1 yf q1 q2
    go_loopw [5] (fun i wr => ∃ k : Nat, k ≤ N ∧ i = .int .i64 (k : Int) ∧ StartAt w B N k wr) (fun i _ => 7 - (intOf i).toNat)
    case atStart =>
      exact ⟨0, by omega, rfl, _, 0, KS0.out, KS2.out, KS1.out, World.ownsRow_nil _ _ _ _, fun g hg => by simp [Value.ownBlock] at hg⟩
    case round =>
      obtain ⟨k, hk, rfl, A, C, s1, s2, s3, s4, s5⟩ := hrel
      obtain ⟨b0, b1, bf⟩ := cells2 s2
      have S1 := Lib.hid s1; have S2 := Lib.hid s2; have S3 := Lib.hid s3; have S4 := Lib.hid s4; have S5 := Lib.hid s5
      clear s1 s2 s3 s4 s5
      by_cases hlt : k < N
      · obtain ⟨v', w', hr, o', kk2, hv⟩ := app_node (w := wr.alloc (.cells #[.int .i64 ((k : Int) + 1), .int .i64 (N : Int), .int .i64 0, .int .i64 0, .slice none 0 0, .int .i64 0, .int .i64 1, .int .i64 0, .slice none 0 0, .slice none 0 0, .slice none 0 0] 25)) (b := wr.heap.size) (own_later S4.out ((Keeps.refl Free wr).alloc _)) (heap_alloc_new _ _) rfl (by simp [Value.oneCell']) (by omega) 47
        obtain ⟨A', C', rfl, -, -⟩ := own_slice o'
        obtain ⟨wn, hwn, r⟩ := started_next S1.out S2.out S3.out S5.out HB.out (w1 := wr) ⟨rfl, rfl, rfl, Nat.le_refl _, fun _ _ _ => rfl⟩ rfl o' kk2 hv
        obtain ⟨y0, y1, yf⟩ := cells2 r.1
        have R := Lib.hid r.2; have HR := Lib.hid hr
        have hx1 := laid_lt S2.out
        have hak := (((Keeps.refl Free wr).alloc (.cells #[.int .i64 ((k : Int) + 1), .int .i64 (N : Int), .int .i64 0, .int .i64 0, .slice none 0 0, .int .i64 0, .int .i64 1, .int .i64 0, .slice none 0 0, .slice none 0 0, .slice none 0 0] 25))).cell (fun h => h) b0
        clear r o' kk2 hv hr
        go_wp2_with (at_builtin; refine wpList_append_run rfl _ _ 47 rfl rfl rfl HR.out ?_)
        go_roundw
        case rel => exact ⟨k + 1, by omega, by go_num, R.out⟩
        case measure => simp [intOf]; omega
      · have hkN : k = N := by omega
        subst hkN
        obtain ⟨wf, hwf, hfb, hfk⟩ := put2 (v0 := .slice A k C) (v1 := .slice none 0 0) S3.out rfl
        obtain ⟨c0, c1, cf⟩ := cells2 hfb
        obtain ⟨d0, d1, df⟩ := cells2 S3.out
        have HFK := Lib.hid hfk
        clear hfb hfk
        go_wp2_with fail
        refine bodyPost_ret (v := .tuple #[.agg #[.slice A k C, .slice none 0 0], .int .i64 0]) (by simp [results, Try.results80, go_sem, c0, c1]) rfl ?_
        have hkf : Keeps Free w wf := S1.out.trans HFK.out fun j e => .inr (by have := HB.out; omega)
        refine ⟨hkf, .inr ⟨by omega, ⟨newsTo k k, [], .slice A k C, .slice none 0 0⟩, rfl, ?_, fun Q hQ => ?_⟩⟩
        · simp [WldV.w, firstWld, newsTo, newV, said]
        · have hoB : ∀ g, (Value.slice A k C).ownBlock = some g → ¬ Q g := fun g hg hq => by have := S5.out g hg; have := hQ g hq; have := HB.out; omega
          have ho := own_keep S4.out fun g hg => HFK.out.block g (own_lt S4.out hg) fun e => by have := S5.out g hg; omega
          refine ⟨Sl.of_own (by simpa using ho) hoB, fun x hx => ?_, noMsgs _ _⟩
          simp only [newsTo, List.mem_map] at hx
          obtain ⟨j, _, rfl⟩ := hx
          have hnil : ∀ (s : Nat), Sl wf Q (.slice none 0 0) s [] := fun s => ⟨none, 0, 0, rfl, by simp, Nat.le_refl _, by simp [maxLen], fun h => by simp at h⟩
          exact ⟨hnil _, hnil _, hnil _, hnil _⟩

-- MORE
/-- No message has more than three items. -/
def Small (w : Wld) : Prop := ∀ m ∈ w.net, m.items.length ≤ 3

theorem mem_trim_ {l : List Mes} {m : Mes} (h : m ∈ trim l) : m ∈ l := List.mem_of_mem_drop h

theorem acted_small (x : Nod) (e : Evt) : ∀ m ∈ (acted x e).2, m.items.length ≤ 3 := by
  intro m hm
  unfold acted at hm
  split at hm
  · exact (timeout_speaks x m hm).2.2.2.2.1
  split at hm
  · exact (beat_speaks x m hm).2.2.2.2.1
  split at hm
  · exact (propose_speaks x _ m hm).2.2.2.2.1
  · simp at hm

theorem Small.step {w : Wld} (h : Small w) (e : Evt) : Small (cstep w e) := by
  have hset : ∀ {ns : List Nod} {ms net : List Mes}, (∀ m ∈ ms, m.items.length ≤ 3) → (∀ m ∈ net, m ∈ w.net) → Small ⟨ns, trim (net ++ ms)⟩ := by
    intro ns ms net hy hn m hm
    rcases List.mem_append.1 (mem_trim_ hm) with hm | hm
    · exact h m (hn m hm)
    · exact hy m hm
  have hsub : ∀ {ns : List Nod} {net : List Mes}, (∀ m ∈ net, m ∈ w.net) → Small ⟨ns, trim net⟩ := fun hn m hm => h m (hn m (mem_trim_ hm))
  unfold cstep
  split
  · split
    · exact h
    · split
      · exact h
      · exact hset (acted_small _ e) (fun _ hm => hm)
  split
  · split
    · exact h
    split
    · exact h
    · have hnet : ∀ s ∈ (if e.kind = 5 then w.net else w.net.eraseIdx e.pick.toNat), s ∈ w.net := by
        intro s hs
        split at hs
        · exact hs
        · exact List.mem_of_mem_eraseIdx hs
      simp only
      split
      · exact hsub hnet
      · split
        · exact hsub hnet
        · exact hset (fun m hm => (receive_speaks _ _ m hm).2.2.2.2.1) hnet
  · exact hsub fun m hm => hm

theorem ran_small (n : Int) (l : List Evt) : Small (ran n l) := by
  have key : ∀ (l : List Evt) (w : Wld), Small w → Small (l.foldl cstep w) := by
    intro l
    induction l with
    | nil => exact fun w h => h
    | cons e t ih => exact fun w h => ih _ (h.step e)
  exact key l _ (fun m hm => by simp [firstWld] at hm)

set_option maxRecDepth 100000 in
set_option maxHeartbeats 8000000 in
theorem clRunBad_any {w : World} {S : Nat → Prop} {n : Int} {ev : Value} {evs : List Evt} (hev : Sl w S ev 3 (evs.flatMap evtCells)) (hb : (n < 1 ∨ 5 < n) ∨ 300 < evs.length) :
    Calls Try.prog 44 #[.int .i64 n, ev] w fun e w' => e = .returned (.tuple #[.agg #[.slice none 0 0, .slice none 0 0], .int .i64 (if n < 1 ∨ 5 < n then 3 else 5)]) ∧ Keeps Free w w' := by
  have HEV := Lib.hid hev; have HBAD := Lib.hid hb
  obtain ⟨A, C, rfl⟩ := hev.form (evts_len evs) (by decide)
  clear hev hb
  obtain ⟨cd, hcd⟩ : ∃ cd : Int, (if n < 1 ∨ 5 < n then (3 : Int) else 5) = cd := ⟨_, rfl⟩
  rw [hcd]
  have HCD := Lib.hid hcd
  clear hcd
  obtain ⟨wz, hal⟩ : ∃ wz, w.alloc (.cells #[.slice none 0 0, .slice none 0 0] 55) = wz := ⟨_, rfl⟩
  obtain ⟨R, hR⟩ : ∃ R, w.heap.size = R := ⟨_, rfl⟩
  have hbz : wz.heap[R]? = some (.cells #[.slice none 0 0, .slice none 0 0] 55 (0, 0)) := by rw [← hal, ← hR]; exact heap_alloc_new _ _
  have hkz : Keeps Free w wz := by rw [← hal]; exact (Keeps.refl _ w).alloc _
  have HBZ := Lib.hid hbz; have HKZ := Lib.hid hkz; have HR := Lib.hid hR
  clear hbz hkz
  go_enter Try.func44, Try.ntmps44
  go_wp2_with fail
  refine (clStart_any wz n).mono ?_
  rintro e w1 ⟨k1, hr⟩
  have K1 := Lib.hid k1
  clear k1
  rcases hr with ⟨ho, rfl⟩ | ⟨ho, W, rfl, hW, hok⟩
  · have hif : cd = 3 := by rw [← HCD.out]; exact if_pos ho
    have HIF := Lib.hid hif
    clear ho hif
    obtain ⟨B, hB⟩ : ∃ B, w1.heap.size = B := ⟨_, rfl⟩
    obtain ⟨w2, hal2⟩ : ∃ w2, w1.alloc (.cells #[.slice none 0 0, .slice none 0 0] 55) = w2 := ⟨_, rfl⟩
    have hb2 : w2.heap[B]? = some (.cells #[.slice none 0 0, .slice none 0 0] 55 (0, 0)) := by rw [← hal2, ← hB]; exact heap_alloc_new _ _
    have hk2 : Keeps Free w1 w2 := by rw [← hal2]; exact (Keeps.refl _ w1).alloc _
    obtain ⟨w3, hw3, hb3, hk3⟩ := put2 (v0 := .slice none 0 0) (v1 := .slice none 0 0) hb2 rfl
    have hr0 := hk2.blk (K1.out.blk HBZ.out)
    have hRB : R ≠ B := by have := laid_lt (K1.out.blk HBZ.out); omega
    have hr2 := (hk3.block R (laid_lt hr0) hRB).trans hr0
    obtain ⟨d0, d1, df⟩ := cells2 hb2
    obtain ⟨c0, c1, cf⟩ := cells2 hb3
    obtain ⟨r0, r1, rf⟩ := cells2 hr2
    obtain ⟨wf, hwf, hfb, hfk⟩ := put2 (v0 := .slice none 0 0) (v1 := .slice none 0 0) hr2 rfl
    obtain ⟨z0, z1, zf⟩ := cells2 hfb
    have HFK := Lib.hid hfk; have HK2 := Lib.hid (hk2.trans hk3 fun j e => .inr (by omega))
    clear hb2 hk2 hr2 hfb hfk hb3 hk3 hr0
    go_wp2_with fail
    refine bodyPost_ret (v := .tuple #[.agg #[.slice none 0 0, .slice none 0 0], .int .i64 3]) (by simp [results, Try.results44, go_sem, z0, z1]) rfl ?_
    exact ⟨by rw [HIF.out], ((HKZ.out.trans K1.out fun _ h => .inl h).trans HK2.out fun _ h => .inl h).trans HFK.out fun j e => .inr (by have := HR.out; omega)⟩
  · have hif : cd = 5 := by rw [← HCD.out]; exact if_neg ho
    have HIF := Lib.hid hif
    have hl' : decide (300 < (evs.length : Int)) = true := by have := HBAD.out.resolve_left ho; simp; omega
    obtain ⟨nodes, net, nv, ov⟩ := W
    have hok2 := hok Free (fun k h => h.elim)
    obtain ⟨NA, NC, en1⟩ := hok2.cells.form (nods_len nodes) (by decide)
    obtain ⟨OA, OC, en2⟩ := hok2.msgs.cells.form (mess_len net) (by decide)
    simp only at en1 en2
    subst en1 en2
    clear ho hif hok hok2 hW
    obtain ⟨B, hB⟩ : ∃ B, w1.heap.size = B := ⟨_, rfl⟩
    obtain ⟨w2, hal2⟩ : ∃ w2, w1.alloc (.cells #[.slice NA nodes.length NC, .slice OA net.length OC] 55) = w2 := ⟨_, rfl⟩
    have hk2 : Keeps Free w1 w2 := by rw [← hal2]; exact (Keeps.refl _ w1).alloc _
    have hr2 := hk2.blk (K1.out.blk HBZ.out)
    obtain ⟨r0, r1, rf⟩ := cells2 hr2
    obtain ⟨wf, hwf, hfb, hfk⟩ := put2 (v0 := .slice none 0 0) (v1 := .slice none 0 0) hr2 rfl
    obtain ⟨z0, z1, zf⟩ := cells2 hfb
    have HFK := Lib.hid hfk; have HK2 := Lib.hid hk2
    clear hk2 hr2 hfb hfk
    simp only
    go_wp2_with fail
    refine bodyPost_ret (v := .tuple #[.agg #[.slice none 0 0, .slice none 0 0], .int .i64 5]) (by simp [results, Try.results44, go_sem, z0, z1]) rfl ?_
    exact ⟨by rw [HIF.out], ((HKZ.out.trans K1.out fun _ h => .inl h).trans HK2.out fun _ h => .inl h).trans HFK.out fun j e => .inr (by have := HR.out; omega)⟩

set_option maxRecDepth 100000 in
set_option maxHeartbeats 8000000 in
theorem runRBad_any {w : World} {S : Nat → Prop} {n : Int} {ev : Value} {evs : List Evt} (hev : Sl w S ev 3 (evs.flatMap evtCells)) (hb : (n < 1 ∨ 5 < n) ∨ 300 < evs.length) :
    Calls Try.prog 45 #[.int .i64 n, ev] w fun e w' => e = .returned (.tuple #[.agg #[.slice none 0 0, .slice none 0 0], .int .i64 (if n < 1 ∨ 5 < n then 3 else 5)]) ∧ Keeps Free w w' := by
  have HEV := Lib.hid hev; have HBAD := Lib.hid hb
  obtain ⟨A, C, rfl⟩ := hev.form (evts_len evs) (by decide)
  clear hev hb
  obtain ⟨cd, hcd⟩ : ∃ cd : Int, (if n < 1 ∨ 5 < n then (3 : Int) else 5) = cd := ⟨_, rfl⟩
  rw [hcd]
  have HCD := Lib.hid hcd
  clear hcd
  obtain ⟨wz, hal⟩ : ∃ wz, w.alloc (.cells #[.slice none 0 0, .slice none 0 0] 55) = wz := ⟨_, rfl⟩
  obtain ⟨R, hR⟩ : ∃ R, w.heap.size = R := ⟨_, rfl⟩
  have hbz : wz.heap[R]? = some (.cells #[.slice none 0 0, .slice none 0 0] 55 (0, 0)) := by rw [← hal, ← hR]; exact heap_alloc_new _ _
  have hkz : Keeps Free w wz := by rw [← hal]; exact (Keeps.refl _ w).alloc _
  have HBZ := Lib.hid hbz; have HKZ := Lib.hid hkz; have HR := Lib.hid hR
  clear hbz hkz
  go_enter Try.func45, Try.ntmps45
  go_wp2_with fail
  refine (startR_any wz n).mono ?_
  rintro e w1 ⟨k1, hr⟩
  have K1 := Lib.hid k1
  clear k1
  rcases hr with ⟨ho, rfl⟩ | ⟨ho, W, rfl, hW, hok⟩
  · have hif : cd = 3 := by rw [← HCD.out]; exact if_pos ho
    have HIF := Lib.hid hif
    clear ho hif
    obtain ⟨B, hB⟩ : ∃ B, w1.heap.size = B := ⟨_, rfl⟩
    obtain ⟨w2, hal2⟩ : ∃ w2, w1.alloc (.cells #[.slice none 0 0, .slice none 0 0] 55) = w2 := ⟨_, rfl⟩
    have hb2 : w2.heap[B]? = some (.cells #[.slice none 0 0, .slice none 0 0] 55 (0, 0)) := by rw [← hal2, ← hB]; exact heap_alloc_new _ _
    have hk2 : Keeps Free w1 w2 := by rw [← hal2]; exact (Keeps.refl _ w1).alloc _
    obtain ⟨w3, hw3, hb3, hk3⟩ := put2 (v0 := .slice none 0 0) (v1 := .slice none 0 0) hb2 rfl
    have hr0 := hk2.blk (K1.out.blk HBZ.out)
    have hRB : R ≠ B := by have := laid_lt (K1.out.blk HBZ.out); omega
    have hr2 := (hk3.block R (laid_lt hr0) hRB).trans hr0
    obtain ⟨d0, d1, df⟩ := cells2 hb2
    obtain ⟨c0, c1, cf⟩ := cells2 hb3
    obtain ⟨r0, r1, rf⟩ := cells2 hr2
    obtain ⟨wf, hwf, hfb, hfk⟩ := put2 (v0 := .slice none 0 0) (v1 := .slice none 0 0) hr2 rfl
    obtain ⟨z0, z1, zf⟩ := cells2 hfb
    have HFK := Lib.hid hfk; have HK2 := Lib.hid (hk2.trans hk3 fun j e => .inr (by omega))
    clear hb2 hk2 hr2 hfb hfk hb3 hk3 hr0
    go_wp2_with fail
    refine bodyPost_ret (v := .tuple #[.agg #[.slice none 0 0, .slice none 0 0], .int .i64 3]) (by simp [results, Try.results45, go_sem, z0, z1]) rfl ?_
    exact ⟨by rw [HIF.out], ((HKZ.out.trans K1.out fun _ h => .inl h).trans HK2.out fun _ h => .inl h).trans HFK.out fun j e => .inr (by have := HR.out; omega)⟩
  · have hif : cd = 5 := by rw [← HCD.out]; exact if_neg ho
    have HIF := Lib.hid hif
    have hl' : decide (300 < (evs.length : Int)) = true := by have := HBAD.out.resolve_left ho; simp; omega
    obtain ⟨nodes, net, nv, ov⟩ := W
    have hok2 := hok Free (fun k h => h.elim)
    obtain ⟨NA, NC, en1⟩ := hok2.cells.form (nods_len nodes) (by decide)
    obtain ⟨OA, OC, en2⟩ := hok2.msgs.cells.form (mess_len net) (by decide)
    simp only at en1 en2
    subst en1 en2
    clear ho hif hok hok2 hW
    obtain ⟨B, hB⟩ : ∃ B, w1.heap.size = B := ⟨_, rfl⟩
    obtain ⟨w2, hal2⟩ : ∃ w2, w1.alloc (.cells #[.slice NA nodes.length NC, .slice OA net.length OC] 55) = w2 := ⟨_, rfl⟩
    have hk2 : Keeps Free w1 w2 := by rw [← hal2]; exact (Keeps.refl _ w1).alloc _
    have hr2 := hk2.blk (K1.out.blk HBZ.out)
    obtain ⟨r0, r1, rf⟩ := cells2 hr2
    obtain ⟨wf, hwf, hfb, hfk⟩ := put2 (v0 := .slice none 0 0) (v1 := .slice none 0 0) hr2 rfl
    obtain ⟨z0, z1, zf⟩ := cells2 hfb
    have HFK := Lib.hid hfk; have HK2 := Lib.hid hk2
    clear hk2 hr2 hfb hfk
    simp only
    go_wp2_with fail
    refine bodyPost_ret (v := .tuple #[.agg #[.slice none 0 0, .slice none 0 0], .int .i64 5]) (by simp [results, Try.results45, go_sem, z0, z1]) rfl ?_
    exact ⟨by rw [HIF.out], ((HKZ.out.trans K1.out fun _ h => .inl h).trans HK2.out fun _ h => .inl h).trans HFK.out fun j e => .inr (by have := HR.out; omega)⟩

set_option maxRecDepth 100000 in
set_option maxHeartbeats 8000000 in
theorem runR_any {w : World} {Q S : Nat → Prop} {n : Int} {ev : Value} {evs : List Evt} (hev : Sl w S ev 3 (evs.flatMap evtCells)) (hQ : ∀ k, Q k → k < w.heap.size) (hlen : evs.length ≤ 300) (hn : ¬ (n < 1 ∨ 5 < n)) :
    Calls Try.prog 45 #[.int .i64 n, ev] w fun e w' => ∃ W : WldV, e = .returned (.tuple #[.agg #[W.nv, W.ov], .int .i64 0]) ∧ W.w = ran n evs ∧ WldOk w' Q W ∧ Keeps Free w w' := by
  have HEV := Lib.hid hev; have HQ := Lib.hid hQ; have HN := Lib.hid hn
  obtain ⟨A, C, rfl⟩ := hev.form (evts_len evs) (by decide)
  clear hev hQ hn
  obtain ⟨wz, hal⟩ : ∃ wz, w.alloc (.cells #[.slice none 0 0, .slice none 0 0] 55) = wz := ⟨_, rfl⟩
  obtain ⟨R, hR⟩ : ∃ R, w.heap.size = R := ⟨_, rfl⟩
  have hbz : wz.heap[R]? = some (.cells #[.slice none 0 0, .slice none 0 0] 55 (0, 0)) := by rw [← hal, ← hR]; exact heap_alloc_new _ _
  have hkz : Keeps Free w wz := by rw [← hal]; exact (Keeps.refl _ w).alloc _
  have HBZ := Lib.hid hbz; have HKZ := Lib.hid hkz; have HR := Lib.hid hR
  clear hbz hkz
  go_enter Try.func45, Try.ntmps45
  go_wp2_with fail
  refine (startR_any wz n).mono ?_
  rintro e w1 ⟨k1, hr⟩
  have K1 := Lib.hid k1
  clear k1
  rcases hr with ⟨ho, rfl⟩ | ⟨ho, W, rfl, hW, hok⟩
  · exact absurd ho HN.out
  · obtain ⟨nodes, net, nv, ov⟩ := W
    have hok2 := hok (fun k => Q k ∨ k = R) (fun k h => h.elim (fun h => Nat.lt_of_lt_of_le (HQ.out k h) HKZ.out.size) fun h => h ▸ laid_lt HBZ.out)
    obtain ⟨NA, NC, en1⟩ := hok2.cells.form (nods_len nodes) (by decide)
    obtain ⟨OA, OC, en2⟩ := hok2.msgs.cells.form (mess_len net) (by decide)
    simp only at en1 en2
    subst en1 en2
    simp only
    have HW := Lib.hid hW; have HOK := Lib.hid hok2
    clear hW hok hok2 ho
    have hl' : decide (300 < (evs.length : Int)) = false := by simp; omega
    obtain ⟨B, hB⟩ : ∃ B, w1.heap.size = B := ⟨_, rfl⟩
    obtain ⟨w2, hal2⟩ : ∃ w2, w1.alloc (.cells #[.slice NA nodes.length NC, .slice OA net.length OC] 55) = w2 := ⟨_, rfl⟩
    have hb2 : w2.heap[B]? = some (.cells #[.slice NA nodes.length NC, .slice OA net.length OC] 55 (0, 0)) := by rw [← hal2, ← hB]; exact heap_alloc_new _ _
    have hk2 : Keeps Free w1 w2 := by rw [← hal2]; exact (Keeps.refl _ w1).alloc _
    have hRB : R < B := by have := laid_lt (K1.out.blk HBZ.out); omega
    have HB2 := Lib.hid hb2; have HK2 := Lib.hid hk2; have HRB := Lib.hid hRB
    clear hb2 hk2 hRB
    go_wp2_with fail
    go_loopw [25] (fun i wr => ∃ k : Nat, k ≤ evs.length ∧ i = .int .i64 k ∧ RunAt w Q n (evs.take k) B R wr) (fun i _ => evs.length + 1 - (intOf i).toNat)
    case atStart =>
      refine ⟨0, Nat.zero_le _, rfl, ⟨nodes, net, _, _⟩, ?_, HW.out, HB2.out, HK2.out.blk (K1.out.blk HBZ.out), (HKZ.out.trans K1.out fun _ h => .inl h).trans HK2.out fun _ h => .inl h⟩
      exact HOK.out.into HK2.out (fun _ _ h => h.elim) fun k hk h => h.elim .inl fun e => e.elim (fun e => by omega) .inr
    case round =>
      obtain ⟨k, hk, rfl, W, i1, i2, i3, i4, i5⟩ := hrel
      obtain ⟨nd, nt, nv, ov⟩ := W
      obtain ⟨NA', NC', en1⟩ := i1.cells.form (nods_len nd) (by decide)
      obtain ⟨OA', OC', en2⟩ := i1.msgs.cells.form (mess_len nt) (by decide)
      simp only at en1 en2
      subst en1 en2
      obtain ⟨b0, b1, bf⟩ := cells2 i3
      obtain ⟨r0, r1, rf⟩ := cells2 i4
      have I1 := Lib.hid i1; have I2 := Lib.hid i2; have I3 := Lib.hid i3; have I4 := Lib.hid i4; have I5 := Lib.hid i5
      clear i1 i2 i3 i4 i5
      by_cases hlt : k < evs.length
      · obtain ⟨be, off, rfl, e0, e1, e2⟩ := (HEV.out.into (S' := S) I5.out (fun _ _ h => h.elim) fun _ _ h => h).evt hlt
        have hlens := (ran_sound HN.out (evs.take k)).lens HN.out
        rw [← I2.out] at hlens
        have hst : ∀ w4, Keeps Free wr w4 → _ := fun w4 hk4 => stepR_any (w := w4) (Q := fun k => Q k ∨ k = B ∨ k = R) (ev := evs[k]) (n := n) (I1.out.into hk4 (fun _ _ h => h.elim) fun _ _ h => h) (fun k h => Nat.lt_of_lt_of_le (h.elim (fun h => Nat.lt_of_lt_of_le (HQ.out k h) I5.out.size) fun h => h.elim (fun h => h ▸ laid_lt I3.out) fun h => h ▸ laid_lt I4.out) hk4.size) (by rw [I2.out]; exact ran_sound HN.out _) HN.out (fun m hm => by have h1 := ran_small n (evs.take k) m.m (by rw [← I2.out]; exact List.mem_map_of_mem hm); omega)
        have HST := Lib.hid hst
        have htk : evs.take (k + 1) = evs.take k ++ [evs[k]] := List.take_succ_eq_append_getElem hlt
        have HTK := Lib.hid htk
        clear hst hlens htk
        generalize evs[k] = evk at *
        obtain ⟨ek, en, ep⟩ := evk
        simp only at e0 e1 e2
        obtain ⟨w4, hal4⟩ : ∃ w4, wr.alloc (.cells #[.int .i64 ek, .int .i64 en, .int .i64 ep] 63) = w4 := ⟨_, rfl⟩
        have hk4 : Keeps Free wr w4 := by rw [← hal4]; exact (Keeps.refl _ wr).alloc _
        have hb4 : w4.heap[wr.heap.size]? = some (.cells #[.int .i64 ek, .int .i64 en, .int .i64 ep] 63 (0, 0)) := by rw [← hal4]; exact heap_alloc_new _ _
        obtain ⟨g0, g1, g2, gf⟩ := cells3 hb4
        obtain ⟨x0, x1, xf⟩ := cells2 (hk4.blk I3.out)
        have hst4 := HST.out w4 hk4
        simp only at hst4
        have HST4 := Lib.hid hst4; have HK4 := Lib.hid hk4
        clear hst4 hk4 hb4
        go_wp2_with fail
        refine HST4.out.mono ?_
        rintro e w5 ⟨W5, rfl, h51, h52, k5⟩
        obtain ⟨nd5, nt5, nv5, ov5⟩ := W5
        have H51 := Lib.hid h51; have H52 := Lib.hid h52
        obtain ⟨NA5, NC5, en1⟩ := h52.cells.form (nods_len nd5) (by decide)
        obtain ⟨OA5, OC5, en2⟩ := h52.msgs.cells.form (mess_len nt5) (by decide)
        simp only at en1 en2
        subst en1 en2
        have hb5 := k5.blk (HK4.out.blk I3.out)
        obtain ⟨wf, hwf, hfb, hfk⟩ := put2 (v0 := .slice NA5 nd5.length NC5) (v1 := .slice OA5 nt5.length OC5) hb5 rfl
        obtain ⟨d0, d1, df⟩ := cells2 hb5
        have HFB := Lib.hid hfb; have HFK := Lib.hid hfk; have K5 := Lib.hid k5
        clear hfb hfk k5 h51 h52 hb5
        simp only
        go_wp2_with fail
        go_roundw
        case rel =>
          have hkk : Keeps Free wr w5 := HK4.out.trans K5.out fun _ h => .inl h
          refine ⟨k + 1, by omega, by go_num, ⟨nd5, nt5, _, _⟩, H52.out.into HFK.out (fun k _ h => .inr (.inl h)) fun _ _ h => h, ?_, HFB.out, (HFK.out.block R (laid_lt (hkk.blk I4.out)) (by have := HRB.out; omega)).trans (hkk.blk I4.out), (I5.out.trans hkk fun _ h => h.elim).trans HFK.out fun k e => .inr (by have := HRB.out; have := HR.out; omega)⟩
          rw [H51.out, I2.out, HTK.out]
          simp [ran, List.foldl_append]
        case measure => simp [intOf]; omega
      · have hkN : k = evs.length := by omega
        subst hkN
        rw [List.take_length] at I2
        obtain ⟨wf, hwf, hfb, hfk⟩ := put2 (v0 := .slice NA' nd.length NC') (v1 := .slice OA' nt.length OC') I4.out rfl
        obtain ⟨c0, c1, cf⟩ := cells2 hfb
        have HFK := Lib.hid hfk
        clear hfb hfk
        go_wp2_with fail
        refine bodyPost_ret (v := .tuple #[.agg #[.slice NA' nd.length NC', .slice OA' nt.length OC'], .int .i64 0]) (by simp [results, Try.results45, go_sem, c0, c1]) rfl ?_
        exact ⟨⟨nd, nt, _, _⟩, rfl, I2.out, I1.out.into HFK.out (fun k _ h => .inr (.inr h)) fun _ _ h => .inl h, I5.out.trans HFK.out fun k e => .inr (by have := HR.out; omega)⟩
end Go.Proofs.Ytibjbpakbfodaaa
namespace Go.Proofs.Ytibjbpakbfodaaa

/-- The oldest message comes. -/
def dlv : Evt := ⟨4, 0, 0⟩

/-- Messages come as long as there are any, up to so many. -/
def calmN : Nat → Wld → Wld
  | 0, w => w
  | k + 1, w => if w.net.length = 0 then w else calmN k (cstep w dlv)

theorem calmN_none {w : Wld} (h : w.net = []) : ∀ k, calmN k w = w
  | 0 => rfl
  | k + 1 => by unfold calmN; rw [if_pos (by rw [h]; rfl)]

theorem calmN_succ (k : Nat) (w : Wld) : calmN (k + 1) w = if w.net.length = 0 then w else calmN k (cstep w dlv) := rfl

theorem calmN_add : ∀ (a b : Nat) (w : Wld), calmN (a + b) w = calmN b (calmN a w)
  | 0, b, w => by rw [Nat.zero_add]; rfl
  | a + 1, b, w => by
    rw [show a + 1 + b = (a + b) + 1 by omega, calmN_succ, calmN_succ a]
    split
    · rename_i h
      exact (calmN_none (List.eq_nil_of_length_eq_zero h) b).symm
    · exact calmN_add a b _

theorem calmN_sound {n : Int} : ∀ (k : Nat) {w : Wld}, Sound n w → Sound n (calmN k w)
  | 0, _, h => h
  | k + 1, w, h => by
    rw [calmN_succ]
    split
    · exact h
    · exact calmN_sound k (cstep_sound h _)

end Go.Proofs.Ytibjbpakbfodaaa
namespace Go.Proofs.Ytibjbpakbfodaaa
open Go.RowKit

/-- At work: the world lies in block B; so many messages have come. -/
def CalmAt (w : World) (Q : Nat → Prop) (n : Int) (K : Nat) (u : Wld) (B R k : Nat) (wr : World) : Prop :=
  ∃ W, WldOk wr (fun j => Q j ∨ j = B ∨ j = R) W ∧ calmN (K - k) (WldV.w W) = calmN K u ∧ Sound n (WldV.w W) ∧ wr.heap[B]? = some (.cells #[W.nv, W.ov] 55 (0, 0)) ∧ wr.heap[R]? = some (.cells #[.slice none 0 0, .slice none 0 0] 55 (0, 0)) ∧ Keeps Free w wr

set_option maxRecDepth 100000 in
set_option maxHeartbeats 8000000 in
theorem clCalm_any {w : World} {Q : Nat → Prop} {W : WldV} {n : Int} (most : Int) (hstp : StepSays) (hok : WldOk w Q W) (hQ : ∀ k, Q k → k < w.heap.size) (hs : Sound n W.w) (hn : ¬ (n < 1 ∨ 5 < n)) :
    Calls Try.prog 49 #[.agg #[W.nv, W.ov], .int .i64 most] w fun e w' => ∃ W' : WldV, e = .returned (.agg #[W'.nv, W'.ov]) ∧ W'.w = calmN (min most 300).toNat W.w ∧ WldOk w' Q W' ∧ Keeps Free w w' := by
  have HSTP := Lib.hid hstp; have HQ := Lib.hid hQ; have HN := Lib.hid hn
  obtain ⟨nodes, net, nv, ov⟩ := W
  obtain ⟨NA, NC, en1⟩ := hok.cells.form (nods_len nodes) (by decide)
  obtain ⟨OA, OC, en2⟩ := hok.msgs.cells.form (mess_len net) (by decide)
  simp only at en1 en2
  subst en1 en2
  simp only
  have HOK := Lib.hid hok; have HS := Lib.hid hs
  clear hstp hQ hn hok hs
  obtain ⟨K, hK⟩ : ∃ K, (min most 300).toNat = K := ⟨_, rfl⟩
  have hK3 : K ≤ 300 := by omega
  obtain ⟨k0, k1, k2⟩ := two_boxes w (.cells #[.slice NA nodes.length NC, .slice OA net.length OC] 55) (.cells #[.slice none 0 0, .slice none 0 0] 55)
  obtain ⟨w2, hw2⟩ : ∃ w2, (w.alloc (.cells #[.slice NA nodes.length NC, .slice OA net.length OC] 55)).alloc (.cells #[.slice none 0 0, .slice none 0 0] 55) = w2 := ⟨_, rfl⟩
  rw [hw2] at k0 k1 k2
  obtain ⟨B, hB⟩ : ∃ B, w.heap.size = B := ⟨_, rfl⟩
  rw [hB] at k1 k2
  obtain ⟨mm, hmm⟩ : ∃ mm : Int, min most 300 = mm := ⟨_, rfl⟩
  have hmm3 : mm ≤ 300 := by omega
  rw [hmm] at hK
  have K2 := Lib.hid k0; have B2 := Lib.hid k1; have R2 := Lib.hid k2; have HB := Lib.hid hB
  obtain ⟨W0, hW0⟩ : ∃ W0, WldV.w ⟨nodes, net, .slice NA nodes.length NC, .slice OA net.length OC⟩ = W0 := ⟨_, rfl⟩
  have HS0 := Lib.hid (hW0 ▸ HS.out : Sound n W0)
  have HW0 := Lib.hid hW0
  rw [hmm, hW0]
  clear k0 k1 k2
  go_enter Try.func49, Try.ntmps49
  go_upto_region 1 with fail
  clear hw2 hB hW0
  obtain ⟨d0, d1, df⟩ := cells2 B2.out
  go_wp2_with fail
  go_loopw [7] (fun i wr => ∃ k : Nat, k ≤ K ∧ i = .int .i64 k ∧ CalmAt w Q n K W0 B (B + 1) k wr) (fun i _ => K + 1 - (intOf i).toNat)
  case atStart =>
    refine ⟨0, Nat.zero_le _, rfl, ⟨nodes, net, .slice NA nodes.length NC, .slice OA net.length OC⟩, ?_, by rw [HW0.out]; rfl, HS.out, B2.out, R2.out, K2.out⟩
    exact HOK.out.into K2.out (fun _ _ h => h.elim) fun k hk h => h.elim id fun e => by have := HB.out; omega
  case round =>
    obtain ⟨k, hk, rfl, W, i1, i2, i6, i3, i4, i5⟩ := hrel
    obtain ⟨nd, nt, nv, ov⟩ := W
    obtain ⟨NA', NC', en1⟩ := i1.cells.form (nods_len nd) (by decide)
    obtain ⟨OA', OC', en2⟩ := i1.msgs.cells.form (mess_len nt) (by decide)
    simp only at en1 en2
    subst en1 en2
    clear d0 d1 df
    obtain ⟨b0, b1, bf⟩ := cells2 i3
    obtain ⟨r0, r1, rf⟩ := cells2 i4
    have I1 := Lib.hid i1; have I2 := Lib.hid i2; have I3 := Lib.hid i3; have I4 := Lib.hid i4; have I5 := Lib.hid i5; have I6 := Lib.hid i6
    clear i1 i2 i3 i4 i5 i6
    by_cases hlt : k < K
    · have hlt' : decide ((k : Int) < mm) = true := by simp; omega
      by_cases hnt : nt.length = 0
      · have HFIN := Lib.hid (show (WldV.w ⟨nd, nt, .slice NA' nd.length NC', .slice OA' nt.length OC'⟩) = calmN K W0 by
          rw [← I2.out, calmN_none]
          exact List.eq_nil_of_length_eq_zero (by simp [WldV.w, said, hnt]))
        have hz : ((nt.length : Int) == 0) = true := by rw [hnt]; rfl
        clear hnt
        obtain ⟨wf, hwf, hfb, hfk⟩ := put2 (v0 := .slice NA' nd.length NC') (v1 := .slice OA' nt.length OC') I4.out rfl
        obtain ⟨c0, c1, cf⟩ := cells2 hfb
        have HFK := Lib.hid hfk
        clear hfb hfk
        go_wp2_with fail
        refine bodyPost_ret (v := .agg #[.slice NA' nd.length NC', .slice OA' nt.length OC']) (by simp [results, Try.results49, go_sem, c0, c1]) rfl ?_
        exact ⟨⟨nd, nt, _, _⟩, rfl, HFIN.out, I1.out.into HFK.out (fun k _ h => .inr (.inr h)) fun _ _ h => .inl h, I5.out.trans HFK.out fun k e => .inr (by have := HB.out; omega)⟩
      · have hz : ((nt.length : Int) == 0) = false := by rw [beq_eq_false_iff_ne]; omega
        have hlens := I6.out.lens HN.out
        have hst := HSTP.out wr (fun j => Q j ∨ j = B ∨ j = B + 1) _ dlv I1.out (fun k h => h.elim (fun h => Nat.lt_of_lt_of_le (HQ.out k h) I5.out.size) fun h => h.elim (fun h => h ▸ laid_lt I3.out) fun h => h ▸ laid_lt I4.out) (by have := hlens.1; simpa [WldV.w] using this) (by have := hlens.2; simpa [WldV.w, said] using this)
        have HFIN := Lib.hid (show calmN (K - (k + 1)) (cstep (WldV.w ⟨nd, nt, .slice NA' nd.length NC', .slice OA' nt.length OC'⟩) dlv) = calmN K W0 by
          rw [← I2.out, show K - k = (K - (k + 1)) + 1 by omega, calmN_succ, if_neg (by simp [WldV.w, said]; intro e; rw [e] at hnt; exact hnt rfl)])
        have HSN := Lib.hid (cstep_sound I6.out dlv)
        simp only [dlv] at hst
        have HST := Lib.hid hst
        clear hst hlens hnt
        go_wp2_with fail
        refine HST.out.mono ?_
        rintro e w5 ⟨W5, rfl, h51, h52, k5⟩
        obtain ⟨nd5, nt5, nv5, ov5⟩ := W5
        have H51 := Lib.hid h51; have H52 := Lib.hid h52
        obtain ⟨NA5, NC5, en1⟩ := h52.cells.form (nods_len nd5) (by decide)
        obtain ⟨OA5, OC5, en2⟩ := h52.msgs.cells.form (mess_len nt5) (by decide)
        simp only at en1 en2
        subst en1 en2
        have hb5 := k5.blk I3.out
        obtain ⟨wf, hwf, hfb, hfk⟩ := put2 (v0 := .slice NA5 nd5.length NC5) (v1 := .slice OA5 nt5.length OC5) hb5 rfl
        obtain ⟨d0, d1, df⟩ := cells2 hb5
        have HFB := Lib.hid hfb; have HFK := Lib.hid hfk; have K5 := Lib.hid k5
        clear hfb hfk k5 h51 h52 hb5 b0 b1 bf r0 r1 rf
        simp only
        go_wp2_with fail
        go_roundw
        case rel =>
          refine ⟨k + 1, by omega, by go_num, ⟨nd5, nt5, _, _⟩, H52.out.into HFK.out (fun k _ h => .inr (.inl h)) fun _ _ h => h, ?_, ?_, HFB.out, (HFK.out.block (B + 1) (laid_lt (K5.out.blk I4.out)) (by omega)).trans (K5.out.blk I4.out), (I5.out.trans K5.out fun _ h => h.elim).trans HFK.out fun k e => .inr (by have := HB.out; omega)⟩
          · rw [H51.out]; exact HFIN.out
          · rw [H51.out]; exact HSN.out
        case measure => simp [intOf]; omega
    · have hkN : k = K := by omega
      subst hkN
      have hlt' : decide ((k : Int) < mm) = false := by simp; omega
      have HFIN := Lib.hid (show (WldV.w ⟨nd, nt, .slice NA' nd.length NC', .slice OA' nt.length OC'⟩) = calmN k W0 by
        have := I2.out
        rw [Nat.sub_self] at this
        exact this)
      obtain ⟨wf, hwf, hfb, hfk⟩ := put2 (v0 := .slice NA' nd.length NC') (v1 := .slice OA' nt.length OC') I4.out rfl
      obtain ⟨c0, c1, cf⟩ := cells2 hfb
      have HFK := Lib.hid hfk
      clear hfb hfk
      go_wp2_with fail
      refine bodyPost_ret (v := .agg #[.slice NA' nd.length NC', .slice OA' nt.length OC']) (by simp [results, Try.results49, go_sem, c0, c1]) rfl ?_
      exact ⟨⟨nd, nt, _, _⟩, rfl, HFIN.out, I1.out.into HFK.out (fun k _ h => .inr (.inr h)) fun _ _ h => .inl h, I5.out.trans HFK.out fun k e => .inr (by have := HB.out; omega)⟩
end Go.Proofs.Ytibjbpakbfodaaa
namespace Go.Proofs.Ytibjbpakbfodaaa
open Go.RowKit

/-- At work: the world lies in block B; so many messages have come. -/
def CalmRAt (w : World) (Q : Nat → Prop) (n : Int) (K : Nat) (u : Wld) (B R k : Nat) (wr : World) : Prop :=
  ∃ W, WldOk wr (fun j => Q j ∨ j = B ∨ j = R) W ∧ calmN (K - k) (WldV.w W) = calmN K u ∧ Sound n (WldV.w W) ∧ wr.heap[B]? = some (.cells #[W.nv, W.ov] 55 (0, 0)) ∧ wr.heap[R]? = some (.cells #[.slice none 0 0, .slice none 0 0] 55 (0, 0)) ∧ Keeps Free w wr ∧ Small (WldV.w W)

set_option maxRecDepth 100000 in
set_option maxHeartbeats 8000000 in
theorem calmR_any {w : World} {Q : Nat → Prop} {W : WldV} {n : Int} (most : Int) (hok : WldOk w Q W) (hQ : ∀ k, Q k → k < w.heap.size) (hs : Sound n W.w) (hn : ¬ (n < 1 ∨ 5 < n)) (hsm : Small W.w) :
    Calls Try.prog 50 #[.agg #[W.nv, W.ov], .int .i64 most] w fun e w' => ∃ W' : WldV, e = .returned (.agg #[W'.nv, W'.ov]) ∧ W'.w = calmN (min most 300).toNat W.w ∧ WldOk w' Q W' ∧ Keeps Free w w' := by
  have HQ := Lib.hid hQ; have HN := Lib.hid hn
  obtain ⟨nodes, net, nv, ov⟩ := W
  obtain ⟨NA, NC, en1⟩ := hok.cells.form (nods_len nodes) (by decide)
  obtain ⟨OA, OC, en2⟩ := hok.msgs.cells.form (mess_len net) (by decide)
  simp only at en1 en2
  subst en1 en2
  simp only
  have HOK := Lib.hid hok; have HS := Lib.hid hs; have HSM := Lib.hid hsm
  clear hQ hn hok hs hsm
  obtain ⟨K, hK⟩ : ∃ K, (min most 300).toNat = K := ⟨_, rfl⟩
  have HK := Lib.hid hK
  obtain ⟨k0, k1, k2⟩ := two_boxes w (.cells #[.slice NA nodes.length NC, .slice OA net.length OC] 55) (.cells #[.slice none 0 0, .slice none 0 0] 55)
  obtain ⟨w2, hw2⟩ : ∃ w2, (w.alloc (.cells #[.slice NA nodes.length NC, .slice OA net.length OC] 55)).alloc (.cells #[.slice none 0 0, .slice none 0 0] 55) = w2 := ⟨_, rfl⟩
  rw [hw2] at k0 k1 k2
  obtain ⟨B, hB⟩ : ∃ B, w.heap.size = B := ⟨_, rfl⟩
  rw [hB] at k1 k2
  have K2 := Lib.hid k0; have B2 := Lib.hid k1; have R2 := Lib.hid k2; have HB := Lib.hid hB
  obtain ⟨W0, hW0⟩ : ∃ W0, WldV.w ⟨nodes, net, .slice NA nodes.length NC, .slice OA net.length OC⟩ = W0 := ⟨_, rfl⟩
  have HW0 := Lib.hid hW0
  rw [hK, hW0]
  clear k0 k1 k2 hK
  go_enter Try.func50, Try.ntmps50
  go_upto_region 1 with fail
  clear hw2 hB hW0
  obtain ⟨d0, d1, df⟩ := cells2 B2.out
  go_wp2_with fail
  go_loopw [5] (fun i wr => ∃ ki : Int, 0 ≤ ki ∧ ki.toNat ≤ K ∧ i = .int .i64 ki ∧ CalmRAt w Q n K W0 B (B + 1) ki.toNat wr) (fun i _ => K + 1 - (intOf i).toNat)
  case atStart =>
    refine ⟨0, Int.le_refl _, by omega, rfl, ⟨nodes, net, .slice NA nodes.length NC, .slice OA net.length OC⟩, ?_, by rw [HW0.out]; rfl, HS.out, B2.out, R2.out, K2.out, HSM.out⟩
    exact HOK.out.into K2.out (fun _ _ h => h.elim) fun k hk h => h.elim id fun e => by have := HB.out; omega
  case round =>
    obtain ⟨ki, hk0, hk, rfl, W, i1, i2, i6, i3, i4, i5, i7⟩ := hrel
    obtain ⟨nd, nt, nv, ov⟩ := W
    obtain ⟨NA', NC', en1⟩ := i1.cells.form (nods_len nd) (by decide)
    obtain ⟨OA', OC', en2⟩ := i1.msgs.cells.form (mess_len nt) (by decide)
    simp only at en1 en2
    subst en1 en2
    clear d0 d1 df
    obtain ⟨b0, b1, bf⟩ := cells2 i3
    obtain ⟨r0, r1, rf⟩ := cells2 i4
    have I1 := Lib.hid i1; have I2 := Lib.hid i2; have I3 := Lib.hid i3; have I4 := Lib.hid i4; have I5 := Lib.hid i5; have I6 := Lib.hid i6; have I7 := Lib.hid i7
    clear i1 i2 i3 i4 i5 i6 i7
    by_cases hlt : ki < most ∧ ki < 300
    · have hlt1 : decide (ki < most) = true := by simp; omega
      have hlt2 : decide (ki < 300) = true := by simp; omega
      have hkK : ki.toNat + 1 ≤ K := by have := HK.out; omega
      have hk3 : ki < 300 := hlt.2
      clear hlt
      by_cases hnt : nt.length = 0
      · have HFIN := Lib.hid (show (WldV.w ⟨nd, nt, .slice NA' nd.length NC', .slice OA' nt.length OC'⟩) = calmN K W0 by
          rw [← I2.out, calmN_none]
          exact List.eq_nil_of_length_eq_zero (by simp [WldV.w, said, hnt]))
        have hz : decide (0 < (nt.length : Int)) = false := by rw [hnt]; rfl
        have hz' : decide (0 < nt.length) = false := by rw [hnt]; rfl
        clear hnt
        obtain ⟨wf, hwf, hfb, hfk⟩ := put2 (v0 := .slice NA' nd.length NC') (v1 := .slice OA' nt.length OC') I4.out rfl
        obtain ⟨c0, c1, cf⟩ := cells2 hfb
        have HFK := Lib.hid hfk
        clear hfb hfk
        go_wp2_with fail
        refine bodyPost_ret (v := .agg #[.slice NA' nd.length NC', .slice OA' nt.length OC']) (by simp [results, Try.results50, go_sem, c0, c1]) rfl ?_
        exact ⟨⟨nd, nt, _, _⟩, rfl, HFIN.out, I1.out.into HFK.out (fun k _ h => .inr (.inr h)) fun _ _ h => .inl h, I5.out.trans HFK.out fun k e => .inr (by have := HB.out; omega)⟩
      · have hz : decide (0 < (nt.length : Int)) = true := by simp; omega
        have hz' : decide (0 < nt.length) = true := by simp; omega
        have hst := stepR_any (w := wr) (Q := fun j => Q j ∨ j = B ∨ j = B + 1) (ev := dlv) I1.out (fun k h => h.elim (fun h => Nat.lt_of_lt_of_le (HQ.out k h) I5.out.size) fun h => h.elim (fun h => h ▸ laid_lt I3.out) fun h => h ▸ laid_lt I4.out) I6.out HN.out (fun m hm => by have h1 := I7.out m.m (List.mem_map_of_mem hm); omega)
        have HFIN := Lib.hid (show calmN (K - (ki + 1).toNat) (cstep (WldV.w ⟨nd, nt, .slice NA' nd.length NC', .slice OA' nt.length OC'⟩) dlv) = calmN K W0 by
          rw [← I2.out, show K - ki.toNat = (K - (ki + 1).toNat) + 1 by omega, calmN_succ, if_neg (by simp [WldV.w, said]; intro e; rw [e] at hnt; exact hnt rfl)])
        have HSN := Lib.hid (cstep_sound I6.out dlv); have HS7 := Lib.hid (I7.out.step dlv)
        simp only [dlv] at hst
        have HST := Lib.hid hst
        have hwk : IntKind.i64.wrap (ki + 1) = ki + 1 := IntWalk.i64_in _ (by omega)
        clear hst hnt
        go_wp2_with fail
        refine HST.out.mono ?_
        rintro e w5 ⟨W5, rfl, h51, h52, k5⟩
        obtain ⟨nd5, nt5, nv5, ov5⟩ := W5
        have H51 := Lib.hid h51; have H52 := Lib.hid h52
        obtain ⟨NA5, NC5, en1⟩ := h52.cells.form (nods_len nd5) (by decide)
        obtain ⟨OA5, OC5, en2⟩ := h52.msgs.cells.form (mess_len nt5) (by decide)
        simp only at en1 en2
        subst en1 en2
        have hb5 := k5.blk I3.out
        obtain ⟨wf, hwf, hfb, hfk⟩ := put2 (v0 := .slice NA5 nd5.length NC5) (v1 := .slice OA5 nt5.length OC5) hb5 rfl
        obtain ⟨d0, d1, df⟩ := cells2 hb5
        have HFB := Lib.hid hfb; have HFK := Lib.hid hfk; have K5 := Lib.hid k5
        clear hfb hfk k5 h51 h52 hb5 b0 b1 bf r0 r1 rf
        simp only
        go_wp2_with fail
        go_roundw
        case rel =>
          refine ⟨ki + 1, by omega, by omega, rfl, ⟨nd5, nt5, _, _⟩, H52.out.into HFK.out (fun k _ h => .inr (.inl h)) fun _ _ h => h, ?_, ?_, HFB.out, (HFK.out.block (B + 1) (laid_lt (K5.out.blk I4.out)) (by omega)).trans (K5.out.blk I4.out), (I5.out.trans K5.out fun _ h => h.elim).trans HFK.out fun k e => .inr (by have := HB.out; omega), ?_⟩
          · rw [H51.out]; exact HFIN.out
          · rw [H51.out]; exact HSN.out
          · rw [H51.out]; exact HS7.out
        case measure => simp [intOf]; omega
    · have HFIN := Lib.hid (show (WldV.w ⟨nd, nt, .slice NA' nd.length NC', .slice OA' nt.length OC'⟩) = calmN K W0 by
        have := I2.out
        rw [show K - ki.toNat = 0 by have := HK.out; omega] at this
        exact this)
      by_cases h1 : ki < most
      · have hlt1 : decide (ki < most) = true := by simp; omega
        have hlt2 : decide (ki < 300) = false := by simp; omega
        clear hlt h1
        obtain ⟨wf, hwf, hfb, hfk⟩ := put2 (v0 := .slice NA' nd.length NC') (v1 := .slice OA' nt.length OC') I4.out rfl
        obtain ⟨c0, c1, cf⟩ := cells2 hfb
        have HFK := Lib.hid hfk
        clear hfb hfk
        go_wp2_with fail
        refine bodyPost_ret (v := .agg #[.slice NA' nd.length NC', .slice OA' nt.length OC']) (by simp [results, Try.results50, go_sem, c0, c1]) rfl ?_
        exact ⟨⟨nd, nt, _, _⟩, rfl, HFIN.out, I1.out.into HFK.out (fun k _ h => .inr (.inr h)) fun _ _ h => .inl h, I5.out.trans HFK.out fun k e => .inr (by have := HB.out; omega)⟩
      · have hlt1 : decide (ki < most) = false := by simp; omega
        clear hlt h1
        obtain ⟨wf, hwf, hfb, hfk⟩ := put2 (v0 := .slice NA' nd.length NC') (v1 := .slice OA' nt.length OC') I4.out rfl
        obtain ⟨c0, c1, cf⟩ := cells2 hfb
        have HFK := Lib.hid hfk
        clear hfb hfk
        go_wp2_with fail
        refine bodyPost_ret (v := .agg #[.slice NA' nd.length NC', .slice OA' nt.length OC']) (by simp [results, Try.results50, go_sem, c0, c1]) rfl ?_
        exact ⟨⟨nd, nt, _, _⟩, rfl, HFIN.out, I1.out.into HFK.out (fun k _ h => .inr (.inr h)) fun _ _ h => .inl h, I5.out.trans HFK.out fun k e => .inr (by have := HB.out; omega)⟩
end Go.Proofs.Ytibjbpakbfodaaa
namespace Go.Proofs.Ytibjbpakbfodaaa
open Go.RowKit

set_option maxRecDepth 100000 in
set_option maxHeartbeats 8000000 in
theorem sameW_any {w : World} {W W' : WldV} {n : Int} (h : WldOk w Free W) (h' : WldOk w Free W') (he : W'.w = W.w) (hs : Sound n W.w) (hn : n ≤ 5) (hsm : Small W.w) :
    Calls Try.prog 46 #[.agg #[W.nv, W.ov], .agg #[W'.nv, W'.ov]] w fun e w' => e = .returned (.bool true) ∧ Keeps Free w w' := by
  obtain ⟨nodes, net, nv, ov⟩ := W
  obtain ⟨nodes', net', nv', ov'⟩ := W'
  have hen : nodes'.map NodV.n = nodes.map NodV.n := congrArg Wld.nodes he
  have hem : said net' = said net := congrArg Wld.net he
  have hll : nodes'.length = nodes.length := by have := congrArg List.length hen; simpa using this
  obtain ⟨NA, NC, en1⟩ := h.cells.form (nods_len nodes) (by decide)
  obtain ⟨OA, OC, en2⟩ := h.msgs.cells.form (mess_len net) (by decide)
  obtain ⟨NA', NC', en3⟩ := h'.cells.form (nods_len nodes') (by decide)
  obtain ⟨OA', OC', en4⟩ := h'.msgs.cells.form (mess_len net') (by decide)
  simp only at en1 en2 en3 en4
  subst en1 en2 en3 en4
  have hnl : nodes.length ≤ 5 := by have := hs.len; simp only [WldV.w, List.length_map] at this; omega
  have hml : net.length ≤ 60 := by have := hs.net; simpa [WldV.w, said] using this
  have HSM := Lib.hid (fun (w1 : World) (hk : Keeps Free w w1) => sameMsgs_any (h.msgs.into (S' := Free) hk (fun _ _ h => h.elim) (fun _ _ h => h.elim)) (h'.msgs.into (S' := Free) hk (fun _ _ h => h.elim) (fun _ _ h => h.elim)) hem (by simp only; omega) (fun m hm => by have := hsm m.m (List.mem_map_of_mem hm); omega))
  have HSN := Lib.hid (fun (w1 : World) (hk : Keeps Free w w1) (i : Nat) (hi : i < nodes.length) (hi' : i < nodes'.length) => by
    have hg : Good nodes[i].n := by have := hs.good i (by simpa [WldV.w] using hi); simpa [WldV.w] using this
    have hsz := sized_good hg
    exact sameNode_any (w := w1) (x := nodes[i]) (y := nodes'[i]) ((h.each _ (List.getElem_mem hi)).into hk (fun _ _ h => h.elim) (fun _ _ h => h.elim)) ((h'.each _ (List.getElem_mem hi')).into hk (fun _ _ h => h.elim) (fun _ _ h => h.elim)) (by
      have := congrArg (fun l => l[i]?) hen
      simp only [List.getElem?_map, List.getElem?_eq_getElem hi, List.getElem?_eq_getElem hi', Option.map_some] at this
      exact Option.some.inj this) hsz.log hsz.votes hsz.next hsz.mtch)
  have H := Lib.hid h; have H' := Lib.hid h'
  have HLL := Lib.hid hll
  clear h h' he hs hsm hen hem
  obtain ⟨k0, k1, k2⟩ := two_boxes w (.cells #[.slice NA nodes.length NC, .slice OA net.length OC] 55) (.cells #[.slice NA' nodes'.length NC', .slice OA' net'.length OC'] 55)
  obtain ⟨w2, hw2⟩ : ∃ w2, (w.alloc (.cells #[.slice NA nodes.length NC, .slice OA net.length OC] 55)).alloc (.cells #[.slice NA' nodes'.length NC', .slice OA' net'.length OC'] 55) = w2 := ⟨_, rfl⟩
  rw [hw2] at k0 k1 k2
  obtain ⟨B, hB⟩ : ∃ B, w.heap.size = B := ⟨_, rfl⟩
  rw [hB] at k1 k2
  have K2 := Lib.hid k0; have HA2 := Lib.hid k1; have HB2 := Lib.hid k2
  have hq : ((nodes.length : Int) != (nodes'.length : Int)) = false := by rw [hll]; simp
  clear hll
  obtain ⟨c0, c1, cf⟩ := cells2 k1
  obtain ⟨d0, d1, df⟩ := cells2 k2
  clear k0 k1 k2
  go_enter Try.func46, Try.ntmps46
  go_upto_region 3 with (first
    | (go_at_call 23
       refine (HSM.out _ K2.out).mono ?_
       rintro e w3 ⟨rfl, hk3⟩
       have HK3 := Lib.hid hk3
       clear hk3 HSM))
  clear hw2 hB c0 c1 cf d0 d1 df hq
  have HRA := Lib.hid (HK3.out.blk HA2.out); have HRB := Lib.hid (HK3.out.blk HB2.out); have K3 := Lib.hid (K2.out.trans HK3.out (fun _ h => .inl h))
  clear HA2 HB2 HK3 K2
  obtain ⟨c0, c1, cf⟩ := cells2 HRA.out
  go_wp2_with fail
  clear c0 c1 cf
  go_loopw [24] (fun i wr => ∃ k : Nat, k ≤ nodes.length ∧ i = .int .i64 k ∧ Keeps Free w3 wr) (fun i _ => 10 - (intOf i).toNat)
  case atStart => exact ⟨0, Nat.zero_le _, rfl, Keeps.refl _ _⟩
  case round =>
    obtain ⟨k, hk, rfl, hkr⟩ := hrel
    have HKR := Lib.hid hkr
    clear hkr
    by_cases hlt : k < nodes.length
    · have hlt' : k < nodes'.length := by have := HLL.out; omega
      have K4 := Lib.hid (K3.out.trans HKR.out (fun _ h => .inl h))
      obtain ⟨b, off, x, LA, LC, VA, VC, MA, MC, PA, PC, rfl, hxk, -, r0, r1, r2, r3, r4, r5, r6, r7, r8, r9, r10⟩ := nod_at (H.out.cells.into (S' := Free) K4.out (fun _ _ h => h.elim) (fun _ _ h => h)) (fun x hx => (H.out.each x hx).into K4.out (fun _ _ h => h.elim) (fun _ _ h => h)) hlt
      obtain ⟨b', off', x', LA', LC', VA', VC', MA', MC', PA', PC', rfl, hxk', -, s0, s1, s2, s3, s4, s5, s6, s7, s8, s9, s10⟩ := nod_at (H'.out.cells.into (S' := Free) K4.out (fun _ _ h => h.elim) (fun _ _ h => h)) (fun x hx => (H'.out.each x hx).into K4.out (fun _ _ h => h.elim) (fun _ _ h => h)) hlt'
      have hcs := fun (w1 : World) (hk1 : Keeps Free w w1) => HSN.out w1 hk1 k hlt hlt'
      rw [hxk, hxk'] at hcs
      simp only [nodCells] at hcs
      have HCS := Lib.hid hcs
      have HA4 := Lib.hid (HKR.out.blk HRA.out); have HB4 := Lib.hid (HKR.out.blk HRB.out)
      clear hcs hxk hxk'
      go_upto_region 6 with fail
      refine Wf.wp_region_first (C := fun w' => Keeps Free wr w') (by kernel_rfl) 99 ?_
      have HKW := Lib.hid (show Keeps Free wr { wr with drawn := wr.drawn + 1 } from (Keeps.refl Free wr).drew)
      obtain ⟨W, hW⟩ : ∃ W : World, W = { wr with drawn := wr.drawn + 1 } := ⟨_, rfl⟩
      rw [← hW] at HKW ⊢
      clear hW
      apply Wf.wpAnyP_stays (by kernel_rfl) [0, 1, 2, 3, 4, 5, 6, 7, 8, 9] _ _ _ 2 _ HKW.out (by kernel_rfl) ?hs ?hr
      case hs =>
        apply Wf.wpStays_step rfl rfl
        · intro w' hw'
          clear hw'
          go_simp
          exact ⟨rfl, rfl⟩
        go_simp
        apply Wf.wpStays_step rfl rfl
        · intro w' hw'
          obtain ⟨e0, e1, ef⟩ := cells2 (Keeps.blk hw' HA4.out)
          clear hw'
          go_simp
          exact ⟨rfl, rfl⟩
        go_simp
        apply Wf.wpStays_step rfl rfl
        · intro w' hw'
          clear hw'
          go_simp
          exact ⟨rfl, rfl⟩
        go_simp
        apply Wf.wpStays_step rfl rfl
        · intro w' hw'
          clear hw'
          go_simp
          exact ⟨rfl, rfl⟩
        go_simp
        apply Wf.wpStays_step rfl rfl
        · intro w' hw'
          have n0 := Keeps.cell hw' (fun h => h) r0
          have n1 := Keeps.cell hw' (fun h => h) r1
          have n2 := Keeps.cell hw' (fun h => h) r2
          have n3 := Keeps.cell hw' (fun h => h) r3
          have n4 := Keeps.cell hw' (fun h => h) r4
          have n5 := Keeps.cell hw' (fun h => h) r5
          have n6 := Keeps.cell hw' (fun h => h) r6
          have n7 := Keeps.cell hw' (fun h => h) r7
          have n8 := Keeps.cell hw' (fun h => h) r8
          have n9 := Keeps.cell hw' (fun h => h) r9
          have n10 := Keeps.cell hw' (fun h => h) r10
          clear hw'
          go_simp
          exact ⟨rfl, rfl⟩
        go_simp
        apply Wf.wpStays_step rfl rfl
        · intro w' hw'
          clear hw'
          go_simp
          exact ⟨rfl, rfl⟩
        go_simp
        apply Wf.wpStays_step rfl rfl
        · intro w' hw'
          obtain ⟨e0, e1, ef⟩ := cells2 (Keeps.blk hw' HB4.out)
          clear hw'
          go_simp
          exact ⟨rfl, rfl⟩
        go_simp
        apply Wf.wpStays_step rfl rfl
        · intro w' hw'
          clear hw'
          go_simp
          exact ⟨rfl, rfl⟩
        go_simp
        apply Wf.wpStays_step rfl rfl
        · intro w' hw'
          clear hw'
          go_simp
          exact ⟨rfl, rfl⟩
        go_simp
        apply Wf.wpStays_step rfl rfl
        · intro w' hw'
          have n0 := Keeps.cell hw' (fun h => h) s0
          have n1 := Keeps.cell hw' (fun h => h) s1
          have n2 := Keeps.cell hw' (fun h => h) s2
          have n3 := Keeps.cell hw' (fun h => h) s3
          have n4 := Keeps.cell hw' (fun h => h) s4
          have n5 := Keeps.cell hw' (fun h => h) s5
          have n6 := Keeps.cell hw' (fun h => h) s6
          have n7 := Keeps.cell hw' (fun h => h) s7
          have n8 := Keeps.cell hw' (fun h => h) s8
          have n9 := Keeps.cell hw' (fun h => h) s9
          have n10 := Keeps.cell hw' (fun h => h) s10
          clear hw'
          go_simp
          exact ⟨rfl, rfl⟩
        go_simp
        exact rfl
      case hr =>
        clear r0 r1 r2 r3 r4 r5 r6 r7 r8 r9 r10 s0 s1 s2 s3 s4 s5 s6 s7 s8 s9 s10
        apply Wf.wpAnyP_one (i := 10) (fuel := 1) (by kernel_rfl) rfl rfl
        go_simp
        refine (HCS.out _ (K4.out.trans HKW.out (fun _ h => .inl h))).mono ?_
        rintro e w5 ⟨rfl, hk5⟩
        have HK5 := Lib.hid (HKW.out.trans hk5 (fun _ h => .inl h))
        clear hk5 HCS
        refine ⟨_, rfl, HK5.out, ?_⟩
        go_simp
        apply Wf.wpAnyP_stays (by kernel_rfl) [11] _ _ _ 0 _ HK5.out (by kernel_rfl) ?hs ?hr
        case hs =>
          apply Wf.wpStays_step rfl rfl
          · intro w' hw'
            clear hw'
            go_simp
            exact ⟨rfl, rfl⟩
          go_simp
          exact rfl
        case hr =>
          refine ⟨by kernel_rfl, ?_⟩
          go_wp2_with fail
          go_roundw
          case rel => exact ⟨k + 1, by omega, by go_num, HKR.out.trans HK5.out (fun _ h => .inl h)⟩
          case measure => simp [intOf]; omega
    · have hlt' : decide ((k : Int) < (nodes.length : Int)) = false := by simp; omega
      go_wp2_with fail
      go_ret
      exact ⟨rfl, K3.out.trans HKR.out (fun _ h => .inl h)⟩
end Go.Proofs.Ytibjbpakbfodaaa
namespace Go.Proofs.Ytibjbpakbfodaaa
open Go.RowKit

theorem calmN_small : ∀ (k : Nat) {w : Wld}, Small w → Small (calmN k w)
  | 0, _, h => h
  | k + 1, w, h => by
    rw [calmN_succ]
    split
    · exact h
    · exact calmN_small k (h.step _)

theorem WldOk.keep {w w' : World} {W : WldV} (h : WldOk w Free W) (hk : Keeps Free w w') : WldOk w' Free W := h.into hk (fun _ _ h => h.elim) (fun _ _ h => h)

set_option maxRecDepth 100000 in
set_option maxHeartbeats 16000000 in
theorem clusterRuns_walk {w : World} {ev : Value} {evs : List Evt} (hstp : StepSays) (n : Int) (hev : Sl w Free ev 3 (evs.flatMap evtCells)) (k nd pk : Int) (most : Int) :
    Calls Try.prog 16 #[.int .i64 n, ev, .agg #[.int .i64 k, .int .i64 nd, .int .i64 pk], .int .i64 most] w fun e w' => e = .returned (.bool true) ∧ Keeps Free w w' := by
  have HSTP := Lib.hid hstp; have HEV := Lib.hid hev
  have hk0 := (Keeps.refl Free w).alloc (.cells #[.int .i64 k, .int .i64 nd, .int .i64 pk] 63)
  have hb0 := heap_alloc_new w (.cells #[.int .i64 k, .int .i64 nd, .int .i64 pk] 63)
  obtain ⟨w1, hal⟩ : ∃ w1, w.alloc (.cells #[.int .i64 k, .int .i64 nd, .int .i64 pk] 63) = w1 := ⟨_, rfl⟩
  obtain ⟨B, hB⟩ : ∃ B, w.heap.size = B := ⟨_, rfl⟩
  rw [hal] at hk0 hb0
  rw [hB] at hb0
  have HK1 := Lib.hid hk0; have HB1 := Lib.hid hb0
  clear hk0 hb0 hstp hev
  by_cases hbad : (n < 1 ∨ 5 < n) ∨ 300 < evs.length
  · have HBAD := Lib.hid hbad
    have hca := fun (w' : World) (hk : Keeps Free w w') => clRunBad_any (w := w') (S := Free) (HEV.out.keep hk (fun _ _ h => h)) hbad
    have hcb := fun (w' : World) (hk : Keeps Free w w') => runRBad_any (w := w') (S := Free) (HEV.out.keep hk (fun _ _ h => h)) hbad
    obtain ⟨cd, hcd⟩ : ∃ cd : Int, (if n < 1 ∨ 5 < n then (3 : Int) else 5) = cd := ⟨_, rfl⟩
    rw [hcd] at hca hcb
    have q1 : (cd != 0) = true := by rw [bne_iff_ne, ← hcd]; split <;> omega
    have q2 : (cd != cd) = false := by simp
    have HCA := Lib.hid hca; have HCB := Lib.hid hcb
    clear hbad hcd hca hcb
    have HSE := Lib.hid (fun (w' : World) => sameW_any (w := w') (W := ⟨[], [], .slice none 0 0, .slice none 0 0⟩) (W' := ⟨[], [], .slice none 0 0, .slice none 0 0⟩) (n := 0)
      ⟨⟨none, 0, 0, rfl, rfl, Nat.le_refl _, by simp [maxLen], fun h => by simp at h⟩, fun x hx => by simp at hx, noMsgs _ _⟩ ⟨⟨none, 0, 0, rfl, rfl, Nat.le_refl _, by simp [maxLen], fun h => by simp at h⟩, fun x hx => by simp at hx, noMsgs _ _⟩ rfl
      ⟨rfl, fun i h => by simp [WldV.w] at h, fun i h => by simp [WldV.w] at h, fun i h => by simp [WldV.w] at h, by simp [WldV.w, said]⟩ (by omega) (fun m hm => by simp [WldV.w, said] at hm))
    go_enter Try.func16, Try.ntmps16
    go_upto_region 1 with fail
    clear hal hB
    have hal2 := fun (w2 : World) (_ : Keeps Free w1 w2) => heap_alloc_new w2 (.cells #[.slice none 0 0, .slice none 0 0] 55)
    have HAL := Lib.hid hal2
    clear hal2
    go_upto_region 2 with (first
      | (go_at_call 44
         refine (HCA.out _ HK1.out).mono ?_
         rintro e w2 ⟨rfl, hk2⟩
         have HK2 := Lib.hid hk2
         obtain ⟨A, hA⟩ : ∃ A, w2.heap.size = A := ⟨_, rfl⟩
         obtain ⟨wa, hwa⟩ : ∃ wa, w2.alloc (.cells #[.slice none 0 0, .slice none 0 0] 55) = wa := ⟨_, rfl⟩
         have hba := HAL.out w2 hk2
         have hka := (Keeps.refl Free w2).alloc (.cells #[.slice none 0 0, .slice none 0 0] 55)
         rw [hwa] at hba hka
         rw [hA] at hba
         obtain ⟨wf, hwf, hfb, hfk⟩ := put2 (v0 := .slice none 0 0) (v1 := .slice none 0 0) hba rfl
         obtain ⟨d0, d1, df⟩ := cells2 hba
         have HKA := Lib.hid (((HK1.out.trans hk2 (fun _ h => .inl h)).trans hka (fun _ h => .inl h)).trans hfk (fun j e => .inr (by have := HK1.out.size; have := hk2.size; omega)))
         have HBA := Lib.hid hfb
         have HKW := Lib.hid ((hk2.trans hka (fun _ h => .inl h)).trans hfk (fun j e => .inr (by have := hk2.size; omega)))
         clear hk2 hba hka hfb hfk HCA))
    clear hA hwa d0 d1 df hwf
    go_upto_region 3 with (first
      | (go_at_call 45
         refine (HCB.out _ HKA.out).mono ?_
         rintro e w3 ⟨rfl, hk3⟩
         obtain ⟨A', hA'⟩ : ∃ A, w3.heap.size = A := ⟨_, rfl⟩
         obtain ⟨wb, hwb⟩ : ∃ wb, w3.alloc (.cells #[.slice none 0 0, .slice none 0 0] 55) = wb := ⟨_, rfl⟩
         have hbb := heap_alloc_new w3 (.cells #[.slice none 0 0, .slice none 0 0] 55)
         have hkb := (Keeps.refl Free w3).alloc (.cells #[.slice none 0 0, .slice none 0 0] 55)
         rw [hwb] at hbb hkb
         rw [hA'] at hbb
         obtain ⟨wg, hwg, hgb, hgk⟩ := put2 (v0 := .slice none 0 0) (v1 := .slice none 0 0) hbb rfl
         obtain ⟨d0, d1, df⟩ := cells2 hbb
         have hkk := (hk3.trans hkb (fun _ h => .inl h)).trans hgk (S := Free) (fun j e => .inr (by have := hk3.size; omega))
         have HKB := Lib.hid (HKA.out.trans hkk (fun _ h => .inl h))
         have HBB := Lib.hid hgb; have HBAB := Lib.hid (hkk.blk HBA.out)
         clear hk3 hbb hkb hgb hgk hkk HCB))
    clear hA' hwb d0 d1 df hwg
    obtain ⟨c0, c1, cf⟩ := cells2 HBAB.out
    obtain ⟨d0, d1, df⟩ := cells2 HBB.out
    go_wp2_with (first
      | (go_at_call 46
         refine (HSE.out _).mono ?_
         rintro e w4 ⟨rfl, hk4⟩
         have HK4 := Lib.hid hk4
         clear hk4 HSE c0 c1 cf d0 d1 df))
    go_ret
    exact ⟨rfl, HKB.out.trans HK4.out (fun _ h => .inl h)⟩
  · have hnn : ¬ (n < 1 ∨ 5 < n) := fun h => hbad (.inl h)
    have hll : evs.length ≤ 300 := by omega
    have HN := Lib.hid hnn
    have HCA := Lib.hid (fun (w' : World) (hk : Keeps Free w w') => clRun_any (w := w') (Q := Free) (S := Free) HSTP.out (HEV.out.keep hk (fun _ _ h => h)) (fun k h => h.elim) hll hnn)
    have HCB := Lib.hid (fun (w' : World) (hk : Keeps Free w w') => runR_any (w := w') (Q := Free) (S := Free) (HEV.out.keep hk (fun _ _ h => h)) (fun k h => h.elim) hll hnn)
    have HSN := Lib.hid (ran_sound hnn evs); have HSM := Lib.hid (ran_small n evs)
    clear hbad hnn hll
    go_enter Try.func16, Try.ntmps16
    go_upto_region 1 with fail
    clear hal hB
    go_upto_region 2 with (first
      | (go_at_call 44
         refine (HCA.out _ HK1.out).mono ?_
         rintro e w2 ⟨W2, rfl, hw2, hok2, hk2⟩
         obtain ⟨nd2, nt2, nv2, ov2⟩ := W2
         obtain ⟨NA2, NC2, en1⟩ := hok2.cells.form (nods_len nd2) (by decide)
         obtain ⟨OA2, OC2, en2⟩ := hok2.msgs.cells.form (mess_len nt2) (by decide)
         simp only at en1 en2
         subst en1 en2
         have HW2 := Lib.hid hw2; have HOK2 := Lib.hid hok2; have HK2 := Lib.hid hk2
         clear hw2 hok2 hk2
         simp only))
    obtain ⟨wa, hwa⟩ : ∃ wa, w2.alloc (.cells #[.slice NA2 nd2.length NC2, .slice OA2 nt2.length OC2] 55) = wa := ⟨_, rfl⟩
    have hka := (Keeps.refl Free w2).alloc (.cells #[.slice NA2 nd2.length NC2, .slice OA2 nt2.length OC2] 55)
    have hba := heap_alloc_new w2 (.cells #[.slice NA2 nd2.length NC2, .slice OA2 nt2.length OC2] 55)
    obtain ⟨A, hA⟩ : ∃ A, w2.heap.size = A := ⟨_, rfl⟩
    rw [hwa] at hka hba ⊢
    rw [hA] at hba ⊢
    have HKA := Lib.hid ((HK1.out.trans HK2.out (fun _ h => .inl h)).trans hka (fun _ h => .inl h))
    have HBA := Lib.hid hba; have HB2 := Lib.hid (hka.blk (HK2.out.blk HB1.out)); have HOKA := Lib.hid (HOK2.out.keep hka)
    clear hwa hka hba hA HCA
    go_upto_region 3 with (first
      | (go_at_call 45
         refine (HCB.out _ HKA.out).mono ?_
         rintro e w3 ⟨W3, rfl, hw3, hok3, hk3⟩
         obtain ⟨nd3, nt3, nv3, ov3⟩ := W3
         obtain ⟨NA3, NC3, en1⟩ := hok3.cells.form (nods_len nd3) (by decide)
         obtain ⟨OA3, OC3, en2⟩ := hok3.msgs.cells.form (mess_len nt3) (by decide)
         simp only at en1 en2
         subst en1 en2
         have HW3 := Lib.hid hw3; have HOK3 := Lib.hid hok3; have HK3 := Lib.hid hk3
         clear hw3 hok3 hk3
         simp only))
    obtain ⟨wb, hwb⟩ : ∃ wb, w3.alloc (.cells #[.slice NA3 nd3.length NC3, .slice OA3 nt3.length OC3] 55) = wb := ⟨_, rfl⟩
    have hkb := (Keeps.refl Free w3).alloc (.cells #[.slice NA3 nd3.length NC3, .slice OA3 nt3.length OC3] 55)
    have hbb := heap_alloc_new w3 (.cells #[.slice NA3 nd3.length NC3, .slice OA3 nt3.length OC3] 55)
    obtain ⟨A', hA'⟩ : ∃ A, w3.heap.size = A := ⟨_, rfl⟩
    rw [hwb] at hkb hbb ⊢
    rw [hA'] at hbb ⊢
    have hk3b := HK3.out.trans hkb (fun _ h => .inl h)
    have HKB := Lib.hid (HKA.out.trans hk3b (fun _ h => .inl h))
    have HBB := Lib.hid hbb; have HBAB := Lib.hid (hk3b.blk HBA.out); have HB3 := Lib.hid (hk3b.blk HB2.out); have HOKB := Lib.hid (HOK3.out.keep hkb); have HOKAB := Lib.hid (HOKA.out.keep hk3b)
    clear hwb hkb hbb hA' hk3b HCB
    obtain ⟨c0, c1, cf⟩ := cells2 HBAB.out
    obtain ⟨d0, d1, df⟩ := cells2 HBB.out
    have hn5 : n ≤ 5 := by have := HN.out; omega
    have HSAME := Lib.hid (sameW_any HOKAB.out HOKB.out (by rw [HW2.out, HW3.out]) (by rw [HW2.out]; exact HSN.out) hn5 (by rw [HW2.out]; exact HSM.out))
    go_upto_region 7 with (first
      | (go_at_call 46
         refine HSAME.out.mono ?_
         rintro e w4 ⟨rfl, hk4⟩
         have HK4 := Lib.hid hk4
         clear hk4 HSAME c0 c1 cf d0 d1 df))
    have HAX := Lib.hid (HK4.out.blk HBAB.out); have HBX := Lib.hid (HK4.out.blk HBB.out); have HEX := Lib.hid (HK4.out.blk HB3.out); have HKX := Lib.hid (HKB.out.trans HK4.out (fun _ h => .inl h))
    have HOX := Lib.hid (HOKAB.out.keep HK4.out); have HOY := Lib.hid (HOKB.out.keep HK4.out)
    refine Wf.wp_region_first (C := fun w' => Keeps Free w4 w') (by kernel_rfl) 99 ?_
    have HKW := Lib.hid (show Keeps Free w4 { w4 with drawn := w4.drawn + 1 } from (Keeps.refl Free w4).drew)
    obtain ⟨W, hW⟩ : ∃ W : World, W = { w4 with drawn := w4.drawn + 1 } := ⟨_, rfl⟩
    rw [← hW] at HKW ⊢
    clear hW
    have hsa := (ran_sound HN.out evs).lens HN.out
    apply Wf.wpAnyP_stays (by kernel_rfl) [0, 1, 3, 4] _ _ _ 13 _ HKW.out (by kernel_rfl) ?hs ?hr
    case hs =>
      apply Wf.wpStays_step rfl rfl
      · intro w' hw'
        obtain ⟨e0, e1, ef⟩ := cells2 (Keeps.blk hw' HAX.out)
        clear hw'
        go_simp
        exact ⟨rfl, rfl⟩
      go_simp
      apply Wf.wpStays_step rfl rfl
      · intro w' hw'
        obtain ⟨e0, e1, e2, ef⟩ := cells3 (Keeps.blk hw' HEX.out)
        clear hw'
        go_simp
        exact ⟨rfl, rfl⟩
      go_simp
      apply Wf.wpStays_step rfl rfl
      · intro w' hw'
        obtain ⟨e0, e1, ef⟩ := cells2 (Keeps.blk hw' HBX.out)
        clear hw'
        go_simp
        exact ⟨rfl, rfl⟩
      go_simp
      apply Wf.wpStays_step rfl rfl
      · intro w' hw'
        obtain ⟨e0, e1, e2, ef⟩ := cells3 (Keeps.blk hw' HEX.out)
        clear hw'
        go_simp
        exact ⟨rfl, rfl⟩
      go_simp
      exact rfl
    case hr =>
      apply Wf.wpAnyP_one (i := 2) (fuel := 12) (by kernel_rfl) rfl rfl
      have h47 := HSTP.out W Free ⟨nd2, nt2, .slice NA2 nd2.length NC2, .slice OA2 nt2.length OC2⟩ ⟨k, nd, pk⟩ (HOX.out.keep HKW.out) (fun _ h => h.elim) (by have := hsa.1; rw [← HW2.out] at this; simpa [WldV.w] using this) (by have := hsa.2; rw [← HW2.out] at this; simpa [WldV.w, said] using this)
      simp only at h47
      go_simp
      refine h47.mono ?_
      rintro e w5 ⟨Ww5, rfl, hww5, hokw5, hkw5⟩
      obtain ⟨ndw5, ntw5, nvw5, ovw5⟩ := Ww5
      obtain ⟨NAw5, NCw5, en1⟩ := hokw5.cells.form (nods_len ndw5) (by decide)
      obtain ⟨OAw5, OCw5, en2⟩ := hokw5.msgs.cells.form (mess_len ntw5) (by decide)
      simp only at en1 en2
      subst en1 en2
      have HWw5 := Lib.hid hww5; have HOKw5 := Lib.hid hokw5
      have HK5 := Lib.hid (HKW.out.trans hkw5 (fun _ h => .inl h)); have HKOw5 := Lib.hid hkw5
      clear hww5 hokw5 hkw5
      simp only
      refine ⟨_, rfl, HK5.out, ?_⟩
      go_simp
      clear h47
      apply Wf.wpAnyP_one (i := 5) (fuel := 11) (by kernel_rfl) rfl rfl
      have h48 := stepR_any (w := w5) (Q := Free) (W := ⟨nd3, nt3, .slice NA3 nd3.length NC3, .slice OA3 nt3.length OC3⟩) (ev := ⟨k, nd, pk⟩) (n := n) (HOY.out.keep HK5.out) (fun _ h => h.elim) (by rw [HW3.out]; exact HSN.out) HN.out (fun m hm => by have h1 := HSM.out m.m (by rw [← HW3.out]; exact List.mem_map_of_mem hm); omega)
      simp only at h48
      go_simp
      refine h48.mono ?_
      rintro e w6 ⟨Ww6, rfl, hww6, hokw6, hkw6⟩
      obtain ⟨ndw6, ntw6, nvw6, ovw6⟩ := Ww6
      obtain ⟨NAw6, NCw6, en1⟩ := hokw6.cells.form (nods_len ndw6) (by decide)
      obtain ⟨OAw6, OCw6, en2⟩ := hokw6.msgs.cells.form (mess_len ntw6) (by decide)
      simp only at en1 en2
      subst en1 en2
      have HWw6 := Lib.hid hww6; have HOKw6 := Lib.hid hokw6
      have HK6 := Lib.hid (HK5.out.trans hkw6 (fun _ h => .inl h)); have HKOw6 := Lib.hid hkw6
      clear hww6 hokw6 hkw6
      simp only
      refine ⟨_, rfl, HK6.out, ?_⟩
      go_simp
      clear h48
      apply Wf.wpAnyP_one (i := 6) (fuel := 10) (by kernel_rfl) rfl rfl
      have h46 := sameW_any (w := w6) (HOKw5.out.keep HKOw6.out) HOKw6.out (by rw [HWw5.out, HWw6.out, HW2.out, HW3.out]) (n := n) (by rw [HWw5.out, HW2.out]; exact cstep_sound HSN.out _) hn5 (by rw [HWw5.out, HW2.out]; exact HSM.out.step _)
      simp only at h46
      go_simp
      refine h46.mono ?_
      rintro e w7 ⟨rfl, hk7⟩
      have HK7 := Lib.hid (HK6.out.trans hk7 (fun _ h => .inl h))
      clear hk7 h46
      refine ⟨_, rfl, HK7.out, ?_⟩
      go_simp
      apply Wf.wpAnyP_stays (by kernel_rfl) [7, 8, 9, 11, 12] _ _ _ 5 _ HK7.out (by kernel_rfl) ?hs ?hr
      case hs =>
        apply Wf.wpStays_step rfl rfl
        · intro w' hw'
          clear hw'
          go_simp
          exact ⟨rfl, rfl⟩
        go_simp
        apply Wf.wpStays_wanted rfl (by rfl)
        · intro w' hw'
          obtain ⟨e0, e1, ef⟩ := cells2 (Keeps.blk hw' HAX.out)
          clear hw'
          go_simp
          exact ⟨rfl, rfl⟩
        go_simp
        apply Wf.wpStays_wanted rfl (by rfl)
        · intro w' hw'
          clear hw'
          go_simp
          exact ⟨rfl, rfl⟩
        go_simp
        apply Wf.wpStays_wanted rfl (by rfl)
        · intro w' hw'
          obtain ⟨e0, e1, ef⟩ := cells2 (Keeps.blk hw' HBX.out)
          clear hw'
          go_simp
          exact ⟨rfl, rfl⟩
        go_simp
        apply Wf.wpStays_wanted rfl (by rfl)
        · intro w' hw'
          clear hw'
          go_simp
          exact ⟨rfl, rfl⟩
        go_simp
        exact rfl
      case hr =>
        apply Wf.wpAnyP_oneW (i := 10) (fuel := 4) (by kernel_rfl) rfl (by rfl)
        have h49 := clCalm_any (w := w7) (Q := Free) (W := ⟨nd2, nt2, .slice NA2 nd2.length NC2, .slice OA2 nt2.length OC2⟩) (n := n) most HSTP.out (HOX.out.keep HK7.out) (fun _ h => h.elim) (by rw [HW2.out]; exact HSN.out) HN.out
        simp only at h49
        go_simp
        refine h49.mono ?_
        rintro e w8 ⟨Ww8, rfl, hww8, hokw8, hkw8⟩
        obtain ⟨ndw8, ntw8, nvw8, ovw8⟩ := Ww8
        obtain ⟨NAw8, NCw8, en1⟩ := hokw8.cells.form (nods_len ndw8) (by decide)
        obtain ⟨OAw8, OCw8, en2⟩ := hokw8.msgs.cells.form (mess_len ntw8) (by decide)
        simp only at en1 en2
        subst en1 en2
        have HWw8 := Lib.hid hww8; have HOKw8 := Lib.hid hokw8
        have HK8 := Lib.hid (HK7.out.trans hkw8 (fun _ h => .inl h)); have HKOw8 := Lib.hid hkw8
        clear hww8 hokw8 hkw8
        simp only
        refine ⟨_, rfl, HK8.out, ?_⟩
        go_simp
        clear h49
        apply Wf.wpAnyP_oneW (i := 13) (fuel := 3) (by kernel_rfl) rfl (by rfl)
        have h50 := calmR_any (w := w8) (Q := Free) (W := ⟨nd3, nt3, .slice NA3 nd3.length NC3, .slice OA3 nt3.length OC3⟩) (n := n) most (HOY.out.keep HK8.out) (fun _ h => h.elim) (by rw [HW3.out]; exact HSN.out) HN.out (by rw [HW3.out]; exact HSM.out)
        simp only at h50
        go_simp
        refine h50.mono ?_
        rintro e w9 ⟨Ww9, rfl, hww9, hokw9, hkw9⟩
        obtain ⟨ndw9, ntw9, nvw9, ovw9⟩ := Ww9
        obtain ⟨NAw9, NCw9, en1⟩ := hokw9.cells.form (nods_len ndw9) (by decide)
        obtain ⟨OAw9, OCw9, en2⟩ := hokw9.msgs.cells.form (mess_len ntw9) (by decide)
        simp only at en1 en2
        subst en1 en2
        have HWw9 := Lib.hid hww9; have HOKw9 := Lib.hid hokw9
        have HK9 := Lib.hid (HK8.out.trans hkw9 (fun _ h => .inl h)); have HKOw9 := Lib.hid hkw9
        clear hww9 hokw9 hkw9
        simp only
        refine ⟨_, rfl, HK9.out, ?_⟩
        go_simp
        clear h50
        apply Wf.wpAnyP_oneW (i := 14) (fuel := 2) (by kernel_rfl) rfl (by rfl)
        have h46 := sameW_any (w := w9) (HOKw8.out.keep HKOw9.out) HOKw9.out (by rw [HWw8.out, HWw9.out, HW2.out, HW3.out]) (n := n) (by rw [HWw8.out, HW2.out]; exact calmN_sound _ HSN.out) hn5 (by rw [HWw8.out, HW2.out]; exact calmN_small _ HSM.out)
        simp only at h46
        go_simp
        refine h46.mono ?_
        rintro e w10 ⟨rfl, hk10⟩
        have HK10 := Lib.hid (HK9.out.trans hk10 (fun _ h => .inl h))
        clear hk10 h46
        refine ⟨_, rfl, HK10.out, ?_⟩
        go_simp
        apply Wf.wpAnyP_stays (by kernel_rfl) [15, 16] _ _ _ 0 _ HK10.out (by kernel_rfl) ?hs ?hr
        case hs =>
          apply Wf.wpStays_step rfl rfl
          · intro w' hw'
            clear hw'
            go_simp
            exact ⟨rfl, rfl⟩
          go_simp
          apply Wf.wpStays_step rfl rfl
          · intro w' hw'
            clear hw'
            go_simp
            exact ⟨rfl, rfl⟩
          go_simp
          exact rfl
        case hr =>
          refine ⟨by kernel_rfl, ?_⟩
          go_wp2_with fail
          go_ret
          exact ⟨rfl, HKX.out.trans HK10.out (fun _ h => .inl h)⟩
end Go.Proofs.Ytibjbpakbfodaaa
