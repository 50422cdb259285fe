/- raft.begin: a peer of its own, whose lists are clones. -/
import Derived.Test.YtibjbpakbfodaaaClone
import Derived.BigRegion
import Derived.BigQuiet
import Derived.StillTailTactics
import Derived.Deep.RegionLaw
import Derived.Deep.RegionHeld3
import Derived.Deep.DeepCutAuto
namespace Go.Proofs.Ytibjbpakbfodaaa
open Go.RowKit

theorem one_int : ∀ (l : List Int) (u : Value), u ∈ intCells l → u.oneCell' = true := by
  intro l u hu
  obtain ⟨a, _, rfl⟩ := List.mem_map.1 hu
  rfl
theorem one_item : ∀ (l : List Itm) (u : Value), u ∈ itemCells l → u.oneCell' = true := by
  intro l u hu
  obtain ⟨a, _, hu⟩ := List.mem_flatMap.1 hu
  simp at hu
  rcases hu with rfl | rfl <;> rfl

/-- Eleven cells of a block that is known whole. -/
theorem cells11 {w : World} {b : Nat} {t : TypeId} {v0 v1 v2 v3 v4 v5 v6 v7 v8 v9 v10 : Value} (h : w.heap[b]? = some (.cells #[v0, v1, v2, v3, v4, v5, v6, v7, v8, v9, v10] t (0, 0))) :
    w.cell? ⟨b, 0, none⟩ = some v0 ∧ w.cell? ⟨b, 1, none⟩ = some v1 ∧ w.cell? ⟨b, 2, none⟩ = some v2 ∧ w.cell? ⟨b, 3, none⟩ = some v3 ∧ w.cell? ⟨b, 4, none⟩ = some v4 ∧ w.cell? ⟨b, 5, none⟩ = some v5 ∧
      w.cell? ⟨b, 6, none⟩ = some v6 ∧ w.cell? ⟨b, 7, none⟩ = some v7 ∧ w.cell? ⟨b, 8, none⟩ = some v8 ∧ w.cell? ⟨b, 9, none⟩ = some v9 ∧ w.cell? ⟨b, 10, none⟩ = some v10 ∧ ∀ k, w.frozen? ⟨b, k, none⟩ = false := by
  refine ⟨?_, ?_, ?_, ?_, ?_, ?_, ?_, ?_, ?_, ?_, ?_, fun k => frozen_of_row w b k _ t h⟩ <;> (rw [cell_of_row w b _ _ t (0, 0) h]; rfl)

theorem begin_end {w wo wc : World} {id n term vote commit role boss : Int} {log : List Itm} {votes next mtch : List Int} {A1 A2 A3 A4 : Option Addr} {C1 C2 C3 C4 : Nat} {o : Obj}
    (q1 : wo.ownsRow 0 44 2 (.slice A1 log.length C1) log.length (itemCells log)) (q2 : wo.ownsRow 0 3 1 (.slice A2 votes.length C2) votes.length (intCells votes))
    (q3 : ∀ g, (Value.slice A1 log.length C1).ownBlock = some g → w.heap.size < g) (q4 : ∀ g, (Value.slice A2 votes.length C2).ownBlock = some g → w.heap.size < g)
    (q5 : Keeps (fun _ => False) w wo) (q6 : wo.heap[w.heap.size]? = some o)
    (r1 : wc.ownsRow 0 3 1 (.slice A3 next.length C3) next.length (intCells next)) (r2 : wc.ownsRow 0 3 1 (.slice A4 mtch.length C4) mtch.length (intCells mtch))
    (r3 : ∀ g, (Value.slice A3 next.length C3).ownBlock = some g → wo.heap.size ≤ g) (r4 : ∀ g, (Value.slice A4 mtch.length C4).ownBlock = some g → wo.heap.size ≤ g)
    (r5 : ∀ g, (Value.slice A3 next.length C3).ownBlock = some g → (Value.slice A4 mtch.length C4).ownBlock ≠ some g) (r6 : Keeps (fun k => k = w.heap.size) wo wc) :
    Peer (wc.alloc (.cells #[.int .i64 id, .int .i64 n, .int .i64 term, .int .i64 vote, .slice A1 log.length C1, .int .i64 commit, .int .i64 role, .int .i64 boss, .slice A2 votes.length C2, .slice A3 next.length C3, .slice A4 mtch.length C4, .slice none 0 0] 79))
      (fun k => w.heap.size < k ∧ k ≤ wc.heap.size) wc.heap.size ⟨⟨id, n, term, vote, log, commit, role, boss, votes, next, mtch⟩, .slice A1 log.length C1, .slice A2 votes.length C2, .slice A3 next.length C3, .slice A4 mtch.length C4⟩ (.slice none 0 0) [] ∧
    Nod.mk id n term vote log commit role boss votes next mtch = ⟨id, n, term, vote, log, commit, role, boss, votes, next, mtch⟩ ∧
    Keeps (fun _ => False) w (wc.alloc (.cells #[.int .i64 id, .int .i64 n, .int .i64 term, .int .i64 vote, .slice A1 log.length C1, .int .i64 commit, .int .i64 role, .int .i64 boss, .slice A2 votes.length C2, .slice A3 next.length C3, .slice A4 mtch.length C4, .slice none 0 0] 79)) ∧
    ∀ k, (w.heap.size < k ∧ k ≤ wc.heap.size) → w.heap.size ≤ k := by
  have hlo : w.heap.size < wo.heap.size := by
    rcases Nat.lt_or_ge w.heap.size wo.heap.size with hlt | hge
    · exact hlt
    · rw [Array.getElem?_eq_none hge] at q6; cases q6
  have hle := r6.size
  have mv : ∀ {base e size : Nat} {v : Value} {m : Nat} {xs : List Value}, wo.ownsRow base e size v m xs → (∀ g, v.ownBlock = some g → w.heap.size < g) → wc.ownsRow base e size v m xs := fun h hg =>
    own_keep h fun g hg' => r6.block g (own_lt h hg') (fun e => by have := hg g hg'; omega)
  have s1 := mv q1 q3
  have s2 := mv q2 q4
  refine ⟨{ blk := heap_alloc_new wc _, log := s1.alloc _, votes := s2.alloc _, next := r1.alloc _, mtch := r2.alloc _, outs := World.ownsRow_nil _ 0 38 9, items := fun m hm => by simp at hm, late := fun m hm => by simp at hm, pS := ⟨by omega, Nat.le_refl _⟩,
            lS := fun g hg => ⟨q3 g hg, Nat.le_of_lt (own_lt s1 hg)⟩, vS := fun g hg => ⟨q4 g hg, Nat.le_of_lt (own_lt s2 hg)⟩, nS := fun g hg => ⟨by have := r3 g hg; omega, Nat.le_of_lt (own_lt r1 hg)⟩,
            mS := fun g hg => ⟨by have := r4 g hg; omega, Nat.le_of_lt (own_lt r2 hg)⟩, oS := fun g hg => by simp [Value.ownBlock] at hg,
            vn := fun g hg hg' => by have h1 := own_lt q2 hg; have h2 := r3 g hg'; omega, vm := fun g hg hg' => by have h1 := own_lt q2 hg; have h2 := r4 g hg'; omega, nm := r5,
            lt := fun k hk => by simp; omega }, rfl, ?_, fun k hk => by omega⟩
  exact (q5.trans (S' := fun k => k = w.heap.size) r6 (fun k hk => .inr (by omega))).alloc _

set_option maxHeartbeats 1000000 in
theorem begin_any {w : World} {S : Nat → Prop} {x : NodV} (h : NodeOk w S x) (h1 : x.n.log.length ≤ 60) (h2 : x.n.votes.length ≤ 60) (h3 : x.n.next.length ≤ 60) (h4 : x.n.mtch.length ≤ 60) :
    Calls Try.prog 57 #[.agg (nodCells x).toArray] w fun e w' => ∃ p x' S', e = .returned (.pointer (some ⟨p, 0, none⟩)) ∧ Peer w' S' p x' (.slice none 0 0) [] ∧ x'.n = x.n ∧ Keeps (fun _ => False) w w' ∧ ∀ k, S' k → w.heap.size ≤ k := by
  obtain ⟨⟨id, n, term, vote, log, commit, role, boss, votes, next, mtch⟩, lv, vv, nv, mv⟩ := x
  obtain ⟨k1, k2, k3, k4⟩ := h
  simp only at k1 k2 k3 k4 h1 h2 h3 h4
  have e1 : ∃ A l c, lv = .slice A l c := by obtain ⟨A, l, c, e, _⟩ := k1; exact ⟨A, l, c, e⟩
  have e2 : ∃ A l c, vv = .slice A l c := by obtain ⟨A, l, c, e, _⟩ := k2; exact ⟨A, l, c, e⟩
  have e3 : ∃ A l c, nv = .slice A l c := by obtain ⟨A, l, c, e, _⟩ := k3; exact ⟨A, l, c, e⟩
  have e4 : ∃ A l c, mv = .slice A l c := by obtain ⟨A, l, c, e, _⟩ := k4; exact ⟨A, l, c, e⟩
  obtain ⟨LA, ll, lc, rfl⟩ := e1
  obtain ⟨VA, vl, vc, rfl⟩ := e2
  obtain ⟨NA, nl, nc, rfl⟩ := e3
  obtain ⟨MA, ml, mc, rfl⟩ := e4
  have K1 := Lib.hid k1; have K2 := Lib.hid k2; have K3 := Lib.hid k3; have K4 := Lib.hid k4
  clear k1 k2 k3 k4
  unfold nodCells
  go_enter Try.func57, Try.ntmps57
  go_upto_region 1 with fail
  have hb0 := heap_alloc_new w (.cells #[.int .i64 id, .int .i64 n, .int .i64 term, .int .i64 vote, .slice LA ll lc, .int .i64 commit, .int .i64 role, .int .i64 boss, .slice VA vl vc, .slice NA nl nc, .slice MA ml mc] 25)
  have HB := Lib.hid hb0
  have K0 := Lib.hid ((Keeps.refl (fun _ => False) w).alloc (.cells #[.int .i64 id, .int .i64 n, .int .i64 term, .int .i64 vote, .slice LA ll lc, .int .i64 commit, .int .i64 role, .int .i64 boss, .slice VA vl vc, .slice NA nl nc, .slice MA ml mc] 25)).drew
  clear hb0
  go_cut [5] (fun _ wx => ∃ A1 C1 A2 C2, wx.ownsRow 0 44 2 (.slice A1 log.length C1) log.length (itemCells log) ∧ wx.ownsRow 0 3 1 (.slice A2 votes.length C2) votes.length (intCells votes) ∧
    (∀ g, (Value.slice A1 log.length C1).ownBlock = some g → w.heap.size < g) ∧ (∀ g, (Value.slice A2 votes.length C2).ownBlock = some g → w.heap.size < g) ∧
    Keeps (fun _ => False) w wx ∧ wx.heap[w.heap.size]? = some (.cells #[.int .i64 id, .int .i64 n, .int .i64 term, .int .i64 vote, .slice A1 log.length C1, .int .i64 commit, .int .i64 role, .int .i64 boss, .slice A2 votes.length C2, .slice NA nl nc, .slice MA ml mc] 25 (0, 0)))
  case first =>
    go_region_with (first
      | (go_at_call 86; refine (cloneItem_any (K1.out.keep K0.out (fun _ _ h => h.elim)) log.length (itemCells_length log) (one_item log) (by omega)).mono ?_; rintro e w1 ⟨A1, C1, rfl, o1, g1, kk1⟩; obtain ⟨b0, b1, b2, b3, b4, b5, b6, b7, b8, b9, b10, bf⟩ := cells11 (kk1.blk HB.out))
      | (go_at_call 87; refine (cloneInt_any (K2.out.keep (K0.out.trans kk1 (fun _ h => h.elim)) (fun _ _ h => h.elim)) votes.length (intCells_length votes) (one_int votes) (by omega)).mono ?_; rintro e w2 ⟨A2, C2, rfl, o2, g2, kk2⟩; obtain ⟨d0, d1, d2, d3, d4, d5, d6, d7, d8, d9, d10, df⟩ := cells11 (kk2.blk (kk1.blk HB.out))))
    all_goals
      go_wp2_with fail
      go_meet
      have g1' : ∀ g, (Value.slice A1 log.length C1).ownBlock = some g → w.heap.size < g := fun g hg => by have := g1 g hg; simp at this; omega
      have g2' : ∀ g, (Value.slice A2 votes.length C2).ownBlock = some g → w.heap.size < g := fun g hg => by have h1 := g2 g hg; have h2 := kk1.size; simp at h2; omega
      refine ⟨A1, C1, A2, C2, own_set (own_set (own_later o1 kk2) _ (fun e => by have := g1' _ e; omega)) _ (fun e => by have := g1' _ e; omega),
        own_set (own_set o2 _ (fun e => by have := g2' _ e; omega)) _ (fun e => by have := g2' _ e; omega), g1', g2', ?_, ?_⟩
      · exact ((K0.out.trans kk1 (fun _ h => h.elim)).trans kk2 (fun _ h => h.elim)).setNew (Nat.le_refl _) _ |>.setNew (Nat.le_refl _) _
      · rw [setCell_blk (setCell_blk (kk2.blk (kk1.blk HB.out)))]
        rfl
  case rest =>
    obtain ⟨wo, rfl⟩ : ∃ wo : World, wo = wc := ⟨_, rfl⟩
    obtain ⟨A1, C1, A2, C2, q1, q2, q3, q4, q5, q6⟩ := hcut
    obtain ⟨b0, b1, b2, b3, b4, b5, b6, b7, b8, b9, b10, bf⟩ := cells11 q6
    have Q1 := Lib.hid q1; have Q2 := Lib.hid q2; have Q3 := Lib.hid q3; have Q4 := Lib.hid q4; have Q5 := Lib.hid q5; have Q6 := Lib.hid q6
    clear q1 q2 q3 q4 q5 q6 HB K0
    go_upto_region 2 with fail
    have K0 := Lib.hid (Keeps.refl (fun _ => False) wo).drew
    go_cut [5] (fun _ wx => ∃ A3 C3 A4 C4, wx.ownsRow 0 3 1 (.slice A3 next.length C3) next.length (intCells next) ∧ wx.ownsRow 0 3 1 (.slice A4 mtch.length C4) mtch.length (intCells mtch) ∧
      (∀ g, (Value.slice A3 next.length C3).ownBlock = some g → wo.heap.size ≤ g) ∧ (∀ g, (Value.slice A4 mtch.length C4).ownBlock = some g → wo.heap.size ≤ g) ∧
      (∀ g, (Value.slice A3 next.length C3).ownBlock = some g → (Value.slice A4 mtch.length C4).ownBlock ≠ some g) ∧
      Keeps (fun k => k = w.heap.size) wo wx ∧ wx.heap[w.heap.size]? = some (.cells #[.int .i64 id, .int .i64 n, .int .i64 term, .int .i64 vote, .slice A1 log.length C1, .int .i64 commit, .int .i64 role, .int .i64 boss, .slice A2 votes.length C2, .slice A3 next.length C3, .slice A4 mtch.length C4] 25 (0, 0)))
    case first =>
      go_region_with (first
        | (go_at_call_of 87 (Value.slice NA nl nc); refine (cloneInt_any (K3.out.keep (Q5.out.trans K0.out (fun _ h => h.elim)) (fun _ _ h => h.elim)) next.length (intCells_length next) (one_int next) (by omega)).mono ?_; rintro e w1 ⟨A3, C3, rfl, o1, g1, kk1⟩; obtain ⟨c0, c1, c2, c3, c4, c5, c6, c7, c8, c9, c10, cf⟩ := cells11 (kk1.blk Q6.out))
        | (go_at_call_of 87 (Value.slice MA ml mc); refine (cloneInt_any (K4.out.keep ((Q5.out.trans K0.out (fun _ h => h.elim)).trans kk1 (fun _ h => h.elim)) (fun _ _ h => h.elim)) mtch.length (intCells_length mtch) (one_int mtch) (by omega)).mono ?_; rintro e w2 ⟨A4, C4, rfl, o2, g2, kk2⟩; obtain ⟨d0, d1, d2, d3, d4, d5, d6, d7, d8, d9, d10, df⟩ := cells11 (kk2.blk (kk1.blk Q6.out))))
      all_goals
        go_wp2_with fail
        go_meet
        have hwo : w.heap.size < wo.heap.size := by have := cell_lt b0; omega
        have g1' : ∀ g, (Value.slice A3 next.length C3).ownBlock = some g → wo.heap.size ≤ g := fun g hg => by have := g1 g hg; simp at this; omega
        have g2' : ∀ g, (Value.slice A4 mtch.length C4).ownBlock = some g → w1.heap.size ≤ g := g2
        have hw1 : wo.heap.size ≤ w1.heap.size := by have := kk1.size; simpa using this
        refine ⟨A3, C3, A4, C4, own_set (own_set (own_later o1 kk2) _ (fun e => by have := g1' _ e; omega)) _ (fun e => by have := g1' _ e; omega),
          own_set (own_set o2 _ (fun e => by have := g2' _ e; omega)) _ (fun e => by have := g2' _ e; omega), g1', fun g hg => by have := g2' g hg; omega, fun g hg hg' => by have h1 := own_lt o1 hg; have h2 := g2' g hg'; omega, ?_, ?_⟩
        · exact ((((K0.out.trans kk1 (fun _ h => h.elim)).trans kk2 (fun _ h => h.elim)).mono (S' := fun k => k = w.heap.size) (fun _ h => h.elim)).setCell (.inl rfl) _).setCell (.inl rfl) _
        · rw [setCell_blk (setCell_blk (kk2.blk (kk1.blk Q6.out)))]
          rfl
    case rest =>
      obtain ⟨A3, C3, A4, C4, r1, r2, r3, r4, r5, r6, r7⟩ := hcut
      clear b0 b1 b2 b3 b4 b5 b6 b7 b8 b9 b10 bf
      obtain ⟨b0, b1, b2, b3, b4, b5, b6, b7, b8, b9, b10, bf⟩ := cells11 r7
      have R1 := Lib.hid r1; have R2 := Lib.hid r2; have R3 := Lib.hid r3; have R4 := Lib.hid r4; have R5 := Lib.hid r5; have R6 := Lib.hid r6
      clear r1 r2 r3 r4 r5 r6 r7
      go_wp2
      go_ret
      exact ⟨_, _, _, rfl, begin_end Q1.out Q2.out Q3.out Q4.out Q5.out Q6.out R1.out R2.out R3.out R4.out R5.out R6.out⟩
end Go.Proofs.Ytibjbpakbfodaaa
