/- (*peer).send: what is sent to a node. -/
import Derived.Test.YtibjbpakbfodaaaSay
import Derived.Test.YtibjbpakbfodaaaBegin
import Derived.Deep.DeepCutAuto
namespace Go.Proofs.Ytibjbpakbfodaaa
open Go.RowKit

theorem Peer.nextCell {w : World} {S : Nat → Prop} {p : Nat} {x : NodV} {ov : Value} {out : List MesV} (h : Peer w S p x ov out) {A : Option Addr} {c : Nat} (hv : x.nv = .slice A x.n.next.length c) {j : Nat} (hj : j < x.n.next.length) :
    ∃ g, A = some ⟨g, 0, none⟩ ∧ w.cell? ⟨g, j, none⟩ = some (.int .i64 x.n.next[j]) ∧ (∀ k, w.frozen? ⟨g, k, none⟩ = false) ∧ g ≠ p ∧ S g ∧ g < w.heap.size := by
  have ho := h.next
  rw [hv] at ho
  obtain ⟨g, rfl, hc, hf⟩ := own_cell ho (by omega)
  have hb : x.nv.ownBlock = some g := by rw [hv]; rfl
  refine ⟨g, rfl, ?_, hf, fun e => h.next_ne (by rw [hb, e]), h.nS g hb, own_lt h.next hb⟩
  rw [hc j (by omega)]
  simp [intCells, List.getElem?_eq_getElem hj]

theorem Peer.mtchCell {w : World} {S : Nat → Prop} {p : Nat} {x : NodV} {ov : Value} {out : List MesV} (h : Peer w S p x ov out) {A : Option Addr} {c : Nat} (hv : x.mv = .slice A x.n.mtch.length c) {j : Nat} (hj : j < x.n.mtch.length) :
    ∃ g, A = some ⟨g, 0, none⟩ ∧ w.cell? ⟨g, j, none⟩ = some (.int .i64 x.n.mtch[j]) ∧ (∀ k, w.frozen? ⟨g, k, none⟩ = false) ∧ g ≠ p ∧ S g ∧ g < w.heap.size := by
  have ho := h.mtch
  rw [hv] at ho
  obtain ⟨g, rfl, hc, hf⟩ := own_cell ho (by omega)
  have hb : x.mv.ownBlock = some g := by rw [hv]; rfl
  refine ⟨g, rfl, ?_, hf, fun e => h.mtch_ne (by rw [hb, e]), h.mS g hb, own_lt h.mtch hb⟩
  rw [hc j (by omega)]
  simp [intCells, List.getElem?_eq_getElem hj]

/-- 'say', the message written out. -/
theorem say_lit {w : World} {S : Nat → Prop} {p : Nat} {x : NodV} {ov : Value} {out : List MesV} (h : Peer w S p x ov out) (kind dst index lt commit : Int) (items : List Itm) (iv : Value) (yes : Bool) (hm : Sl w S iv 2 (itemCells items)) (hlate : ∀ g, iv.ownBlock = some g → p ≤ g) (hout : out.length ≤ 100) :
    Calls Try.prog 60 #[.pointer (some ⟨p, 0, none⟩), .agg #[.int .i64 kind, .int .i64 0, .int .i64 dst, .int .i64 0, .int .i64 index, .int .i64 lt, .int .i64 commit, iv, .bool yes]] w fun e w' => e = .returned (.tuple #[]) ∧
      ∃ S' ov', Peer w' S' p x ov' (out ++ [⟨⟨kind, x.n.id, dst, x.n.term, index, lt, commit, items, yes⟩, iv⟩]) ∧ Keeps S w w' ∧ (∀ k, S' k → S k ∨ w.heap.size ≤ k) :=
  say_any h ⟨⟨kind, 0, dst, 0, index, lt, commit, items, yes⟩, iv⟩ hm hlate hout

/-- A part of a slice that reads. -/
theorem Sl.part {w : World} {S : Nat → Prop} {A : Option Addr} {n c : Nat} {size : Nat} {xs : List Value} (h : Sl w S (.slice A n c) size xs) {lo hi : Nat} (h1 : lo ≤ hi) (h2 : hi ≤ n) (hs : 0 < size) {B : Option Addr} (hB : lo < hi → B = A.map (fun a => a.add (lo * size))) :
    Sl w S (.slice B (hi - lo) (c - lo)) size ((xs.drop (lo * size)).take ((hi - lo) * size)) := by
  obtain ⟨A', len, cap, e, hl, a1, a2, hc⟩ := h
  injection e with e1 e2 e3
  subst e1 e2 e3
  have hle : lo * size + (hi - lo) * size ≤ n * size := by rw [← Nat.add_mul]; exact Nat.mul_le_mul_right _ (by omega)
  refine ⟨B, hi - lo, c - lo, rfl, by rw [List.length_take, List.length_drop]; omega, by omega, by omega, fun hn => ?_⟩
  have hlt : lo < hi := by
    rcases Nat.lt_or_ge lo hi with h | h
    · exact h
    · have h0 : hi - lo = 0 := by omega
      rw [h0] at hn; simp at hn
  have hx : 0 < xs.length := by
    have : 0 < (hi - lo) * size := Nat.mul_pos (by omega) hs
    omega
  obtain ⟨b, off, rfl, hb, hcell⟩ := hc hx
  refine ⟨b, off + lo * size, by rw [hB hlt]; simp [Addr.add_lit], hb, fun j u hj => ?_⟩
  rw [List.getElem?_take] at hj
  split at hj
  · rw [List.getElem?_drop] at hj
    rw [Nat.add_assoc]
    exact hcell _ u hj
  · cases hj

theorem itemCells_drop (l : List Itm) (k : Nat) : (itemCells l).drop (k * 2) = itemCells (l.drop k) := by
  induction k generalizing l with
  | zero => simp
  | succ k ih =>
    cases l with
    | nil => simp [itemCells]
    | cons y t =>
      rw [Nat.add_mul]
      exact ih t
theorem itemCells_take (l : List Itm) (k : Nat) : (itemCells l).take (k * 2) = itemCells (l.take k) := by
  induction k generalizing l with
  | zero => simp [itemCells]
  | succ k ih =>
    cases l with
    | nil => simp [itemCells]
    | cons y t =>
      rw [Nat.add_mul]
      have : (itemCells (y :: t)).take (k * 2 + 1 * 2) = .int .i64 y.term :: .int .i64 y.cmd :: (itemCells t).take (k * 2) := rfl
      rw [this, ih t]
      rfl

theorem sends_at {x : Nod} {j q : Nat} (hj : j < x.next.length) (hq : x.next[j] = (q : Int) + 1) : sends x ((j : Int) + 1) =
    ⟨3, x.id, (j : Int) + 1, x.term, q, termAt x.log q, x.commit, (x.log.drop q).take 3, false⟩ := by
  have : at_ x.next ((j : Int) + 1) - 1 = q := by
    unfold at_
    rw [show ((j : Int) + 1 - 1).toNat = j from by omega, List.getElem?_eq_getElem hj, Option.getD_some, hq]
    omega
  simp only [sends, this, Int.toNat_natCast]

set_option maxHeartbeats 1000000 in
theorem send_any {w : World} {S : Nat → Prop} {p : Nat} {x : NodV} {ov : Value} {out : List MesV} (h : Peer w S p x ov out) (j q : Nat) (hj : j < x.n.next.length) (hq : x.n.next[j] = (q : Int) + 1) (hql : q ≤ x.n.log.length) (hl : x.n.log.length ≤ 60) (hn : x.n.next.length ≤ 5) (hout : out.length ≤ 100) :
    Calls Try.prog 65 #[.pointer (some ⟨p, 0, none⟩), .int .i64 ((j : Int) + 1)] w fun e w' => e = .returned (.tuple #[]) ∧ ∃ S' ov' iv, Peer w' S' p x ov' (out ++ [⟨sends x.n ((j : Int) + 1), iv⟩]) ∧ Keeps S w w' ∧ (∀ k, S' k → S k ∨ w.heap.size ≤ k) := by
  have HSE := Lib.hid (sends_at hj hq)
  obtain ⟨LA, LC, VA, VC, NA, NC, MA, MC, OA, OC, hlv, hvv, hnv, hmv, hov, c0, c1, c2, c3, c4, c5, c6, c7, c8, c9, c10, c11, hfz, hpl⟩ := h.open_
  obtain ⟨g, rfl, hgc, _⟩ := h.nextCell hnv hj
  rw [hq] at hgc
  clear hvv hmv hov c0 c1 c2 c3 c6 c7 c8 c10 c11 hnv hfz
  have hcap : x.n.log.length ≤ LC := by
    obtain ⟨A, c, e, h1, _⟩ := own_slice h.log
    rw [hlv] at e; injection e with _ _ e; omega
  have hsl : Sl w (fun _ => False) (.slice LA x.n.log.length LC) 2 (itemCells x.n.log) := by
    rw [← hlv]; exact Sl.of_own h.log (fun _ _ h => h)
  have HSL := Lib.hid hsl
  clear hlv hsl hq
  obtain ⟨hi, hhi, hhi1, hhi2, hlen⟩ : ∃ hi : Nat, q ≤ hi ∧ hi ≤ x.n.log.length ∧ min (x.n.log.length : Int) ((q : Int) + 3) = hi ∧ (x.n.log.drop q).take 3 = (x.n.log.drop q).take (hi - q) := by
    refine ⟨min x.n.log.length (q + 3), by omega, by omega, by omega, ?_⟩
    rcases Nat.le_total (q + 3) x.n.log.length with h | h
    · rw [Nat.min_eq_right h]; congr 1; omega
    · rw [Nat.min_eq_left h, List.take_of_length_le (by simp; omega), List.take_of_length_le (by simp)]
  have HH := Lib.hid hhi2
  have HLN := Lib.hid hlen
  clear hhi2 hlen
  go_enter Try.func65, Try.ntmps65
  go_upto_region 1 with fail
  go_cut [4, 5] (fun s4 s5 wx => s4 = .int .i64 q ∧ (∃ B, (q < hi → B = LA.map (fun a => a.add (q * 2))) ∧ s5 = .slice B (hi - q) (LC - q)) ∧ Keeps (fun _ => False) w wx)
  case first =>
    have hw : IntKind.i64.wrap ((q : Int) + 3) = (q : Int) + 3 := IntWalk.i64_in _ (by omega)
    by_cases h3 : (q : Int) + 3 < (x.n.log.length : Int)
    · obtain rfl : hi = q + 3 := by have := HH.out; omega
      go_quiet (fail)
      clear hw
      go_wp2_with fail
      go_meet
      exact ⟨rfl, ⟨_, fun _ => rfl, rfl⟩, (Keeps.refl _ w).drewN nq⟩
    · obtain rfl : hi = x.n.log.length := by have := HH.out; omega
      by_cases h4 : LC = q
      · go_quiet (fail)
        clear hw
        go_wp2_with fail
        go_meet
        exact ⟨rfl, ⟨_, fun h => by omega, by rw [show LC - q = 0 from by omega]⟩, (Keeps.refl _ w).drewN nq⟩
      · go_quiet (fail)
        clear hw
        go_wp2_with fail
        go_meet
        exact ⟨rfl, ⟨_, fun _ => rfl, rfl⟩, (Keeps.refl _ w).drewN nq⟩
  case rest =>
    obtain ⟨rfl, ⟨B, hB, rfl⟩, hk⟩ := hcut
    have hsl := (HSL.out.part hhi hhi1 (by omega) hB).keep hk (fun _ _ h => h)
    rw [itemCells_drop, itemCells_take] at hsl
    have hp := h.later hk
    have c5' := hk.cell (fun h => h) c5
    have HS := Lib.hid hsl
    have HK := Lib.hid hk
    have HD := Lib.hid (Keeps.refl (fun _ => False) wc).drew
    clear hsl hk hB c4 c5 c9 hgc
    go_wp2_with fail
    go_region_with (first
      | (go_at_call 61; refine (termAt_any (hp.later HD.out) (q : Int) hl (by omega) (by omega)).mono ?_; rintro e w' ⟨rfl, rfl⟩)
      | (go_at_call 86; refine (cloneItem_any (HS.out.keep HD.out (fun _ _ h => h)) (hi - q) (by simp [itemCells_length]; omega) (one_item _) (by omega)).mono ?_; rintro e w1 ⟨A1, C1, rfl, o1, g1, kk1⟩; have c5'' := kk1.cell (fun h => h) ((HD.out).cell (fun h => h) c5'))
      | (go_at_call 60; refine (say_lit ((hp.later HD.out).later kk1) _ _ _ _ _ ((x.n.log.drop q).take (hi - q)) _ _ (Sl.of_own o1 (fun gg hg hS => by have h1 := g1 gg hg; have h2 := (hp.later HD.out).lt gg hS; omega)) (fun gg hg => by have h1 := g1 gg hg; have h2 := (hp.later HD.out).lt p (hp.later HD.out).pS; omega) hout).mono ?_; rintro e w2 ⟨rfl, S', ov', pp, kk2, ss2⟩))
    all_goals
      go_wp2
      go_end0
      refine ⟨rfl, S', ov', _, by rw [HSE.out, HLN.out]; exact pp, (((HK.out.trans HD.out (fun _ h => h.elim)).trans kk1 (fun _ h => h.elim)).mono (fun _ h => h.elim)).trans kk2 (fun _ h => .inl h), fun k hk' => ?_⟩
      rcases ss2 k hk' with h1 | h1
      · exact .inl h1
      · exact .inr (Nat.le_trans HK.out.size (Nat.le_trans kk1.size h1))
end Go.Proofs.Ytibjbpakbfodaaa
