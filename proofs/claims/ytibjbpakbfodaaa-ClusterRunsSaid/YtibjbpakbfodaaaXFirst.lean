/- A region that draws its order, whose operations only read until the last ones, which come one behind the other: one walk of the order of the text serves every order. A region that draws its order: operations that only read may be taken first, whatever the others write, where all worlds that come up are of one class. A region that draws its order: operations that only read may be taken first, whatever the others write or call, where all worlds that come up are of one class. A region that draws its order: operations that only read may be taken first, whatever the others write or call, where all worlds that come up ahead of the last operation are of one class. A region that draws its order: operations that only read may be taken first, whatever the others write or call, where all worlds that come up ahead of the last operations (from a given one on) are of one class. -/
import Derived.Test.YtibjbpakbfodaaaLost
import Derived.StillTail
import Derived.Deep.Quiet
import Derived.Deep.DeepBigQuietO
namespace Go.Proofs.Ytibjbpakbfodaaa
open Go.RowKit

section
variable {P : Program} {ops : Array Oper} {md : Region.Mode} {C : World → Prop}

def wpAnyQL (P : Program) (md : Region.Mode) (ops : Array Oper) (C : World → Prop) (n : Nat) (L : Array Bool → Act → Prop) : Nat → Array Bool → Act → Prop
  | 0, listed, a => L listed a
  | f + 1, listed, a =>
    Region.ready md ops listed ≠ [] ∧ ∀ i ∈ Region.ready md ops listed, i < n ∧ qOp P ops C i (wpAnyQL P md ops C n L f (listed.setIfInBounds i true)) a

theorem wpAny_of_qhead {n g : Nat} {L : Array Bool → Act → Prop} {Q' : Exit → Act → World → Prop} (hL : ∀ listed a w, C w → L listed a → wpAny P md ops Q' g listed a w) :
    ∀ (f : Nat) (listed : Array Bool) (a : Act) (w : World), C w → wpAnyQL P md ops C n L f listed a → wpAny P md ops Q' (f + g) listed a w
  | 0, _, _, _, hw, h => by rw [Nat.zero_add]; exact hL _ _ _ hw h
  | f + 1, _, _, _, hw, h => by
    rw [show f + 1 + g = (f + g) + 1 by omega]
    exact ⟨fun h0 => absurd h0 h.1, fun i hi => wpOp_of_qOp hw (fun a' w' hw' h' => wpAny_of_qhead hL f _ a' w' hw' h') (h.2 i hi).2⟩

theorem wpAnyQL_first {n i : Nat} {oi : Oper} {v : Value} {L : Array Bool → Act → Prop} (hi : ops[i]? = some oi) (hsel : ∀ (j : Nat) (o : Oper) cs b, ops[j]? = some o → o.op ≠ .select cs b)
    (hs : Region.sinkB md ops n = true) (hc : Region.chainB md ops n = true) (hn : n < ops.size) (hin : i < n)
    (hdone : ∀ listed a, L listed a → ∀ j ∈ Region.ready md ops listed, n ≤ j) :
    ∀ (f : Nat) (listed : Array Bool) (a : Act), HeadInv md ops n listed →
      (∀ j oj, ops[j]? = some oj → j ≠ i → listed.getD j true = false → (∀ e ∈ oj.after, Region.binds md e = true → e.on ≠ i) → oi.apart ops oj = true) →
      i ∈ Region.ready md ops listed → YieldsIn P ops C oi v a →
      wpAnyQL P md ops C n L f (listed.setIfInBounds i true) (a.put oi.dst v) → wpAnyQL P md ops C n L (f + 1) listed a := by
  intro f
  induction f with
  | zero =>
    intro listed a inv _ hr hy H
    have hun := (mem_ready.1 hr).1
    refine ⟨fun h => (by rw [h] at hr; cases hr), fun j hj => ?_⟩
    have hjn : j < n := by
      rcases Nat.lt_or_ge j n with h | h
      · exact h
      · exact absurd hj (tail_waits hs hc hn inv _ i rfl hin hun j h)
    refine ⟨hjn, ?_⟩
    by_cases hji : j = i
    · subst hji; exact hy.qOp hi H
    · have := hdone _ _ H j (ready_mono hj hji)
      omega
  | succ f ih =>
    intro listed a inv hfree hr hy H
    have hun := (mem_ready.1 hr).1
    refine ⟨fun h => (by rw [h] at hr; cases hr), fun j hj => ?_⟩
    have hjn : j < n := by
      rcases Nat.lt_or_ge j n with h | h
      · exact h
      · exact absurd hj (tail_waits hs hc hn inv _ i rfl hin hun j h)
    refine ⟨hjn, ?_⟩
    by_cases hji : j = i
    · subst hji; exact hy.qOp hi H
    · have h1 := (H.2 j (ready_mono hj hji)).2
      obtain ⟨hjun, oj, hoj, hall⟩ := mem_ready.1 hj
      have hnot : ∀ e ∈ oj.after, Region.binds md e = true → e.on ≠ i := fun e he hb heq => by
        have h1 := hall e he hb
        rw [heq, getD_both hun] at h1
        cases h1
      have h2 := qOp_put hoj (hfree j oj hoj hji hjun hnot) (fun cs b => hsel i oi cs b hi) (fun cs b => hsel j oj cs b hoj) hy h1
      have hfree' : ∀ k ok, ops[k]? = some ok → k ≠ i → (listed.setIfInBounds j true).getD k true = false →
          (∀ e ∈ ok.after, Region.binds md e = true → e.on ≠ i) → oi.apart ops ok = true := fun k ok hk hki hun hno => by
        refine hfree k ok hk hki ?_ hno
        by_cases hjk : j = k
        · subst hjk; exact hjun
        · rw [getD_set_ne true hjk] at hun; exact hun
      refine qOp_mono (fun a' h3 => ih (listed.setIfInBounds j true) a' (inv.set hj hjn) hfree' (ready_mono hr (Ne.symm hji)) h3.1 ?_) h2
      rw [Array.setIfInBounds_comm _ _ hji]
      exact h3.2

theorem wpAnyQL_lex {n g : Nat} {Lq : Act → Prop} (hsel : Region.noSelect ops = true) (hs : Region.sinkB md ops n = true) (hc : Region.chainB md ops n = true) (hn : n < ops.size) :
    ∀ (l : List Oper) (k : Nat) (listed : Array Bool) (a : Act), (∀ j, j < l.length → l[j]? = ops[k + j]?) → k + l.length = n → HeadInv md ops n listed →
    Region.lexHead md ops g l.length k listed = true → wpQuiet P ops C Lq l a →
    wpAnyQL P md ops C n (fun listed' a' => Region.seqB md ops g n listed' = true ∧ Lq a') l.length listed a
  | [], k, listed, a, _, hk, _, hB, h => by
    have : k = n := by simpa using hk
    subst this
    exact ⟨by simpa [Region.lexHead] using hB, h⟩
  | o :: l, k, listed, a, hl, hk, inv, hB, h => by
    have h0 : ops[k]? = some o := by simpa using (hl 0 (by simp)).symm
    simp only [List.length_cons, Region.lexHead, Bool.and_eq_true] at hB
    obtain ⟨⟨hr, hf⟩, hB'⟩ := hB
    have hkn : k < n := by simp only [List.length_cons] at hk; omega
    have hr' : k ∈ Region.ready md ops listed := by simpa using hr
    have hst : qOp P ops C k (wpQuiet P ops C Lq l) a := by unfold qOp; simp only [h0]; exact h
    obtain ⟨v, hy, hK⟩ := yieldsIn_of_qOp h0 hst
    exact wpAnyQL_first h0 (Region.noSelect_spec hsel) hs hc hn hkn (fun listed' a' hL => seqB_ready hL.1) l.length listed a inv (Region.free_spec h0 hf) hr' hy
      (wpAnyQL_lex hsel hs hc hn l (k + 1) _ _ (fun j hj => by have := hl (j + 1) (by simp; omega); simpa [Nat.add_assoc, Nat.add_comm 1 j] using this) (by simp only [List.length_cons] at hk; omega) (inv.set hr' hkn) hB' hK)

/-- The first n operations are quiet in a class of worlds; those behind them come in the order of the text. -/
theorem wp_region_quiet_tail {id : Nat} {Q : Exit → Act → World → Prop} {a : Act} {w : World} {l : List Oper} (n : Nat) (hm : P.follows .mixedOrders = true) (hB : Region.lexTailB .any l.toArray n = true) (hC : C { w with drawn := w.drawn + 1 })
    (h : wpQuiet P l.toArray C (fun a' => ∀ w', C w' → wpList P l.toArray Q (l.drop n) a' w') (l.take n) a) : (Code.region id l.toArray true).wp P Q a w := by
  simp only [Region.lexTailB, Bool.and_eq_true, decide_eq_true_eq] at hB
  obtain ⟨⟨⟨⟨hsel, hn⟩, hs⟩, hc⟩, hlex⟩ := hB
  have hn' : n < l.length := by simpa using hn
  have htl : (l.take n).length = n := by simp; omega
  have hdl : (l.drop n).length = l.toArray.size - n := by simp
  have inv0 : HeadInv .any l.toArray n (Array.replicate l.toArray.size false) :=
    ⟨by simp, fun j oj _ hl => (by rw [getD_replicate_false] at hl; cases hl), fun t _ ht => getD_in (by simpa using ht) (getD_replicate_false _ _)⟩
  have H := wpAnyQL_lex (C := C) (md := .any) (g := l.toArray.size - n) hsel hs hc hn (l.take n) 0 _ a (fun j hj => by
    have hj' : j < n := by rw [htl] at hj; exact hj
    simp [hj']) (by simpa using htl) inv0 (by rw [htl]; exact hlex) h
  refine wp_region_any hm ?_
  have := wpAny_of_qhead (Q' := Q) (g := l.toArray.size - n) (fun listed a' w' hw' hL => by
    have := wpAny_of_seq (md := .any) (Q' := Q) (l.drop n) n listed a' w' (fun j => by simp [List.getElem?_drop]) (by rw [hdl]; exact hL.1) (hL.2 w' hw')
    rwa [hdl] at this) _ _ _ _ hC H
  rw [htl, show n + (l.toArray.size - n) = l.toArray.size by omega] at this
  exact this

/-- The same, where what is called on the way only lays new blocks. -/
theorem wp_region_quiet_tail_k {id : Nat} {Q : Exit → Act → World → Prop} {a : Act} {w : World} {l : List Oper} (n : Nat) (hm : P.follows .mixedOrders = true) (hB : Region.lexTailB .any l.toArray n = true)
    (h : wpQuiet P l.toArray (fun w' => ∃ ξ : Kp w, w' = ξ.val) (fun a' => ∀ w', (∃ ξ : Kp w, w' = ξ.val) → wpList P l.toArray Q (l.drop n) a' w') (l.take n) a) : (Code.region id l.toArray true).wp P Q a w :=
  wp_region_quiet_tail (C := fun w' => ∃ ξ : Kp w, w' = ξ.val) n hm hB ⟨⟨{ w with drawn := w.drawn + 1 }, ⟨rfl, rfl, rfl, Nat.le_refl _, fun _ _ _ => rfl⟩⟩, rfl⟩ h
end

set_option maxRecDepth 100000 in
set_option maxHeartbeats 4000000 in
theorem ask_any {w : World} {S : Nat → Prop} {p : Nat} {x : NodV} {ov : Value} {out : List MesV} (h : Peer w S p x ov out) {cb : Nat} (hc : w.cell? ⟨cb, 0, none⟩ = some (.pointer (some ⟨p, 0, none⟩))) (k : Int) (hl : x.n.log.length ≤ 60) (hout : out.length ≤ 90) :
    Calls Try.prog 59 #[.int .i64 k, .pointer (some ⟨cb, 0, none⟩)] w fun e w' => e = .returned (.tuple #[]) ∧ ∃ S' ov' iv, Peer w' S' p x ov' (out ++ [⟨asks x.n k, iv⟩]) ∧ Keeps S w w' ∧ (∀ k, S' k → S k ∨ w.heap.size ≤ k) := by
  obtain ⟨LA, LC, VA, VC, NA, NC, MA, MC, OA, OC, hlv, hvv, hnv, hmv, hov, c0, c1, c2, c3, c4, c5, c6, c7, c8, c9, c10, c11, hfz, hpl⟩ := h.open_
  clear hvv hmv hov c0 c1 c2 c3 c5 c6 c7 c8 c9 c10 c11 hnv hfz hlv
  have hsl : Sl w S (.slice none 0 0) 2 (itemCells []) := ⟨none, 0, 0, rfl, rfl, Nat.le_refl _, by simp [maxLen], fun h => by simp [itemCells] at h⟩
  have f1 : ∀ ξ : Kp w, ξ.val.cell? ⟨cb, 0, none⟩ = some (.pointer (some ⟨p, 0, none⟩)) := fun ξ => ξ.keeps.cell (fun h => h) hc
  have f4 : ∀ ξ : Kp w, ξ.val.cell? ⟨p, 4, none⟩ = some (.slice LA x.n.log.length LC) := fun ξ => ξ.keeps.cell (fun h => h) c4
  obtain ⟨T, hT⟩ : ∃ T, T = termAt x.n.log x.n.log.length := ⟨_, rfl⟩
  have hcall : ∀ ξ : Kp w, Calls Try.prog 61 #[.pointer (some ⟨p, 0, none⟩), .int .i64 (x.n.log.length : Int)] ξ.val fun e w'' => e = .returned (.int .i64 T) ∧ ∃ ξ' : Kp w, w'' = ξ'.val := fun ξ => by
    rw [hT]
    refine (termAt_any (h.later ξ.keeps) _ hl (by omega) (by omega)).mono ?_
    rintro e w'' ⟨rfl, rfl⟩
    exact ⟨rfl, ξ, rfl⟩
  have HC := Lib.hid hcall; have HT := Lib.hid hT; have HS := Lib.hid hsl
  clear hcall hT hsl hc c4
  go_enter Try.func59, Try.ntmps59
  refine wp_region_quiet_tail_k 17 (by kernel_rfl) (by kernel_rfl) ?_
  simp only [List.take_succ_cons, List.take_zero, List.drop_succ_cons, List.drop_zero]
  repeat (go_big_quiet_step (first | exact HC.out _ | (go_at_call 61; exact HC.out _)))
  refine wpQuiet_nil ?_
  intro _ hw'
  obtain ⟨ξ, hw''⟩ := hw'
  subst hw''
  go_wp2_with (go_at_call 60; refine (say_lit (h.later ξ.keeps) _ _ _ _ _ [] _ _ (HS.out.keep ξ.keeps (fun _ _ h => h.elim)) (fun _ h => by simp [Value.ownBlock] at h) (by omega)).mono ?_; rintro e w2 ⟨rfl, S', ov', pp, kk2, ss2⟩)
  go_end0
  refine ⟨rfl, S', ov', _, by unfold asks; rw [← HT.out]; exact pp, (ξ.keeps.mono (fun _ h => h.elim)).trans kk2 (fun _ h => .inl h), fun k hk' => (ss2 k hk').imp id fun h => Nat.le_trans ξ.keeps.size h⟩
end Go.Proofs.Ytibjbpakbfodaaa
namespace Go.Proofs.Ytibjbpakbfodaaa
open Go.RowKit

section
variable {P : Program} {ops : Array Oper} {md : Region.Mode} {C : World → Prop}

/-- What is left of an operation that is no call: the world is of the class. -/
def plainUpon (C : World → Prop) (o : Oper) (a : Act) (K : Act → World → Prop) : Result Next → Prop
  | .ok (.value v) w' => C w' ∧ K (a.put o.dst v) w'
  | .ok .skip w' => C w' ∧ K (a.put o.dst undef) w'
  | _ => False

theorem plainUpon_mono {o : Oper} {a a1 : Act} {K K' : Act → World → Prop} (h : ∀ u w', C w' → K (a.put o.dst u) w' → K' (a1.put o.dst u) w') : ∀ {r : Result Next}, plainUpon C o a K r → plainUpon C o a1 K' r := by
  intro r hr
  cases r with
  | ok n w' =>
    cases n <;> simp only [plainUpon] at hr ⊢
    case value v => exact ⟨hr.1, h _ _ hr.1 hr.2⟩
    case skip => exact ⟨hr.1, h _ _ hr.1 hr.2⟩
  | halt x w' => simp only [plainUpon] at hr

def pOp (P : Program) (ops : Array Oper) (C : World → Prop) (i : Nat) (K : Act → World → Prop) (a : Act) (w : World) : Prop :=
  match ops[i]? with
  | none => K a w
  | some o => if Region.wanted o (yielded ops a.tmps) then plainUpon C o a K ((execOp a.eval o).run P w) else K (a.put o.dst undef) w

def wpAnyP (P : Program) (md : Region.Mode) (ops : Array Oper) (C : World → Prop) (Q : Act → World → Prop) : Nat → Array Bool → Act → World → Prop
  | 0, listed, a, w => Region.ready md ops listed = [] ∧ Q a w
  | fuel + 1, listed, a, w =>
    (Region.ready md ops listed = [] → Q a w) ∧ ∀ i ∈ Region.ready md ops listed, pOp P ops C i (wpAnyP P md ops C Q fuel (listed.setIfInBounds i true)) a w

theorem wpOp_of_pOp {i : Nat} {a : Act} {K K' : Act → World → Prop} {Q' : Exit → Act → World → Prop} {w : World} (h : ∀ a w', K a w' → K' a w') (hh : pOp P ops C i K a w) : wpOp P ops Q' i K' a w := by
  unfold pOp at hh
  unfold wpOp
  split
  · rename_i ho; simp only [ho] at hh; exact h _ _ hh
  · rename_i o ho
    simp only [ho] at hh
    split
    · rename_i hw
      simp only [hw, if_true] at hh
      refine .inl ?_
      unfold Oper.wp
      generalize (execOp a.eval o).run P w = r at *
      cases r with
      | ok n w' =>
        cases n <;> simp only [plainUpon] at hh <;> simp only [Oper.upon]
        case value v => exact h _ _ hh.2
        case skip => exact h _ _ hh.2
      | halt x w' => simp only [plainUpon] at hh
    · rename_i hw; simp only [hw] at hh; exact h _ _ hh

theorem wpAny_of_plain {Q' : Exit → Act → World → Prop} : ∀ (fuel : Nat) (listed : Array Bool) (a : Act) (w : World), wpAnyP P md ops C (fun a w => Q' .normal a w) fuel listed a w → wpAny P md ops Q' fuel listed a w
  | 0, _, _, _, h => h
  | fuel + 1, _, _, _, h => ⟨h.1, fun i hi => wpOp_of_pOp (fun a' w' => wpAny_of_plain fuel _ a' w') (h.2 i hi)⟩

def stayUpon (w : World) (v : Value) : Result Next → Prop
  | .ok (.value u) w' => w' = w ∧ u = v
  | .ok .skip w' => w' = w ∧ v = undef
  | _ => False

/-- In every world of the class the operation yields v, and leaves the world as it is. -/
def StaysIn (P : Program) (ops : Array Oper) (C : World → Prop) (o : Oper) (v : Value) (a : Act) : Prop :=
  (Region.wanted o (yielded ops a.tmps) = true ∧ ∀ w, C w → stayUpon w v ((execOp a.eval o).run P w)) ∨ (Region.wanted o (yielded ops a.tmps) = false ∧ v = undef)

theorem StaysIn.pOp {i : Nat} {o : Oper} {v : Value} {a : Act} {w : World} (hi : ops[i]? = some o) (hy : StaysIn P ops C o v a) (hC : C w) {K : Act → World → Prop} (h : K (a.put o.dst v) w) : pOp P ops C i K a w := by
  unfold Go.Proofs.Ytibjbpakbfodaaa.pOp
  simp only [hi]
  rcases hy with ⟨hw, hv⟩ | ⟨hw, rfl⟩
  · simp only [hw, if_true]
    have h1 := hv w hC
    generalize (execOp a.eval o).run P w = r at *
    cases r with
    | ok n w' =>
      cases n <;> simp only [stayUpon] at h1 <;> simp only [plainUpon]
      case value u => obtain ⟨rfl, rfl⟩ := h1; exact ⟨hC, h⟩
      case skip => obtain ⟨rfl, rfl⟩ := h1; exact ⟨hC, h⟩
    | halt x w' => simp only [stayUpon] at h1
  · simp only [hw, Bool.false_eq_true, if_false]; exact h

theorem StaysIn.of_same {o : Oper} {v : Value} {a a' : Act} (hy : StaysIn P ops C o v a) (he : execOp a'.eval o = execOp a.eval o)
    (hw : Region.wanted o (yielded ops a'.tmps) = Region.wanted o (yielded ops a.tmps)) : StaysIn P ops C o v a' := by
  unfold StaysIn at *
  rw [he, hw]
  exact hy

theorem pOp_put {j : Nat} {oi oj : Oper} {v : Value} (hj : ops[j]? = some oj) (hap : oi.apart ops oj = true)
    (hsi : ∀ cs b, oi.op ≠ .select cs b) (hsj : ∀ cs b, oj.op ≠ .select cs b) {K : Act → World → Prop} {a : Act} {w : World} (hC : C w)
    (hy : StaysIn P ops C oi v a) (h : pOp P ops C j K (a.put oi.dst v) w) :
    pOp P ops C j (fun a' w' => C w' ∧ StaysIn P ops C oi v a' ∧ K (a'.put oi.dst v) w') a w := by
  obtain ⟨h1, h2, h3⟩ := Oper.apart_spec hap
  have keep : ∀ (a : Act), StaysIn P ops C oi v a → ∀ u, StaysIn P ops C oi v (a.put oj.dst u) := fun a hy u =>
    hy.of_same (execOp_put oi hsi a oj.dst u h3) (wanted_put oi a oj.dst u h3)
  unfold pOp at *
  simp only [hj] at *
  rw [wanted_put oj a oi.dst v h1] at h
  split
  · rename_i hw
    simp only [hw, if_true] at h
    rw [execOp_put oj hsj a oi.dst v h1] at h
    exact plainUpon_mono (fun u w' hC' hK => ⟨hC', keep a hy u, by rw [← Act.put_comm a v u h2]; exact hK⟩) h
  · rename_i hw
    simp only [hw] at h
    exact ⟨hC, keep a hy _, by rw [← Act.put_comm a v undef h2]; exact h⟩

theorem pOp_mono {i : Nat} {a : Act} {K K' : Act → World → Prop} {w : World} (h : ∀ a w', K a w' → K' a w') (hh : pOp P ops C i K a w) : pOp P ops C i K' a w := by
  unfold pOp at *
  split
  · rename_i ho; simp only [ho] at hh; exact h _ _ hh
  · rename_i o ho
    simp only [ho] at hh
    split
    · rename_i hw; simp only [hw, if_true] at hh; exact plainUpon_mono (fun u w' _ hK => h _ _ hK) hh
    · rename_i hw; simp only [hw] at hh; exact h _ _ hh

theorem wpAnyP_first {Q : Act → World → Prop} {i : Nat} {oi : Oper} {v : Value} (hi : ops[i]? = some oi) (hsel : ∀ (j : Nat) (o : Oper) cs b, ops[j]? = some o → o.op ≠ .select cs b) :
    ∀ (fuel : Nat) (listed : Array Bool) (a : Act) (w : World), C w →
      (∀ j oj, ops[j]? = some oj → j ≠ i → listed.getD j true = false → (∀ e ∈ oj.after, Region.binds md e = true → e.on ≠ i) → oi.apart ops oj = true) →
      i ∈ Region.ready md ops listed → StaysIn P ops C oi v a →
      wpAnyP P md ops C Q fuel (listed.setIfInBounds i true) (a.put oi.dst v) w → wpAnyP P md ops C Q (fuel + 1) listed a w := by
  intro fuel
  induction fuel with
  | zero =>
    intro listed a w hC _ hr hy H
    refine ⟨fun h => (by rw [h] at hr; cases hr), fun j hj => ?_⟩
    by_cases hji : j = i
    · subst hji; exact hy.pOp hi hC H
    · have := ready_mono hj hji
      rw [H.1] at this
      cases this
  | succ fuel ih =>
    intro listed a w hC hfree hr hy H
    refine ⟨fun h => (by rw [h] at hr; cases hr), fun j hj => ?_⟩
    by_cases hji : j = i
    · subst hji; exact hy.pOp hi hC H
    · have h1 := H.2 j (ready_mono hj hji)
      obtain ⟨hjun, oj, hoj, hall⟩ := mem_ready.1 hj
      have hnot : ∀ e ∈ oj.after, Region.binds md e = true → e.on ≠ i := fun e he hb heq => by
        have h1 := hall e he hb
        have h0 := (mem_ready.1 hr).1
        rw [heq] at h1
        rcases Nat.lt_or_ge i listed.size with h' | h'
        · simp [h'] at h0 h1; rw [h0] at h1; cases h1
        · simp [Array.getElem?_eq_none h'] at h1
      have h2 := pOp_put hoj (hfree j oj hoj hji hjun hnot) (fun cs b => hsel i oi cs b hi) (fun cs b => hsel j oj cs b hoj) hC hy h1
      have hfree' : ∀ k ok, ops[k]? = some ok → k ≠ i → (listed.setIfInBounds j true).getD k true = false →
          (∀ e ∈ ok.after, Region.binds md e = true → e.on ≠ i) → oi.apart ops ok = true := fun k ok hk hki hun hno => by
        refine hfree k ok hk hki ?_ hno
        by_cases hjk : j = k
        · subst hjk; exact hjun
        · rw [getD_set_ne true hjk] at hun; exact hun
      refine pOp_mono (fun a' w' h3 => ih (listed.setIfInBounds j true) a' w' h3.1 hfree' (ready_mono hr (Ne.symm hji)) h3.2.1 ?_) h2
      rw [Array.setIfInBounds_comm _ _ hji]
      exact h3.2.2

/-- Operations, by their numbers, each of which only reads: the frame behind them. -/
def wpStays (P : Program) (ops : Array Oper) (C : World → Prop) : List Nat → Act → Act → Prop
  | [], a, b => a = b
  | k :: ks, a, b => ∃ o, ops[k]? = some o ∧ o.guard = none ∧ ∃ v, (∀ w, C w → stayUpon w v ((execOp a.eval o).run P w)) ∧ wpStays P ops C ks (a.put o.dst v) b

theorem wpStays_step {k : Nat} {ks : List Nat} {a b : Act} {o : Oper} (ho : ops[k]? = some o) (hg : o.guard = none) (v : Value) (h : ∀ w, C w → stayUpon w v ((execOp a.eval o).run P w)) (hr : wpStays P ops C ks (a.put o.dst v) b) :
    wpStays P ops C (k :: ks) a b := ⟨o, ho, hg, v, h, hr⟩

def firstFrom (md : Region.Mode) (ops : Array Oper) : List Nat → Array Bool → Bool
  | [], _ => true
  | k :: ks, listed => (Region.ready md ops listed).contains k && Region.free md ops listed k && firstFrom md ops ks (listed.setIfInBounds k true)

def marked (listed : Array Bool) : List Nat → Array Bool
  | [] => listed
  | k :: ks => marked (listed.setIfInBounds k true) ks

theorem wanted_of_none {o : Oper} (h : o.guard = none) (y : Nat → Option Bool) : Region.wanted o y = true := by
  unfold Region.wanted
  rw [h]

theorem wpAnyP_stays {Q : Act → World → Prop} (hs : Region.noSelect ops = true) : ∀ (qs : List Nat) (listed : Array Bool) (a b : Act) (fuel : Nat) (w : World), C w → firstFrom md ops qs listed = true →
    wpStays P ops C qs a b → wpAnyP P md ops C Q fuel (marked listed qs) b w → wpAnyP P md ops C Q (fuel + qs.length) listed a w
  | [], _, a, b, fuel, w, _, _, h, H => by
    have : a = b := h
    subst this
    exact H
  | k :: ks, listed, a, b, fuel, w, hC, hB, h, H => by
    obtain ⟨o, ho, hg, v, hv, hr⟩ := h
    simp only [firstFrom, Bool.and_eq_true] at hB
    obtain ⟨⟨h1, h2⟩, h3⟩ := hB
    have := wpAnyP_stays hs ks (listed.setIfInBounds k true) (a.put o.dst v) b fuel w hC h3 hr H
    exact wpAnyP_first ho (Region.noSelect_spec hs) (fuel + ks.length) listed a w hC (Region.free_spec ho h2) (by simpa using h1) (.inl ⟨wanted_of_none hg _, hv⟩) this

theorem wpAnyP_one {Q : Act → World → Prop} {i fuel : Nat} {o : Oper} {listed : Array Bool} {a : Act} {w : World} (hr : Region.ready md ops listed = [i]) (ho : ops[i]? = some o) (hg : o.guard = none)
    (h : plainUpon C o a (wpAnyP P md ops C Q fuel (listed.setIfInBounds i true)) ((execOp a.eval o).run P w)) : wpAnyP P md ops C Q (fuel + 1) listed a w := by
  refine ⟨fun h0 => (by rw [hr] at h0; cases h0), fun j hj => ?_⟩
  rw [hr] at hj
  obtain rfl : j = i := by simpa using hj
  unfold pOp
  simp only [ho, wanted_of_none hg, if_true]
  exact h

theorem wpAnyP_two {Q : Act → World → Prop} {i k fuel : Nat} {o o' : Oper} {listed : Array Bool} {a : Act} {w : World} (hr : Region.ready md ops listed = [i, k]) (ho : ops[i]? = some o) (hg : o.guard = none) (ho' : ops[k]? = some o') (hg' : o'.guard = none)
    (h : plainUpon C o a (wpAnyP P md ops C Q fuel (listed.setIfInBounds i true)) ((execOp a.eval o).run P w))
    (h' : plainUpon C o' a (wpAnyP P md ops C Q fuel (listed.setIfInBounds k true)) ((execOp a.eval o').run P w)) : wpAnyP P md ops C Q (fuel + 1) listed a w := by
  refine ⟨fun h0 => (by rw [hr] at h0; cases h0), fun j hj => ?_⟩
  rw [hr] at hj
  unfold pOp
  rcases List.mem_cons.1 hj with rfl | hj
  · simp only [ho, wanted_of_none hg, if_true]
    exact h
  · obtain rfl : j = k := by simpa using hj
    simp only [ho', wanted_of_none hg', if_true]
    exact h'

theorem wp_region_first {id : Nat} {Q : Exit → Act → World → Prop} {a : Act} {w : World} {l : List Oper} (hm : P.follows .mixedOrders = true)
    (h : wpAnyP P .any l.toArray C (fun a w => Q .normal a w) l.length (Array.replicate l.length false) a { w with drawn := w.drawn + 1 }) : (Code.region id l.toArray true).wp P Q a w :=
  wp_region_any hm (wpAny_of_plain (C := C) _ _ _ _ (by simpa using h))
end
end Go.Proofs.Ytibjbpakbfodaaa
namespace Go.Proofs.Ytibjbpakbfodaaa.Wc
open Go.RowKit

section
variable {P : Program} {ops : Array Oper} {md : Region.Mode} {C : World → Prop}

/-- What is left of an operation: the world is of the class. -/
def plainUpon (P : Program) (C : World → Prop) (o : Oper) (a : Act) (K : Act → World → Prop) : Result Next → Prop
  | .ok (.enter f args) w' => Calls P f args w' fun e w'' => ∃ v, e = .returned v ∧ C w'' ∧ K (a.put o.dst v) w''
  | .ok (.value v) w' => C w' ∧ K (a.put o.dst v) w'
  | .ok .skip w' => C w' ∧ K (a.put o.dst undef) w'
  | _ => False

theorem plainUpon_mono {o : Oper} {a a1 : Act} {K K' : Act → World → Prop} (h : ∀ u w', C w' → K (a.put o.dst u) w' → K' (a1.put o.dst u) w') : ∀ {r : Result Next}, plainUpon P C o a K r → plainUpon P C o a1 K' r := by
  intro r hr
  cases r with
  | ok n w' =>
    cases n <;> simp only [plainUpon] at hr ⊢
    case value v => exact ⟨hr.1, h _ _ hr.1 hr.2⟩
    case skip => exact ⟨hr.1, h _ _ hr.1 hr.2⟩
    case enter f args => exact hr.mono fun e w'' ⟨v, h1, h2, h3⟩ => ⟨v, h1, h2, h _ _ h2 h3⟩
  | halt x w' => simp only [plainUpon] at hr

def pOp (P : Program) (ops : Array Oper) (C : World → Prop) (i : Nat) (K : Act → World → Prop) (a : Act) (w : World) : Prop :=
  match ops[i]? with
  | none => K a w
  | some o => if Region.wanted o (yielded ops a.tmps) then plainUpon P C o a K ((execOp a.eval o).run P w) else K (a.put o.dst undef) w

def wpAnyP (P : Program) (md : Region.Mode) (ops : Array Oper) (C : World → Prop) (Q : Act → World → Prop) : Nat → Array Bool → Act → World → Prop
  | 0, listed, a, w => Region.ready md ops listed = [] ∧ Q a w
  | fuel + 1, listed, a, w =>
    (Region.ready md ops listed = [] → Q a w) ∧ ∀ i ∈ Region.ready md ops listed, pOp P ops C i (wpAnyP P md ops C Q fuel (listed.setIfInBounds i true)) a w

theorem wpOp_of_pOp {i : Nat} {a : Act} {K K' : Act → World → Prop} {Q' : Exit → Act → World → Prop} {w : World} (h : ∀ a w', K a w' → K' a w') (hh : pOp P ops C i K a w) : wpOp P ops Q' i K' a w := by
  unfold pOp at hh
  unfold wpOp
  split
  · rename_i ho; simp only [ho] at hh; exact h _ _ hh
  · rename_i o ho
    simp only [ho] at hh
    split
    · rename_i hw
      simp only [hw, if_true] at hh
      refine .inl ?_
      unfold Oper.wp
      generalize (execOp a.eval o).run P w = r at *
      cases r with
      | ok n w' =>
        cases n <;> simp only [plainUpon] at hh <;> simp only [Oper.upon]
        case value v => exact h _ _ hh.2
        case skip => exact h _ _ hh.2
        case enter f args => exact hh.mono fun e w'' ⟨v, h1, _, h3⟩ => by subst h1; exact h _ _ h3
      | halt x w' => simp only [plainUpon] at hh
    · rename_i hw; simp only [hw] at hh; exact h _ _ hh

theorem wpAny_of_plain {Q' : Exit → Act → World → Prop} : ∀ (fuel : Nat) (listed : Array Bool) (a : Act) (w : World), wpAnyP P md ops C (fun a w => Q' .normal a w) fuel listed a w → wpAny P md ops Q' fuel listed a w
  | 0, _, _, _, h => h
  | fuel + 1, _, _, _, h => ⟨h.1, fun i hi => wpOp_of_pOp (fun a' w' => wpAny_of_plain fuel _ a' w') (h.2 i hi)⟩

def stayUpon (w : World) (v : Value) : Result Next → Prop
  | .ok (.value u) w' => w' = w ∧ u = v
  | .ok .skip w' => w' = w ∧ v = undef
  | _ => False

/-- In every world of the class the operation yields v, and leaves the world as it is. -/
def StaysIn (P : Program) (ops : Array Oper) (C : World → Prop) (o : Oper) (v : Value) (a : Act) : Prop :=
  (Region.wanted o (yielded ops a.tmps) = true ∧ ∀ w, C w → stayUpon w v ((execOp a.eval o).run P w)) ∨ (Region.wanted o (yielded ops a.tmps) = false ∧ v = undef)

theorem StaysIn.pOp {i : Nat} {o : Oper} {v : Value} {a : Act} {w : World} (hi : ops[i]? = some o) (hy : StaysIn P ops C o v a) (hC : C w) {K : Act → World → Prop} (h : K (a.put o.dst v) w) : pOp P ops C i K a w := by
  unfold Go.Proofs.Ytibjbpakbfodaaa.Wc.pOp
  simp only [hi]
  rcases hy with ⟨hw, hv⟩ | ⟨hw, rfl⟩
  · simp only [hw, if_true]
    have h1 := hv w hC
    generalize (execOp a.eval o).run P w = r at *
    cases r with
    | ok n w' =>
      cases n <;> simp only [stayUpon] at h1 <;> simp only [plainUpon]
      case value u => obtain ⟨rfl, rfl⟩ := h1; exact ⟨hC, h⟩
      case skip => obtain ⟨rfl, rfl⟩ := h1; exact ⟨hC, h⟩
    | halt x w' => simp only [stayUpon] at h1
  · simp only [hw, Bool.false_eq_true, if_false]; exact h

theorem StaysIn.of_same {o : Oper} {v : Value} {a a' : Act} (hy : StaysIn P ops C o v a) (he : execOp a'.eval o = execOp a.eval o)
    (hw : Region.wanted o (yielded ops a'.tmps) = Region.wanted o (yielded ops a.tmps)) : StaysIn P ops C o v a' := by
  unfold StaysIn at *
  rw [he, hw]
  exact hy

theorem pOp_put {j : Nat} {oi oj : Oper} {v : Value} (hj : ops[j]? = some oj) (hap : oi.apart ops oj = true)
    (hsi : ∀ cs b, oi.op ≠ .select cs b) (hsj : ∀ cs b, oj.op ≠ .select cs b) {K : Act → World → Prop} {a : Act} {w : World} (hC : C w)
    (hy : StaysIn P ops C oi v a) (h : pOp P ops C j K (a.put oi.dst v) w) :
    pOp P ops C j (fun a' w' => C w' ∧ StaysIn P ops C oi v a' ∧ K (a'.put oi.dst v) w') a w := by
  obtain ⟨h1, h2, h3⟩ := Oper.apart_spec hap
  have keep : ∀ (a : Act), StaysIn P ops C oi v a → ∀ u, StaysIn P ops C oi v (a.put oj.dst u) := fun a hy u =>
    hy.of_same (execOp_put oi hsi a oj.dst u h3) (wanted_put oi a oj.dst u h3)
  unfold pOp at *
  simp only [hj] at *
  rw [wanted_put oj a oi.dst v h1] at h
  split
  · rename_i hw
    simp only [hw, if_true] at h
    rw [execOp_put oj hsj a oi.dst v h1] at h
    exact plainUpon_mono (fun u w' hC' hK => ⟨hC', keep a hy u, by rw [← Act.put_comm a v u h2]; exact hK⟩) h
  · rename_i hw
    simp only [hw] at h
    exact ⟨hC, keep a hy _, by rw [← Act.put_comm a v undef h2]; exact h⟩

theorem pOp_mono {i : Nat} {a : Act} {K K' : Act → World → Prop} {w : World} (h : ∀ a w', K a w' → K' a w') (hh : pOp P ops C i K a w) : pOp P ops C i K' a w := by
  unfold pOp at *
  split
  · rename_i ho; simp only [ho] at hh; exact h _ _ hh
  · rename_i o ho
    simp only [ho] at hh
    split
    · rename_i hw; simp only [hw, if_true] at hh; exact plainUpon_mono (fun u w' _ hK => h _ _ hK) hh
    · rename_i hw; simp only [hw] at hh; exact h _ _ hh

theorem wpAnyP_first {Q : Act → World → Prop} {i : Nat} {oi : Oper} {v : Value} (hi : ops[i]? = some oi) (hsel : ∀ (j : Nat) (o : Oper) cs b, ops[j]? = some o → o.op ≠ .select cs b) :
    ∀ (fuel : Nat) (listed : Array Bool) (a : Act) (w : World), C w →
      (∀ j oj, ops[j]? = some oj → j ≠ i → listed.getD j true = false → (∀ e ∈ oj.after, Region.binds md e = true → e.on ≠ i) → oi.apart ops oj = true) →
      i ∈ Region.ready md ops listed → StaysIn P ops C oi v a →
      wpAnyP P md ops C Q fuel (listed.setIfInBounds i true) (a.put oi.dst v) w → wpAnyP P md ops C Q (fuel + 1) listed a w := by
  intro fuel
  induction fuel with
  | zero =>
    intro listed a w hC _ hr hy H
    refine ⟨fun h => (by rw [h] at hr; cases hr), fun j hj => ?_⟩
    by_cases hji : j = i
    · subst hji; exact hy.pOp hi hC H
    · have := ready_mono hj hji
      rw [H.1] at this
      cases this
  | succ fuel ih =>
    intro listed a w hC hfree hr hy H
    refine ⟨fun h => (by rw [h] at hr; cases hr), fun j hj => ?_⟩
    by_cases hji : j = i
    · subst hji; exact hy.pOp hi hC H
    · have h1 := H.2 j (ready_mono hj hji)
      obtain ⟨hjun, oj, hoj, hall⟩ := mem_ready.1 hj
      have hnot : ∀ e ∈ oj.after, Region.binds md e = true → e.on ≠ i := fun e he hb heq => by
        have h1 := hall e he hb
        have h0 := (mem_ready.1 hr).1
        rw [heq] at h1
        rcases Nat.lt_or_ge i listed.size with h' | h'
        · simp [h'] at h0 h1; rw [h0] at h1; cases h1
        · simp [Array.getElem?_eq_none h'] at h1
      have h2 := pOp_put hoj (hfree j oj hoj hji hjun hnot) (fun cs b => hsel i oi cs b hi) (fun cs b => hsel j oj cs b hoj) hC hy h1
      have hfree' : ∀ k ok, ops[k]? = some ok → k ≠ i → (listed.setIfInBounds j true).getD k true = false →
          (∀ e ∈ ok.after, Region.binds md e = true → e.on ≠ i) → oi.apart ops ok = true := fun k ok hk hki hun hno => by
        refine hfree k ok hk hki ?_ hno
        by_cases hjk : j = k
        · subst hjk; exact hjun
        · rw [getD_set_ne true hjk] at hun; exact hun
      refine pOp_mono (fun a' w' h3 => ih (listed.setIfInBounds j true) a' w' h3.1 hfree' (ready_mono hr (Ne.symm hji)) h3.2.1 ?_) h2
      rw [Array.setIfInBounds_comm _ _ hji]
      exact h3.2.2

/-- Operations, by their numbers, each of which only reads: the frame behind them. -/
def wpStays (P : Program) (ops : Array Oper) (C : World → Prop) : List Nat → Act → Act → Prop
  | [], a, b => a = b
  | k :: ks, a, b => ∃ o, ops[k]? = some o ∧ o.guard = none ∧ ∃ v, (∀ w, C w → stayUpon w v ((execOp a.eval o).run P w)) ∧ wpStays P ops C ks (a.put o.dst v) b

theorem wpStays_step {k : Nat} {ks : List Nat} {a b : Act} {o : Oper} (ho : ops[k]? = some o) (hg : o.guard = none) (v : Value) (h : ∀ w, C w → stayUpon w v ((execOp a.eval o).run P w)) (hr : wpStays P ops C ks (a.put o.dst v) b) :
    wpStays P ops C (k :: ks) a b := ⟨o, ho, hg, v, h, hr⟩

def firstFrom (md : Region.Mode) (ops : Array Oper) : List Nat → Array Bool → Bool
  | [], _ => true
  | k :: ks, listed => (Region.ready md ops listed).contains k && Region.free md ops listed k && firstFrom md ops ks (listed.setIfInBounds k true)

def marked (listed : Array Bool) : List Nat → Array Bool
  | [] => listed
  | k :: ks => marked (listed.setIfInBounds k true) ks

theorem wanted_of_none {o : Oper} (h : o.guard = none) (y : Nat → Option Bool) : Region.wanted o y = true := by
  unfold Region.wanted
  rw [h]

theorem wpAnyP_stays {Q : Act → World → Prop} (hs : Region.noSelect ops = true) : ∀ (qs : List Nat) (listed : Array Bool) (a b : Act) (fuel : Nat) (w : World), C w → firstFrom md ops qs listed = true →
    wpStays P ops C qs a b → wpAnyP P md ops C Q fuel (marked listed qs) b w → wpAnyP P md ops C Q (fuel + qs.length) listed a w
  | [], _, a, b, fuel, w, _, _, h, H => by
    have : a = b := h
    subst this
    exact H
  | k :: ks, listed, a, b, fuel, w, hC, hB, h, H => by
    obtain ⟨o, ho, hg, v, hv, hr⟩ := h
    simp only [firstFrom, Bool.and_eq_true] at hB
    obtain ⟨⟨h1, h2⟩, h3⟩ := hB
    have := wpAnyP_stays hs ks (listed.setIfInBounds k true) (a.put o.dst v) b fuel w hC h3 hr H
    exact wpAnyP_first ho (Region.noSelect_spec hs) (fuel + ks.length) listed a w hC (Region.free_spec ho h2) (by simpa using h1) (.inl ⟨wanted_of_none hg _, hv⟩) this

theorem wpAnyP_one {Q : Act → World → Prop} {i fuel : Nat} {o : Oper} {listed : Array Bool} {a : Act} {w : World} (hr : Region.ready md ops listed = [i]) (ho : ops[i]? = some o) (hg : o.guard = none)
    (h : plainUpon P C o a (wpAnyP P md ops C Q fuel (listed.setIfInBounds i true)) ((execOp a.eval o).run P w)) : wpAnyP P md ops C Q (fuel + 1) listed a w := by
  refine ⟨fun h0 => (by rw [hr] at h0; cases h0), fun j hj => ?_⟩
  rw [hr] at hj
  obtain rfl : j = i := by simpa using hj
  unfold pOp
  simp only [ho, wanted_of_none hg, if_true]
  exact h

theorem wpAnyP_two {Q : Act → World → Prop} {i k fuel : Nat} {o o' : Oper} {listed : Array Bool} {a : Act} {w : World} (hr : Region.ready md ops listed = [i, k]) (ho : ops[i]? = some o) (hg : o.guard = none) (ho' : ops[k]? = some o') (hg' : o'.guard = none)
    (h : plainUpon P C o a (wpAnyP P md ops C Q fuel (listed.setIfInBounds i true)) ((execOp a.eval o).run P w))
    (h' : plainUpon P C o' a (wpAnyP P md ops C Q fuel (listed.setIfInBounds k true)) ((execOp a.eval o').run P w)) : wpAnyP P md ops C Q (fuel + 1) listed a w := by
  refine ⟨fun h0 => (by rw [hr] at h0; cases h0), fun j hj => ?_⟩
  rw [hr] at hj
  unfold pOp
  rcases List.mem_cons.1 hj with rfl | hj
  · simp only [ho, wanted_of_none hg, if_true]
    exact h
  · obtain rfl : j = k := by simpa using hj
    simp only [ho', wanted_of_none hg', if_true]
    exact h'

theorem wp_region_first {id : Nat} {Q : Exit → Act → World → Prop} {a : Act} {w : World} {l : List Oper} (hm : P.follows .mixedOrders = true)
    (h : wpAnyP P .any l.toArray C (fun a w => Q .normal a w) l.length (Array.replicate l.length false) a { w with drawn := w.drawn + 1 }) : (Code.region id l.toArray true).wp P Q a w :=
  wp_region_any hm (wpAny_of_plain (C := C) _ _ _ _ (by simpa using h))
end
end Go.Proofs.Ytibjbpakbfodaaa.Wc
namespace Go.Proofs.Ytibjbpakbfodaaa.Wf
open Go.RowKit

section
variable {P : Program} {ops : Array Oper} {md : Region.Mode} {C : World → Prop} {f : Nat}

/-- What is left of an operation: the world is of the class. -/
def plainUpon (P : Program) (C : World → Prop) (o : Oper) (a : Act) (K : Act → World → Prop) : Result Next → Prop
  | .ok (.enter f args) w' => Calls P f args w' fun e w'' => ∃ v, e = .returned v ∧ C w'' ∧ K (a.put o.dst v) w''
  | .ok (.value v) w' => C w' ∧ K (a.put o.dst v) w'
  | .ok .skip w' => C w' ∧ K (a.put o.dst undef) w'
  | _ => False

theorem plainUpon_mono {o : Oper} {a a1 : Act} {K K' : Act → World → Prop} (h : ∀ u w', C w' → K (a.put o.dst u) w' → K' (a1.put o.dst u) w') : ∀ {r : Result Next}, plainUpon P C o a K r → plainUpon P C o a1 K' r := by
  intro r hr
  cases r with
  | ok n w' =>
    cases n <;> simp only [plainUpon] at hr ⊢
    case value v => exact ⟨hr.1, h _ _ hr.1 hr.2⟩
    case skip => exact ⟨hr.1, h _ _ hr.1 hr.2⟩
    case enter f args => exact hr.mono fun e w'' ⟨v, h1, h2, h3⟩ => ⟨v, h1, h2, h _ _ h2 h3⟩
  | halt x w' => simp only [plainUpon] at hr

def pOp (P : Program) (ops : Array Oper) (C : World → Prop) (f : Nat) (i : Nat) (K : Act → World → Prop) (a : Act) (w : World) : Prop :=
  match ops[i]? with
  | none => K a w
  | some o => if Region.wanted o (yielded ops a.tmps) then plainUpon P (fun w => i = f ∨ C w) o a K ((execOp a.eval o).run P w) else K (a.put o.dst undef) w

def wpAnyP (P : Program) (md : Region.Mode) (ops : Array Oper) (C : World → Prop) (f : Nat) (Q : Act → World → Prop) : Nat → Array Bool → Act → World → Prop
  | 0, listed, a, w => Region.ready md ops listed = [] ∧ Q a w
  | fuel + 1, listed, a, w =>
    (Region.ready md ops listed = [] → Q a w) ∧ ∀ i ∈ Region.ready md ops listed, pOp P ops C f i (wpAnyP P md ops C f Q fuel (listed.setIfInBounds i true)) a w

theorem wpOp_of_pOp {i : Nat} {a : Act} {K K' : Act → World → Prop} {Q' : Exit → Act → World → Prop} {w : World} (h : ∀ a w', K a w' → K' a w') (hh : pOp P ops C f i K a w) : wpOp P ops Q' i K' a w := by
  unfold pOp at hh
  unfold wpOp
  split
  · rename_i ho; simp only [ho] at hh; exact h _ _ hh
  · rename_i o ho
    simp only [ho] at hh
    split
    · rename_i hw
      simp only [hw, if_true] at hh
      refine .inl ?_
      unfold Oper.wp
      generalize (execOp a.eval o).run P w = r at *
      cases r with
      | ok n w' =>
        cases n <;> simp only [plainUpon] at hh <;> simp only [Oper.upon]
        case value v => exact h _ _ hh.2
        case skip => exact h _ _ hh.2
        case enter f args => exact hh.mono fun e w'' ⟨v, h1, _, h3⟩ => by subst h1; exact h _ _ h3
      | halt x w' => simp only [plainUpon] at hh
    · rename_i hw; simp only [hw] at hh; exact h _ _ hh

theorem wpAny_of_plain {Q' : Exit → Act → World → Prop} : ∀ (fuel : Nat) (listed : Array Bool) (a : Act) (w : World), wpAnyP P md ops C f (fun a w => Q' .normal a w) fuel listed a w → wpAny P md ops Q' fuel listed a w
  | 0, _, _, _, h => h
  | fuel + 1, _, _, _, h => ⟨h.1, fun i hi => wpOp_of_pOp (fun a' w' => wpAny_of_plain fuel _ a' w') (h.2 i hi)⟩

def stayUpon (w : World) (v : Value) : Result Next → Prop
  | .ok (.value u) w' => w' = w ∧ u = v
  | .ok .skip w' => w' = w ∧ v = undef
  | _ => False

/-- In every world of the class the operation yields v, and leaves the world as it is. -/
def StaysIn (P : Program) (ops : Array Oper) (C : World → Prop) (o : Oper) (v : Value) (a : Act) : Prop :=
  (Region.wanted o (yielded ops a.tmps) = true ∧ ∀ w, C w → stayUpon w v ((execOp a.eval o).run P w)) ∨ (Region.wanted o (yielded ops a.tmps) = false ∧ v = undef)

theorem StaysIn.pOp {i : Nat} {o : Oper} {v : Value} {a : Act} {w : World} (hi : ops[i]? = some o) (hy : StaysIn P ops C o v a) (hC : C w) {K : Act → World → Prop} (h : K (a.put o.dst v) w) : pOp P ops C f i K a w := by
  unfold Go.Proofs.Ytibjbpakbfodaaa.Wf.pOp
  simp only [hi]
  rcases hy with ⟨hw, hv⟩ | ⟨hw, rfl⟩
  · simp only [hw, if_true]
    have h1 := hv w hC
    generalize (execOp a.eval o).run P w = r at *
    cases r with
    | ok n w' =>
      cases n <;> simp only [stayUpon] at h1 <;> simp only [plainUpon]
      case value u => obtain ⟨rfl, rfl⟩ := h1; exact ⟨.inr hC, h⟩
      case skip => obtain ⟨rfl, rfl⟩ := h1; exact ⟨.inr hC, h⟩
    | halt x w' => simp only [stayUpon] at h1
  · simp only [hw, Bool.false_eq_true, if_false]; exact h

theorem StaysIn.of_same {o : Oper} {v : Value} {a a' : Act} (hy : StaysIn P ops C o v a) (he : execOp a'.eval o = execOp a.eval o)
    (hw : Region.wanted o (yielded ops a'.tmps) = Region.wanted o (yielded ops a.tmps)) : StaysIn P ops C o v a' := by
  unfold StaysIn at *
  rw [he, hw]
  exact hy

theorem pOp_put {j : Nat} {oi oj : Oper} {v : Value} (hj : ops[j]? = some oj) (hap : oi.apart ops oj = true)
    (hsi : ∀ cs b, oi.op ≠ .select cs b) (hsj : ∀ cs b, oj.op ≠ .select cs b) {K : Act → World → Prop} {a : Act} {w : World} (hC : C w)
    (hy : StaysIn P ops C oi v a) (h : pOp P ops C f j K (a.put oi.dst v) w) :
    pOp P ops C f j (fun a' w' => (j = f ∨ C w') ∧ StaysIn P ops C oi v a' ∧ K (a'.put oi.dst v) w') a w := by
  obtain ⟨h1, h2, h3⟩ := Oper.apart_spec hap
  have keep : ∀ (a : Act), StaysIn P ops C oi v a → ∀ u, StaysIn P ops C oi v (a.put oj.dst u) := fun a hy u =>
    hy.of_same (execOp_put oi hsi a oj.dst u h3) (wanted_put oi a oj.dst u h3)
  unfold pOp at *
  simp only [hj] at *
  rw [wanted_put oj a oi.dst v h1] at h
  split
  · rename_i hw
    simp only [hw, if_true] at h
    rw [execOp_put oj hsj a oi.dst v h1] at h
    exact plainUpon_mono (fun u w' hC' hK => ⟨hC', keep a hy u, by rw [← Act.put_comm a v u h2]; exact hK⟩) h
  · rename_i hw
    simp only [hw] at h
    exact ⟨.inr hC, keep a hy _, by rw [← Act.put_comm a v undef h2]; exact h⟩

theorem pOp_mono {i : Nat} {a : Act} {K K' : Act → World → Prop} {w : World} (h : ∀ a w', K a w' → K' a w') (hh : pOp P ops C f i K a w) : pOp P ops C f i K' a w := by
  unfold pOp at *
  split
  · rename_i ho; simp only [ho] at hh; exact h _ _ hh
  · rename_i o ho
    simp only [ho] at hh
    split
    · rename_i hw; simp only [hw, if_true] at hh; exact plainUpon_mono (fun u w' _ hK => h _ _ hK) hh
    · rename_i hw; simp only [hw] at hh; exact h _ _ hh

theorem wpAnyP_first {Q : Act → World → Prop} {i : Nat} {oi : Oper} {v : Value} (hi : ops[i]? = some oi) (hsel : ∀ (j : Nat) (o : Oper) cs b, ops[j]? = some o → o.op ≠ .select cs b) (hfin : ∀ o, ops[f]? = some o → ∃ e ∈ o.after, Region.binds md e = true ∧ e.on = i) :
    ∀ (fuel : Nat) (listed : Array Bool) (a : Act) (w : World), C w →
      (∀ j oj, ops[j]? = some oj → j ≠ i → listed.getD j true = false → (∀ e ∈ oj.after, Region.binds md e = true → e.on ≠ i) → oi.apart ops oj = true) →
      i ∈ Region.ready md ops listed → StaysIn P ops C oi v a →
      wpAnyP P md ops C f Q fuel (listed.setIfInBounds i true) (a.put oi.dst v) w → wpAnyP P md ops C f Q (fuel + 1) listed a w := by
  intro fuel
  induction fuel with
  | zero =>
    intro listed a w hC _ hr hy H
    refine ⟨fun h => (by rw [h] at hr; cases hr), fun j hj => ?_⟩
    by_cases hji : j = i
    · subst hji; exact hy.pOp hi hC H
    · have := ready_mono hj hji
      rw [H.1] at this
      cases this
  | succ fuel ih =>
    intro listed a w hC hfree hr hy H
    refine ⟨fun h => (by rw [h] at hr; cases hr), fun j hj => ?_⟩
    by_cases hji : j = i
    · subst hji; exact hy.pOp hi hC H
    · have h1 := H.2 j (ready_mono hj hji)
      obtain ⟨hjun, oj, hoj, hall⟩ := mem_ready.1 hj
      have hnot : ∀ e ∈ oj.after, Region.binds md e = true → e.on ≠ i := fun e he hb heq => by
        have h1 := hall e he hb
        have h0 := (mem_ready.1 hr).1
        rw [heq] at h1
        rcases Nat.lt_or_ge i listed.size with h' | h'
        · simp [h'] at h0 h1; rw [h0] at h1; cases h1
        · simp [Array.getElem?_eq_none h'] at h1
      have h2 := pOp_put hoj (hfree j oj hoj hji hjun hnot) (fun cs b => hsel i oi cs b hi) (fun cs b => hsel j oj cs b hoj) hC hy h1
      have hfree' : ∀ k ok, ops[k]? = some ok → k ≠ i → (listed.setIfInBounds j true).getD k true = false →
          (∀ e ∈ ok.after, Region.binds md e = true → e.on ≠ i) → oi.apart ops ok = true := fun k ok hk hki hun hno => by
        refine hfree k ok hk hki ?_ hno
        by_cases hjk : j = k
        · subst hjk; exact hjun
        · rw [getD_set_ne true hjk] at hun; exact hun
      have hjf : j ≠ f := fun e => by
        subst e
        obtain ⟨ed, h4, h5, h6⟩ := hfin oj hoj
        exact hnot ed h4 h5 h6
      refine pOp_mono (fun a' w' h3 => ih (listed.setIfInBounds j true) a' w' (h3.1.resolve_left hjf) hfree' (ready_mono hr (Ne.symm hji)) h3.2.1 ?_) h2
      rw [Array.setIfInBounds_comm _ _ hji]
      exact h3.2.2

/-- Operations, by their numbers, each of which only reads: the frame behind them. -/
def wpStays (P : Program) (ops : Array Oper) (C : World → Prop) : List Nat → Act → Act → Prop
  | [], a, b => a = b
  | k :: ks, a, b => ∃ o, ops[k]? = some o ∧ ∃ v, StaysIn P ops C o v a ∧ wpStays P ops C ks (a.put o.dst v) b

theorem wanted_of_none {o : Oper} (h : o.guard = none) (y : Nat → Option Bool) : Region.wanted o y = true := by
  unfold Region.wanted
  rw [h]

theorem wpStays_step {k : Nat} {ks : List Nat} {a b : Act} {o : Oper} (ho : ops[k]? = some o) (hg : o.guard = none) (v : Value) (h : ∀ w, C w → stayUpon w v ((execOp a.eval o).run P w)) (hr : wpStays P ops C ks (a.put o.dst v) b) :
    wpStays P ops C (k :: ks) a b := ⟨o, ho, v, .inl ⟨wanted_of_none hg _, h⟩, hr⟩
theorem wpStays_wanted {k : Nat} {ks : List Nat} {a b : Act} {o : Oper} (ho : ops[k]? = some o) (hg : Region.wanted o (yielded ops a.tmps) = true) (v : Value) (h : ∀ w, C w → stayUpon w v ((execOp a.eval o).run P w)) (hr : wpStays P ops C ks (a.put o.dst v) b) :
    wpStays P ops C (k :: ks) a b := ⟨o, ho, v, .inl ⟨hg, h⟩, hr⟩
theorem wpStays_skip {k : Nat} {ks : List Nat} {a b : Act} {o : Oper} (ho : ops[k]? = some o) (hg : Region.wanted o (yielded ops a.tmps) = false) (hr : wpStays P ops C ks (a.put o.dst undef) b) :
    wpStays P ops C (k :: ks) a b := ⟨o, ho, undef, .inr ⟨hg, rfl⟩, hr⟩

/-- The last operation waits for this one. -/
def waits (md : Region.Mode) (ops : Array Oper) (f k : Nat) : Bool :=
  match ops[f]? with
  | none => true
  | some o => o.after.any fun e => Region.binds md e && e.on == k

theorem waits_spec {k : Nat} (h : waits md ops f k = true) : ∀ o, ops[f]? = some o → ∃ e ∈ o.after, Region.binds md e = true ∧ e.on = k := fun o ho => by
  unfold waits at h
  rw [ho] at h
  obtain ⟨e, he, h1⟩ := Array.any_eq_true'.1 h
  simp only [Bool.and_eq_true, beq_iff_eq] at h1
  exact ⟨e, he, h1⟩

def firstFrom (md : Region.Mode) (ops : Array Oper) (f : Nat) : List Nat → Array Bool → Bool
  | [], _ => true
  | k :: ks, listed => (Region.ready md ops listed).contains k && Region.free md ops listed k && waits md ops f k && firstFrom md ops f ks (listed.setIfInBounds k true)

def marked (listed : Array Bool) : List Nat → Array Bool
  | [] => listed
  | k :: ks => marked (listed.setIfInBounds k true) ks

theorem wpAnyP_stays {Q : Act → World → Prop} (hs : Region.noSelect ops = true) : ∀ (qs : List Nat) (listed : Array Bool) (a b : Act) (fuel : Nat) (w : World), C w → firstFrom md ops f qs listed = true →
    wpStays P ops C qs a b → wpAnyP P md ops C f Q fuel (marked listed qs) b w → wpAnyP P md ops C f Q (fuel + qs.length) listed a w
  | [], _, a, b, fuel, w, _, _, h, H => by
    have : a = b := h
    subst this
    exact H
  | k :: ks, listed, a, b, fuel, w, hC, hB, h, H => by
    obtain ⟨o, ho, v, hv, hr⟩ := h
    simp only [firstFrom, Bool.and_eq_true] at hB
    obtain ⟨⟨⟨h1, h2⟩, h4⟩, h3⟩ := hB
    have := wpAnyP_stays hs ks (listed.setIfInBounds k true) (a.put o.dst v) b fuel w hC h3 hr H
    exact wpAnyP_first ho (Region.noSelect_spec hs) (waits_spec h4) (fuel + ks.length) listed a w hC (Region.free_spec ho h2) (by simpa using h1) hv this

theorem wpAnyP_one {Q : Act → World → Prop} {i fuel : Nat} {o : Oper} {listed : Array Bool} {a : Act} {w : World} (hr : Region.ready md ops listed = [i]) (ho : ops[i]? = some o) (hg : o.guard = none)
    (h : plainUpon P (fun w => i = f ∨ C w) o a (wpAnyP P md ops C f Q fuel (listed.setIfInBounds i true)) ((execOp a.eval o).run P w)) : wpAnyP P md ops C f Q (fuel + 1) listed a w := by
  refine ⟨fun h0 => (by rw [hr] at h0; cases h0), fun j hj => ?_⟩
  rw [hr] at hj
  obtain rfl : j = i := by simpa using hj
  unfold pOp
  simp only [ho, wanted_of_none hg, if_true]
  exact h

theorem wpAnyP_oneW {Q : Act → World → Prop} {i fuel : Nat} {o : Oper} {listed : Array Bool} {a : Act} {w : World} (hr : Region.ready md ops listed = [i]) (ho : ops[i]? = some o) (hg : Region.wanted o (yielded ops a.tmps) = true)
    (h : plainUpon P (fun w => i = f ∨ C w) o a (wpAnyP P md ops C f Q fuel (listed.setIfInBounds i true)) ((execOp a.eval o).run P w)) : wpAnyP P md ops C f Q (fuel + 1) listed a w := by
  refine ⟨fun h0 => (by rw [hr] at h0; cases h0), fun j hj => ?_⟩
  rw [hr] at hj
  obtain rfl : j = i := by simpa using hj
  unfold pOp
  simp only [ho, hg, if_true]
  exact h

theorem wpAnyP_two {Q : Act → World → Prop} {i k fuel : Nat} {o o' : Oper} {listed : Array Bool} {a : Act} {w : World} (hr : Region.ready md ops listed = [i, k]) (ho : ops[i]? = some o) (hg : o.guard = none) (ho' : ops[k]? = some o') (hg' : o'.guard = none)
    (h : plainUpon P (fun w => i = f ∨ C w) o a (wpAnyP P md ops C f Q fuel (listed.setIfInBounds i true)) ((execOp a.eval o).run P w))
    (h' : plainUpon P (fun w => k = f ∨ C w) o' a (wpAnyP P md ops C f Q fuel (listed.setIfInBounds k true)) ((execOp a.eval o').run P w)) : wpAnyP P md ops C f Q (fuel + 1) listed a w := by
  refine ⟨fun h0 => (by rw [hr] at h0; cases h0), fun j hj => ?_⟩
  rw [hr] at hj
  unfold pOp
  rcases List.mem_cons.1 hj with rfl | hj
  · simp only [ho, wanted_of_none hg, if_true]
    exact h
  · obtain rfl : j = k := by simpa using hj
    simp only [ho', wanted_of_none hg', if_true]
    exact h'

theorem wp_region_first {id : Nat} {Q : Exit → Act → World → Prop} {a : Act} {w : World} {l : List Oper} (hm : P.follows .mixedOrders = true)
    (f : Nat) (h : wpAnyP P .any l.toArray C f (fun a w => Q .normal a w) l.length (Array.replicate l.length false) a { w with drawn := w.drawn + 1 }) : (Code.region id l.toArray true).wp P Q a w :=
  wp_region_any hm (wpAny_of_plain (C := C) (f := f) _ _ _ _ (by simpa using h))
end
end Go.Proofs.Ytibjbpakbfodaaa.Wf
namespace Go.Proofs.Ytibjbpakbfodaaa.Wg
open Go.RowKit

section
variable {P : Program} {ops : Array Oper} {md : Region.Mode} {C : World → Prop} {f : Nat}

/-- What is left of an operation: the world is of the class. -/
def plainUpon (P : Program) (C : World → Prop) (o : Oper) (a : Act) (K : Act → World → Prop) : Result Next → Prop
  | .ok (.enter f args) w' => Calls P f args w' fun e w'' => ∃ v, e = .returned v ∧ C w'' ∧ K (a.put o.dst v) w''
  | .ok (.value v) w' => C w' ∧ K (a.put o.dst v) w'
  | .ok .skip w' => C w' ∧ K (a.put o.dst undef) w'
  | _ => False

theorem plainUpon_mono {o : Oper} {a a1 : Act} {K K' : Act → World → Prop} (h : ∀ u w', C w' → K (a.put o.dst u) w' → K' (a1.put o.dst u) w') : ∀ {r : Result Next}, plainUpon P C o a K r → plainUpon P C o a1 K' r := by
  intro r hr
  cases r with
  | ok n w' =>
    cases n <;> simp only [plainUpon] at hr ⊢
    case value v => exact ⟨hr.1, h _ _ hr.1 hr.2⟩
    case skip => exact ⟨hr.1, h _ _ hr.1 hr.2⟩
    case enter f args => exact hr.mono fun e w'' ⟨v, h1, h2, h3⟩ => ⟨v, h1, h2, h _ _ h2 h3⟩
  | halt x w' => simp only [plainUpon] at hr

def pOp (P : Program) (ops : Array Oper) (C : World → Prop) (f : Nat) (i : Nat) (K : Act → World → Prop) (a : Act) (w : World) : Prop :=
  match ops[i]? with
  | none => K a w
  | some o => if Region.wanted o (yielded ops a.tmps) then plainUpon P (fun w => f ≤ i ∨ C w) o a K ((execOp a.eval o).run P w) else K (a.put o.dst undef) w

def wpAnyP (P : Program) (md : Region.Mode) (ops : Array Oper) (C : World → Prop) (f : Nat) (Q : Act → World → Prop) : Nat → Array Bool → Act → World → Prop
  | 0, listed, a, w => Region.ready md ops listed = [] ∧ Q a w
  | fuel + 1, listed, a, w =>
    (Region.ready md ops listed = [] → Q a w) ∧ ∀ i ∈ Region.ready md ops listed, pOp P ops C f i (wpAnyP P md ops C f Q fuel (listed.setIfInBounds i true)) a w

theorem wpOp_of_pOp {i : Nat} {a : Act} {K K' : Act → World → Prop} {Q' : Exit → Act → World → Prop} {w : World} (h : ∀ a w', K a w' → K' a w') (hh : pOp P ops C f i K a w) : wpOp P ops Q' i K' a w := by
  unfold pOp at hh
  unfold wpOp
  split
  · rename_i ho; simp only [ho] at hh; exact h _ _ hh
  · rename_i o ho
    simp only [ho] at hh
    split
    · rename_i hw
      simp only [hw, if_true] at hh
      refine .inl ?_
      unfold Oper.wp
      generalize (execOp a.eval o).run P w = r at *
      cases r with
      | ok n w' =>
        cases n <;> simp only [plainUpon] at hh <;> simp only [Oper.upon]
        case value v => exact h _ _ hh.2
        case skip => exact h _ _ hh.2
        case enter f args => exact hh.mono fun e w'' ⟨v, h1, _, h3⟩ => by subst h1; exact h _ _ h3
      | halt x w' => simp only [plainUpon] at hh
    · rename_i hw; simp only [hw] at hh; exact h _ _ hh

theorem wpAny_of_plain {Q' : Exit → Act → World → Prop} : ∀ (fuel : Nat) (listed : Array Bool) (a : Act) (w : World), wpAnyP P md ops C f (fun a w => Q' .normal a w) fuel listed a w → wpAny P md ops Q' fuel listed a w
  | 0, _, _, _, h => h
  | fuel + 1, _, _, _, h => ⟨h.1, fun i hi => wpOp_of_pOp (fun a' w' => wpAny_of_plain fuel _ a' w') (h.2 i hi)⟩

def stayUpon (w : World) (v : Value) : Result Next → Prop
  | .ok (.value u) w' => w' = w ∧ u = v
  | .ok .skip w' => w' = w ∧ v = undef
  | _ => False

/-- In every world of the class the operation yields v, and leaves the world as it is. -/
def StaysIn (P : Program) (ops : Array Oper) (C : World → Prop) (o : Oper) (v : Value) (a : Act) : Prop :=
  (Region.wanted o (yielded ops a.tmps) = true ∧ ∀ w, C w → stayUpon w v ((execOp a.eval o).run P w)) ∨ (Region.wanted o (yielded ops a.tmps) = false ∧ v = undef)

theorem StaysIn.pOp {i : Nat} {o : Oper} {v : Value} {a : Act} {w : World} (hi : ops[i]? = some o) (hy : StaysIn P ops C o v a) (hC : C w) {K : Act → World → Prop} (h : K (a.put o.dst v) w) : pOp P ops C f i K a w := by
  unfold Go.Proofs.Ytibjbpakbfodaaa.Wg.pOp
  simp only [hi]
  rcases hy with ⟨hw, hv⟩ | ⟨hw, rfl⟩
  · simp only [hw, if_true]
    have h1 := hv w hC
    generalize (execOp a.eval o).run P w = r at *
    cases r with
    | ok n w' =>
      cases n <;> simp only [stayUpon] at h1 <;> simp only [plainUpon]
      case value u => obtain ⟨rfl, rfl⟩ := h1; exact ⟨.inr hC, h⟩
      case skip => obtain ⟨rfl, rfl⟩ := h1; exact ⟨.inr hC, h⟩
    | halt x w' => simp only [stayUpon] at h1
  · simp only [hw, Bool.false_eq_true, if_false]; exact h

theorem StaysIn.of_same {o : Oper} {v : Value} {a a' : Act} (hy : StaysIn P ops C o v a) (he : execOp a'.eval o = execOp a.eval o)
    (hw : Region.wanted o (yielded ops a'.tmps) = Region.wanted o (yielded ops a.tmps)) : StaysIn P ops C o v a' := by
  unfold StaysIn at *
  rw [he, hw]
  exact hy

theorem pOp_put {j : Nat} {oi oj : Oper} {v : Value} (hj : ops[j]? = some oj) (hap : oi.apart ops oj = true)
    (hsi : ∀ cs b, oi.op ≠ .select cs b) (hsj : ∀ cs b, oj.op ≠ .select cs b) {K : Act → World → Prop} {a : Act} {w : World} (hC : C w)
    (hy : StaysIn P ops C oi v a) (h : pOp P ops C f j K (a.put oi.dst v) w) :
    pOp P ops C f j (fun a' w' => (f ≤ j ∨ C w') ∧ StaysIn P ops C oi v a' ∧ K (a'.put oi.dst v) w') a w := by
  obtain ⟨h1, h2, h3⟩ := Oper.apart_spec hap
  have keep : ∀ (a : Act), StaysIn P ops C oi v a → ∀ u, StaysIn P ops C oi v (a.put oj.dst u) := fun a hy u =>
    hy.of_same (execOp_put oi hsi a oj.dst u h3) (wanted_put oi a oj.dst u h3)
  unfold pOp at *
  simp only [hj] at *
  rw [wanted_put oj a oi.dst v h1] at h
  split
  · rename_i hw
    simp only [hw, if_true] at h
    rw [execOp_put oj hsj a oi.dst v h1] at h
    exact plainUpon_mono (fun u w' hC' hK => ⟨hC', keep a hy u, by rw [← Act.put_comm a v u h2]; exact hK⟩) h
  · rename_i hw
    simp only [hw] at h
    exact ⟨.inr hC, keep a hy _, by rw [← Act.put_comm a v undef h2]; exact h⟩

theorem pOp_mono {i : Nat} {a : Act} {K K' : Act → World → Prop} {w : World} (h : ∀ a w', K a w' → K' a w') (hh : pOp P ops C f i K a w) : pOp P ops C f i K' a w := by
  unfold pOp at *
  split
  · rename_i ho; simp only [ho] at hh; exact h _ _ hh
  · rename_i o ho
    simp only [ho] at hh
    split
    · rename_i hw; simp only [hw, if_true] at hh; exact plainUpon_mono (fun u w' _ hK => h _ _ hK) hh
    · rename_i hw; simp only [hw] at hh; exact h _ _ hh

/-- What has been done had done ahead of it what it waits for. -/
def Closed (md : Region.Mode) (ops : Array Oper) (listed : Array Bool) : Prop :=
  ∀ q o, listed.getD q false = true → ops[q]? = some o → ∀ e ∈ o.after, Region.binds md e = true → listed.getD e.on false = true

theorem getD_set_other {l : Array Bool} {k q : Nat} (h : k ≠ q) : (l.setIfInBounds k true).getD q false = l.getD q false := by
  simp only [Array.getD_eq_getD_getElem?, Array.getElem?_setIfInBounds, if_neg h]
theorem getD_set_le {l : Array Bool} {k q : Nat} (h : l.getD q false = true) : (l.setIfInBounds k true).getD q false = true := by
  by_cases hk : k = q
  · subst hk
    rcases Nat.lt_or_ge k l.size with h' | h'
    · simp [h']
    · simp [Array.getElem?_eq_none h'] at h
  · rw [getD_set_other hk]; exact h

theorem Closed.step {listed : Array Bool} (h : Closed md ops listed) {j : Nat} {oj : Oper} (hj : ops[j]? = some oj) (hall : ∀ e ∈ oj.after, Region.binds md e = true → listed.getD e.on false = true) : Closed md ops (listed.setIfInBounds j true) := fun q o hq ho e he hb => by
  by_cases hk : j = q
  · subst hk
    rw [hj] at ho
    cases ho
    exact getD_set_le (hall e he hb)
  · rw [getD_set_other hk] at hq
    exact getD_set_le (h q o hq ho e he hb)

/-- Does op j wait for op k, at once or by others? -/
def reachB (md : Region.Mode) (ops : Array Oper) (k : Nat) : Nat → Nat → Bool
  | 0, _ => false
  | fuel + 1, j => match ops[j]? with
    | none => false
    | some o => o.after.any fun e => Region.binds md e && (e.on == k || reachB md ops k fuel e.on)

theorem reach_listed {listed : Array Bool} (h : Closed md ops listed) {k : Nat} : ∀ (fuel j : Nat) (o : Oper), ops[j]? = some o → (∀ e ∈ o.after, Region.binds md e = true → listed.getD e.on false = true) → reachB md ops k fuel j = true → listed.getD k false = true
  | 0, _, _, _, _, hr => by simp [reachB] at hr
  | fuel + 1, j, o, ho, hall, hr => by
    unfold reachB at hr
    rw [ho] at hr
    obtain ⟨e, he, h2⟩ := Array.any_eq_true'.1 hr
    simp only [Bool.and_eq_true, Bool.or_eq_true, beq_iff_eq] at h2
    have hl := hall e he h2.1
    rcases h2.2 with h3 | h3
    · rw [← h3]; exact hl
    · cases ho2 : ops[e.on]? with
      | none => cases fuel <;> simp [reachB, ho2] at h3
      | some o2 => exact reach_listed h fuel e.on o2 ho2 (h e.on o2 hl ho2) h3

theorem wpAnyP_first {Q : Act → World → Prop} {i : Nat} {oi : Oper} {v : Value} (hi : ops[i]? = some oi) (hsel : ∀ (j : Nat) (o : Oper) cs b, ops[j]? = some o → o.op ≠ .select cs b) (hfin : ∀ k o, f ≤ k → ops[k]? = some o → reachB md ops i 6 k = true) :
    ∀ (fuel : Nat) (listed : Array Bool) (a : Act) (w : World), C w → Closed md ops listed →
      (∀ j oj, ops[j]? = some oj → j ≠ i → listed.getD j true = false → (∀ e ∈ oj.after, Region.binds md e = true → e.on ≠ i) → oi.apart ops oj = true) →
      i ∈ Region.ready md ops listed → StaysIn P ops C oi v a →
      wpAnyP P md ops C f Q fuel (listed.setIfInBounds i true) (a.put oi.dst v) w → wpAnyP P md ops C f Q (fuel + 1) listed a w := by
  intro fuel
  induction fuel with
  | zero =>
    intro listed a w hC _ _ hr hy H
    refine ⟨fun h => (by rw [h] at hr; cases hr), fun j hj => ?_⟩
    by_cases hji : j = i
    · subst hji; exact hy.pOp hi hC H
    · have := ready_mono hj hji
      rw [H.1] at this
      cases this
  | succ fuel ih =>
    intro listed a w hC hcl hfree hr hy H
    refine ⟨fun h => (by rw [h] at hr; cases hr), fun j hj => ?_⟩
    by_cases hji : j = i
    · subst hji; exact hy.pOp hi hC H
    · have h1 := H.2 j (ready_mono hj hji)
      obtain ⟨hjun, oj, hoj, hall⟩ := mem_ready.1 hj
      have hnot : ∀ e ∈ oj.after, Region.binds md e = true → e.on ≠ i := fun e he hb heq => by
        have h1 := hall e he hb
        have h0 := (mem_ready.1 hr).1
        rw [heq] at h1
        rcases Nat.lt_or_ge i listed.size with h' | h'
        · simp [h'] at h0 h1; rw [h0] at h1; cases h1
        · simp [Array.getElem?_eq_none h'] at h1
      have h2 := pOp_put hoj (hfree j oj hoj hji hjun hnot) (fun cs b => hsel i oi cs b hi) (fun cs b => hsel j oj cs b hoj) hC hy h1
      have hfree' : ∀ k ok, ops[k]? = some ok → k ≠ i → (listed.setIfInBounds j true).getD k true = false →
          (∀ e ∈ ok.after, Region.binds md e = true → e.on ≠ i) → oi.apart ops ok = true := fun k ok hk hki hun hno => by
        refine hfree k ok hk hki ?_ hno
        by_cases hjk : j = k
        · subst hjk; exact hjun
        · rw [getD_set_ne true hjk] at hun; exact hun
      have hjf : ¬ f ≤ j := fun e => by
        have h4 := reach_listed hcl 6 j oj hoj hall (hfin j oj e hoj)
        have h0 := (mem_ready.1 hr).1
        rcases Nat.lt_or_ge i listed.size with h' | h'
        · simp [h'] at h0 h4; rw [h0] at h4; cases h4
        · simp [Array.getElem?_eq_none h'] at h4
      refine pOp_mono (fun a' w' h3 => ih (listed.setIfInBounds j true) a' w' (h3.1.resolve_left hjf) (hcl.step hoj hall) hfree' (ready_mono hr (Ne.symm hji)) h3.2.1 ?_) h2
      rw [Array.setIfInBounds_comm _ _ hji]
      exact h3.2.2

/-- Operations, by their numbers, each of which only reads: the frame behind them. -/
def wpStays (P : Program) (ops : Array Oper) (C : World → Prop) : List Nat → Act → Act → Prop
  | [], a, b => a = b
  | k :: ks, a, b => ∃ o, ops[k]? = some o ∧ ∃ v, StaysIn P ops C o v a ∧ wpStays P ops C ks (a.put o.dst v) b

theorem wanted_of_none {o : Oper} (h : o.guard = none) (y : Nat → Option Bool) : Region.wanted o y = true := by
  unfold Region.wanted
  rw [h]

theorem wpStays_step {k : Nat} {ks : List Nat} {a b : Act} {o : Oper} (ho : ops[k]? = some o) (hg : o.guard = none) (v : Value) (h : ∀ w, C w → stayUpon w v ((execOp a.eval o).run P w)) (hr : wpStays P ops C ks (a.put o.dst v) b) :
    wpStays P ops C (k :: ks) a b := ⟨o, ho, v, .inl ⟨wanted_of_none hg _, h⟩, hr⟩
theorem wpStays_wanted {k : Nat} {ks : List Nat} {a b : Act} {o : Oper} (ho : ops[k]? = some o) (hg : Region.wanted o (yielded ops a.tmps) = true) (v : Value) (h : ∀ w, C w → stayUpon w v ((execOp a.eval o).run P w)) (hr : wpStays P ops C ks (a.put o.dst v) b) :
    wpStays P ops C (k :: ks) a b := ⟨o, ho, v, .inl ⟨hg, h⟩, hr⟩
theorem wpStays_skip {k : Nat} {ks : List Nat} {a b : Act} {o : Oper} (ho : ops[k]? = some o) (hg : Region.wanted o (yielded ops a.tmps) = false) (hr : wpStays P ops C ks (a.put o.dst undef) b) :
    wpStays P ops C (k :: ks) a b := ⟨o, ho, undef, .inr ⟨hg, rfl⟩, hr⟩

/-- The last operations wait for this one. -/
def waits (md : Region.Mode) (ops : Array Oper) (f k : Nat) : Bool :=
  (List.range ops.size).all fun q => decide (q < f) || reachB md ops k 6 q

theorem waits_spec {k : Nat} (h : waits md ops f k = true) : ∀ q o, f ≤ q → ops[q]? = some o → reachB md ops k 6 q = true := fun q o hq ho => by
  unfold waits at h
  have h1 := List.all_eq_true.1 h q (List.mem_range.2 (Array.getElem?_eq_some_iff.1 ho).1)
  rw [decide_eq_false (by omega), Bool.false_or] at h1
  exact h1

/-- The same, reckoned. -/
def closedB (md : Region.Mode) (ops : Array Oper) (listed : Array Bool) : Bool :=
  (List.range ops.size).all fun q => !listed.getD q false || match ops[q]? with
    | none => true
    | some o => o.after.all fun e => !Region.binds md e || listed.getD e.on false

theorem closed_of {listed : Array Bool} (h : closedB md ops listed = true) : Closed md ops listed := fun q o hq ho e he hb => by
  unfold closedB at h
  have h1 := List.all_eq_true.1 h q (List.mem_range.2 (Array.getElem?_eq_some_iff.1 ho).1)
  rw [ho, hq] at h1
  simp only [Bool.not_true, Bool.false_or] at h1
  have h2 := Array.all_eq_true'.1 h1 e he
  rw [hb] at h2
  simpa using h2

def firstFrom (md : Region.Mode) (ops : Array Oper) (f : Nat) : List Nat → Array Bool → Bool
  | [], _ => true
  | k :: ks, listed => (Region.ready md ops listed).contains k && Region.free md ops listed k && waits md ops f k && closedB md ops listed && firstFrom md ops f ks (listed.setIfInBounds k true)

def marked (listed : Array Bool) : List Nat → Array Bool
  | [] => listed
  | k :: ks => marked (listed.setIfInBounds k true) ks

theorem wpAnyP_stays {Q : Act → World → Prop} (hs : Region.noSelect ops = true) : ∀ (qs : List Nat) (listed : Array Bool) (a b : Act) (fuel : Nat) (w : World), C w → firstFrom md ops f qs listed = true →
    wpStays P ops C qs a b → wpAnyP P md ops C f Q fuel (marked listed qs) b w → wpAnyP P md ops C f Q (fuel + qs.length) listed a w
  | [], _, a, b, fuel, w, _, _, h, H => by
    have : a = b := h
    subst this
    exact H
  | k :: ks, listed, a, b, fuel, w, hC, hB, h, H => by
    obtain ⟨o, ho, v, hv, hr⟩ := h
    simp only [firstFrom, Bool.and_eq_true] at hB
    obtain ⟨⟨⟨⟨h1, h2⟩, h4⟩, h5⟩, h3⟩ := hB
    have := wpAnyP_stays hs ks (listed.setIfInBounds k true) (a.put o.dst v) b fuel w hC h3 hr H
    exact wpAnyP_first ho (Region.noSelect_spec hs) (waits_spec h4) (fuel + ks.length) listed a w hC (closed_of h5) (Region.free_spec ho h2) (by simpa using h1) hv this

theorem wpAnyP_one {Q : Act → World → Prop} {i fuel : Nat} {o : Oper} {listed : Array Bool} {a : Act} {w : World} (hr : Region.ready md ops listed = [i]) (ho : ops[i]? = some o) (hg : o.guard = none)
    (h : plainUpon P (fun w => f ≤ i ∨ C w) o a (wpAnyP P md ops C f Q fuel (listed.setIfInBounds i true)) ((execOp a.eval o).run P w)) : wpAnyP P md ops C f Q (fuel + 1) listed a w := by
  refine ⟨fun h0 => (by rw [hr] at h0; cases h0), fun j hj => ?_⟩
  rw [hr] at hj
  obtain rfl : j = i := by simpa using hj
  unfold pOp
  simp only [ho, wanted_of_none hg, if_true]
  exact h

theorem wpAnyP_oneW {Q : Act → World → Prop} {i fuel : Nat} {o : Oper} {listed : Array Bool} {a : Act} {w : World} (hr : Region.ready md ops listed = [i]) (ho : ops[i]? = some o) (hg : Region.wanted o (yielded ops a.tmps) = true)
    (h : plainUpon P (fun w => f ≤ i ∨ C w) o a (wpAnyP P md ops C f Q fuel (listed.setIfInBounds i true)) ((execOp a.eval o).run P w)) : wpAnyP P md ops C f Q (fuel + 1) listed a w := by
  refine ⟨fun h0 => (by rw [hr] at h0; cases h0), fun j hj => ?_⟩
  rw [hr] at hj
  obtain rfl : j = i := by simpa using hj
  unfold pOp
  simp only [ho, hg, if_true]
  exact h

theorem wpAnyP_two {Q : Act → World → Prop} {i k fuel : Nat} {o o' : Oper} {listed : Array Bool} {a : Act} {w : World} (hr : Region.ready md ops listed = [i, k]) (ho : ops[i]? = some o) (hg : o.guard = none) (ho' : ops[k]? = some o') (hg' : o'.guard = none)
    (h : plainUpon P (fun w => f ≤ i ∨ C w) o a (wpAnyP P md ops C f Q fuel (listed.setIfInBounds i true)) ((execOp a.eval o).run P w))
    (h' : plainUpon P (fun w => f ≤ k ∨ C w) o' a (wpAnyP P md ops C f Q fuel (listed.setIfInBounds k true)) ((execOp a.eval o').run P w)) : wpAnyP P md ops C f Q (fuel + 1) listed a w := by
  refine ⟨fun h0 => (by rw [hr] at h0; cases h0), fun j hj => ?_⟩
  rw [hr] at hj
  unfold pOp
  rcases List.mem_cons.1 hj with rfl | hj
  · simp only [ho, wanted_of_none hg, if_true]
    exact h
  · obtain rfl : j = k := by simpa using hj
    simp only [ho', wanted_of_none hg', if_true]
    exact h'

theorem wp_region_first {id : Nat} {Q : Exit → Act → World → Prop} {a : Act} {w : World} {l : List Oper} (hm : P.follows .mixedOrders = true)
    (f : Nat) (h : wpAnyP P .any l.toArray C f (fun a w => Q .normal a w) l.length (Array.replicate l.length false) a { w with drawn := w.drawn + 1 }) : (Code.region id l.toArray true).wp P Q a w :=
  wp_region_any hm (wpAny_of_plain (C := C) (f := f) _ _ _ _ (by simpa using h))
end
end Go.Proofs.Ytibjbpakbfodaaa.Wg
