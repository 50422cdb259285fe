/- A region that draws its order: operations that only read may be taken first, whatever the others write, where all worlds that come up are of one class. -/
import Derived.Test.YtibjbpakbfodaaaTail
namespace Go.Proofs.Ytibjbpakbfodaaa
open Go.RowKit

section
variable {P : Program} {ops : Array Oper} {md : Region.Mode} {C : World → Prop}

/-- What is left of an operation that is no call: the world is of the class. -/
def plainUpon (C : World → Prop) (o : Oper) (a : Act) (K : Act → World → Prop) : Result Next → Prop
  | .ok (.value v) w' => C w' ∧ K (a.put o.dst v) w'
  | .ok .skip w' => C w' ∧ K (a.put o.dst undef) w'
  | _ => False

theorem plainUpon_mono {o : Oper} {a a1 : Act} {K K' : Act → World → Prop} (h : ∀ u w', C w' → K (a.put o.dst u) w' → K' (a1.put o.dst u) w') : ∀ {r : Result Next}, plainUpon C o a K r → plainUpon C o a1 K' r := by
  intro r hr
  cases r with
  | ok n w' =>
    cases n <;> simp only [plainUpon] at hr ⊢
    case value v => exact ⟨hr.1, h _ _ hr.1 hr.2⟩
    case skip => exact ⟨hr.1, h _ _ hr.1 hr.2⟩
  | halt x w' => simp only [plainUpon] at hr

def pOp (P : Program) (ops : Array Oper) (C : World → Prop) (i : Nat) (K : Act → World → Prop) (a : Act) (w : World) : Prop :=
  match ops[i]? with
  | none => K a w
  | some o => if Region.wanted o (yielded ops a.tmps) then plainUpon C o a K ((execOp a.eval o).run P w) else K (a.put o.dst undef) w

def wpAnyP (P : Program) (md : Region.Mode) (ops : Array Oper) (C : World → Prop) (Q : Act → World → Prop) : Nat → Array Bool → Act → World → Prop
  | 0, listed, a, w => Region.ready md ops listed = [] ∧ Q a w
  | fuel + 1, listed, a, w =>
    (Region.ready md ops listed = [] → Q a w) ∧ ∀ i ∈ Region.ready md ops listed, pOp P ops C i (wpAnyP P md ops C Q fuel (listed.setIfInBounds i true)) a w

theorem wpOp_of_pOp {i : Nat} {a : Act} {K K' : Act → World → Prop} {Q' : Exit → Act → World → Prop} {w : World} (h : ∀ a w', K a w' → K' a w') (hh : pOp P ops C i K a w) : wpOp P ops Q' i K' a w := by
  unfold pOp at hh
  unfold wpOp
  split
  · rename_i ho; simp only [ho] at hh; exact h _ _ hh
  · rename_i o ho
    simp only [ho] at hh
    split
    · rename_i hw
      simp only [hw, if_true] at hh
      refine .inl ?_
      unfold Oper.wp
      generalize (execOp a.eval o).run P w = r at *
      cases r with
      | ok n w' =>
        cases n <;> simp only [plainUpon] at hh <;> simp only [Oper.upon]
        case value v => exact h _ _ hh.2
        case skip => exact h _ _ hh.2
      | halt x w' => simp only [plainUpon] at hh
    · rename_i hw; simp only [hw] at hh; exact h _ _ hh

theorem wpAny_of_plain {Q' : Exit → Act → World → Prop} : ∀ (fuel : Nat) (listed : Array Bool) (a : Act) (w : World), wpAnyP P md ops C (fun a w => Q' .normal a w) fuel listed a w → wpAny P md ops Q' fuel listed a w
  | 0, _, _, _, h => h
  | fuel + 1, _, _, _, h => ⟨h.1, fun i hi => wpOp_of_pOp (fun a' w' => wpAny_of_plain fuel _ a' w') (h.2 i hi)⟩

def stayUpon (w : World) (v : Value) : Result Next → Prop
  | .ok (.value u) w' => w' = w ∧ u = v
  | .ok .skip w' => w' = w ∧ v = undef
  | _ => False

/-- In every world of the class the operation yields v, and leaves the world as it is. -/
def StaysIn (P : Program) (ops : Array Oper) (C : World → Prop) (o : Oper) (v : Value) (a : Act) : Prop :=
  (Region.wanted o (yielded ops a.tmps) = true ∧ ∀ w, C w → stayUpon w v ((execOp a.eval o).run P w)) ∨ (Region.wanted o (yielded ops a.tmps) = false ∧ v = undef)

theorem StaysIn.pOp {i : Nat} {o : Oper} {v : Value} {a : Act} {w : World} (hi : ops[i]? = some o) (hy : StaysIn P ops C o v a) (hC : C w) {K : Act → World → Prop} (h : K (a.put o.dst v) w) : pOp P ops C i K a w := by
  unfold Go.Proofs.Ytibjbpakbfodaaa.pOp
  simp only [hi]
  rcases hy with ⟨hw, hv⟩ | ⟨hw, rfl⟩
  · simp only [hw, if_true]
    have h1 := hv w hC
    generalize (execOp a.eval o).run P w = r at *
    cases r with
    | ok n w' =>
      cases n <;> simp only [stayUpon] at h1 <;> simp only [plainUpon]
      case value u => obtain ⟨rfl, rfl⟩ := h1; exact ⟨hC, h⟩
      case skip => obtain ⟨rfl, rfl⟩ := h1; exact ⟨hC, h⟩
    | halt x w' => simp only [stayUpon] at h1
  · simp only [hw, Bool.false_eq_true, if_false]; exact h

theorem StaysIn.of_same {o : Oper} {v : Value} {a a' : Act} (hy : StaysIn P ops C o v a) (he : execOp a'.eval o = execOp a.eval o)
    (hw : Region.wanted o (yielded ops a'.tmps) = Region.wanted o (yielded ops a.tmps)) : StaysIn P ops C o v a' := by
  unfold StaysIn at *
  rw [he, hw]
  exact hy

theorem pOp_put {j : Nat} {oi oj : Oper} {v : Value} (hj : ops[j]? = some oj) (hap : oi.apart ops oj = true)
    (hsi : ∀ cs b, oi.op ≠ .select cs b) (hsj : ∀ cs b, oj.op ≠ .select cs b) {K : Act → World → Prop} {a : Act} {w : World} (hC : C w)
    (hy : StaysIn P ops C oi v a) (h : pOp P ops C j K (a.put oi.dst v) w) :
    pOp P ops C j (fun a' w' => C w' ∧ StaysIn P ops C oi v a' ∧ K (a'.put oi.dst v) w') a w := by
  obtain ⟨h1, h2, h3⟩ := Oper.apart_spec hap
  have keep : ∀ (a : Act), StaysIn P ops C oi v a → ∀ u, StaysIn P ops C oi v (a.put oj.dst u) := fun a hy u =>
    hy.of_same (execOp_put oi hsi a oj.dst u h3) (wanted_put oi a oj.dst u h3)
  unfold pOp at *
  simp only [hj] at *
  rw [wanted_put oj a oi.dst v h1] at h
  split
  · rename_i hw
    simp only [hw, if_true] at h
    rw [execOp_put oj hsj a oi.dst v h1] at h
    exact plainUpon_mono (fun u w' hC' hK => ⟨hC', keep a hy u, by rw [← Act.put_comm a v u h2]; exact hK⟩) h
  · rename_i hw
    simp only [hw] at h
    exact ⟨hC, keep a hy _, by rw [← Act.put_comm a v undef h2]; exact h⟩

theorem pOp_mono {i : Nat} {a : Act} {K K' : Act → World → Prop} {w : World} (h : ∀ a w', K a w' → K' a w') (hh : pOp P ops C i K a w) : pOp P ops C i K' a w := by
  unfold pOp at *
  split
  · rename_i ho; simp only [ho] at hh; exact h _ _ hh
  · rename_i o ho
    simp only [ho] at hh
    split
    · rename_i hw; simp only [hw, if_true] at hh; exact plainUpon_mono (fun u w' _ hK => h _ _ hK) hh
    · rename_i hw; simp only [hw] at hh; exact h _ _ hh

theorem wpAnyP_first {Q : Act → World → Prop} {i : Nat} {oi : Oper} {v : Value} (hi : ops[i]? = some oi) (hsel : ∀ (j : Nat) (o : Oper) cs b, ops[j]? = some o → o.op ≠ .select cs b) :
    ∀ (fuel : Nat) (listed : Array Bool) (a : Act) (w : World), C w →
      (∀ j oj, ops[j]? = some oj → j ≠ i → listed.getD j true = false → (∀ e ∈ oj.after, Region.binds md e = true → e.on ≠ i) → oi.apart ops oj = true) →
      i ∈ Region.ready md ops listed → StaysIn P ops C oi v a →
      wpAnyP P md ops C Q fuel (listed.setIfInBounds i true) (a.put oi.dst v) w → wpAnyP P md ops C Q (fuel + 1) listed a w := by
  intro fuel
  induction fuel with
  | zero =>
    intro listed a w hC _ hr hy H
    refine ⟨fun h => (by rw [h] at hr; cases hr), fun j hj => ?_⟩
    by_cases hji : j = i
    · subst hji; exact hy.pOp hi hC H
    · have := ready_mono hj hji
      rw [H.1] at this
      cases this
  | succ fuel ih =>
    intro listed a w hC hfree hr hy H
    refine ⟨fun h => (by rw [h] at hr; cases hr), fun j hj => ?_⟩
    by_cases hji : j = i
    · subst hji; exact hy.pOp hi hC H
    · have h1 := H.2 j (ready_mono hj hji)
      obtain ⟨hjun, oj, hoj, hall⟩ := mem_ready.1 hj
      have hnot : ∀ e ∈ oj.after, Region.binds md e = true → e.on ≠ i := fun e he hb heq => by
        have h1 := hall e he hb
        have h0 := (mem_ready.1 hr).1
        rw [heq] at h1
        rcases Nat.lt_or_ge i listed.size with h' | h'
        · simp [h'] at h0 h1; rw [h0] at h1; cases h1
        · simp [Array.getElem?_eq_none h'] at h1
      have h2 := pOp_put hoj (hfree j oj hoj hji hjun hnot) (fun cs b => hsel i oi cs b hi) (fun cs b => hsel j oj cs b hoj) hC hy h1
      have hfree' : ∀ k ok, ops[k]? = some ok → k ≠ i → (listed.setIfInBounds j true).getD k true = false →
          (∀ e ∈ ok.after, Region.binds md e = true → e.on ≠ i) → oi.apart ops ok = true := fun k ok hk hki hun hno => by
        refine hfree k ok hk hki ?_ hno
        by_cases hjk : j = k
        · subst hjk; exact hjun
        · rw [getD_set_ne true hjk] at hun; exact hun
      refine pOp_mono (fun a' w' h3 => ih (listed.setIfInBounds j true) a' w' h3.1 hfree' (ready_mono hr (Ne.symm hji)) h3.2.1 ?_) h2
      rw [Array.setIfInBounds_comm _ _ hji]
      exact h3.2.2

/-- Operations, by their numbers, each of which only reads: the frame behind them. -/
def wpStays (P : Program) (ops : Array Oper) (C : World → Prop) : List Nat → Act → Act → Prop
  | [], a, b => a = b
  | k :: ks, a, b => ∃ o, ops[k]? = some o ∧ o.guard = none ∧ ∃ v, (∀ w, C w → stayUpon w v ((execOp a.eval o).run P w)) ∧ wpStays P ops C ks (a.put o.dst v) b

theorem wpStays_step {k : Nat} {ks : List Nat} {a b : Act} {o : Oper} (ho : ops[k]? = some o) (hg : o.guard = none) (v : Value) (h : ∀ w, C w → stayUpon w v ((execOp a.eval o).run P w)) (hr : wpStays P ops C ks (a.put o.dst v) b) :
    wpStays P ops C (k :: ks) a b := ⟨o, ho, hg, v, h, hr⟩

def firstFrom (md : Region.Mode) (ops : Array Oper) : List Nat → Array Bool → Bool
  | [], _ => true
  | k :: ks, listed => (Region.ready md ops listed).contains k && Region.free md ops listed k && firstFrom md ops ks (listed.setIfInBounds k true)

def marked (listed : Array Bool) : List Nat → Array Bool
  | [] => listed
  | k :: ks => marked (listed.setIfInBounds k true) ks

theorem wanted_of_none {o : Oper} (h : o.guard = none) (y : Nat → Option Bool) : Region.wanted o y = true := by
  unfold Region.wanted
  rw [h]

theorem wpAnyP_stays {Q : Act → World → Prop} (hs : Region.noSelect ops = true) : ∀ (qs : List Nat) (listed : Array Bool) (a b : Act) (fuel : Nat) (w : World), C w → firstFrom md ops qs listed = true →
    wpStays P ops C qs a b → wpAnyP P md ops C Q fuel (marked listed qs) b w → wpAnyP P md ops C Q (fuel + qs.length) listed a w
  | [], _, a, b, fuel, w, _, _, h, H => by
    have : a = b := h
    subst this
    exact H
  | k :: ks, listed, a, b, fuel, w, hC, hB, h, H => by
    obtain ⟨o, ho, hg, v, hv, hr⟩ := h
    simp only [firstFrom, Bool.and_eq_true] at hB
    obtain ⟨⟨h1, h2⟩, h3⟩ := hB
    have := wpAnyP_stays hs ks (listed.setIfInBounds k true) (a.put o.dst v) b fuel w hC h3 hr H
    exact wpAnyP_first ho (Region.noSelect_spec hs) (fuel + ks.length) listed a w hC (Region.free_spec ho h2) (by simpa using h1) (.inl ⟨wanted_of_none hg _, hv⟩) this

theorem wpAnyP_one {Q : Act → World → Prop} {i fuel : Nat} {o : Oper} {listed : Array Bool} {a : Act} {w : World} (hr : Region.ready md ops listed = [i]) (ho : ops[i]? = some o) (hg : o.guard = none)
    (h : plainUpon C o a (wpAnyP P md ops C Q fuel (listed.setIfInBounds i true)) ((execOp a.eval o).run P w)) : wpAnyP P md ops C Q (fuel + 1) listed a w := by
  refine ⟨fun h0 => (by rw [hr] at h0; cases h0), fun j hj => ?_⟩
  rw [hr] at hj
  obtain rfl : j = i := by simpa using hj
  unfold pOp
  simp only [ho, wanted_of_none hg, if_true]
  exact h

theorem wpAnyP_two {Q : Act → World → Prop} {i k fuel : Nat} {o o' : Oper} {listed : Array Bool} {a : Act} {w : World} (hr : Region.ready md ops listed = [i, k]) (ho : ops[i]? = some o) (hg : o.guard = none) (ho' : ops[k]? = some o') (hg' : o'.guard = none)
    (h : plainUpon C o a (wpAnyP P md ops C Q fuel (listed.setIfInBounds i true)) ((execOp a.eval o).run P w))
    (h' : plainUpon C o' a (wpAnyP P md ops C Q fuel (listed.setIfInBounds k true)) ((execOp a.eval o').run P w)) : wpAnyP P md ops C Q (fuel + 1) listed a w := by
  refine ⟨fun h0 => (by rw [hr] at h0; cases h0), fun j hj => ?_⟩
  rw [hr] at hj
  unfold pOp
  rcases List.mem_cons.1 hj with rfl | hj
  · simp only [ho, wanted_of_none hg, if_true]
    exact h
  · obtain rfl : j = k := by simpa using hj
    simp only [ho', wanted_of_none hg', if_true]
    exact h'

theorem wp_region_first {id : Nat} {Q : Exit → Act → World → Prop} {a : Act} {w : World} {l : List Oper} (hm : P.follows .mixedOrders = true)
    (h : wpAnyP P .any l.toArray C (fun a w => Q .normal a w) l.length (Array.replicate l.length false) a { w with drawn := w.drawn + 1 }) : (Code.region id l.toArray true).wp P Q a w :=
  wp_region_any hm (wpAny_of_plain (C := C) _ _ _ _ (by simpa using h))
end
end Go.Proofs.Ytibjbpakbfodaaa
