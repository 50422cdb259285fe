/- A region that draws its order: operations that only read may be taken first, whatever the others write or call, where all worlds that come up ahead of the last operations (from a given one on) are of one class. -/
import Derived.Test.YthjokmfidhcclaaGreatDoorKeep
import Derived.StillTail
import Derived.Deep.Quiet
import Derived.Deep.DeepBigQuietO
namespace Go.Proofs.YthjokmfidhcclaaGreatDoor.Wg
open Go.RowKit

section
variable {P : Program} {ops : Array Oper} {md : Region.Mode} {C : World → Prop} {f : Nat}

/-- What is left of an operation: the world is of the class. -/
def plainUpon (P : Program) (C : World → Prop) (o : Oper) (a : Act) (K : Act → World → Prop) : Result Next → Prop
  | .ok (.enter f args) w' => Calls P f args w' fun e w'' => ∃ v, e = .returned v ∧ C w'' ∧ K (a.put o.dst v) w''
  | .ok (.value v) w' => C w' ∧ K (a.put o.dst v) w'
  | .ok .skip w' => C w' ∧ K (a.put o.dst undef) w'
  | _ => False

theorem plain_call {o : Oper} {a : Act} {K : Act → World → Prop} {g : FuncId} {args : Array Value} {w' : World} {R : Ending → World → Prop} (h : Calls P g args w' R) (hr : ∀ e w'', R e w'' → ∃ v, e = .returned v ∧ C w'' ∧ K (a.put o.dst v) w'') : plainUpon P C o a K (.ok (.enter g args) w') := h.mono hr

theorem plainUpon_mono {o : Oper} {a a1 : Act} {K K' : Act → World → Prop} (h : ∀ u w', C w' → K (a.put o.dst u) w' → K' (a1.put o.dst u) w') : ∀ {r : Result Next}, plainUpon P C o a K r → plainUpon P C o a1 K' r := by
  intro r hr
  cases r with
  | ok n w' =>
    cases n <;> simp only [plainUpon] at hr ⊢
    case value v => exact ⟨hr.1, h _ _ hr.1 hr.2⟩
    case skip => exact ⟨hr.1, h _ _ hr.1 hr.2⟩
    case enter f args => exact hr.mono fun e w'' ⟨v, h1, h2, h3⟩ => ⟨v, h1, h2, h _ _ h2 h3⟩
  | halt x w' => simp only [plainUpon] at hr

def pOp (P : Program) (ops : Array Oper) (C : World → Prop) (f : Nat) (i : Nat) (K : Act → World → Prop) (a : Act) (w : World) : Prop :=
  match ops[i]? with
  | none => K a w
  | some o => if Region.wanted o (yielded ops a.tmps) then plainUpon P (fun w => f ≤ i ∨ C w) o a K ((execOp a.eval o).run P w) else K (a.put o.dst undef) w

def wpAnyP (P : Program) (md : Region.Mode) (ops : Array Oper) (C : World → Prop) (f : Nat) (Q : Act → World → Prop) : Nat → Array Bool → Act → World → Prop
  | 0, listed, a, w => Region.ready md ops listed = [] ∧ Q a w
  | fuel + 1, listed, a, w =>
    (Region.ready md ops listed = [] → Q a w) ∧ ∀ i ∈ Region.ready md ops listed, pOp P ops C f i (wpAnyP P md ops C f Q fuel (listed.setIfInBounds i true)) a w

theorem wpOp_of_pOp {i : Nat} {a : Act} {K K' : Act → World → Prop} {Q' : Exit → Act → World → Prop} {w : World} (h : ∀ a w', K a w' → K' a w') (hh : pOp P ops C f i K a w) : wpOp P ops Q' i K' a w := by
  unfold pOp at hh
  unfold wpOp
  split
  · rename_i ho; simp only [ho] at hh; exact h _ _ hh
  · rename_i o ho
    simp only [ho] at hh
    split
    · rename_i hw
      simp only [hw, if_true] at hh
      refine .inl ?_
      unfold Oper.wp
      generalize (execOp a.eval o).run P w = r at *
      cases r with
      | ok n w' =>
        cases n <;> simp only [plainUpon] at hh <;> simp only [Oper.upon]
        case value v => exact h _ _ hh.2
        case skip => exact h _ _ hh.2
        case enter f args => exact hh.mono fun e w'' ⟨v, h1, _, h3⟩ => by subst h1; exact h _ _ h3
      | halt x w' => simp only [plainUpon] at hh
    · rename_i hw; simp only [hw] at hh; exact h _ _ hh

theorem wpAny_of_plain {Q' : Exit → Act → World → Prop} : ∀ (fuel : Nat) (listed : Array Bool) (a : Act) (w : World), wpAnyP P md ops C f (fun a w => Q' .normal a w) fuel listed a w → wpAny P md ops Q' fuel listed a w
  | 0, _, _, _, h => h
  | fuel + 1, _, _, _, h => ⟨h.1, fun i hi => wpOp_of_pOp (fun a' w' => wpAny_of_plain fuel _ a' w') (h.2 i hi)⟩

def stayUpon (w : World) (v : Value) : Result Next → Prop
  | .ok (.value u) w' => w' = w ∧ u = v
  | .ok .skip w' => w' = w ∧ v = undef
  | _ => False

/-- In every world of the class the operation yields v, and leaves the world as it is. -/
def StaysIn (P : Program) (ops : Array Oper) (C : World → Prop) (o : Oper) (v : Value) (a : Act) : Prop :=
  (Region.wanted o (yielded ops a.tmps) = true ∧ ∀ w, C w → stayUpon w v ((execOp a.eval o).run P w)) ∨ (Region.wanted o (yielded ops a.tmps) = false ∧ v = undef)

theorem StaysIn.pOp {i : Nat} {o : Oper} {v : Value} {a : Act} {w : World} (hi : ops[i]? = some o) (hy : StaysIn P ops C o v a) (hC : C w) {K : Act → World → Prop} (h : K (a.put o.dst v) w) : pOp P ops C f i K a w := by
  unfold Go.Proofs.YthjokmfidhcclaaGreatDoor.Wg.pOp
  simp only [hi]
  rcases hy with ⟨hw, hv⟩ | ⟨hw, rfl⟩
  · simp only [hw, if_true]
    have h1 := hv w hC
    generalize (execOp a.eval o).run P w = r at *
    cases r with
    | ok n w' =>
      cases n <;> simp only [stayUpon] at h1 <;> simp only [plainUpon]
      case value u => obtain ⟨rfl, rfl⟩ := h1; exact ⟨.inr hC, h⟩
      case skip => obtain ⟨rfl, rfl⟩ := h1; exact ⟨.inr hC, h⟩
    | halt x w' => simp only [stayUpon] at h1
  · simp only [hw, Bool.false_eq_true, if_false]; exact h

theorem StaysIn.of_same {o : Oper} {v : Value} {a a' : Act} (hy : StaysIn P ops C o v a) (he : execOp a'.eval o = execOp a.eval o)
    (hw : Region.wanted o (yielded ops a'.tmps) = Region.wanted o (yielded ops a.tmps)) : StaysIn P ops C o v a' := by
  unfold StaysIn at *
  rw [he, hw]
  exact hy

theorem pOp_put {j : Nat} {oi oj : Oper} {v : Value} (hj : ops[j]? = some oj) (hap : oi.apart ops oj = true)
    (hsi : ∀ cs b, oi.op ≠ .select cs b) (hsj : ∀ cs b, oj.op ≠ .select cs b) {K : Act → World → Prop} {a : Act} {w : World} (hC : C w)
    (hy : StaysIn P ops C oi v a) (h : pOp P ops C f j K (a.put oi.dst v) w) :
    pOp P ops C f j (fun a' w' => (f ≤ j ∨ C w') ∧ StaysIn P ops C oi v a' ∧ K (a'.put oi.dst v) w') a w := by
  obtain ⟨h1, h2, h3⟩ := Oper.apart_spec hap
  have keep : ∀ (a : Act), StaysIn P ops C oi v a → ∀ u, StaysIn P ops C oi v (a.put oj.dst u) := fun a hy u =>
    hy.of_same (execOp_put oi hsi a oj.dst u h3) (wanted_put oi a oj.dst u h3)
  unfold pOp at *
  simp only [hj] at *
  rw [wanted_put oj a oi.dst v h1] at h
  split
  · rename_i hw
    simp only [hw, if_true] at h
    rw [execOp_put oj hsj a oi.dst v h1] at h
    exact plainUpon_mono (fun u w' hC' hK => ⟨hC', keep a hy u, by rw [← Act.put_comm a v u h2]; exact hK⟩) h
  · rename_i hw
    simp only [hw] at h
    exact ⟨.inr hC, keep a hy _, by rw [← Act.put_comm a v undef h2]; exact h⟩

theorem pOp_mono {i : Nat} {a : Act} {K K' : Act → World → Prop} {w : World} (h : ∀ a w', K a w' → K' a w') (hh : pOp P ops C f i K a w) : pOp P ops C f i K' a w := by
  unfold pOp at *
  split
  · rename_i ho; simp only [ho] at hh; exact h _ _ hh
  · rename_i o ho
    simp only [ho] at hh
    split
    · rename_i hw; simp only [hw, if_true] at hh; exact plainUpon_mono (fun u w' _ hK => h _ _ hK) hh
    · rename_i hw; simp only [hw] at hh; exact h _ _ hh

/-- What has been done had done ahead of it what it waits for. -/
def Closed (md : Region.Mode) (ops : Array Oper) (listed : Array Bool) : Prop :=
  ∀ q o, listed.getD q false = true → ops[q]? = some o → ∀ e ∈ o.after, Region.binds md e = true → listed.getD e.on false = true

theorem getD_set_other {l : Array Bool} {k q : Nat} (h : k ≠ q) : (l.setIfInBounds k true).getD q false = l.getD q false := by
  simp only [Array.getD_eq_getD_getElem?, Array.getElem?_setIfInBounds, if_neg h]
theorem getD_set_le {l : Array Bool} {k q : Nat} (h : l.getD q false = true) : (l.setIfInBounds k true).getD q false = true := by
  by_cases hk : k = q
  · subst hk
    rcases Nat.lt_or_ge k l.size with h' | h'
    · simp [h']
    · simp [Array.getElem?_eq_none h'] at h
  · rw [getD_set_other hk]; exact h

theorem Closed.step {listed : Array Bool} (h : Closed md ops listed) {j : Nat} {oj : Oper} (hj : ops[j]? = some oj) (hall : ∀ e ∈ oj.after, Region.binds md e = true → listed.getD e.on false = true) : Closed md ops (listed.setIfInBounds j true) := fun q o hq ho e he hb => by
  by_cases hk : j = q
  · subst hk
    rw [hj] at ho
    cases ho
    exact getD_set_le (hall e he hb)
  · rw [getD_set_other hk] at hq
    exact getD_set_le (h q o hq ho e he hb)

/-- Does op j wait for op k, at once or by others? -/
def reachB (md : Region.Mode) (ops : Array Oper) (k : Nat) : Nat → Nat → Bool
  | 0, _ => false
  | fuel + 1, j => match ops[j]? with
    | none => false
    | some o => o.after.any fun e => Region.binds md e && (e.on == k || reachB md ops k fuel e.on)

theorem reach_listed {listed : Array Bool} (h : Closed md ops listed) {k : Nat} : ∀ (fuel j : Nat) (o : Oper), ops[j]? = some o → (∀ e ∈ o.after, Region.binds md e = true → listed.getD e.on false = true) → reachB md ops k fuel j = true → listed.getD k false = true
  | 0, _, _, _, _, hr => by simp [reachB] at hr
  | fuel + 1, j, o, ho, hall, hr => by
    unfold reachB at hr
    rw [ho] at hr
    obtain ⟨e, he, h2⟩ := Array.any_eq_true'.1 hr
    simp only [Bool.and_eq_true, Bool.or_eq_true, beq_iff_eq] at h2
    have hl := hall e he h2.1
    rcases h2.2 with h3 | h3
    · rw [← h3]; exact hl
    · cases ho2 : ops[e.on]? with
      | none => cases fuel <;> simp [reachB, ho2] at h3
      | some o2 => exact reach_listed h fuel e.on o2 ho2 (h e.on o2 hl ho2) h3

theorem wpAnyP_first {Q : Act → World → Prop} {i : Nat} {oi : Oper} {v : Value} (hi : ops[i]? = some oi) (hsel : ∀ (j : Nat) (o : Oper) cs b, ops[j]? = some o → o.op ≠ .select cs b) (hfin : ∀ k o, f ≤ k → ops[k]? = some o → reachB md ops i 6 k = true) :
    ∀ (fuel : Nat) (listed : Array Bool) (a : Act) (w : World), C w → Closed md ops listed →
      (∀ j oj, ops[j]? = some oj → j ≠ i → listed.getD j true = false → (∀ e ∈ oj.after, Region.binds md e = true → e.on ≠ i) → oi.apart ops oj = true) →
      i ∈ Region.ready md ops listed → StaysIn P ops C oi v a →
      wpAnyP P md ops C f Q fuel (listed.setIfInBounds i true) (a.put oi.dst v) w → wpAnyP P md ops C f Q (fuel + 1) listed a w := by
  intro fuel
  induction fuel with
  | zero =>
    intro listed a w hC _ _ hr hy H
    refine ⟨fun h => (by rw [h] at hr; cases hr), fun j hj => ?_⟩
    by_cases hji : j = i
    · subst hji; exact hy.pOp hi hC H
    · have := ready_mono hj hji
      rw [H.1] at this
      cases this
  | succ fuel ih =>
    intro listed a w hC hcl hfree hr hy H
    refine ⟨fun h => (by rw [h] at hr; cases hr), fun j hj => ?_⟩
    by_cases hji : j = i
    · subst hji; exact hy.pOp hi hC H
    · have h1 := H.2 j (ready_mono hj hji)
      obtain ⟨hjun, oj, hoj, hall⟩ := mem_ready.1 hj
      have hnot : ∀ e ∈ oj.after, Region.binds md e = true → e.on ≠ i := fun e he hb heq => by
        have h1 := hall e he hb
        have h0 := (mem_ready.1 hr).1
        rw [heq] at h1
        rcases Nat.lt_or_ge i listed.size with h' | h'
        · simp [h'] at h0 h1; rw [h0] at h1; cases h1
        · simp [Array.getElem?_eq_none h'] at h1
      have h2 := pOp_put hoj (hfree j oj hoj hji hjun hnot) (fun cs b => hsel i oi cs b hi) (fun cs b => hsel j oj cs b hoj) hC hy h1
      have hfree' : ∀ k ok, ops[k]? = some ok → k ≠ i → (listed.setIfInBounds j true).getD k true = false →
          (∀ e ∈ ok.after, Region.binds md e = true → e.on ≠ i) → oi.apart ops ok = true := fun k ok hk hki hun hno => by
        refine hfree k ok hk hki ?_ hno
        by_cases hjk : j = k
        · subst hjk; exact hjun
        · rw [getD_set_ne true hjk] at hun; exact hun
      have hjf : ¬ f ≤ j := fun e => by
        have h4 := reach_listed hcl 6 j oj hoj hall (hfin j oj e hoj)
        have h0 := (mem_ready.1 hr).1
        rcases Nat.lt_or_ge i listed.size with h' | h'
        · simp [h'] at h0 h4; rw [h0] at h4; cases h4
        · simp [Array.getElem?_eq_none h'] at h4
      refine pOp_mono (fun a' w' h3 => ih (listed.setIfInBounds j true) a' w' (h3.1.resolve_left hjf) (hcl.step hoj hall) hfree' (ready_mono hr (Ne.symm hji)) h3.2.1 ?_) h2
      rw [Array.setIfInBounds_comm _ _ hji]
      exact h3.2.2

/-- Operations, by their numbers, each of which only reads: the frame behind them. -/
def wpStays (P : Program) (ops : Array Oper) (C : World → Prop) : List Nat → Act → Act → Prop
  | [], a, b => a = b
  | k :: ks, a, b => ∃ o, ops[k]? = some o ∧ ∃ v, StaysIn P ops C o v a ∧ wpStays P ops C ks (a.put o.dst v) b

theorem wanted_of_none {o : Oper} (h : o.guard = none) (y : Nat → Option Bool) : Region.wanted o y = true := by
  unfold Region.wanted
  rw [h]

theorem wpStays_step {k : Nat} {ks : List Nat} {a b : Act} {o : Oper} (ho : ops[k]? = some o) (hg : o.guard = none) (v : Value) (h : ∀ w, C w → stayUpon w v ((execOp a.eval o).run P w)) (hr : wpStays P ops C ks (a.put o.dst v) b) :
    wpStays P ops C (k :: ks) a b := ⟨o, ho, v, .inl ⟨wanted_of_none hg _, h⟩, hr⟩
theorem wpStays_wanted {k : Nat} {ks : List Nat} {a b : Act} {o : Oper} (ho : ops[k]? = some o) (hg : Region.wanted o (yielded ops a.tmps) = true) (v : Value) (h : ∀ w, C w → stayUpon w v ((execOp a.eval o).run P w)) (hr : wpStays P ops C ks (a.put o.dst v) b) :
    wpStays P ops C (k :: ks) a b := ⟨o, ho, v, .inl ⟨hg, h⟩, hr⟩
theorem wpStays_skip {k : Nat} {ks : List Nat} {a b : Act} {o : Oper} (ho : ops[k]? = some o) (hg : Region.wanted o (yielded ops a.tmps) = false) (hr : wpStays P ops C ks (a.put o.dst undef) b) :
    wpStays P ops C (k :: ks) a b := ⟨o, ho, undef, .inr ⟨hg, rfl⟩, hr⟩

/-- The last operations wait for this one. -/
def waits (md : Region.Mode) (ops : Array Oper) (f k : Nat) : Bool :=
  (List.range ops.size).all fun q => decide (q < f) || reachB md ops k 6 q

theorem waits_spec {k : Nat} (h : waits md ops f k = true) : ∀ q o, f ≤ q → ops[q]? = some o → reachB md ops k 6 q = true := fun q o hq ho => by
  unfold waits at h
  have h1 := List.all_eq_true.1 h q (List.mem_range.2 (Array.getElem?_eq_some_iff.1 ho).1)
  rw [decide_eq_false (by omega), Bool.false_or] at h1
  exact h1

/-- The same, reckoned. -/
def closedB (md : Region.Mode) (ops : Array Oper) (listed : Array Bool) : Bool :=
  (List.range ops.size).all fun q => !listed.getD q false || match ops[q]? with
    | none => true
    | some o => o.after.all fun e => !Region.binds md e || listed.getD e.on false

theorem closed_of {listed : Array Bool} (h : closedB md ops listed = true) : Closed md ops listed := fun q o hq ho e he hb => by
  unfold closedB at h
  have h1 := List.all_eq_true.1 h q (List.mem_range.2 (Array.getElem?_eq_some_iff.1 ho).1)
  rw [ho, hq] at h1
  simp only [Bool.not_true, Bool.false_or] at h1
  have h2 := Array.all_eq_true'.1 h1 e he
  rw [hb] at h2
  simpa using h2

def firstFrom (md : Region.Mode) (ops : Array Oper) (f : Nat) : List Nat → Array Bool → Bool
  | [], _ => true
  | k :: ks, listed => (Region.ready md ops listed).contains k && Region.free md ops listed k && waits md ops f k && closedB md ops listed && firstFrom md ops f ks (listed.setIfInBounds k true)

def marked (listed : Array Bool) : List Nat → Array Bool
  | [] => listed
  | k :: ks => marked (listed.setIfInBounds k true) ks

theorem wpAnyP_stays {Q : Act → World → Prop} (hs : Region.noSelect ops = true) : ∀ (qs : List Nat) (listed : Array Bool) (a b : Act) (fuel : Nat) (w : World), C w → firstFrom md ops f qs listed = true →
    wpStays P ops C qs a b → wpAnyP P md ops C f Q fuel (marked listed qs) b w → wpAnyP P md ops C f Q (fuel + qs.length) listed a w
  | [], _, a, b, fuel, w, _, _, h, H => by
    have : a = b := h
    subst this
    exact H
  | k :: ks, listed, a, b, fuel, w, hC, hB, h, H => by
    obtain ⟨o, ho, v, hv, hr⟩ := h
    simp only [firstFrom, Bool.and_eq_true] at hB
    obtain ⟨⟨⟨⟨h1, h2⟩, h4⟩, h5⟩, h3⟩ := hB
    have := wpAnyP_stays hs ks (listed.setIfInBounds k true) (a.put o.dst v) b fuel w hC h3 hr H
    exact wpAnyP_first ho (Region.noSelect_spec hs) (waits_spec h4) (fuel + ks.length) listed a w hC (closed_of h5) (Region.free_spec ho h2) (by simpa using h1) hv this

theorem wpAnyP_one {Q : Act → World → Prop} {i fuel : Nat} {o : Oper} {listed : Array Bool} {a : Act} {w : World} (hr : Region.ready md ops listed = [i]) (ho : ops[i]? = some o) (hg : o.guard = none)
    (h : plainUpon P (fun w => f ≤ i ∨ C w) o a (wpAnyP P md ops C f Q fuel (listed.setIfInBounds i true)) ((execOp a.eval o).run P w)) : wpAnyP P md ops C f Q (fuel + 1) listed a w := by
  refine ⟨fun h0 => (by rw [hr] at h0; cases h0), fun j hj => ?_⟩
  rw [hr] at hj
  obtain rfl : j = i := by simpa using hj
  unfold pOp
  simp only [ho, wanted_of_none hg, if_true]
  exact h

theorem wpAnyP_oneW {Q : Act → World → Prop} {i fuel : Nat} {o : Oper} {listed : Array Bool} {a : Act} {w : World} (hr : Region.ready md ops listed = [i]) (ho : ops[i]? = some o) (hg : Region.wanted o (yielded ops a.tmps) = true)
    (h : plainUpon P (fun w => f ≤ i ∨ C w) o a (wpAnyP P md ops C f Q fuel (listed.setIfInBounds i true)) ((execOp a.eval o).run P w)) : wpAnyP P md ops C f Q (fuel + 1) listed a w := by
  refine ⟨fun h0 => (by rw [hr] at h0; cases h0), fun j hj => ?_⟩
  rw [hr] at hj
  obtain rfl : j = i := by simpa using hj
  unfold pOp
  simp only [ho, hg, if_true]
  exact h

theorem wpAnyP_two {Q : Act → World → Prop} {i k fuel : Nat} {o o' : Oper} {listed : Array Bool} {a : Act} {w : World} (hr : Region.ready md ops listed = [i, k]) (ho : ops[i]? = some o) (hg : o.guard = none) (ho' : ops[k]? = some o') (hg' : o'.guard = none)
    (h : plainUpon P (fun w => f ≤ i ∨ C w) o a (wpAnyP P md ops C f Q fuel (listed.setIfInBounds i true)) ((execOp a.eval o).run P w))
    (h' : plainUpon P (fun w => f ≤ k ∨ C w) o' a (wpAnyP P md ops C f Q fuel (listed.setIfInBounds k true)) ((execOp a.eval o').run P w)) : wpAnyP P md ops C f Q (fuel + 1) listed a w := by
  refine ⟨fun h0 => (by rw [hr] at h0; cases h0), fun j hj => ?_⟩
  rw [hr] at hj
  unfold pOp
  rcases List.mem_cons.1 hj with rfl | hj
  · simp only [ho, wanted_of_none hg, if_true]
    exact h
  · obtain rfl : j = k := by simpa using hj
    simp only [ho', wanted_of_none hg', if_true]
    exact h'

theorem wp_region_first {id : Nat} {Q : Exit → Act → World → Prop} {a : Act} {w : World} {l : List Oper} (hm : P.follows .mixedOrders = true)
    (f : Nat) (h : wpAnyP P .any l.toArray C f (fun a w => Q .normal a w) l.length (Array.replicate l.length false) a { w with drawn := w.drawn + 1 }) : (Code.region id l.toArray true).wp P Q a w :=
  wp_region_any hm (wpAny_of_plain (C := C) (f := f) _ _ _ _ (by simpa using h))
end
end Go.Proofs.YthjokmfidhcclaaGreatDoor.Wg
