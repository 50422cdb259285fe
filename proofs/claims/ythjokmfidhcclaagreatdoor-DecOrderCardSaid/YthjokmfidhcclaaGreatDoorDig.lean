/- Plain numbers as lists of digits of any base: the value of a list, a number's own digits, and what becomes of the value where one digit is set. No program is here. -/
namespace Go.Proofs.YthjokmfidhcclaaGreatDoor

/-- The number that digits of base B make, the least first. -/
def dval (B : Nat) : List Nat → Nat
  | [] => 0
  | x :: t => x + B * dval B t

/-- The digits of a number, the last one not nought. -/
def digs (B : Nat) (n : Nat) : List Nat :=
  if n = 0 ∨ B < 2 then [] else n % B :: digs B (n / B)
termination_by n
decreasing_by
  rename_i h
  exact Nat.div_lt_self (by omega) (by omega)

theorem digs_zero (B : Nat) : digs B 0 = [] := by unfold digs; simp
theorem digs_pos {B n : Nat} (hB : 2 ≤ B) (hn : 0 < n) : digs B n = n % B :: digs B (n / B) := by
  rw [digs]
  rw [if_neg (by omega)]

theorem dval_digs {B : Nat} (hB : 2 ≤ B) (n : Nat) : dval B (digs B n) = n := by
  induction n using Nat.strongRecOn with
  | _ n ih =>
    rcases Nat.eq_zero_or_pos n with rfl | h
    · rw [digs_zero]; rfl
    · rw [digs_pos hB h, dval, ih (n / B) (Nat.div_lt_self h (by omega))]
      have := Nat.mod_add_div n B
      omega

theorem digs_lt {B : Nat} (hB : 2 ≤ B) (n : Nat) : ∀ x ∈ digs B n, x < B := by
  induction n using Nat.strongRecOn with
  | _ n ih =>
    rcases Nat.eq_zero_or_pos n with rfl | h
    · rw [digs_zero]; simp
    · rw [digs_pos hB h]
      intro x hx
      rcases List.mem_cons.1 hx with rfl | hx
      · exact Nat.mod_lt _ (by omega)
      · exact ih _ (Nat.div_lt_self h (by omega)) x hx

theorem digs_nil {B n : Nat} (hB : 2 ≤ B) (h : digs B n = []) : n = 0 := by
  have := dval_digs hB n
  rw [h] at this
  exact this.symm

theorem dval_append (B : Nat) : ∀ (l m : List Nat), dval B (l ++ m) = dval B l + B ^ l.length * dval B m
  | [], m => by simp [dval]
  | x :: t, m => by
    rw [List.cons_append, dval, dval, dval_append B t m, List.length_cons, Nat.pow_succ]
    rw [Nat.mul_add, Nat.add_assoc]
    congr 2
    rw [← Nat.mul_assoc, Nat.mul_comm B]

theorem dval_snoc (B : Nat) (l : List Nat) (x : Nat) : dval B (l ++ [x]) = dval B l + B ^ l.length * x := by
  rw [dval_append]; simp [dval]

theorem dval_lt {B : Nat} (hB : 1 ≤ B) : ∀ (l : List Nat), (∀ x ∈ l, x < B) → dval B l < B ^ l.length
  | [], _ => by simp [dval]
  | x :: t, h => by
    have h1 := dval_lt hB t fun y hy => h y (List.mem_cons_of_mem _ hy)
    have h2 := h x (List.mem_cons_self ..)
    rw [dval, List.length_cons, Nat.pow_succ]
    have h3 : B * (dval B t + 1) ≤ B * B ^ t.length := Nat.mul_le_mul_left _ h1
    rw [Nat.mul_comm (B ^ t.length)]
    rw [Nat.mul_add] at h3
    omega

/-- Digits with a last one that is not nought are their number's own. -/
theorem digs_dval {B : Nat} (hB : 2 ≤ B) : ∀ (l : List Nat), (∀ x ∈ l, x < B) → (∀ x, l.getLast? = some x → x ≠ 0) → digs B (dval B l) = l
  | [], _, _ => by rw [dval, digs_zero]
  | x :: t, h, hl => by
    have hx := h x (List.mem_cons_self ..)
    have ht := fun y hy => h y (List.mem_cons_of_mem x hy)
    have hd : dval B (x :: t) / B = dval B t := by
      rw [dval, Nat.add_mul_div_left _ _ (by omega), Nat.div_eq_of_lt hx, Nat.zero_add]
    have hm : dval B (x :: t) % B = x := by
      rw [dval, Nat.add_mul_mod_self_left, Nat.mod_eq_of_lt hx]
    have hp : 0 < dval B (x :: t) := by
      cases t with
      | nil =>
        have := hl x rfl
        rw [dval, dval]
        omega
      | cons y u =>
        have ih := digs_dval hB (y :: u) ht fun z hz => hl z (by simpa using hz)
        rcases Nat.eq_zero_or_pos (dval B (y :: u)) with h0 | h0
        · rw [h0, digs_zero] at ih; cases ih
        · rw [dval]
          have : 0 < B * dval B (y :: u) := Nat.mul_pos (by omega) h0
          omega
    rw [digs_pos hB hp, hm, hd]
    congr 1
    apply digs_dval hB t ht
    intro z hz
    apply hl
    cases t with
    | nil => cases hz
    | cons y u => simpa using hz

theorem dval_zeros (B : Nat) : ∀ n, dval B (List.replicate n 0) = 0
  | 0 => rfl
  | n + 1 => by rw [List.replicate_succ, dval, dval_zeros B n]; simp

/-- One digit is set. -/
theorem dval_set (B : Nat) : ∀ (l : List Nat) (k : Nat) (x y : Nat), l[k]? = some y → dval B (l.set k x) + y * B ^ k = dval B l + x * B ^ k
  | [], k, x, y, h => by simp at h
  | z :: t, 0, x, y, h => by
    have : z = y := by simpa using h
    subst this
    simp [dval]
    omega
  | z :: t, k + 1, x, y, h => by
    have ih := dval_set B t k x y (by simpa using h)
    rw [List.set_cons_succ, dval, dval, Nat.pow_succ]
    have e1 : ∀ u, u * (B ^ k * B) = B * (u * B ^ k) := fun u => by
      rw [Nat.mul_comm (B ^ k) B, ← Nat.mul_assoc, Nat.mul_comm u B, Nat.mul_assoc]
    rw [e1, e1]
    have e2 : B * dval B (t.set k x) + B * (y * B ^ k) = B * dval B t + B * (x * B ^ k) := by rw [← Nat.mul_add, ih, Nat.mul_add]
    omega

theorem dval_take_succ (B : Nat) (l : List Nat) (k y : Nat) (h : l[k]? = some y) : dval B (l.take (k + 1)) = dval B (l.take k) + B ^ k * y := by
  have hk : k < l.length := (List.getElem?_eq_some_iff.1 h).1
  rw [List.take_add_one, h, Option.toList, dval_snoc, List.length_take, Nat.min_eq_left (by omega)]

theorem dval_drop (B : Nat) (l : List Nat) (k : Nat) (hk : k ≤ l.length) : dval B l = dval B (l.take k) + B ^ k * dval B (l.drop k) := by
  conv => lhs; rw [← List.take_append_drop k l]
  rw [dval_append, List.length_take, Nat.min_eq_left hk]

/-- A number's digits are no more than k where the number is less than B^k. -/
theorem digs_length_le {B : Nat} (hB : 2 ≤ B) : ∀ (k n : Nat), n < B ^ k → (digs B n).length ≤ k
  | 0, n, h => by
    have : n = 0 := by simpa using h
    subst this
    rw [digs_zero]; simp
  | k + 1, n, h => by
    rcases Nat.eq_zero_or_pos n with rfl | h0
    · rw [digs_zero]; simp
    · rw [digs_pos hB h0, List.length_cons]
      have : n / B < B ^ k := by
        rw [Nat.div_lt_iff_lt_mul (by omega)]
        rwa [Nat.pow_succ] at h
      have := digs_length_le hB k _ this
      omega

theorem digs_lt_pow {B : Nat} (hB : 2 ≤ B) (n : Nat) : n < B ^ (digs B n).length := by
  have := dval_lt (B := B) (by omega) (digs B n) (digs_lt hB n)
  rwa [dval_digs hB] at this

/-- The last digit of a number that is not nought. -/
theorem digs_last {B : Nat} (hB : 2 ≤ B) (n x : Nat) (h : (digs B n).getLast? = some x) : x ≠ 0 := by
  induction n using Nat.strongRecOn with
  | _ n ih =>
    rcases Nat.eq_zero_or_pos n with rfl | h0
    · rw [digs_zero] at h; cases h
    · rw [digs_pos hB h0] at h
      rcases Nat.eq_zero_or_pos (n / B) with h1 | h1
      · rw [h1, digs_zero] at h
        have hlt : n < B := by
          rcases Nat.lt_or_ge n B with h | h
          · exact h
          · have := Nat.div_pos h (by omega : 0 < B); omega
        simp [Nat.mod_eq_of_lt hlt] at h
        omega
      · rw [digs_pos hB h1, List.getLast?_cons_cons, ← digs_pos hB h1] at h
        exact ih _ (Nat.div_lt_self h0 (by omega)) h

/-- As many digits as it has, a number is at least B to one less. -/
theorem digs_pow_le {B : Nat} (hB : 2 ≤ B) (n : Nat) (h : 0 < n) : B ^ ((digs B n).length - 1) ≤ n := by
  induction n using Nat.strongRecOn with
  | _ n ih =>
    rw [digs_pos hB h, List.length_cons, Nat.add_sub_cancel]
    rcases Nat.eq_zero_or_pos (n / B) with h1 | h1
    · rw [h1, digs_zero]; simp; omega
    · have i := ih _ (Nat.div_lt_self h (by omega)) h1
      have e : (digs B (n / B)).length = (digs B (n / B)).length - 1 + 1 := by
        have : digs B (n / B) ≠ [] := fun h => by have := digs_nil hB h; omega
        have := List.length_pos_iff.2 this
        omega
      rw [e, Nat.pow_succ]
      have := Nat.mul_le_mul_right B i
      have := Nat.div_mul_le_self n B
      omega

/-- A list with noughts behind it, cut. -/
def trimN (l : List Nat) : List Nat := (l.reverse.dropWhile (· == 0)).reverse

theorem dval_snoc_zero (B : Nat) (l : List Nat) : dval B (l ++ [0]) = dval B l := by rw [dval_snoc]; simp

theorem dval_take_zeros (B : Nat) (l : List Nat) (k : Nat) (h : ∀ i x, k ≤ i → l[i]? = some x → x = 0) : dval B (l.take k) = dval B l := by
  rcases Nat.lt_or_ge l.length k with hk | hk
  · rw [List.take_of_length_le (by omega)]
  · rw [dval_drop B l k hk]
    have : l.drop k = List.replicate (l.length - k) 0 := by
      apply List.ext_getElem?
      intro i
      rw [List.getElem?_drop, List.getElem?_replicate]
      split
      · have hlt : k + i < l.length := by omega
        rw [List.getElem?_eq_getElem hlt, h (k + i) _ (by omega) (List.getElem?_eq_getElem hlt)]
      · rw [List.getElem?_eq_none (by omega)]
    rw [this, dval_zeros]; simp

end Go.Proofs.YthjokmfidhcclaaGreatDoor
