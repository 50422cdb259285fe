/- Plain numbers as lists of digits of any base: the value of a list, a number's own digits, and what becomes of the value where one digit is set. No program is here. Plain decimals: what is wrong with one, and which of two is less: by whole numbers of a common unit, and by fractions. No program is here. The document's way to read a rune, in plain numbers: just what the tables of the library let through. No program is here. Plain multiplication of digits, word by word; the comparison of lists of digits; a list cut where its noughts begin. No program is here. Plain division of digits by one digit, and digits moved by some bits, word by word. No program is here. Plain long division by two words: the digit that is tried, the three words that are left, and the whole. No program is here. Plain long division by two words: what holds ahead of each digit. No program is here. -/
import Derived.Lib.ValidLaws
namespace Go.Proofs.YtnihfhfakadepaaGreatDoor

/-- The number that digits of base B make, the least first. -/
def dval (B : Nat) : List Nat → Nat
  | [] => 0
  | x :: t => x + B * dval B t

/-- The digits of a number, the last one not nought. -/
def digs (B : Nat) (n : Nat) : List Nat :=
  if n = 0 ∨ B < 2 then [] else n % B :: digs B (n / B)
termination_by n
decreasing_by
  rename_i h
  exact Nat.div_lt_self (by omega) (by omega)

theorem digs_zero (B : Nat) : digs B 0 = [] := by unfold digs; simp
theorem digs_pos {B n : Nat} (hB : 2 ≤ B) (hn : 0 < n) : digs B n = n % B :: digs B (n / B) := by
  rw [digs]
  rw [if_neg (by omega)]

theorem dval_digs {B : Nat} (hB : 2 ≤ B) (n : Nat) : dval B (digs B n) = n := by
  induction n using Nat.strongRecOn with
  | _ n ih =>
    rcases Nat.eq_zero_or_pos n with rfl | h
    · rw [digs_zero]; rfl
    · rw [digs_pos hB h, dval, ih (n / B) (Nat.div_lt_self h (by omega))]
      have := Nat.mod_add_div n B
      omega

theorem digs_lt {B : Nat} (hB : 2 ≤ B) (n : Nat) : ∀ x ∈ digs B n, x < B := by
  induction n using Nat.strongRecOn with
  | _ n ih =>
    rcases Nat.eq_zero_or_pos n with rfl | h
    · rw [digs_zero]; simp
    · rw [digs_pos hB h]
      intro x hx
      rcases List.mem_cons.1 hx with rfl | hx
      · exact Nat.mod_lt _ (by omega)
      · exact ih _ (Nat.div_lt_self h (by omega)) x hx

theorem digs_nil {B n : Nat} (hB : 2 ≤ B) (h : digs B n = []) : n = 0 := by
  have := dval_digs hB n
  rw [h] at this
  exact this.symm

theorem dval_append (B : Nat) : ∀ (l m : List Nat), dval B (l ++ m) = dval B l + B ^ l.length * dval B m
  | [], m => by simp [dval]
  | x :: t, m => by
    rw [List.cons_append, dval, dval, dval_append B t m, List.length_cons, Nat.pow_succ]
    rw [Nat.mul_add, Nat.add_assoc]
    congr 2
    rw [← Nat.mul_assoc, Nat.mul_comm B]

theorem dval_snoc (B : Nat) (l : List Nat) (x : Nat) : dval B (l ++ [x]) = dval B l + B ^ l.length * x := by
  rw [dval_append]; simp [dval]

theorem dval_lt {B : Nat} (hB : 1 ≤ B) : ∀ (l : List Nat), (∀ x ∈ l, x < B) → dval B l < B ^ l.length
  | [], _ => by simp [dval]
  | x :: t, h => by
    have h1 := dval_lt hB t fun y hy => h y (List.mem_cons_of_mem _ hy)
    have h2 := h x (List.mem_cons_self ..)
    rw [dval, List.length_cons, Nat.pow_succ]
    have h3 : B * (dval B t + 1) ≤ B * B ^ t.length := Nat.mul_le_mul_left _ h1
    rw [Nat.mul_comm (B ^ t.length)]
    rw [Nat.mul_add] at h3
    omega

/-- Digits with a last one that is not nought are their number's own. -/
theorem digs_dval {B : Nat} (hB : 2 ≤ B) : ∀ (l : List Nat), (∀ x ∈ l, x < B) → (∀ x, l.getLast? = some x → x ≠ 0) → digs B (dval B l) = l
  | [], _, _ => by rw [dval, digs_zero]
  | x :: t, h, hl => by
    have hx := h x (List.mem_cons_self ..)
    have ht := fun y hy => h y (List.mem_cons_of_mem x hy)
    have hd : dval B (x :: t) / B = dval B t := by
      rw [dval, Nat.add_mul_div_left _ _ (by omega), Nat.div_eq_of_lt hx, Nat.zero_add]
    have hm : dval B (x :: t) % B = x := by
      rw [dval, Nat.add_mul_mod_self_left, Nat.mod_eq_of_lt hx]
    have hp : 0 < dval B (x :: t) := by
      cases t with
      | nil =>
        have := hl x rfl
        rw [dval, dval]
        omega
      | cons y u =>
        have ih := digs_dval hB (y :: u) ht fun z hz => hl z (by simpa using hz)
        rcases Nat.eq_zero_or_pos (dval B (y :: u)) with h0 | h0
        · rw [h0, digs_zero] at ih; cases ih
        · rw [dval]
          have : 0 < B * dval B (y :: u) := Nat.mul_pos (by omega) h0
          omega
    rw [digs_pos hB hp, hm, hd]
    congr 1
    apply digs_dval hB t ht
    intro z hz
    apply hl
    cases t with
    | nil => cases hz
    | cons y u => simpa using hz

theorem dval_zeros (B : Nat) : ∀ n, dval B (List.replicate n 0) = 0
  | 0 => rfl
  | n + 1 => by rw [List.replicate_succ, dval, dval_zeros B n]; simp

/-- One digit is set. -/
theorem dval_set (B : Nat) : ∀ (l : List Nat) (k : Nat) (x y : Nat), l[k]? = some y → dval B (l.set k x) + y * B ^ k = dval B l + x * B ^ k
  | [], k, x, y, h => by simp at h
  | z :: t, 0, x, y, h => by
    have : z = y := by simpa using h
    subst this
    simp [dval]
    omega
  | z :: t, k + 1, x, y, h => by
    have ih := dval_set B t k x y (by simpa using h)
    rw [List.set_cons_succ, dval, dval, Nat.pow_succ]
    have e1 : ∀ u, u * (B ^ k * B) = B * (u * B ^ k) := fun u => by
      rw [Nat.mul_comm (B ^ k) B, ← Nat.mul_assoc, Nat.mul_comm u B, Nat.mul_assoc]
    rw [e1, e1]
    have e2 : B * dval B (t.set k x) + B * (y * B ^ k) = B * dval B t + B * (x * B ^ k) := by rw [← Nat.mul_add, ih, Nat.mul_add]
    omega

theorem dval_take_succ (B : Nat) (l : List Nat) (k y : Nat) (h : l[k]? = some y) : dval B (l.take (k + 1)) = dval B (l.take k) + B ^ k * y := by
  have hk : k < l.length := (List.getElem?_eq_some_iff.1 h).1
  rw [List.take_add_one, h, Option.toList, dval_snoc, List.length_take, Nat.min_eq_left (by omega)]

theorem dval_drop (B : Nat) (l : List Nat) (k : Nat) (hk : k ≤ l.length) : dval B l = dval B (l.take k) + B ^ k * dval B (l.drop k) := by
  conv => lhs; rw [← List.take_append_drop k l]
  rw [dval_append, List.length_take, Nat.min_eq_left hk]

/-- A number's digits are no more than k where the number is less than B^k. -/
theorem digs_length_le {B : Nat} (hB : 2 ≤ B) : ∀ (k n : Nat), n < B ^ k → (digs B n).length ≤ k
  | 0, n, h => by
    have : n = 0 := by simpa using h
    subst this
    rw [digs_zero]; simp
  | k + 1, n, h => by
    rcases Nat.eq_zero_or_pos n with rfl | h0
    · rw [digs_zero]; simp
    · rw [digs_pos hB h0, List.length_cons]
      have : n / B < B ^ k := by
        rw [Nat.div_lt_iff_lt_mul (by omega)]
        rwa [Nat.pow_succ] at h
      have := digs_length_le hB k _ this
      omega

theorem digs_lt_pow {B : Nat} (hB : 2 ≤ B) (n : Nat) : n < B ^ (digs B n).length := by
  have := dval_lt (B := B) (by omega) (digs B n) (digs_lt hB n)
  rwa [dval_digs hB] at this

/-- The last digit of a number that is not nought. -/
theorem digs_last {B : Nat} (hB : 2 ≤ B) (n x : Nat) (h : (digs B n).getLast? = some x) : x ≠ 0 := by
  induction n using Nat.strongRecOn with
  | _ n ih =>
    rcases Nat.eq_zero_or_pos n with rfl | h0
    · rw [digs_zero] at h; cases h
    · rw [digs_pos hB h0] at h
      rcases Nat.eq_zero_or_pos (n / B) with h1 | h1
      · rw [h1, digs_zero] at h
        have hlt : n < B := by
          rcases Nat.lt_or_ge n B with h | h
          · exact h
          · have := Nat.div_pos h (by omega : 0 < B); omega
        simp [Nat.mod_eq_of_lt hlt] at h
        omega
      · rw [digs_pos hB h1, List.getLast?_cons_cons, ← digs_pos hB h1] at h
        exact ih _ (Nat.div_lt_self h0 (by omega)) h

/-- As many digits as it has, a number is at least B to one less. -/
theorem digs_pow_le {B : Nat} (hB : 2 ≤ B) (n : Nat) (h : 0 < n) : B ^ ((digs B n).length - 1) ≤ n := by
  induction n using Nat.strongRecOn with
  | _ n ih =>
    rw [digs_pos hB h, List.length_cons, Nat.add_sub_cancel]
    rcases Nat.eq_zero_or_pos (n / B) with h1 | h1
    · rw [h1, digs_zero]; simp; omega
    · have i := ih _ (Nat.div_lt_self h (by omega)) h1
      have e : (digs B (n / B)).length = (digs B (n / B)).length - 1 + 1 := by
        have : digs B (n / B) ≠ [] := fun h => by have := digs_nil hB h; omega
        have := List.length_pos_iff.2 this
        omega
      rw [e, Nat.pow_succ]
      have := Nat.mul_le_mul_right B i
      have := Nat.div_mul_le_self n B
      omega

/-- A list with noughts behind it, cut. -/
def trimN (l : List Nat) : List Nat := (l.reverse.dropWhile (· == 0)).reverse

theorem dval_snoc_zero (B : Nat) (l : List Nat) : dval B (l ++ [0]) = dval B l := by rw [dval_snoc]; simp

theorem dval_take_zeros (B : Nat) (l : List Nat) (k : Nat) (h : ∀ i x, k ≤ i → l[i]? = some x → x = 0) : dval B (l.take k) = dval B l := by
  rcases Nat.lt_or_ge l.length k with hk | hk
  · rw [List.take_of_length_le (by omega)]
  · rw [dval_drop B l k hk]
    have : l.drop k = List.replicate (l.length - k) 0 := by
      apply List.ext_getElem?
      intro i
      rw [List.getElem?_drop, List.getElem?_replicate]
      split
      · have hlt : k + i < l.length := by omega
        rw [List.getElem?_eq_getElem hlt, h (k + i) _ (by omega) (List.getElem?_eq_getElem hlt)]
      · rw [List.getElem?_eq_none (by omega)]
    rw [this, dval_zeros]; simp

end Go.Proofs.YtnihfhfakadepaaGreatDoor
namespace Go.Proofs.YtnihfhfakadepaaGreatDoor

/-- A decimal: so many units of a power of ten. -/
structure DecV where
  coef : Int
  exp : Int
deriving DecidableEq

/-- What is wrong with one (0: nothing, 3: too great, 2: out of form). -/
def wrongD (d : DecV) : Int :=
  if d.coef > 999999999999999999 ∨ d.coef < -999999999999999999 ∨ d.exp > 40 ∨ d.exp < -40 then 3
  else if (d.coef = 0 ∧ d.exp ≠ 0) ∨ (d.coef ≠ 0 ∧ d.coef.tmod 10 = 0) then 2 else 0

def cmpI (a b : Int) : Int := if a < b then -1 else if a = b then 0 else 1

theorem cmpI_scale (a b k : Int) (hk : 0 < k) : cmpI (a * k) (b * k) = cmpI a b := by
  unfold cmpI
  have h1 : a * k < b * k ↔ a < b := Int.mul_lt_mul_right hk
  have h2 : a * k = b * k ↔ a = b := ⟨fun h => Int.eq_of_mul_eq_mul_right (by omega) h, fun h => by rw [h]⟩
  simp only [h1, h2]

/-- A number in units of 10^e. -/
def unitsD (d : DecV) (e : Int) : Int := d.coef * 10 ^ (d.exp - e).toNat

/-- Which of two is less: in units of the lesser power. -/
def cmpD (a b : DecV) : Int := cmpI (unitsD a (min a.exp b.exp)) (unitsD b (min a.exp b.exp))

/-- p / q is the decimal's fraction. -/
structure IsRat (d : DecV) (p q : Int) : Prop where
  pos : 0 < q
  up : 0 ≤ d.exp → p = d.coef * 10 ^ d.exp.toNat * q
  down : d.exp < 0 → p * 10 ^ (-d.exp).toNat = d.coef * q

theorem ten_pos (n : Nat) : (0 : Int) < 10 ^ n := Int.pow_pos (by omega)

theorem IsRat.scaled {d : DecV} {p q : Int} (h : IsRat d p q) (he : -40 ≤ d.exp) : p * 10 ^ 40 = unitsD d (-40) * q := by
  unfold unitsD
  rcases Int.lt_or_le d.exp 0 with h0 | h0
  · have e := h.down h0
    obtain ⟨n, hn⟩ : ∃ n : Nat, d.exp = -(n : Int) := ⟨(-d.exp).toNat, by omega⟩
    rw [hn] at e he ⊢
    rw [show (-(-(n : Int))).toNat = n by omega] at e
    rw [show (-(n : Int) - -40).toNat = 40 - n by omega]
    rw [show (10 : Int) ^ 40 = 10 ^ n * 10 ^ (40 - n) by rw [← Int.pow_add]; congr 1; omega]
    rw [← Int.mul_assoc, e, Int.mul_assoc, Int.mul_assoc, Int.mul_comm q]
  · have e := h.up h0
    obtain ⟨n, hn⟩ : ∃ n : Nat, d.exp = (n : Int) := ⟨d.exp.toNat, by omega⟩
    rw [hn] at e ⊢
    rw [show ((n : Int)).toNat = n by omega] at e
    rw [show ((n : Int) - -40).toNat = n + 40 by omega, e, Int.pow_add]
    rw [Int.mul_assoc, Int.mul_assoc, Int.mul_comm q, Int.mul_assoc, Int.mul_assoc]

theorem units_scaled (d : DecV) (e : Int) (h1 : e ≤ d.exp) (h2 : -40 ≤ e) : unitsD d e * 10 ^ (e + 40).toNat = unitsD d (-40) := by
  unfold unitsD
  rw [Int.mul_assoc, ← Int.pow_add]
  congr 2
  omega

theorem cmpD_scaled (a b : DecV) (ha : -40 ≤ a.exp) (hb : -40 ≤ b.exp) : cmpD a b = cmpI (unitsD a (-40)) (unitsD b (-40)) := by
  unfold cmpD
  rw [← cmpI_scale _ _ (10 ^ (min a.exp b.exp + 40).toNat) (ten_pos _), units_scaled _ _ (by omega) (by omega), units_scaled _ _ (by omega) (by omega)]

/-- Fractions go as their decimals do. -/
theorem cmp_rats {a b : DecV} {p q r s : Int} (h1 : IsRat a p q) (h2 : IsRat b r s) (ha : -40 ≤ a.exp) (hb : -40 ≤ b.exp) : cmpI (p * s) (r * q) = cmpD a b := by
  rw [cmpD_scaled a b ha hb, ← cmpI_scale (p * s) (r * q) (10 ^ 40) (ten_pos _), ← cmpI_scale (unitsD a (-40)) _ (q * s) (Int.mul_pos h1.pos h2.pos)]
  have e1 : p * s * 10 ^ 40 = unitsD a (-40) * (q * s) := by
    rw [Int.mul_assoc, Int.mul_comm s, ← Int.mul_assoc, h1.scaled ha, Int.mul_assoc]
  have e2 : r * q * 10 ^ 40 = unitsD b (-40) * (q * s) := by
    rw [Int.mul_assoc, Int.mul_comm q, ← Int.mul_assoc, h2.scaled hb, Int.mul_assoc, Int.mul_comm s]
  rw [e1, e2]

/-- The same where both have one lower part. -/
theorem cmp_rats_same {a b : DecV} {p q r : Int} (h1 : IsRat a p q) (h2 : IsRat b r q) (ha : -40 ≤ a.exp) (hb : -40 ≤ b.exp) : cmpI p r = cmpD a b := by
  rw [← cmp_rats h1 h2 ha hb, cmpI_scale _ _ _ h1.pos]

theorem wrongD_zero {d : DecV} (h : wrongD d = 0) : -999999999999999999 ≤ d.coef ∧ d.coef ≤ 999999999999999999 ∧ -40 ≤ d.exp ∧ d.exp ≤ 40 := by
  unfold wrongD at h
  split at h
  · simp at h
  · omega

end Go.Proofs.YtnihfhfakadepaaGreatDoor
namespace Go.Proofs.YtnihfhfakadepaaGreatDoor
open Go.Lib

/-- How many bytes a rune has (none: it is no rune). -/
def refN (n b0 b1 b2 b3 : Nat) : Option Nat :=
  if b0 < 192 ∨ 248 ≤ b0 then none
  else if b0 < 224 then
    if n < 2 ∨ b1 < 128 ∨ 192 ≤ b1 ∨ (b0 - 192) * 64 + b1 < 256 then none else some 2
  else if b0 < 240 then
    if n < 3 ∨ b1 < 128 ∨ 192 ≤ b1 ∨ b2 < 128 ∨ 192 ≤ b2 ∨ (b0 - 224) * 4096 + b1 * 64 + b2 < 2048 + 8320 ∨ (55296 + 8320 ≤ (b0 - 224) * 4096 + b1 * 64 + b2 ∧ (b0 - 224) * 4096 + b1 * 64 + b2 < 57344 + 8320) then none else some 3
  else
    if n < 4 ∨ b1 < 128 ∨ 192 ≤ b1 ∨ b2 < 128 ∨ 192 ≤ b2 ∨ b3 < 128 ∨ 192 ≤ b3 ∨ (b0 - 240) * 262144 + b1 * 4096 + b2 * 64 + b3 < 65536 + 532608 ∨ 1114111 + 532608 < (b0 - 240) * 262144 + b1 * 4096 + b2 * 64 + b3 then none else some 4

set_option maxHeartbeats 4000000 in
theorem refN_check (n b0 b1 b2 b3 : Nat) (h0 : 128 ≤ b0) (h0' : b0 < 256) :
    refN n b0 b1 b2 b3 = checkN n b1 b2 b3 (firstT b0 % 8) (accLo (firstT b0 / 16)) (accHi (firstT b0 / 16)) := by
  have key : ∀ f, firstT b0 = f → refN n b0 b1 b2 b3 = checkN n b1 b2 b3 (f % 8) (accLo (f / 16)) (accHi (f / 16)) → refN n b0 b1 b2 b3 = checkN n b1 b2 b3 (firstT b0 % 8) (accLo (firstT b0 / 16)) (accHi (firstT b0 / 16)) := fun f hf h => by rw [hf]; exact h
  by_cases c0 : b0 < 194
  · refine key 241 (by unfold firstT; repeat (first | rw [if_pos (by omega)] | rw [if_neg (by omega)])) ?_
    simp only [checkN, Nat.reduceMod, Nat.reduceDiv]
    unfold refN
    repeat' split
    all_goals first | rfl | (exfalso; omega)
  by_cases c1 : b0 < 224
  · refine key 2 (by unfold firstT; repeat (first | rw [if_pos (by omega)] | rw [if_neg (by omega)])) ?_
    simp only [checkN, accLo, accHi, Nat.reduceMod, Nat.reduceDiv, if_true]
    unfold refN
    repeat' split
    all_goals first | rfl | (exfalso; omega)
  by_cases c2 : b0 = 224
  · refine key 19 (by unfold firstT; repeat (first | rw [if_pos (by omega)] | rw [if_neg (by omega)])) ?_
    simp only [checkN, accLo, accHi, Nat.reduceMod, Nat.reduceDiv, if_true]
    unfold refN
    repeat' split
    all_goals first | rfl | (exfalso; omega)
  by_cases c3 : b0 < 237
  · refine key 3 (by unfold firstT; repeat (first | rw [if_pos (by omega)] | rw [if_neg (by omega)])) ?_
    simp only [checkN, accLo, accHi, Nat.reduceMod, Nat.reduceDiv, if_true]
    unfold refN
    repeat' split
    all_goals first | rfl | (exfalso; omega)
  by_cases c4 : b0 = 237
  · refine key 35 (by unfold firstT; repeat (first | rw [if_pos (by omega)] | rw [if_neg (by omega)])) ?_
    simp only [checkN, accLo, accHi, Nat.reduceMod, Nat.reduceDiv, if_true]
    unfold refN
    repeat' split
    all_goals first | rfl | (exfalso; omega)
  by_cases c5 : b0 < 240
  · refine key 3 (by unfold firstT; repeat (first | rw [if_pos (by omega)] | rw [if_neg (by omega)])) ?_
    simp only [checkN, accLo, accHi, Nat.reduceMod, Nat.reduceDiv, if_true]
    unfold refN
    repeat' split
    all_goals first | rfl | (exfalso; omega)
  by_cases c6 : b0 = 240
  · refine key 52 (by unfold firstT; repeat (first | rw [if_pos (by omega)] | rw [if_neg (by omega)])) ?_
    simp only [checkN, accLo, accHi, Nat.reduceMod, Nat.reduceDiv, if_true]
    unfold refN
    repeat' split
    all_goals first | rfl | (exfalso; omega)
  by_cases c7 : b0 < 244
  · refine key 4 (by unfold firstT; repeat (first | rw [if_pos (by omega)] | rw [if_neg (by omega)])) ?_
    simp only [checkN, accLo, accHi, Nat.reduceMod, Nat.reduceDiv, if_true]
    unfold refN
    repeat' split
    all_goals first | rfl | (exfalso; omega)
  by_cases c8 : b0 = 244
  · refine key 68 (by unfold firstT; repeat (first | rw [if_pos (by omega)] | rw [if_neg (by omega)])) ?_
    simp only [checkN, accLo, accHi, Nat.reduceMod, Nat.reduceDiv, if_true]
    unfold refN
    repeat' split
    all_goals first | rfl | (exfalso; omega)
  · refine key 241 (by unfold firstT; repeat (first | rw [if_pos (by omega)] | rw [if_neg (by omega)])) ?_
    simp only [checkN, Nat.reduceMod, Nat.reduceDiv]
    unfold refN
    repeat' split
    all_goals first | rfl | (exfalso; omega)

/-- The byte at a place (0 behind the end). -/
def byteAt (s : ByteArray) (k : Nat) : Nat := (s.data.toList.getD k 0).toNat

theorem byteAt_lt (s : ByteArray) (k : Nat) : byteAt s k < 256 := (s.data.toList.getD k 0).toNat_lt
theorem byteAt_get (s : ByteArray) (k : Nat) (h : k < s.size) : (s[k]'h).toNat = byteAt s k := by
  unfold byteAt
  rw [List.getD_eq_getElem?_getD, List.getElem?_eq_getElem (by simpa using h)]
  rfl

theorem valid_end (s : ByteArray) : validD (s.data.toList.drop s.size) = true := by
  rw [List.drop_of_length_le (by simp)]
  rfl
theorem valid_low (s : ByteArray) (k : Nat) (h : k < s.size) (hb : byteAt s k < 128) : validD (s.data.toList.drop k) = validD (s.data.toList.drop (k + 1)) := by
  have hl : k < s.data.toList.length := by simpa using h
  rw [List.drop_eq_getElem_cons hl]
  apply validD_cons
  unfold byteAt at hb
  rw [List.getD_eq_getElem?_getD, List.getElem?_eq_getElem hl] at hb
  exact hb
theorem getD_drop' (l : List UInt8) (k j : Nat) : (l.drop k).getD j 0 = l.getD (k + j) 0 := by
  simp [List.getD_eq_getElem?_getD]
theorem valid_high (s : ByteArray) (k : Nat) (h : k < s.size) (hb : 128 ≤ byteAt s k) : validD (s.data.toList.drop k) = match refN (s.size - k) (byteAt s k) (byteAt s (k + 1)) (byteAt s (k + 2)) (byteAt s (k + 3)) with
    | none => false
    | some m => validD (s.data.toList.drop (k + m)) := by
  have hl : k < s.data.toList.length := by simpa using h
  have hne : s.data.toList.drop k ≠ [] := by
    intro e
    have := congrArg List.length e
    rw [List.length_drop] at this
    simp at this
    omega
  have hz : (s.data.toList.drop k).length = s.size - k := by rw [List.length_drop]; simp
  rw [refN_check _ _ _ _ _ hb (byteAt_lt s k)]
  have := validD_lead (s.data.toList.drop k) hne (by rw [getD_drop']; exact hb)
  rw [this, hz]
  simp only [getD_drop', Nat.add_zero, List.drop_drop]
  rfl
theorem valid_none {s : ByteArray} {k : Nat} {ANS : Bool} (h : k < s.size) (hb : 128 ≤ byteAt s k) (ha : validD (s.data.toList.drop k) = ANS) (hr : refN (s.size - k) (byteAt s k) (byteAt s (k + 1)) (byteAt s (k + 2)) (byteAt s (k + 3)) = none) : false = ANS := by
  rw [← ha, valid_high s k h hb, hr]
theorem valid_some {s : ByteArray} {k m : Nat} {ANS : Bool} (h : k < s.size) (hb : 128 ≤ byteAt s k) (ha : validD (s.data.toList.drop k) = ANS) (hr : refN (s.size - k) (byteAt s k) (byteAt s (k + 1)) (byteAt s (k + 2)) (byteAt s (k + 3)) = some m) : validD (s.data.toList.drop (k + m)) = ANS := by
  rw [← ha, valid_high s k h hb, hr]

end Go.Proofs.YtnihfhfakadepaaGreatDoor
namespace Go.Proofs.YtnihfhfakadepaaGreatDoor

/-- One step of the inner loop: a digit of the product is set, the rest carried on. -/
theorem mul_step {B : Nat} {rs b : List Nat} {i j x y z c D : Nat} (hy : rs[i + j]? = some y) (hz : b[j]? = some z)
    (h : dval B rs + c * B ^ (i + j) = D + x * dval B (b.take j) * B ^ i) :
    dval B (rs.set (i + j) ((c + x * z + y) % B)) + (c + x * z + y) / B * B ^ (i + (j + 1)) = D + x * dval B (b.take (j + 1)) * B ^ i := by
  have h1 := dval_set B rs (i + j) ((c + x * z + y) % B) y hy
  have h2 := dval_take_succ B b j z hz
  have h3 := Nat.mod_add_div (c + x * z + y) B
  generalize (c + x * z + y) % B = lo at *
  generalize (c + x * z + y) / B = hi at *
  generalize dval B (rs.set (i + j) lo) = R at *
  generalize dval B (b.take (j + 1)) = S1 at *
  generalize dval B (b.take j) = S at *
  subst h2
  generalize dval B rs = R0 at *
  rw [show i + (j + 1) = i + j + 1 by omega, Nat.pow_succ]
  rw [Nat.pow_add] at *
  generalize B ^ i = Q at *
  generalize B ^ j = P at *
  grind

/-- The carry of a step is a digit again. -/
theorem carry_lt {B c x y z : Nat} (hc : c < B) (hx : x < B) (hy : y < B) (hz : z < B) : (c + x * z + y) < B * B ∧ (c + x * z + y) / B < B := by
  have h : x * z ≤ (B - 1) * (B - 1) := Nat.mul_le_mul (by omega) (by omega)
  obtain ⟨k, rfl⟩ : ∃ k, B = k + 1 := ⟨B - 1, by omega⟩
  simp only [Nat.add_sub_cancel] at h
  have h1 : (c + x * z + y) < (k + 1) * (k + 1) := by
    have : (k + 1) * (k + 1) = k * k + k + k + 1 := by grind
    omega
  exact ⟨h1, Nat.div_lt_of_lt_mul h1⟩

/-- Which of two numbers is less. -/
def cmpN (n m : Nat) : Int := if n < m then -1 else if n = m then 0 else 1

theorem cmpN_lt {n m : Nat} (h : n < m) : cmpN n m = -1 := if_pos h
theorem cmpN_gt {n m : Nat} (h : m < n) : cmpN n m = 1 := by unfold cmpN; rw [if_neg (by omega), if_neg (by omega)]
theorem cmpN_eq (n : Nat) : cmpN n n = 0 := by unfold cmpN; rw [if_neg (by omega), if_pos rfl]

theorem digs_len_lt {B n m : Nat} (hB : 2 ≤ B) (h : (digs B n).length < (digs B m).length) : n < m := by
  have h1 := digs_lt_pow hB n
  have hm : 0 < m := by
    rcases Nat.eq_zero_or_pos m with rfl | h0
    · rw [digs_zero] at h; simp at h
    · exact h0
  have h2 := digs_pow_le hB m hm
  have h3 : B ^ (digs B n).length ≤ B ^ ((digs B m).length - 1) := Nat.pow_le_pow_right (by omega) (by omega)
  omega

theorem digs_inj {B n m : Nat} (hB : 2 ≤ B) (h : digs B n = digs B m) : n = m := by
  rw [← dval_digs hB n, h, dval_digs hB]

theorem dval_at {B : Nat} (l : List Nat) (i x : Nat) (h : l[i]? = some x) : dval B l = dval B (l.take i) + B ^ i * (x + B * dval B (l.drop (i + 1))) := by
  have hi : i < l.length := (List.getElem?_eq_some_iff.1 h).1
  rw [dval_drop B l i (by omega), List.drop_eq_getElem_cons hi, dval]
  have : l[i] = x := by rw [List.getElem?_eq_getElem hi] at h; injection h
  rw [this]

/-- Two lists that are the same above place i, where the first has less. -/
theorem dval_less {B : Nat} (hB : 1 ≤ B) {a b : List Nat} {i x y : Nat} (ha : ∀ z ∈ a, z < B) (hx : a[i]? = some x) (hy : b[i]? = some y) (he : a.drop (i + 1) = b.drop (i + 1)) (h : x < y) : dval B a < dval B b := by
  rw [dval_at a i x hx, dval_at b i y hy, he]
  have h1 := dval_lt hB (a.take i) fun z hz => ha z (List.mem_of_mem_take hz)
  have hl : (a.take i).length = i := by
    have := (List.getElem?_eq_some_iff.1 hx).1
    rw [List.length_take]; omega
  rw [hl] at h1
  have h2 : B ^ i * (x + 1 + B * dval B (b.drop (i + 1))) ≤ B ^ i * (y + B * dval B (b.drop (i + 1))) := Nat.mul_le_mul_left _ (by omega)
  have h3 : B ^ i * (x + 1 + B * dval B (b.drop (i + 1))) = B ^ i * (x + B * dval B (b.drop (i + 1))) + B ^ i := by rw [show x + 1 + B * dval B (b.drop (i + 1)) = (x + B * dval B (b.drop (i + 1))) + 1 by omega, Nat.mul_add, Nat.mul_one]
  omega

/-- What the product's list holds ahead of round i. -/
structure MulOut (B : Nat) (a b : List Nat) (i : Nat) (rs : List Nat) : Prop where
  len : rs.length = a.length + b.length
  lt : ∀ x ∈ rs, x < B
  val : dval B rs = dval B (a.take i) * dval B b
  zero : ∀ k x, i + b.length ≤ k → rs[k]? = some x → x = 0

/-- The same within round i, ahead of step j: c is carried. -/
structure MulIn (B : Nat) (a b : List Nat) (i j c D x : Nat) (rs : List Nat) : Prop where
  len : rs.length = a.length + b.length
  lt : ∀ x ∈ rs, x < B
  clt : c < B
  val : dval B rs + c * B ^ (i + j) = D + x * dval B (b.take j) * B ^ i
  zero : ∀ k x, i + b.length ≤ k → rs[k]? = some x → x = 0

theorem MulOut.start {B : Nat} {a b : List Nat} (hB : 0 < B) : MulOut B a b 0 (List.replicate (a.length + b.length) 0) :=
  ⟨by simp, fun x hx => by rw [List.eq_of_mem_replicate hx]; exact hB, by simp [dval, dval_zeros], fun k x _ hx => by
    rw [List.getElem?_replicate] at hx
    split at hx
    · injection hx with hx; exact hx.symm
    · cases hx⟩

theorem MulOut.enter {B : Nat} {a b : List Nat} {i : Nat} {rs : List Nat} (h : MulOut B a b i rs) (hB : 0 < B) (x : Nat) : MulIn B a b i 0 0 (dval B rs) x rs :=
  ⟨h.len, h.lt, hB, by simp [dval], h.zero⟩

theorem mem_set_lt {B : Nat} {rs : List Nat} {k y : Nat} (h : ∀ x ∈ rs, x < B) (hy : y < B) : ∀ x ∈ rs.set k y, x < B := fun x hx => by
  rcases List.mem_or_eq_of_mem_set hx with h1 | h1
  · exact h x h1
  · rw [h1]; exact hy

theorem MulIn.step {B : Nat} {a b : List Nat} {i j c D x : Nat} {rs : List Nat} (h : MulIn B a b i j c D x rs) (hx : x < B) {y z : Nat} (hy : rs[i + j]? = some y) (hz : b[j]? = some z) (hzl : z < B) :
    MulIn B a b i (j + 1) ((c + x * z + y) / B) D x (rs.set (i + j) ((c + x * z + y) % B)) := by
  have hyl : y < B := h.lt y (List.mem_of_getElem? hy)
  have hc := carry_lt h.clt hx hyl hzl
  have hj : j < b.length := (List.getElem?_eq_some_iff.1 hz).1
  refine ⟨by rw [List.length_set]; exact h.len, mem_set_lt h.lt (Nat.mod_lt _ (by omega)), hc.2, mul_step hy hz h.val, fun k u hk hu => ?_⟩
  rw [List.getElem?_set_ne (by omega)] at hu
  exact h.zero k u hk hu

theorem MulIn.leave {B : Nat} {a b : List Nat} {i c x : Nat} {rs rs0 : List Nat} (h0 : MulOut B a b i rs0) (h : MulIn B a b i b.length c (dval B rs0) x rs) (hx : a[i]? = some x) : MulOut B a b (i + 1) (rs.set (i + b.length) c) := by
  have hi : i < a.length := (List.getElem?_eq_some_iff.1 hx).1
  have hl : i + b.length < rs.length := by rw [h.len]; omega
  have hz : rs[i + b.length]? = some 0 := by
    rw [List.getElem?_eq_getElem hl]
    exact congrArg some (h.zero (i + b.length) _ (Nat.le_refl _) (List.getElem?_eq_getElem hl))
  refine ⟨by rw [List.length_set]; exact h.len, mem_set_lt h.lt h.clt, ?_, fun k u hk hu => ?_⟩
  · have h1 := dval_set B rs (i + b.length) c 0 hz
    have h2 := h.val
    rw [List.take_length, h0.val] at h2
    rw [dval_take_succ B a i x hx, Nat.add_mul]
    have h3 : x * dval B b * B ^ i = B ^ i * x * dval B b := by rw [Nat.mul_comm _ (B ^ i), Nat.mul_assoc]
    omega
  · rw [List.getElem?_set_ne (by omega)] at hu
    exact h.zero k u (by omega) hu

theorem MulOut.done {B : Nat} {a b : List Nat} {rs : List Nat} (h : MulOut B a b a.length rs) : dval B rs = dval B a * dval B b := by
  have := h.val
  rwa [List.take_length] at this

end Go.Proofs.YtnihfhfakadepaaGreatDoor
namespace Go.Proofs.YtnihfhfakadepaaGreatDoor

theorem drop_set_at (l : List Nat) (j x : Nat) (hj : j < l.length) : (l.set j x).drop j = x :: l.drop (j + 1) := by
  rw [List.drop_eq_getElem_cons (by simpa using hj)]
  simp [List.drop_set_of_lt]

/-- What holds ahead of word k, from above: the words from k on are divided, r is left. -/
structure SmallAt (B d : Nat) (a q : List Nat) (k r : Nat) : Prop where
  len : q.length = a.length
  lt : ∀ x ∈ q, x < B
  rlt : r < d
  val : dval B (a.drop k) = d * dval B (q.drop k) + r

theorem SmallAt.start {B d : Nat} {a : List Nat} (hB : 0 < B) (hd : 0 < d) : SmallAt B d a (List.replicate a.length 0) a.length 0 :=
  ⟨by simp, fun x hx => by rw [List.eq_of_mem_replicate hx]; exact hB, hd, by simp [dval]⟩

theorem SmallAt.step {B d : Nat} {a q : List Nat} {j r x : Nat} (h : SmallAt B d a q (j + 1) r) (hx : a[j]? = some x) (hxl : x < B) :
    SmallAt B d a (q.set j ((r * B + x) / d)) j ((r * B + x) % d) ∧ (r * B + x) / d < B ∧ r * B + x < d * B := by
  have hj : j < a.length := (List.getElem?_eq_some_iff.1 hx).1
  have hd : 0 < d := by have := h.rlt; omega
  have hlt : r * B + x < d * B := by
    have : (r + 1) * B ≤ d * B := Nat.mul_le_mul_right B h.rlt
    rw [Nat.add_mul] at this
    omega
  have hq : (r * B + x) / d < B := Nat.div_lt_of_lt_mul hlt
  refine ⟨⟨by rw [List.length_set]; exact h.len, mem_set_lt h.lt hq, Nat.mod_lt _ hd, ?_⟩, hq, hlt⟩
  rw [drop_set_at _ _ _ (by rw [h.len]; exact hj), dval, List.drop_eq_getElem_cons hj, dval, h.val]
  have hx' : a[j] = x := by rw [List.getElem?_eq_getElem hj] at hx; injection hx
  rw [hx']
  have h3 := Nat.div_add_mod (r * B + x) d
  generalize (r * B + x) / d = u at *
  generalize (r * B + x) % d = v at *
  generalize dval B (q.drop (j + 1)) = Q at *
  clear hx hxl h hlt hq hx'
  grind

theorem SmallAt.done {B d : Nat} {a q : List Nat} {r : Nat} (h : SmallAt B d a q 0 r) : dval B q = dval B a / d ∧ r = dval B a % d := by
  have h1 := h.val
  simp only [List.drop_zero] at h1
  have hr := h.rlt
  constructor
  · rw [h1, Nat.mul_add_div (by omega), Nat.div_eq_of_lt hr]; omega
  · rw [h1, Nat.mul_add_mod, Nat.mod_eq_of_lt hr]

/-- What holds ahead of word i, where all words go up by S = 2^s: c stands at place i. -/
structure LeftAt (B S : Nat) (a rs : List Nat) (i c : Nat) : Prop where
  len : rs.length = a.length + 1
  lt : ∀ x ∈ rs, x < B
  at_ : rs[i]? = some c
  clt : c < S
  val : dval B rs = dval B (a.take i) * S
  zero : ∀ k x, i < k → rs[k]? = some x → x = 0

theorem LeftAt.start {B S : Nat} {a : List Nat} (hB : 0 < B) (hS : 0 < S) : LeftAt B S a (List.replicate (a.length + 1) 0) 0 0 :=
  ⟨by simp, fun x hx => by rw [List.eq_of_mem_replicate hx]; exact hB, by simp, hS, by simp [dval, dval_zeros], fun k x _ hx => by
    rw [List.getElem?_replicate] at hx
    split at hx
    · injection hx with hx; exact hx.symm
    · cases hx⟩

theorem LeftAt.step {B S T : Nat} (hB : 2 ≤ B) (hT : B = S * T) {a rs : List Nat} {i c x : Nat} (h : LeftAt B S a rs i c) (hx : a[i]? = some x) (hxl : x < B) :
    LeftAt B S a ((rs.set i (c + x * S % B)).set (i + 1) (x * S / B)) (i + 1) (x * S / B) ∧ c + x * S % B < B ∧ rs[i + 1]? = some 0 ∧ x * S / B < S := by
  have hi : i < a.length := (List.getElem?_eq_some_iff.1 hx).1
  have hS : 0 < S := by have := h.clt; omega
  have hhi : x * S / B < S := by
    apply Nat.div_lt_of_lt_mul
    exact Nat.mul_lt_mul_of_pos_right hxl hS
  have hlo : c + x * S % B < B := by
    have h1 : x * S % B = S * (x % T) := by rw [hT, Nat.mul_comm x S, Nat.mul_mod_mul_left]
    have hTp : 0 < T := by
      rcases Nat.eq_zero_or_pos T with h0 | h0
      · rw [h0] at hT; simp at hT; omega
      · exact h0
    have h2 : x % T + 1 ≤ T := Nat.mod_lt _ hTp
    have h3 := Nat.mul_le_mul_left S h2
    rw [Nat.mul_add, ← hT] at h3
    rw [h1]
    have := h.clt
    omega
  have hl : i + 1 < rs.length := by rw [h.len]; omega
  have hz : rs[i + 1]? = some 0 := by
    rw [List.getElem?_eq_getElem hl]
    exact congrArg some (h.zero (i + 1) _ (by omega) (List.getElem?_eq_getElem hl))
  have hSB : S ≤ B := by
    rcases Nat.eq_zero_or_pos T with h0 | h0
    · rw [h0] at hT; simp at hT; omega
    · rw [hT]; exact Nat.le_mul_of_pos_right S h0
  refine ⟨⟨by rw [List.length_set, List.length_set]; exact h.len, mem_set_lt (mem_set_lt h.lt hlo) (by omega), by rw [List.getElem?_set_self (by simpa using hl)], hhi, ?_, fun k u hk hu => ?_⟩, hlo, hz, hhi⟩
  · have h1 := dval_set B rs i (c + x * S % B) c h.at_
    have h2 := dval_set B (rs.set i (c + x * S % B)) (i + 1) (x * S / B) 0 (by rw [List.getElem?_set_ne (by omega)]; exact hz)
    have h3 := Nat.mod_add_div (x * S) B
    rw [dval_take_succ B a i x hx]
    have h4 := h.val
    generalize dval B ((rs.set i (c + x * S % B)).set (i + 1) (x * S / B)) = R2 at *
    generalize dval B (rs.set i (c + x * S % B)) = R1 at *
    generalize dval B rs = R0 at *
    generalize dval B (a.take i) = D at *
    generalize x * S % B = lo at *
    generalize x * S / B = hi at *
    rw [Nat.pow_succ] at h2
    generalize B ^ i = P at *
    clear h hx hxl hT hz hhi hlo hl hSB hS
    grind
  · rw [List.getElem?_set_ne (by omega), List.getElem?_set_ne (by omega)] at hu
    exact h.zero k u (by omega) hu

theorem LeftAt.done {B S : Nat} {a rs : List Nat} {c : Nat} (h : LeftAt B S a rs a.length c) : dval B rs = dval B a * S := by
  have := h.val
  rwa [List.take_length] at this

/-- What holds ahead of word i, where all words go down by S = 2^s. -/
structure RightAt (B S : Nat) (a rs : List Nat) (i : Nat) : Prop where
  len : rs.length = a.length
  lt : ∀ x ∈ rs, x < B
  val : dval B (rs.take i) = dval B a / S % B ^ i

theorem RightAt.start {B S : Nat} {a : List Nat} (hB : 0 < B) : RightAt B S a (List.replicate a.length 0) 0 :=
  ⟨by simp, fun x hx => by rw [List.eq_of_mem_replicate hx]; exact hB, by simp [dval, Nat.mod_one]⟩

theorem dval_drop_div {B : Nat} (hB : 2 ≤ B) {a : List Nat} (ha : ∀ x ∈ a, x < B) (i : Nat) (hi : i ≤ a.length) : dval B a / B ^ i = dval B (a.drop i) := by
  have h1 := dval_drop B a i hi
  have h2 := dval_lt (B := B) (by omega) (a.take i) fun x hx => ha x (List.mem_of_mem_take hx)
  rw [List.length_take, Nat.min_eq_left hi] at h2
  rw [h1, Nat.add_comm, Nat.mul_add_div (Nat.pow_pos (by omega)), Nat.div_eq_of_lt h2]
  rfl

/-- The word that goes into place i: of this word and the next one. -/
theorem RightAt.step {B S T : Nat} (hB : 2 ≤ B) (hS : 0 < S) (hT : B = S * T) {a rs : List Nat} (ha : ∀ x ∈ a, x < B) {i x y : Nat} (h : RightAt B S a rs i) (hx : a[i]? = some x) (hy : dval B (a.drop (i + 1)) % B = y) :
    RightAt B S a (rs.set i ((x + B * y) / S % B)) (i + 1) := by
  have hi : i < a.length := (List.getElem?_eq_some_iff.1 hx).1
  refine ⟨by rw [List.length_set]; exact h.len, mem_set_lt h.lt (Nat.mod_lt _ (by omega)), ?_⟩
  rw [dval_take_succ B _ i ((x + B * y) / S % B) (by rw [List.getElem?_set_self (by rw [h.len]; exact hi)]), List.take_set_of_le (Nat.le_refl _), h.val, Nat.pow_succ, Nat.mod_mul]
  congr 2
  rw [Nat.div_div_eq_div_mul, Nat.mul_comm S, ← Nat.div_div_eq_div_mul, dval_drop_div hB ha i (by omega), List.drop_eq_getElem_cons hi, dval]
  have hx' : a[i] = x := by rw [List.getElem?_eq_getElem hi] at hx; injection hx
  rw [hx', ← hy]
  generalize dval B (a.drop (i + 1)) = M
  have h1 : x + B * M = x + B * (M % B) + S * (B * (T * (M / B))) := by
    have h2 := Nat.mod_add_div M B
    have h3 : S * (B * (T * (M / B))) = B * (B * (M / B)) := by
      rw [show S * (B * (T * (M / B))) = (S * T) * (B * (M / B)) by grind, ← hT]
    rw [h3, Nat.add_assoc, ← Nat.mul_add, h2]
  rw [h1, Nat.add_mul_div_left _ _ hS, Nat.add_mul_mod_self_left]

theorem RightAt.done {B S : Nat} (hB : 2 ≤ B) {a rs : List Nat} (ha : ∀ x ∈ a, x < B) (h : RightAt B S a rs a.length) : dval B rs = dval B a / S := by
  have h1 := h.val
  rw [List.take_of_length_le (by rw [h.len]; exact Nat.le_refl _)] at h1
  have h2 := dval_lt (B := B) (by omega) a ha
  rw [h1, Nat.mod_eq_of_lt (Nat.lt_of_le_of_lt (Nat.div_le_self _ _) h2)]

end Go.Proofs.YtnihfhfakadepaaGreatDoor
namespace Go.Proofs.YtnihfhfakadepaaGreatDoor

/-- What holds of a tried digit g with the rest r: h = g * top + r, and g is not below the true digit. -/
structure Tried (h top v0 u0 g r : Nat) : Prop where
  eq : h = g * top + r
  least : h * 4294967296 + u0 < (g + 1) * (top * 4294967296 + v0)
  le : g ≤ 4294967297

theorem tried_start {h top v0 u0 : Nat} (ht : 2147483648 ≤ top) (hb : h < top * 4294967296 + v0) (hv : v0 < 4294967296) (hu : u0 < 4294967296) :
    Tried h top v0 u0 (h / top) (h % top) := by
  have e := Nat.div_add_mod h top
  have l := Nat.mod_lt h (show 0 < top by omega)
  have e' : h = h / top * top + h % top := by rw [Nat.mul_comm]; exact e.symm
  refine ⟨e', ?_, ?_⟩
  · generalize h / top = g at *
    generalize h % top = r at *
    have h1 : (h + 1) ≤ (g + 1) * top := by rw [Nat.add_mul]; omega
    have h2 := Nat.mul_le_mul_right 4294967296 h1
    have h3 : (g + 1) * (top * 4294967296 + v0) = (g + 1) * top * 4294967296 + (g + 1) * v0 := by rw [Nat.mul_add, Nat.mul_assoc]
    rw [h3]
    omega
  · rcases Nat.lt_or_ge 4294967297 (h / top) with hg | hg
    · have := Nat.mul_le_mul_right top (show 4294967298 ≤ h / top by omega)
      omega
    · exact hg

theorem tried_iff {h top v0 u0 g r : Nat} (e : h = g * top + r) : (r * 4294967296 + u0 < g * v0) ↔ (h * 4294967296 + u0 < g * (top * 4294967296 + v0)) := by
  subst e
  constructor <;> intro H <;> grind

/-- It was too great: one less. -/
theorem tried_more {h top v0 u0 g r : Nat} (T : Tried h top v0 u0 g r) (hb : h < top * 4294967296 + v0) (hu : u0 < 4294967296) (hm : 4294967296 ≤ g ∨ r * 4294967296 + u0 < g * v0) :
    1 ≤ g ∧ Tried h top v0 u0 (g - 1) (r + top) ∧ g - 1 ≤ 4294967296 := by
  have key : h * 4294967296 + u0 < g * (top * 4294967296 + v0) := by
    rcases hm with h1 | h1
    · have h2 := Nat.mul_le_mul_right (top * 4294967296 + v0) h1
      omega
    · exact (tried_iff T.eq).1 h1
  have h1 : 1 ≤ g := by
    rcases Nat.eq_zero_or_pos g with rfl | h
    · simp at key
    · exact h
  refine ⟨h1, ⟨?_, by rw [Nat.sub_add_cancel h1]; exact key, by have := T.le; omega⟩, by have := T.le; omega⟩
  obtain ⟨k, rfl⟩ : ∃ k, g = k + 1 := ⟨g - 1, by omega⟩
  have := T.eq
  rw [Nat.add_mul] at this
  rw [Nat.add_sub_cancel]
  omega

/-- It is not too great: it is the digit. -/
structure Digit (h top v0 u0 g : Nat) : Prop where
  lo : g * (top * 4294967296 + v0) ≤ h * 4294967296 + u0
  hi : h * 4294967296 + u0 < (g + 1) * (top * 4294967296 + v0)
  lt : g < 4294967296

theorem tried_end {h top v0 u0 g r : Nat} (T : Tried h top v0 u0 g r) (h1 : g < 4294967296) (h2 : g * v0 ≤ r * 4294967296 + u0) : Digit h top v0 u0 g :=
  ⟨by
    rcases Nat.lt_or_ge (h * 4294967296 + u0) (g * (top * 4294967296 + v0)) with h3 | h3
    · have := (tried_iff T.eq).2 h3; omega
    · exact h3, T.least, h1⟩

theorem break_le {B g v0 r u0 : Nat} (hv : v0 < B) (h1 : g ≤ B) (h2 : B ≤ r) : g * v0 ≤ r * B + u0 := by
  have a := Nat.mul_le_mul h1 (show v0 ≤ B by omega)
  have b := Nat.mul_le_mul_right B h2
  omega
theorem break_lt {B g V h u0 : Nat} (hb : h < V) (hu : u0 < B) (h4 : g * V ≤ h * B + u0) : g < B := by
  rcases Nat.lt_or_ge g B with h5 | h5
  · exact h5
  · have h6 := Nat.mul_le_mul_right V h5
    have h7 : (h + 1) * B ≤ V * B := Nat.mul_le_mul_right B hb
    rw [Nat.mul_comm V B, Nat.add_mul] at h7
    omega
theorem tried_break {h top v0 u0 g r : Nat} (T : Tried h top v0 u0 g r) (hb : h < top * 4294967296 + v0) (hu : u0 < 4294967296) (hv : v0 < 4294967296) (h1 : g ≤ 4294967296) (h2 : 4294967296 ≤ r) : Digit h top v0 u0 g := by
  have h3 : g * v0 ≤ r * 4294967296 + u0 := break_le hv h1 h2
  have h4 : g * (top * 4294967296 + v0) ≤ h * 4294967296 + u0 := by
    rcases Nat.lt_or_ge (h * 4294967296 + u0) (g * (top * 4294967296 + v0)) with h5 | h5
    · have := (tried_iff T.eq).2 h5; omega
    · exact h5
  exact ⟨h4, T.least, break_lt hb hu h4⟩

/-- The three words that are left, as the loop reckons them. -/
def lft0 (u0 p0 : Int) : Int := (u0 - p0 % 4294967296) % 18446744073709551616
def lft1 (u0 u1 p0 p1 : Int) : Int := ((u1 - (p1 + p0 / 4294967296) % 4294967296) % 18446744073709551616 - lft0 u0 p0 / 9223372036854775808) % 18446744073709551616
def lft2 (u0 u1 u2 p0 p1 : Int) : Int := ((u2 - (p1 + p0 / 4294967296) / 4294967296) % 18446744073709551616 - lft1 u0 u1 p0 p1 / 9223372036854775808) % 18446744073709551616

theorem borrow0 {u L : Int} (a : 0 ≤ u) (b : u < 4294967296) (c : 0 ≤ L) (d : L < 4294967296) :
    ∃ q : Int, (0 ≤ q ∧ q ≤ 1) ∧ (u - L) % 18446744073709551616 / 9223372036854775808 = q ∧ (u - L) % 18446744073709551616 % 4294967296 = u - L + 4294967296 * q := by
  rcases Int.lt_or_le u L with h | h
  · exact ⟨1, by omega, by omega, by omega⟩
  · exact ⟨0, by omega, by omega, by omega⟩

theorem borrow1 {u L r : Int} (a : 0 ≤ u) (b : u < 4294967296) (c : 0 ≤ L) (d : L < 4294967296) (e : 0 ≤ r) (f : r ≤ 1) :
    ∃ q : Int, (0 ≤ q ∧ q ≤ 1) ∧ ((u - L) % 18446744073709551616 - r) % 18446744073709551616 / 9223372036854775808 = q ∧ ((u - L) % 18446744073709551616 - r) % 18446744073709551616 % 4294967296 = u - L - r + 4294967296 * q ∧ (L + r ≤ u → q = 0) ∧ (u < L + r → q = 1) := by
  rcases Int.lt_or_le u (L + r) with h | h
  · have : ((u - L) % 18446744073709551616 - r) % 18446744073709551616 = u - L - r + 18446744073709551616 := by omega
    rw [this]
    exact ⟨1, by omega, by omega, by omega, by omega, by omega⟩
  · have : ((u - L) % 18446744073709551616 - r) % 18446744073709551616 = u - L - r := by omega
    rw [this]
    exact ⟨0, by omega, by omega, by omega, by omega, by omega⟩

theorem lft_sum {u0 u1 u2 p0 p1 : Int} (a0 : 0 ≤ u0) (a1 : 0 ≤ u1) (a2 : 0 ≤ u2) (b0 : u0 < 4294967296) (b1 : u1 < 4294967296) (b2 : u2 < 4294967296)
    (c0 : 0 ≤ p0) (c1 : 0 ≤ p1) (d0 : p0 ≤ 18446744065119617025) (d1 : p1 ≤ 18446744065119617025)
    (h : p1 * 4294967296 + p0 ≤ u2 * 18446744073709551616 + u1 * 4294967296 + u0) :
    lft2 u0 u1 u2 p0 p1 / 9223372036854775808 = 0 ∧
    lft0 u0 p0 % 4294967296 + (lft1 u0 u1 p0 p1 % 4294967296) * 4294967296 + (lft2 u0 u1 u2 p0 p1 % 4294967296) * 18446744073709551616 = u2 * 18446744073709551616 + u1 * 4294967296 + u0 - (p1 * 4294967296 + p0) := by
  obtain ⟨l0, hl0⟩ : ∃ l0, p0 % 4294967296 = l0 := ⟨_, rfl⟩
  obtain ⟨k0, hk0⟩ : ∃ k0, p0 / 4294967296 = k0 := ⟨_, rfl⟩
  have hp0 : p0 = 4294967296 * k0 + l0 := by omega
  have bl0 : 0 ≤ l0 ∧ l0 < 4294967296 ∧ 0 ≤ k0 ∧ k0 < 4294967296 := by omega
  obtain ⟨l1, hl1⟩ : ∃ l1, (p1 + k0) % 4294967296 = l1 := ⟨_, rfl⟩
  obtain ⟨k1, hk1⟩ : ∃ k1, (p1 + k0) / 4294967296 = k1 := ⟨_, rfl⟩
  have hp1 : p1 + k0 = 4294967296 * k1 + l1 := by omega
  have bl1 : 0 ≤ l1 ∧ l1 < 4294967296 ∧ 0 ≤ k1 ∧ k1 < 4294967296 := by omega
  obtain ⟨q0, hq0, e0, f0⟩ := borrow0 a0 b0 bl0.1 bl0.2.1
  obtain ⟨q1, hq1, e1, f1, _, _⟩ := borrow1 (r := q0) a1 b1 bl1.1 bl1.2.1 hq0.1 hq0.2
  obtain ⟨q2, hq2, e2, f2, g2, k2⟩ := borrow1 (r := q1) a2 b2 bl1.2.2.1 bl1.2.2.2 hq1.1 hq1.2
  have m0 : 0 ≤ u0 - l0 + 4294967296 * q0 ∧ u0 - l0 + 4294967296 * q0 < 4294967296 := by rw [← f0]; exact ⟨Int.emod_nonneg _ (by omega), Int.emod_lt_of_pos _ (by omega)⟩
  have m1 : 0 ≤ u1 - l1 - q0 + 4294967296 * q1 ∧ u1 - l1 - q0 + 4294967296 * q1 < 4294967296 := by rw [← f1]; exact ⟨Int.emod_nonneg _ (by omega), Int.emod_lt_of_pos _ (by omega)⟩
  have z : q2 = 0 := by
    apply g2
    clear e0 e1 e2 f0 f1 f2 g2 k2 hl0 hk0 hl1 hk1
    omega
  subst z
  unfold lft2 lft1 lft0
  rw [hl0, hk0, hl1, hk1, e0, e1, e2, f0, f1, f2]
  clear e0 e1 e2 f0 f1 f2 g2 k2 hl0 hk0 hl1 hk1
  constructor
  · rfl
  · omega

end Go.Proofs.YtnihfhfakadepaaGreatDoor
namespace Go.Proofs.YtnihfhfakadepaaGreatDoor

structure DivAt (V N k : Nat) (qs us : List Nat) : Prop where
  len : us.length = qs.length + 2
  le : k ≤ qs.length
  ltq : ∀ x ∈ qs, x < 4294967296
  ltu : ∀ x ∈ us, x < 4294967296
  val : N = dval 4294967296 qs * V + dval 4294967296 us
  top : dval 4294967296 (us.drop k) < V
  zero : ∀ i x, i < k → qs[i]? = some x → x = 0

theorem DivAt.start {V N : Nat} {us : List Nat} {m : Nat} (hl : us.length = m + 2) (hu : ∀ x ∈ us, x < 4294967296) (hv : dval 4294967296 us = N) (ht : dval 4294967296 (us.drop m) < V) : DivAt V N m (List.replicate m 0) us :=
  ⟨by simp [hl], by simp, fun x hx => by rw [List.eq_of_mem_replicate hx]; omega, hu, by rw [dval_zeros, hv]; omega, ht, fun _ _ _ hx => List.eq_of_mem_replicate (List.mem_of_getElem? hx)⟩

theorem drop3 {us : List Nat} {j : Nat} (h : j + 2 < us.length) : us.drop j = us[j] :: us[j + 1] :: us[j + 2] :: us.drop (j + 3) := by
  rw [List.drop_eq_getElem_cons (by omega), List.drop_eq_getElem_cons (by omega), List.drop_eq_getElem_cons h]

/-- The three words under the digit. -/
theorem DivAt.words {V N j : Nat} {qs us : List Nat} (h : DivAt V N (j + 1) qs us) (hV : V < 18446744073709551616) :
    ∃ (_ : j + 2 < us.length), us[j + 2] * 4294967296 + us[j + 1] < V ∧ dval 4294967296 (us.drop (j + 3)) = 0 ∧ us[j] < 4294967296 ∧ us[j + 1] < 4294967296 ∧ us[j + 2] < 4294967296 := by
  have hl : j + 2 < us.length := by have := h.len; have := h.le; omega
  refine ⟨hl, ?_, ?_, h.ltu _ (List.getElem_mem _), h.ltu _ (List.getElem_mem _), h.ltu _ (List.getElem_mem _)⟩
  · have ht := h.top
    rw [List.drop_eq_getElem_cons (by omega), List.drop_eq_getElem_cons hl, dval, dval] at ht
    omega
  · have ht := h.top
    rw [List.drop_eq_getElem_cons (by omega), List.drop_eq_getElem_cons hl, dval, dval] at ht
    rw [show j + 3 = j + 2 + 1 from rfl]
    omega

theorem DivAt.step {V N j : Nat} {qs us : List Nat} (h : DivAt V N (j + 1) qs us) (hV : V < 18446744073709551616) {g x0 x1 x2 u0 u1 u2 : Nat} (e0 : us[j]? = some u0) (e1 : us[j + 1]? = some u1) (e2 : us[j + 2]? = some u2)
    (hg : g < 4294967296) (l0 : x0 < 4294967296) (l1 : x1 < 4294967296) (l2 : x2 < 4294967296)
    (hs : x0 + x1 * 4294967296 + x2 * 18446744073709551616 + g * V = u2 * 18446744073709551616 + u1 * 4294967296 + u0)
    (hi : u2 * 18446744073709551616 + u1 * 4294967296 + u0 < (g + 1) * V) :
    DivAt V N j (qs.set j g) (((us.set j x0).set (j + 1) x1).set (j + 2) x2) := by
  obtain ⟨hl, _, hz, _⟩ := h.words hV
  have hq : j < qs.length := h.le
  have hz0 : qs[j]? = some 0 := by
    rw [List.getElem?_eq_getElem hq]
    exact congrArg some (h.zero j _ (by omega) (List.getElem?_eq_getElem hq))
  have dq := dval_set 4294967296 qs j g 0 hz0
  have d0 := dval_set 4294967296 us j x0 u0 e0
  have d1 := dval_set 4294967296 (us.set j x0) (j + 1) x1 u1 (by rw [List.getElem?_set_ne (by omega)]; exact e1)
  have d2 := dval_set 4294967296 ((us.set j x0).set (j + 1) x1) (j + 2) x2 u2 (by rw [List.getElem?_set_ne (by omega), List.getElem?_set_ne (by omega)]; exact e2)
  refine ⟨by simp [h.len], by simp; omega, mem_set_lt h.ltq hg, mem_set_lt (mem_set_lt (mem_set_lt h.ltu l0) l1) l2, ?_, ?_, fun i x hi hx => ?_⟩
  · have hv := h.val
    rw [Nat.pow_succ] at d1
    rw [show j + 2 = j + 1 + 1 by omega, Nat.pow_succ, Nat.pow_succ] at d2
    generalize dval 4294967296 (((us.set j x0).set (j + 1) x1).set (j + 1 + 1) x2) = R2 at *
    generalize dval 4294967296 ((us.set j x0).set (j + 1) x1) = R1 at *
    generalize dval 4294967296 (us.set j x0) = R0 at *
    generalize dval 4294967296 us = R at *
    generalize dval 4294967296 (qs.set j g) = Q1 at *
    generalize dval 4294967296 qs = Q at *
    generalize 4294967296 ^ j = P at *
    have hs2 : (x0 + x1 * 4294967296 + x2 * 18446744073709551616 + g * V) * P = (u2 * 18446744073709551616 + u1 * 4294967296 + u0) * P := by rw [hs]
    clear hs hz hz0 e0 e1 e2 hg l0 l1 l2 hi hq h hV
    have f0 : Q1 = Q + g * P := by omega
    subst f0
    have f1 : R2 + (u2 * 18446744073709551616 + u1 * 4294967296 + u0) * P = R + (x0 + x1 * 4294967296 + x2 * 18446744073709551616) * P := by grind
    grind
  · rw [drop3 (by simpa using hl)]
    simp only [dval]
    rw [List.drop_set_of_lt (by omega), List.drop_set_of_lt (by omega), List.drop_set_of_lt (by omega), hz]
    have g0 : (((us.set j x0).set (j + 1) x1).set (j + 2) x2)[j]'(by simp; omega) = x0 := by
      rw [List.getElem_set_ne (by omega), List.getElem_set_ne (by omega), List.getElem_set_self]
    have g1 : (((us.set j x0).set (j + 1) x1).set (j + 2) x2)[j + 1]'(by simp; omega) = x1 := by
      rw [List.getElem_set_ne (by omega), List.getElem_set_self]
    have g2 : (((us.set j x0).set (j + 1) x1).set (j + 2) x2)[j + 2]'(by simp; omega) = x2 := by
      rw [List.getElem_set_self]
    rw [g0, g1, g2]
    rw [Nat.add_mul] at hi
    omega
  · rw [List.getElem?_set_ne (by omega)] at hx
    exact h.zero i x (by omega) hx

theorem DivAt.done {V N : Nat} {qs us : List Nat} (h : DivAt V N 0 qs us) : dval 4294967296 qs = N / V ∧ dval 4294967296 us = N % V := by
  have h1 := h.top
  simp only [List.drop_zero] at h1
  have h2 := h.val
  constructor
  · rw [h2, Nat.mul_comm, Nat.mul_add_div (by omega), Nat.div_eq_of_lt h1]; omega
  · rw [h2, Nat.mul_comm, Nat.mul_add_mod, Nat.mod_eq_of_lt h1]

end Go.Proofs.YtnihfhfakadepaaGreatDoor
