/- Plain decimals: what is wrong with one, and which of two is less: by whole numbers of a common unit, and by fractions. No program is here. -/
namespace Go.Proofs.YthjokmfidhcclaaGreatDoor

/-- A decimal: so many units of a power of ten. -/
structure DecV where
  coef : Int
  exp : Int
deriving DecidableEq

/-- What is wrong with one (0: nothing, 3: too great, 2: out of form). -/
def wrongD (d : DecV) : Int :=
  if d.coef > 999999999999999999 ∨ d.coef < -999999999999999999 ∨ d.exp > 40 ∨ d.exp < -40 then 3
  else if (d.coef = 0 ∧ d.exp ≠ 0) ∨ (d.coef ≠ 0 ∧ d.coef.tmod 10 = 0) then 2 else 0

def cmpI (a b : Int) : Int := if a < b then -1 else if a = b then 0 else 1

theorem cmpI_scale (a b k : Int) (hk : 0 < k) : cmpI (a * k) (b * k) = cmpI a b := by
  unfold cmpI
  have h1 : a * k < b * k ↔ a < b := Int.mul_lt_mul_right hk
  have h2 : a * k = b * k ↔ a = b := ⟨fun h => Int.eq_of_mul_eq_mul_right (by omega) h, fun h => by rw [h]⟩
  simp only [h1, h2]

/-- A number in units of 10^e. -/
def unitsD (d : DecV) (e : Int) : Int := d.coef * 10 ^ (d.exp - e).toNat

/-- Which of two is less: in units of the lesser power. -/
def cmpD (a b : DecV) : Int := cmpI (unitsD a (min a.exp b.exp)) (unitsD b (min a.exp b.exp))

/-- p / q is the decimal's fraction. -/
structure IsRat (d : DecV) (p q : Int) : Prop where
  pos : 0 < q
  up : 0 ≤ d.exp → p = d.coef * 10 ^ d.exp.toNat * q
  down : d.exp < 0 → p * 10 ^ (-d.exp).toNat = d.coef * q

theorem ten_pos (n : Nat) : (0 : Int) < 10 ^ n := Int.pow_pos (by omega)

theorem IsRat.scaled {d : DecV} {p q : Int} (h : IsRat d p q) (he : -40 ≤ d.exp) : p * 10 ^ 40 = unitsD d (-40) * q := by
  unfold unitsD
  rcases Int.lt_or_le d.exp 0 with h0 | h0
  · have e := h.down h0
    obtain ⟨n, hn⟩ : ∃ n : Nat, d.exp = -(n : Int) := ⟨(-d.exp).toNat, by omega⟩
    rw [hn] at e he ⊢
    rw [show (-(-(n : Int))).toNat = n by omega] at e
    rw [show (-(n : Int) - -40).toNat = 40 - n by omega]
    rw [show (10 : Int) ^ 40 = 10 ^ n * 10 ^ (40 - n) by rw [← Int.pow_add]; congr 1; omega]
    rw [← Int.mul_assoc, e, Int.mul_assoc, Int.mul_assoc, Int.mul_comm q]
  · have e := h.up h0
    obtain ⟨n, hn⟩ : ∃ n : Nat, d.exp = (n : Int) := ⟨d.exp.toNat, by omega⟩
    rw [hn] at e ⊢
    rw [show ((n : Int)).toNat = n by omega] at e
    rw [show ((n : Int) - -40).toNat = n + 40 by omega, e, Int.pow_add]
    rw [Int.mul_assoc, Int.mul_assoc, Int.mul_comm q, Int.mul_assoc, Int.mul_assoc]

theorem units_scaled (d : DecV) (e : Int) (h1 : e ≤ d.exp) (h2 : -40 ≤ e) : unitsD d e * 10 ^ (e + 40).toNat = unitsD d (-40) := by
  unfold unitsD
  rw [Int.mul_assoc, ← Int.pow_add]
  congr 2
  omega

theorem cmpD_scaled (a b : DecV) (ha : -40 ≤ a.exp) (hb : -40 ≤ b.exp) : cmpD a b = cmpI (unitsD a (-40)) (unitsD b (-40)) := by
  unfold cmpD
  rw [← cmpI_scale _ _ (10 ^ (min a.exp b.exp + 40).toNat) (ten_pos _), units_scaled _ _ (by omega) (by omega), units_scaled _ _ (by omega) (by omega)]

/-- Fractions go as their decimals do. -/
theorem cmp_rats {a b : DecV} {p q r s : Int} (h1 : IsRat a p q) (h2 : IsRat b r s) (ha : -40 ≤ a.exp) (hb : -40 ≤ b.exp) : cmpI (p * s) (r * q) = cmpD a b := by
  rw [cmpD_scaled a b ha hb, ← cmpI_scale (p * s) (r * q) (10 ^ 40) (ten_pos _), ← cmpI_scale (unitsD a (-40)) _ (q * s) (Int.mul_pos h1.pos h2.pos)]
  have e1 : p * s * 10 ^ 40 = unitsD a (-40) * (q * s) := by
    rw [Int.mul_assoc, Int.mul_comm s, ← Int.mul_assoc, h1.scaled ha, Int.mul_assoc]
  have e2 : r * q * 10 ^ 40 = unitsD b (-40) * (q * s) := by
    rw [Int.mul_assoc, Int.mul_comm q, ← Int.mul_assoc, h2.scaled hb, Int.mul_assoc, Int.mul_comm s]
  rw [e1, e2]

/-- The same where both have one lower part. -/
theorem cmp_rats_same {a b : DecV} {p q r : Int} (h1 : IsRat a p q) (h2 : IsRat b r q) (ha : -40 ≤ a.exp) (hb : -40 ≤ b.exp) : cmpI p r = cmpD a b := by
  rw [← cmp_rats h1 h2 ha hb, cmpI_scale _ _ _ h1.pos]

theorem wrongD_zero {d : DecV} (h : wrongD d = 0) : -999999999999999999 ≤ d.coef ∧ d.coef ≤ 999999999999999999 ∧ -40 ≤ d.exp ∧ d.exp ≤ 40 := by
  unfold wrongD at h
  split at h
  · simp at h
  · omega

end Go.Proofs.YthjokmfidhcclaaGreatDoor
