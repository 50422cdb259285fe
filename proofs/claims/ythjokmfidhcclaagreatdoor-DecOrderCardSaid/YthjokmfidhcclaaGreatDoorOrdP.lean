/- Plain decimals are ordered: of two one is less or they are the same; what is less than a lesser one is less. No program is here. -/
import Derived.Test.YthjokmfidhcclaaGreatDoorDec
namespace Go.Proofs.YthjokmfidhcclaaGreatDoor

theorem cmpI_bd (a b : Int) : -1 ≤ cmpI a b ∧ cmpI a b ≤ 1 := by
  unfold cmpI
  repeat' split
  all_goals omega
theorem cmpI_flip (a b : Int) : cmpI a b = -cmpI b a := by
  unfold cmpI
  repeat' split
  all_goals omega
theorem cmpI_zero (a b : Int) : cmpI a b = 0 ↔ a = b := by
  unfold cmpI
  repeat' split
  all_goals omega
theorem cmpI_le (a b : Int) : cmpI a b ≤ 0 ↔ a ≤ b := by
  unfold cmpI
  repeat' split
  all_goals omega

theorem unitsD_scale (d : DecV) (m e : Int) (h : m ≤ e) (he : e ≤ d.exp) : unitsD d m = unitsD d e * 10 ^ (e - m).toNat := by
  unfold unitsD
  rw [Int.mul_assoc, ← Int.pow_add, show (d.exp - m).toNat = (d.exp - e).toNat + (e - m).toNat by omega]

theorem cmpD_at (a b : DecV) (m : Int) (ha : m ≤ a.exp) (hb : m ≤ b.exp) : cmpD a b = cmpI (unitsD a m) (unitsD b m) := by
  unfold cmpD
  rw [unitsD_scale a m (min a.exp b.exp) (by omega) (by omega), unitsD_scale b m (min a.exp b.exp) (by omega) (by omega)]
  exact (cmpI_scale _ _ _ (ten_pos _)).symm

theorem cmpD_bd (a b : DecV) : -1 ≤ cmpD a b ∧ cmpD a b ≤ 1 := cmpI_bd _ _
theorem cmpD_flip (a b : DecV) : cmpD a b = -cmpD b a := by
  rw [cmpD_at a b (min a.exp b.exp) (by omega) (by omega), cmpD_at b a (min a.exp b.exp) (by omega) (by omega)]
  exact cmpI_flip _ _
theorem cmpD_trans (a b c : DecV) (h1 : cmpD a b ≤ 0) (h2 : cmpD b c ≤ 0) : cmpD a c ≤ 0 := by
  have m1 : min (min a.exp b.exp) c.exp ≤ a.exp := by omega
  have m2 : min (min a.exp b.exp) c.exp ≤ b.exp := by omega
  have m3 : min (min a.exp b.exp) c.exp ≤ c.exp := by omega
  rw [cmpD_at _ _ _ m1 m2, cmpI_le] at h1
  rw [cmpD_at _ _ _ m2 m3, cmpI_le] at h2
  rw [cmpD_at _ _ _ m1 m3, cmpI_le]
  omega

theorem form_of {d : DecV} (h : wrongD d = 0) : (d.coef = 0 → d.exp = 0) ∧ (d.coef ≠ 0 → d.coef.tmod 10 ≠ 0) := by
  unfold wrongD at h
  split at h
  · simp at h
  · split at h
    · simp at h
    · rename_i h1
      exact ⟨fun h0 => by by_cases h2 : d.exp = 0; exact h2; exact absurd (.inl ⟨h0, h2⟩) h1, fun h0 h2 => h1 (.inr ⟨h0, h2⟩)⟩

theorem cmpD_less_form {a b : DecV} (ha : wrongD a = 0) (hb : wrongD b = 0) (hlt : b.exp < a.exp) (he : a.coef * 10 ^ (a.exp - b.exp).toNat = b.coef) : False := by
  obtain ⟨a0, a1⟩ := form_of ha
  obtain ⟨b0, b1⟩ := form_of hb
  have hs : (a.exp - b.exp).toNat = ((a.exp - b.exp).toNat - 1) + 1 := by omega
  rw [hs, Int.pow_succ, ← Int.mul_assoc] at he
  by_cases hz : b.coef = 0
  · have hq := b0 hz
    rw [hz] at he
    have hp := ten_pos ((a.exp - b.exp).toNat - 1)
    have h1 : a.coef * 10 ^ ((a.exp - b.exp).toNat - 1) = 0 := by omega
    have h2 : a.coef = 0 := (Int.mul_eq_zero.1 h1).resolve_right (by omega)
    have := a0 h2
    omega
  · exact b1 hz (by rw [← he]; exact Int.mul_tmod_left _ _)

theorem cmpD_zero {a b : DecV} (ha : wrongD a = 0) (hb : wrongD b = 0) : cmpD a b = 0 ↔ a = b := by
  constructor
  · intro h
    unfold cmpD at h
    rw [cmpI_zero] at h
    unfold unitsD at h
    rcases Int.lt_trichotomy a.exp b.exp with hlt | heq | hgt
    · rw [show min a.exp b.exp = a.exp by omega, Int.sub_self, Int.toNat_zero, Int.pow_zero, Int.mul_one] at h
      exact (cmpD_less_form hb ha hlt h.symm).elim
    · rw [heq, show min b.exp b.exp = b.exp by omega, Int.sub_self, Int.toNat_zero, Int.pow_zero, Int.mul_one, Int.mul_one] at h
      cases a; cases b
      simp only at h heq
      rw [h, heq]
    · rw [show min a.exp b.exp = b.exp by omega, Int.sub_self, Int.toNat_zero, Int.pow_zero, Int.mul_one] at h
      exact (cmpD_less_form ha hb hgt h).elim
  · rintro rfl
    unfold cmpD
    rw [cmpI_zero]

end Go.Proofs.YthjokmfidhcclaaGreatDoor
