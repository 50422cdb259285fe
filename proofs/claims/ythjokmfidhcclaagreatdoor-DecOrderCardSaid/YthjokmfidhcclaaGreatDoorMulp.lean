/- Plain multiplication of digits, word by word; the comparison of lists of digits; a list cut where its noughts begin. No program is here. -/
import Derived.Test.YthjokmfidhcclaaGreatDoorDig
namespace Go.Proofs.YthjokmfidhcclaaGreatDoor

/-- One step of the inner loop: a digit of the product is set, the rest carried on. -/
theorem mul_step {B : Nat} {rs b : List Nat} {i j x y z c D : Nat} (hy : rs[i + j]? = some y) (hz : b[j]? = some z)
    (h : dval B rs + c * B ^ (i + j) = D + x * dval B (b.take j) * B ^ i) :
    dval B (rs.set (i + j) ((c + x * z + y) % B)) + (c + x * z + y) / B * B ^ (i + (j + 1)) = D + x * dval B (b.take (j + 1)) * B ^ i := by
  have h1 := dval_set B rs (i + j) ((c + x * z + y) % B) y hy
  have h2 := dval_take_succ B b j z hz
  have h3 := Nat.mod_add_div (c + x * z + y) B
  generalize (c + x * z + y) % B = lo at *
  generalize (c + x * z + y) / B = hi at *
  generalize dval B (rs.set (i + j) lo) = R at *
  generalize dval B (b.take (j + 1)) = S1 at *
  generalize dval B (b.take j) = S at *
  subst h2
  generalize dval B rs = R0 at *
  rw [show i + (j + 1) = i + j + 1 by omega, Nat.pow_succ]
  rw [Nat.pow_add] at *
  generalize B ^ i = Q at *
  generalize B ^ j = P at *
  grind

/-- The carry of a step is a digit again. -/
theorem carry_lt {B c x y z : Nat} (hc : c < B) (hx : x < B) (hy : y < B) (hz : z < B) : (c + x * z + y) < B * B ∧ (c + x * z + y) / B < B := by
  have h : x * z ≤ (B - 1) * (B - 1) := Nat.mul_le_mul (by omega) (by omega)
  obtain ⟨k, rfl⟩ : ∃ k, B = k + 1 := ⟨B - 1, by omega⟩
  simp only [Nat.add_sub_cancel] at h
  have h1 : (c + x * z + y) < (k + 1) * (k + 1) := by
    have : (k + 1) * (k + 1) = k * k + k + k + 1 := by grind
    omega
  exact ⟨h1, Nat.div_lt_of_lt_mul h1⟩

/-- Which of two numbers is less. -/
def cmpN (n m : Nat) : Int := if n < m then -1 else if n = m then 0 else 1

theorem cmpN_lt {n m : Nat} (h : n < m) : cmpN n m = -1 := if_pos h
theorem cmpN_gt {n m : Nat} (h : m < n) : cmpN n m = 1 := by unfold cmpN; rw [if_neg (by omega), if_neg (by omega)]
theorem cmpN_eq (n : Nat) : cmpN n n = 0 := by unfold cmpN; rw [if_neg (by omega), if_pos rfl]

theorem digs_len_lt {B n m : Nat} (hB : 2 ≤ B) (h : (digs B n).length < (digs B m).length) : n < m := by
  have h1 := digs_lt_pow hB n
  have hm : 0 < m := by
    rcases Nat.eq_zero_or_pos m with rfl | h0
    · rw [digs_zero] at h; simp at h
    · exact h0
  have h2 := digs_pow_le hB m hm
  have h3 : B ^ (digs B n).length ≤ B ^ ((digs B m).length - 1) := Nat.pow_le_pow_right (by omega) (by omega)
  omega

theorem digs_inj {B n m : Nat} (hB : 2 ≤ B) (h : digs B n = digs B m) : n = m := by
  rw [← dval_digs hB n, h, dval_digs hB]

theorem dval_at {B : Nat} (l : List Nat) (i x : Nat) (h : l[i]? = some x) : dval B l = dval B (l.take i) + B ^ i * (x + B * dval B (l.drop (i + 1))) := by
  have hi : i < l.length := (List.getElem?_eq_some_iff.1 h).1
  rw [dval_drop B l i (by omega), List.drop_eq_getElem_cons hi, dval]
  have : l[i] = x := by rw [List.getElem?_eq_getElem hi] at h; injection h
  rw [this]

/-- Two lists that are the same above place i, where the first has less. -/
theorem dval_less {B : Nat} (hB : 1 ≤ B) {a b : List Nat} {i x y : Nat} (ha : ∀ z ∈ a, z < B) (hx : a[i]? = some x) (hy : b[i]? = some y) (he : a.drop (i + 1) = b.drop (i + 1)) (h : x < y) : dval B a < dval B b := by
  rw [dval_at a i x hx, dval_at b i y hy, he]
  have h1 := dval_lt hB (a.take i) fun z hz => ha z (List.mem_of_mem_take hz)
  have hl : (a.take i).length = i := by
    have := (List.getElem?_eq_some_iff.1 hx).1
    rw [List.length_take]; omega
  rw [hl] at h1
  have h2 : B ^ i * (x + 1 + B * dval B (b.drop (i + 1))) ≤ B ^ i * (y + B * dval B (b.drop (i + 1))) := Nat.mul_le_mul_left _ (by omega)
  have h3 : B ^ i * (x + 1 + B * dval B (b.drop (i + 1))) = B ^ i * (x + B * dval B (b.drop (i + 1))) + B ^ i := by rw [show x + 1 + B * dval B (b.drop (i + 1)) = (x + B * dval B (b.drop (i + 1))) + 1 by omega, Nat.mul_add, Nat.mul_one]
  omega

/-- What the product's list holds ahead of round i. -/
structure MulOut (B : Nat) (a b : List Nat) (i : Nat) (rs : List Nat) : Prop where
  len : rs.length = a.length + b.length
  lt : ∀ x ∈ rs, x < B
  val : dval B rs = dval B (a.take i) * dval B b
  zero : ∀ k x, i + b.length ≤ k → rs[k]? = some x → x = 0

/-- The same within round i, ahead of step j: c is carried. -/
structure MulIn (B : Nat) (a b : List Nat) (i j c D x : Nat) (rs : List Nat) : Prop where
  len : rs.length = a.length + b.length
  lt : ∀ x ∈ rs, x < B
  clt : c < B
  val : dval B rs + c * B ^ (i + j) = D + x * dval B (b.take j) * B ^ i
  zero : ∀ k x, i + b.length ≤ k → rs[k]? = some x → x = 0

theorem MulOut.start {B : Nat} {a b : List Nat} (hB : 0 < B) : MulOut B a b 0 (List.replicate (a.length + b.length) 0) :=
  ⟨by simp, fun x hx => by rw [List.eq_of_mem_replicate hx]; exact hB, by simp [dval, dval_zeros], fun k x _ hx => by
    rw [List.getElem?_replicate] at hx
    split at hx
    · injection hx with hx; exact hx.symm
    · cases hx⟩

theorem MulOut.enter {B : Nat} {a b : List Nat} {i : Nat} {rs : List Nat} (h : MulOut B a b i rs) (hB : 0 < B) (x : Nat) : MulIn B a b i 0 0 (dval B rs) x rs :=
  ⟨h.len, h.lt, hB, by simp [dval], h.zero⟩

theorem mem_set_lt {B : Nat} {rs : List Nat} {k y : Nat} (h : ∀ x ∈ rs, x < B) (hy : y < B) : ∀ x ∈ rs.set k y, x < B := fun x hx => by
  rcases List.mem_or_eq_of_mem_set hx with h1 | h1
  · exact h x h1
  · rw [h1]; exact hy

theorem MulIn.step {B : Nat} {a b : List Nat} {i j c D x : Nat} {rs : List Nat} (h : MulIn B a b i j c D x rs) (hx : x < B) {y z : Nat} (hy : rs[i + j]? = some y) (hz : b[j]? = some z) (hzl : z < B) :
    MulIn B a b i (j + 1) ((c + x * z + y) / B) D x (rs.set (i + j) ((c + x * z + y) % B)) := by
  have hyl : y < B := h.lt y (List.mem_of_getElem? hy)
  have hc := carry_lt h.clt hx hyl hzl
  have hj : j < b.length := (List.getElem?_eq_some_iff.1 hz).1
  refine ⟨by rw [List.length_set]; exact h.len, mem_set_lt h.lt (Nat.mod_lt _ (by omega)), hc.2, mul_step hy hz h.val, fun k u hk hu => ?_⟩
  rw [List.getElem?_set_ne (by omega)] at hu
  exact h.zero k u hk hu

theorem MulIn.leave {B : Nat} {a b : List Nat} {i c x : Nat} {rs rs0 : List Nat} (h0 : MulOut B a b i rs0) (h : MulIn B a b i b.length c (dval B rs0) x rs) (hx : a[i]? = some x) : MulOut B a b (i + 1) (rs.set (i + b.length) c) := by
  have hi : i < a.length := (List.getElem?_eq_some_iff.1 hx).1
  have hl : i + b.length < rs.length := by rw [h.len]; omega
  have hz : rs[i + b.length]? = some 0 := by
    rw [List.getElem?_eq_getElem hl]
    exact congrArg some (h.zero (i + b.length) _ (Nat.le_refl _) (List.getElem?_eq_getElem hl))
  refine ⟨by rw [List.length_set]; exact h.len, mem_set_lt h.lt h.clt, ?_, fun k u hk hu => ?_⟩
  · have h1 := dval_set B rs (i + b.length) c 0 hz
    have h2 := h.val
    rw [List.take_length, h0.val] at h2
    rw [dval_take_succ B a i x hx, Nat.add_mul]
    have h3 : x * dval B b * B ^ i = B ^ i * x * dval B b := by rw [Nat.mul_comm _ (B ^ i), Nat.mul_assoc]
    omega
  · rw [List.getElem?_set_ne (by omega)] at hu
    exact h.zero k u (by omega) hu

theorem MulOut.done {B : Nat} {a b : List Nat} {rs : List Nat} (h : MulOut B a b a.length rs) : dval B rs = dval B a * dval B b := by
  have := h.val
  rwa [List.take_length] at this

end Go.Proofs.YthjokmfidhcclaaGreatDoor
