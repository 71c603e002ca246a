/- Plain law of the document's Nearest. Nothing of the program. -/
import Derived.Test.YtfeeiipohfpdiaaDoorLit
namespace Go.Proofs.YtfeeiipohfpdiaaDoor
set_option linter.unusedVariables false
set_option linter.unusedSimpArgs false

theorem mul_swap {den A B K O C : Nat} (e : A * K = O * B) : den * (C * K) * A = O * (den * B * C) := by
  have : den * (C * K) * A = den * C * (A * K) := by
    rw [Nat.mul_comm A K, ← Nat.mul_assoc, ← Nat.mul_assoc]
  rw [this, e, Nat.mul_left_comm, Nat.mul_assoc, Nat.mul_assoc, Nat.mul_comm C B]

theorem near_by0 {num den A B K O k : Nat} (hd : 0 < den) (ha : 0 < A) (ho : 0 < O) (e : A * K = O * B) (hK : K = 2 ^ k) (h1 : num * A < den * B * 2 ^ 53) (h2 : k = 0 ∨ den * B * 2 ^ 52 ≤ num * A) :
    kOf (num * O) den = k ∧ rhe (num * O) (den * K) = rhe (num * A) (den * B) := by
  have e1 : num * O * A = O * (num * A) := by rw [Nat.mul_comm num O, Nat.mul_assoc]
  have e2 : den * K * A = O * (den * B) := by
    have := mul_swap (den := den) (C := 1) e
    rwa [Nat.one_mul, Nat.mul_one] at this
  constructor
  · apply kOf_eq hd
    · apply Nat.lt_of_mul_lt_mul_right (a := A)
      rw [Nat.pow_add, ← hK, mul_swap e, e1]
      exact (Nat.mul_lt_mul_left ho).2 h1
    · rcases h2 with h2 | h2
      · exact .inl h2
      · right
        apply Nat.le_of_mul_le_mul_right (c := A) _ ha
        rw [Nat.pow_add, ← hK, mul_swap e, e1]
        exact Nat.mul_le_mul_left _ h2
  · rw [← rhe_scale ha, ← rhe_scale (c := O) ho (num * A), Nat.mul_comm A, Nat.mul_comm A, e1, e2]

/-- a number doubled a times, another b times: the power of two that the fraction has, and what is rounded -/
theorem near_by2 {num den a b k : Nat} (hd : 0 < den) (hk : k + a = kk + b) (h1 : num * 2 ^ a < den * 2 ^ b * 2 ^ 53) (h2 : k = 0 ∨ den * 2 ^ b * 2 ^ 52 ≤ num * 2 ^ a) :
    kOf (num * one) den = k ∧ rhe (num * one) (den * 2 ^ k) = rhe (num * 2 ^ a) (den * 2 ^ b) := by
  have e : 2 ^ a * 2 ^ k = one * 2 ^ b := by
    unfold one
    rw [← Nat.pow_add, ← Nat.pow_add, Nat.add_comm, hk]
  exact near_by0 hd (Nat.pow_pos (by decide)) one_pos e rfl h1 h2

/-- the last steps of the document's Nearest -/
def endR (q k : Nat) : Nat :=
  if q = 9007199254740992 then (if 2045 < k + 1 then 9218868437227405312 else (k + 1) * 4503599627370496 + 4503599627370496)
  else if 2045 < k then 9218868437227405312
  else if q < 4503599627370496 then q else k * 4503599627370496 + q

theorem near_endR {num den a b k : Nat} (hd : 0 < den) (hk : k + a = kk + b) (h1 : num * 2 ^ a < den * 2 ^ b * 2 ^ 53) (h2 : k = 0 ∨ den * 2 ^ b * 2 ^ 52 ≤ num * 2 ^ a) :
    near num den = endR (rhe (num * 2 ^ a) (den * 2 ^ b)) k := by
  obtain ⟨e1, e2⟩ := near_by2 hd hk h1 h2
  clear hk
  have hb := near_bounds (N := num * one) hd
  rw [e1, e2] at hb
  unfold near
  rw [nearN_eq, e1, e2]
  clear e1 e2 h1 h2
  generalize rhe (num * 2 ^ a) (den * 2 ^ b) = q at *
  unfold finish endR
  simp only [show (2 : Nat) ^ 53 = 9007199254740992 from rfl, show (2 : Nat) ^ 52 = 4503599627370496 from rfl] at *
  by_cases h3 : q = 9007199254740992
  · rw [if_pos h3]
    split <;> omega
  · rw [if_neg h3]
    by_cases h4 : 2045 < k
    · rw [if_pos h4]
      have := hb.2 (by omega)
      omega
    · rw [if_neg h4]
      by_cases h5 : q < 4503599627370496
      · rw [if_pos h5]
        have : k = 0 := Nat.eq_zero_of_not_pos (fun h => by have := hb.2 h; omega)
        subst this
        omega
      · rw [if_neg h5]; omega

theorem div_of {n d q r : Nat} (h : r + q * d = n) (hr : r < d) : n / d = q ∧ n % d = r := by
  subst h
  rw [Nat.add_mul_div_right _ _ (by omega), Nat.add_mul_mod_self_right, Nat.div_eq_of_lt hr, Nat.mod_eq_of_lt hr]
  omega
end Go.Proofs.YtfeeiipohfpdiaaDoor
