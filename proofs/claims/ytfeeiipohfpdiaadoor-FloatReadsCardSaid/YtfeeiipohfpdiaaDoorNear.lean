/- Plain facts on rounding to a fraction of 64 bits. Nothing of the program. -/
import Derived.Test.YtfeeiipohfpdiaaDoorNum
namespace Go.Proofs.YtfeeiipohfpdiaaDoor
set_option linter.unusedVariables false
set_option linter.unusedSimpArgs false

/-- bits that are needed -/
def blen (n : Nat) : Nat := if n = 0 then 0 else Nat.log2 n + 1

theorem blen_zero : blen 0 = 0 := by simp [blen]
theorem lt_blen (n : Nat) : n < 2 ^ blen n := by
  unfold blen
  split
  · subst_vars; simp
  · exact Nat.lt_log2_self
theorem blen_le {n k : Nat} : blen n ≤ k ↔ n < 2 ^ k := by
  constructor
  · intro h
    exact Nat.lt_of_lt_of_le (lt_blen n) (Nat.pow_le_pow_right (by omega) h)
  · intro h
    unfold blen
    split
    · omega
    · rename_i h0
      have := (Nat.log2_lt h0).2 h
      omega
theorem pow_blen {n : Nat} (h : 0 < n) : 2 ^ (blen n - 1) ≤ n := by
  unfold blen
  rw [if_neg (by omega), Nat.add_sub_cancel]
  exact Nat.log2_self_le (by omega)
theorem blen_pos {n : Nat} (h : 0 < n) : 0 < blen n := by unfold blen; rw [if_neg (by omega)]; omega

/-- the quotient, rounded; the half to the even one -/
def rhe (num den : Nat) : Nat :=
  if den < 2 * (num % den) ∨ (2 * (num % den) = den ∧ num / den % 2 = 1) then num / den + 1 else num / den

theorem rhe_scale {c : Nat} (hc : 0 < c) (num den : Nat) : rhe (c * num) (c * den) = rhe num den := by
  unfold rhe
  rw [Nat.mul_mod_mul_left, Nat.mul_div_mul_left _ _ hc]
  have e1 : (c * den < 2 * (c * (num % den))) ↔ (den < 2 * (num % den)) := by
    rw [show 2 * (c * (num % den)) = c * (2 * (num % den)) from by rw [Nat.mul_left_comm]]
    exact Nat.mul_lt_mul_left hc
  have e2 : (2 * (c * (num % den)) = c * den) ↔ (2 * (num % den) = den) := by
    rw [show 2 * (c * (num % den)) = c * (2 * (num % den)) from by rw [Nat.mul_left_comm]]
    exact Nat.mul_right_inj (by omega)
  simp only [e1, e2]

/-- n is what num/den is rounded to just if num/den is not further from it than a half -/
theorem rhe_le_iff {num den n : Nat} (hd : 0 < den) : rhe num den ≤ n ↔ (2 * num < (2 * n + 1) * den ∨ (2 * num = (2 * n + 1) * den ∧ n % 2 = 0)) := by
  have hdm := Nat.div_add_mod num den
  have hlt := Nat.mod_lt num hd
  generalize hq : num / den = q at *
  generalize hr : num % den = r at *
  unfold rhe
  rw [hq, hr]
  have e : (2 * n + 1) * den = den * (2 * n) + den := by rw [Nat.add_mul, Nat.mul_comm]; omega
  rw [e]
  rcases Nat.lt_trichotomy q n with h | h | h
  · -- q < n
    have h1 : den * (q + 1) ≤ den * n := Nat.mul_le_mul_left _ h
    have h2 : den * (2 * n) = 2 * (den * n) := by rw [Nat.mul_left_comm]
    rw [Nat.mul_add, Nat.mul_one] at h1
    constructor
    · intro _; left; omega
    · intro _; split <;> omega
  · subst h
    have h2 : den * (2 * q) = 2 * (den * q) := by rw [Nat.mul_left_comm]
    rw [h2]
    constructor
    · intro h
      split at h
      · omega
      · rename_i hn
        by_cases hh : 2 * r < den
        · left; omega
        · right
          refine ⟨by omega, ?_⟩
          have : ¬ q % 2 = 1 := fun h1 => hn (.inr ⟨by omega, h1⟩)
          omega
    · intro h
      rw [if_neg]
      · exact Nat.le_refl _
      · rintro (h1 | ⟨h1, h3⟩)
        · omega
        · omega
  · have h1 : den * (n + 1) ≤ den * q := Nat.mul_le_mul_left _ h
    have h2 : den * (2 * n) = 2 * (den * n) := by rw [Nat.mul_left_comm]
    rw [Nat.mul_add, Nat.mul_one] at h1
    constructor
    · intro h; split at h <;> omega
    · intro h; omega

theorem le_rhe_iff {num den n : Nat} (hd : 0 < den) (hn : 0 < n) : n ≤ rhe num den ↔ ((2 * n - 1) * den < 2 * num ∨ ((2 * n - 1) * den = 2 * num ∧ n % 2 = 0)) := by
  have := rhe_le_iff (num := num) (n := n - 1) hd
  have e : 2 * (n - 1) + 1 = 2 * n - 1 := by omega
  rw [e] at this
  have e2 : (n - 1) % 2 = 0 ↔ n % 2 = 1 := by omega
  rw [e2] at this
  constructor
  · intro h
    have h1 : ¬ rhe num den ≤ n - 1 := by omega
    rw [this] at h1
    rcases Nat.lt_trichotomy ((2 * n - 1) * den) (2 * num) with h2 | h2 | h2
    · exact .inl h2
    · right
      refine ⟨h2, ?_⟩
      have : ¬ n % 2 = 1 := fun h3 => h1 (.inr ⟨h2.symm, h3⟩)
      omega
    · exact (h1 (.inl h2)).elim
  · intro h
    have h1 : ¬ rhe num den ≤ n - 1 := by rw [this]; omega
    omega

/-- the number of the fraction's power of two, from 0 on: of N / (den * 2^1074) -/
def kOf (N den : Nat) : Nat := blen (N / den) - 53

/-- the bits of the nearest fraction to N / (den * 2^1074) -/
def nearN (N den : Nat) : Nat :=
  min (2047 * 2 ^ 52) (kOf N den * 2 ^ 52 + rhe N (den * 2 ^ kOf N den))

/-- 1074, behind a name -/
def kk : Nat := 1074
theorem kk_eq : kk = 1074 := rfl
/-- 2^1074, behind a name -/
def one : Nat := 2 ^ kk
theorem one_pos : 0 < one := Nat.pow_pos (by omega)
theorem pow_one (z : Nat) : 2 ^ z * one = 2 ^ (z + kk) := (Nat.pow_add 2 z kk).symm

/-- the bits of the nearest fraction -/
def near (num den : Nat) : Nat := nearN (num * one) den

theorem kOf_le {N den k : Nat} (hd : 0 < den) : kOf N den ≤ k ↔ N < den * 2 ^ (53 + k) := by
  unfold kOf
  rw [Nat.sub_le_iff_le_add, blen_le, Nat.div_lt_iff_lt_mul hd, Nat.mul_comm (2 ^ _) den, Nat.add_comm k 53]

theorem kOf_pos {N den : Nat} (hd : 0 < den) (h : 0 < kOf N den) : den * 2 ^ (52 + kOf N den) ≤ N := by
  have h1 : ¬ kOf N den ≤ kOf N den - 1 := by omega
  rw [kOf_le hd, show 53 + (kOf N den - 1) = 52 + kOf N den from by omega] at h1
  omega

/-- a power of two, and what it gives, decide -/
theorem kOf_eq {N den k : Nat} (hd : 0 < den) (h1 : N < den * 2 ^ (53 + k)) (h2 : k = 0 ∨ den * 2 ^ (52 + k) ≤ N) : kOf N den = k := by
  have h3 := (kOf_le hd).2 h1
  rcases h2 with rfl | h2
  · omega
  · by_cases hk : k = 0
    · omega
    · have h4 : ¬ kOf N den ≤ k - 1 := by
        rw [kOf_le hd, show 53 + (k - 1) = 52 + k from by omega]; omega
      omega

theorem nearN_scale {c : Nat} (hc : 0 < c) (N den : Nat) : nearN (c * N) (c * den) = nearN N den := by
  have e : kOf (c * N) (c * den) = kOf N den := by
    unfold kOf
    rw [Nat.mul_div_mul_left _ _ hc]
  unfold nearN
  rw [e, Nat.mul_assoc, rhe_scale hc]
theorem near_scale {c : Nat} (hc : 0 < c) (num den : Nat) : near (c * num) (c * den) = near num den := by
  unfold near
  rw [Nat.mul_assoc, nearN_scale hc]

theorem rhe_ge {num den n : Nat} (hd : 0 < den) (h : n * den ≤ num) : n ≤ rhe num den := by
  unfold rhe
  have : n ≤ num / den := (Nat.le_div_iff_mul_le hd).2 h
  split <;> omega

theorem rhe_le {num den n : Nat} (hd : 0 < den) (h : num ≤ n * den) : rhe num den ≤ n := by
  rw [rhe_le_iff hd]
  left
  rw [Nat.add_mul, Nat.mul_assoc]
  omega

/-- what the program does from its first guess k of the power of two on -/
def nearFrom (N den k : Nat) : Nat :=
  let n := rhe N (den * 2 ^ k)
  let nk := if 2 ^ 53 ≤ n then (rhe N (den * 2 ^ (k + 1)), k + 1) else (n, k)
  let nk := if nk.1 = 2 ^ 53 then (2 ^ 52, nk.2 + 1) else nk
  if 2045 < nk.2 then 2047 * 2 ^ 52 else if nk.1 < 2 ^ 52 then nk.1 else (nk.2 + 1) * 2 ^ 52 + (nk.1 - 2 ^ 52)

/-- the last steps -/
def finish (n k : Nat) : Nat := min (2047 * 2 ^ 52) (k * 2 ^ 52 + n)

theorem nearN_eq (N den : Nat) : nearN N den = finish (rhe N (den * 2 ^ kOf N den)) (kOf N den) := rfl

theorem near_bounds {N den : Nat} (hd : 0 < den) : rhe N (den * 2 ^ kOf N den) ≤ 2 ^ 53 ∧ (0 < kOf N den → 2 ^ 52 ≤ rhe N (den * 2 ^ kOf N den)) := by
  have hp : 0 < den * 2 ^ kOf N den := Nat.mul_pos hd (Nat.pow_pos (by omega))
  refine ⟨rhe_le hp ?_, fun h => rhe_ge hp ?_⟩
  · have := (kOf_le hd).1 (Nat.le_refl (kOf N den))
    rw [Nat.pow_add, Nat.mul_left_comm] at this
    exact Nat.le_of_lt this
  · have := kOf_pos hd h
    rw [Nat.pow_add, Nat.mul_left_comm] at this
    exact this

theorem half_up' {N d p : Nat} (hd : 0 < d) (hp : 0 < p) (h1 : 2 * p ≤ rhe N d) (h2 : N < 2 * p * d) : rhe N (2 * d) = p := by
  have l1 := (le_rhe_iff (num := N) (n := 2 * p) hd (by omega)).1 h1
  have hp2 : 0 < 2 * d := by omega
  have e1 : 2 * p * d = 2 * (p * d) := Nat.mul_assoc _ _ _
  have e2 : (2 * (2 * p) - 1) * d = 4 * (p * d) - d := by rw [Nat.sub_mul, Nat.one_mul, ← Nat.mul_assoc, Nat.mul_assoc]
  have e3 : p * (2 * d) = 2 * (p * d) := Nat.mul_left_comm _ _ _
  have e4 : (2 * p - 1) * (2 * d) = 4 * (p * d) - 2 * d := by rw [Nat.sub_mul, Nat.one_mul, Nat.mul_assoc, e3, ← Nat.mul_assoc]
  have hpd : d ≤ p * d := Nat.le_mul_of_pos_left d hp
  rw [e2] at l1
  rw [e1] at h2
  apply Nat.le_antisymm
  · refine rhe_le hp2 ?_
    rw [e3]; omega
  · rw [le_rhe_iff hp2 hp, e4]
    left
    omega
theorem half_up {N d : Nat} (hd : 0 < d) (h1 : 2 ^ 53 ≤ rhe N d) (h2 : N < 2 ^ 53 * d) : rhe N (2 * d) = 2 ^ 52 :=
  half_up' (p := 2 ^ 52) hd (Nat.pow_pos (by omega)) (by rw [Nat.pow_succ, Nat.mul_comm] at h1; exact h1) (by rw [Nat.pow_succ, Nat.mul_comm (2 ^ 52) 2] at h2; exact h2)

theorem nearFrom_eq {N den k : Nat} (hd : 0 < den) (h1 : kOf N den ≤ k + 1) (h2 : k ≤ kOf N den) : nearFrom N den k = nearN N den := by
  rw [nearN_eq]
  obtain ⟨b1, b2⟩ := near_bounds (N := N) hd
  have hk : kOf N den = k ∨ kOf N den = k + 1 := by omega
  rcases hk with hk | hk
  · rw [hk] at b1 b2 ⊢
    have hp : 0 < den * 2 ^ k := Nat.mul_pos hd (Nat.pow_pos (by omega))
    by_cases hn : 2 ^ 53 ≤ rhe N (den * 2 ^ k)
    · have e : rhe N (den * 2 ^ k) = 2 ^ 53 := by omega
      have e2 : rhe N (den * 2 ^ (k + 1)) = 2 ^ 52 := by
        have l2 : N < den * 2 ^ (53 + k) := (kOf_le hd).1 (Nat.le_of_eq hk)
        rw [Nat.pow_add, Nat.mul_left_comm] at l2
        rw [Nat.pow_succ, ← Nat.mul_assoc, Nat.mul_comm]
        exact half_up hp hn l2
      unfold nearFrom finish
      rw [e, e2]
      simp only [Nat.le_refl, if_true]
      rw [if_neg (show ¬ (2 ^ 52 = 2 ^ 53) from by omega)]
      simp only
      split
      · omega
      · rw [if_neg (by omega)]; omega
    · unfold nearFrom finish
      simp only [if_neg hn]
      generalize rhe N (den * 2 ^ k) = n at *
      rw [if_neg (show ¬ n = 2 ^ 53 from by omega)]
      simp only
      by_cases hk0 : 0 < k
      · have := b2 hk0
        split
        · omega
        · rw [if_neg (by omega)]; omega
      · obtain rfl : k = 0 := by omega
        rw [if_neg (by omega)]
        split <;> omega
  · rw [hk] at b1 b2 ⊢
    have hp : 0 < den * 2 ^ k := Nat.mul_pos hd (Nat.pow_pos (by omega))
    have hn : 2 ^ 53 ≤ rhe N (den * 2 ^ k) := by
      refine rhe_ge hp ?_
      have := kOf_pos (N := N) hd (by omega)
      rw [hk, show 52 + (k + 1) = 53 + k from by omega, Nat.pow_add, Nat.mul_left_comm] at this
      exact this
    have b2' := b2 (by omega)
    unfold nearFrom finish
    simp only [if_pos hn]
    generalize rhe N (den * 2 ^ (k + 1)) = n at *
    by_cases e : n = 2 ^ 53
    · rw [if_pos e]
      simp only
      split
      · omega
      · rw [if_neg (by omega)]; omega
    · rw [if_neg e]
      simp only
      split
      · omega
      · rw [if_neg (by omega)]; omega

/-- the program's first guess is the power of two, or one less -/
theorem guess_ok {num den k : Nat} (hn : 0 < num) (hd : 0 < den) (hk : k = blen num + 1021 - blen den) : kOf (num * one) den ≤ k + 1 ∧ k ≤ kOf (num * one) den := by
  have n1 := lt_blen num
  have n2 := pow_blen hn
  have d1 := lt_blen den
  have d2 := pow_blen hd
  have bn := blen_pos hn
  have bd := blen_pos hd
  generalize blen num = x at *
  generalize blen den = y at *
  have e := pow_one
  have hkk := kk_eq
  constructor
  · rw [kOf_le hd]
    calc num * one < 2 ^ x * one := Nat.mul_lt_mul_of_pos_right n1 one_pos
      _ = 2 ^ (x + kk) := e x
      _ ≤ 2 ^ ((y - 1) + (53 + (k + 1))) := Nat.pow_le_pow_right (by omega) (by omega)
      _ = 2 ^ (y - 1) * 2 ^ (53 + (k + 1)) := Nat.pow_add _ _ _
      _ ≤ den * 2 ^ (53 + (k + 1)) := Nat.mul_le_mul_right _ d2
  · by_cases hk0 : k = 0
    · omega
    · have h : ¬ kOf (num * one) den ≤ k - 1 := by
        rw [kOf_le hd]
        have : den * 2 ^ (53 + (k - 1)) ≤ num * one := by
          calc den * 2 ^ (53 + (k - 1)) ≤ 2 ^ y * 2 ^ (53 + (k - 1)) := Nat.mul_le_mul_right _ (Nat.le_of_lt d1)
            _ = 2 ^ (y + (53 + (k - 1))) := (Nat.pow_add _ _ _).symm
            _ ≤ 2 ^ ((x - 1) + kk) := Nat.pow_le_pow_right (by omega) (by omega)
            _ = 2 ^ (x - 1) * one := (e _).symm
            _ ≤ num * one := Nat.mul_le_mul_right _ n2
        omega
      omega

end Go.Proofs.YtfeeiipohfpdiaaDoor
