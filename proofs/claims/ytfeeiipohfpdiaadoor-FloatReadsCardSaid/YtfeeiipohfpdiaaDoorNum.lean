/- Plain facts on numbers told as digits, the least first. Nothing of the program. -/
namespace Go.Proofs.YtfeeiipohfpdiaaDoor
set_option linter.unusedVariables false
set_option linter.unusedSimpArgs false

/-- the number that digits tell, the least digit first -/
def val (B : Nat) : List Nat → Nat
  | [] => 0
  | x :: l => x + B * val B l

/-- the digits of a number, none of them 0 at the end -/
def dig (B : Nat) (n : Nat) : List Nat :=
  if _h : 2 ≤ B ∧ 0 < n then n % B :: dig B (n / B) else []
termination_by n
decreasing_by exact Nat.div_lt_self _h.2 _h.1

def Good (B : Nat) (l : List Nat) : Prop := ∀ x ∈ l, x < B

theorem dig_zero (B : Nat) : dig B 0 = [] := by rw [dig]; simp
theorem dig_pos {B n : Nat} (hB : 2 ≤ B) (h : 0 < n) : dig B n = n % B :: dig B (n / B) := by rw [dig]; simp [hB, h]

theorem val_dig {B : Nat} (hB : 2 ≤ B) (n : Nat) : val B (dig B n) = n := by
  induction n using Nat.strongRecOn with
  | _ n ih =>
    by_cases h : 0 < n
    · rw [dig_pos hB h, val, ih _ (Nat.div_lt_self h hB)]
      exact Nat.mod_add_div n B
    · obtain rfl : n = 0 := by omega
      rw [dig_zero]; rfl

theorem good_dig {B : Nat} (hB : 2 ≤ B) (n : Nat) : Good B (dig B n) := by
  induction n using Nat.strongRecOn with
  | _ n ih =>
    by_cases h : 0 < n
    · rw [dig_pos hB h]
      intro x hx
      rcases List.mem_cons.1 hx with rfl | hx
      · exact Nat.mod_lt _ (by omega)
      · exact ih _ (Nat.div_lt_self h hB) x hx
    · obtain rfl : n = 0 := by omega
      rw [dig_zero]; intro x hx; cases hx

theorem dig_eq_nil {B n : Nat} (hB : 2 ≤ B) : dig B n = [] ↔ n = 0 := by
  constructor
  · intro h
    have := val_dig hB n
    rw [h] at this; exact this.symm
  · rintro rfl; exact dig_zero B

theorem val_append (B : Nat) (a b : List Nat) : val B (a ++ b) = val B a + B ^ a.length * val B b := by
  induction a with
  | nil => simp [val]
  | cons x a ih => simp only [List.cons_append, val, ih, List.length_cons, Nat.pow_succ, Nat.mul_add]; rw [Nat.add_assoc, ← Nat.mul_assoc, Nat.mul_comm B (B ^ a.length)]

theorem val_lt {B : Nat} {l : List Nat} (h : Good B l) : val B l < B ^ l.length := by
  induction l with
  | nil => simp [val]
  | cons x l ih =>
    have h1 := ih (fun y hy => h y (List.mem_cons_of_mem _ hy))
    have h2 := h x (List.mem_cons_self)
    simp only [val, List.length_cons, Nat.pow_succ]
    have : val B l + 1 ≤ B ^ l.length := h1
    have := Nat.mul_le_mul_left B this
    rw [Nat.mul_add, Nat.mul_one] at this
    rw [Nat.mul_comm (B ^ l.length) B]
    omega

theorem val_replicate (B n : Nat) : val B (List.replicate n 0) = 0 := by
  induction n with
  | zero => rfl
  | succ n ih => simp [List.replicate_succ, val, ih]

/-- digits without noughts at the end are the number's own -/
theorem dig_val {B : Nat} (hB : 2 ≤ B) {l : List Nat} (h : Good B l) (ht : ∀ x, l.getLast? = some x → x ≠ 0) : dig B (val B l) = l := by
  induction l with
  | nil => exact dig_zero B
  | cons x l ih =>
    have hx := h x (List.mem_cons_self)
    have hl : Good B l := fun y hy => h y (List.mem_cons_of_mem _ hy)
    have ht' : ∀ y, l.getLast? = some y → y ≠ 0 := by
      intro y hy
      refine ht y ?_
      cases l with
      | nil => simp at hy
      | cons z l => simpa [List.getLast?_cons_cons] using hy
    have ih' := ih hl ht'
    have hpos : 0 < val B (x :: l) := by
      cases l with
      | nil =>
        have := ht x (by simp)
        simp [val]; omega
      | cons z l =>
        have hv : 0 < val B (z :: l) := by
          rcases Nat.eq_zero_or_pos (val B (z :: l)) with h0 | h0
          · rw [h0, dig_zero] at ih'; cases ih'
          · exact h0
        have := Nat.mul_pos (show 0 < B by omega) hv
        simp only [val] at this ⊢
        omega
    rw [dig_pos hB hpos]
    have e1 : val B (x :: l) % B = x := by
      simp only [val]
      rw [Nat.add_mul_mod_self_left]
      exact Nat.mod_eq_of_lt hx
    have e2 : val B (x :: l) / B = val B l := by
      simp only [val]
      rw [Nat.add_mul_div_left _ _ (by omega), Nat.div_eq_of_lt hx]; omega
    rw [e1, e2, ih']

theorem dig_inj {B a b : Nat} (hB : 2 ≤ B) (h : dig B a = dig B b) : a = b := by
  rw [← val_dig hB a, ← val_dig hB b, h]

/-- without noughts at the end -/
def cutL (l : List Nat) : List Nat := (l.reverse.dropWhile (· == 0)).reverse

theorem cutL_snoc_zero (l : List Nat) : cutL (l ++ [0]) = cutL l := by simp [cutL]
theorem cutL_snoc_pos (l : List Nat) {x : Nat} (h : x ≠ 0) : cutL (l ++ [x]) = l ++ [x] := by simp [cutL, h]
theorem cutL_nil : cutL [] = [] := rfl

theorem cutL_eq {B : Nat} (hB : 2 ≤ B) {l : List Nat} (h : Good B l) : cutL l = dig B (val B l) := by
  have key : ∀ n (l : List Nat), l.length = n → Good B l → cutL l = dig B (val B l) := by
    intro n
    induction n with
    | zero => intro l hl _; obtain rfl := List.eq_nil_of_length_eq_zero hl; rw [cutL_nil]; exact (dig_zero B).symm
    | succ n ih =>
      intro l hl hg
      have hne : l ≠ [] := by intro e; rw [e] at hl; simp at hl
      rw [← List.dropLast_concat_getLast hne] at hg ⊢
      generalize hd : l.dropLast = d at *
      generalize hx : l.getLast hne = x at *
      have hdl : d.length = n := by rw [← hd]; simp; omega
      have hdg : Good B d := fun y hy => hg y (List.mem_append_left _ hy)
      by_cases h0 : x = 0
      · subst h0
        rw [cutL_snoc_zero, ih d hdl hdg, val_append]
        simp [val]
      · rw [cutL_snoc_pos d h0]
        refine (dig_val hB hg ?_).symm
        intro y hy
        simp at hy; omega
  exact key _ l rfl h

theorem length_dig_le {B n k : Nat} (hB : 2 ≤ B) (h : n < B ^ k) : (dig B n).length ≤ k := by
  induction k generalizing n with
  | zero =>
    obtain rfl : n = 0 := by simpa using h
    rw [dig_zero]; simp
  | succ k ih =>
    by_cases h0 : 0 < n
    · rw [dig_pos hB h0, List.length_cons]
      have : n / B < B ^ k := by
        rw [Nat.div_lt_iff_lt_mul (by omega)]
        rwa [Nat.pow_succ] at h
      have := ih this
      omega
    · obtain rfl : n = 0 := by omega
      rw [dig_zero]; simp

theorem pow_le_of_dig {B n : Nat} (hB : 2 ≤ B) (h : 0 < n) : B ^ ((dig B n).length - 1) ≤ n := by
  induction n using Nat.strongRecOn with
  | _ n ih =>
    rw [dig_pos hB h]
    simp only [List.length_cons, Nat.add_sub_cancel]
    by_cases h2 : 0 < n / B
    · have := ih _ (Nat.div_lt_self h hB) h2
      have hl : 0 < (dig B (n / B)).length := by
        rw [dig_pos hB h2]; simp
      have e : (dig B (n / B)).length = ((dig B (n / B)).length - 1) + 1 := by omega
      rw [e, Nat.pow_succ]
      calc B ^ ((dig B (n / B)).length - 1) * B ≤ n / B * B := Nat.mul_le_mul_right _ this
        _ ≤ n := Nat.div_mul_le_self n B
    · have : n / B = 0 := Nat.eq_zero_of_not_pos h2
      rw [this, dig_zero]; simp; omega

end Go.Proofs.YtfeeiipohfpdiaaDoor
