/- Plain law of reading a fraction: what the program reads, what the document reads. Nothing of the program. -/
import Derived.Test.YtfeeiipohfpdiaaDoorNear
namespace Go.Proofs.YtfeeiipohfpdiaaDoor
set_option linter.unusedVariables false
set_option linter.unusedSimpArgs false

def isD (b : UInt8) : Bool := decide (48 ≤ b.toNat) && decide (b.toNat ≤ 57)

/-- the number of decimal digits -/
def decv (l : List UInt8) : Nat := l.foldl (fun a b => a * 10 + (b.toNat - 48)) 0
theorem decv_snoc (l : List UInt8) (b : UInt8) : decv (l ++ [b]) = decv l * 10 + (b.toNat - 48) := by simp [decv]
def isDec (l : List UInt8) : Prop := ∀ b ∈ l, 48 ≤ b.toNat ∧ b.toNat ≤ 57
theorem decv_lt {l : List UInt8} (h : isDec l) : decv l < 10 ^ l.length := by
  have : ∀ (l : List UInt8) (a k : Nat), isDec l → a < 10 ^ k → l.foldl (fun a b => a * 10 + (b.toNat - 48)) a < 10 ^ (k + l.length) := by
    intro l
    induction l with
    | nil => intro a k _ h; simpa using h
    | cons b l ih =>
      intro a k hd ha
      have hb := hd b (by simp)
      have := ih (a * 10 + (b.toNat - 48)) (k + 1) (fun x hx => hd x (by simp [hx])) (by rw [Nat.pow_succ]; omega)
      rw [List.foldl_cons, List.length_cons, show k + (l.length + 1) = k + 1 + l.length by omega]
      exact this
  have := this l 0 0 h (by simp)
  rwa [Nat.zero_add] at this

/-- an exponent's digits, stopped at 100000: the program's -/
def expOf (l : List UInt8) : Nat := l.foldl (fun a b => min (a * 10 + (b.toNat - 48)) 100000) 0
/-- an exponent's digits, stopped from 10000 on: the document's -/
def expRef (l : List UInt8) : Nat := l.foldl (fun a b => if a < 10000 then a * 10 + (b.toNat - 48) else a) 0

theorem exp_agree (l : List UInt8) : expOf l = expRef l ∨ (10000 ≤ expOf l ∧ 10000 ≤ expRef l) := by
  have : ∀ (l : List UInt8) (a b : Nat), ((a = b ∧ a < 10000) ∨ (10000 ≤ a ∧ 10000 ≤ b)) → (∀ x ∈ l, True) →
      let A := l.foldl (fun a b => min (a * 10 + (b.toNat - 48)) 100000) a
      let B := l.foldl (fun a b => if a < 10000 then a * 10 + (b.toNat - 48) else a) b
      ((A = B ∧ A < 10000) ∨ (10000 ≤ A ∧ 10000 ≤ B)) := by
    intro l
    induction l with
    | nil => intro a b h _; simpa using h
    | cons c l ih =>
      intro a b h _
      simp only [List.foldl_cons]
      apply ih _ _ _ (fun _ _ => trivial)
      rcases h with ⟨rfl, h⟩ | ⟨h1, h2⟩
      · rw [if_pos h]; omega
      · rw [if_neg (by omega)]; omega
  have := this l 0 0 (.inl ⟨rfl, by omega⟩) (fun _ _ => trivial)
  rcases this with ⟨h, _⟩ | h
  · exact .inl h
  · exact .inr h

def neg (b : Bool) (n : Nat) : Int := if b then -(n : Int) else (n : Int)

/-- what stands behind the digits of a literal; acc: how an exponent's digits are read -/
def litTail (acc : List UInt8 → Nat) (d : List UInt8) (f : Nat) : List UInt8 → Option (List UInt8 × Int)
  | [] => some (d, -(f : Int))
  | c :: s =>
    if c ≠ 101 then none
    else
      let minus := [45].isPrefixOf s
      let s' := if minus || [43].isPrefixOf s then s.drop 1 else s
      if (s'.takeWhile isD).isEmpty || !(s'.dropWhile isD).isEmpty then none
      else some (d, neg minus (acc (s'.takeWhile isD)) - (f : Int))

/-- a literal: its digits and its exponent -/
def litOf (acc : List UInt8 → Nat) (l : List UInt8) : Option (List UInt8 × Int) :=
  let whole := l.takeWhile isD
  let s := l.dropWhile isD
  if whole.isEmpty || ([48].isPrefixOf whole && decide (1 < whole.length)) || s.isEmpty then none
  else if [46].isPrefixOf s then
    (if ((s.drop 1).takeWhile isD).isEmpty then none
     else litTail acc (whole ++ (s.drop 1).takeWhile isD) ((s.drop 1).takeWhile isD).length ((s.drop 1).dropWhile isD))
  else litTail acc whole 0 s

theorem isDec_takeWhile (l : List UInt8) : isDec (l.takeWhile isD) := by
  intro b hb
  have : isD b = true := by
    induction l with
    | nil => simp at hb
    | cons c l ih =>
      rw [List.takeWhile_cons] at hb
      split at hb
      · rcases List.mem_cons.1 hb with rfl | hb
        · assumption
        · exact ih hb
      · simp at hb
  simpa [isD] using this

/-- of a literal, whichever way its exponent is read: the digits; the exponent -/
theorem litTail_two (d : List UInt8) (f : Nat) (s : List UInt8) :
    (litTail expOf d f s = none ∧ litTail expRef d f s = none) ∨ ∃ x y : Int, litTail expOf d f s = some (d, x) ∧ litTail expRef d f s = some (d, y) ∧ (x = y ∨ (10000 - (f : Int) ≤ x ∧ 10000 - (f : Int) ≤ y) ∨ (x ≤ -10000 ∧ y ≤ -10000)) := by
  unfold litTail
  cases s with
  | nil => exact .inr ⟨_, _, rfl, rfl, .inl rfl⟩
  | cons c s =>
    by_cases hc : c ≠ 101
    · simp [hc]
    · simp only [hc]
      generalize [45].isPrefixOf s = m
      generalize (if (m || [43].isPrefixOf s) = true then s.drop 1 else s) = s'
      by_cases hE : ((s'.takeWhile isD).isEmpty || !(s'.dropWhile isD).isEmpty) = true
      · simp only [hE]; simp
      · simp only [hE]
        refine .inr ⟨_, _, rfl, rfl, ?_⟩
        rcases exp_agree (s'.takeWhile isD) with h | ⟨h1, h2⟩
        · rw [h]; exact .inl rfl
        · right
          cases m
          · left; simp [neg]; omega
          · right; simp [neg]; omega

theorem litOf_two {l : List UInt8} (hl : l.length ≤ 80) :
    (litOf expOf l = none ∧ litOf expRef l = none) ∨ ∃ (d : List UInt8) (x y : Int), litOf expOf l = some (d, x) ∧ litOf expRef l = some (d, y) ∧ isDec d ∧ d.length ≤ 80 ∧ (x = y ∨ (9900 ≤ x ∧ 9900 ≤ y) ∨ (x ≤ -10000 ∧ y ≤ -10000)) := by
  have hsum : (l.takeWhile isD).length + (l.dropWhile isD).length = l.length := by
    rw [← List.length_append, List.takeWhile_append_dropWhile]
  have h2 : ∀ m : List UInt8, (m.takeWhile isD).length ≤ m.length := fun m => (List.takeWhile_prefix isD).length_le
  unfold litOf
  simp only []
  split
  · exact .inl ⟨rfl, rfl⟩
  · split
    · split
      · exact .inl ⟨rfl, rfl⟩
      · have h3 := h2 ((l.dropWhile isD).drop 1)
        rw [List.length_drop] at h3
        rcases litTail_two (l.takeWhile isD ++ ((l.dropWhile isD).drop 1).takeWhile isD) (((l.dropWhile isD).drop 1).takeWhile isD).length (((l.dropWhile isD).drop 1).dropWhile isD) with h | ⟨x, y, h1, h4, h⟩
        · exact .inl h
        · refine .inr ⟨_, x, y, h1, h4, ?_, by rw [List.length_append]; omega, ?_⟩
          · intro b hb
            rcases List.mem_append.1 hb with hb | hb
            · exact isDec_takeWhile _ b hb
            · exact isDec_takeWhile _ b hb
          · rcases h with h | h | h
            · exact .inl h
            · exact .inr (.inl (by omega))
            · exact .inr (.inr h)
    · rcases litTail_two (l.takeWhile isD) 0 (l.dropWhile isD) with h | ⟨x, y, h1, h4, h⟩
      · exact .inl h
      · refine .inr ⟨_, x, y, h1, h4, isDec_takeWhile _, by omega, ?_⟩
        rcases h with h | h | h
        · exact .inl h
        · exact .inr (.inl (by omega))
        · exact .inr (.inr h)

/-- 1024, behind a name -/
def kb : Nat := 1024
theorem kb_eq : kb = 1024 := rfl
theorem pow_split (d : Nat) : d * 2 ^ kb * one = d * 2 ^ (53 + 2045) := by rw [Nat.mul_assoc, pow_one, show kb + kk = 53 + 2045 from rfl]
theorem near_big {num den : Nat} (hd : 0 < den) (h : den * 2 ^ kb ≤ num) : near num den = 2047 * 2 ^ 52 := by
  have hk : 2046 ≤ kOf (num * one) den := by
    apply Nat.le_of_not_lt
    intro hlt
    have h1 : kOf (num * one) den ≤ 2045 := by omega
    rw [kOf_le hd] at h1
    have h2 : den * 2 ^ kb * one ≤ num * one := Nat.mul_le_mul_right _ h
    rw [pow_split] at h2
    have h3 : 53 + kOf (num * one) den ≤ 53 + 2045 := by omega
    replace h3 := Nat.mul_le_mul_left den (Nat.pow_le_pow_right (n := 2) (by omega) h3)
    exact absurd (Nat.lt_of_lt_of_le h1 h2) (Nat.lt_irrefl _)
  unfold near
  rw [nearN_eq]
  have := (near_bounds (N := num * one) hd).2 (by omega)
  unfold finish
  generalize rhe (num * one) (den * 2 ^ kOf (num * one) den) = R at *
  generalize kOf (num * one) den = K at *
  have : 2046 * 2 ^ 52 ≤ K * 2 ^ 52 := Nat.mul_le_mul_right _ hk
  omega

/-- what is too near to 0 -/
theorem near_small {num den : Nat} (hd : 0 < den) (h : 2 * num * one ≤ den) : near num den = 0 := by
  have hk : kOf (num * one) den = 0 := by
    have : kOf (num * one) den ≤ 0 := by
      rw [kOf_le hd]
      have : den * 1 ≤ den * 2 ^ (53 + 0) := Nat.mul_le_mul_left _ (by decide)
      rw [Nat.mul_assoc] at h
      omega
    omega
  unfold near
  rw [nearN_eq, hk]
  have : rhe (num * one) (den * 2 ^ 0) ≤ 0 := by
    rw [Nat.pow_zero, Nat.mul_one, rhe_le_iff hd]
    rw [Nat.mul_assoc] at h
    omega
  unfold finish
  omega

theorem ppow {a b c d : Nat} (n : Nat) (h : a ^ c ≤ b ^ d) : a ^ (c * n) ≤ b ^ (d * n) := by
  rw [Nat.pow_mul, Nat.pow_mul]
  exact Nat.pow_le_pow_left h n
/-- 312, 351, behind names -/
def ta : Nat := 312
def tb : Nat := 351
theorem ta_eq : ta = 39 * 8 := rfl
theorem tb_eq : tb = 39 * 9 := rfl
theorem kb_eq2 : kb = 128 * 8 := rfl
/-- 1152, behind a name -/
def kc : Nat := 1152
theorem kc_eq : kc = 128 * 9 := rfl
theorem kk_lt : kk ≤ kc := by decide
theorem two_39 : 2 ^ 128 ≤ 10 ^ 39 := by decide
theorem two_ten : 2 ^ kb ≤ 10 ^ ta := by
  have h := ppow 8 two_39
  rw [← kb_eq2, ← ta_eq] at h
  exact h
theorem one_ten : one ≤ 10 ^ tb := by
  unfold one
  have h := ppow 9 two_39
  rw [← kc_eq, ← tb_eq] at h
  exact Nat.le_trans (Nat.pow_le_pow_right (by omega) kk_lt) h
theorem near_ten_big {M : Nat} {x : Int} (hM : 0 < M) (hx : 400 < x) : near (M * 10 ^ x.toNat) (10 ^ (-x).toNat) = 2047 * 2 ^ 52 := by
  have e : (-x).toNat = 0 := by omega
  rw [e]
  apply near_big (by decide)
  rw [Nat.pow_zero, Nat.one_mul]
  refine Nat.le_trans ?_ (Nat.le_mul_of_pos_left _ hM)
  have h1 : ta ≤ x.toNat := by unfold ta; omega
  exact Nat.le_trans two_ten (Nat.pow_le_pow_right (by omega) h1)
theorem ten_le {k : Nat} (h : 81 + tb ≤ k) : 10 ^ 81 * 10 ^ tb ≤ 10 ^ k := by rw [← Nat.pow_add]; exact Nat.pow_le_pow_right (by omega) h
theorem near_ten_small {M : Nat} {x : Int} (hM : M < 10 ^ 80) (hx : x < -500) : near (M * 10 ^ x.toNat) (10 ^ (-x).toNat) = 0 := by
  have e : x.toNat = 0 := by omega
  rw [e, Nat.pow_zero, Nat.mul_one]
  apply near_small (Nat.pow_pos (by omega))
  refine Nat.le_trans ?_ (ten_le (by unfold tb; omega))
  exact Nat.mul_le_mul (by omega) one_ten

/-- what the program's Read answers: bits, and an error's number -/
def readP (l : List UInt8) : Nat × Nat :=
  if 80 < l.length then (0, 2)
  else if l = [110, 97, 110] then (9221120237041090561, 0)
  else
    let minus := [45].isPrefixOf l
    let rest := if minus then l.drop 1 else l
    let sg := if minus then 9223372036854775808 else 0
    if rest = [105, 110, 102] then (sg + 9218868437227405312, 0)
    else match litOf expOf rest with
      | none => (0, 4)
      | some (d, x) =>
        if decv d = 0 then (sg, 0)
        else
          let c := max (min x 1000) (-1000)
          let b := near (decv d * 10 ^ c.toNat) (10 ^ (-c).toNat)
          if b = 9218868437227405312 then (0, 7) else (sg + b, 0)

/-- what the document's ReadFloat answers -/
def readR (l : List UInt8) : Nat × Nat :=
  if 80 < l.length then (0, 2)
  else if l = [110, 97, 110] then (9221120237041090561, 0)
  else
    let minus := [45].isPrefixOf l
    let rest := if minus then l.drop 1 else l
    let sg := if minus then 9223372036854775808 else 0
    if rest = [105, 110, 102] then (sg + 9218868437227405312, 0)
    else match litOf expRef rest with
      | none => (0, 4)
      | some (d, x) =>
        if decv d = 0 ∨ x < -500 then (sg, 0)
        else if 400 < x then (0, 7)
        else
          let b := near (decv d * 10 ^ x.toNat) (10 ^ (-x).toNat)
          if b = 9218868437227405312 then (0, 7) else (sg + b, 0)

theorem read_agree (l : List UInt8) : readP l = readR l := by
  unfold readP readR
  by_cases h80 : 80 < l.length
  · rw [if_pos h80, if_pos h80]
  rw [if_neg h80, if_neg h80]
  by_cases hnan : l = [110, 97, 110]
  · rw [if_pos hnan, if_pos hnan]
  rw [if_neg hnan, if_neg hnan]
  simp only []
  generalize hm : [45].isPrefixOf l = m
  generalize (if m = true then 9223372036854775808 else 0) = sg
  have hrl : (if m = true then l.drop 1 else l).length ≤ 80 := by split <;> (try rw [List.length_drop]) <;> omega
  generalize (if m = true then l.drop 1 else l) = rest at *
  by_cases hinf : rest = [105, 110, 102]
  · rw [if_pos hinf, if_pos hinf]
  rw [if_neg hinf, if_neg hinf]
  have hinfn : (9218868437227405312 : Nat) = 2047 * 2 ^ 52 := by decide
  rcases litOf_two hrl with ⟨h1, h2⟩ | ⟨d, x, y, h1, h2, hd, hdl, h⟩
  · rw [h1, h2]
  · rw [h1, h2]
    simp only []
    by_cases h0 : decv d = 0
    · rw [if_pos h0, if_pos (.inl h0)]
    rw [if_neg h0]
    have hM : 0 < decv d := by omega
    have hM2 : decv d < 10 ^ 80 := Nat.lt_of_lt_of_le (decv_lt hd) (Nat.pow_le_pow_right (by omega) hdl)
    have key : x = y ∨ (400 < x ∧ 400 < y) ∨ (x < -500 ∧ y < -500) := by
      rcases h with h | h | h
      · exact .inl h
      · exact .inr (.inl (by omega))
      · exact .inr (.inr (by omega))
    by_cases ha : y < -500
    · have hx : x < -500 := by omega
      rw [near_ten_small hM2 (by omega), if_neg (show ¬ (0 : Nat) = 9218868437227405312 by decide), if_pos (show decv d = 0 ∨ y < -500 from .inr ha)]
      rfl
    · rw [if_neg (show ¬ (decv d = 0 ∨ y < -500) by omega)]
      by_cases hb : 400 < y
      · have hx : 400 < x := by omega
        rw [if_pos hb, near_ten_big hM (by omega), if_pos hinfn.symm]
      · have hx : x = y := by omega
        subst hx
        rw [if_neg hb, show max (min x 1000) (-1000) = x by omega]

theorem near_le (num den : Nat) : near num den ≤ 9218868437227405312 := by
  unfold near
  rw [nearN_eq]
  unfold finish
  omega

end Go.Proofs.YtfeeiipohfpdiaaDoor
