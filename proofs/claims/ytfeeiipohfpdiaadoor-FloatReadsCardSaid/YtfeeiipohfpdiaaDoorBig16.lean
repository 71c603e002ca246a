/- Numbers as values: the contracts of package big once more, on values. -/
import Derived.Test.YtfeeiipohfpdiaaDoorBig15
namespace Go.Proofs.YtfeeiipohfpdiaaDoor
set_option linter.unusedVariables false
set_option linter.unusedSimpArgs false
open Go.RowKit

/-- how many words -/
def ln (n : Nat) : Nat := (dig 4294967296 n).length

theorem ln_le {n k : Nat} (h : n < 4294967296 ^ k) : ln n ≤ k := length_dig_le (by omega) h
theorem lt_ln (n : Nat) : n < 4294967296 ^ ln n := by
  have := val_lt (good_dig (B := 4294967296) (by omega) n)
  rwa [val_dig (by omega)] at this
theorem ln_mono {m n : Nat} (h : m ≤ n) : ln m ≤ ln n := ln_le (Nat.lt_of_le_of_lt h (lt_ln n))
theorem ln_mul (m n : Nat) : ln (m * n) ≤ ln m + ln n := by
  apply ln_le
  rw [Nat.pow_add]
  exact Nat.mul_lt_mul'' (lt_ln m) (lt_ln n)
theorem ln_add (m n : Nat) : ln (m + n) ≤ max (ln m) (ln n) + 1 := by
  apply ln_le
  have h1 : m < 4294967296 ^ max (ln m) (ln n) := Nat.lt_of_lt_of_le (lt_ln m) (Nat.pow_le_pow_right (by omega) (Nat.le_max_left _ _))
  have h2 : n < 4294967296 ^ max (ln m) (ln n) := Nat.lt_of_lt_of_le (lt_ln n) (Nat.pow_le_pow_right (by omega) (Nat.le_max_right _ _))
  rw [Nat.pow_succ]
  omega
theorem ln_two (n : Nat) : ln (2 ^ n) ≤ n / 32 + 1 := by
  apply ln_le
  rw [show (4294967296 : Nat) = 2 ^ 32 from rfl, ← Nat.pow_mul]
  exact Nat.pow_lt_pow_right (by omega) (by omega)
theorem ln_ten (n : Nat) : ln (10 ^ n) ≤ n / 9 + 1 := by
  apply ln_le
  have h : (10 : Nat) ^ n < 10 ^ (9 * (n / 9 + 1)) := Nat.pow_lt_pow_right (by omega) (by omega)
  rw [Nat.pow_mul] at h
  exact Nat.lt_of_lt_of_le h (Nat.pow_le_pow_left (by omega) _)
theorem ln_zero : ln 0 = 0 := by unfold ln; rw [dig_zero]; rfl
theorem ln_pos {n : Nat} (h : 0 < n) : 0 < ln n := by
  apply Nat.pos_of_ne_zero
  intro h0
  have := (dig_eq_nil (B := 4294967296) (n := n) (by omega)).1 (List.eq_nil_of_length_eq_zero h0)
  omega
theorem ln_div (m n : Nat) : ln (m / n) ≤ ln m := ln_mono (Nat.div_le_self m n)
theorem ln_mod (m n : Nat) : ln (m % n) ≤ ln m := ln_mono (Nat.mod_le m n)

theorem Num.open {w : World} {v : Value} {n : Nat} (h : Num w v n) : ∃ a c, v = .slice a (dig 4294967296 n).length c ∧ Num w (.slice a (dig 4294967296 n).length c) n := by
  obtain ⟨a, c, e, _, _⟩ := Sl.open h
  rw [ints_length] at e
  exact ⟨a, c, e, e ▸ h⟩

section
variable {u v : Value} {m n : Nat} {w : World}
theorem mul_num (hu : Num w u m) (hv : Num w v n) (h1 : ln m ≤ 2000) (h2 : ln n ≤ 2000) :
    Calls Tryd.prog 87 #[u, v] w fun e w' => ∃ q, e = .returned q ∧ Num w' q (m * n) ∧ Fresh w q ∧ Below w.heap.size w w' := by
  obtain ⟨a, ca, rfl, hu⟩ := hu.open
  obtain ⟨b, cb, rfl, hv⟩ := hv.open
  have := mul_any a b ca cb _ _ w (by unfold ln at h1; omega) (by unfold ln at h2; omega) hu hv (good_dig (by omega) m) (good_dig (by omega) n)
  rwa [val_dig (by omega), val_dig (by omega)] at this
theorem add_num (hu : Num w u m) (hv : Num w v n) (h1 : ln m ≤ 2000) (h2 : ln n ≤ 2000) :
    Calls Tryd.prog 89 #[u, v] w fun e w' => ∃ q, e = .returned q ∧ Num w' q (m + n) ∧ Fresh w q ∧ Below w.heap.size w w' := by
  obtain ⟨a, ca, rfl, hu⟩ := hu.open
  obtain ⟨b, cb, rfl, hv⟩ := hv.open
  have := add_any a b ca cb _ _ w (by unfold ln at h1; omega) (by unfold ln at h2; omega) hu hv (good_dig (by omega) m) (good_dig (by omega) n)
  rwa [val_dig (by omega), val_dig (by omega)] at this
theorem cmp_num (hu : Num w u m) (hv : Num w v n) (h1 : ln m ≤ 2000) (h2 : ln n ≤ 2000) :
    Calls Tryd.prog 90 #[u, v] w fun e w' => e = .returned (.int .i64 (ord m n)) ∧ ∃ n, w' = w.drewN n := by
  obtain ⟨a, ca, rfl, hu⟩ := hu.open
  obtain ⟨b, cb, rfl, hv⟩ := hv.open
  have := cmp_any a b ca cb _ _ w (by unfold ln at h1; omega) (by unfold ln at h2; omega) hu hv (good_dig (by omega) m) (good_dig (by omega) n)
  rwa [val_dig (by omega), val_dig (by omega)] at this
theorem len_num (hu : Num w u m) (h1 : ln m ≤ 2000) :
    Calls Tryd.prog 75 #[u] w fun e w' => e = .returned (.int .i64 (blen m)) ∧ ∃ n, w' = w.drewN n := by
  obtain ⟨a, ca, rfl, hu⟩ := hu.open
  have := len_any a ca _ w (by unfold ln at h1; omega) hu (good_dig (by omega) m)
  rwa [val_dig (by omega)] at this
theorem trim_num (hu : Num w u m) (h1 : ln m ≤ 2000) :
    Calls Tryd.prog 77 #[u] w fun e w' => ∃ q, e = .returned q ∧ Num w' q m ∧ Fresh w q ∧ Below w.heap.size w w' := by
  obtain ⟨a, ca, rfl, hu⟩ := hu.open
  have := trim_any a ca _ w (by unfold ln at h1; omega) hu (good_dig (by omega) m)
  rwa [val_dig (by omega)] at this
theorem shift_num (hu : Num w u m) (h1 : ln m ≤ 2000) (hn : n ≤ 4000) :
    Calls Tryd.prog 36 #[u, .int .i64 ((n : Nat) : Int)] w fun e w' => ∃ q, e = .returned (.tuple #[q, .int .i64 0]) ∧ Num w' q (m * 2 ^ n) ∧ Fresh w q ∧ Below w.heap.size w w' := by
  obtain ⟨a, ca, rfl, hu⟩ := hu.open
  have := shift_any a ca n _ w (by unfold ln at h1; omega) hn hu (good_dig (by omega) m)
  rwa [val_dig (by omega)] at this
theorem divMod_num (hu : Num w u m) (hv : Num w v n) (h1 : ln m ≤ 2000) (h2 : ln n ≤ 2000) (hn : 0 < n) :
    Calls Tryd.prog 88 #[u, v] w fun e w' => ∃ q r, e = .returned (.tuple #[q, r, .int .i64 0]) ∧ Num w' q (m / n) ∧ Num w' r (m % n) ∧ Fresh w q ∧ Fresh w r ∧ Below w.heap.size w w' := by
  obtain ⟨a, ca, rfl, hu⟩ := hu.open
  obtain ⟨b, cb, rfl, hv⟩ := hv.open
  have := divMod_any a b ca cb _ _ w (by unfold ln at h1; omega) (by unfold ln at h2; omega) hu hv (good_dig (by omega) m) (good_dig (by omega) n) (by rw [val_dig (by omega)]; exact hn)
  rwa [val_dig (by omega), val_dig (by omega)] at this
end

theorem Num.alloc {w : World} {v : Value} {n : Nat} (h : Num w v n) (o : Obj) : Num (w.alloc o) v n := Sl.alloc h o
theorem Num.drew {w : World} {v : Value} {n : Nat} (h : Num w v n) : Num w.drew v n := h
theorem Num.drewN {w : World} {v : Value} {n k : Nat} (h : Num w v n) : Num (w.drewN k) v n := h
/-- a word as a slice of its own -/
theorem sl_word (w : World) (n : Nat) : Sl (w.alloc (.cells #[.int .u32 ((n : Nat) : Int)] 76)) (.slice (some ⟨w.heap.size, 0, none⟩) 1 1) (ints .u32 [n]) :=
  (Blk.new w [.int .u32 (n : Int)] 76).sl (by simp [ints]) (by omega) (by unfold maxLen; omega) (by intro i u h; simpa [ints] using h)
theorem dig_one : dig 4294967296 1 = [1] := by rw [dig_pos (by omega) (by omega)]; simp [dig_zero]
theorem num_one (w : World) : Num (w.alloc (.cells #[.int .u32 1] 76)) (.slice (some ⟨w.heap.size, 0, none⟩) 1 1) 1 := by
  unfold Num; rw [dig_one]; exact sl_word w 1

theorem wraps_i64_63 (n : Int) (h₀ : 0 ≤ n) (h₁ : n < 2 ^ 63) : IntKind.i64.wrap n = n := by rw [IntKind.wrap_i64]; omega
theorem one_i64 {k : Nat} (hk : k < 9223372036854775808) : bits BinOp.and .i64 ((k : Nat) : Int) 1 = ((k % 2 : Nat) : Int) := by
  have h := bits_mask .i64 63 (by decide) wraps_i64_63 1 (by decide) (k : Int) (by omega) (by omega)
  rw [show ((2 : Int) ^ 1 - 1) = 1 by decide] at h
  rw [h]
  omega
theorem pow_even {A X k b : Nat} (h : A * X ^ k = b) (hk : k % 2 = 0) : A * (X * X) ^ (k / 2) = b := by
  rw [← h, ← Nat.pow_two, ← Nat.pow_mul, Nat.mul_comm 2, Nat.div_mul_cancel (Nat.dvd_of_mod_eq_zero hk)]
theorem pow_odd {A X k b : Nat} (h : A * X ^ k = b) (hk : k % 2 = 1) : (A * X) * (X * X) ^ (k / 2) = b := by
  rw [← h, ← Nat.pow_two, ← Nat.pow_mul, Nat.mul_assoc, show X * X ^ (2 * (k / 2)) = X ^ (2 * (k / 2) + 1) by rw [Nat.pow_succ]; exact Nat.mul_comm _ _]
  congr 2
  omega

set_option maxRecDepth 1000000 in
theorem pow_any (b n : Nat) (w : World) (hb : 0 < b) (hb2 : b < 4294967296) (hn : n ≤ 1000) (hL : ln (b ^ n) ≤ 500) :
    Calls Tryd.prog 127 #[.int .u32 ((b : Nat) : Int), .int .i64 ((n : Nat) : Int)] w fun e w' => ∃ q, e = .returned (.tuple #[q, .int .i64 0]) ∧ Num w' q (b ^ n) ∧ Fresh w q ∧ Below w.heap.size w w' := by
  have h0 : ¬ ((n : Int) < 0) := by omega
  have h1 : ¬ ((1000 : Int) < (n : Int)) := by omega
  go_enter Tryd.func127, Tryd.ntmps127
  go_wp2_with fail
  obtain ⟨wa, hwa⟩ : ∃ wa : World, wa = (w.alloc (.cells #[.int .u32 1] 76)).alloc (.cells #[.int .u32 (b : Int)] 76) := ⟨_, rfl⟩
  rw [← hwa]
  have hx1 : dig 4294967296 b = [b] := by rw [dig_pos (by omega) hb, Nat.mod_eq_of_lt hb2, Nat.div_eq_of_lt hb2, dig_zero]
  have hX : Num wa (.slice (some ⟨w.heap.size + 1, 0, none⟩) 1 1) b := by
    unfold Num
    rw [hx1, hwa]
    simpa using sl_word (w.alloc (.cells #[.int .u32 1] 76)) b
  have hO : Num wa (.slice (some ⟨w.heap.size, 0, none⟩) 1 1) 1 := by rw [hwa]; exact (num_one w).alloc _
  have hB : Below w.heap.size w wa := by rw [hwa]; exact ((Below.refl _ w).alloc (Nat.le_refl _) _).alloc (by simp) _
  have hF : Fresh w (.slice (some ⟨w.heap.size, 0, none⟩) 1 1) := fun b hb => by cases hb; exact Nat.le_refl _
  have ht := trimmed_n (some ⟨w.heap.size + 1, 0, none⟩) 1 [b] 1 wa rfl (by omega) (by rw [← hx1]; unfold Num at hX; rw [hx1] at hX ⊢; exact hX) (fun x hx => by simp at hx; omega)
  rw [show val 4294967296 [b] = b by simp [val], hx1] at ht
  clear hx1 hwa
  refine ht.mono ?_
  rintro e w' ⟨rfl, rfl⟩
  go_wp2_with fail
  clear ht h0 h1
  go_loopw [1, 6, 7] (fun i o x wr => ∃ k A X, k ≤ 1000 ∧ i = .int .i64 ((k : Nat) : Int) ∧ A * X ^ k = b ^ n ∧ 0 < A ∧ 0 < X ∧ Num wr o A ∧ Num wr x X ∧ Fresh w o ∧ Below w.heap.size w wr) (fun i _ _ _ => (intOf i).toNat)
  case atStart => exact ⟨n, 1, b, hn, rfl, by simp, by omega, hb, hO, hX, hF, hB⟩
  case round =>
    obtain ⟨k, A, X, hk, rfl, hv, hA, hXp, ho, hx, hfo, hbel⟩ := hrel
    obtain ⟨wo, rfl⟩ : ∃ wo : World, wo = wr := ⟨_, rfl⟩
    rcases Nat.eq_zero_or_pos k with h0 | h0
    · subst h0
      rw [Nat.pow_zero, Nat.mul_one] at hv
      subst hv
      go_wp2_with fail
      go_ret2
      exact ⟨_, rfl, ho, hfo, hbel⟩
    · have hlA : ln A ≤ 500 := Nat.le_trans (ln_mono (by rw [← hv]; exact Nat.le_mul_of_pos_right A (Nat.pow_pos hXp))) hL
      have hlX : ln X ≤ 500 := Nat.le_trans (ln_mono (by rw [← hv]; exact Nat.le_trans (Nat.le_self_pow (by omega) X) (Nat.le_mul_of_pos_left _ hA))) hL
      have HV := Lib.hid hv; clear hv
      have hk0 : (0 : Int) < (k : Int) := by omega
      have hone := one_i64 (show k < 9223372036854775808 by omega)
      have hhalf : ((k / 2 : Nat) : Int) = (k : Int) / 2 := by omega
      have hX2 : 0 < X * X := Nat.mul_pos hXp hXp
      rcases Nat.mod_two_eq_zero_or_one k with he | he
      · rw [he] at hone
        go_wp2_with fail
        refine (mul_num hx hx (by omega) (by omega)).mono ?_
        rintro e w1 ⟨q, rfl, hq, hfq, hbq⟩
        go_wp2_with fail
        refine ⟨⟨k / 2, A, X * X, by omega, ?_, pow_even HV.out he, hA, hX2, ho.below hbq, hq, hfo, hbel.trans (hbq.mono hbel.size)⟩, ?_⟩
        · rw [hhalf]
        · simp [intOf]; omega
      · rw [he] at hone
        go_wp2_with fail
        refine (mul_num ho hx (by omega) (by omega)).mono ?_
        rintro e w1 ⟨q, rfl, hq, hfq, hbq⟩
        go_wp2_with fail
        refine (mul_num (hx.below hbq) (hx.below hbq) (by omega) (by omega)).mono ?_
        rintro e w2 ⟨q2, rfl, hq2, hfq2, hbq2⟩
        have hbel2 := hbel.trans (hbq.mono hbel.size)
        go_wp2_with fail
        refine ⟨⟨k / 2, A * X, X * X, by omega, ?_, pow_odd HV.out he, Nat.mul_pos hA hXp, hX2, hq.below hbq2, hq2, hfq.later hbel.size, hbel2.trans (hbq2.mono hbel2.size)⟩, ?_⟩
        · rw [hhalf]
        · simp [intOf]; omega
end Go.Proofs.YtfeeiipohfpdiaaDoor
