/- Walks of package big: bits; one word; shifts by less than a word. -/
import Derived.Test.YtfeeiipohfpdiaaDoorBig4
import Derived.Test.YtfeeiipohfpdiaaDoorShelf
import Derived.Laws.BitsAllLaws
namespace Go.Proofs.YtfeeiipohfpdiaaDoor
set_option linter.unusedVariables false
set_option linter.unusedSimpArgs false
open Go.RowKit

theorem bitLen_eq {x : Nat} (h : x < 18446744073709551616) : Lib.bitLen x = blen x := by
  have key : ∀ f x, x < 2 ^ f → Lib.bitLenAux f x = blen x := by
    intro f
    induction f with
    | zero => intro x hx; obtain rfl : x = 0 := by simpa using hx
              rfl
    | succ f ih =>
      intro x hx
      unfold Lib.bitLenAux
      by_cases h0 : x = 0
      · subst h0; simp [blen]
      · rw [if_neg h0, ih (x / 2) (by rw [Nat.div_lt_iff_lt_mul (by omega)]; rwa [Nat.pow_succ] at hx)]
        unfold blen
        rw [if_neg h0]
        by_cases h1 : x / 2 = 0
        · rw [if_pos h1]
          have : x = 1 := by omega
          subst this; decide
        · rw [if_neg h1]
          have e : Nat.log2 x = Nat.log2 (x / 2) + 1 := by
            rw [Nat.log2_def, if_pos (by omega)]
          omega
  exact key 64 x h

theorem len32_any (x : Nat) (w : World) (hx : x < 4294967296) : Calls Tryd.prog 126 #[.int .u32 x] w fun e w' => e = .returned (.int .i64 (blen x)) ∧ w = w' := by
  refine (Tryd.bits_Len32 (x : Int) w (by omega) (by omega)).mono ?_
  rintro e w' ⟨rfl, rfl⟩
  exact ⟨by rw [Int.toNat_natCast, bitLen_eq (by omega)], rfl⟩
theorem lz32_any (x : Nat) (w : World) (hx : x < 4294967296) : Calls Tryd.prog 165 #[.int .u32 x] w fun e w' => e = .returned (.int .i64 (32 - (blen x : Int))) ∧ w = w' := by
  refine (Tryd.bits_LeadingZeros32 (x : Int) w (by omega) (by omega)).mono ?_
  rintro e w' ⟨rfl, rfl⟩
  exact ⟨by rw [Int.toNat_natCast, bitLen_eq (by omega)], rfl⟩

theorem top_bit {v : Nat} (h : v < 4294967296) : v / 2147483648 = if v.testBit 31 then 1 else 0 := by
  have e : v.testBit 31 = decide (v / 2147483648 % 2 = 1) := by rw [Nat.testBit_eq_decide_div_mod_eq]
  rw [e]
  by_cases hv : v / 2147483648 % 2 = 1
  · rw [if_pos (by simpa using hv)]; omega
  · rw [if_neg (by simpa using hv)]; omega
theorem test_top {v : Nat} (h : v < 4294967296) : v.testBit 31 = decide (2147483648 ≤ v) := by
  rw [Nat.testBit_eq_decide_div_mod_eq]
  by_cases hv : 2147483648 ≤ v
  · rw [decide_eq_true hv]; simp; omega
  · rw [decide_eq_false hv]; simp; omega

def bw (x y c : Nat) : Nat := if x < y + c then 1 else 0
theorem bw_le (x y c : Nat) : bw x y c ≤ 1 := by unfold bw; split <;> omega

/-- the borrow of a difference -/
theorem borrow_bit {x y c d : Nat} (hx : x < 4294967296) (hy : y < 4294967296) (hc : c ≤ 1) (hd : d < 4294967296) (h : d + y + c = x ∨ d + y + c = x + 4294967296) :
    (((4294967295 ^^^ x) &&& y) ||| ((4294967295 ^^^ (x ^^^ y)) &&& d)) / 2147483648 = bw x y c := by
  unfold bw
  have b1 : (4294967295 ^^^ x) < 4294967296 := Nat.xor_lt_two_pow (n := 32) (by omega) hx
  have b2 : ((4294967295 ^^^ x) &&& y) < 4294967296 := Nat.and_lt_two_pow (n := 32) _ hy
  have b3 : ((4294967295 ^^^ (x ^^^ y)) &&& d) < 4294967296 := Nat.and_lt_two_pow (n := 32) _ hd
  have b4 : (((4294967295 ^^^ x) &&& y) ||| ((4294967295 ^^^ (x ^^^ y)) &&& d)) < 4294967296 := Nat.or_lt_two_pow (n := 32) b2 b3
  rw [top_bit b4]
  have e1 : Nat.testBit 4294967295 31 = true := by decide
  simp only [Nat.testBit_or, Nat.testBit_and, Nat.testBit_xor, e1, test_top hx, test_top hy, test_top hd, Bool.true_xor]
  by_cases h1 : 2147483648 ≤ x <;> by_cases h2 : 2147483648 ≤ y <;> by_cases h3 : 2147483648 ≤ d <;> simp only [h1, h2, h3, decide_true, decide_false, Bool.not_true, Bool.not_false, Bool.and_true, Bool.and_false, Bool.or_true, Bool.or_false, Bool.true_and, Bool.false_and, Bool.xor_self, Bool.xor_true, Bool.xor_false, Bool.false_xor, Bool.true_xor, if_true, Bool.false_eq_true, if_false] <;> split <;> omega

set_option maxRecDepth 100000 in
set_option maxHeartbeats 400000 in
theorem sub32_any (x y c : Nat) (w : World) (hx : x < 4294967296) (hy : y < 4294967296) (hc : c ≤ 1) :
    Calls Tryd.prog 190 #[.int .u32 x, .int .u32 y, .int .u32 c] w fun e w' => e = .returned (.tuple #[.int .u32 ((x + 4294967296 + 4294967296 - y - c) % 4294967296 : Nat), .int .u32 (bw x y c : Nat)]) ∧ w = w' := by
  obtain ⟨d, hd⟩ : ∃ d, d = (x + 4294967296 + 4294967296 - y - c) % 4294967296 := ⟨_, rfl⟩
  have hd1 : d < 4294967296 := by omega
  have hd2 : d + y + c = x ∨ d + y + c = x + 4294967296 := by omega
  have hb := borrow_bit hx hy hc hd1 hd2
  have HB := Lib.hid hb; clear hb
  rw [← hd]
  have hdi : ((x : Int) - y - c) % 4294967296 = (d : Int) := by omega
  have HD := Lib.hid hdi; clear hdi hd hd2
  go_enter Tryd.func190, Tryd.ntmps190
  go_wp2
  go_ret2
  refine ⟨ret_num2 ?_ ?_, rfl⟩
  · exact HD.out
  · show bits BinOp.or IntKind.u32 (bits BinOp.and IntKind.u32 (bits BinOp.xor IntKind.u32 IntKind.u32.max ↑x) ↑y) (bits BinOp.and IntKind.u32 (bits BinOp.xor IntKind.u32 IntKind.u32.max (bits BinOp.xor IntKind.u32 ↑x ↑y)) ((↑x - ↑y - ↑c) % 4294967296)) / 2147483648 = _
    rw [HD.out]
    have em : IntKind.u32.max = ((4294967295 : Nat) : Int) := by decide
    have b0 : (x ^^^ y) < 4294967296 := Nat.xor_lt_two_pow (n := 32) hx hy
    have b1 : (4294967295 ^^^ x) < 4294967296 := Nat.xor_lt_two_pow (n := 32) (by omega) hx
    have b1' : (4294967295 ^^^ (x ^^^ y)) < 4294967296 := Nat.xor_lt_two_pow (n := 32) (by omega) b0
    have b2 : ((4294967295 ^^^ x) &&& y) < 4294967296 := Nat.and_lt_two_pow (n := 32) _ hy
    have b3 : ((4294967295 ^^^ (x ^^^ y)) &&& d) < 4294967296 := Nat.and_lt_two_pow (n := 32) _ hd1
    rw [em, u32_xor_nat _ _ (by omega) hx, u32_xor_nat _ _ hx hy, u32_xor_nat _ _ (by omega) b0, u32_and_nat _ _ b1 hy, u32_and_nat _ _ b1' hd1, u32_or_nat _ _ b2 b3]
    rw [← HB.out]
    generalize (4294967295 ^^^ x) &&& y ||| (4294967295 ^^^ (x ^^^ y)) &&& d = z
    omega

set_option maxRecDepth 100000 in
set_option maxHeartbeats 400000 in
theorem div32_any (x y c z : Nat) (w : World) (hx : x < c) (hy : y < 4294967296) (hc : c < 4294967296) (hz : x * 4294967296 + y = z) :
    Calls Tryd.prog 164 #[.int .u32 x, .int .u32 y, .int .u32 c] w fun e w' => e = .returned (.tuple #[.int .u32 (z / c : Nat), .int .u32 (z % c : Nat)]) ∧ ∃ n, w' = w.drewN n := by
  have Z := Lib.hid hz; clear hz
  go_enter Tryd.func164, Tryd.ntmps164
  go_wp2
  have hor : bits BinOp.or IntKind.u64 ((x : Int) * 4294967296) (y : Int) = ((x * 4294967296 + y : Nat) : Int) := by
    rw [show ((x : Int) * 4294967296) = ((x * 4294967296 : Nat) : Int) from by omega, u64_or_nat _ _ (by omega) (by omega), nat_join 32 _ _ (by omega) hy]
  rw [Z.out] at hor
  rw [hor]
  have hz := Z.out
  have hz1 : z < 18446744073709551616 := by omega
  have hq : z / c < 4294967296 := by rw [Nat.div_lt_iff_lt_mul (by omega), ← hz]; have := Nat.mul_le_mul_right 4294967296 (show x + 1 ≤ c from hx); omega
  have hr : z % c < 4294967296 := by have := Nat.mod_lt z (show 0 < c by omega); omega
  have hcz : ((c : Int) == 0) = false := by simp; omega
  have e1 : (z : Int) / (c : Int) = ((z / c : Nat) : Int) := by simp
  have e2 : (z : Int) % (c : Int) = ((z % c : Nat) : Int) := by simp
  have E1 := Lib.hid e1
  have E2 := Lib.hid e2
  clear e1 e2 hz hor
  go_quiet (fail)
  go_wp2
  go_ret2
  refine ⟨ret_num2 ?_ ?_, nq, rfl⟩
  · show IntKind.u64.wrap (↑z / ↑c) % 4294967296 = _
    rw [E1.out, IntKind.wrap_u64]
    clear E1
    generalize z / c = q at hq ⊢
    omega
  · show (↑z % ↑c : Int) = _
    exact E2.out

theorem snoc_cases (l : List Nat) : l = [] ∨ ∃ d x, l = d ++ [x] := by
  rcases l.eq_nil_or_concat with h | ⟨d, x, h⟩
  · exact .inl h
  · exact .inr ⟨d, x, by rw [h, List.concat_eq_append]⟩
theorem dig_top {B : Nat} (hB : 2 ≤ B) (n : Nat) : ∀ x, (dig B n).getLast? = some x → x ≠ 0 := by
  induction n using Nat.strongRecOn with
  | _ n ih =>
    intro x hx
    by_cases h : 0 < n
    · rw [dig_pos hB h] at hx
      by_cases h2 : 0 < n / B
      · have := ih _ (Nat.div_lt_self h hB) x
        rw [dig_pos hB h2] at hx this
        rw [List.getLast?_cons_cons] at hx
        exact this hx
      · have e : n / B = 0 := Nat.eq_zero_of_not_pos h2
        rw [e, dig_zero] at hx
        simp at hx
        have := Nat.div_add_mod n B
        rw [e] at this
        omega
    · obtain rfl : n = 0 := by omega
      rw [dig_zero] at hx; simp at hx

/-- bits of a number by its words -/
theorem blen_snoc {d : List Nat} {x : Nat} (g : Good 4294967296 d) (hx : x ≠ 0) : blen (val 4294967296 (d ++ [x])) = 32 * d.length + blen x := by
  have h1 := val_lt g
  rw [val_snoc]
  have hp : 4294967296 ^ d.length = 2 ^ (32 * d.length) := by rw [Nat.pow_mul]
  rw [hp] at h1 ⊢
  apply Nat.le_antisymm
  · rw [blen_le, Nat.pow_add]
    have h2 := lt_blen x
    have h3 : 2 ^ (32 * d.length) * (x + 1) ≤ 2 ^ (32 * d.length) * 2 ^ blen x := Nat.mul_le_mul_left _ h2
    rw [Nat.mul_add] at h3
    omega
  · have h2 := pow_blen (show 0 < x by omega)
    have h4 := blen_pos (show 0 < x by omega)
    have h3 : ¬ blen (val 4294967296 d + 2 ^ (32 * d.length) * x) ≤ 32 * d.length + blen x - 1 := by
      rw [blen_le, show 32 * d.length + blen x - 1 = 32 * d.length + (blen x - 1) from by omega, Nat.pow_add]
      have := Nat.mul_le_mul_left (2 ^ (32 * d.length)) h2
      omega
    omega

set_option maxRecDepth 100000 in
set_option maxHeartbeats 400000 in
theorem len_any (a : Option Addr) (ca : Nat) (la : List Nat) (w : World) (hma : la.length ≤ 1000000)
    (ha : Sl w (.slice a la.length ca) (ints .u32 la)) (ga : Good 4294967296 la) :
    Calls Tryd.prog 75 #[.slice a la.length ca] w fun e w' => e = .returned (.int .i64 (blen (val 4294967296 la))) ∧ ∃ n, w' = w.drewN n := by
  have HA := Lib.hid (ha.dig ga)
  have hla := length_dig_val ga
  have gda := good_dig (B := 4294967296) (by omega) (val 4294967296 la)
  have V1 := Lib.hid (val_dig (B := 4294967296) (by omega) (val 4294967296 la))
  have C1 := Lib.hid (trimmed_dig a ca la w (by omega) ha ga)
  have T1 := Lib.hid (dig_top (B := 4294967296) (by omega) (val 4294967296 la))
  go_enter Tryd.func75, Tryd.ntmps75
  go_wp2_with fail
  refine C1.out.mono ?_
  rintro e w' ⟨rfl, rfl⟩
  generalize dig 4294967296 (val 4294967296 la) = da at *
  clear C1 ha
  rcases snoc_cases da with rfl | ⟨d, x, rfl⟩
  · go_wp2_with fail
    go_ret
    refine ⟨ret_num ?_, 0, rfl⟩
    rw [← V1.out]; rfl
  · have hx : (d ++ [x])[d.length]? = some x := by simp
    have gx := good_get gda hx
    have HX := Lib.hid hx
    obtain ⟨b1, off1, rfl, -, hc1, hc2, -, hcell⟩ := HA.out.at (ints_get hx)
    have hl : (d ++ [x]).length = d.length + 1 := by simp
    have e0 : ((d.length : Int) + 1 == 0) = false := by simp; omega
    rw [hl] at hla hc1 ⊢
    clear hx hl
    have hbx : blen x ≤ 32 := blen_le.2 (by omega)
    go_wp2_with (go_at_call 126; refine (len32_any x _ gx).mono ?_; rintro e w' ⟨rfl, rfl⟩)
    go_ret
    have h := blen_snoc (fun y hy => gda y (List.mem_append_left _ hy)) (T1.out x (by simp))
    rw [V1.out] at h
    rw [h]
    refine ⟨ret_num ?_, 0, rfl⟩
    show (32 * (d.length : Int) + (blen x : Int)) = _
    omega
end Go.Proofs.YtfeeiipohfpdiaaDoor
