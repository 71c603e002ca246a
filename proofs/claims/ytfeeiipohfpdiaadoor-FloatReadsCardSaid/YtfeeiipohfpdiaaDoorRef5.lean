/- Walks of the reference's numbers, base 10000: Power, OfDigits. -/
import Derived.Test.YtfeeiipohfpdiaaDoorRef4
import Derived.Test.YtfeeiipohfpdiaaDoorLit2
import Derived.Test.YtfeeiipohfpdiaaDoorFlo3
namespace Go.Proofs.YtfeeiipohfpdiaaDoor
set_option linter.unusedVariables false
set_option linter.unusedSimpArgs false
open Go.RowKit

theorem rl_le {n k : Nat} (h : n < 10000 ^ k) : rl n ≤ k := length_dig_le (by omega) h
theorem lt_rl (n : Nat) : n < 10000 ^ rl n := by
  have := val_lt (good_dig (B := 10000) (by omega) n)
  rwa [val_dig (by omega)] at this
theorem rl_mono {m n : Nat} (h : m ≤ n) : rl m ≤ rl n := rl_le (Nat.lt_of_le_of_lt h (lt_rl n))
theorem rl_mul (m n : Nat) : rl (m * n) ≤ rl m + rl n := by
  apply rl_le
  rw [Nat.pow_add]
  exact Nat.mul_lt_mul'' (lt_rl m) (lt_rl n)
theorem rl_add (m n : Nat) : rl (m + n) ≤ max (rl m) (rl n) + 1 := by
  apply rl_le
  have h1 : m < 10000 ^ max (rl m) (rl n) := Nat.lt_of_lt_of_le (lt_rl m) (Nat.pow_le_pow_right (by omega) (Nat.le_max_left _ _))
  have h2 : n < 10000 ^ max (rl m) (rl n) := Nat.lt_of_lt_of_le (lt_rl n) (Nat.pow_le_pow_right (by omega) (Nat.le_max_right _ _))
  rw [Nat.pow_succ]
  omega
theorem rl_pow {b : Nat} (hb : b < 10000) (n : Nat) : rl (b ^ n) ≤ n + 1 := by
  apply rl_le
  rw [Nat.pow_succ]
  have h1 : b ^ n ≤ 10000 ^ n := Nat.pow_le_pow_left (by omega) n
  have h2 : 0 < 10000 ^ n := Nat.pow_pos (by omega)
  omega
theorem rl_u64 {n : Nat} (h : n < 18446744073709551616) : rl n ≤ 5 := rl_le (Nat.lt_of_lt_of_le h (by decide))

set_option maxRecDepth 1000000 in
theorem power_any (b n : Nat) (w : World) (hb : 0 < b) (hb2 : b < 4294967296) (hn : n ≤ 1000000) (hL : rl (b ^ n) ≤ 5000) :
    Calls Tryd.prog 81 #[.int .u64 ((b : Nat) : Int), .int .i64 ((n : Nat) : Int)] w fun e w' => ∃ q, e = .returned q ∧ RNum w' q (b ^ n) ∧ Fresh w q ∧ Below w.heap.size w w' := by
  have c1 : ∀ w, Calls Tryd.prog 45 #[.int .u64 1] w fun e w' => ∃ q, e = .returned q ∧ RNum w' q 1 ∧ Fresh w q ∧ Below w.heap.size w w' := fun w => small_any 1 w (by omega)
  have c2 := fun w => small_any b w (by omega)
  go_enter Tryd.func81, Tryd.ntmps81
  go_wp2_with fail
  refine (c1 _).mono ?_
  rintro e w1 ⟨q1, rfl, hq1, hf1, hb1⟩
  go_wp2_with fail
  refine (c2 _).mono ?_
  rintro e w2 ⟨q2, rfl, hq2, hf2, hb2'⟩
  have hbe := hb1.trans (hb2'.mono hb1.size)
  have hq1' := hq1.below hb2'
  go_wp2_with fail
  go_loopw [1, 5, 6] (fun i o x wr => ∃ k A X, k ≤ 1000000 ∧ i = .int .i64 ((k : Nat) : Int) ∧ A * X ^ k = b ^ n ∧ 0 < A ∧ 0 < X ∧ RNum wr o A ∧ RNum wr x X ∧ Fresh w o ∧ Below w.heap.size w wr) (fun i _ _ _ => (intOf i).toNat)
  case atStart => exact ⟨n, 1, b, hn, rfl, by simp, by omega, hb, hq1', hq2, hf1, hbe⟩
  case round =>
    obtain ⟨k, A, X, hk, rfl, hv, hA, hXp, ho, hx, hfo, hbel⟩ := hrel
    obtain ⟨wo, rfl⟩ : ∃ wo : World, wo = wr := ⟨_, rfl⟩
    rcases Nat.eq_zero_or_pos k with h0 | h0
    · subst h0
      rw [Nat.pow_zero, Nat.mul_one] at hv
      subst hv
      go_wp2_with fail
      go_ret
      exact ⟨_, rfl, ho, hfo, hbel⟩
    · have hlA : rl A ≤ 5000 := Nat.le_trans (rl_mono (by rw [← hv]; exact Nat.le_mul_of_pos_right A (Nat.pow_pos hXp))) hL
      have hlX : rl X ≤ 5000 := Nat.le_trans (rl_mono (by rw [← hv]; exact Nat.le_trans (Nat.le_self_pow (by omega) X) (Nat.le_mul_of_pos_left _ hA))) hL
      have HV := Lib.hid hv; clear hv
      have hk0 : (0 : Int) < (k : Int) := by omega
      have hhalf : ((k / 2 : Nat) : Int) = (k : Int) / 2 := by omega
      have hX2 : 0 < X * X := Nat.mul_pos hXp hXp
      rcases Nat.mod_two_eq_zero_or_one k with he | he
      · have hone : ((k : Int) % 2 == 1) = false := by simp; omega
        go_wp2_with fail
        refine (by_num hx hx (by omega) (by omega)).mono ?_
        rintro e w1 ⟨q, rfl, hq, hfq, hbq⟩
        go_wp2_with fail
        refine ⟨⟨k / 2, A, X * X, by omega, ?_, pow_even HV.out he, hA, hX2, ho.below hbq, hq, hfo, hbel.trans (hbq.mono hbel.size)⟩, ?_⟩
        · rw [hhalf]
        · simp [intOf]; omega
      · have hone : ((k : Int) % 2 == 1) = true := by simp; omega
        go_wp2_with fail
        refine (by_num ho hx (by omega) (by omega)).mono ?_
        rintro e w1 ⟨q, rfl, hq, hfq, hbq⟩
        go_wp2_with fail
        refine (by_num (hx.below hbq) (hx.below hbq) (by omega) (by omega)).mono ?_
        rintro e w2 ⟨q2, rfl, hq2, hfq2, hbq2⟩
        have hbel2 := hbel.trans (hbq.mono hbel.size)
        go_wp2_with fail
        refine ⟨⟨k / 2, A * X, X * X, by omega, ?_, pow_odd HV.out he, Nat.mul_pos hA hXp, hX2, hq.below hbq2, hq2, hfq.later hbel.size, hbel2.trans (hbq2.mono hbel2.size)⟩, ?_⟩
        · rw [hhalf]
        · simp [intOf]; omega

theorem decv_append (a b : List UInt8) : decv (a ++ b) = decv a * 10 ^ b.length + decv b := by
  have : ∀ (b : List UInt8) (x : Nat), b.foldl (fun a b => a * 10 + (b.toNat - 48)) x = x * 10 ^ b.length + decv b := by
    intro b
    induction b with
    | nil => intro x; simp [decv]
    | cons c b ih =>
      intro x
      have h1 : decv (c :: b) = (c.toNat - 48) * 10 ^ b.length + decv b := by
        show b.foldl (fun a b => a * 10 + (b.toNat - 48)) (0 * 10 + (c.toNat - 48)) = _
        rw [ih, Nat.zero_mul, Nat.zero_add]
      rw [List.foldl_cons, ih, h1, List.length_cons, Nat.pow_succ, Nat.add_mul, Nat.mul_assoc, Nat.mul_comm 10, Nat.add_assoc]
  rw [decv, List.foldl_append, this]
  rfl

theorem digits_step {V P D T C : Nat} {n : Nat} (h : D = V + P * T) (hT : T = n * 10000 + C) : D = V + P * C + P * 10000 * n := by
  rw [h, hT, Nat.mul_add, Nat.mul_assoc P, Nat.mul_comm 10000 n]
  omega
theorem digits_last {V P D T : Nat} (h : D = V + P * T) : D = V + P * T + P * 10000 * 0 := by rw [h, Nat.mul_zero, Nat.add_zero]
theorem str_sub (s : ByteArray) (n : Nat) : (s.extract 0 n).data.toList = s.data.toList.take n := by rw [str_upto]
theorem decv_mid {l : List UInt8} {n i : Nat} {b : UInt8} (h : l[i]? = some b) (hn : n ≤ i) : decv ((l.drop n).take (i + 1 - n)) = decv ((l.drop n).take (i - n)) * 10 + (b.toNat - 48) := by
  have h2 : (l.drop n)[i - n]? = some b := by rw [List.getElem?_drop, ← h]; congr 1; omega
  rw [show i + 1 - n = (i - n) + 1 by omega, decv_take h2]
theorem size_sub (s : ByteArray) (n : Nat) (h : n ≤ s.size) : (s.extract 0 n).size = n := by simp; omega

set_option maxRecDepth 1000000 in
set_option maxHeartbeats 400000 in
theorem ofDigits_any (s : ByteArray) (w : World) (hs : s.size ≤ 1000000) (hd : isDec s.data.toList) :
    Calls Tryd.prog 33 #[.string s] w fun e w' => ∃ q, e = .returned q ∧ RNum w' q (decv s.data.toList) ∧ Fresh w q ∧ Below w.heap.size w w' := by
  obtain ⟨D, hD⟩ : ∃ D, decv s.data.toList = D := ⟨_, rfl⟩
  rw [hD]
  go_enter Tryd.func33, Tryd.ntmps33
  have HD := Lib.hid hD
  have HDE := Lib.hid hd
  clear hD hd
  go_wp2_with fail
  go_loopw [0, 3] (fun v out wr => ∃ (S : ByteArray) (k : Nat) (o : List Nat), v = .string S ∧ wr.ownsRow w.heap.size 3 1 out k (ints .i64 o) ∧ o.length = k ∧ Good 10000 o ∧ k + S.size ≤ 1000000 ∧ isDec S.data.toList ∧ D = val 10000 o + 10000 ^ k * decv S.data.toList ∧ Below w.heap.size w wr) (fun v _ _ => match v with | .string S => S.size | _ => 0)
  case atStart => exact ⟨s, 0, [], rfl, World.ownsRow_nil _ _ _ _, rfl, (fun x hx => nomatch hx), by omega, HDE.out, by rw [HD.out]; simp [val], Below.refl _ _⟩
  case round =>
    obtain ⟨S, k, o, rfl, hrow, hol, hgo, hkS, hSd, hDv, hbel⟩ := hrel
    have HL := Lib.hid hol; clear hol
    have HSD := Lib.hid hSd; clear hSd
    have HDV := Lib.hid hDv; clear hDv
    obtain ⟨wo, rfl⟩ : ∃ wo : World, wo = wr := ⟨_, rfl⟩
    have hSl := bytes_length S
    by_cases h0 : 0 < S.size
    · have h0' : (0 : Int) < (S.size : Int) := by omega
      obtain ⟨N, hN⟩ : ∃ n : Nat, n = S.size - 4 := ⟨_, rfl⟩
      have hN2 : N ≤ S.size := by omega
      have hN3 : S.size ≤ N + 4 := by omega
      have HN4 : Hid (N = 0 ∨ S.size = N + 4) := Lib.hid (by omega)
      have hmx : max (0 : Int) ((S.size : Int) - 4) = (N : Int) := by omega
      clear hN
      have HS2 := Lib.hid (str_sub S N)
      have HS1 := Lib.hid (size_sub S N hN2)
      · go_wp2_with fail
        go_loop [5, 6] (fun x i => ∃ (j X : Nat), N ≤ j ∧ j ≤ S.size ∧ i = .int .i64 ((j : Nat) : Int) ∧ x = .int .i64 ((X : Nat) : Int) ∧ X = decv ((S.data.toList.drop N).take (j - N)) ∧ X < 10000) (fun _ i => S.size - (intOf i).toNat)
        case atStart => exact ⟨N, 0, Nat.le_refl _, hN2, rfl, rfl, by rw [Nat.sub_self]; rfl, by omega⟩
        case round =>
          obtain ⟨j, X, hj1, hj2, rfl, rfl, hX, hXl⟩ := hrel
          have HX := Lib.hid hX
          clear hX
          by_cases hlt : j < S.size
          · obtain ⟨hb48, hb57⟩ := HSD.out (S[j]'hlt) (List.mem_iff_getElem?.2 ⟨j, str_get hlt⟩)
            have hlt' : (j : Int) < (S.size : Int) := by omega
            go_wp2_with fail
            refine ⟨⟨j + 1, X * 10 + ((S[j]'hlt).toNat - 48), by omega, by omega, by go_num, ?_, ?_, ?_⟩, by simp [intOf]; omega⟩
            · congr 1; omega
            · rw [decv_mid (str_get hlt) hj1, ← HX.out]
            · have h1 := decv_lt (l := (S.data.toList.drop N).take (j + 1 - N)) (fun x hx => HSD.out x (List.mem_of_mem_drop (List.mem_of_mem_take hx)))
              rw [decv_mid (str_get hlt) hj1, ← HX.out] at h1
              refine Nat.lt_of_lt_of_le h1 ?_
              refine Nat.le_trans (Nat.pow_le_pow_right (by omega) (List.length_take_le _ _)) ?_
              exact Nat.pow_le_pow_right (n := 10) (j := 4) (by omega) (by omega)
          · obtain rfl : j = S.size := by omega
            go_wp2_with (at_builtin; refine app_one rfl _ _ _ rfl rowInts w.heap.size (.int .i64 ((X : Nat) : Int)) wo.heap.size (hrow.alloc _) rfl rfl (by simp) rfl (by omega) (by omega) (by have := hbel.size; simp; omega) ?_; intro v' w2 hrow2 hgrow2)
            refine ⟨⟨S.extract 0 N, k + 1, o ++ [X], rfl, by rw [ints_append]; exact hrow2, by rw [List.length_append, HL.out]; rfl, good_snoc hgo hXl, ?_, ?_, ?_, ?_⟩, ?_⟩
            · rw [HS1.out]; have := HN4.out; omega
            · rw [HS2.out]; exact fun b hb => HSD.out b (List.mem_of_mem_take hb)
            · rw [val_snoc, HL.out, HS2.out, Nat.pow_succ]
              have hX := HX.out
              rw [List.take_of_length_le (by rw [List.length_drop, hSl]; exact Nat.le_refl _)] at hX
              rcases HN4.out with h | h
              · subst h
                rw [List.take_zero]
                have h3 : decv [] = 0 := rfl
                rw [h3]
                rw [List.drop_zero] at hX
                have := digits_last HDV.out
                rw [← hX] at this
                exact this
              · refine digits_step HDV.out ?_
                have h3 := decv_append (S.data.toList.take N) (S.data.toList.drop N)
                rw [List.take_append_drop, ← hX, List.length_drop, hSl, show S.size - N = 4 by omega] at h3
                exact h3
            · exact (hbel.alloc hbel.size _).grown hgrow2 (by have := hbel.size; simp; omega) (fun j hj => (hrow.lt j hj).1)
            · have h1 := HS1.out
              have h2 := HN4.out
              show (S.extract 0 N).size < S.size
              omega
    · have h0' : ¬ (0 : Int) < (S.size : Int) := by omega
      go_wp2_with fail
      refine (cut_own _ (by omega) hrow HL.out hgo).mono ?_
      rintro e w' ⟨⟨q, rfl, hq, hqf⟩, rfl⟩
      go_wp2_with fail
      go_ret
      have h1 := HDV.out
      have h2 : S.data.toList = [] := List.eq_nil_of_length_eq_zero (by omega)
      rw [h2] at h1
      have h3 : decv [] = 0 := rfl
      rw [h3, Nat.mul_zero, Nat.add_zero] at h1
      rw [h1]
      exact ⟨q, rfl, hq, hqf, hbel⟩
end Go.Proofs.YtfeeiipohfpdiaaDoor
