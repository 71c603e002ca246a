/- Walks of package float: Near. -/
import Derived.Test.YtfeeiipohfpdiaaDoorFlo1
namespace Go.Proofs.YtfeeiipohfpdiaaDoor
set_option linter.unusedVariables false
set_option linter.unusedSimpArgs false
open Go.RowKit

theorem scaled_at {u v : Value} {m n : Nat} (k : Nat) (e : Int) (w : World) (he : e = (k : Int) - 1074) (hu : Num w u m) (hv : Num w v n) (hn : 0 < n) (h1 : ln m ≤ 1000) (h2 : ln n ≤ 1000) (hk : k ≤ 3000) (hlt : rhe (m * one) (n * 2 ^ k) < 18446744073709551616) :
    Calls Tryd.prog 78 #[u, v, .int .i64 e] w fun x w' => x = .returned (.int .u64 (rhe (m * one) (n * 2 ^ k) : Nat)) ∧ Below w.heap.size w w' := by
  have hkk := kk_eq
  by_cases h : kk ≤ k
  · obtain ⟨j, rfl⟩ : ∃ j, k = j + kk := ⟨k - kk, by omega⟩
    have e1 : rhe (m * one) (n * 2 ^ (j + kk)) = rhe m (n * 2 ^ j) := by
      rw [← pow_one, ← Nat.mul_assoc, Nat.mul_comm m, Nat.mul_comm (n * 2 ^ j), rhe_scale one_pos]
    have e2 : e = (j : Int) := by omega
    rw [e1] at hlt ⊢
    rw [e2]
    exact scaled_pos j w hu hv hn h1 h2 (by omega) hlt
  · obtain ⟨j, hj⟩ : ∃ j, kk = j + k := ⟨kk - k, by omega⟩
    have e1 : rhe (m * one) (n * 2 ^ k) = rhe (m * 2 ^ j) n := by
      unfold one
      rw [hj, Nat.pow_add, ← Nat.mul_assoc, Nat.mul_comm (m * 2 ^ j), Nat.mul_comm n, rhe_scale (Nat.pow_pos (by omega))]
    have e2 : e = -(j : Int) := by omega
    rw [e1] at hlt ⊢
    rw [e2]
    exact scaled_neg j w hu hv hn h1 h2 (by omega) (by omega) hlt

theorem ln_blen {m k : Nat} (h : blen m ≤ 32 * k) : ln m ≤ k := ln_le (by
  have := blen_le.1 h
  rwa [show (4294967296 : Nat) = 2 ^ 32 from rfl, ← Nat.pow_mul])
theorem blen_ln {m k : Nat} (h : ln m ≤ k) : blen m ≤ 32 * k := by
  rw [blen_le]
  refine Nat.lt_of_lt_of_le (lt_ln m) ?_
  rw [show (4294967296 : Nat) = 2 ^ 32 from rfl, ← Nat.pow_mul]
  exact Nat.pow_le_pow_right (by omega) (by omega)
theorem near_zero (d : Nat) : near 0 d = 0 := by
  unfold near
  rw [Nat.zero_mul, nearN_eq]
  unfold kOf finish rhe
  rw [Nat.zero_div, Nat.zero_div, Nat.zero_mod, blen_zero]
  simp

/-- what the program's Near gives, by its first guess k of the power and the two roundings -/
def nearBy (k A C : Nat) : Nat :=
  if 2045 < k then 9218868437227405312
  else if 9007199254740992 ≤ A then
    (if C = 9007199254740992 then (if 2044 < k + 1 then 9218868437227405312 else (k + 3) * 4503599627370496)
     else if 2044 < k then 9218868437227405312 else if C < 4503599627370496 then C else (k + 2) * 4503599627370496 + (C - 4503599627370496))
  else if A < 4503599627370496 then A else (k + 1) * 4503599627370496 + (A - 4503599627370496)

theorem near_by {num den k : Nat} (hn : 0 < num) (hd : 0 < den) (hk : k = blen num + 1021 - blen den) :
    near num den = nearBy k (rhe (num * one) (den * 2 ^ k)) (rhe (num * one) (den * 2 ^ (k + 1))) ∧ rhe (num * one) (den * 2 ^ k) ≤ 18014398509481984 ∧ rhe (num * one) (den * 2 ^ (k + 1)) ≤ 9007199254740992 := by
  obtain ⟨g1, g2⟩ := guess_ok hn hd hk
  have hb := (kOf_le hd).1 g1
  have e := nearFrom_eq hd g1 g2
  refine ⟨?_, ?_, ?_⟩
  · unfold near
    rw [← e]
    unfold nearFrom nearBy
    generalize rhe (num * one) (den * 2 ^ k) = A
    generalize rhe (num * one) (den * 2 ^ (k + 1)) = C
    simp only [show (2 : Nat) ^ 53 = 9007199254740992 from rfl, show (2 : Nat) ^ 52 = 4503599627370496 from rfl]
    by_cases h1 : 2045 < k
    · rw [if_pos h1, if_pos (by split <;> split <;> simp_all <;> omega)]
    · rw [if_neg h1]
      by_cases h2 : 9007199254740992 ≤ A
      · simp only [if_pos h2]
        by_cases h3 : C = 9007199254740992
        · simp only [if_pos h3]
          by_cases h4 : 2044 < k + 1
          · rw [if_pos (by omega), if_pos h4]
          · rw [if_neg (by omega), if_neg (by omega), if_neg h4]; omega
        · simp only [if_neg h3]
          by_cases h4 : 2044 < k
          · rw [if_pos (by omega), if_pos h4]
          · rw [if_neg (by omega), if_neg h4]
      · simp only [if_neg h2, if_neg (show ¬ A = 9007199254740992 by omega), if_neg h1]
  · apply rhe_le (Nat.mul_pos hd (Nat.pow_pos (by omega)))
    rw [show 53 + (k + 1) = 54 + k by omega, Nat.pow_add, Nat.mul_left_comm] at hb
    exact Nat.le_of_lt hb
  · apply rhe_le (Nat.mul_pos hd (Nat.pow_pos (by omega)))
    rw [Nat.pow_add, Nat.mul_left_comm] at hb
    exact Nat.le_of_lt hb

set_option maxRecDepth 1000000 in
set_option maxHeartbeats 1000000 in
theorem near_aux {u : Value} {m G : Nat} (x : Int) (w : World) (hu : Num w u m) (hb : blen m ≤ 1280) (hx : x.natAbs ≤ 1000) (hG : near (m * 10 ^ x.toNat) (10 ^ (-x).toNat) = G) :
    Calls Tryd.prog 31 #[u, .int .i64 x] w fun e w' => e = .returned (.tuple #[.int .u64 (G : Nat), .int .i64 0]) ∧ Below w.heap.size w w' := by
  have HG := Lib.hid hG
  clear hG
  have hlm : ln m ≤ 40 := ln_blen hb
  obtain ⟨b, hbb⟩ : ∃ b, blen m = b := ⟨_, rfl⟩
  have L1 := fun (w' : World) (hw : Below w.heap.size w w') => len_num (hu.below hw) (by omega)
  rw [hbb] at hb
  simp only [hbb] at L1
  have h1 : ¬ ((1280 : Int) < (b : Int)) := by omega
  have h2 : ¬ (x < -1000) := by omega
  have h3 : ¬ (1000 < x) := by omega
  go_enter Tryd.func31, Tryd.ntmps31
  go_wp2_with fail
  refine (L1 _ (Below.refl _ _)).mono ?_
  rintro e w1 ⟨rfl, n1, rfl⟩
  have hb1 := below_drewN (Below.refl w.heap.size w) n1
  generalize w.drewN n1 = w1 at hb1 ⊢
  go_wp2_with fail
  refine (L1 _ hb1).mono ?_
  rintro e w2 ⟨rfl, n2, rfl⟩
  have hb2 := below_drewN hb1 n2
  generalize w1.drewN n2 = w2 at hb2 ⊢
  rcases Nat.eq_zero_or_pos m with h0 | h0
  · subst h0
    rw [blen_zero] at hbb
    subst hbb
    go_wp2_with fail
    go_ret2
    have hG := HG.out
    rw [Nat.zero_mul, near_zero] at hG
    subst hG
    exact ⟨rfl, hb2⟩
  · have hbp := blen_pos h0
    rw [hbb] at hbp
    have hbz : ((b : Int) == 0) = false := by simp; omega
    clear L1 hbp
    go_wp2_with fail
    refine (trim_num (hu.below hb2) (by omega)).mono ?_
    rintro e w3 ⟨t, rfl, ht, hft, hb3'⟩
    have hb3 := hb2.trans (hb3'.mono hb2.size)
    go_wp2_with fail
    refine (ratio_any x w3 hx ht (by omega)).mono ?_
    rintro e w4 ⟨p, q, rfl, hp, hq, hb4'⟩
    have hb4 := hb3.trans (hb4'.mono hb3.size)
    have hlp : ln (m * 10 ^ x.toNat) ≤ 200 := Nat.le_trans (ln_mul _ _) (by have := ln_ten x.toNat; omega)
    have hlq : ln (10 ^ (-x).toNat) ≤ 200 := Nat.le_trans (ln_ten _) (by omega)
    have hp0 : 0 < m * 10 ^ x.toNat := Nat.mul_pos h0 (Nat.pow_pos (by omega))
    have hq0 : 0 < 10 ^ (-x).toNat := Nat.pow_pos (by omega)
    obtain ⟨N, hN⟩ : ∃ N, m * 10 ^ x.toNat = N := ⟨_, rfl⟩
    obtain ⟨D, hD⟩ : ∃ D, 10 ^ (-x).toNat = D := ⟨_, rfl⟩
    rw [hN] at hlp hp hp0
    rw [hD] at hlq hq hq0
    obtain ⟨k, hk⟩ : ∃ k, k = blen N + 1021 - blen D := ⟨_, rfl⟩
    obtain ⟨hnear, hA, hC⟩ := near_by hp0 hq0 hk
    have S1 := fun (e : Int) (w' : World) (he : e = (k : Int) - 1074) (hw : Below w4.heap.size w4 w') (hk3 : k ≤ 3000) => scaled_at k e w' he (hp.below hw) (hq.below hw) hq0 (by omega) (by omega) hk3 (by omega)
    have S2 := fun (e : Int) (w' : World) (he : e = ((k + 1 : Nat) : Int) - 1074) (hw : Below w4.heap.size w4 w') (hk3 : k + 1 ≤ 3000) => scaled_at (k + 1) e w' he (hp.below hw) (hq.below hw) hq0 (by omega) (by omega) hk3 (by omega)
    have L1 := len_num hp (by omega)
    have L2 := fun (w' : World) (hw : Below w4.heap.size w4 w') => len_num (hq.below hw) (by omega)
    obtain ⟨A, hAA⟩ : ∃ A, rhe (N * one) (D * 2 ^ k) = A := ⟨_, rfl⟩
    obtain ⟨C, hCC⟩ : ∃ C, rhe (N * one) (D * 2 ^ (k + 1)) = C := ⟨_, rfl⟩
    simp only [hAA] at hA hnear S1
    simp only [hCC] at hC hnear S2
    clear hAA hCC
    have hGn : G = nearBy k A C := by rw [← HG.out, hN, hD]; exact hnear
    clear HG hnear hN hD hp hq hu ht hp0 hq0 h0
    obtain ⟨bn, hbn⟩ : ∃ bn, blen N = bn := ⟨_, rfl⟩
    obtain ⟨bd, hbd⟩ : ∃ bd, blen D = bd := ⟨_, rfl⟩
    have hbnl := blen_ln hlp
    have hbdl := blen_ln hlq
    rw [hbn] at L1 hk hbnl
    simp only [hbd] at L2 hk hbdl
    clear hbn hbd hbz h1 h2 h3
    obtain ⟨E, hE⟩ : ∃ E : Int, E = (k : Int) - 1074 := ⟨_, rfl⟩
    have hmax : max ((bn : Int) - bd - 53) (-1074) = E := by omega
    have HE := Lib.hid hE
    clear hE
    go_wp2_with fail
    refine L1.mono ?_
    rintro e w5 ⟨rfl, n5, rfl⟩
    have hb5 := below_drewN (Below.refl w4.heap.size w4) n5
    generalize w4.drewN n5 = w5 at hb5 ⊢
    go_wp2_with fail
    refine (L2 _ hb5).mono ?_
    rintro e w6 ⟨rfl, n6, rfl⟩
    have hb6 := below_drewN hb5 n6
    generalize w5.drewN n6 = w6 at hb6 ⊢
    have hw6 := hb4.trans (hb6.mono hb4.size)
    clear hb3' hb4' hb5 hb2
    have HK := Lib.hid hk
    have hE := HE.out
    clear hk
    unfold nearBy at hGn
    by_cases c1 : 2045 < k
    · rw [if_pos c1] at hGn
      have c1' : (971 : Int) < E := by omega
      clear hE
      replace hGn := Lib.hid hGn
      go_wp2_with fail
      go_ret2
      rw [hGn.out]
      exact ⟨rfl, hw6⟩
    · rw [if_neg c1] at hGn
      have c1' : ¬ (971 : Int) < E := by omega
      clear hE
      go_wp2_with fail
      refine (S1 E _ HE.out hb6 (by omega)).mono ?_
      rintro e w7 ⟨rfl, hb7'⟩
      have hb7 := hb6.trans (hb7'.mono hb6.size)
      by_cases c2 : 9007199254740992 ≤ A
      · rw [if_pos c2] at hGn
        have c2' : (9007199254740992 : Int) ≤ (A : Int) := by omega
        go_wp2_with fail
        refine (S2 (E + 1) _ (by have := HE.out; omega) hb7 (by omega)).mono ?_
        rintro e w8 ⟨rfl, hb8'⟩
        have hb8 := hb4.trans ((hb7.trans (hb8'.mono hb7.size)).mono hb4.size)
        by_cases c3 : C = 9007199254740992
        · rw [if_pos c3] at hGn
          subst c3
          by_cases c4 : 2044 < k + 1
          · rw [if_pos c4] at hGn
            have c4' : (971 : Int) < E + 1 + 1 := by have := HE.out; omega
            replace hGn := Lib.hid hGn
            go_wp2_with fail
            go_ret2
            rw [hGn.out]
            exact ⟨rfl, hb8⟩
          · rw [if_neg c4] at hGn
            have c4' : ¬ (971 : Int) < E + 1 + 1 := by have := HE.out; omega
            replace hGn := Lib.hid hGn
            go_wp2_with fail
            go_ret2
            rw [hGn.out]
            refine ⟨ret_num2 ?_ rfl, hb8⟩
            have := HE.out
            omega
        · rw [if_neg c3] at hGn
          have c3' : ((C : Int) == 9007199254740992) = false := by simp; omega
          by_cases c4 : 2044 < k
          · rw [if_pos c4] at hGn
            have c4' : (971 : Int) < E + 1 := by have := HE.out; omega
            replace hGn := Lib.hid hGn
            go_wp2_with fail
            go_ret2
            rw [hGn.out]
            exact ⟨rfl, hb8⟩
          · rw [if_neg c4] at hGn
            have c4' : ¬ (971 : Int) < E + 1 := by have := HE.out; omega
            by_cases c5 : C < 4503599627370496
            · rw [if_pos c5] at hGn
              have HA := Lib.hid hA; have HC := Lib.hid hC; have H5 := Lib.hid c5; have H1 := Lib.hid c1
              clear S1 S2 hA hC c5 c2 c1 L1 L2 c3 c4
              replace hGn := Lib.hid hGn
              go_upto_region 17 with (fail)
              obtain ⟨H, hH⟩ : ∃ H : Int, (4503599627370496 : Int) = H := ⟨_, rfl⟩
              rw [hH]
              have c5' : (C : Int) < H := by have := H5.out; omega
              have HH := Lib.hid hH
              clear hH
              go_wp2_with fail
              go_ret2
              rw [hGn.out]
              exact ⟨rfl, hb8⟩
            · rw [if_neg c5] at hGn
              have HA := Lib.hid hA; have HC := Lib.hid hC; have H5 := Lib.hid c5; have H1 := Lib.hid c1
              clear S1 S2 hA hC c5 c2 c1 L1 L2 c3 c4
              replace hGn := Lib.hid hGn
              go_upto_region 17 with (fail)
              obtain ⟨H, hH⟩ : ∃ H : Int, (4503599627370496 : Int) = H := ⟨_, rfl⟩
              rw [hH]
              have c5' : ¬ (C : Int) < H := by have := H5.out; omega
              have HH := Lib.hid hH
              clear hH
              go_wp2_with fail
              go_ret2
              rw [hGn.out]
              refine ⟨ret_num2 ?_ rfl, hb8⟩
              have := HE.out; have := HC.out; have := H5.out; have := H1.out
              rw [IntKind.wrap_u64, IntKind.wrap_u64]
              omega
      · rw [if_neg c2] at hGn
        have c2' : decide ((9007199254740992 : Int) ≤ (A : Int)) = false := by simp; omega
        have c3' : ((A : Int) == 9007199254740992) = false := by simp; omega
        have hb8 := hb4.trans (hb7.mono hb4.size)
        by_cases c5 : A < 4503599627370496
        · rw [if_pos c5] at hGn
          have HA := Lib.hid hA; have HC := Lib.hid hC; have H5 := Lib.hid c5; have H1 := Lib.hid c1
          clear S1 S2 hA hC c5 c2 c1 L1 L2
          replace hGn := Lib.hid hGn
          go_upto_region 17 with (fail)
          obtain ⟨H, hH⟩ : ∃ H : Int, (4503599627370496 : Int) = H := ⟨_, rfl⟩
          rw [hH]
          have c5' : (A : Int) < H := by have := H5.out; omega
          have HH := Lib.hid hH
          clear hH
          go_wp2_with fail
          go_ret2
          rw [hGn.out]
          exact ⟨rfl, hb8⟩
        · rw [if_neg c5] at hGn
          have HA := Lib.hid hA; have HC := Lib.hid hC; have H5 := Lib.hid c5; have H1 := Lib.hid c1
          clear S1 S2 hA hC c5 c2 c1 L1 L2
          replace hGn := Lib.hid hGn
          go_upto_region 17 with (fail)
          obtain ⟨H, hH⟩ : ∃ H : Int, (4503599627370496 : Int) = H := ⟨_, rfl⟩
          rw [hH]
          have c5' : ¬ (A : Int) < H := by have := H5.out; omega
          have HH := Lib.hid hH
          clear hH
          go_wp2_with fail
          go_ret2
          rw [hGn.out]
          refine ⟨ret_num2 ?_ rfl, hb8⟩
          have := HE.out; have := HA.out; have := H5.out; have := H1.out
          rw [IntKind.wrap_u64, IntKind.wrap_u64]
          omega
theorem near_any {u : Value} {m : Nat} (x : Int) (w : World) (hu : Num w u m) (hb : blen m ≤ 1280) (hx : x.natAbs ≤ 1000) :
    Calls Tryd.prog 31 #[u, .int .i64 x] w fun e w' => e = .returned (.tuple #[.int .u64 (near (m * 10 ^ x.toNat) (10 ^ (-x).toNat) : Nat), .int .i64 0]) ∧ Below w.heap.size w w' :=
  near_aux x w hu hb hx rfl
end Go.Proofs.YtfeeiipohfpdiaaDoor
