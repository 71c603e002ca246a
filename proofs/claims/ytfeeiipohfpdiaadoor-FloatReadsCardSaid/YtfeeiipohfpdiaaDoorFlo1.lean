/- Walks of package float: nat, ratio, scaled. -/
import Derived.Test.YtfeeiipohfpdiaaDoorBig17
import Derived.Deep.Cut
namespace Go.Proofs.YtfeeiipohfpdiaaDoor
set_option linter.unusedVariables false
set_option linter.unusedSimpArgs false
open Go.RowKit

theorem below_drewN {B : Nat} {a w : World} (h : Below B a w) (n : Nat) : Below B a (w.drewN n) := ⟨h.os, h.tape, h.output, h.size, h.block⟩

theorem sl_two (w : World) (m n : Nat) : Sl (w.alloc (.cells #[.int .u32 ((m : Nat) : Int), .int .u32 ((n : Nat) : Int)] 76)) (.slice (some ⟨w.heap.size, 0, none⟩) 2 2) (ints .u32 [m, n]) :=
  (Blk.new w [.int .u32 (m : Int), .int .u32 (n : Int)] 76).sl (by simp [ints]) (by omega) (by unfold maxLen; omega) (by intro i u h; simpa [ints] using h)

set_option maxRecDepth 1000000 in
theorem nat_any (n : Nat) (w : World) (hn : n < 18446744073709551616) :
    Calls Tryd.prog 35 #[.int .u64 ((n : Nat) : Int)] w fun e w' => ∃ q, e = .returned q ∧ Num w' q n ∧ Fresh w q ∧ Below w.heap.size w w' := by
  go_enter Tryd.func35, Tryd.ntmps35
  have hv : val 4294967296 [n % 4294967296, n / 4294967296] = n := by simp [val]; omega
  have ht := trim_any (some ⟨w.heap.size, 0, none⟩) 2 [n % 4294967296, n / 4294967296] _ (by simp) (sl_two w _ _) (fun x hx => by simp at hx; omega)
  rw [hv] at ht
  have h1 : ((n % 4294967296 : Nat) : Int) = (n : Int) % 4294967296 := by omega
  have h2 : ((n / 4294967296 : Nat) : Int) = (n : Int) / 4294967296 := by omega
  have h3 : (n : Int) / 4294967296 % 4294967296 = (n : Int) / 4294967296 := by omega
  rw [h1, h2] at ht
  have HT := Lib.hid ht
  clear ht hv h1 h2
  go_wp2_with (go_at_call 77; refine HT.out.mono ?_; rintro e w1 ⟨v, rfl, hrv, hfv, hb1⟩)
  go_ret
  exact ⟨v, rfl, hrv, hfv.later (by simp), ((Below.refl _ w).alloc (Nat.le_refl _) _).trans (hb1.mono (by simp))⟩

set_option maxRecDepth 1000000 in
theorem ratio_any {u : Value} {m : Nat} (e : Int) (w : World) (he : e.natAbs ≤ 1000) (hu : Num w u m) (hm : ln m ≤ 500) :
    Calls Tryd.prog 76 #[u, .int .i64 e] w fun x w' => ∃ p q, x = .returned (.tuple #[p, q]) ∧ Num w' p (m * 10 ^ e.toNat) ∧ Num w' q (10 ^ (-e).toNat) ∧ Below w.heap.size w w' := by
  by_cases h0 : e < 0
  · obtain ⟨n, rfl⟩ : ∃ n : Nat, e = -(n : Int) := ⟨e.natAbs, by omega⟩
    have e1 : (-(n : Int)).toNat = 0 := by omega
    have e2 : (- -(n : Int)).toNat = n := by omega
    have e3 : - -(n : Int) = (n : Int) := by omega
    have hl := ln_ten n
    rw [e1, e2, Nat.pow_zero, Nat.mul_one]
    go_enter Tryd.func76, Tryd.ntmps76
    go_wp2_with fail
    refine (pow_any 10 n w (by omega) (by omega) (by omega) (by omega)).mono ?_
    rintro e w1 ⟨q, rfl, hq, hfq, hbq⟩
    go_wp2_with fail
    go_ret2
    exact ⟨u, q, rfl, hu.below hbq, hq, hbq⟩
  · obtain ⟨n, rfl⟩ : ∃ n : Nat, e = (n : Int) := ⟨e.natAbs, by omega⟩
    have e1 : ((n : Int)).toNat = n := by omega
    have e2 : (-(n : Int)).toNat = 0 := by omega
    have hl := ln_ten n
    rw [e1, e2, Nat.pow_zero]
    go_enter Tryd.func76, Tryd.ntmps76
    go_wp2_with fail
    refine (pow_any 10 n w (by omega) (by omega) (by omega) (by omega)).mono ?_
    rintro e w1 ⟨q, rfl, hq, hfq, hbq⟩
    go_wp2_with fail
    refine (mul_num (hu.below hbq) hq (by omega) (by omega)).mono ?_
    rintro e w2 ⟨q2, rfl, hq2, hfq2, hbq2⟩
    go_wp2_with fail
    go_ret2
    have hb2 := hbq.trans (hbq2.mono hbq.size)
    exact ⟨q2, _, rfl, hq2.alloc _, num_one w2, hb2.alloc hb2.size _⟩

theorem wraps_u64' (n : Int) (h₀ : 0 ≤ n) (h₁ : n < 2 ^ 64) : IntKind.u64.wrap n = n := by rw [IntKind.wrap_u64]; omega
theorem one_u64 {k : Nat} (hk : k < 18446744073709551616) : bits BinOp.and .u64 ((k : Nat) : Int) 1 = ((k % 2 : Nat) : Int) := by
  have h := bits_mask .u64 64 (by decide) wraps_u64' 1 (by decide) (k : Int) (by omega) (by omega)
  rw [show ((2 : Int) ^ 1 - 1) = 1 by decide] at h
  rw [h]
  omega

set_option maxRecDepth 1000000 in
theorem scaled_pos {u v : Value} {m n : Nat} (k : Nat) (w : World) (hu : Num w u m) (hv : Num w v n) (hn : 0 < n) (h1 : ln m ≤ 1000) (h2 : ln n ≤ 1000) (hk : k ≤ 2000) (hlt : rhe m (n * 2 ^ k) < 18446744073709551616) :
    Calls Tryd.prog 78 #[u, v, .int .i64 ((k : Nat) : Int)] w fun x w' => x = .returned (.int .u64 (rhe m (n * 2 ^ k) : Nat)) ∧ Below w.heap.size w w' := by
  have hd : 0 < n * 2 ^ k := Nat.mul_pos hn (Nat.pow_pos (by omega))
  have hl : ln (n * 2 ^ k) ≤ 1100 := Nat.le_trans (ln_mul _ _) (by have := ln_two k; omega)
  have sh := shift_num (n := k) hv (by omega) (by omega)
  obtain ⟨d, hdd⟩ : ∃ d, n * 2 ^ k = d := ⟨_, rfl⟩
  rw [hdd] at hl hd hlt sh ⊢
  clear hdd h2 hk hn
  have h0 : ¬ ((k : Int) < 0) := by omega
  have hu' := fun w1 (hb : Below w.heap.size w w1) => hu.below hb
  go_enter Tryd.func78, Tryd.ntmps78
  go_wp2_with fail
  refine sh.mono ?_
  rintro e w1 ⟨q, rfl, hY, hfq, hb1⟩
  have hX := hu' w1 hb1
  have h2 := hl
  clear hu' hu hv sh hl
  have hq := ln_div m d
  have hr := ln_mod m d
  have hrr := ln_add (m % d) (m % d)
  go_wp2_with fail
  refine (divMod_num hX hY (by omega) (by omega) hd).mono ?_
  rintro e w2 ⟨Q, R, rfl, hQ, hR, hfQ, hfR, hb2⟩
  have hbs := hb1.trans (hb2.mono hb1.size)
  obtain ⟨a, ca, rfl, hQ⟩ := hQ.open
  have hqlt : m / d < 18446744073709551616 := Nat.lt_of_le_of_lt (by unfold rhe; split <;> omega) hlt
  have hlq : ln (m / d) ≤ 2 := ln_le (Nat.lt_of_lt_of_le hqlt (by decide))
  unfold ln at hlq
  go_wp2_with fail
  obtain ⟨l, hl⟩ : ∃ l, dig 4294967296 (m / d) = l := ⟨_, rfl⟩
  have hvl : val 4294967296 l = m / d := by rw [← hl]; exact val_dig (by omega) _
  have gl : Good 4294967296 l := by rw [← hl]; exact good_dig (by omega) _
  rw [hl] at hlq hQ ⊢
  unfold Num at hQ
  rw [hl] at hQ
  have HQ := Lib.hid hQ
  have HVL := Lib.hid hvl
  clear hl hQ hvl
  go_loop [10, 11] (fun o i => ∃ j, j ≤ l.length ∧ i = .int .i64 ((j : Nat) - 1 : Int) ∧ o = .int .u64 ((val 4294967296 (l.drop j) : Nat) : Int)) (fun _ i => (intOf i + 1).toNat)
  case atStart => exact ⟨l.length, Nat.le_refl _, rfl, by rw [List.drop_of_length_le (Nat.le_refl _)]; rfl⟩
  case round =>
    obtain ⟨j, hj, rfl, rfl⟩ := hrel
    rcases j with _ | j
    · rw [List.drop_zero, HVL.out]
      have HT : rhe m d = if d < 2 * (m % d) ∨ (2 * (m % d) = d ∧ m / d % 2 = 1) then m / d + 1 else m / d := rfl
      have hlt2 : m / d + 1 < 18446744073709551616 ∨ rhe m d = m / d := by
        unfold rhe at hlt ⊢
        split at hlt
        · exact .inl hlt
        · right; rw [if_neg (by assumption)]
      obtain ⟨T, hT⟩ : ∃ T, m / d = T := ⟨_, rfl⟩
      obtain ⟨r, hr⟩ : ∃ r, m % d = r := ⟨_, rfl⟩
      obtain ⟨G, hG⟩ : ∃ G, rhe m d = G := ⟨_, rfl⟩
      rw [hT, hr, hG] at HT
      rw [hT, hG] at hlt2
      rw [hT] at hqlt ⊢
      rw [hr] at hR hrr
      have HG := Lib.hid hG
      have hlr : ln r ≤ 1100 := by rw [← hr]; omega
      replace HT := Lib.hid HT
      clear hT hr hlt hG HVL
      have hone := one_u64 hqlt
      go_wp2_with fail
      refine (add_num hR hR (by omega) (by omega)).mono ?_
      rintro e w3 ⟨z, rfl, hz, hfz, hb3⟩
      go_wp2_with fail
      refine (cmp_num hz (hY.below (hb2.trans (hb3.mono hb2.size))) (by omega) (by omega)).mono ?_
      rintro e w4 ⟨rfl, nq, rfl⟩
      have hbe : Below w.heap.size w (w3.drewN nq) := below_drewN (hbs.trans (hb3.mono hbs.size)) _
      rcases Nat.lt_trichotomy (r + r) d with ho | ho | ho
      · have ho2 : ord (r + r) d = -1 := by unfold ord; rw [if_pos ho]
        rw [ho2]
        clear hlt2
        go_wp2_with fail
        go_ret
        refine ⟨ret_num ?_, hbe⟩
        rw [HG.out, HT.out, if_neg (by omega)]
      · have ho2 : ord (r + r) d = 0 := by unfold ord; rw [if_neg (by omega), if_neg (by omega)]
        rw [ho2]
        rcases Nat.mod_two_eq_zero_or_one T with he | he
        · rw [he] at hone
          clear hlt2
          go_wp2_with fail
          go_ret
          refine ⟨ret_num ?_, hbe⟩
          rw [HG.out, HT.out, if_neg (by omega)]
        · rw [he] at hone
          have hT1 : T + 1 < 18446744073709551616 := by
            have := HT.out
            rw [if_pos (by omega)] at this
            omega
          clear hlt2
          go_wp2_with fail
          go_ret
          refine ⟨ret_num ?_, hbe⟩
          rw [HG.out, HT.out, if_pos (by omega)]
          rfl
      · have ho2 : ord (r + r) d = 1 := by unfold ord; rw [if_neg (by omega), if_pos ho]
        rw [ho2]
        have hT1 : T + 1 < 18446744073709551616 := by
          have := HT.out
          rw [if_pos (by omega)] at this
          omega
        clear hlt2
        go_wp2_with fail
        go_ret
        refine ⟨ret_num ?_, hbe⟩
        rw [HG.out, HT.out, if_pos (by omega)]
        rfl
    · obtain ⟨x, hx⟩ : ∃ x, l[j]? = some x := ⟨l[j], List.getElem?_eq_getElem (by omega)⟩
      have gx := good_get gl hx
      obtain ⟨b1, off1, rfl, -, hc1, hc2, -, hcell⟩ := HQ.out.at (ints_get hx)
      obtain ⟨V, hV⟩ : ∃ V, val 4294967296 (l.drop (j + 1)) = V := ⟨_, rfl⟩
      have hVlt : V < 4294967296 := by
        rw [← hV]
        have h3 := val_lt (good_drop gl (j + 1))
        refine Nat.lt_of_lt_of_le h3 ?_
        exact Nat.le_trans (Nat.pow_le_pow_right (by omega) (show (l.drop (j + 1)).length ≤ 1 by rw [List.length_drop]; omega)) (by omega)
      have hvd := val_drop (B := 4294967296) hx
      rw [hV] at hvd ⊢
      have hor := or_two hVlt gx
      have hsh : ((V : Int) * 4294967296) % 18446744073709551616 = (V : Int) * 4294967296 := by omega
      have HVD := Lib.hid hvd
      clear hvd hV hx
      go_wp2_with fail
      refine ⟨⟨j, by omega, rfl, ?_⟩, by simp [intOf] <;> omega⟩
      rw [HVD.out]
      congr 1
      omega
set_option maxRecDepth 1000000 in
theorem scaled_neg {u v : Value} {m n : Nat} (k : Nat) (w : World) (hu : Num w u m) (hv : Num w v n) (hn : 0 < n) (h1 : ln m ≤ 1000) (h2 : ln n ≤ 1000) (hk : k ≤ 2000) (hk0 : 0 < k) (hlt : rhe (m * 2 ^ k) n < 18446744073709551616) :
    Calls Tryd.prog 78 #[u, v, .int .i64 (-((k : Nat) : Int))] w fun x w' => x = .returned (.int .u64 (rhe (m * 2 ^ k) n : Nat)) ∧ Below w.heap.size w w' := by
  have hl : ln (m * 2 ^ k) ≤ 1100 := Nat.le_trans (ln_mul _ _) (by have := ln_two k; omega)
  have sh := shift_num (n := k) hu (by omega) (by omega)
  obtain ⟨m2, hdd⟩ : ∃ m2, m * 2 ^ k = m2 := ⟨_, rfl⟩
  rw [hdd] at hl hlt sh ⊢
  clear hdd h1
  obtain ⟨E, hE⟩ : ∃ E, -((k : Nat) : Int) = E := ⟨_, rfl⟩
  have h0 : E < 0 := by omega
  have h00 : -E = (k : Int) := by omega
  have hw : IntKind.i64.wrap (k : Int) = (k : Int) := by rw [IntKind.wrap_i64]; omega
  rw [hE]
  clear hE
  have hu' := fun w1 (hb : Below w.heap.size w w1) => hv.below hb
  go_enter Tryd.func78, Tryd.ntmps78
  go_wp2_with fail
  refine sh.mono ?_
  rintro e w1 ⟨q, rfl, hX, hfq, hb1⟩
  have hY := hu' w1 hb1
  have h1 := hl
  have hd := hn
  clear hu' hu hv sh hl hn
  have hq := ln_div m2 n
  have hr := ln_mod m2 n
  have hrr := ln_add (m2 % n) (m2 % n)
  go_wp2_with fail
  refine (divMod_num hX hY (by omega) (by omega) hd).mono ?_
  rintro e w2 ⟨Q, R, rfl, hQ, hR, hfQ, hfR, hb2⟩
  have hbs := hb1.trans (hb2.mono hb1.size)
  obtain ⟨a, ca, rfl, hQ⟩ := hQ.open
  have hqlt : m2 / n < 18446744073709551616 := Nat.lt_of_le_of_lt (by unfold rhe; split <;> omega) hlt
  have hlq : ln (m2 / n) ≤ 2 := ln_le (Nat.lt_of_lt_of_le hqlt (by decide))
  unfold ln at hlq
  go_wp2_with fail
  obtain ⟨l, hl⟩ : ∃ l, dig 4294967296 (m2 / n) = l := ⟨_, rfl⟩
  have hvl : val 4294967296 l = m2 / n := by rw [← hl]; exact val_dig (by omega) _
  have gl : Good 4294967296 l := by rw [← hl]; exact good_dig (by omega) _
  rw [hl] at hlq hQ ⊢
  unfold Num at hQ
  rw [hl] at hQ
  have HQ := Lib.hid hQ
  have HVL := Lib.hid hvl
  clear hl hQ hvl
  go_loop [10, 11] (fun o i => ∃ j, j ≤ l.length ∧ i = .int .i64 ((j : Nat) - 1 : Int) ∧ o = .int .u64 ((val 4294967296 (l.drop j) : Nat) : Int)) (fun _ i => (intOf i + 1).toNat)
  case atStart => exact ⟨l.length, Nat.le_refl _, rfl, by rw [List.drop_of_length_le (Nat.le_refl _)]; rfl⟩
  case round =>
    obtain ⟨j, hj, rfl, rfl⟩ := hrel
    rcases j with _ | j
    · rw [List.drop_zero, HVL.out]
      have HT : rhe m2 n = if n < 2 * (m2 % n) ∨ (2 * (m2 % n) = n ∧ m2 / n % 2 = 1) then m2 / n + 1 else m2 / n := rfl
      have hlt2 : m2 / n + 1 < 18446744073709551616 ∨ rhe m2 n = m2 / n := by
        unfold rhe at hlt ⊢
        split at hlt
        · exact .inl hlt
        · right; rw [if_neg (by assumption)]
      obtain ⟨T, hT⟩ : ∃ T, m2 / n = T := ⟨_, rfl⟩
      obtain ⟨r, hr⟩ : ∃ r, m2 % n = r := ⟨_, rfl⟩
      obtain ⟨G, hG⟩ : ∃ G, rhe m2 n = G := ⟨_, rfl⟩
      rw [hT, hr, hG] at HT
      rw [hT, hG] at hlt2
      rw [hT] at hqlt ⊢
      rw [hr] at hR hrr
      have HG := Lib.hid hG
      have hlr : ln r ≤ 1100 := by rw [← hr]; omega
      replace HT := Lib.hid HT
      clear hT hr hlt hG HVL
      have hone := one_u64 hqlt
      go_wp2_with fail
      refine (add_num hR hR (by omega) (by omega)).mono ?_
      rintro e w3 ⟨z, rfl, hz, hfz, hb3⟩
      go_wp2_with fail
      refine (cmp_num hz (hY.below (hb2.trans (hb3.mono hb2.size))) (by omega) (by omega)).mono ?_
      rintro e w4 ⟨rfl, nq, rfl⟩
      have hbe : Below w.heap.size w (w3.drewN nq) := below_drewN (hbs.trans (hb3.mono hbs.size)) _
      rcases Nat.lt_trichotomy (r + r) n with ho | ho | ho
      · have ho2 : ord (r + r) n = -1 := by unfold ord; rw [if_pos ho]
        rw [ho2]
        clear hlt2
        go_wp2_with fail
        go_ret
        refine ⟨ret_num ?_, hbe⟩
        rw [HG.out, HT.out, if_neg (by omega)]
      · have ho2 : ord (r + r) n = 0 := by unfold ord; rw [if_neg (by omega), if_neg (by omega)]
        rw [ho2]
        rcases Nat.mod_two_eq_zero_or_one T with he | he
        · rw [he] at hone
          clear hlt2
          go_wp2_with fail
          go_ret
          refine ⟨ret_num ?_, hbe⟩
          rw [HG.out, HT.out, if_neg (by omega)]
        · rw [he] at hone
          have hT1 : T + 1 < 18446744073709551616 := by
            have := HT.out
            rw [if_pos (by omega)] at this
            omega
          clear hlt2
          go_wp2_with fail
          go_ret
          refine ⟨ret_num ?_, hbe⟩
          rw [HG.out, HT.out, if_pos (by omega)]
          rfl
      · have ho2 : ord (r + r) n = 1 := by unfold ord; rw [if_neg (by omega), if_pos ho]
        rw [ho2]
        have hT1 : T + 1 < 18446744073709551616 := by
          have := HT.out
          rw [if_pos (by omega)] at this
          omega
        clear hlt2
        go_wp2_with fail
        go_ret
        refine ⟨ret_num ?_, hbe⟩
        rw [HG.out, HT.out, if_pos (by omega)]
        rfl
    · obtain ⟨x, hx⟩ : ∃ x, l[j]? = some x := ⟨l[j], List.getElem?_eq_getElem (by omega)⟩
      have gx := good_get gl hx
      obtain ⟨b1, off1, rfl, -, hc1, hc2, -, hcell⟩ := HQ.out.at (ints_get hx)
      obtain ⟨V, hV⟩ : ∃ V, val 4294967296 (l.drop (j + 1)) = V := ⟨_, rfl⟩
      have hVlt : V < 4294967296 := by
        rw [← hV]
        have h3 := val_lt (good_drop gl (j + 1))
        refine Nat.lt_of_lt_of_le h3 ?_
        exact Nat.le_trans (Nat.pow_le_pow_right (by omega) (show (l.drop (j + 1)).length ≤ 1 by rw [List.length_drop]; omega)) (by omega)
      have hvd := val_drop (B := 4294967296) hx
      rw [hV] at hvd ⊢
      have hor := or_two hVlt gx
      have hsh : ((V : Int) * 4294967296) % 18446744073709551616 = (V : Int) * 4294967296 := by omega
      have HVD := Lib.hid hvd
      clear hvd hV hx
      go_wp2_with fail
      refine ⟨⟨j, by omega, rfl, ?_⟩, by simp [intOf] <;> omega⟩
      rw [HVD.out]
      congr 1
      omega
end Go.Proofs.YtfeeiipohfpdiaaDoor
