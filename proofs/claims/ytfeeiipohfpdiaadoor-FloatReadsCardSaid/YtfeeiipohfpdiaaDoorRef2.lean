/- Walks of the reference's numbers, base 10000: Plus, Against. -/
import Derived.Test.YtfeeiipohfpdiaaDoorRef1
namespace Go.Proofs.YtfeeiipohfpdiaaDoor
set_option linter.unusedVariables false
set_option linter.unusedSimpArgs false
open Go.RowKit

theorem getD_none {l : List Nat} {k : Nat} (h : l.length ≤ k) : l.getD k 0 = 0 := by rw [List.getD_eq_getElem?_getD, List.getElem?_eq_none h]; rfl

set_option maxRecDepth 100000 in
set_option maxHeartbeats 400000 in
theorem plus_list (a b : Option Addr) (ca cb : Nat) (la lb : List Nat) (w : World) (hma : la.length ≤ 1000000) (hmb : lb.length ≤ 1000000)
    (ha : Sl w (.slice a la.length ca) (ints .i64 la)) (hb : Sl w (.slice b lb.length cb) (ints .i64 lb)) (ga : Good 10000 la) (gb : Good 10000 lb) :
    Calls Tryd.prog 44 #[.slice a la.length ca, .slice b lb.length cb] w fun e w' => ∃ q, e = .returned q ∧ RNum w' q (val 10000 la + val 10000 lb) ∧ Fresh w q ∧ Below w.heap.size w w' := by
  obtain ⟨m, hm⟩ : ∃ m, m = max la.length lb.length := ⟨_, rfl⟩
  have hm1 : la.length ≤ m := by omega
  have hm2 : lb.length ≤ m := by omega
  have hm3 : m ≤ 1000000 := by omega
  clear hm
  have HA := Lib.hid ha; clear ha
  have HB := Lib.hid hb; clear hb
  go_enter Tryd.func44, Tryd.ntmps44
  go_wp2_with fail
  go_loopw [5, 6, 7] (fun out c i wr => ∃ k o cn, k ≤ m + 1 ∧ i = .int .i64 ((k : Nat) : Int) ∧ c = .int .i64 ((cn : Nat) : Int) ∧ cn ≤ 1 ∧ (k = m + 1 → cn = 0) ∧ wr.ownsRow w.heap.size 3 1 out k (ints .i64 o) ∧ o.length = k ∧ Good 10000 o ∧
      val 10000 o + cn * 10000 ^ k = val 10000 (la.take k) + val 10000 (lb.take k) ∧ Below w.heap.size w wr) (fun _ _ i _ => m + 1 - (intOf i).toNat)
  case atStart => exact ⟨0, [], 0, by omega, rfl, rfl, by omega, fun h => rfl, World.ownsRow_nil _ _ _ _, rfl, (fun x hx => nomatch hx), rfl, Below.refl _ _⟩
  case round =>
    obtain ⟨k, o, cn, hk, rfl, rfl, hcn, hlast, hrow, hol, hgo, hval, hbel⟩ := hrel
    have HV := Lib.hid hval; clear hval
    have HL := Lib.hid hol; clear hol
    have HLast := Lib.hid hlast; clear hlast
    have hbs := hbel.size
    by_cases hgo2 : k < la.length ∨ k < lb.length ∨ 0 < cn
    · have hkm : k ≤ m := by
        have := HLast.out
        omega
      have hx := good_getD (by omega) ga k
      have hy := good_getD (by omega) gb k
      have A1 := fun w' h => at_any a ca la k w' hma (by omega) h
      have A2 := fun w' h => at_any b cb lb k w' hmb (by omega) h
      have V1 := Lib.hid (val_take_getD (B := 10000) la k)
      have V2 := Lib.hid (val_take_getD (B := 10000) lb k)
      have Z1 := Lib.hid (getD_none (l := la) (k := k))
      have Z2 := Lib.hid (getD_none (l := lb) (k := k))
      generalize la.getD k 0 = x at *
      generalize lb.getD k 0 = y at *
      have hcases : k < la.length ∨ (¬ k < la.length ∧ k < lb.length) ∨ (¬ k < la.length ∧ ¬ k < lb.length ∧ 0 < cn) := by omega
      clear hgo2
      rcases hcases with h1 | ⟨h1, h2⟩ | ⟨h1, h2, h3⟩
      all_goals
        go_wp2_with fail
        refine (A1 _ (HA.out.below hbel)).mono ?_
        rintro e w' ⟨rfl, rfl⟩
        go_wp2_with fail
        refine (A2 _ (HB.out.below hbel)).mono ?_
        rintro e w' ⟨rfl, rfl⟩
        go_wp2_with (at_builtin; refine app_one rfl _ _ _ rfl rowInts w.heap.size (.int .i64 (((x + y + cn) % 10000 : Nat) : Int)) wr.heap.size (hrow.alloc _) rfl rfl (by simp; omega) rfl (by omega) (by omega) (by simp; omega) ?_; intro v' w2 hrow2 hgrow2)
        go_roundw
        case rel =>
          refine ⟨k + 1, o ++ [(x + y + cn) % 10000], (x + y + cn) / 10000, by omega, by go_num, by congr 1; omega, by omega, ?_, by rw [ints_append]; exact hrow2, by simp [HL.out], good_snoc hgo (Nat.mod_lt _ (by omega)), ?_, ?_⟩
          · intro h
            have := Z1.out (by omega)
            have := Z2.out (by omega)
            omega
          · rw [val_snoc, HL.out, V1.out, V2.out, Nat.pow_succ]
            exact sum_step rfl HV.out rfl rfl
          · exact (hbel.alloc hbs _).grown hgrow2 (by simp; omega) (fun j hj => (hrow.lt j hj).1)
        case measure => simp [intOf] <;> omega
    · have h1 : ¬ k < la.length := by omega
      have h2 : ¬ k < lb.length := by omega
      obtain rfl : cn = 0 := by omega
      clear hgo2
      go_wp2_with fail
      refine (cut_own _ (by omega) hrow HL.out hgo).mono ?_
      rintro e w' ⟨⟨q, rfl, hq, hqf⟩, rfl⟩
      go_wp2_with fail
      go_ret
      have hv := HV.out
      rw [List.take_of_length_le (by omega), List.take_of_length_le (by omega), Nat.zero_mul, Nat.add_zero] at hv
      rw [hv] at hq
      exact ⟨q, rfl, hq, hqf, hbel⟩
theorem plus_num {u v : Value} {m n : Nat} {w : World} (hu : RNum w u m) (hv : RNum w v n) (h1 : rl m ≤ 1000000) (h2 : rl n ≤ 1000000) :
    Calls Tryd.prog 44 #[u, v] w fun e w' => ∃ q, e = .returned q ∧ RNum w' q (m + n) ∧ Fresh w q ∧ Below w.heap.size w w' := by
  obtain ⟨a, ca, rfl, hu⟩ := hu.open
  obtain ⟨b, cb, rfl, hv⟩ := hv.open
  have := plus_list a b ca cb _ _ w (by unfold rl at h1; omega) (by unfold rl at h2; omega) hu hv (good_dig (by omega) m) (good_dig (by omega) n)
  rwa [val_dig (by omega), val_dig (by omega)] at this

theorem rval_take_lt {B : Nat} (hB : 0 < B) {l : List Nat} (g : Good B l) (j : Nat) : val B (l.take j) < B ^ j :=
  Nat.lt_of_lt_of_le (val_lt (good_take g j)) (Nat.pow_le_pow_right hB (List.length_take_le _ _))
theorem top_lt {P X Y x y Q : Nat} (hX : X < P) (h : x < y) : X + P * (x + Q) < Y + P * (y + Q) := by
  have : P * (x + Q) + P ≤ P * (y + Q) := by
    rw [← Nat.mul_succ]
    exact Nat.mul_le_mul_left _ (by omega)
  omega
theorem top_step {P X x U B : Nat} : X + P * x + P * B * U = X + P * (x + B * U) := by
  rw [Nat.mul_add, Nat.mul_assoc, Nat.add_assoc]

set_option maxRecDepth 100000 in
set_option maxHeartbeats 400000 in
theorem against_list (a b : Option Addr) (ca cb : Nat) (la lb : List Nat) (w : World) (hma : la.length ≤ 1000000) (hmb : lb.length ≤ 1000000)
    (ha : Sl w (.slice a la.length ca) (ints .i64 la)) (hb : Sl w (.slice b lb.length cb) (ints .i64 lb)) (ga : Good 10000 la) (gb : Good 10000 lb) :
    Calls Tryd.prog 41 #[.slice a la.length ca, .slice b lb.length cb] w fun e w' => e = .returned (.int .i64 (ord (val 10000 la) (val 10000 lb))) ∧ w = w' := by
  obtain ⟨O, hO⟩ : ∃ O, ord (val 10000 la) (val 10000 lb) = O := ⟨_, rfl⟩
  rw [hO]
  have HO := Lib.hid hO
  clear hO
  have HA := Lib.hid ha; clear ha
  have HB := Lib.hid hb; clear hb
  go_enter Tryd.func41, Tryd.ntmps41
  go_wp2_with fail
  all_goals
    go_loop [5] (fun i => ∃ j U, j ≤ 1000000 ∧ i = .int .i64 ((j : Nat) - 1 : Int) ∧ val 10000 la = val 10000 (la.take j) + 10000 ^ j * U ∧ val 10000 lb = val 10000 (lb.take j) + 10000 ^ j * U) (fun i => (intOf i + 1).toNat)
    case atStart =>
      refine ⟨max la.length lb.length, 0, by omega, ?_, by rw [List.take_of_length_le (by omega)]; simp, by rw [List.take_of_length_le (by omega)]; simp⟩
      congr 1; omega
    case round =>
      obtain ⟨j, U, hj, rfl, hv1, hv2⟩ := hrel
      have HV1 := Lib.hid hv1
      have HV2 := Lib.hid hv2
      clear hv1 hv2
      rcases j with _ | j
      · go_wp2_with fail
        go_ret
        refine ⟨ret_num ?_, rfl⟩
        have h1 := HV1.out
        have h2 := HV2.out
        rw [← HO.out, h1, h2, List.take_zero, List.take_zero, ord, if_neg (by omega), if_neg (by omega)]
      · have A1 := at_any a ca la j w hma (by omega) HA.out
        have A2 := at_any b cb lb j w hmb (by omega) HB.out
        have V1 := Lib.hid (val_take_getD (B := 10000) la j)
        have V2 := Lib.hid (val_take_getD (B := 10000) lb j)
        have X1 := rval_take_lt (by omega) ga j
        have X2 := rval_take_lt (by omega) gb j
        generalize la.getD j 0 = x at *
        generalize lb.getD j 0 = y at *
        have e1 : ((j + 1 : Nat) : Int) - 1 = (j : Int) := by omega
        rw [e1]
        clear e1
        rcases Nat.lt_trichotomy x y with h | h | h
        · have h1 : (x : Int) < (y : Int) := by omega
          have hR : O = -1 := by
            rw [← HO.out, HV1.out, HV2.out, V1.out, V2.out, Nat.pow_succ, top_step, top_step, ord, if_pos (top_lt X1 h)]
          subst hR
          clear X1 X2
          go_wp2_with fail
          refine A1.mono ?_
          rintro e w' ⟨rfl, rfl⟩
          go_wp2_with fail
          refine A2.mono ?_
          rintro e w' ⟨rfl, rfl⟩
          go_wp2_with fail
          go_ret
          exact ⟨rfl, rfl⟩
        · subst h
          have h1 : ¬ (x : Int) < (x : Int) := by omega
          clear X1 X2
          go_wp2_with fail
          refine A1.mono ?_
          rintro e w' ⟨rfl, rfl⟩
          go_wp2_with fail
          refine A2.mono ?_
          rintro e w' ⟨rfl, rfl⟩
          go_wp2_with fail
          refine A1.mono ?_
          rintro e w' ⟨rfl, rfl⟩
          go_wp2_with fail
          refine A2.mono ?_
          rintro e w' ⟨rfl, rfl⟩
          go_wp2_with fail
          go_round
          case rel =>
            refine ⟨j, x + 10000 * U, by omega, by first | rfl | go_num, ?_, ?_⟩
            · rw [HV1.out, V1.out, Nat.pow_succ, top_step]
            · rw [HV2.out, V2.out, Nat.pow_succ, top_step]
          case measure => simp [intOf]
        · have h1 : ¬ (x : Int) < (y : Int) := by omega
          have h2 : (y : Int) < (x : Int) := by omega
          have hR : O = 1 := by
            have := top_lt (Y := val 10000 (la.take j)) (Q := 10000 * U) X2 h
            rw [← HO.out, HV1.out, HV2.out, V1.out, V2.out, Nat.pow_succ, top_step, top_step, ord, if_neg (by omega), if_pos this]
          subst hR
          clear X1 X2
          go_wp2_with fail
          refine A1.mono ?_
          rintro e w' ⟨rfl, rfl⟩
          go_wp2_with fail
          refine A2.mono ?_
          rintro e w' ⟨rfl, rfl⟩
          go_wp2_with fail
          refine A1.mono ?_
          rintro e w' ⟨rfl, rfl⟩
          go_wp2_with fail
          refine A2.mono ?_
          rintro e w' ⟨rfl, rfl⟩
          go_wp2_with fail
          go_ret
          exact ⟨rfl, rfl⟩
theorem against_num {u v : Value} {m n : Nat} {w : World} (hu : RNum w u m) (hv : RNum w v n) (h1 : rl m ≤ 1000000) (h2 : rl n ≤ 1000000) :
    Calls Tryd.prog 41 #[u, v] w fun e w' => e = .returned (.int .i64 (ord m n)) ∧ w = w' := by
  obtain ⟨a, ca, rfl, hu⟩ := hu.open
  obtain ⟨b, cb, rfl, hv⟩ := hv.open
  have := against_list a b ca cb _ _ w (by unfold rl at h1; omega) (by unfold rl at h2; omega) hu hv (good_dig (by omega) m) (good_dig (by omega) n)
  rwa [val_dig (by omega), val_dig (by omega)] at this
end Go.Proofs.YtfeeiipohfpdiaaDoor
