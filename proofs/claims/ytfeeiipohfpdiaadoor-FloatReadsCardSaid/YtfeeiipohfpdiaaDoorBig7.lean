/- Walks of package big: shifts by less than a word. -/
import Derived.Test.YtfeeiipohfpdiaaDoorBig6
import Derived.Laws.ShiftsVarLaws
namespace Go.Proofs.YtfeeiipohfpdiaaDoor
set_option linter.unusedVariables false
set_option linter.unusedSimpArgs false
open Go.RowKit

theorem dig_of_len {o : List Nat} (g : Good 4294967296 o) (h : o.length = 0 ∨ 4294967296 ^ (o.length - 1) ≤ val 4294967296 o) : dig 4294967296 (val 4294967296 o) = o := by
  refine dig_val (by omega) g ?_
  intro x hx h0
  subst h0
  rcases snoc_cases o with rfl | ⟨d, y, rfl⟩
  · simp at hx
  · simp at hx
    subst hx
    rcases h with h | h
    · simp at h
    · have := val_lt (fun z hz => g z (List.mem_append_left _ hz) : Good 4294967296 d)
      rw [val_snoc] at h
      simp at h
      omega

theorem two_split {n : Nat} (hn : n ≤ 31) : 2 ^ (32 - n) * 2 ^ n = 4294967296 := by
  rw [← Nat.pow_add, show 32 - n + n = 32 from by omega]

theorem shl_parts {x n : Nat} (hn : n ≤ 31) : x * 2 ^ n = 4294967296 * (x / 2 ^ (32 - n)) + x * 2 ^ n % 4294967296 := by
  have h := two_split hn
  have hp : 0 < 2 ^ n := Nat.pow_pos (by omega)
  have e : x * 2 ^ n / 4294967296 = x / 2 ^ (32 - n) := by rw [← h, Nat.mul_comm x, Nat.mul_comm (2 ^ (32 - n)), Nat.mul_div_mul_left _ _ hp]
  rw [← e]
  exact (Nat.div_add_mod _ _).symm

theorem shl_mod {x n : Nat} (hn : n ≤ 31) : (x * 2 ^ n % 4294967296) % 2 ^ n = 0 := by
  have h := two_split hn
  rw [← h, Nat.mod_mul_left_mod, Nat.mul_mod_left]

theorem shl_lt {x n c : Nat} (hn : n ≤ 31) (hc : c < 2 ^ n) : x * 2 ^ n % 4294967296 + c < 4294967296 := by
  have h := two_split hn
  have h1 := shl_mod (x := x) hn
  have h2 := Nat.mod_lt (x * 2 ^ n) (show 0 < 4294967296 by omega)
  generalize x * 2 ^ n % 4294967296 = y at *
  have h3 := Nat.div_add_mod y (2 ^ n)
  rw [h1, Nat.add_zero] at h3
  have h4 : y / 2 ^ n < 2 ^ (32 - n) := by
    rw [Nat.div_lt_iff_lt_mul (Nat.pow_pos (by omega)), h]; exact h2
  have h5 := Nat.mul_le_mul_left (2 ^ n) (show y / 2 ^ n + 1 ≤ 2 ^ (32 - n) from h4)
  rw [Nat.mul_add, Nat.mul_comm (2 ^ n) (2 ^ (32 - n)), h] at h5
  omega

theorem shl_or {x n c : Nat} (hn : n ≤ 31) (hc : c < 2 ^ n) : bits BinOp.or IntKind.u32 ((x : Int) * 2 ^ n % 4294967296) (c : Int) = ((x * 2 ^ n % 4294967296 + c : Nat) : Int) := by
  have e : ((x : Int) * 2 ^ n % 4294967296) = ((x * 2 ^ n % 4294967296 : Nat) : Int) := by
    rw [Int.natCast_emod, Int.natCast_mul, Int.natCast_pow]; rfl
  have h := shl_lt (x := x) hn hc
  rw [e, u32_or_nat _ _ (Nat.mod_lt _ (by omega)) (by omega), nat_join n _ _ (shl_mod hn) hc]

theorem shr_lt {x n : Nat} (hx : x < 4294967296) (hn : n ≤ 31) : x / 2 ^ (32 - n) < 2 ^ n := by
  rw [Nat.div_lt_iff_lt_mul (Nat.pow_pos (by omega)), Nat.mul_comm, two_split hn]; exact hx

theorem shr_int {x n : Nat} (hx : x < 4294967296) (hn : n ≤ 31) : ((x : Int) / 2 ^ (32 - n) % 4294967296) = ((x / 2 ^ (32 - n) : Nat) : Int) := by
  have h : 2 ^ n ≤ 2 ^ 31 := Nat.pow_le_pow_right (by omega) hn
  have h2 := shr_lt hx hn
  have e : ((x : Int) / 2 ^ (32 - n)) = ((x / 2 ^ (32 - n) : Nat) : Int) := by
    rw [Int.natCast_ediv, Int.natCast_pow]; rfl
  rw [e]
  generalize x / 2 ^ (32 - n) = z at *
  omega

theorem left_step {B p x n c y c' vo va : Nat} (hs : x * 2 ^ n = B * c' + y) (h : vo + c * p = va * 2 ^ n) :
    vo + p * (y + c) + c' * (p * B) = (va + p * x) * 2 ^ n := by
  rw [Nat.add_mul, ← h, Nat.mul_assoc, hs, Nat.mul_add, Nat.mul_add, Nat.mul_comm c p, ← Nat.mul_assoc p B c', Nat.mul_comm (p * B) c']
  omega

set_option maxRecDepth 100000 in
set_option maxHeartbeats 400000 in
theorem left_any (a : Option Addr) (ca : Nat) (m n : Nat) (w : World) (la : List Nat) (hla : dig 4294967296 m = la) (hma : la.length ≤ 1000000) (hn : n ≤ 31)
    (ha : Sl w (.slice a la.length ca) (ints .u32 la)) :
    Calls Tryd.prog 84 #[.slice a la.length ca, .int .i64 ((n : Nat) : Int)] w fun e w' => ∃ v, e = .returned v ∧ w'.ownsRow w.heap.size 76 1 v (dig 4294967296 (m * 2 ^ n)).length (ints .u32 (dig 4294967296 (m * 2 ^ n))) ∧ Below w.heap.size w w' := by
  have HA := Lib.hid ha; clear ha
  have HLA := Lib.hid hla; clear hla
  go_enter Tryd.func84, Tryd.ntmps84
  go_wp2_with (at_make; refine mk_row rfl _ _ _ rfl rowWords rfl .i64 .i64 _ _ 0 (la.length + 2) rfl rfl rfl (by omega) (by omega) (by omega) (by omega) ?_; intro w1 hblk hb1 hsz1)
  have hown : w1.ownsRow w.heap.size 76 1 (.slice (some ⟨w.heap.size, 0, none⟩) 0 (la.length + 2)) 0 [] := hblk.owns (Nat.le_refl _) (by omega) (by unfold maxLen; omega) (by simp)
  clear hblk
  go_loopw [5, 6, 15] (fun out c i wr => ∃ k o cn, k ≤ la.length ∧ i = .int .i64 ((k : Nat) : Int) ∧ c = .int .u32 ((cn : Nat) : Int) ∧ cn < 2 ^ n ∧ wr.ownsRow w.heap.size 76 1 out k (ints .u32 o) ∧ o.length = k ∧ Good 4294967296 o ∧
      val 4294967296 o + cn * 4294967296 ^ k = val 4294967296 (la.take k) * 2 ^ n ∧ Below w.heap.size w wr) (fun _ _ i _ => la.length - (intOf i).toNat)
  case atStart => exact ⟨0, [], 0, by omega, rfl, rfl, Nat.pow_pos (by omega), hown, rfl, (fun x hx => nomatch hx), by simp [val], hb1⟩
  case round =>
    obtain ⟨k, o, cn, hk, rfl, rfl, hcn, hrow, hol, hgo, hval, hbel⟩ := hrel
    have HV := Lib.hid hval; clear hval
    have HL := Lib.hid hol; clear hol
    have hbs := hbel.size
    by_cases hlt : k < la.length
    · obtain ⟨x, hx⟩ : ∃ x, la[k]? = some x := ⟨la[k], List.getElem?_eq_getElem hlt⟩
      have gx : x < 4294967296 := good_get (by rw [← HLA.out]; exact good_dig (by omega) m) hx
      obtain ⟨b1, off1, rfl, -, hc1, hc2, -, hcell⟩ := (HA.out.below hbel).at (ints_get hx)
      have HX := Lib.hid hx; clear hx
      go_wp2_with (at_builtin; refine app_one rfl _ _ _ rfl rowWords w.heap.size _ wr.heap.size (hrow.alloc _) rfl rfl (cell_one _ _ _) rfl (by omega) (by omega) (by simp; omega) ?_; intro v' w2 hrow2 hgrow2)
      go_roundw
      case rel =>
        rw [shl_or hn hcn] at hrow2
        rw [shr_int gx hn]
        refine ⟨k + 1, o ++ [x * 2 ^ n % 4294967296 + cn], x / 2 ^ (32 - n), by omega, by go_num, rfl, shr_lt gx hn, by rw [ints_append]; exact hrow2, by simp [HL.out], good_snoc hgo (shl_lt hn hcn), ?_, ?_⟩
        · rw [val_snoc, HL.out, val_take_succ HX.out, Nat.pow_succ]
          exact left_step (shl_parts hn) HV.out
        · exact (hbel.alloc hbs _).grown hgrow2 (by simp; omega) (fun j hj => (hrow.lt j hj).1)
      case measure => simp [intOf] <;> omega
    · obtain rfl : k = la.length := by omega
      have hv := HV.out
      rw [List.take_length, ← HLA.out, val_dig (by omega)] at hv
      rw [HLA.out] at hv
      have hv2 := Lib.hid hv
      clear hv
      have hpow : la.length = 0 ∨ 4294967296 ^ (la.length - 1) ≤ m * 2 ^ n := by
        rcases Nat.eq_zero_or_pos m with h0 | h0
        · left; rw [← HLA.out, h0, dig_zero]; rfl
        · right
          have h1 := pow_le_of_dig (B := 4294967296) (by omega) h0
          rw [HLA.out] at h1
          exact Nat.le_trans h1 (Nat.le_mul_of_pos_right m (Nat.pow_pos (by omega)))
      have HP := Lib.hid hpow; clear hpow
      have h2n : 2 ^ n ≤ 2 ^ 31 := Nat.pow_le_pow_right (by omega) hn
      go_wp2_with (at_builtin; refine app_one rfl _ _ _ rfl rowWords w.heap.size _ wr.heap.size (hrow.alloc _) rfl rfl (cell_one _ _ _) rfl (by omega) (by omega) (by simp; omega) ?_; intro v' w2 hrow2 hgrow2)
      · have hpos : 0 < cn := by assumption
        go_ret
        have g2 := good_snoc hgo (show cn < 4294967296 by omega)
        have hval : val 4294967296 (o ++ [cn]) = m * 2 ^ n := by rw [val_snoc, HL.out, Nat.mul_comm]; exact hv2.out
        have hd : dig 4294967296 (m * 2 ^ n) = o ++ [cn] := by
          rw [← hval]
          refine dig_of_len g2 (.inr ?_)
          rw [val_snoc]
          simp only [List.length_append, List.length_cons, List.length_nil, Nat.zero_add, Nat.add_sub_cancel]
          have := Nat.le_mul_of_pos_right (4294967296 ^ o.length) hpos
          omega
        rw [hd]
        refine ⟨v', rfl, ?_, (hbel.alloc hbs _).grown hgrow2 (by simp; omega) (fun j hj => (hrow.lt j hj).1)⟩
        rw [ints_append, List.length_append, HL.out]
        exact hrow2
      · have hpos : ¬ 0 < cn := by assumption
        obtain rfl : cn = 0 := by omega
        go_ret
        have hval : val 4294967296 o = m * 2 ^ n := by rw [← hv2.out]; omega
        have hd : dig 4294967296 (m * 2 ^ n) = o := by
          rw [← hval]
          refine dig_of_len hgo ?_
          rw [HL.out, hval]
          exact HP.out
        rw [hd]
        refine ⟨u5, rfl, ?_, hbel⟩
        rw [HL.out]
        exact hrow
end Go.Proofs.YtfeeiipohfpdiaaDoor
