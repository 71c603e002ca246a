/- Walks of package big: sums. -/
import Derived.Test.YtfeeiipohfpdiaaDoorBig1
import Derived.Test.YtfeeiipohfpdiaaDoorLaw
namespace Go.Proofs.YtfeeiipohfpdiaaDoor
set_option linter.unusedVariables false
set_option linter.unusedSimpArgs false
open Go.RowKit

theorem rowWords : RowTy Tryd.prog 66 76 (.int .u32 0) 4 := ⟨Tryd.underlying66, by kernel_rfl, rfl⟩

set_option maxRecDepth 100000 in
set_option maxHeartbeats 400000 in
theorem add32_any (x y c : Nat) (w : World) (hx : x < 4294967296) (hy : y < 4294967296) (hc : c ≤ 1) :
    Calls Tryd.prog 130 #[.int .u32 x, .int .u32 y, .int .u32 c] w fun e w' => e = .returned (.tuple #[.int .u32 ((x + y + c) % 4294967296 : Nat), .int .u32 ((x + y + c) / 4294967296 : Nat)]) ∧ w = w' := by
  go_enter Tryd.func130, Tryd.ntmps130
  go_wp2
  go_ret2
  exact ⟨ret_num2 (by omega) (by omega), rfl⟩

theorem val_take_succ {B : Nat} {l : List Nat} {k x : Nat} (h : l[k]? = some x) : val B (l.take (k + 1)) = val B (l.take k) + B ^ k * x := by
  have hl : k < l.length := (List.getElem?_eq_some_iff.1 h).1
  rw [List.take_add_one, h, val_append]
  simp only [Option.toList_some, val, Nat.mul_zero, Nat.add_zero, List.length_take]
  rw [Nat.min_eq_left (by omega)]
theorem val_snoc (B : Nat) (l : List Nat) (x : Nat) : val B (l ++ [x]) = val B l + B ^ l.length * x := by rw [val_append]; simp [val]
theorem good_snoc {B : Nat} {l : List Nat} {x : Nat} (h : Good B l) (hx : x < B) : Good B (l ++ [x]) := by
  intro y hy
  rcases List.mem_append.1 hy with hy | hy
  · exact h y hy
  · simp at hy; omega
theorem good_get {B : Nat} {l : List Nat} {k x : Nat} (h : Good B l) (hx : l[k]? = some x) : x < B := h x (List.mem_of_getElem? hx)

/-- what a carried sum says, one step on -/
theorem sum_step {B p k x y c vo va vb o' c' : Nat} (hp : p = B ^ k) (h : vo + c * p = va + vb) (ho : o' = (x + y + c) % B) (hc : c' = (x + y + c) / B) :
    vo + p * o' + c' * (p * B) = (va + p * x) + (vb + p * y) := by
  have h1 := Nat.div_add_mod (x + y + c) B
  rw [← hc, ← ho] at h1
  have h2 : p * (B * c' + o') = p * (x + y + c) := by rw [h1]
  rw [Nat.mul_add, Nat.mul_add, Nat.mul_add] at h2
  have h3 : c' * (p * B) = p * (B * c') := by rw [Nat.mul_left_comm, Nat.mul_comm B c']; 
  have h4 : c * p = p * c := Nat.mul_comm _ _
  omega

set_option maxRecDepth 100000 in
set_option maxHeartbeats 400000 in
theorem add_le (a b : Option Addr) (ca cb : Nat) (la lb : List Nat) (w : World) (hma : la.length ≤ 1000000) (hmb : lb.length ≤ la.length)
    (ha : Sl w (.slice a la.length ca) (ints .u32 la)) (hb : Sl w (.slice b lb.length cb) (ints .u32 lb)) (ga : Good 4294967296 la) (gb : Good 4294967296 lb) :
    Calls Tryd.prog 89 #[.slice a la.length ca, .slice b lb.length cb] w fun e w' => ∃ v, e = .returned v ∧ Sl w' v (ints .u32 (dig 4294967296 (val 4294967296 la + val 4294967296 lb))) ∧ Fresh w v ∧ Below w.heap.size w w' := by
  have hlt : decide ((la.length : Int) < lb.length) = false := by simp; omega
  have HA := Lib.hid ha; clear ha
  have HB := Lib.hid hb; clear hb
  go_enter Tryd.func89, Tryd.ntmps89
  go_wp2_with (at_make; refine mk_row rfl _ _ _ rfl rowWords rfl .i64 .i64 _ _ 0 (la.length + 1) rfl rfl rfl (by omega) (by omega) (by omega) (by omega) ?_; intro w1 hblk hb1 hsz1)
  have hown : w1.ownsRow w.heap.size 76 1 (.slice (some ⟨w.heap.size, 0, none⟩) 0 (la.length + 1)) 0 [] := hblk.owns (Nat.le_refl _) (by omega) (by unfold maxLen; omega) (by simp)
  clear hblk
  go_loopw [5, 6, 23] (fun out c i wr => ∃ k o cn, k ≤ la.length ∧ i = .int .i64 ((k : Nat) : Int) ∧ c = .int .u32 ((cn : Nat) : Int) ∧ cn ≤ 1 ∧ wr.ownsRow w.heap.size 76 1 out k (ints .u32 o) ∧ o.length = k ∧ Good 4294967296 o ∧
      val 4294967296 o + cn * 4294967296 ^ k = val 4294967296 (la.take k) + val 4294967296 (lb.take k) ∧ Below w.heap.size w wr) (fun _ _ i _ => la.length - (intOf i).toNat)
  case atStart => exact ⟨0, [], 0, by omega, rfl, rfl, by omega, hown, rfl, (fun x hx => nomatch hx), rfl, hb1⟩
  case round =>
    obtain ⟨k, o, cn, hk, rfl, rfl, hcn, hrow, hol, hgo, hval, hbel⟩ := hrel
    have HV := Lib.hid hval; clear hval
    have HL := Lib.hid hol; clear hol
    have hbs := hbel.size
    by_cases hlt : k < la.length
    · obtain ⟨x, hx⟩ : ∃ x, la[k]? = some x := ⟨la[k], List.getElem?_eq_getElem hlt⟩
      have gx := good_get ga hx
      obtain ⟨b1, off1, rfl, -, hc1, hc2, -, hcell⟩ := (HA.out.below hbel).at (ints_get hx)
      have HX := Lib.hid hx; clear hx
      by_cases hlt2 : k < lb.length
      · obtain ⟨y, hy⟩ : ∃ y, lb[k]? = some y := ⟨lb[k], List.getElem?_eq_getElem hlt2⟩
        have gy := good_get gb hy
        obtain ⟨b2, off2, rfl, -, hd1, hd2, -, hcell2⟩ := (HB.out.below hbel).at (ints_get hy)
        have HY := Lib.hid hy; clear hy
        go_wp2_with (first | (go_at_call 130; refine (add32_any x y cn _ gx gy hcn).mono ?_; rintro e w' ⟨rfl, rfl⟩) | (at_builtin; refine app_one rfl _ _ _ rfl rowWords w.heap.size (.int .u32 ((x + y + cn) % 4294967296 : Nat)) wr.heap.size (hrow.alloc _) rfl rfl (by simp) rfl (by omega) (by omega) (by simp; omega) ?_; intro v' w2 hrow2 hgrow2))
        go_roundw
        case rel =>
          refine ⟨k + 1, o ++ [(x + y + cn) % 4294967296], (x + y + cn) / 4294967296, by omega, by go_num, rfl, by omega, by rw [ints_append]; exact hrow2, by simp [HL.out], good_snoc hgo (Nat.mod_lt _ (by omega)), ?_, ?_⟩
          · rw [val_snoc, HL.out, val_take_succ HX.out, val_take_succ HY.out, Nat.pow_succ]
            exact sum_step rfl HV.out rfl rfl
          · exact (hbel.alloc hbs _).grown hgrow2 (by simp; omega) (fun j hj => (hrow.lt j hj).1)
        case measure => simp [intOf]; omega
      · have e : lb.take (k + 1) = lb.take k := by rw [List.take_of_length_le (by omega), List.take_of_length_le (by omega)]
        have HE := Lib.hid e; clear e
        go_wp2_with (first | (go_at_call 130; refine (add32_any x 0 cn _ gx (by omega) hcn).mono ?_; rintro e w' ⟨rfl, rfl⟩) | (at_builtin; refine app_one rfl _ _ _ rfl rowWords w.heap.size (.int .u32 ((x + 0 + cn) % 4294967296 : Nat)) wr.heap.size (hrow.alloc _) rfl rfl (by simp) rfl (by omega) (by omega) (by simp; omega) ?_; intro v' w2 hrow2 hgrow2))
        go_roundw
        case rel =>
          refine ⟨k + 1, o ++ [(x + 0 + cn) % 4294967296], (x + 0 + cn) / 4294967296, by omega, by go_num, rfl, by omega, by rw [ints_append]; exact hrow2, by simp [HL.out], good_snoc hgo (Nat.mod_lt _ (by omega)), ?_, ?_⟩
          · rw [val_snoc, HL.out, val_take_succ HX.out, HE.out, Nat.pow_succ]
            exact sum_step (y := 0) rfl HV.out rfl rfl
          · exact (hbel.alloc hbs _).grown hgrow2 (by simp; omega) (fun j hj => (hrow.lt j hj).1)
        case measure => simp [intOf]; omega
    · obtain rfl : k = la.length := by omega
      go_wp2_with (at_builtin; refine app_one rfl _ _ _ rfl rowWords w.heap.size (.int .u32 ((cn : Nat) : Int)) wr.heap.size (hrow.alloc _) rfl rfl (by simp) rfl (by omega) (by omega) (by simp; omega) ?_; intro v' w2 hrow2 hgrow2)
      have hg1 := good_snoc hgo (show cn < 4294967296 by omega)
      have hrow3 : w2.ownsRow w.heap.size 76 1 v' (la.length + 1) (ints .u32 (o ++ [cn])) := by rw [ints_append]; exact hrow2
      have hsl := ownsRow_sl hrow3
      have hbel2 : Below w.heap.size w w2 := (hbel.alloc hbs _).grown hgrow2 (by simp; omega) (fun j hj => (hrow.lt j hj).1)
      obtain ⟨a3, cap3, rfl, -⟩ := hsl.open
      have hlen : (o ++ [cn]).length = la.length + 1 := by simp [HL.out]
      rw [ints_length] at hsl ⊢
      refine (trimmed_any _ _ _ _ (by rw [hlen]; omega) hsl).mono ?_
      rintro e w' ⟨rfl, rfl⟩
      go_wp2
      go_ret
      refine ⟨.slice a3 (cutL (o ++ [cn])).length cap3, rfl, ?_, (ownsRow_fresh hrow3).slice, hbel2⟩
      have hcut : cutL (o ++ [cn]) = dig 4294967296 (val 4294967296 la + val 4294967296 lb) := by
        have hv := HV.out
        rw [List.take_length, List.take_of_length_le (by omega)] at hv
        rw [cutL_eq (by omega) hg1, val_snoc, HL.out, Nat.mul_comm, hv]
      rw [← hcut]
      have := hsl.take (k := (cutL (o ++ [cn])).length) (cutL_le _)
      rw [ints_take, ← cutL_prefix] at this
      exact this
set_option maxRecDepth 100000 in
set_option maxHeartbeats 400000 in
theorem add_gt (a b : Option Addr) (ca cb : Nat) (la lb : List Nat) (w : World) (hma : la.length ≤ 1000000) (hmb : lb.length < la.length)
    (ha : Sl w (.slice a la.length ca) (ints .u32 la)) (hb : Sl w (.slice b lb.length cb) (ints .u32 lb)) (ga : Good 4294967296 la) (gb : Good 4294967296 lb) :
    Calls Tryd.prog 89 #[.slice b lb.length cb, .slice a la.length ca] w fun e w' => ∃ v, e = .returned v ∧ Sl w' v (ints .u32 (dig 4294967296 (val 4294967296 la + val 4294967296 lb))) ∧ Fresh w v ∧ Below w.heap.size w w' := by
  have hlt : decide ((lb.length : Int) < la.length) = true := by simp; omega
  have HA := Lib.hid ha; clear ha
  have HB := Lib.hid hb; clear hb
  go_enter Tryd.func89, Tryd.ntmps89
  go_wp2_with (at_make; refine mk_row rfl _ _ _ rfl rowWords rfl .i64 .i64 _ _ 0 (la.length + 1) rfl rfl rfl (by omega) (by omega) (by omega) (by omega) ?_; intro w1 hblk hb1 hsz1)
  have hown : w1.ownsRow w.heap.size 76 1 (.slice (some ⟨w.heap.size, 0, none⟩) 0 (la.length + 1)) 0 [] := hblk.owns (Nat.le_refl _) (by omega) (by unfold maxLen; omega) (by simp)
  clear hblk
  go_loopw [5, 6, 23] (fun out c i wr => ∃ k o cn, k ≤ la.length ∧ i = .int .i64 ((k : Nat) : Int) ∧ c = .int .u32 ((cn : Nat) : Int) ∧ cn ≤ 1 ∧ wr.ownsRow w.heap.size 76 1 out k (ints .u32 o) ∧ o.length = k ∧ Good 4294967296 o ∧
      val 4294967296 o + cn * 4294967296 ^ k = val 4294967296 (la.take k) + val 4294967296 (lb.take k) ∧ Below w.heap.size w wr) (fun _ _ i _ => la.length - (intOf i).toNat)
  case atStart => exact ⟨0, [], 0, by omega, rfl, rfl, by omega, hown, rfl, (fun x hx => nomatch hx), rfl, hb1⟩
  case round =>
    obtain ⟨k, o, cn, hk, rfl, rfl, hcn, hrow, hol, hgo, hval, hbel⟩ := hrel
    have HV := Lib.hid hval; clear hval
    have HL := Lib.hid hol; clear hol
    have hbs := hbel.size
    by_cases hlt : k < la.length
    · obtain ⟨x, hx⟩ : ∃ x, la[k]? = some x := ⟨la[k], List.getElem?_eq_getElem hlt⟩
      have gx := good_get ga hx
      obtain ⟨b1, off1, rfl, -, hc1, hc2, -, hcell⟩ := (HA.out.below hbel).at (ints_get hx)
      have HX := Lib.hid hx; clear hx
      by_cases hlt2 : k < lb.length
      · obtain ⟨y, hy⟩ : ∃ y, lb[k]? = some y := ⟨lb[k], List.getElem?_eq_getElem hlt2⟩
        have gy := good_get gb hy
        obtain ⟨b2, off2, rfl, -, hd1, hd2, -, hcell2⟩ := (HB.out.below hbel).at (ints_get hy)
        have HY := Lib.hid hy; clear hy
        go_wp2_with (first | (go_at_call 130; refine (add32_any x y cn _ gx gy hcn).mono ?_; rintro e w' ⟨rfl, rfl⟩) | (at_builtin; refine app_one rfl _ _ _ rfl rowWords w.heap.size (.int .u32 ((x + y + cn) % 4294967296 : Nat)) wr.heap.size (hrow.alloc _) rfl rfl (by simp) rfl (by omega) (by omega) (by simp; omega) ?_; intro v' w2 hrow2 hgrow2))
        go_roundw
        case rel =>
          refine ⟨k + 1, o ++ [(x + y + cn) % 4294967296], (x + y + cn) / 4294967296, by omega, by go_num, rfl, by omega, by rw [ints_append]; exact hrow2, by simp [HL.out], good_snoc hgo (Nat.mod_lt _ (by omega)), ?_, ?_⟩
          · rw [val_snoc, HL.out, val_take_succ HX.out, val_take_succ HY.out, Nat.pow_succ]
            exact sum_step rfl HV.out rfl rfl
          · exact (hbel.alloc hbs _).grown hgrow2 (by simp; omega) (fun j hj => (hrow.lt j hj).1)
        case measure => simp [intOf]; omega
      · have e : lb.take (k + 1) = lb.take k := by rw [List.take_of_length_le (by omega), List.take_of_length_le (by omega)]
        have HE := Lib.hid e; clear e
        go_wp2_with (first | (go_at_call 130; refine (add32_any x 0 cn _ gx (by omega) hcn).mono ?_; rintro e w' ⟨rfl, rfl⟩) | (at_builtin; refine app_one rfl _ _ _ rfl rowWords w.heap.size (.int .u32 ((x + 0 + cn) % 4294967296 : Nat)) wr.heap.size (hrow.alloc _) rfl rfl (by simp) rfl (by omega) (by omega) (by simp; omega) ?_; intro v' w2 hrow2 hgrow2))
        go_roundw
        case rel =>
          refine ⟨k + 1, o ++ [(x + 0 + cn) % 4294967296], (x + 0 + cn) / 4294967296, by omega, by go_num, rfl, by omega, by rw [ints_append]; exact hrow2, by simp [HL.out], good_snoc hgo (Nat.mod_lt _ (by omega)), ?_, ?_⟩
          · rw [val_snoc, HL.out, val_take_succ HX.out, HE.out, Nat.pow_succ]
            exact sum_step (y := 0) rfl HV.out rfl rfl
          · exact (hbel.alloc hbs _).grown hgrow2 (by simp; omega) (fun j hj => (hrow.lt j hj).1)
        case measure => simp [intOf]; omega
    · obtain rfl : k = la.length := by omega
      go_wp2_with (at_builtin; refine app_one rfl _ _ _ rfl rowWords w.heap.size (.int .u32 ((cn : Nat) : Int)) wr.heap.size (hrow.alloc _) rfl rfl (by simp) rfl (by omega) (by omega) (by simp; omega) ?_; intro v' w2 hrow2 hgrow2)
      have hg1 := good_snoc hgo (show cn < 4294967296 by omega)
      have hrow3 : w2.ownsRow w.heap.size 76 1 v' (la.length + 1) (ints .u32 (o ++ [cn])) := by rw [ints_append]; exact hrow2
      have hsl := ownsRow_sl hrow3
      have hbel2 : Below w.heap.size w w2 := (hbel.alloc hbs _).grown hgrow2 (by simp; omega) (fun j hj => (hrow.lt j hj).1)
      obtain ⟨a3, cap3, rfl, -⟩ := hsl.open
      have hlen : (o ++ [cn]).length = la.length + 1 := by simp [HL.out]
      rw [ints_length] at hsl ⊢
      refine (trimmed_any _ _ _ _ (by rw [hlen]; omega) hsl).mono ?_
      rintro e w' ⟨rfl, rfl⟩
      go_wp2
      go_ret
      refine ⟨.slice a3 (cutL (o ++ [cn])).length cap3, rfl, ?_, (ownsRow_fresh hrow3).slice, hbel2⟩
      have hcut : cutL (o ++ [cn]) = dig 4294967296 (val 4294967296 la + val 4294967296 lb) := by
        have hv := HV.out
        rw [List.take_length, List.take_of_length_le (by omega)] at hv
        rw [cutL_eq (by omega) hg1, val_snoc, HL.out, Nat.mul_comm, hv]
      rw [← hcut]
      have := hsl.take (k := (cutL (o ++ [cn])).length) (cutL_le _)
      rw [ints_take, ← cutL_prefix] at this
      exact this
/-- Add: the sum -/
theorem add_any (a b : Option Addr) (ca cb : Nat) (la lb : List Nat) (w : World) (hma : la.length ≤ 1000000) (hmb : lb.length ≤ 1000000)
    (ha : Sl w (.slice a la.length ca) (ints .u32 la)) (hb : Sl w (.slice b lb.length cb) (ints .u32 lb)) (ga : Good 4294967296 la) (gb : Good 4294967296 lb) :
    Calls Tryd.prog 89 #[.slice a la.length ca, .slice b lb.length cb] w fun e w' => ∃ v, e = .returned v ∧ Sl w' v (ints .u32 (dig 4294967296 (val 4294967296 la + val 4294967296 lb))) ∧ Fresh w v ∧ Below w.heap.size w w' := by
  by_cases h : lb.length ≤ la.length
  · exact add_le a b ca cb la lb w hma h ha hb ga gb
  · rw [Nat.add_comm (val 4294967296 la)]
    exact add_gt b a cb ca lb la w hmb (by omega) hb ha gb ga

end Go.Proofs.YtfeeiipohfpdiaaDoor
