/- Walks of the reference's numbers, base 10000: Minus. -/
import Derived.Test.YtfeeiipohfpdiaaDoorRef2
import Derived.Deep.Draws
namespace Go.Proofs.YtfeeiipohfpdiaaDoor
set_option linter.unusedVariables false
set_option linter.unusedSimpArgs false
open Go.RowKit

theorem below_drewN' {B : Nat} {a w : World} (h : Below B a w) (n : Nat) : Below B a (w.drewN n) := ⟨h.os, h.tape, h.output, h.size, h.block⟩
theorem quiet_eq {P : Program} {f : FuncId} {args : Array Value} {w : World} {n : Nat} {v : Value} (h : Calls P f args (w.drewN n) fun e w' => e = .returned v ∧ w.drewN n = w') :
    Calls P f args (w.drewN n) fun e w'' => e = .returned v ∧ ∃ m, w'' = w.drewN m := h.mono fun _ _ ⟨he, hm⟩ => ⟨he, n, hm.symm⟩

/-- what a borrowed difference says, one step on -/
theorem dif_step {B p x y c d c' vo va vb : Nat} (h : vo + vb = va + c * p) (hd : d + y + c = x + c' * B) : vo + p * d + (vb + p * y) = va + p * x + c' * (p * B) := by
  have h1 : p * (d + y + c) = p * (x + c' * B) := by rw [hd]
  rw [Nat.mul_add, Nat.mul_add, Nat.mul_add] at h1
  have h2 : p * (c' * B) = c' * (p * B) := by rw [Nat.mul_left_comm]
  have h3 : c * p = p * c := Nat.mul_comm _ _
  omega

theorem take_of_le {B : Nat} (hB : 2 ≤ B) {la lb : List Nat} (ga : Good B la) (h : val B lb ≤ val B la) : val B (lb.take la.length) = val B lb := by
  have h1 : val B lb = val B (lb.take la.length) + B ^ (lb.take la.length).length * val B (lb.drop la.length) := by rw [← val_append, List.take_append_drop]
  have h2 := val_lt ga
  rcases Nat.eq_zero_or_pos (val B (lb.drop la.length)) with h0 | h0
  · rw [h1, h0, Nat.mul_zero, Nat.add_zero]
  · exfalso
    by_cases hl : la.length ≤ lb.length
    · rw [List.length_take, Nat.min_eq_left hl] at h1
      have := Nat.le_mul_of_pos_right (B ^ la.length) h0
      omega
    · rw [List.drop_of_length_le (by omega)] at h0
      simp [val] at h0

set_option maxRecDepth 100000 in
set_option maxHeartbeats 400000 in
theorem minus_list (a b : Option Addr) (ca cb : Nat) (la lb : List Nat) (w : World) (hma : la.length ≤ 1000000) (hmb : lb.length ≤ 1000000)
    (ha : Sl w (.slice a la.length ca) (ints .i64 la)) (hb : Sl w (.slice b lb.length cb) (ints .i64 lb)) (ga : Good 10000 la) (gb : Good 10000 lb) (hle : val 10000 lb ≤ val 10000 la) :
    Calls Tryd.prog 46 #[.slice a la.length ca, .slice b lb.length cb] w fun e w' => ∃ q, e = .returned q ∧ RNum w' q (val 10000 la - val 10000 lb) ∧ Fresh w q ∧ Below w.heap.size w w' := by
  have HA := Lib.hid ha; clear ha
  have HB := Lib.hid hb; clear hb
  have HLE := Lib.hid hle; clear hle
  go_enter Tryd.func46, Tryd.ntmps46
  go_wp2_with (at_make; refine mk_row rfl _ _ _ rfl rowInts rfl .i64 .i64 _ _ la.length la.length rfl rfl rfl rfl (by omega) (by omega) (by omega) ?_; intro w1 hblk hb1 hsz1)
  have hown : Blk w1 w.heap.size 3 (ints .i64 (List.replicate la.length 0)) := by simpa [ints] using hblk
  clear hblk
  go_loopw [6, 14] (fun c i wr => ∃ k o cn, k ≤ la.length ∧ i = .int .i64 ((k : Nat) : Int) ∧ c = .int .i64 ((cn : Nat) : Int) ∧ cn ≤ 1 ∧ Blk wr w.heap.size 3 (ints .i64 o) ∧ o.length = la.length ∧ Good 10000 o ∧
      val 10000 (o.take k) + val 10000 (lb.take k) = val 10000 (la.take k) + cn * 10000 ^ k ∧ Below w.heap.size w wr) (fun _ i _ => la.length - (intOf i).toNat)
  case atStart => exact ⟨0, _, 0, by omega, rfl, rfl, by omega, hown, by simp, (fun x hx => by have := List.eq_of_mem_replicate hx; omega), by simp [val], hb1⟩
  case round =>
    obtain ⟨k, o, cn, hk, rfl, rfl, hcn, hrow, hol, hgo, hval, hbel⟩ := hrel
    have HV := Lib.hid hval; clear hval
    have HL := Lib.hid hol; clear hol
    have hbs := hbel.size
    by_cases hlt : k < la.length
    · obtain ⟨x, hx⟩ : ∃ x, la[k]? = some x := ⟨la[k], List.getElem?_eq_getElem hlt⟩
      have gx := good_get ga hx
      obtain ⟨b1, off1, rfl, -, hc1, hc2, -, hcell⟩ := (HA.out.below hbel).at (ints_get hx)
      have HX := Lib.hid hx; clear hx
      have hy := good_getD (by omega) gb k
      have A2 := fun w' h => at_any b cb lb k w' hmb (by omega) h
      have V2 := Lib.hid (val_take_getD (B := 10000) lb k)
      generalize lb.getD k 0 = y at *
      have hbn : ∀ n, Sl (wr.drewN n) (.slice b lb.length cb) (ints .i64 lb) := fun n => (HB.out.below hbel).drewN
      have HBN := Lib.hid hbn; clear hbn
      obtain ⟨z, hz⟩ : ∃ z, o[k]? = some z := ⟨o[k]'(by rw [HL.out]; exact hlt), List.getElem?_eq_getElem _⟩
      have hcell3 : wr.cell? ⟨w.heap.size, k, none⟩ = some (.int .i64 ((z : Nat) : Int)) := by rw [hrow.cell]; exact ints_get hz
      have hfr := hrow.frozen k
      have HZ := Lib.hid hz; clear hz
      have HR := Lib.hid hrow; clear hrow
      have hbor : (y + cn ≤ x) ∨ x < y + cn := by omega
      go_wp2_with fail
      go_quiet ((go_at_call 94; exact quiet_eq (A2 _ (HBN.out _))))
      have hs := fun d => val_set (B := 10000) (y := d) HZ.out
      rcases hbor with hbo | hbo
      · have h1 : ¬ ((x : Int) - (y : Int) - (cn : Int) < 0) := by omega
        go_wp2_with fail
        go_roundw
        case rel =>
          refine ⟨k + 1, o.set k (x - y - cn), 0, by omega, by go_num, by go_num, by omega, ?_, by simp [HL.out], good_set hgo (by omega), ?_, ?_⟩
          · rw [← ints_set]
            have := HR.out.set k (.int .i64 ((x - y - cn : Nat) : Int))
            rw [show ((x - y - cn : Nat) : Int) = (x : Int) - (y : Int) - (cn : Int) by omega] at this ⊢
            exact this
          · have hk2 : (o.set k (x - y - cn))[k]? = some (x - y - cn) := by simp [HL.out, hlt]
            rw [val_take_succ hk2, V2.out, val_take_succ HX.out, List.take_set_of_le (Nat.le_refl _), Nat.pow_succ]
            exact dif_step HV.out (by omega)
          · exact (below_drewN' hbel _).setCell (by exact Nat.le_refl _) _
        case measure => simp [intOf] <;> omega
      · have h1 : (x : Int) - (y : Int) - (cn : Int) < 0 := by omega
        go_wp2_with fail
        go_roundw
        case rel =>
          refine ⟨k + 1, o.set k (x + 10000 - y - cn), 1, by omega, by go_num, by go_num, by omega, ?_, by simp [HL.out], good_set hgo (by omega), ?_, ?_⟩
          · rw [← ints_set]
            have := HR.out.set k (.int .i64 ((x + 10000 - y - cn : Nat) : Int))
            rw [show ((x + 10000 - y - cn : Nat) : Int) = (x : Int) - (y : Int) - (cn : Int) + 10000 by omega] at this ⊢
            exact this
          · have hk2 : (o.set k (x + 10000 - y - cn))[k]? = some (x + 10000 - y - cn) := by simp [HL.out, hlt]
            rw [val_take_succ hk2, V2.out, val_take_succ HX.out, List.take_set_of_le (Nat.le_refl _), Nat.pow_succ]
            exact dif_step HV.out (by omega)
          · exact (below_drewN' hbel _).setCell (by exact Nat.le_refl _) _
        case measure => simp [intOf] <;> omega
    · obtain rfl : k = la.length := by omega
      go_wp2_with fail
      have hsl : Sl wr (.slice (some ⟨w.heap.size, 0, none⟩) o.length la.length) (ints .i64 o) := hrow.sl (ints_length _ _) (by rw [HL.out]; exact Nat.le_refl _) (by unfold maxLen; omega) (fun i u hu => by rw [Nat.zero_add]; exact hu)
      have HR := Lib.hid hrow; clear hrow
      have HLS := Lib.hid HL.out.symm
      rw [show (Value.slice (some ⟨w.heap.size, 0, none⟩) la.length la.length) = Value.slice (some ⟨w.heap.size, 0, none⟩) o.length la.length by rw [HL.out]]
      refine (cut_dig _ _ _ _ (by rw [HL.out]; omega) hsl hgo).mono ?_
      rintro e w' ⟨rfl, rfl⟩
      go_wp2_with fail
      go_ret
      have hv := HV.out
      have h1 := val_lt hgo
      have h2 := HLE.out
      rw [List.take_length, take_of_le (by omega) ga HLE.out, List.take_of_length_le (by rw [HL.out]; exact Nat.le_refl _)] at hv
      rw [HL.out] at h1
      have hc0 : cn = 0 := by
        rcases Nat.eq_zero_or_pos cn with h0 | h0
        · exact h0
        · exfalso
          obtain rfl : cn = 1 := by omega
          omega
      subst hc0
      rw [Nat.zero_mul] at hv
      have hv2 : val 10000 la - val 10000 lb = val 10000 o := by omega
      rw [hv2]
      exact ⟨_, rfl, sl_digI hsl hgo, fun b hb => by cases hb; exact Nat.le_refl _, hbel⟩
theorem minus_num {u v : Value} {m n : Nat} {w : World} (hu : RNum w u m) (hv : RNum w v n) (h1 : rl m ≤ 1000000) (h2 : rl n ≤ 1000000) (hle : n ≤ m) :
    Calls Tryd.prog 46 #[u, v] w fun e w' => ∃ q, e = .returned q ∧ RNum w' q (m - n) ∧ Fresh w q ∧ Below w.heap.size w w' := by
  obtain ⟨a, ca, rfl, hu⟩ := hu.open
  obtain ⟨b, cb, rfl, hv⟩ := hv.open
  have := minus_list a b ca cb _ _ w (by unfold rl at h1; omega) (by unfold rl at h2; omega) hu hv (good_dig (by omega) m) (good_dig (by omega) n) (by rw [val_dig (by omega), val_dig (by omega)]; exact hle)
  rwa [val_dig (by omega), val_dig (by omega)] at this
end Go.Proofs.YtfeeiipohfpdiaaDoor
