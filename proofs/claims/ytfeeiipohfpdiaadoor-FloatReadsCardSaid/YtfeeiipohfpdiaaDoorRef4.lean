/- Walks of the reference's numbers, base 10000: By. -/
import Derived.Test.YtfeeiipohfpdiaaDoorRef3
namespace Go.Proofs.YtfeeiipohfpdiaaDoor
set_option linter.unusedVariables false
set_option linter.unusedSimpArgs false
open Go.RowKit

theorem cast_modI (c x y z : Nat) : ((c : Int) + ((z : Int) + (x : Int) * (y : Int))) % 10000 = (((c + (z + x * y)) % 10000 : Nat) : Int) ∧
    ((c : Int) + ((z : Int) + (x : Int) * (y : Int))) / 10000 = (((c + (z + x * y)) / 10000 : Nat) : Int) := by
  have e : ((c : Int) + ((z : Int) + (x : Int) * (y : Int))) = ((c + (z + x * y) : Nat) : Int) := by rw [Int.natCast_add, Int.natCast_add, Int.natCast_mul]
  rw [e]
  generalize c + (z + x * y) = t
  omega
theorem mul_boundI {x y : Nat} (hx : x < 10000) (hy : y < 10000) : (x : Int) * (y : Int) ≤ 99980001 ∧ 0 ≤ (x : Int) * (y : Int) := by
  have h : x * y ≤ 9999 * 9999 := Nat.mul_le_mul (by omega) (by omega)
  have e : (x : Int) * (y : Int) = ((x * y : Nat) : Int) := by simp
  rw [e]
  omega

set_option maxRecDepth 100000 in
set_option maxHeartbeats 400000 in
theorem by_list (a b : Option Addr) (ca cb : Nat) (la lb : List Nat) (w : World) (hma : la.length ≤ 1000000) (hmb : lb.length ≤ 1000000)
    (ha : Sl w (.slice a la.length ca) (ints .i64 la)) (hb : Sl w (.slice b lb.length cb) (ints .i64 lb)) (ga : Good 10000 la) (gb : Good 10000 lb) :
    Calls Tryd.prog 82 #[.slice a la.length ca, .slice b lb.length cb] w fun e w' => ∃ q, e = .returned q ∧ RNum w' q (val 10000 la * val 10000 lb) ∧ Fresh w q ∧ Below w.heap.size w w' := by
  have HA := Lib.hid ha; clear ha
  have HB := Lib.hid hb; clear hb
  go_enter Tryd.func82, Tryd.ntmps82
  go_wp2_with (at_make; refine mk_row rfl _ _ _ rfl rowInts rfl .i64 .i64 _ _ (la.length + lb.length + 1) (la.length + lb.length + 1) rfl rfl (by omega) (by omega) (by omega) (by omega) (by omega) ?_; intro w1 hblk hb1 hsz1)
  have hblk0 : Blk w1 w.heap.size 3 (ints .i64 (List.replicate (la.length + lb.length + 1) 0)) := by simpa [ints] using hblk
  clear hblk
  go_loopw [18] (fun i wr => ∃ k o, k ≤ la.length ∧ i = .int .i64 ((k : Nat) : Int) ∧ Blk wr w.heap.size 3 (ints .i64 o) ∧ o.length = la.length + lb.length + 1 ∧ Good 10000 o ∧
      val 10000 o = val 10000 (la.take k) * val 10000 lb ∧ (∀ j, k + lb.length ≤ j → j < la.length + lb.length + 1 → o[j]? = some 0) ∧ Below w.heap.size w wr) (fun i _ => la.length - (intOf i).toNat)
  case atStart => exact ⟨0, _, by omega, rfl, hblk0, by simp, (fun x hx => by have := List.eq_of_mem_replicate hx; omega), by rw [val_replicate]; simp [val], (fun j _ hj => by simp [hj]), hb1⟩
  case round =>
    obtain ⟨k, o, hk, rfl, hblk, hol, hgo, hval, hz, hbel⟩ := hrel
    have HV := Lib.hid hval; clear hval
    have HZ := Lib.hid hz; clear hz
    have HL := Lib.hid hol; clear hol
    have HBk := Lib.hid hblk; clear hblk
    have hbs := hbel.size
    obtain ⟨wo, rfl⟩ : ∃ wo : World, wo = wr := ⟨_, rfl⟩
    by_cases hlt : k < la.length
    · obtain ⟨x, hx⟩ : ∃ x, la[k]? = some x := ⟨la[k], List.getElem?_eq_getElem hlt⟩
      have gx := good_get ga hx
      have HX := Lib.hid hx; clear hx
      go_wp2_with fail
      go_loopw [7, 8] (fun c i wr => ∃ t o' cn, t ≤ lb.length + 1 ∧ i = .int .i64 ((t : Nat) : Int) ∧ c = .int .i64 ((cn : Nat) : Int) ∧ cn < 10000 ∧ (t = lb.length + 1 → cn = 0) ∧ Blk wr w.heap.size 3 (ints .i64 o') ∧ o'.length = la.length + lb.length + 1 ∧ Good 10000 o' ∧
        val 10000 o' + cn * 10000 ^ (k + t) = val 10000 o + x * (10000 ^ k * val 10000 (lb.take t)) ∧ (∀ j, k + t ≤ j → o'[j]? = o[j]?) ∧ Below w.heap.size w wr) (fun _ i _ => lb.length + 1 - (intOf i).toNat)
      case atStart => exact ⟨0, o, 0, by omega, rfl, rfl, by omega, fun _ => rfl, HBk.out, HL.out, hgo, by simp [val], fun _ _ => rfl, hbel⟩
      case round =>
        obtain ⟨t, o', cn, ht, rfl, rfl, hcn, hlast, hblk', hol', hgo', hval', hsame, hbel'⟩ := hrel
        have HV' := Lib.hid hval'; clear hval'
        have HS' := Lib.hid hsame; clear hsame
        have HL' := Lib.hid hol'
        have HLast := Lib.hid hlast; clear hlast
        by_cases hgo2 : t < lb.length ∨ 0 < cn
        · have htm : t ≤ lb.length := by
            have := HLast.out
            omega
          obtain ⟨b1, off1, rfl, -, hc1, hc2, -, hcell⟩ := (HA.out.below hbel').at (ints_get HX.out)
          have gy := good_getD (by omega) gb t
          have A2 := fun w' h => at_any b cb lb t w' hmb (by omega) h
          have V2 := Lib.hid (val_take_getD (B := 10000) lb t)
          have Z2 := Lib.hid (getD_none (l := lb) (k := t))
          generalize lb.getD t 0 = y at *
          have hbn : ∀ n, Sl (wr.drewN n) (.slice b lb.length cb) (ints .i64 lb) := fun n => (HB.out.below hbel').drewN
          have HBN := Lib.hid hbn; clear hbn
          obtain ⟨z, hzz⟩ : ∃ z, o'[k + t]? = some z := ⟨o'[k + t], List.getElem?_eq_getElem (by omega)⟩
          have gz := good_get hgo' hzz
          have hcell3 : wr.cell? ⟨w.heap.size, k + t, none⟩ = some (.int .i64 ((z : Nat) : Int)) := by rw [hblk'.cell]; exact ints_get hzz
          have hfr3 := hblk'.frozen (k + t)
          have HZ3 : Hid (lb.length ≤ t → z = 0) := Lib.hid fun h => by
            have h1 := HZ.out (k + t) (by omega) (by omega)
            rw [← HS'.out (k + t) (Nat.le_refl _), hzz] at h1
            injection h1
          have HZZ := Lib.hid hzz; clear hzz
          have HBk' := Lib.hid hblk'; clear hblk' hol'
          obtain ⟨hxy1, hxy2⟩ := mul_boundI gx gy
          have E1 := Lib.hid (cast_modI cn x y z).1
          have E2 := Lib.hid (cast_modI cn x y z).2
          have hcases : t < lb.length ∨ (¬ t < lb.length ∧ 0 < cn) := by omega
          clear hgo2
          rcases hcases with h1 | ⟨h1, h2⟩
          all_goals
            go_wp2_with fail
            go_quiet ((go_at_call 94; exact quiet_eq (A2 _ (HBN.out _))))
            go_wp2_with fail
            go_roundw
            case rel =>
              rw [E1.out, E2.out]
              have hlt3 : cn + (z + x * y) < 100000000 := by
                have e : ((x * y : Nat) : Int) = (x : Int) * (y : Int) := by simp
                omega
              refine ⟨t + 1, o'.set (k + t) ((cn + (z + x * y)) % 10000), (cn + (z + x * y)) / 10000, by omega, by go_num, rfl, by omega, ?_, ?_, by simp [HL'.out], good_set hgo' (Nat.mod_lt _ (by omega)), ?_, ?_, (below_drewN' hbel' _).setCell (by exact Nat.le_refl _) _⟩
              · intro h
                have h3 := Z2.out (by omega)
                have h4 := HZ3.out (by omega)
                subst h3 h4
                rw [Nat.mul_zero]
                omega
              · rw [← ints_set]; exact HBk'.out.set _ _
              · have hs := val_set (B := 10000) (y := (cn + (z + x * y)) % 10000) HZZ.out
                rw [V2.out, Nat.mul_add, ← Nat.mul_assoc (10000 ^ k), ← Nat.pow_add, show k + (t + 1) = (k + t) + 1 from by omega, Nat.pow_succ]
                exact mul_step (by rw [Nat.add_comm z]) hs HV'.out
              · intro j hj
                rw [List.getElem?_set_ne (by omega)]
                exact HS'.out j (by omega)
            case measure => simp [intOf] <;> omega
        · have h1 : ¬ t < lb.length := by omega
          obtain rfl : cn = 0 := by omega
          have HBk' := Lib.hid hblk'; clear hblk' hol' hgo2
          go_wp2_with fail
          go_roundw
          case rel =>
            refine ⟨k + 1, o', by omega, by go_num, HBk'.out, HL'.out, hgo', ?_, ?_, hbel'⟩
            · have hv := HV'.out
              rw [List.take_of_length_le (by omega), Nat.zero_mul, Nat.add_zero, HV.out] at hv
              rw [hv, val_take_succ HX.out, Nat.add_mul, Nat.mul_left_comm, Nat.mul_assoc]
            · intro j hj hj2
              rw [HS'.out j (by omega)]
              exact HZ.out j (by omega) hj2
          case measure => simp [intOf] <;> omega
    · obtain rfl : k = la.length := by omega
      go_wp2_with fail
      have hsl : Sl wo (.slice (some ⟨w.heap.size, 0, none⟩) o.length (la.length + lb.length + 1)) (ints .i64 o) := HBk.out.sl (ints_length _ _) (by rw [HL.out]; exact Nat.le_refl _) (by unfold maxLen; omega) (fun i u hu => by rw [Nat.zero_add]; exact hu)
      rw [← HL.out] at hsl ⊢
      refine (cut_dig _ _ _ _ (by rw [HL.out]; omega) hsl hgo).mono ?_
      rintro e w' ⟨rfl, rfl⟩
      go_wp2_with fail
      go_ret
      have hv := HV.out
      rw [List.take_length] at hv
      refine ⟨.slice (some ⟨w.heap.size, 0, none⟩) (dig 10000 (val 10000 o)).length o.length, rfl, ?_, (fun b hb => by cases hb; exact Nat.le_refl _), hbel⟩
      rw [← hv]
      exact sl_digI hsl hgo
theorem by_num {u v : Value} {m n : Nat} {w : World} (hu : RNum w u m) (hv : RNum w v n) (h1 : rl m ≤ 1000000) (h2 : rl n ≤ 1000000) :
    Calls Tryd.prog 82 #[u, v] w fun e w' => ∃ q, e = .returned q ∧ RNum w' q (m * n) ∧ Fresh w q ∧ Below w.heap.size w w' := by
  obtain ⟨a, ca, rfl, hu⟩ := hu.open
  obtain ⟨b, cb, rfl, hv⟩ := hv.open
  have := by_list a b ca cb _ _ w (by unfold rl at h1; omega) (by unfold rl at h2; omega) hu hv (good_dig (by omega) m) (good_dig (by omega) n)
  rwa [val_dig (by omega), val_dig (by omega)] at this
end Go.Proofs.YtfeeiipohfpdiaaDoor
