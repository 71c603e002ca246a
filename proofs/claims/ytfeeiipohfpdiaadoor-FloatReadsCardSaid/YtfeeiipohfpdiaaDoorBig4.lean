/- Walks of package big: products; by one word. -/
import Derived.Test.YtfeeiipohfpdiaaDoorBig3
namespace Go.Proofs.YtfeeiipohfpdiaaDoor
set_option linter.unusedVariables false
set_option linter.unusedSimpArgs false
open Go.RowKit

theorem val_set {B : Nat} {l : List Nat} {j x y : Nat} (h : l[j]? = some x) : val B (l.set j y) + B ^ j * x = val B l + B ^ j * y := by
  have hl : j < l.length := (List.getElem?_eq_some_iff.1 h).1
  have h2 : (l.set j y)[j]? = some y := by simp [hl]
  rw [val_split h2, val_split h]
  have e1 : (l.set j y).take j = l.take j := by rw [List.take_set_of_le (Nat.le_refl _)]
  have e2 : (l.set j y).drop (j + 1) = l.drop (j + 1) := by rw [List.drop_set_of_lt (by omega)]
  rw [e1, e2, Nat.mul_add, Nat.mul_add]
  omega
theorem good_set {B : Nat} {l : List Nat} {j y : Nat} (h : Good B l) (hy : y < B) : Good B (l.set j y) := by
  intro x hx
  rcases List.mem_or_eq_of_mem_set hx with hx | hx
  · exact h x hx
  · omega
theorem drop_set_succ {l : List Nat} {j y : Nat} : (l.set j y).drop (j + 1) = l.drop (j + 1) := by rw [List.drop_set_of_lt (by omega)]

theorem cast_mod (c x y z : Nat) : ((c : Int) + ((x : Int) * (y : Int) + (z : Int))) % 4294967296 = (((c + (x * y + z)) % 4294967296 : Nat) : Int) ∧
    ((c : Int) + ((x : Int) * (y : Int) + (z : Int))) / 4294967296 = (((c + (x * y + z)) / 4294967296 : Nat) : Int) := by
  have e : ((c : Int) + ((x : Int) * (y : Int) + (z : Int))) = ((c + (x * y + z) : Nat) : Int) := by rw [Int.natCast_add, Int.natCast_add, Int.natCast_mul]
  rw [e]
  generalize c + (x * y + z) = t
  omega
theorem mul_bound {x y : Nat} (hx : x < 4294967296) (hy : y < 4294967296) : (x : Int) * (y : Int) ≤ 18446744065119617025 ∧ 0 ≤ (x : Int) * (y : Int) := by
  have h : x * y ≤ 4294967295 * 4294967295 := Nat.mul_le_mul (by omega) (by omega)
  have e : (x : Int) * (y : Int) = ((x * y : Nat) : Int) := by simp
  rw [e]
  omega

/-- one step of a product's row -/
theorem mul_step {B p x y o c t V V' vo tk : Nat} (ht : t = c + (x * y + o)) (hv' : V' + p * o = V + p * (t % B)) (h : V + c * p = vo + x * tk) :
    V' + (t / B) * (p * B) = vo + x * (tk + p * y) := by
  have h1 := Nat.div_add_mod t B
  have h2 : p * (B * (t / B) + t % B) = p * t := by rw [h1]
  rw [ht] at h2
  rw [← ht] at h2
  rw [Nat.mul_add] at h2
  have h3 : t / B * (p * B) = p * (B * (t / B)) := by rw [Nat.mul_left_comm, Nat.mul_comm B (t / B)]
  have h4 : p * t = p * c + p * (x * y) + p * o := by rw [ht, Nat.mul_add, Nat.mul_add, ← Nat.add_assoc]
  have h5 : x * (tk + p * y) = x * tk + p * (x * y) := by rw [Nat.mul_add, Nat.mul_left_comm]
  have h6 : c * p = p * c := Nat.mul_comm _ _
  omega

set_option maxRecDepth 100000 in
set_option maxHeartbeats 400000 in
theorem mul_any (a b : Option Addr) (ca cb : Nat) (la lb : List Nat) (w : World) (hma : la.length ≤ 1000000) (hmb : lb.length ≤ 1000000)
    (ha : Sl w (.slice a la.length ca) (ints .u32 la)) (hb : Sl w (.slice b lb.length cb) (ints .u32 lb)) (ga : Good 4294967296 la) (gb : Good 4294967296 lb) :
    Calls Tryd.prog 87 #[.slice a la.length ca, .slice b lb.length cb] w fun e w' => ∃ v, e = .returned v ∧ Sl w' v (ints .u32 (dig 4294967296 (val 4294967296 la * val 4294967296 lb))) ∧ Fresh w v ∧ Below w.heap.size w w' := by
  have HA := Lib.hid ha; clear ha
  have HB := Lib.hid hb; clear hb
  go_enter Tryd.func87, Tryd.ntmps87
  go_wp2_with (at_make; refine mk_row rfl _ _ _ rfl rowWords rfl .i64 .i64 _ _ (la.length + lb.length) (la.length + lb.length) rfl rfl (by omega) (by omega) (by omega) (by omega) (by omega) ?_; intro w1 hblk hb1 hsz1)
  have hblk0 : Blk w1 w.heap.size 76 (ints .u32 (List.replicate (la.length + lb.length) 0)) := by simpa [ints] using hblk
  clear hblk
  go_loopw [19] (fun i wr => ∃ k o, k ≤ la.length ∧ i = .int .i64 ((k : Nat) : Int) ∧ Blk wr w.heap.size 76 (ints .u32 o) ∧ o.length = la.length + lb.length ∧ Good 4294967296 o ∧
      val 4294967296 o = val 4294967296 (la.take k) * val 4294967296 lb ∧ (∀ j, k + lb.length ≤ j → j < la.length + lb.length → o[j]? = some 0) ∧ Below w.heap.size w wr) (fun i _ => la.length - (intOf i).toNat)
  case atStart => exact ⟨0, _, by omega, rfl, hblk0, by simp, (fun x hx => by have := List.eq_of_mem_replicate hx; omega), by rw [val_replicate]; simp [val], (fun j _ hj => by simp [hj]), hb1⟩
  case round =>
    obtain ⟨k, o, hk, rfl, hblk, hol, hgo, hval, hz, hbel⟩ := hrel
    have HV := Lib.hid hval; clear hval
    have HZ := Lib.hid hz; clear hz
    have HL := Lib.hid hol; clear hol
    have HBk := Lib.hid hblk; clear hblk
    have hbs := hbel.size
    obtain ⟨wo, rfl⟩ : ∃ wo : World, wo = wr := ⟨_, rfl⟩
    by_cases hlt : k < la.length
    · obtain ⟨x, hx⟩ : ∃ x, la[k]? = some x := ⟨la[k], List.getElem?_eq_getElem hlt⟩
      have gx := good_get ga hx
      obtain ⟨b1, off1, rfl, -, hc1, hc2, -, hcell⟩ := (HA.out.below hbel).at (ints_get hx)
      have HX := Lib.hid hx; clear hx
      go_wp2_with fail
      go_loopw [8, 26] (fun c i wr => ∃ t o' cn, t ≤ lb.length ∧ i = .int .i64 ((t : Nat) : Int) ∧ c = .int .u64 ((cn : Nat) : Int) ∧ cn < 4294967296 ∧ Blk wr w.heap.size 76 (ints .u32 o') ∧ o'.length = la.length + lb.length ∧ Good 4294967296 o' ∧
        val 4294967296 o' + cn * 4294967296 ^ (k + t) = val 4294967296 o + x * (4294967296 ^ k * val 4294967296 (lb.take t)) ∧ (∀ j, k + t ≤ j → o'[j]? = o[j]?) ∧ Below w.heap.size w wr) (fun _ i _ => lb.length - (intOf i).toNat)
      case atStart => exact ⟨0, o, 0, by omega, rfl, rfl, by omega, HBk.out, HL.out, hgo, by simp [val], fun _ _ => rfl, hbel⟩
      case round =>
        obtain ⟨t, o', cn, ht, rfl, rfl, hcn, hblk', hol', hgo', hval', hsame, hbel'⟩ := hrel
        have HV' := Lib.hid hval'; clear hval'
        have HS' := Lib.hid hsame; clear hsame
        have HL' := Lib.hid hol'
        by_cases hlt2 : t < lb.length
        · obtain ⟨y, hy⟩ : ∃ y, lb[t]? = some y := ⟨lb[t], List.getElem?_eq_getElem hlt2⟩
          have gy := good_get gb hy
          obtain ⟨b2, off2, rfl, -, hd1, hd2, -, hcell2⟩ := (HB.out.below hbel').at (ints_get hy)
          have HY := Lib.hid hy; clear hy
          obtain ⟨z, hzz⟩ : ∃ z, o'[k + t]? = some z := ⟨o'[k + t], List.getElem?_eq_getElem (by omega)⟩
          have gz := good_get hgo' hzz
          have hcell3 : wr.cell? ⟨w.heap.size, k + t, none⟩ = some (.int .u32 ((z : Nat) : Int)) := by rw [hblk'.cell]; exact ints_get hzz
          have hfr3 := hblk'.frozen (k + t)
          have HZZ := Lib.hid hzz; clear hzz
          have HBk' := Lib.hid hblk'; clear hblk' hol'
          obtain ⟨hxy1, hxy2⟩ := mul_bound gx gy
          have E1 := Lib.hid (cast_mod cn x y z).1
          have E2 := Lib.hid (cast_mod cn x y z).2
          go_wp2_with fail
          go_roundw
          case rel =>
            rw [E1.out, E2.out]
            refine ⟨t + 1, o'.set (k + t) ((cn + (x * y + z)) % 4294967296), (cn + (x * y + z)) / 4294967296, by omega, by go_num, rfl, ?_, ?_, by simp [HL'.out], good_set hgo' (Nat.mod_lt _ (by omega)), ?_, ?_, hbel'.setCell (by exact Nat.le_refl _) _⟩
            · omega
            · rw [← ints_set]; exact HBk'.out.set _ _
            · have hs := val_set (B := 4294967296) (y := (cn + (x * y + z)) % 4294967296) HZZ.out
              rw [val_take_succ HY.out, Nat.mul_add, ← Nat.mul_assoc (4294967296 ^ k), ← Nat.pow_add, show k + (t + 1) = (k + t) + 1 from by omega, Nat.pow_succ]
              exact mul_step rfl hs HV'.out
            · intro j hj
              rw [List.getElem?_set_ne (by omega)]
              exact HS'.out j (by omega)
          case measure => simp [intOf] <;> omega
        · obtain rfl : t = lb.length := by omega
          have hz : o'[k + lb.length]? = some 0 := by rw [HS'.out _ (Nat.le_refl _)]; exact HZ.out _ (Nat.le_refl _) (by omega)
          have hcell3 : wr.cell? ⟨w.heap.size, k + lb.length, none⟩ = some (.int .u32 ((0 : Nat) : Int)) := by rw [hblk'.cell]; exact ints_get hz
          have hfr3 := hblk'.frozen (k + lb.length)
          have HZZ := Lib.hid hz; clear hz
          have HBk' := Lib.hid hblk'; clear hblk' hol'
          go_wp2_with fail
          go_roundw
          case rel =>
            refine ⟨k + 1, o'.set (k + lb.length) cn, by omega, by go_num, ?_, by simp [HL'.out], good_set hgo' hcn, ?_, ?_, hbel'.setCell (by exact Nat.le_refl _) _⟩
            · rw [← ints_set]; exact HBk'.out.set _ _
            · have hs := val_set (B := 4294967296) (y := cn) HZZ.out
              have hv := HV'.out
              rw [List.take_length, HV.out] at hv
              rw [Nat.mul_zero, Nat.add_zero] at hs
              rw [val_take_succ HX.out, Nat.add_mul, hs]
              rw [Nat.mul_comm cn] at hv
              rw [hv, Nat.mul_left_comm, Nat.mul_assoc]
            · intro j hj hj2
              rw [List.getElem?_set_ne (by omega), HS'.out j (by omega)]
              exact HZ.out j (by omega) hj2
          case measure => simp [intOf] <;> omega
    · obtain rfl : k = la.length := by omega
      go_wp2_with fail
      have hsl : Sl wo (.slice (some ⟨w.heap.size, 0, none⟩) o.length (la.length + lb.length)) (ints .u32 o) := HBk.out.sl (ints_length _ _) (by rw [HL.out]; exact Nat.le_refl _) (by unfold maxLen; omega) (fun i u hu => by rw [Nat.zero_add]; exact hu)
      rw [← HL.out] at hsl ⊢
      refine (trimmed_dig _ _ _ _ (by rw [HL.out]; omega) hsl hgo).mono ?_
      rintro e w' ⟨rfl, rfl⟩
      go_wp2_with fail
      go_ret
      have hv := HV.out
      rw [List.take_length] at hv
      refine ⟨.slice (some ⟨w.heap.size, 0, none⟩) (dig 4294967296 (val 4294967296 o)).length o.length, rfl, ?_, (fun b hb => by cases hb; exact Nat.le_refl _), hbel⟩
      rw [← hv]
      exact hsl.dig hgo
end Go.Proofs.YtfeeiipohfpdiaaDoor
