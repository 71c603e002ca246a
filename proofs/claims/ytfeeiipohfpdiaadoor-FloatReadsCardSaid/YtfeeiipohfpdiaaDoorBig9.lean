/- Walks of package big: what is taken off a part of a number, and given back. -/
import Derived.Test.YtfeeiipohfpdiaaDoorBig8
import Derived.Deep.RegionWith
namespace Go.Proofs.YtfeeiipohfpdiaaDoor
set_option linter.unusedVariables false
set_option linter.unusedSimpArgs false
open Go.RowKit

theorem mid_get {pre post : List Value} {s : List Nat} {k x : Nat} (h : s[k]? = some x) : (pre ++ ints .u32 s ++ post)[pre.length + k]? = some (.int .u32 x) := by
  have hl : k < s.length := (List.getElem?_eq_some_iff.1 h).1
  rw [List.append_assoc, List.getElem?_append_right (by omega), Nat.add_sub_cancel_left, List.getElem?_append_left (by rw [ints_length]; exact hl), ints_get h]
theorem mid_set {w : World} {g : Nat} {t : TypeId} {pre post : List Value} {s : List Nat} {k x : Nat} (hb : Blk w g t (pre ++ ints .u32 s ++ post)) (hl : k < s.length) :
    Blk (w.setCell ⟨g, pre.length + k, none⟩ (.int .u32 (x : Int))) g t (pre ++ ints .u32 (s.set k x) ++ post) := by
  have := hb.set (pre.length + k) (.int .u32 (x : Int))
  rw [List.append_assoc, List.set_append_right _ _ (by omega), Nat.add_sub_cancel_left, List.set_append_left _ _ (by rw [ints_length]; exact hl), ints_set, ← List.append_assoc] at this
  exact this

/-- one word more is taken off -/
theorem take_step {B p f x y c bb t out bb' vs vl vo : Nat} (ht : t = c + f * y) (ho : out + t % B + bb = x + bb' * B) (h : vs + f * vl = vo + (c + bb) * p) :
    (vs + p * out) + f * (vl + p * y) = (vo + p * x) + (t / B + bb') * (p * B) := by
  have h1 := Nat.div_add_mod t B
  have h2 : p * (out + t % B + bb) = p * (x + bb' * B) := by rw [ho]
  have h3 : p * (B * (t / B) + t % B) = p * (c + f * y) := by rw [h1, ht]
  rw [Nat.mul_add, Nat.mul_add, Nat.mul_add] at h2
  rw [Nat.mul_add, Nat.mul_add] at h3
  have h4 : (t / B + bb') * (p * B) = p * (B * (t / B)) + p * (bb' * B) := by
    rw [Nat.add_mul, Nat.mul_left_comm, Nat.mul_comm (t / B) B, Nat.mul_left_comm bb']
  have h5 : f * (vl + p * y) = f * vl + p * (f * y) := by rw [Nat.mul_add, Nat.mul_left_comm]
  have h6 : (c + bb) * p = p * c + p * bb := by rw [Nat.add_mul, Nat.mul_comm c, Nat.mul_comm bb]
  omega

theorem cast_mod2 (c f y : Nat) : ((c : Int) + (f : Int) * (y : Int)) % 4294967296 = (((c + f * y) % 4294967296 : Nat) : Int) ∧ ((c : Int) + (f : Int) * (y : Int)) / 4294967296 = (((c + f * y) / 4294967296 : Nat) : Int) := by
  have e : ((c : Int) + (f : Int) * (y : Int)) = ((c + f * y : Nat) : Int) := by rw [Int.natCast_add, Int.natCast_mul]
  rw [e]
  generalize c + f * y = t
  omega
theorem borrow_eq {x y c : Nat} (hx : x < 4294967296) (hy : y < 4294967296) (hc : c ≤ 1) : (x + 4294967296 + 4294967296 - y - c) % 4294967296 + y + c = x + bw x y c * 4294967296 := by
  unfold bw
  split <;> omega

set_option maxRecDepth 100000 in
set_option maxHeartbeats 400000 in
theorem takes_any (g off cu : Nat) (b : Option Addr) (cb f : Nat) (pre post : List Value) (seg lv : List Nat) (w : World) (hoff : pre.length = off) (hmu : seg.length ≤ 1000000) (hlv : lv.length < seg.length) (hcu : seg.length ≤ cu)
    (hblk : Blk w g 76 (pre ++ ints .u32 seg ++ post)) (gs : Good 4294967296 seg) (hv : Sl w (.slice b lv.length cb) (ints .u32 lv)) (gv : Good 4294967296 lv) (hne : (Value.slice b lv.length cb).ownBlock ≠ some g) (hf : f < 4294967296) :
    Calls Tryd.prog 166 #[.slice (some ⟨g, off, none⟩) seg.length cu, .slice b lv.length cb, .int .u64 ((f : Nat) : Int)] w fun e w' => ∃ s bb, e = .returned (.bool (bb == 1)) ∧ bb ≤ 1 ∧ s.length = seg.length ∧ Good 4294967296 s ∧
      Blk w' g 76 (pre ++ ints .u32 s ++ post) ∧ val 4294967296 s + f * val 4294967296 lv = val 4294967296 seg + bb * 4294967296 ^ seg.length ∧ w.grownBy w' (some g) := by
  subst hoff
  have HV := Lib.hid hv; clear hv
  have HB0 := Lib.hid hblk
  have HN := Lib.hid hne; clear hne
  have hglt := hblk.lt
  clear hblk
  go_enter Tryd.func166, Tryd.ntmps166
  go_wp2_with fail
  go_loopw [7, 8, 12] (fun c bo i wr => ∃ k s cn bb, k ≤ seg.length ∧ i = .int .i64 ((k : Nat) : Int) ∧ c = .int .u64 ((cn : Nat) : Int) ∧ bo = .int .u32 ((bb : Nat) : Int) ∧ cn < 4294967296 ∧ bb ≤ 1 ∧ (lv.length < k → cn = 0) ∧
      Blk wr g 76 (pre ++ ints .u32 s ++ post) ∧ s.length = seg.length ∧ Good 4294967296 s ∧ s.drop k = seg.drop k ∧
      val 4294967296 (s.take k) + f * val 4294967296 (lv.take k) = val 4294967296 (seg.take k) + (cn + bb) * 4294967296 ^ k ∧ w.grownBy wr (some g)) (fun _ _ i _ => seg.length - (intOf i).toNat)
  case atStart => exact ⟨0, seg, 0, 0, by omega, rfl, rfl, rfl, by omega, by omega, fun h => rfl, HB0.out, rfl, gs, rfl, by simp [val], World.grownBy.refl _ _⟩
  case round =>
    obtain ⟨k, s, cn, bb, hk, rfl, rfl, rfl, hcn, hbb, hc0, hblk, hsl, hgs, hdr, hval, hgrow⟩ := hrel
    have HVl := Lib.hid hval; clear hval
    have HL := Lib.hid hsl
    have HD := Lib.hid hdr; clear hdr
    have HC0 := Lib.hid hc0; clear hc0
    by_cases hlt : k < seg.length
    · obtain ⟨x, hx⟩ : ∃ x, seg[k]? = some x := ⟨seg[k], List.getElem?_eq_getElem hlt⟩
      have gx := good_get gs hx
      have hx2 : s[k]? = some x := by
        have h1 := congrArg (fun l : List Nat => l[0]?) HD.out
        simp only [List.getElem?_drop, Nat.add_zero] at h1
        rw [h1, hx]
      have hcell3 : wr.cell? ⟨g, pre.length + k, none⟩ = some (.int .u32 ((x : Nat) : Int)) := by rw [hblk.cell]; exact mid_get hx2
      have hfr3 := hblk.frozen (pre.length + k)
      have HBk := Lib.hid hblk
      have HX := Lib.hid hx
      have HX2 := Lib.hid hx2
      clear hx hx2 hblk hsl
      by_cases hlt2 : k < lv.length
      · obtain ⟨y, hy⟩ : ∃ y, lv[k]? = some y := ⟨lv[k], List.getElem?_eq_getElem hlt2⟩
        have gy := good_get gv hy
        obtain ⟨b2, off2, hb2, -, hd1, hd2, -, hcell2⟩ := (HV.out.grown hgrow (fun z hz => by cases hz; exact HN.out)).at (ints_get hy)
        have HY := Lib.hid hy; clear hy
        subst hb2
        obtain ⟨hxy1, hxy2⟩ := mul_bound hf gy
        have ht : cn + (f * y + 0) < 18446744073709551616 := by
          have : f * y ≤ 4294967295 * 4294967295 := Nat.mul_le_mul (by omega) (by omega)
          omega
        go_wp2_with fail
        rw [(cast_mod2 cn f y).1]
        have ht1 : (cn + f * y) / 4294967296 < 4294967296 := by rw [Nat.div_lt_iff_lt_mul (by omega)]; omega
        have E2 := Lib.hid (cast_mod2 cn f y).2
        refine (sub32_any x ((cn + f * y) % 4294967296) bb wr gx (Nat.mod_lt _ (by omega)) hbb).mono ?_
        rintro e w' ⟨rfl, rfl⟩
        have hbo := borrow_eq gx (Nat.mod_lt (cn + f * y) (show 0 < 4294967296 by omega)) hbb
        have hout := Nat.mod_lt (x + 4294967296 + 4294967296 - (cn + f * y) % 4294967296 - bb) (show 0 < 4294967296 by omega)
        have hbw := bw_le x ((cn + f * y) % 4294967296) bb
        generalize (x + 4294967296 + 4294967296 - (cn + f * y) % 4294967296 - bb) % 4294967296 = out at hbo hout ⊢
        generalize bw x ((cn + f * y) % 4294967296) bb = bb' at hbo hbw ⊢
        have HBO := Lib.hid hbo; clear hbo
        have HT1 := Lib.hid ht1; clear ht1
        go_wp2_with fail
        go_roundw
        case rel =>
          rw [E2.out]
          refine ⟨k + 1, s.set k out, (cn + f * y) / 4294967296, bb', by omega, by go_num, rfl, rfl, HT1.out, hbw, fun h => by omega, ?_, by simp [HL.out], good_set hgs hout, ?_, ?_, hgrow.setIn _⟩
          · exact mid_set HBk.out (by have := HL.out; omega)
          · rw [drop_set_succ, ← List.drop_drop, ← List.drop_drop, HD.out]
          · have hk2 : (s.set k out)[k]? = some out := by simp [HL.out, hlt]
            rw [val_take_succ hk2, val_take_succ HX.out, val_take_succ HY.out, List.take_set_of_le (Nat.le_refl _), Nat.pow_succ]
            exact take_step rfl HBO.out HVl.out
        case measure => simp [intOf] <;> omega
      · have hlv2 : lv.take (k + 1) = lv.take k := by rw [List.take_of_length_le (by omega), List.take_of_length_le (by omega)]
        have HLV := Lib.hid hlv2; clear hlv2
        go_wp2_with fail
        refine (sub32_any x cn bb wr gx hcn hbb).mono ?_
        rintro e w' ⟨rfl, rfl⟩
        have hbo := borrow_eq gx hcn hbb
        have hout := Nat.mod_lt (x + 4294967296 + 4294967296 - cn - bb) (show 0 < 4294967296 by omega)
        have hbw := bw_le x cn bb
        generalize (x + 4294967296 + 4294967296 - cn - bb) % 4294967296 = out at hbo hout ⊢
        generalize bw x cn bb = bb' at hbo hbw ⊢
        have HBO := Lib.hid hbo; clear hbo
        go_wp2_with fail
        go_roundw
        case rel =>
          refine ⟨k + 1, s.set k out, 0, bb', by omega, by go_num, by congr 1; omega, rfl, by omega, hbw, fun h => rfl, ?_, by simp [HL.out], good_set hgs hout, ?_, ?_, hgrow.setIn _⟩
          · exact mid_set HBk.out (by have := HL.out; omega)
          · rw [drop_set_succ, ← List.drop_drop, ← List.drop_drop, HD.out]
          · have hk2 : (s.set k out)[k]? = some out := by simp [HL.out, hlt]
            rw [val_take_succ hk2, val_take_succ HX.out, HLV.out, List.take_set_of_le (Nat.le_refl _), Nat.pow_succ]
            have := take_step (B := 4294967296) (y := 0) (f := f) (t := cn) rfl (by rw [Nat.mod_eq_of_lt hcn]; exact HBO.out) HVl.out
            rw [Nat.div_eq_of_lt hcn] at this
            exact this
        case measure => simp [intOf] <;> omega
    · obtain rfl : k = seg.length := by omega
      have hc : cn = 0 := HC0.out hlv
      subst hc
      go_wp2_with fail
      go_ret
      have hv2 := HVl.out
      rw [List.take_of_length_le (by have := HL.out; omega), List.take_of_length_le (by omega), List.take_length, Nat.zero_add] at hv2
      refine ⟨s, bb, ?_, hbb, HL.out, hgs, (by first | exact hblk | (rw [← List.append_assoc]; exact hblk)), hv2, hgrow⟩
      rcases (show bb = 0 ∨ bb = 1 by omega) with h | h <;> subst h <;> rfl

set_option maxRecDepth 100000 in
set_option maxHeartbeats 400000 in
theorem gives_any (g off cu : Nat) (b : Option Addr) (cb : Nat) (pre post : List Value) (seg lv : List Nat) (w : World) (hoff : pre.length = off) (hmu : seg.length ≤ 1000000) (hlv : lv.length < seg.length) (hcu : seg.length ≤ cu)
    (hblk : Blk w g 76 (pre ++ ints .u32 seg ++ post)) (gs : Good 4294967296 seg) (hv : Sl w (.slice b lv.length cb) (ints .u32 lv)) (gv : Good 4294967296 lv) (hne : (Value.slice b lv.length cb).ownBlock ≠ some g) :
    Calls Tryd.prog 167 #[.slice (some ⟨g, off, none⟩) seg.length cu, .slice b lv.length cb] w fun e w' => ∃ s c, e = .returned (.tuple #[]) ∧ c ≤ 1 ∧ s.length = seg.length ∧ Good 4294967296 s ∧
      Blk w' g 76 (pre ++ ints .u32 s ++ post) ∧ val 4294967296 s + c * 4294967296 ^ seg.length = val 4294967296 seg + val 4294967296 lv ∧ w.grownBy w' (some g) := by
  subst hoff
  have HV := Lib.hid hv; clear hv
  have HB0 := Lib.hid hblk
  have HN := Lib.hid hne; clear hne
  have hglt := hblk.lt
  clear hblk
  go_enter Tryd.func167, Tryd.ntmps167
  go_wp2_with fail
  go_loopw [4, 9] (fun c i wr => ∃ k s cn, k ≤ seg.length ∧ i = .int .i64 ((k : Nat) : Int) ∧ c = .int .u32 ((cn : Nat) : Int) ∧ cn ≤ 1 ∧
      Blk wr g 76 (pre ++ ints .u32 s ++ post) ∧ s.length = seg.length ∧ Good 4294967296 s ∧ s.drop k = seg.drop k ∧
      val 4294967296 (s.take k) + cn * 4294967296 ^ k = val 4294967296 (seg.take k) + val 4294967296 (lv.take k) ∧ w.grownBy wr (some g)) (fun _ i _ => seg.length - (intOf i).toNat)
  case atStart => exact ⟨0, seg, 0, by omega, rfl, rfl, by omega, HB0.out, rfl, gs, rfl, by simp [val], World.grownBy.refl _ _⟩
  case round =>
    obtain ⟨k, s, cn, hk, rfl, rfl, hcn, hblk, hsl, hgs, hdr, hval, hgrow⟩ := hrel
    have HVl := Lib.hid hval; clear hval
    have HL := Lib.hid hsl
    have HD := Lib.hid hdr; clear hdr
    by_cases hlt : k < seg.length
    · obtain ⟨x, hx⟩ : ∃ x, seg[k]? = some x := ⟨seg[k], List.getElem?_eq_getElem hlt⟩
      have gx := good_get gs hx
      have hx2 : s[k]? = some x := by
        have h1 := congrArg (fun l : List Nat => l[0]?) HD.out
        simp only [List.getElem?_drop, Nat.add_zero] at h1
        rw [h1, hx]
      have hcell3 : wr.cell? ⟨g, pre.length + k, none⟩ = some (.int .u32 ((x : Nat) : Int)) := by rw [hblk.cell]; exact mid_get hx2
      have hfr3 := hblk.frozen (pre.length + k)
      have HBk := Lib.hid hblk
      have HX := Lib.hid hx
      clear hx hx2 hblk hsl
      by_cases hlt2 : k < lv.length
      · obtain ⟨y, hy⟩ : ∃ y, lv[k]? = some y := ⟨lv[k], List.getElem?_eq_getElem hlt2⟩
        have gy := good_get gv hy
        obtain ⟨b2, off2, hb2, -, hd1, hd2, -, hcell2⟩ := (HV.out.grown hgrow (fun z hz => by cases hz; exact HN.out)).at (ints_get hy)
        have HY := Lib.hid hy; clear hy
        subst hb2
        go_wp2_with fail
        refine (add32_any x y cn wr gx gy hcn).mono ?_
        rintro e w' ⟨rfl, rfl⟩
        go_wp2_with fail
        go_roundw
        case rel =>
          refine ⟨k + 1, s.set k ((x + y + cn) % 4294967296), (x + y + cn) / 4294967296, by omega, by go_num, rfl, by omega, ?_, by simp [HL.out], good_set hgs (Nat.mod_lt _ (by omega)), ?_, ?_, hgrow.setIn _⟩
          · exact mid_set HBk.out (by have := HL.out; omega)
          · rw [drop_set_succ, ← List.drop_drop, ← List.drop_drop, HD.out]
          · have hk2 : (s.set k ((x + y + cn) % 4294967296))[k]? = some ((x + y + cn) % 4294967296) := by simp [HL.out, hlt]
            rw [val_take_succ hk2, val_take_succ HX.out, val_take_succ HY.out, List.take_set_of_le (Nat.le_refl _), Nat.pow_succ]
            exact sum_step rfl HVl.out rfl rfl
        case measure => simp [intOf] <;> omega
      · have hlv2 : lv.take (k + 1) = lv.take k := by rw [List.take_of_length_le (by omega), List.take_of_length_le (by omega)]
        have HLV := Lib.hid hlv2; clear hlv2
        go_wp2_with fail
        refine (add32_any x 0 cn wr gx (by omega) hcn).mono ?_
        rintro e w' ⟨rfl, rfl⟩
        go_wp2_with fail
        go_roundw
        case rel =>
          refine ⟨k + 1, s.set k ((x + 0 + cn) % 4294967296), (x + 0 + cn) / 4294967296, by omega, by go_num, rfl, by omega, ?_, by simp [HL.out], good_set hgs (Nat.mod_lt _ (by omega)), ?_, ?_, hgrow.setIn _⟩
          · exact mid_set HBk.out (by have := HL.out; omega)
          · rw [drop_set_succ, ← List.drop_drop, ← List.drop_drop, HD.out]
          · have hk2 : (s.set k ((x + 0 + cn) % 4294967296))[k]? = some ((x + 0 + cn) % 4294967296) := by simp [HL.out, hlt]
            rw [val_take_succ hk2, val_take_succ HX.out, HLV.out, List.take_set_of_le (Nat.le_refl _), Nat.pow_succ]
            exact sum_step (y := 0) rfl HVl.out rfl rfl
        case measure => simp [intOf] <;> omega
    · obtain rfl : k = seg.length := by omega
      go_wp2_with fail
      go_end0
      have hv2 := HVl.out
      rw [List.take_of_length_le (by have := HL.out; omega), List.take_of_length_le (by omega), List.take_of_length_le (by omega)] at hv2
      exact ⟨s, cn, rfl, hcn, HL.out, hgs, (by first | exact hblk | (rw [← List.append_assoc]; exact hblk)), hv2, hgrow⟩
end Go.Proofs.YtfeeiipohfpdiaaDoor
