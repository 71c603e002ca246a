/- Walks of package big: digits read. -/
import Derived.Test.YtfeeiipohfpdiaaDoorBig16
import Derived.Test.YtfeeiipohfpdiaaDoorLit
import Derived.Lib.ConvBytes
import Derived.Lib.Strings
namespace Go.Proofs.YtfeeiipohfpdiaaDoor
set_option linter.unusedVariables false
set_option linter.unusedSimpArgs false
open Go.RowKit

/-- a string's bytes as numbers -/
def codes (l : List UInt8) : List Nat := l.map (·.toNat)
theorem codes_length (l : List UInt8) : (codes l).length = l.length := by simp [codes]
theorem codes_get {l : List UInt8} {i : Nat} {b : UInt8} (h : l[i]? = some b) : (codes l)[i]? = some b.toNat := by simp [codes, h]

theorem bytes_length (s : ByteArray) : s.data.toList.length = s.size := by rw [Array.length_toList]; rfl

set_option maxRecDepth 100000 in
theorem conv_bytes (s : ByteArray) (w : World) (hs : s.size ≤ 1000000) : ∃ w' cap, (convert 9 120 (.string s)).run Tryd.prog w = .ok (.slice (some ⟨w.heap.size, 0, none⟩) s.size cap) w' ∧ Below w.heap.size w w' ∧ w'.heap.size = w.heap.size + 1 ∧
    Sl w' (.slice (some ⟨w.heap.size, 0, none⟩) s.size cap) (ints .u8 (codes s.data.toList)) := by
  refine ⟨_, _, Lib.run_convert_string_bytes (u := .string) w _ _ 5 s rfl rfl rfl, ⟨rfl, rfl, rfl, ?_, fun k hk => Lib.bytesWorld_at_old w _ s k hk⟩, Lib.bytesWorld_size w _ s, ?_⟩
  · rw [Lib.bytesWorld_size]; omega
  · have hl : (ints .u8 (codes s.data.toList)).length = s.size := by rw [ints_length, codes_length, bytes_length]
    have := Sl.mk (w := Lib.bytesWorld w 5 s) (b := w.heap.size) (off := 0) (cap := grownCap w s.size 0 5) (vs := ints .u8 (codes s.data.toList)) (by rw [hl]; exact grownCap_ge _ _ _ _) (grownCap_le_maxLen _ _ _ _ (by unfold maxLen; omega)) (by rw [Lib.bytesWorld_size]; omega) (by
      intro i u hu
      have hi : i < s.size := by rw [← hl]; exact (List.getElem?_eq_some_iff.1 hu).1
      rw [Nat.zero_add, Lib.bytesWorld_cell w _ s i hi]
      have hi2 : i < s.data.toList.length := by rw [bytes_length]; exact hi
      have h1 : s.data.toList[i]? = some s.data.toList[i] := List.getElem?_eq_getElem hi2
      rw [ints_get (codes_get h1)] at hu
      rw [← hu, List.getD, h1]
      rfl)
    rwa [hl] at this

theorem dig_of_ge {B : Nat} (hB : 2 ≤ B) {l : List Nat} (g : Good B l) (h : l ≠ [] → B ^ (l.length - 1) ≤ val B l) : dig B (val B l) = l := by
  apply dig_val hB g
  intro x hx h0
  subst h0
  obtain ⟨p, rfl⟩ : ∃ p, l = p ++ [0] := by
    rcases List.eq_nil_or_concat l with rfl | ⟨p, y, rfl⟩
    · cases hx
    · simp at hx; subst hx; exact ⟨p, by simp⟩
  have h1 := h (by simp)
  have h2 := val_lt (l := p) (fun x hx => g x (by simp [hx]))
  rw [val_append] at h1
  simp [val] at h1
  omega
theorem read_step {B p x cn t vo vl d : Nat} (ht : t = cn + x * 10) (h : vo + cn * p = 10 * vl + d) : vo + p * (t % B) + t / B * (p * B) = 10 * (vl + p * x) + d := by
  have := Nat.div_add_mod t B
  generalize t / B = a at *
  generalize t % B = b at *
  subst ht
  have e : p * (cn + x * 10) = p * (B * a + b) := by rw [this]
  have e2 : a * (p * B) = p * (B * a) := by rw [Nat.mul_comm a, Nat.mul_assoc]
  rw [e2]
  rw [Nat.mul_add, Nat.mul_add] at e
  rw [Nat.mul_comm cn p] at h
  have e3 : p * (x * 10) = 10 * (p * x) := by rw [← Nat.mul_assoc, Nat.mul_comm]
  omega

theorem decv_take {l : List UInt8} {k : Nat} {b : UInt8} (h : l[k]? = some b) : decv (l.take (k + 1)) = decv (l.take k) * 10 + (b.toNat - 48) := by
  rw [List.take_add_one, h]; exact decv_snoc _ _

theorem ownsRow_mono {w : World} {base base' : Nat} {e : TypeId} {v : Value} {n : Nat} {xs : List Value} (h : w.ownsRow base e 1 v n xs) (hb : base' ≤ base) : w.ownsRow base' e 1 v n xs := by
  obtain ⟨hl, h⟩ := h
  refine ⟨hl, ?_⟩
  rcases h with h | ⟨g, cap, cur, e1, hg, h⟩
  · exact .inl h
  · exact .inr ⟨g, cap, cur, e1, Nat.le_trans hb hg, h⟩
theorem read_end {D L cn d : Nat} {xs : List Nat} (hx : xs.length = L) (hl : ln D = L) (h : val 4294967296 (xs.take L) + cn * 4294967296 ^ L = 10 * val 4294967296 ((dig 4294967296 D).take L) + d) : val 4294967296 xs + cn * 4294967296 ^ L = 10 * D + d := by
  rwa [List.take_of_length_le (by omega), List.take_of_length_le (by unfold ln at hl; omega), val_dig (by omega)] at h
theorem read_ge {D d : Nat} (h : D ≠ 0) : 4294967296 ^ (ln D - 1) ≤ 10 * D + d := by
  have := pow_le_of_dig (B := 4294967296) (n := D) (by omega) (by omega)
  unfold ln
  omega

set_option maxRecDepth 1000000 in
theorem bigRead_any (s : ByteArray) (w : World) (hs : s.size ≤ 1000) (h1 : 0 < s.size) (hd : isDec s.data.toList) (hz : (s[0]'h1).toNat ≠ 48) :
    Calls Tryd.prog 30 #[.string s] w fun e w' => ∃ q, e = .returned (.tuple #[q, .int .i64 0]) ∧ Num w' q (decv s.data.toList) ∧ Fresh w q ∧ Below w.heap.size w w' := by
  have h2 : ¬ ((1000 : Int) < (s.size : Int)) := by omega
  have h3 : s.toList.isEmpty = false := by
    rw [Lib.toList_data]
    cases h : s.data.toList with
    | nil => have : s.data.toList.length = 0 := by rw [h]; rfl
             rw [bytes_length] at this; omega
    | cons _ _ => rfl
  have hz2 : (((s[0]'h1).toNat : Int) == 48) = false := by simp; omega
  obtain ⟨w1, cap, hrun, hb1, hsz1, hsl⟩ := conv_bytes s w (by omega)
  go_enter Tryd.func30, Tryd.ntmps30
  go_wp2_with fail
  have HSL := Lib.hid hsl
  have HD := Lib.hid hd
  clear hsl hd hrun h2 h3 hz2 hz
  have hsl2 : s.data.toList.length = s.size := bytes_length s
  go_loopw [4, 27] (fun o i wr => ∃ k D, k ≤ s.size ∧ i = .int .i64 ((k : Nat) : Int) ∧ D = decv (s.data.toList.take k) ∧ wr.ownsRow w1.heap.size 76 1 o (ln D) (ints .u32 (dig 4294967296 D)) ∧ Below w.heap.size w wr ∧ Below w1.heap.size w1 wr) (fun _ i _ => s.size - (intOf i).toNat)
  case atStart => exact ⟨0, 0, by omega, rfl, by simp [decv], by rw [ln_zero, dig_zero]; exact World.ownsRow_nil _ _ _ _, hb1, Below.refl _ _⟩
  case round =>
    obtain ⟨k, D, hk, rfl, hDv, hrow, hbel, hbel1⟩ := hrel
    obtain ⟨wo, rfl⟩ : ∃ wo : World, wo = wr := ⟨_, rfl⟩
    by_cases hlt : k < s.size
    · obtain ⟨b, hb⟩ : ∃ b, s.data.toList[k]? = some b := ⟨s.data.toList[k]'(by omega), List.getElem?_eq_getElem (by omega)⟩
      obtain ⟨hb48, hb57⟩ := HD.out b (List.mem_iff_getElem?.2 ⟨k, hb⟩)
      obtain ⟨b2, off2, e1, -, hc1, hc2, -, hcell⟩ := (HSL.out.below hbel1).at (ints_get (codes_get hb))
      injection e1 with e1
      injection e1 with e1 e2
      subst e1
      subst e2
      rw [Nat.zero_add] at hcell
      have HB := Lib.hid hb; clear hb
      have hb48' : ¬ (b.toNat : Int) < 48 := by omega
      have hb57' : ¬ (57 : Int) < (b.toNat : Int) := by omega
      obtain ⟨a, cap2, rfl, hla, hca⟩ := (ownsRow_sl hrow).open
      obtain ⟨L, hL⟩ : ∃ L, ln D = L := ⟨_, rfl⟩
      have hLe : (ints .u32 (dig 4294967296 D)).length = L := by rw [ints_length]; exact hL
      rw [hL] at hrow
      rw [hLe] at hrow hla ⊢
      go_wp2_with fail
      have HL := Lib.hid hL; clear hL
      have hls : L ≤ 200 := by
        have h1 := decv_lt (l := s.data.toList.take k) (fun x hx => HD.out x (List.mem_of_mem_take hx))
        rw [← hDv, List.length_take, Nat.min_eq_left (by omega)] at h1
        have h2 := ln_mono (Nat.le_of_lt h1)
        have h3 := ln_ten k
        rw [HL.out] at h2
        omega
      have HDV := Lib.hid hDv; clear hDv
      clear hLe
      go_loopw [7, 42] (fun c i wr => ∃ j cn xs, j ≤ L ∧ i = .int .i64 ((j : Nat) : Int) ∧ c = .int .u64 ((cn : Nat) : Int) ∧ cn < 10 ∧ wr.ownsRow w1.heap.size 76 1 (.slice a L cap2) L (ints .u32 xs) ∧ xs.length = L ∧ Good 4294967296 xs ∧
        (∀ i, j ≤ i → xs[i]? = (dig 4294967296 D)[i]?) ∧ val 4294967296 (xs.take j) + cn * 4294967296 ^ j = 10 * val 4294967296 ((dig 4294967296 D).take j) + (b.toNat - 48) ∧ Below w.heap.size w wr ∧ Below w1.heap.size w1 wr) (fun _ i _ => L - (intOf i).toNat)
      case atStart => exact ⟨0, b.toNat - 48, _, by omega, rfl, by congr 1; omega, by omega, hrow, HL.out, good_dig (by omega) _, fun _ _ => rfl, by simp [val], hbel, hbel1⟩
      case round =>
        obtain ⟨j, cn, xs, hj, rfl, rfl, hcn, hrow', hxl, hgx, hsame, hval, hbel', hbel1'⟩ := hrel
        have HS := Lib.hid hsame; clear hsame
        have HV := Lib.hid hval; clear hval
        have HXL := Lib.hid hxl; clear hxl
        by_cases hlt2 : j < L
        · obtain ⟨x, hx⟩ : ∃ x, (dig 4294967296 D)[j]? = some x := ⟨(dig 4294967296 D)[j]'(by have := HL.out; unfold ln at this; omega), List.getElem?_eq_getElem _⟩
          have gx := good_get (good_dig (by omega) _) hx
          have hx2 : xs[j]? = some x := by rw [HS.out j (Nat.le_refl _)]; exact hx
          obtain ⟨g, cap3, rest, e1, hbg, hlc, hcc, hxn, hblk⟩ := ownsRow_blk hrow' (by omega)
          injection e1 with e1 e2 e3
          subst e1
          subst e3
          have hce : wr.cell? ⟨g, j, none⟩ = some (.int .u32 ((x : Nat) : Int)) := by
            rw [hblk.cell, List.getElem?_append_left (by rw [ints_length, HXL.out]; omega)]
            exact ints_get hx2
          have hfr := hblk.frozen j
          clear hblk
          have HX := Lib.hid hx; clear hx
          have HX2 := Lib.hid hx2; clear hx2
          go_wp2_with fail
          go_roundw
          case rel =>
            have gx2 : (cn + x * 10) % 4294967296 < 4294967296 := Nat.mod_lt _ (by omega)
            refine ⟨j + 1, (cn + x * 10) / 4294967296, xs.set j ((cn + x * 10) % 4294967296), by omega, by go_num, by congr 1, by omega, ?_, by simp [HXL.out], good_set hgx gx2, ?_, ?_, hbel'.setCell (Nat.le_trans hb1.size hbg) _, hbel1'.setCell hbg _⟩
            · rw [← ints_set]; exact (World.ownsRow.stored hrow' _ _).1
            · intro i hi
              rw [List.getElem?_set_ne (by omega)]
              exact HS.out i (by omega)
            · have hk2 : (xs.set j ((cn + x * 10) % 4294967296))[j]? = some ((cn + x * 10) % 4294967296) := by simp [HXL.out, hlt2]
              rw [val_take_succ hk2, val_take_succ HX.out, List.take_set_of_le (Nat.le_refl _), Nat.pow_succ]
              exact read_step rfl HV.out
          case measure => simp [intOf] <;> omega
        · obtain rfl : j = L := by omega
          rcases Nat.eq_zero_or_pos cn with h0 | h0
          · subst h0
            go_wp2_with fail
            go_roundw
            case rel =>
              have hv := read_end HXL.out HL.out HV.out
              rw [Nat.zero_mul, Nat.add_zero] at hv
              have hxe : dig 4294967296 (10 * D + (b.toNat - 48)) = xs := by
                rw [← hv]
                exact dig_of_ge (by omega) hgx (fun hne => by rw [hv, HXL.out, ← HL.out]; exact read_ge (by intro h; subst h; apply hne; apply List.eq_nil_of_length_eq_zero; rw [HXL.out, ← HL.out, ln_zero]))
              have hlx : ln (10 * D + (b.toNat - 48)) = j := by unfold ln; rw [hxe, HXL.out]
              refine ⟨k + 1, 10 * D + (b.toNat - 48), by omega, by go_num, ?_, ?_, hbel', hbel1'⟩
              · rw [decv_take HB.out, ← HDV.out, Nat.mul_comm]
              · rw [hlx, hxe]; exact hrow'
            case measure => simp [intOf]; omega
          · have h0' : (0 : Int) < (cn : Int) := by omega
            have hcn2 : cn < 4294967296 := by omega
            have hcm : (cn : Int) % 4294967296 = (cn : Int) := by omega
            go_wp2_with (at_builtin; refine app_one rfl _ _ _ rfl rowWords w1.heap.size (.int .u32 ((cn : Nat) : Int)) wr.heap.size (hrow'.alloc _) rfl rfl (by simp) rfl (by omega) (by omega) (by have := hbel1'.size; simp; omega) ?_; intro v' w2 hrow2 hgrow2)
            go_roundw
            case rel =>
              have hv := read_end HXL.out HL.out HV.out
              have hxe : dig 4294967296 (10 * D + (b.toNat - 48)) = xs ++ [cn] := by
                rw [← hv, Nat.mul_comm cn, ← HXL.out, ← val_snoc]
                exact dig_val (by omega) (good_snoc hgx hcn2) (fun y hy => by simp at hy; omega)
              have hlx : ln (10 * D + (b.toNat - 48)) = j + 1 := by unfold ln; rw [hxe, List.length_append, HXL.out]; rfl
              refine ⟨k + 1, 10 * D + (b.toNat - 48), by omega, by go_num, ?_, ?_, (hbel'.alloc (by have := hbel'.size; omega) _).grown hgrow2 (by have := hbel'.size; simp; omega) (fun j hj => Nat.le_trans hb1.size (hrow'.lt j hj).1), (hbel1'.alloc hbel1'.size _).grown hgrow2 (by have := hbel1'.size; simp; omega) (fun j hj => (hrow'.lt j hj).1)⟩
              · rw [decv_take HB.out, ← HDV.out, Nat.mul_comm]
              · rw [hlx, hxe, ints_append]; exact hrow2
            case measure => simp [intOf]; omega
    · obtain rfl : k = s.size := by omega
      go_wp2_with fail
      go_ret2
      rw [List.take_of_length_le (by omega)] at hDv
      subst hDv
      exact ⟨_, rfl, ownsRow_sl hrow, ownsRow_fresh (ownsRow_mono hrow hb1.size), hbel⟩
end Go.Proofs.YtfeeiipohfpdiaaDoor
