/- Walks of package big: to the right by less than a word. -/
import Derived.Test.YtfeeiipohfpdiaaDoorBig7
namespace Go.Proofs.YtfeeiipohfpdiaaDoor
set_option linter.unusedVariables false
set_option linter.unusedSimpArgs false
open Go.RowKit

/-- to the right, word by word -/
def shr (n : Nat) : List Nat → List Nat
  | [] => []
  | x :: l => (x / 2 ^ n + (l.headD 0 % 2 ^ n) * 2 ^ (32 - n)) :: shr n l

theorem shr_length (n : Nat) (l : List Nat) : (shr n l).length = l.length := by
  induction l with
  | nil => rfl
  | cons x l ih => simp [shr, ih]
theorem shr_get (n : Nat) (l : List Nat) (i x : Nat) (h : l[i]? = some x) : (shr n l)[i]? = some (x / 2 ^ n + (l[i + 1]?.getD 0 % 2 ^ n) * 2 ^ (32 - n)) := by
  induction l generalizing i with
  | nil => simp at h
  | cons y l ih =>
    cases i with
    | zero =>
      simp at h; subst h
      cases l <;> simp [shr]
    | succ i =>
      simp only [List.getElem?_cons_succ] at h
      simp only [shr, List.getElem?_cons_succ]
      exact ih i h
theorem word_le {n x y : Nat} (hn : n ≤ 31) (hx : x < 4294967296) : x / 2 ^ n + (y % 2 ^ n) * 2 ^ (32 - n) < 4294967296 := by
  have h := two_split hn
  have h1 : x / 2 ^ n < 2 ^ (32 - n) := by rw [Nat.div_lt_iff_lt_mul (Nat.pow_pos (by omega)), h]; exact hx
  have h2 := Nat.mul_le_mul_right (2 ^ (32 - n)) (show y % 2 ^ n + 1 ≤ 2 ^ n from Nat.mod_lt _ (Nat.pow_pos (by omega)))
  rw [Nat.add_mul, Nat.mul_comm (2 ^ n), h] at h2
  omega
theorem shr_good {n : Nat} (hn : n ≤ 31) {l : List Nat} (g : Good 4294967296 l) : Good 4294967296 (shr n l) := by
  induction l with
  | nil => intro x hx; cases hx
  | cons x l ih =>
    intro y hy
    rcases List.mem_cons.1 hy with rfl | hy
    · exact word_le hn (g x (List.mem_cons_self))
    · exact ih (fun z hz => g z (List.mem_cons_of_mem _ hz)) y hy
theorem shr_val {n : Nat} (hn : n ≤ 31) (l : List Nat) : val 4294967296 (shr n l) = val 4294967296 l / 2 ^ n := by
  have h := two_split hn
  have hp : 0 < 2 ^ n := Nat.pow_pos (by omega)
  induction l with
  | nil => simp [shr, val]
  | cons x l ih =>
    simp only [shr, val, ih]
    have e1 : val 4294967296 l % 2 ^ n = l.headD 0 % 2 ^ n := by
      cases l with
      | nil => rfl
      | cons y l =>
        simp only [val, List.headD_cons]
        rw [← h, Nat.mul_assoc, Nat.mul_left_comm, Nat.add_mul_mod_self_left]
    have e2 : (x + 4294967296 * val 4294967296 l) / 2 ^ n = x / 2 ^ n + 2 ^ (32 - n) * val 4294967296 l := by
      rw [← h, Nat.mul_comm (2 ^ (32 - n)) (2 ^ n), Nat.mul_assoc, Nat.add_mul_div_left _ _ hp]
    rw [e2, ← e1]
    have e3 := Nat.div_add_mod (val 4294967296 l) (2 ^ n)
    generalize val 4294967296 l = V at *
    have e4 : 2 ^ (32 - n) * V = 2 ^ (32 - n) * (2 ^ n * (V / 2 ^ n)) + 2 ^ (32 - n) * (V % 2 ^ n) := by rw [← Nat.mul_add, e3]
    rw [← Nat.mul_assoc, h, Nat.mul_comm _ (V % 2 ^ n)] at e4
    rw [e4]
    generalize V % 2 ^ n * 2 ^ (32 - n) = z
    omega

theorem shl64_int {x n : Nat} (hx : x < 4294967296) (hn : n ≤ 31) : x * 2 ^ (32 - n) % 4294967296 = (x % 2 ^ n) * 2 ^ (32 - n) := by
  have h := two_split hn
  rw [← h, Nat.mul_comm x, Nat.mul_mod_mul_left, Nat.mul_comm]

theorem right_or {n x y : Nat} (hn : n ≤ 31) (hx : x < 4294967296) (hy : y < 4294967296) :
    bits BinOp.or IntKind.u32 ((x : Int) / 2 ^ n) (IntKind.u64.wrap ((y : Int) * 2 ^ (32 - n)) % 4294967296) = ((x / 2 ^ n + (y % 2 ^ n) * 2 ^ (32 - n) : Nat) : Int) := by
  have h := two_split hn
  have hw := word_le (y := y) hn hx
  have e1 : ((x : Int) / 2 ^ n) = ((x / 2 ^ n : Nat) : Int) := by rw [Int.natCast_ediv, Int.natCast_pow]; rfl
  have hp : 2 ^ (32 - n) ≤ 2 ^ 32 := Nat.pow_le_pow_right (by omega) (by omega)
  have hm : y * 2 ^ (32 - n) ≤ 4294967295 * 2 ^ 32 := Nat.mul_le_mul (by omega) hp
  have e2 : (IntKind.u64.wrap ((y : Int) * 2 ^ (32 - n)) % 4294967296) = ((y * 2 ^ (32 - n) % 4294967296 : Nat) : Int) := by
    rw [IntKind.wrap_u64]
    have e3 : ((y : Int) * 2 ^ (32 - n)) = ((y * 2 ^ (32 - n) : Nat) : Int) := by rw [Int.natCast_mul, Int.natCast_pow]; rfl
    rw [e3]
    generalize y * 2 ^ (32 - n) = t at *
    omega
  have h1 : x / 2 ^ n < 2 ^ (32 - n) := by rw [Nat.div_lt_iff_lt_mul (Nat.pow_pos (by omega)), h]; exact hx
  have h2 : x / 2 ^ n ≤ x := Nat.div_le_self _ _
  rw [e1, e2, shl64_int hy hn, u32_or_nat _ _ (Nat.lt_of_le_of_lt h2 hx) (Nat.lt_of_le_of_lt (Nat.le_add_left _ _) hw), Nat.or_comm, nat_join (32 - n) _ _ (Nat.mul_mod_left _ _) h1, Nat.add_comm]

theorem shr_take {n k x y : Nat} {la o : List Nat} (hx : la[k]? = some x) (hk : k < o.length) (h : o.take k = (shr n la).take k) (hy : y = x / 2 ^ n + (la[k + 1]?.getD 0 % 2 ^ n) * 2 ^ (32 - n)) : (o.set k y).take (k + 1) = (shr n la).take (k + 1) := by
  rw [List.take_add_one, List.take_add_one, List.take_set_of_le (Nat.le_refl _), h, shr_get n la k x hx, List.getElem?_set_self hk, hy]

set_option maxRecDepth 100000 in
set_option maxHeartbeats 400000 in
theorem right_any (a : Option Addr) (ca n : Nat) (w : World) (la : List Nat) (hma : la.length ≤ 1000000) (hn : n ≤ 31)
    (ha : Sl w (.slice a la.length ca) (ints .u32 la)) (ga : Good 4294967296 la) :
    Calls Tryd.prog 85 #[.slice a la.length ca, .int .i64 ((n : Nat) : Int)] w fun e w' => ∃ v, e = .returned v ∧ Sl w' v (ints .u32 (dig 4294967296 (val 4294967296 la / 2 ^ n))) ∧ Fresh w v ∧ Below w.heap.size w w' := by
  have HA := Lib.hid ha; clear ha
  go_enter Tryd.func85, Tryd.ntmps85
  go_wp2_with (at_make; refine mk_row rfl _ _ _ rfl rowWords rfl .i64 .i64 _ _ la.length la.length rfl rfl (by omega) (by omega) (by omega) (by omega) (by omega) ?_; intro w1 hblk hb1 hsz1)
  have hblk0 : Blk w1 w.heap.size 76 (ints .u32 (List.replicate la.length 0)) := by simpa [ints] using hblk
  clear hblk
  go_loopw [12] (fun i wr => ∃ k o, k ≤ la.length ∧ i = .int .i64 ((k : Nat) : Int) ∧ Blk wr w.heap.size 76 (ints .u32 o) ∧ o.length = la.length ∧ o.take k = (shr n la).take k ∧ Below w.heap.size w wr) (fun i _ => la.length - (intOf i).toNat)
  case atStart => exact ⟨0, _, by omega, rfl, hblk0, by simp, by simp, hb1⟩
  case round =>
    obtain ⟨k, o, hk, rfl, hblk, hol, htk, hbel⟩ := hrel
    have HT := Lib.hid htk; clear htk
    have HL := Lib.hid hol
    have hbs := hbel.size
    by_cases hlt : k < la.length
    · obtain ⟨x, hx⟩ : ∃ x, la[k]? = some x := ⟨la[k], List.getElem?_eq_getElem hlt⟩
      have gx := good_get ga hx
      obtain ⟨b1, off1, rfl, -, hc1, hc2, hbb, -⟩ := HA.out.at (ints_get hx)
      obtain ⟨b2, off2, e2, -, -, -, -, hcell⟩ := (HA.out.below hbel).at (ints_get hx)
      injection e2 with e2
      injection e2 with e3 e4
      subst e3; subst e4
      have HX := Lib.hid hx
      obtain ⟨z, hz⟩ : ∃ z, o[k]? = some z := ⟨o[k], List.getElem?_eq_getElem (by omega)⟩
      have hcell3 : wr.cell? ⟨w.heap.size, k, none⟩ = some (.int .u32 ((z : Nat) : Int)) := by rw [hblk.cell]; exact ints_get hz
      have hfr3 := hblk.frozen k
      have HBk := Lib.hid hblk
      clear hz hblk hol hx
      by_cases hlt2 : k + 1 < la.length
      · obtain ⟨y, hy⟩ : ∃ y, la[k + 1]? = some y := ⟨la[k + 1], List.getElem?_eq_getElem hlt2⟩
        have gy := good_get ga hy
        have HY := Lib.hid hy; clear hy
        go_wp2_with fail
        have e1 : ((x : Int) / 2 ^ n) = ((x / 2 ^ n : Nat) : Int) := by rw [Int.natCast_ediv, Int.natCast_pow]; rfl
        rw [e1]
        clear e1
        have hb2 := HBk.out.set k (.int .u32 ((x / 2 ^ n : Nat) : Int))
        rw [ints_set] at hb2
        have hbel2 := hbel.setCell (p := ⟨w.heap.size, k, none⟩) (Nat.le_refl _) (.int .u32 ((x / 2 ^ n : Nat) : Int))
        generalize wr.setCell ⟨w.heap.size, k, none⟩ (.int .u32 ((x / 2 ^ n : Nat) : Int)) = W1 at hb2 hbel2 ⊢
        obtain ⟨b2, off2, e2, -, -, -, -, hcell2⟩ := (HA.out.below hbel2).at (ints_get HY.out)
        injection e2 with e2
        injection e2 with e3 e4
        subst e3; subst e4
        have hcell3 : W1.cell? ⟨w.heap.size, k, none⟩ = some (.int .u32 ((x / 2 ^ n : Nat) : Int)) := by rw [hb2.cell]; exact ints_get (by simp [HL.out, hlt])
        have hfr3 := hb2.frozen k
        have HB2 := Lib.hid hb2
        have hxn : x / 2 ^ n ≤ x := Nat.div_le_self _ _
        clear hb2 hcell hfr3 hbel
        have hfr3 := HB2.out.frozen k
        go_region
        go_wp2_with fail
        go_roundw
        case rel =>
          rw [right_or hn gx gy]
          refine ⟨k + 1, (o.set k (x / 2 ^ n)).set k (x / 2 ^ n + (y % 2 ^ n) * 2 ^ (32 - n)), by omega, by go_num, ?_, by simp [HL.out], ?_, (hbel2.setCell (by exact Nat.le_refl _) _).drew⟩
          · rw [← ints_set _ (o.set k (x / 2 ^ n))]; exact (HB2.out.set _ _).drew
          · rw [List.set_set]
            refine shr_take HX.out (by have := HL.out; omega) HT.out ?_
            rw [HY.out]; rfl
        case measure => simp [intOf] <;> omega
      · go_wp2_with fail
        go_roundw
        case rel =>
          have e1 : ((x : Int) / 2 ^ n) = ((x / 2 ^ n : Nat) : Int) := by rw [Int.natCast_ediv, Int.natCast_pow]; rfl
          rw [e1]
          refine ⟨k + 1, o.set k (x / 2 ^ n), by omega, by go_num, ?_, by simp [HL.out], ?_, hbel.setCell (by exact Nat.le_refl _) _⟩
          · rw [← ints_set]; exact HBk.out.set _ _
          · refine shr_take HX.out (by have := HL.out; omega) HT.out ?_
            rw [List.getElem?_eq_none (by omega)]; simp
        case measure => simp [intOf] <;> omega
    · obtain rfl : k = la.length := by omega
      go_wp2_with fail
      have e : o = shr n la := by
        have := HT.out
        rw [List.take_of_length_le (by omega), List.take_of_length_le (by rw [shr_length]; omega)] at this
        exact this
      subst e
      have hsl : Sl wr (.slice (some ⟨w.heap.size, 0, none⟩) (shr n la).length la.length) (ints .u32 (shr n la)) := hblk.sl (ints_length _ _) (by omega) (by unfold maxLen; omega) (fun i u hu => by rw [Nat.zero_add]; exact hu)
      refine (trimmed_n _ _ (shr n la) la.length _ HL.out (by omega) hsl (shr_good hn ga)).mono ?_
      rintro e w' ⟨rfl, rfl⟩
      go_wp2_with fail
      go_ret
      rw [← shr_val hn]
      exact ⟨.slice (some ⟨w.heap.size, 0, none⟩) (dig 4294967296 (val 4294967296 (shr n la))).length la.length, rfl, hsl.dig (shr_good hn ga), (fun b hb => by cases hb; exact Nat.le_refl _), hbel⟩
end Go.Proofs.YtfeeiipohfpdiaaDoor
