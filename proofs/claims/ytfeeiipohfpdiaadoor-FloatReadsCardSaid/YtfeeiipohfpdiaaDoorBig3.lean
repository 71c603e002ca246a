/- Walks of package big: which is greater; products. -/
import Derived.Test.YtfeeiipohfpdiaaDoorBig2
import Derived.Deep.QuietTactic
import Derived.BigQuiet
namespace Go.Proofs.YtfeeiipohfpdiaaDoor
set_option linter.unusedVariables false
set_option linter.unusedSimpArgs false
open Go.RowKit

def ord (a b : Nat) : Int := if a < b then -1 else if b < a then 1 else 0

theorem val_split {B : Nat} {l : List Nat} {j x : Nat} (h : l[j]? = some x) : val B l = val B (l.take j) + B ^ j * (x + B * val B (l.drop (j + 1))) := by
  have hl : j < l.length := (List.getElem?_eq_some_iff.1 h).1
  have e : l = l.take j ++ (x :: l.drop (j + 1)) := by
    have hx : l[j] = x := (List.getElem?_eq_some_iff.1 h).2
    rw [← hx, List.getElem_cons_drop hl, List.take_append_drop]
  conv => lhs; rw [e]
  rw [val_append, List.length_take, Nat.min_eq_left (by omega)]
  rfl
theorem good_take {B : Nat} {l : List Nat} (h : Good B l) (k : Nat) : Good B (l.take k) := fun x hx => h x (List.mem_of_mem_take hx)
theorem good_drop {B : Nat} {l : List Nat} (h : Good B l) (k : Nat) : Good B (l.drop k) := fun x hx => h x (List.mem_of_mem_drop hx)
theorem val_lt_of {B : Nat} (hB : 0 < B) {a b : List Nat} {j x y : Nat} (ga : Good B a) (hx : a[j]? = some x) (hy : b[j]? = some y) (hd : a.drop (j + 1) = b.drop (j + 1)) (h : x < y) : val B a < val B b := by
  rw [val_split hx, val_split hy, hd]
  have h1 := val_lt (good_take ga j)
  have hl : j < a.length := (List.getElem?_eq_some_iff.1 hx).1
  rw [List.length_take, Nat.min_eq_left (by omega)] at h1
  generalize B * val B (b.drop (j + 1)) = R
  have h2 : B ^ j * (x + R) + B ^ j ≤ B ^ j * (y + R) := by
    rw [← Nat.mul_succ]
    exact Nat.mul_le_mul_left _ (by omega)
  omega
theorem val_lt_of_len {B : Nat} (hB : 2 ≤ B) {a b : Nat} (h : (dig B a).length < (dig B b).length) : a < b := by
  have hb : 0 < b := by
    rcases Nat.eq_zero_or_pos b with rfl | hb
    · rw [dig_zero] at h; simp at h
    · exact hb
  have h1 := val_lt (good_dig hB a)
  rw [val_dig hB] at h1
  have h2 := pow_le_of_dig hB hb
  exact Nat.lt_of_lt_of_le h1 (Nat.le_trans (Nat.pow_le_pow_right (by omega) (by omega)) h2)

theorem trimmed_dig (a : Option Addr) (cap : Nat) (l : List Nat) (w : World) (hm : l.length ≤ 1000000000) (hs : Sl w (.slice a l.length cap) (ints .u32 l)) (g : Good 4294967296 l) :
    Calls Tryd.prog 83 #[.slice a l.length cap] w fun e w' => e = .returned (.slice a (dig 4294967296 (val 4294967296 l)).length cap) ∧ w = w' := by
  rw [← cutL_eq (by omega) g]
  exact trimmed_any a cap l w hm hs
theorem Sl.dig {w : World} {a : Option Addr} {cap : Nat} {l : List Nat} (hs : Sl w (.slice a l.length cap) (ints .u32 l)) (g : Good 4294967296 l) :
    Sl w (.slice a (dig 4294967296 (val 4294967296 l)).length cap) (ints .u32 (dig 4294967296 (val 4294967296 l))) := by
  rw [← cutL_eq (by omega) g]
  have := hs.take (k := (cutL l).length) (by simpa using cutL_le l)
  rwa [ints_take, ← cutL_prefix] at this
theorem length_dig_val {l : List Nat} (g : Good 4294967296 l) : (dig 4294967296 (val 4294967296 l)).length ≤ l.length := by
  rw [← cutL_eq (by omega) g]; exact cutL_le l

set_option maxRecDepth 100000 in
set_option maxHeartbeats 400000 in
theorem cmp_any (a b : Option Addr) (ca cb : Nat) (la lb : List Nat) (w : World) (hma : la.length ≤ 1000000) (hmb : lb.length ≤ 1000000)
    (ha : Sl w (.slice a la.length ca) (ints .u32 la)) (hb : Sl w (.slice b lb.length cb) (ints .u32 lb)) (ga : Good 4294967296 la) (gb : Good 4294967296 lb) :
    Calls Tryd.prog 90 #[.slice a la.length ca, .slice b lb.length cb] w fun e w' => e = .returned (.int .i64 (ord (val 4294967296 la) (val 4294967296 lb))) ∧ ∃ n, w' = w.drewN n := by
  have HA := Lib.hid (ha.dig ga)
  have HB := Lib.hid (hb.dig gb)
  have hla := length_dig_val ga
  have hlb := length_dig_val gb
  have gda := good_dig (B := 4294967296) (by omega) (val 4294967296 la)
  have gdb := good_dig (B := 4294967296) (by omega) (val 4294967296 lb)
  have c1 := trimmed_dig a ca la w (by omega) ha ga
  have c2 := trimmed_dig b cb lb w (by omega) hb gb
  have C1 := Lib.hid c1
  have C2 := Lib.hid c2
  clear c1 c2
  have V1 := Lib.hid (val_dig (B := 4294967296) (by omega) (val 4294967296 la))
  have V2 := Lib.hid (val_dig (B := 4294967296) (by omega) (val 4294967296 lb))
  have L1 := fun h => val_lt_of_len (B := 4294967296) (a := val 4294967296 la) (b := val 4294967296 lb) (by omega) h
  have L2 := fun h => val_lt_of_len (B := 4294967296) (a := val 4294967296 lb) (b := val 4294967296 la) (by omega) h
  have LL1 := Lib.hid L1
  have LL2 := Lib.hid L2
  clear L1 L2
  go_enter Tryd.func90, Tryd.ntmps90
  go_wp2_with fail
  refine C1.out.mono ?_
  rintro e w' ⟨rfl, rfl⟩
  go_wp2_with fail
  refine C2.out.mono ?_
  rintro e w' ⟨rfl, rfl⟩
  generalize hda : dig 4294967296 (val 4294967296 la) = da at *
  generalize hdb : dig 4294967296 (val 4294967296 lb) = db at *
  have HDA := Lib.hid hda
  have HDB := Lib.hid hdb
  clear C1 C2 ha hb hda hdb
  go_wp2_with fail
  · have h : da.length < db.length := by assumption
    go_ret
    exact ⟨ret_num (by rw [ord, if_pos (LL1.out h)]), 0, rfl⟩
  · have h : db.length < da.length := by assumption
    have h2 := LL2.out h
    go_ret
    exact ⟨ret_num (by rw [ord, if_neg (by omega), if_pos h2]), 0, rfl⟩
  · have hle : ¬ da.length < db.length := by assumption
    have hle2 : ¬ db.length < da.length := by assumption
    have hlen : da.length = db.length := by omega
    have HLN := Lib.hid hlen; clear hlen
    go_loopw [5] (fun i wr => ∃ j m, j ≤ da.length ∧ i = .int .i64 ((j : Nat) - 1 : Int) ∧ da.drop j = db.drop j ∧ wr = w.drewN m) (fun i _ => (intOf i + 1).toNat)
    case atStart => exact ⟨da.length, 0, Nat.le_refl _, rfl, by rw [List.drop_of_length_le (Nat.le_refl _), List.drop_of_length_le (by rw [HLN.out]; exact Nat.le_refl _)], rfl⟩
    case round =>
      obtain ⟨j, m, hj, rfl, hdr, rfl⟩ := hrel
      have HD := Lib.hid hdr; clear hdr
      rcases j with _ | j
      · go_wp2_with fail
        go_ret
        refine ⟨ret_num ?_, by first | exact ⟨_, rfl⟩ | (simp only [World.drewN_drewN]; exact ⟨_, rfl⟩)⟩
        have e : da = db := HD.out
        have ev : val 4294967296 la = val 4294967296 lb := by rw [← V1.out, ← V2.out, e]
        rw [ev, ord, if_neg (by omega), if_neg (by omega)]
      · obtain ⟨x, hx⟩ : ∃ x, da[j]? = some x := ⟨da[j], List.getElem?_eq_getElem (by omega)⟩
        obtain ⟨y, hy⟩ : ∃ y, db[j]? = some y := ⟨db[j], List.getElem?_eq_getElem (by omega)⟩
        have HX := Lib.hid hx
        have HY := Lib.hid hy
        obtain ⟨b1, off1, rfl, -, hc1, hc2, -, hcell⟩ := HA.out.at (ints_get hx)
        obtain ⟨b2, off2, rfl, -, hd1, hd2, -, hcell2⟩ := HB.out.at (ints_get hy)
        clear hx hy
        have e1 : ((j + 1 : Nat) : Int) - 1 = (j : Int) := by omega
        rw [e1]
        clear e1
        have hj' : j < da.length := by omega
        have hj2 : j < db.length := by omega
        go_wp2_with fail
        go_quiet (fail)
        go_wp2_with fail
        · have h : x < y := by assumption
          go_ret
          refine ⟨ret_num ?_, by first | exact ⟨_, rfl⟩ | (simp only [World.drewN_drewN]; exact ⟨_, rfl⟩)⟩
          have := val_lt_of (B := 4294967296) (by omega) gda HX.out HY.out HD.out h
          rw [V1.out, V2.out] at this
          rw [ord, if_pos this]
        go_quiet (fail)
        go_wp2_with fail
        · have h : y < x := by assumption
          go_ret
          refine ⟨ret_num ?_, by first | exact ⟨_, rfl⟩ | (simp only [World.drewN_drewN]; exact ⟨_, rfl⟩)⟩
          have := val_lt_of (B := 4294967296) (by omega) gdb HY.out HX.out HD.out.symm h
          rw [V1.out, V2.out] at this
          rw [ord, if_neg (by omega), if_pos this]
        · have h : ¬ x < y := by assumption
          have h2 : ¬ y < x := by assumption
          go_roundw
          case rel =>
            refine ⟨j, _, by omega, by first | rfl | go_num, ?_, by first | rfl | simp⟩
            have e : x = y := by omega
            have e1 := (List.getElem?_eq_some_iff.1 HX.out)
            have e2 := (List.getElem?_eq_some_iff.1 HY.out)
            rw [← List.getElem_cons_drop e1.1, ← List.getElem_cons_drop e2.1, HD.out, e1.2, e2.2, e]
          case measure => simp [intOf] <;> omega
end Go.Proofs.YtfeeiipohfpdiaaDoor
