/- Walks of package big: copies; one word; shifts by less than a word. -/
import Derived.Test.YtfeeiipohfpdiaaDoorBig5
namespace Go.Proofs.YtfeeiipohfpdiaaDoor
set_option linter.unusedVariables false
set_option linter.unusedSimpArgs false
open Go.RowKit

set_option maxRecDepth 100000 in
set_option maxHeartbeats 400000 in
theorem trim_any (a : Option Addr) (ca : Nat) (la : List Nat) (w : World) (hma : la.length ≤ 1000000)
    (ha : Sl w (.slice a la.length ca) (ints .u32 la)) (ga : Good 4294967296 la) :
    Calls Tryd.prog 77 #[.slice a la.length ca] w fun e w' => ∃ v, e = .returned v ∧ Sl w' v (ints .u32 (dig 4294967296 (val 4294967296 la))) ∧ Fresh w v ∧ Below w.heap.size w w' := by
  have HA := Lib.hid (ha.dig ga)
  have hla := length_dig_val ga
  have C1 := Lib.hid (trimmed_dig a ca la w (by omega) ha ga)
  go_enter Tryd.func77, Tryd.ntmps77
  go_wp2_with fail
  refine C1.out.mono ?_
  rintro e w' ⟨rfl, rfl⟩
  generalize hda : dig 4294967296 (val 4294967296 la) = da at *
  have HDA := Lib.hid hda
  clear C1 ha hda
  go_wp2_with (at_builtin; refine app_all rfl _ _ _ rfl rowWords w.heap.size (World.ownsRow_nil _ _ _ _) rfl rfl HA.out ints_one (by simp only [ints_length]; omega) (by simp only [ints_length]; omega) (Nat.le_refl _) ?_; intro v' w2 hrow2 hgrow2)
  go_ret
  rw [List.nil_append, ← HDA.out] at hrow2
  exact ⟨v', rfl, ownsRow_sl hrow2, ownsRow_fresh hrow2, (Below.refl _ _).grown hgrow2 (Nat.le_refl _) (fun k hk => by cases hk)⟩

theorem trimmed_n (a : Option Addr) (cap : Nat) (l : List Nat) (n : Nat) (w : World) (hn : l.length = n) (hm : n ≤ 1000000000) (hs : Sl w (.slice a l.length cap) (ints .u32 l)) (g : Good 4294967296 l) :
    Calls Tryd.prog 83 #[.slice a n cap] w fun e w' => e = .returned (.slice a (dig 4294967296 (val 4294967296 l)).length cap) ∧ w = w' := by
  subst hn
  exact trimmed_dig a cap l w hm hs g

/-- one word more of a quotient, from the top -/
theorem quo_step {B c r a q r' D Q : Nat} (hq : q = (r * B + a) / c) (hr : r' = (r * B + a) % c) (h : D = Q * c + r) : a + B * D = (q + B * Q) * c + r' := by
  have h1 := Nat.div_add_mod (r * B + a) c
  rw [← hq, ← hr] at h1
  rw [h, Nat.mul_add, Nat.add_mul, ← Nat.mul_assoc B Q c, Nat.mul_comm B r, Nat.mul_comm q c]
  omega
theorem val_drop {B : Nat} {l : List Nat} {j x : Nat} (h : l[j]? = some x) : val B (l.drop j) = x + B * val B (l.drop (j + 1)) := by
  have hl : j < l.length := (List.getElem?_eq_some_iff.1 h).1
  have hx : l[j] = x := (List.getElem?_eq_some_iff.1 h).2
  rw [← List.getElem_cons_drop hl, hx]; rfl

set_option maxRecDepth 100000 in
set_option maxHeartbeats 400000 in
theorem byWord_any (a : Option Addr) (ca : Nat) (la : List Nat) (c : Nat) (w : World) (hma : la.length ≤ 1000000)
    (ha : Sl w (.slice a la.length ca) (ints .u32 la)) (ga : Good 4294967296 la) (hc0 : 0 < c) (hc : c < 4294967296) :
    Calls Tryd.prog 128 #[.slice a la.length ca, .int .u32 ((c : Nat) : Int)] w fun e w' => ∃ v, e = .returned (.tuple #[v, .int .u32 ((val 4294967296 la % c : Nat) : Int)]) ∧ Sl w' v (ints .u32 (dig 4294967296 (val 4294967296 la / c))) ∧ Fresh w v ∧ Below w.heap.size w w' := by
  have HA := Lib.hid ha; clear ha
  go_enter Tryd.func128, Tryd.ntmps128
  go_wp2_with (at_make; refine mk_row rfl _ _ _ rfl rowWords rfl .i64 .i64 _ _ la.length la.length rfl rfl (by omega) (by omega) (by omega) (by omega) (by omega) ?_; intro w1 hblk hb1 hsz1)
  have hblk0 : Blk w1 w.heap.size 76 (ints .u32 (List.replicate la.length 0)) := by simpa [ints] using hblk
  clear hblk
  go_loopw [7, 8] (fun r i wr => ∃ j q rn, j ≤ la.length ∧ i = .int .i64 ((j : Nat) - 1 : Int) ∧ r = .int .u32 ((rn : Nat) : Int) ∧ rn < c ∧ Blk wr w.heap.size 76 (ints .u32 q) ∧ q.length = la.length ∧ Good 4294967296 q ∧
      val 4294967296 (la.drop j) = val 4294967296 (q.drop j) * c + rn ∧ Below w.heap.size w wr) (fun _ i _ => (intOf i + 1).toNat)
  case atStart => exact ⟨la.length, _, 0, Nat.le_refl _, rfl, rfl, hc0, hblk0, by simp, (fun x hx => by have := List.eq_of_mem_replicate hx; omega), by rw [List.drop_of_length_le (Nat.le_refl _), List.drop_of_length_le (by simp)]; simp [val], hb1⟩
  case round =>
    obtain ⟨j, q, rn, hj, rfl, rfl, hrn, hblk, hql, hgq, hval, hbel⟩ := hrel
    have HV := Lib.hid hval; clear hval
    have HL := Lib.hid hql
    rcases j with _ | j
    · go_wp2_with fail
      have hsl : Sl wr (.slice (some ⟨w.heap.size, 0, none⟩) q.length la.length) (ints .u32 q) := hblk.sl (ints_length _ _) (by omega) (by unfold maxLen; omega) (fun i u hu => by rw [Nat.zero_add]; exact hu)
      refine (trimmed_n _ _ q la.length _ HL.out (by omega) hsl hgq).mono ?_
      rintro e w' ⟨rfl, rfl⟩
      go_wp2_with fail
      go_ret2
      have hv := HV.out
      rw [List.drop_zero, List.drop_zero] at hv
      have hq : val 4294967296 la / c = val 4294967296 q := by rw [hv, Nat.mul_comm, Nat.mul_add_div hc0, Nat.div_eq_of_lt hrn]; rfl
      have hr : val 4294967296 la % c = rn := by rw [hv, Nat.mul_comm, Nat.mul_add_mod]; exact Nat.mod_eq_of_lt hrn
      rw [hq, hr]
      exact ⟨.slice (some ⟨w.heap.size, 0, none⟩) (dig 4294967296 (val 4294967296 q)).length la.length, rfl, hsl.dig hgq, (fun b hb => by cases hb; exact Nat.le_refl _), hbel⟩
    · obtain ⟨x, hx⟩ : ∃ x, la[j]? = some x := ⟨la[j], List.getElem?_eq_getElem (by omega)⟩
      have gx := good_get ga hx
      obtain ⟨b1, off1, rfl, -, hc1, hc2, -, hcell⟩ := (HA.out.below hbel).at (ints_get hx)
      have HX := Lib.hid hx; clear hx
      obtain ⟨z, hz⟩ : ∃ z, q[j]? = some z := ⟨q[j], List.getElem?_eq_getElem (by omega)⟩
      have hcell3 : wr.cell? ⟨w.heap.size, j, none⟩ = some (.int .u32 ((z : Nat) : Int)) := by rw [hblk.cell]; exact ints_get hz
      have hfr3 := hblk.frozen j
      have HBk := Lib.hid hblk
      have HZ := Lib.hid hz
      clear hz hblk hql
      have e1 : ((j + 1 : Nat) : Int) - 1 = (j : Int) := by omega
      rw [e1]
      clear e1
      have hj' : j < la.length := by omega
      go_wp2_with fail
      refine (div32_any rn x c _ wr hrn gx hc rfl).mono ?_
      rintro e w' ⟨rfl, nd, rfl⟩
      have hq1 : (rn * 4294967296 + x) / c < 4294967296 := by
        rw [Nat.div_lt_iff_lt_mul hc0]
        have := Nat.mul_le_mul_right 4294967296 (show rn + 1 ≤ c from hrn)
        omega
      have hr1 := Nat.mod_lt (rn * 4294967296 + x) hc0
      have HQ := Lib.hid hq1
      have HR := Lib.hid hr1
      clear hq1 hr1
      go_wp2_with fail
      go_roundw
      case rel =>
        refine ⟨j, q.set j ((rn * 4294967296 + x) / c), (rn * 4294967296 + x) % c, by omega, by first | rfl | go_num, rfl, HR.out, ?_, by simp [HL.out], good_set hgq HQ.out, ?_, ?_⟩
        · rw [← ints_set]; exact HBk.out.drewN.set _ _
        · have h2 : (q.set j ((rn * 4294967296 + x) / c))[j]? = some ((rn * 4294967296 + x) / c) := by simp [HL.out, hj']
          rw [val_drop HX.out, val_drop h2, drop_set_succ]
          exact quo_step rfl rfl HV.out
        · exact (below_drewN hbel nd).setCell (by exact Nat.le_refl _) _
      case measure => simp [intOf] <;> omega
end Go.Proofs.YtfeeiipohfpdiaaDoor
