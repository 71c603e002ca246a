/- Walks of the reference's numbers, base 10000: cut, at, Small, Plus. -/
import Derived.Test.YtfeeiipohfpdiaaDoorBig4
namespace Go.Proofs.YtfeeiipohfpdiaaDoor
set_option linter.unusedVariables false
set_option linter.unusedSimpArgs false
open Go.RowKit

theorem rowInts : RowTy Tryd.prog 71 3 (.int .i64 0) 8 := ⟨Tryd.underlying71, by kernel_rfl, rfl⟩

/-- cut: what it hands back is the front of what it was given -/
theorem cut_any (a : Option Addr) (cap : Nat) (l : List Nat) (w : World) (hm : l.length ≤ 1000000000) (hs : Sl w (.slice a l.length cap) (ints .i64 l)) :
    Calls Tryd.prog 79 #[.slice a l.length cap] w fun e w' => e = .returned (.slice a (cutL l).length cap) ∧ w = w' := by
  go_enter Tryd.func79, Tryd.ntmps79
  go_wp2
  go_loop [0] (fun v => ∃ k, k ≤ l.length ∧ v = .slice a k cap ∧ cutL (l.take k) = cutL l) (fun v => lenOf v)
  case atStart => exact ⟨l.length, Nat.le_refl _, rfl, by rw [List.take_length]⟩
  case round =>
    obtain ⟨k, hk, rfl, hcut⟩ := hrel
    have H := Lib.hid hcut; clear hcut
    have HS := Lib.hid hs; clear hs
    rcases k with _ | k
    · go_wp2
      go_ret
      exact ⟨by rw [← H.out]; rfl, rfl⟩
    · obtain ⟨x, hx⟩ : ∃ x, l[k]? = some x := ⟨l[k], List.getElem?_eq_getElem (by omega)⟩
      rcases HS.out.cases with ⟨h0, _⟩ | ⟨_, b, off, cap', e, hcap, hcm, _, hc⟩
      · have h1 := congrArg List.length h0
        simp [ints] at h1
        rw [h1] at hx; simp at hx
      rw [ints_length] at e hcap
      injection e with e1 e2 e3
      subst e1; subst e3
      have hcell := hc k _ (ints_get hx)
      have H2 := Lib.hid hx; clear hx hc e2
      unfold maxLen at hcm
      go_wp2
      · go_round
        case rel =>
          have hx0 : (↑x == (0 : Int)) = true := by assumption
          have h0 : x = 0 := by simpa using hx0
          subst h0
          exact ⟨k, by omega, rfl, by rw [← H.out, cutL_take_zero H2.out]⟩
        case measure => simp [lenOf]
      · have hx0 : (↑x == (0 : Int)) = false := by assumption
        have h0 : x ≠ 0 := by simpa using hx0
        go_ret
        refine ⟨?_, rfl⟩
        rw [← H.out, (cutL_take_pos H2.out h0).1]
        rfl

theorem cut_dig (a : Option Addr) (cap : Nat) (l : List Nat) (w : World) (hm : l.length ≤ 1000000000) (hs : Sl w (.slice a l.length cap) (ints .i64 l)) (g : Good 10000 l) :
    Calls Tryd.prog 79 #[.slice a l.length cap] w fun e w' => e = .returned (.slice a (dig 10000 (val 10000 l)).length cap) ∧ w = w' := by
  rw [← cutL_eq (by omega) g]
  exact cut_any a cap l w hm hs
theorem sl_digI {w : World} {a : Option Addr} {cap : Nat} {l : List Nat} (hs : Sl w (.slice a l.length cap) (ints .i64 l)) (g : Good 10000 l) :
    Sl w (.slice a (dig 10000 (val 10000 l)).length cap) (ints .i64 (dig 10000 (val 10000 l))) := by
  rw [← cutL_eq (by omega) g]
  have := hs.take (k := (cutL l).length) (by simpa using cutL_le l)
  rwa [ints_take, ← cutL_prefix] at this
/-- cut of a row of the call's own: the number's own digits -/
theorem cut_own {v : Value} {n : Nat} {l : List Nat} {base : Nat} (w : World) (hm : n ≤ 1000000000) (hrow : w.ownsRow base 3 1 v n (ints .i64 l)) (hl : l.length = n) (g : Good 10000 l) :
    Calls Tryd.prog 79 #[v] w fun e w' => (∃ q, e = .returned q ∧ Sl w q (ints .i64 (dig 10000 (val 10000 l))) ∧ ∀ b, q.ownBlock = some b → base ≤ b) ∧ w = w' := by
  subst hl
  have hsl := ownsRow_sl hrow
  obtain ⟨a3, cap3, rfl, -⟩ := hsl.open
  rw [ints_length] at hsl hrow ⊢
  refine (cut_dig _ _ _ _ hm hsl g).mono ?_
  rintro e w' ⟨rfl, rfl⟩
  exact ⟨⟨_, rfl, sl_digI hsl g, fun b hb => by
    cases a3 with
    | none => cases hb
    | some p => cases hb; exact (hrow.lt _ rfl).1⟩, rfl⟩

theorem at_any (a : Option Addr) (cap : Nat) (l : List Nat) (i : Nat) (w : World) (hm : l.length ≤ 1000000) (hi : i ≤ 1000000000) (hs : Sl w (.slice a l.length cap) (ints .i64 l)) :
    Calls Tryd.prog 94 #[.slice a l.length cap, .int .i64 ((i : Nat) : Int)] w fun e w' => e = .returned (.int .i64 ((l.getD i 0 : Nat) : Int)) ∧ w = w' := by
  by_cases hlt : i < l.length
  · obtain ⟨x, hx⟩ : ∃ x, l[i]? = some x := ⟨l[i], List.getElem?_eq_getElem hlt⟩
    obtain ⟨b1, off1, rfl, -, hc1, hc2, -, hcell⟩ := hs.at (ints_get hx)
    have e : l.getD i 0 = x := by rw [List.getD_eq_getElem?_getD, hx]; rfl
    rw [e]
    have HX := Lib.hid hx; clear hx hs e
    go_enter Tryd.func94, Tryd.ntmps94
    go_wp2
    go_ret
    exact ⟨rfl, rfl⟩
  · have e : l.getD i 0 = 0 := by rw [List.getD_eq_getElem?_getD, List.getElem?_eq_none (by omega)]; rfl
    rw [e]
    clear hs e
    go_enter Tryd.func94, Tryd.ntmps94
    go_wp2
    go_ret
    exact ⟨rfl, rfl⟩

theorem val_take_getD {B : Nat} (l : List Nat) (k : Nat) : val B (l.take (k + 1)) = val B (l.take k) + B ^ k * l.getD k 0 := by
  by_cases h : k < l.length
  · have hx : l[k]? = some l[k] := List.getElem?_eq_getElem h
    rw [val_take_succ hx, List.getD_eq_getElem?_getD, hx]; rfl
  · rw [List.getD_eq_getElem?_getD, List.getElem?_eq_none (by omega), List.take_of_length_le (by omega), List.take_of_length_le (by omega)]
    simp
theorem good_getD {B : Nat} (hB : 0 < B) {l : List Nat} (g : Good B l) (k : Nat) : l.getD k 0 < B := by
  rw [List.getD_eq_getElem?_getD]
  cases h : l[k]? with
  | none => exact hB
  | some x => exact good_get g h

/-- the number n, base 10000 -/
def RNum (w : World) (v : Value) (n : Nat) : Prop := Sl w v (ints .i64 (dig 10000 n))
theorem RNum.below {w w' : World} {v : Value} {n : Nat} (h : RNum w v n) (hb : Below w.heap.size w w') : RNum w' v n := Sl.below h hb
theorem RNum.alloc {w : World} {v : Value} {n : Nat} (h : RNum w v n) (o : Obj) : RNum (w.alloc o) v n := Sl.alloc h o
theorem RNum.drewN {w : World} {v : Value} {n k : Nat} (h : RNum w v n) : RNum (w.drewN k) v n := h
theorem RNum.open {w : World} {v : Value} {n : Nat} (h : RNum w v n) : ∃ a c, v = .slice a (dig 10000 n).length c ∧ Sl w (.slice a (dig 10000 n).length c) (ints .i64 (dig 10000 n)) := by
  obtain ⟨a, c, e, _, _⟩ := Sl.open h
  rw [ints_length] at e
  exact ⟨a, c, e, e ▸ h⟩
/-- how many digits, base 10000 -/
def rl (n : Nat) : Nat := (dig 10000 n).length

theorem small_step {m : Nat} {o : List Nat} {n : Nat} (h : o ++ dig 10000 m = dig 10000 n) (hm : 0 < m) : (o ++ [m % 10000]) ++ dig 10000 (m / 10000) = dig 10000 n := by
  rw [← h, dig_pos (by omega) hm, List.append_assoc]; rfl

set_option maxRecDepth 100000 in
set_option maxHeartbeats 400000 in
theorem small_any (n : Nat) (w : World) (hn : n < 18446744073709551616) :
    Calls Tryd.prog 45 #[.int .u64 ((n : Nat) : Int)] w fun e w' => ∃ q, e = .returned q ∧ RNum w' q n ∧ Fresh w q ∧ Below w.heap.size w w' := by
  go_enter Tryd.func45, Tryd.ntmps45
  go_wp2_with fail
  go_loopw [0, 3] (fun i out wr => ∃ k o m, i = .int .u64 ((m : Nat) : Int) ∧ m < 18446744073709551616 ∧ wr.ownsRow w.heap.size 3 1 out k (ints .i64 o) ∧ o ++ dig 10000 m = dig 10000 n ∧ k ≤ 20 ∧ k = o.length ∧ Below w.heap.size w wr) (fun i _ _ => (intOf i).toNat)
  case atStart => exact ⟨0, [], n, rfl, hn, World.ownsRow_nil _ _ _ _, rfl, by omega, rfl, Below.refl _ _⟩
  case round =>
    obtain ⟨k, o, m, rfl, hm, hrow, happ, hk, hko, hbel⟩ := hrel
    have HK := Lib.hid hko
    have HA := Lib.hid happ
    clear hko happ
    rcases Nat.eq_zero_or_pos m with h0 | h0
    · subst h0
      go_wp2_with fail
      go_ret
      have := HA.out
      rw [dig_zero, List.append_nil] at this
      refine ⟨_, rfl, ?_, ownsRow_fresh hrow, hbel⟩
      unfold RNum
      rw [← this]
      exact ownsRow_sl hrow
    · have h0' : (0 : Int) < (m : Int) := by omega
      have hk5 : k ≤ 5 := by
        have h1 := congrArg List.length HA.out
        have h2 := length_dig_le (B := 10000) (n := n) (k := 5) (by omega) (Nat.lt_of_lt_of_le hn (by decide))
        rw [List.length_append] at h1
        have := HK.out
        omega
      go_wp2_with (at_builtin; refine app_one rfl _ _ _ rfl rowInts w.heap.size (.int .i64 ((m % 10000 : Nat) : Int)) wr.heap.size (hrow.alloc _) rfl rfl (by simp) rfl (by omega) (by omega) (by have := hbel.size; simp; omega) ?_; intro v' w2 hrow2 hgrow2)
      go_roundw
      case rel =>
        refine ⟨k + 1, o ++ [m % 10000], m / 10000, by first | go_num | (congr 1; omega), by omega, by rw [ints_append]; exact hrow2, small_step HA.out h0, by omega, by rw [List.length_append, HK.out]; rfl, ?_⟩
        exact (hbel.alloc hbel.size _).grown hgrow2 (by have := hbel.size; simp; omega) (fun j hj => (hrow.lt j hj).1)
      case measure => simp [intOf] <;> omega
end Go.Proofs.YtfeeiipohfpdiaaDoor
