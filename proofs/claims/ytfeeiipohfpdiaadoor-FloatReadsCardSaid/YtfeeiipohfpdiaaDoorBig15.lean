/- Walks of package big: shifts to the left, powers, digits read. -/
import Derived.Test.YtfeeiipohfpdiaaDoorBig14
import Derived.Deep.RegionLaw
namespace Go.Proofs.YtfeeiipohfpdiaaDoor
set_option linter.unusedVariables false
set_option linter.unusedSimpArgs false
open Go.RowKit

theorem dig_shift {m n : Nat} (hm : 0 < m) : List.replicate (n / 32) 0 ++ dig 4294967296 (m * 2 ^ (n % 32)) = dig 4294967296 (m * 2 ^ n) := by
  have e : val 4294967296 (List.replicate (n / 32) 0 ++ dig 4294967296 (m * 2 ^ (n % 32))) = m * 2 ^ n := by
    rw [val_append, val_replicate, Nat.zero_add, List.length_replicate, val_dig (by omega), show (4294967296 : Nat) = 2 ^ 32 from rfl, ← Nat.pow_mul, Nat.mul_left_comm, ← Nat.pow_add, Nat.div_add_mod]
  rw [← e, dig_val (by omega)]
  · intro x hx
    rcases List.mem_append.1 hx with h | h
    · have := List.eq_of_mem_replicate h; omega
    · exact good_dig (by omega) _ x h
  · intro x hx
    have hp : 0 < m * 2 ^ (n % 32) := Nat.mul_pos hm (Nat.pow_pos (by omega))
    have hne : dig 4294967296 (m * 2 ^ (n % 32)) ≠ [] := by
      rw [Ne, dig_eq_nil (by omega)]; omega
    rw [List.getLast?_append, List.getLast?_eq_some_getLast hne, Option.some_or] at hx
    rw [← List.getLast?_eq_some_getLast hne] at hx
    exact dig_top (by omega) _ x hx

theorem blk_made (w : World) (k : Nat) : Blk (w.alloc (.cells (Array.replicate k (.int .u32 0)) 76)) w.heap.size 76 (ints .u32 (List.replicate k 0)) := by
  have := Blk.new w (List.replicate k (Value.int .u32 0)) 76
  simpa [ints] using this
theorem blk_own {w : World} {g base k : Nat} (h : Blk w g 76 (ints .u32 (List.replicate k 0))) (hb : base ≤ g) (hk : k ≤ 1000) : w.ownsRow base 76 1 (.slice (some ⟨g, 0, none⟩) k k) k (ints .u32 (List.replicate k 0)) := by
  have := h.owns hb (Nat.le_refl k) (by unfold maxLen; omega) (by simp [ints])
  rwa [List.take_of_length_le (by simp [ints])] at this
theorem own_a {w w1 : World} {k : Nat} (hb : Below (w.alloc (.cells (Array.replicate k (.int .u32 0)) 76)).drew.heap.size (w.alloc (.cells (Array.replicate k (.int .u32 0)) 76)).drew w1) (hk : k ≤ 1000) :
    w1.ownsRow w.heap.size 76 1 (.slice (some ⟨w.heap.size, 0, none⟩) k k) k (ints .u32 (List.replicate k 0)) :=
  blk_own (((blk_made w k).drew).below hb (by simp)) (Nat.le_refl _) hk
theorem own_b {w w1 : World} {k : Nat} (hb : Below w.drew.heap.size w.drew w1) (hk : k ≤ 1000) :
    (w1.alloc (.cells (Array.replicate k (.int .u32 0)) 76)).ownsRow w.heap.size 76 1 (.slice (some ⟨w1.heap.size, 0, none⟩) k k) k (ints .u32 (List.replicate k 0)) :=
  blk_own (blk_made w1 k) (by have := hb.size; simpa using this) hk

theorem shift_end {w w' : World} {v' : Value} {m n : Nat} (h0 : 0 < m)
    (hrow : w'.ownsRow w.heap.size 76 1 v' (n / 32 + (ints .u32 (dig 4294967296 (m * 2 ^ (n % 32)))).length) (ints .u32 (List.replicate (n / 32) 0) ++ ints .u32 (dig 4294967296 (m * 2 ^ (n % 32))))) (hb : Below w.heap.size w w') :
    ∃ q, Ending.returned (.tuple #[v', .int .i64 0]) = .returned (.tuple #[q, .int .i64 0]) ∧ Num w' q (m * 2 ^ n) ∧ Fresh w q ∧ Below w.heap.size w w' := by
  refine ⟨v', rfl, ?_, ownsRow_fresh hrow, hb⟩
  have := ownsRow_sl hrow
  rw [← ints_append, dig_shift h0] at this
  exact this
theorem own_lies {w w' : World} {base : Nat} {e : TypeId} {k n : Nat} {g : Nat} {xs : List Value} (h : w.ownsRow base e 1 (.slice (some ⟨g, 0, none⟩) k k) n xs) : base ≤ g := (h.lt g rfl).1

set_option maxRecDepth 1000000 in
set_option maxHeartbeats 1000000 in
theorem shift_any (a : Option Addr) (ca n : Nat) (la : List Nat) (w : World) (hma : la.length ≤ 100000) (hn : n ≤ 4000)
    (ha : Sl w (.slice a la.length ca) (ints .u32 la)) (ga : Good 4294967296 la) :
    Calls Tryd.prog 36 #[.slice a la.length ca, .int .i64 ((n : Nat) : Int)] w fun e w' => ∃ q, e = .returned (.tuple #[q, .int .i64 0]) ∧ Num w' q (val 4294967296 la * 2 ^ n) ∧ Fresh w q ∧ Below w.heap.size w w' := by
  obtain ⟨m, hm⟩ : ∃ m, val 4294967296 la = m := ⟨_, rfl⟩
  have ta := trimmed_dig a ca la w (by omega) ha ga
  have sa := ha.dig ga
  have hla := length_dig_val ga
  rw [hm] at ta sa hla
  rw [hm]
  obtain ⟨ld, hld⟩ : ∃ ld, dig 4294967296 m = ld := ⟨_, rfl⟩
  rw [hld] at ta sa hla
  have TA := Lib.hid ta
  have SA := Lib.hid sa
  have HLD := Lib.hid hld
  clear ta sa hm ha
  have hn4 : ¬ (4000 : Int) < (n : Int) := by omega
  rcases Nat.eq_zero_or_pos m with h0 | h0
  · subst h0
    rw [dig_zero] at hld
    subst hld
    clear HLD
    go_enter Tryd.func36, Tryd.ntmps36
    go_wp2_with fail
    refine TA.out.mono ?_
    rintro e w' ⟨rfl, rfl⟩
    go_wp2_with fail
    go_ret2
    exact ⟨.slice none 0 0, rfl, by rw [Nat.zero_mul]; exact Num.nil _, Fresh.nil _, Below.refl _ _⟩
  · have hl0 : ((ld.length : Int) == 0) = false := by
      have : ld.length ≠ 0 := by
        intro h
        have := (dig_eq_nil (B := 4294967296) (n := m) (by omega)).1 (by rw [hld]; exact List.eq_nil_of_length_eq_zero h)
        omega
      simp
      intro h; exact this (by rw [h]; rfl)
    clear hld
    go_enter Tryd.func36, Tryd.ntmps36
    go_wp2_with fail
    refine TA.out.mono ?_
    rintro e w' ⟨rfl, rfl⟩
    go_wp2_with fail
    have hmk := run_mk rowWords rfl (n / 32) (n / 32) (Nat.le_refl _) (by omega) (by omega)
    have e32 : ((n / 32 : Nat) : Int) = (n : Int) / 32 := by omega
    have e33 : ((n % 32 : Nat) : Int) = (n : Int) % 32 := by omega
    rw [e32] at hmk
    have LF := fun (w' : World) (hw : Sl w' (.slice a ld.length ca) (ints .u32 ld)) => left_any a ca m (n % 32) w' ld HLD.out (by omega) (by omega) hw
    rw [e33] at LF
    have HLF := Lib.hid LF
    clear LF e32 e33
    have hw1 : IntKind.i64.wrap ((n : Int) / 32) = (n : Int) / 32 := by rw [IntKind.wrap_i64]; omega
    have hw2 : IntKind.i64.wrap ((n : Int) % 32) = (n : Int) % 32 := by rw [IntKind.wrap_i64]; omega
    have hlen := (up_len HLD.out (show n % 32 ≤ 31 by omega)).2
    go_region_law (first | (go_simp; go_at_call 84; refine (HLF.out _ (by first | exact SA.out | exact SA.out.alloc _ | exact SA.out.drew | exact (SA.out.alloc _).drew)).mono ?_; rintro e w1 ⟨v, rfl, hrv, hb1⟩) | (refine step_app_all rfl (.tmp 20) (.tmp 24) 66 rfl rowWords w.heap.size (n := n / 32) (xs := ints .u32 (List.replicate (n / 32) 0)) (news := ints .u32 (dig 4294967296 (m * 2 ^ (n % 32)))) (vx := v) ?_ rfl rfl ?_ ints_one ?_ ?_ ?_ ?_; (first | exact own_a hb1 (by omega) | exact own_b hb1 (by omega)); (first | exact ownsRow_sl hrv | exact (ownsRow_sl hrv).alloc _); (rw [ints_length]; omega); (rw [ints_length]; omega); (have := hb1.size; simp at this ⊢; omega); intro v' w' hrow' hgrow'))
    all_goals go_wp2_with fail
    · go_ret2
      refine shift_end h0 hrow' (Below.grown ?_ hgrow' ?_ ?_)
      · exact (((Below.refl _ w).alloc (Nat.le_refl _) _).drew).trans (hb1.mono (by simp))
      · have := hb1.size; simp at this ⊢; omega
      · intro k hk; cases hk; exact Nat.le_refl _
    · go_ret2
      refine shift_end h0 hrow' (Below.grown (w := w1.alloc (.cells (Array.replicate (n / 32) (.int .u32 0)) 76)) ?_ hgrow' ?_ ?_)
      · exact ((Below.refl _ w).drew.trans hb1).alloc (by have := hb1.size; simpa using this) _
      · have := hb1.size; simp at this ⊢; omega
      · intro k hk; cases hk; have := hb1.size; simpa using this
end Go.Proofs.YtfeeiipohfpdiaaDoor
