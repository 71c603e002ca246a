/- Walks of package big: what only reads. -/
import Derived.Test.YtfeeiipohfpdiaaDoorHeap
import Derived.Test.YtfeeiipohfpdiaaDoorNear
import Derived.Test.YtfeeiipohfpdiaaDoorProg
import Derived.Outline
namespace Go.Proofs.YtfeeiipohfpdiaaDoor
set_option linter.unusedVariables false
set_option linter.unusedSimpArgs false
open Go.RowKit
def lenOf : Value → Nat | .slice _ n _ => n | _ => 0

theorem cutL_take_zero {l : List Nat} {k : Nat} (hx : l[k]? = some 0) : cutL (l.take (k + 1)) = cutL (l.take k) := by
  rw [List.take_add_one, hx]
  exact cutL_snoc_zero _
theorem cutL_take_pos {l : List Nat} {k x : Nat} (hx : l[k]? = some x) (h : x ≠ 0) : (cutL (l.take (k + 1))).length = k + 1 ∧ cutL (l.take (k + 1)) = l.take (k + 1) := by
  have hl : k < l.length := (List.getElem?_eq_some_iff.1 hx).1
  have e : cutL (l.take (k + 1)) = l.take (k + 1) := by
    rw [List.take_add_one, hx]
    exact cutL_snoc_pos _ h
  refine ⟨?_, e⟩
  rw [e, List.length_take]; omega
theorem cutL_le (l : List Nat) : (cutL l).length ≤ l.length := by
  unfold cutL
  rw [List.length_reverse]
  have h := (List.dropWhile_sublist (p := fun x : Nat => x == 0) (l := l.reverse)).length_le
  rwa [List.length_reverse] at h
theorem cutL_prefix (l : List Nat) : cutL l = l.take (cutL l).length := by
  have h : ∀ n (l : List Nat), l.length = n → cutL l = l.take (cutL l).length := by
    intro n
    induction n with
    | zero => intro l h; obtain rfl := List.eq_nil_of_length_eq_zero h; rfl
    | succ n ih =>
      intro l h
      have hl : l = l.take (n + 1) := by rw [List.take_of_length_le (by omega)]
      obtain ⟨x, hx⟩ : ∃ x, l[n]? = some x := ⟨l[n], List.getElem?_eq_getElem (by omega)⟩
      by_cases h0 : x = 0
      · subst h0
        have e := cutL_take_zero hx
        rw [← hl] at e
        have h2 := ih (l.take n) (by rw [List.length_take]; omega)
        rw [e]
        have h3 := cutL_le (l.take n)
        rw [List.length_take] at h3
        rw [List.take_take, Nat.min_eq_left (by omega)] at h2
        exact h2
      · have e := cutL_take_pos hx h0
        rw [← hl] at e
        rw [e.1, e.2, hl]
        rw [List.take_take]; simp
  exact h _ l rfl

/-- trimmed: what it hands back is the front of what it was given -/
theorem trimmed_any (a : Option Addr) (cap : Nat) (l : List Nat) (w : World) (hm : l.length ≤ 1000000000) (hs : Sl w (.slice a l.length cap) (ints .u32 l)) :
    Calls Tryd.prog 83 #[.slice a l.length cap] w fun e w' => e = .returned (.slice a (cutL l).length cap) ∧ w = w' := by
  go_enter Tryd.func83, Tryd.ntmps83
  go_wp2
  go_loop [0] (fun v => ∃ k, k ≤ l.length ∧ v = .slice a k cap ∧ cutL (l.take k) = cutL l) (fun v => lenOf v)
  case atStart => exact ⟨l.length, Nat.le_refl _, rfl, by rw [List.take_length]⟩
  case round =>
    obtain ⟨k, hk, rfl, hcut⟩ := hrel
    have H := Lib.hid hcut; clear hcut
    have HS := Lib.hid hs; clear hs
    rcases k with _ | k
    · go_wp2
      go_ret
      exact ⟨by rw [← H.out]; rfl, rfl⟩
    · obtain ⟨x, hx⟩ : ∃ x, l[k]? = some x := ⟨l[k], List.getElem?_eq_getElem (by omega)⟩
      rcases HS.out.cases with ⟨h0, _⟩ | ⟨_, b, off, cap', e, hcap, hcm, _, hc⟩
      · have h1 := congrArg List.length h0
        simp [ints] at h1
        rw [h1] at hx; simp at hx
      rw [ints_length] at e hcap
      injection e with e1 e2 e3
      subst e1; subst e3
      have hcell := hc k _ (ints_get hx)
      have H2 := Lib.hid hx; clear hx hc e2
      unfold maxLen at hcm
      go_wp2
      · go_round
        case rel =>
          have hx0 : (↑x == (0 : Int)) = true := by assumption
          have h0 : x = 0 := by simpa using hx0
          subst h0
          exact ⟨k, by omega, rfl, by rw [← H.out, cutL_take_zero H2.out]⟩
        case measure => simp [lenOf]
      · have hx0 : (↑x == (0 : Int)) = false := by assumption
        have h0 : x ≠ 0 := by simpa using hx0
        go_ret
        refine ⟨?_, rfl⟩
        rw [← H.out, (cutL_take_pos H2.out h0).1]
        rfl
end Go.Proofs.YtfeeiipohfpdiaaDoor
