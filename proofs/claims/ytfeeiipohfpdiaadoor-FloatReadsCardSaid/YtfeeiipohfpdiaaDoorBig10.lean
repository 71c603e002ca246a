/- Walks of package big: long division. -/
import Derived.Test.YtfeeiipohfpdiaaDoorBig9
namespace Go.Proofs.YtfeeiipohfpdiaaDoor
set_option linter.unusedVariables false
set_option linter.unusedSimpArgs false
open Go.RowKit

/-- a guess that is corrected is too great -/
theorem guess_big {B top nx u2 two guess rest M V U vlow : Nat} (ht : two = guess * top + rest) (hV : V = (top * B + nx) * M + vlow) (hU : U < (two * B + u2 + 1) * M) (h : rest * B + u2 < guess * nx) : U < guess * V := by
  have e : guess * (top * B + nx) = guess * top * B + guess * nx := by rw [Nat.mul_add, Nat.mul_assoc]
  have h1 : two * B + u2 + 1 ≤ guess * (top * B + nx) := by
    rw [e, ht, Nat.add_mul]; omega
  have h2 := Nat.mul_le_mul_right M h1
  have h3 : guess * V = guess * (top * B + nx) * M + guess * vlow := by rw [hV, Nat.mul_add guess, Nat.mul_assoc]
  omega

/-- a guess that stands is at most one too great -/
theorem guess_near {B top nx u2 two guess rest M V U vlow : Nat} (ht : two = guess * top + rest) (hV : V = (top * B + nx) * M + vlow) (hv : vlow < M) (hU : (two * B + u2) * M ≤ U) (htop : 0 < top) (hB : 0 < B) (hg : guess ≤ B) (h : guess * nx ≤ rest * B + u2) : guess * V < U + V := by
  have e : guess * (top * B + nx) = guess * top * B + guess * nx := by rw [Nat.mul_add, Nat.mul_assoc]
  have h1 : guess * (top * B + nx) ≤ two * B + u2 := by
    rw [e, ht, Nat.add_mul]; omega
  have h2 := Nat.mul_le_mul_right M h1
  have h3 : guess * V = guess * (top * B + nx) * M + guess * vlow := by rw [hV, Nat.mul_add, Nat.mul_assoc]
  have h7 : B * M ≤ V := by
    have h8 : 1 * B * M ≤ top * B * M := Nat.mul_le_mul_right M (Nat.mul_le_mul_right B htop)
    rw [Nat.one_mul] at h8
    have h9 : (top * B + nx) * M = top * B * M + nx * M := Nat.add_mul _ _ _
    omega
  by_cases hg0 : guess = 0
  · subst hg0
    have hM : 0 < B * M := Nat.mul_pos hB (by omega)
    rw [Nat.zero_mul]; omega
  · have h4 : guess * vlow < B * M := by
      have h5 : guess * vlow < guess * M := (Nat.mul_lt_mul_left (by omega)).2 hv
      have h6 := Nat.mul_le_mul_right M hg
      omega
    omega

/-- what is not greater than a power is told by the first words -/
theorem val_take_lt {B : Nat} (hB : 0 < B) {l : List Nat} {k : Nat} (h : val B l < B ^ k) : val B (l.take k) = val B l := by
  by_cases hk : l.length ≤ k
  · rw [List.take_of_length_le hk]
  · have e : val B l = val B (l.take k) + B ^ k * val B (l.drop k) := by
      conv => lhs; rw [← List.take_append_drop k l]
      rw [val_append, List.length_take, Nat.min_eq_left (by omega)]
    rcases Nat.eq_zero_or_pos (val B (l.drop k)) with h0 | h0
    · rw [h0] at e; omega
    · have := Nat.le_mul_of_pos_right (B ^ k) h0
      omega
theorem val_take_drop {B : Nat} (l : List Nat) (k : Nat) (hk : k ≤ l.length) : val B l = val B (l.take k) + B ^ k * val B (l.drop k) := by
  conv => lhs; rw [← List.take_append_drop k l]
  rw [val_append, List.length_take, Nat.min_eq_left hk]

theorem norm_len {n sh top : Nat} {lb : List Nat} (hlb : dig 4294967296 n = lb) (h0 : 0 < lb.length) (ht : lb[lb.length - 1]? = some top) (hz : top ≠ 0) (hsh : sh = 32 - blen top) (htl : top < 4294967296) : (dig 4294967296 (n * 2 ^ sh)).length = lb.length := by
  have hbl2 : blen top ≤ 32 := blen_le.2 (by omega)
  have hn : 0 < n := by
    rcases Nat.eq_zero_or_pos n with rfl | h
    · rw [dig_zero] at hlb; subst hlb; simp at h0
    · exact h
  have g : Good 4294967296 lb := by rw [← hlb]; exact good_dig (by omega) n
  have hv : val 4294967296 lb = n := by rw [← hlb]; exact val_dig (by omega) n
  apply Nat.le_antisymm
  · apply length_dig_le (by omega)
    have h1 := val_split (B := 4294967296) ht
    rw [hv, List.drop_of_length_le (by omega)] at h1
    simp only [val, Nat.mul_zero, Nat.add_zero] at h1
    have h2 := val_lt (good_take g (lb.length - 1))
    rw [List.length_take, Nat.min_eq_left (by omega)] at h2
    have h3 := lt_blen top
    have h4 : 4294967296 ^ lb.length = 4294967296 ^ (lb.length - 1) * (2 ^ blen top * 2 ^ sh) := by
      rw [← Nat.pow_add, show blen top + sh = 32 from by omega, ← Nat.pow_succ, Nat.succ_eq_add_one, show lb.length - 1 + 1 = lb.length from by omega]
    rw [h4, ← Nat.mul_assoc]
    apply Nat.mul_lt_mul_of_pos_right _ (Nat.pow_pos (by omega))
    have h5 : 4294967296 ^ (lb.length - 1) * (top + 1) ≤ 4294967296 ^ (lb.length - 1) * 2 ^ blen top := Nat.mul_le_mul_left _ h3
    rw [Nat.mul_add] at h5
    omega
  · have h1 := pow_le_of_dig (B := 4294967296) (by omega) hn
    rw [hlb] at h1
    have h2 : ¬ (dig 4294967296 (n * 2 ^ sh)).length < lb.length := by
      intro h
      have h3 := val_lt (good_dig (B := 4294967296) (by omega) (n * 2 ^ sh))
      rw [val_dig (by omega)] at h3
      have h4 : 4294967296 ^ (dig 4294967296 (n * 2 ^ sh)).length ≤ 4294967296 ^ (lb.length - 1) := Nat.pow_le_pow_right (by omega) (by omega)
      have h5 := Nat.le_mul_of_pos_right n (show 0 < 2 ^ sh from Nat.pow_pos (by omega))
      omega
    omega

theorem up_len {m sh : Nat} {la : List Nat} (hla : dig 4294967296 m = la) (hsh : sh ≤ 31) : la.length ≤ (dig 4294967296 (m * 2 ^ sh)).length ∧ (dig 4294967296 (m * 2 ^ sh)).length ≤ la.length + 1 := by
  rcases Nat.eq_zero_or_pos m with rfl | hm
  · rw [dig_zero] at hla; subst hla
    simp [dig_zero]
  · constructor
    · have h1 := pow_le_of_dig (B := 4294967296) (by omega) hm
      rw [hla] at h1
      have h2 : ¬ (dig 4294967296 (m * 2 ^ sh)).length < la.length := by
        intro h
        have h3 := val_lt (good_dig (B := 4294967296) (by omega) (m * 2 ^ sh))
        rw [val_dig (by omega)] at h3
        have h4 : 4294967296 ^ (dig 4294967296 (m * 2 ^ sh)).length ≤ 4294967296 ^ (la.length - 1) := Nat.pow_le_pow_right (by omega) (by omega)
        have h5 := Nat.le_mul_of_pos_right m (show 0 < 2 ^ sh from Nat.pow_pos (by omega))
        omega
      omega
    · apply length_dig_le (by omega)
      have h1 := val_lt (good_dig (B := 4294967296) (by omega) m)
      rw [val_dig (by omega), hla] at h1
      have h2 : 2 ^ sh < 4294967296 := Nat.pow_lt_pow_right (m := sh) (n := 32) (by omega) (by omega)
      rw [Nat.pow_succ]
      exact Nat.mul_lt_mul_of_le_of_lt (Nat.le_of_lt h1) h2 (by omega)

/-- a row of the call's own, its block known whole -/
theorem ownsRow_blk {w : World} {base : Nat} {e : TypeId} {v : Value} {n : Nat} {xs : List Value} (h : w.ownsRow base e 1 v n xs) (hn : 0 < n) :
    ∃ g cap rest, v = .slice (some ⟨g, 0, none⟩) n cap ∧ base ≤ g ∧ n ≤ cap ∧ cap ≤ 9223372036854775807 ∧ xs.length = n ∧ Blk w g e (xs ++ rest) := by
  obtain ⟨hl, h⟩ := h
  rcases h with ⟨_, rfl⟩ | ⟨g, cap, cur, rfl, hb, hg, hnc, hm, hs, ht⟩
  · omega
  · unfold maxLen at hm
    refine ⟨g, cap, cur.toList.drop n, rfl, hb, hnc, by omega, by omega, ?_⟩
    unfold Blk
    rw [← ht, Nat.mul_one, List.take_append_drop]
    exact hg

/-- the parts of a number by its three first words -/
theorem three_parts {l : List Nat} {k a b c : Nat} (g : Good 4294967296 l) (hl : l.length = k + 3) (ha : l[k + 2]? = some a) (hb : l[k + 1]? = some b) (hc : l[k]? = some c) :
    ((a * 4294967296 + b) * 4294967296 + c) * 4294967296 ^ k ≤ val 4294967296 l ∧ val 4294967296 l < ((a * 4294967296 + b) * 4294967296 + c + 1) * 4294967296 ^ k := by
  have h1 := val_split (B := 4294967296) hc
  rw [val_drop hb, val_drop ha, List.drop_of_length_le (by omega)] at h1
  have h2 := val_lt (good_take g k)
  rw [List.length_take, Nat.min_eq_left (by omega)] at h2
  simp only [val, Nat.mul_zero, Nat.add_zero] at h1
  rw [show c + 4294967296 * (b + 4294967296 * a) = (a * 4294967296 + b) * 4294967296 + c from by omega] at h1
  rw [h1, Nat.mul_comm (4294967296 ^ k), Nat.add_mul _ 1, Nat.one_mul]
  omega
theorem two_parts {l : List Nat} {k a b : Nat} (g : Good 4294967296 l) (hl : l.length = k + 2) (ha : l[k + 1]? = some a) (hb : l[k]? = some b) :
    ∃ z, z < 4294967296 ^ k ∧ val 4294967296 l = (a * 4294967296 + b) * 4294967296 ^ k + z := by
  have h1 := val_split (B := 4294967296) hb
  rw [val_drop ha, List.drop_of_length_le (by omega)] at h1
  have h2 := val_lt (good_take g k)
  rw [List.length_take, Nat.min_eq_left (by omega)] at h2
  simp only [val, Nat.mul_zero, Nat.add_zero] at h1
  rw [show b + 4294967296 * a = a * 4294967296 + b from by omega] at h1
  exact ⟨_, h2, by rw [h1, Nat.mul_comm (4294967296 ^ k)]; omega⟩

theorem or_two {u0 u1 : Nat} (h0 : u0 < 4294967296) (h1 : u1 < 4294967296) : bits BinOp.or IntKind.u64 ((u0 : Int) * 4294967296) (u1 : Int) = ((u0 * 4294967296 + u1 : Nat) : Int) := by
  rw [show ((u0 : Int) * 4294967296) = ((u0 * 4294967296 : Nat) : Int) from by omega, u64_or_nat _ _ (by omega) (by omega), nat_join 32 _ _ (by omega) h1]
theorem quo_u64 {x y : Nat} (h : x < 18446744073709551616) : IntKind.u64.wrap ((x : Int) / (y : Int)) = ((x / y : Nat) : Int) := by
  rw [IntKind.wrap_u64]
  have e : (x : Int) / (y : Int) = ((x / y : Nat) : Int) := by simp
  have h2 : x / y ≤ x := Nat.div_le_self _ _
  rw [e]
  generalize x / y = z at *
  omega
theorem rem_u64 {x y : Nat} : ((x : Int) % (y : Int)) = ((x % y : Nat) : Int) := by simp

theorem near_final {S V two vt vn u2 M vlow g r : Nat} (hV : V = (vt * 4294967296 + vn) * M + vlow) (hl : vlow < M) (h3 : (two * 4294967296 + u2) * M ≤ S) (hvt : 0 < vt) (ht : two = g * vt + r) (hg : g < 4294967296) (h : g * vn ≤ r * 4294967296 + u2) : g ≤ S / V + 1 := by
  have h1 := guess_near ht hV hl h3 hvt (by omega) (by omega) h
  have hV0 : 0 < V := by
    rcases Nat.eq_zero_or_pos V with h0 | h0
    · rw [h0] at h1; simp at h1
      have : 0 < (vt * 4294967296 + vn) * M := Nat.mul_pos (by omega) (by omega)
      omega
    · exact h0
  have h2 : g < S / V + 1 + 1 := by
    have h4 : S + V < (S / V + 1 + 1) * V := by
      have h5 := Nat.div_add_mod S V
      have h6 := Nat.mod_lt S hV0
      rw [Nat.add_mul, Nat.add_mul, Nat.one_mul, Nat.mul_comm (S / V)]
      omega
    exact Nat.lt_of_mul_lt_mul_right (Nat.lt_trans h1 h4)
  omega
theorem big_final {S V two vt vn u2 M vlow g r : Nat} (hV : V = (vt * 4294967296 + vn) * M + vlow) (h3 : S < (two * 4294967296 + u2 + 1) * M) (hV0 : 0 < V) (ht : two = g * vt + r) (h : r * 4294967296 + u2 < g * vn) : S / V < g := by
  rw [Nat.div_lt_iff_lt_mul hV0]
  exact guess_big ht hV h3 h
theorem two_lt {S V two vt vn u2 M vlow : Nat} (hV : V = (vt * 4294967296 + vn) * M + vlow) (hl : vlow < M) (hvn : vn < 4294967296) (h3 : (two * 4294967296 + u2) * M ≤ S) (hS : S < 4294967296 * V) : two < vt * 4294967296 + 4294967296 := by
  have h1 : (two * 4294967296 + u2) * M < 4294967296 * (vt * 4294967296 + vn + 1) * M := by
    have h2 : V < (vt * 4294967296 + vn + 1) * M := by rw [hV, Nat.add_mul _ 1, Nat.one_mul]; omega
    have h4 := Nat.mul_lt_mul_of_pos_left h2 (show 0 < 4294967296 by omega)
    rw [← Nat.mul_assoc] at h4
    omega
  have h5 := Nat.lt_of_mul_lt_mul_right h1
  omega
theorem prod_le {g v r u : Nat} (hg : g < 4294967296) (hv : v < 4294967296) (hr : 4294967296 ≤ r) : g * v ≤ r * 4294967296 + u := by
  have h1 : g * v ≤ 4294967296 * 4294967296 := Nat.mul_le_mul (by omega) (by omega)
  omega

/-- what is left when the right multiple is taken off: with the guess right, or one too great -/
theorem takes_right {S V P s bb q : Nat} (hV : 0 < V) (hs : s < P) (hSP : S < P) (hVP : V ≤ P) (hq : q = S / V) (h : s + q * V = S + bb * P) : bb = 0 ∧ s = S % V := by
  have h1 := Nat.div_add_mod S V
  rw [← hq, Nat.mul_comm] at h1
  rcases Nat.eq_zero_or_pos bb with h0 | h0
  · subst h0; omega
  · have := Nat.le_mul_of_pos_left P h0
    omega
theorem takes_over {S V P s bb q s' c : Nat} (hV : 0 < V) (hs : s < P) (hSP : S < P) (hVP : V ≤ P) (hbb : bb ≤ 1) (hq : q = S / V) (h : s + (q + 1) * V = S + bb * P) (hc : c ≤ 1) (hs' : s' < P) (h2 : s' + c * P = s + V) : bb = 1 ∧ s' = S % V := by
  have h1 := Nat.div_add_mod S V
  rw [← hq, Nat.mul_comm] at h1
  have h3 := Nat.mod_lt S hV
  rw [Nat.add_mul, Nat.one_mul] at h
  have hb : bb = 0 ∨ bb = 1 := by omega
  have hc' : c = 0 ∨ c = 1 := by omega
  rcases hb with rfl | rfl
  · omega
  · rcases hc' with rfl | rfl <;> omega

end Go.Proofs.YtfeeiipohfpdiaaDoor
