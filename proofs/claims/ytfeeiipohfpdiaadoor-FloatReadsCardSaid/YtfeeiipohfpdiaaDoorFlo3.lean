/- Walks of package float: digits, literal, Read. -/
import Derived.Test.YtfeeiipohfpdiaaDoorFlo2
import Derived.Test.YtfeeiipohfpdiaaDoorLit
namespace Go.Proofs.YtfeeiipohfpdiaaDoor
set_option linter.unusedVariables false
set_option linter.unusedSimpArgs false
open Go.RowKit

theorem str_upto (s : ByteArray) (k : Nat) : s.extract 0 k = ⟨(s.data.toList.take k).toArray⟩ := by
  ext1
  rw [ByteArray.data_extract]
  apply Array.ext'
  simp
theorem str_from (s : ByteArray) (k : Nat) : s.extract k s.size = ⟨(s.data.toList.drop k).toArray⟩ := by
  ext1
  rw [ByteArray.data_extract]
  apply Array.ext'
  rw [← bytes_length s, Array.toList_extract, List.extract_eq_take_drop, List.take_of_length_le (by simp)]
theorem while_take {α : Type} {p : α → Bool} {l : List α} {k : Nat} (h : (l.take k).all p = true) (he : ∀ b, l[k]? = some b → p b = false) : l.takeWhile p = l.take k ∧ l.dropWhile p = l.drop k := by
  have h2 : ∀ a ∈ l.take k, p a = true := by simpa using h
  have e : (l.drop k).takeWhile p = [] ∧ (l.drop k).dropWhile p = l.drop k := by
    cases hd : l.drop k with
    | nil => simp
    | cons b r =>
      have : l[k]? = some b := by
        have h3 : (l.drop k)[0]? = some b := by rw [hd]; rfl
        rwa [List.getElem?_drop, Nat.add_zero] at h3
      have := he b this
      simp [this]
  have e2 : l.takeWhile p = (l.take k ++ l.drop k).takeWhile p := by rw [List.take_append_drop]
  have e3 : l.dropWhile p = (l.take k ++ l.drop k).dropWhile p := by rw [List.take_append_drop]
  rw [List.takeWhile_append_of_pos h2, e.1, List.append_nil] at e2
  rw [List.dropWhile_append_of_pos h2, e.2] at e3
  exact ⟨e2, e3⟩
theorem str_get {s : ByteArray} {k : Nat} (h : k < s.size) : s.data.toList[k]? = some (s[k]'h) := by
  rw [List.getElem?_eq_getElem (by rw [bytes_length]; exact h)]
  rfl

set_option maxRecDepth 1000000 in
theorem digits_any (s : ByteArray) (w : World) (hs : s.size ≤ 1000000) :
    Calls Tryd.prog 69 #[.string s] w fun e w' => e = .returned (.tuple #[.string ⟨(s.data.toList.takeWhile isD).toArray⟩, .string ⟨(s.data.toList.dropWhile isD).toArray⟩]) ∧ ∃ n, w' = w.drewN n := by
  go_enter Tryd.func69, Tryd.ntmps69
  go_wp2_with fail
  go_loop [4] (fun n => ∃ k, k ≤ s.size ∧ n = .int .i64 ((k : Nat) : Int) ∧ (s.data.toList.take k).all isD = true) (fun n => s.size - (intOf n).toNat)
  case atStart => exact ⟨0, Nat.zero_le _, rfl, rfl⟩
  case round =>
    obtain ⟨k, hk, rfl, hall⟩ := hrel
    have HALL := Lib.hid hall
    clear hall
    by_cases hlt : k < s.size
    · have hlt' : (k : Int) < (s.size : Int) := by omega
      by_cases h48 : 48 ≤ (s[k]'hlt).toNat
      · have h48' : (48 : Int) ≤ ((s[k]'hlt).toNat : Int) := by omega
        by_cases h57 : (s[k]'hlt).toNat ≤ 57
        · have h57' : ((s[k]'hlt).toNat : Int) ≤ 57 := by omega
          go_wp2_with fail
          refine ⟨⟨k + 1, by omega, rfl, ?_⟩, by simp [intOf]; omega⟩
          rw [List.take_add_one, str_get hlt, List.all_append, HALL.out]
          simp [isD, h48, h57]
        · have h57' : ¬ ((s[k]'hlt).toNat : Int) ≤ 57 := by omega
          go_wp2_with fail
          go_quiet (fail)
          go_wp2_with fail
          go_ret2
          obtain ⟨e1, e2⟩ := while_take HALL.out (fun b hb => by rw [str_get hlt] at hb; cases hb; simp [isD, h57])
          refine ⟨?_, nq, rfl⟩
          rw [str_upto, str_from, e1, e2]; rfl
      · have h48' : ¬ (48 : Int) ≤ ((s[k]'hlt).toNat : Int) := by omega
        go_wp2_with fail
        go_quiet (fail)
        go_wp2_with fail
        go_ret2
        obtain ⟨e1, e2⟩ := while_take HALL.out (fun b hb => by rw [str_get hlt] at hb; cases hb; simp [isD, h48])
        refine ⟨?_, nq, rfl⟩
        rw [str_upto, str_from, e1, e2]; rfl
    · have hlt' : ¬ (k : Int) < (s.size : Int) := by omega
      go_wp2_with fail
      go_quiet (fail)
      go_wp2_with fail
      go_ret2
      obtain ⟨e1, e2⟩ := while_take HALL.out (fun b hb => by rw [List.getElem?_eq_none (by rw [bytes_length]; omega)] at hb; cases hb)
      refine ⟨?_, nq, rfl⟩
      rw [str_upto, str_from, e1, e2]; rfl
end Go.Proofs.YtfeeiipohfpdiaaDoor
