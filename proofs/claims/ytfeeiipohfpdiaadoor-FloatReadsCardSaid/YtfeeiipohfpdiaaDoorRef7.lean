/- Walks of the reference: ReadFloat. -/
import Derived.Test.YtfeeiipohfpdiaaDoorRef6
import Derived.Test.YtfeeiipohfpdiaaDoorFlo5
namespace Go.Proofs.YtfeeiipohfpdiaaDoor
set_option linter.unusedVariables false
set_option linter.unusedSimpArgs false
open Go.RowKit

def isDig (l : List UInt8) (i : Nat) : Bool := match l[i]? with | some b => isD b | none => false

theorem isDig_some {l : List UInt8} {i : Nat} {b : UInt8} (h : l[i]? = some b) : isDig l i = isD b := by unfold isDig; rw [h]
theorem isDig_none {l : List UInt8} {i : Nat} (h : l[i]? = none) : isDig l i = false := by unfold isDig; rw [h]

theorem isDigit_any (s : ByteArray) (i : Nat) (w : World) (hs : s.size ≤ 1000) (hi : i ≤ 2000) :
    Calls Tryd.prog 32 #[.string s, .int .i64 ((i : Nat) : Int)] w fun e w' => e = .returned (.bool (isDig s.data.toList i)) ∧ w = w' := by
  by_cases hlt : i < s.size
  · rw [isDig_some (str_get hlt)]
    unfold isD
    have hlt' : (i : Int) < (s.size : Int) := by omega
    by_cases h48 : 48 ≤ (s[i]'hlt).toNat
    · have h48' : (48 : Int) ≤ ((s[i]'hlt).toNat : Int) := by omega
      by_cases h57 : (s[i]'hlt).toNat ≤ 57
      · have h57' : ((s[i]'hlt).toNat : Int) ≤ 57 := by omega
        rw [decide_eq_true h48, decide_eq_true h57]
        go_enter Tryd.func32, Tryd.ntmps32
        go_wp2_with fail
        go_ret
        exact ⟨rfl, rfl⟩
      · have h57' : ¬ ((s[i]'hlt).toNat : Int) ≤ 57 := by omega
        rw [decide_eq_true h48, decide_eq_false h57]
        go_enter Tryd.func32, Tryd.ntmps32
        go_wp2_with fail
        go_ret
        exact ⟨rfl, rfl⟩
    · have h48' : ¬ (48 : Int) ≤ ((s[i]'hlt).toNat : Int) := by omega
      rw [decide_eq_false h48]
      go_enter Tryd.func32, Tryd.ntmps32
      go_wp2_with fail
      go_ret
      exact ⟨rfl, rfl⟩
  · rw [isDig_none (List.getElem?_eq_none (by rw [bytes_length]; omega))]
    have hlt' : ¬ (i : Int) < (s.size : Int) := by omega
    go_enter Tryd.func32, Tryd.ntmps32
    go_wp2_with fail
    go_ret
    exact ⟨rfl, rfl⟩

/-- digits that are collected from place i on -/
def Coll (l : List UInt8) (i k : Nat) (d0 d : List UInt8) : Prop := i ≤ k ∧ d = d0 ++ (l.drop i).take (k - i) ∧ ((l.drop i).take (k - i)).all isD = true

theorem Coll.start (l : List UInt8) (i : Nat) (d0 : List UInt8) : Coll l i i d0 d0 := ⟨Nat.le_refl _, by rw [Nat.sub_self, List.take_zero, List.append_nil], by rw [Nat.sub_self]; rfl⟩
theorem Coll.step {l : List UInt8} {i k : Nat} {d0 d : List UInt8} {b : UInt8} (h : Coll l i k d0 d) (hb : l[k]? = some b) (hd : isDig l k = true) : Coll l i (k + 1) d0 (d ++ [b]) := by
  obtain ⟨h1, h2, h3⟩ := h
  have h4 : (l.drop i)[k - i]? = some b := by rw [List.getElem?_drop, ← hb]; congr 1; omega
  rw [isDig_some hb] at hd
  have e : (l.drop i).take (k + 1 - i) = (l.drop i).take (k - i) ++ [b] := by
    rw [show k + 1 - i = (k - i) + 1 by omega, List.take_add_one, h4]; rfl
  refine ⟨by omega, by rw [e, h2, List.append_assoc], ?_⟩
  rw [e, List.all_append, h3]
  simp [hd]
theorem Coll.done {l : List UInt8} {i k : Nat} {d0 d : List UInt8} (h : Coll l i k d0 d) (hk : k ≤ l.length) (hd : isDig l k = false) :
    d = d0 ++ (l.drop i).takeWhile isD ∧ k = i + ((l.drop i).takeWhile isD).length ∧ l.drop k = (l.drop i).dropWhile isD := by
  obtain ⟨h1, h2, h3⟩ := h
  obtain ⟨e1, e2⟩ := while_take h3 (fun b hb => by
    rw [List.getElem?_drop, show i + (k - i) = k by omega] at hb
    rwa [isDig_some hb] at hd)
  rw [e1, e2, List.drop_drop, show i + (k - i) = k by omega]
  refine ⟨h2, ?_, rfl⟩
  rw [List.length_take, List.length_drop]
  omega
theorem Coll.length {l : List UInt8} {i k : Nat} {d0 d : List UInt8} (h : Coll l i k d0 d) (h0 : d0.length ≤ i) : d.length ≤ k := by
  obtain ⟨h1, h2, h3⟩ := h
  rw [h2, List.length_append, List.length_take]
  omega
theorem str_one {s : ByteArray} {k : Nat} (h : k < s.size) : s.extract k (k + 1) = ⟨[s[k]'h].toArray⟩ := by
  ext1
  rw [ByteArray.data_extract]
  apply Array.ext'
  rw [Array.toList_extract, List.extract_eq_take_drop, show k + 1 - k = 1 by omega]
  have hk : k < s.data.toList.length := by rw [bytes_length]; exact h
  rw [List.drop_eq_getElem_cons hk]
  rfl

theorem head_is {c : UInt8} {l : List UInt8} : ((c.toNat : Int) == 45) = [45].isPrefixOf (c :: l) := by
  by_cases hc : c = 45
  · subst hc; simp
  · have h1 : ((c.toNat : Int) == 45) = false := (u8_ne (n := 45) (by omega) hc).1
    have h2 : ((45 : UInt8) == c) = false := beq_eq_false_iff_ne.2 (Ne.symm hc)
    rw [h1]
    show false = ((45 : UInt8) == c && List.isPrefixOf [] l)
    rw [h2]
    rfl

theorem head_is43 {c : UInt8} {l : List UInt8} : ((c.toNat : Int) == 43) = [43].isPrefixOf (c :: l) := by
  by_cases hc : c = 43
  · subst hc; simp
  · have h1 : ((c.toNat : Int) == 43) = false := (u8_ne (n := 43) (by omega) hc).1
    have h2 : ((43 : UInt8) == c) = false := beq_eq_false_iff_ne.2 (Ne.symm hc)
    rw [h1]
    show false = ((43 : UInt8) == c && List.isPrefixOf [] l)
    rw [h2]
    rfl

/-- an error's number or bits, of a literal -/
def tailR (sg : Nat) : Option (List UInt8 × Int) → Nat × Nat
  | none => (0, 4)
  | some (d, x) =>
    if decv d = 0 ∨ x < -500 then (sg, 0)
    else if 400 < x then (0, 7)
    else if near (decv d * 10 ^ x.toNat) (10 ^ (-x).toNat) = 9218868437227405312 then (0, 7) else (sg + near (decv d * 10 ^ x.toNat) (10 ^ (-x).toNat), 0)
def signR (sg : Nat) (rest : List UInt8) : Nat × Nat := if rest = [105, 110, 102] then (sg + 9218868437227405312, 0) else tailR sg (litOf expRef rest)
theorem readR_eq (l : List UInt8) : readR l = if 80 < l.length then (0, 2) else if l = [110, 97, 110] then (9221120237041090561, 0)
    else signR (if [45].isPrefixOf l then 9223372036854775808 else 0) (if [45].isPrefixOf l then l.drop 1 else l) := by
  unfold readR signR tailR
  split
  · rfl
  · split
    · rfl
    · simp only []
      split
      · rfl
      · cases litOf expRef (if [45].isPrefixOf l = true then l.drop 1 else l) with
        | none => rfl
        | some p => rfl

theorem idx_of {s : ByteArray} {A B : List UInt8} {b : UInt8} {n : Nat} (h : s.data.toList = A ++ b :: B) (hn : n = A.length) : ∀ h, s[n]'h = b := by
  intro hlt
  have h1 := str_get hlt
  subst hn
  rw [h] at h1
  simp at h1
  exact h1.symm
theorem idx_drop {s : ByteArray} {l B : List UInt8} {b : UInt8} {n : Nat} (hl : s.data.toList = l) (h : l.drop n = b :: B) : ∀ h, s[n]'h = b := by
  intro hlt
  have h1 := str_get hlt
  rw [hl] at h1
  have h2 : (l.drop n)[0]? = some b := by rw [h]; rfl
  rw [List.getElem?_drop, Nat.add_zero, h1] at h2
  injection h2
theorem drop_next {l B : List UInt8} {b : UInt8} {n : Nat} (h : l.drop n = b :: B) : l.drop (n + 1) = B := by
  rw [← List.drop_drop, h]; rfl
theorem tw_nil {l T : List UInt8} {i : Nat} (h : l.drop i = T) (hd : isDig l i = false) : T.takeWhile isD = [] := by
  cases T with
  | nil => rfl
  | cons b T =>
    have h2 : (l.drop i)[0]? = some b := by rw [h]; rfl
    rw [List.getElem?_drop, Nat.add_zero] at h2
    rw [isDig_some h2] at hd
    rw [List.takeWhile_cons, hd]; rfl
theorem tw_cons {l T : List UInt8} {i : Nat} (h : l.drop i = T) (hd : isDig l i = true) : (T.takeWhile isD).isEmpty = false := by
  cases T with
  | nil =>
    have h2 : (l.drop i)[0]? = none := by rw [h]; rfl
    rw [List.getElem?_drop, Nat.add_zero] at h2
    rw [isDig_none h2] at hd
    cases hd
  | cons b T =>
    have h2 : (l.drop i)[0]? = some b := by rw [h]; rfl
    rw [List.getElem?_drop, Nat.add_zero] at h2
    rw [isDig_some h2] at hd
    rw [List.takeWhile_cons, hd]; rfl
theorem expRef_le (l : List UInt8) (h : isDec l) : expRef l ≤ 99999 + 10000 := by
  have : ∀ (l : List UInt8) (a : Nat), isDec l → a ≤ 99999 + 10000 → l.foldl (fun a b => if a < 10000 then a * 10 + (b.toNat - 48) else a) a ≤ 99999 + 10000 := by
    intro l
    induction l with
    | nil => intro a _ h; exact h
    | cons c l ih =>
      intro a hd ha
      have hc := hd c (by simp)
      rw [List.foldl_cons]
      apply ih _ (fun x hx => hd x (by simp [hx]))
      split <;> omega
  exact this l 0 h (by omega)
theorem expRef_snoc (l : List UInt8) (b : UInt8) : expRef (l ++ [b]) = if expRef l < 10000 then expRef l * 10 + (b.toNat - 48) else expRef l := by
  unfold expRef
  rw [List.foldl_append]
  rfl
theorem isDec_two {a b : List UInt8} (h1 : isDec a) (h2 : isDec b) : isDec (a ++ b) := by
  intro x hx
  rcases List.mem_append.1 hx with hx | hx
  · exact h1 x hx
  · exact h2 x hx

end Go.Proofs.YtfeeiipohfpdiaaDoor
