/- Walks of package float: Read. -/
import Derived.Test.YtfeeiipohfpdiaaDoorFlo4
namespace Go.Proofs.YtfeeiipohfpdiaaDoor
set_option linter.unusedVariables false
set_option linter.unusedSimpArgs false
open Go.RowKit

theorem or_top {b : Nat} (hb : b < 9223372036854775808) : bits BinOp.or IntKind.u64 (b : Int) 9223372036854775808 = ((9223372036854775808 + b : Nat) : Int) := by
  have h := u64_or_nat b 9223372036854775808 (by omega) (by omega)
  have e : ((9223372036854775808 : Nat) : Int) = 9223372036854775808 := rfl
  rw [e] at h
  rw [h, Nat.or_comm, nat_join 63 _ _ (by decide) hb]

theorem decv_trim (d : List UInt8) : decv (d.dropWhile (· == 48)) = decv d := by
  induction d with
  | nil => rfl
  | cons b d ih =>
    rw [List.dropWhile_cons]
    by_cases h : b = 48
    · subst h
      rw [if_pos (by rfl), ih]
      simp [decv]
    · rw [if_neg (by simpa using h)]
theorem isDec_drop {d : List UInt8} (h : isDec d) : isDec (d.dropWhile (· == 48)) := fun b hb => h b ((List.dropWhile_suffix _).subset hb)
theorem decv_pos {b : UInt8} {l : List UInt8} (h : isDec (b :: l)) (hb : b ≠ 48) : 0 < decv (b :: l) := by
  have h1 : ∀ (l : List UInt8) (a : Nat), a ≤ l.foldl (fun a b => a * 10 + (b.toNat - 48)) a := by
    intro l
    induction l with
    | nil => intro a; exact Nat.le_refl _
    | cons c l ih => intro a; rw [List.foldl_cons]; exact Nat.le_trans (by omega) (ih _)
  have h2 := h1 l (b.toNat - 48)
  have h3 := (h b (by simp)).1
  have h4 : b.toNat ≠ 48 := fun e => hb (UInt8.toNat_inj.1 e)
  have h5 : decv (b :: l) = l.foldl (fun a b => a * 10 + (b.toNat - 48)) (b.toNat - 48) := by simp [decv]
  rw [h5]
  omega

theorem blen_of {a D d n : Nat} (h1 : a ≤ 2 ^ d) (h : D < a ^ n) : blen D ≤ d * n := by
  rw [blen_le, Nat.pow_mul]
  exact Nat.lt_of_lt_of_le h (Nat.pow_le_pow_left h1 n)
theorem blen_80 {D : Nat} (h : D < 10 ^ 80) : blen D ≤ 1280 := blen_of (d := 16) (by decide) h

def readVal (p : Nat × Nat) : Value := .tuple #[.int .u64 ((p.1 : Nat) : Int), .int .i64 ((p.2 : Nat) : Int)]

set_option maxRecDepth 1000000 in
theorem floatRead_any (s : ByteArray) (w : World) (hs : s.size ≤ maxLen) :
    Calls Tryd.prog 8 #[.string s] w fun e w' => e = .returned (readVal (readP s.data.toList)) ∧ Below w.heap.size w w' := by
  obtain ⟨R, hR⟩ : ∃ R, readP s.data.toList = R := ⟨_, rfl⟩
  rw [hR]
  have HR := Lib.hid hR
  clear hR
  unfold maxLen at hs
  by_cases h80 : 80 < s.size
  · have h80' : (80 : Int) < (s.size : Int) := by omega
    have hR : R = (0, 2) := by rw [← HR.out]; unfold readP; rw [if_pos (by rw [bytes_length]; exact h80)]
    subst hR
    go_enter Tryd.func8, Tryd.ntmps8
    go_wp2_with fail
    go_ret2
    exact ⟨rfl, Below.refl _ _⟩
  · have h80' : ¬ (80 : Int) < (s.size : Int) := by omega
    go_enter Tryd.func8, Tryd.ntmps8
    go_wp2_with fail
    refine (Tryd.strings_CutPrefix _ _ _).mono ?_
    rintro e w1 ⟨rfl, rfl⟩
    have hR := HR.out
    unfold readP at hR
    rw [if_neg (by rw [bytes_length]; exact h80)] at hR
    have eT : Lib.trimPrefix s.data.toList [45] = if [45].isPrefixOf s.data.toList = true then s.data.toList.drop 1 else s.data.toList := rfl
    have eP : Lib.hasPrefix s.data.toList [45] = [45].isPrefixOf s.data.toList := rfl
    obtain ⟨M, hM⟩ : ∃ M, [45].isPrefixOf s.data.toList = M := ⟨_, rfl⟩
    have eL := Lib.toList_data s
    by_cases hnan : s.data.toList = [110, 97, 110]
    · rw [if_pos hnan] at hR
      subst hR
      have h1 : (s.toList == [110, 97, 110]) = true := by rw [eL, hnan]; rfl
      clear eT eP hM eL hnan
      go_wp2_with fail
      go_ret2
      exact ⟨rfl, Below.refl _ _⟩
    · rw [if_neg hnan] at hR
      have h1 : (s.toList == [110, 97, 110]) = false := by rw [eL]; simpa using hnan
      simp only [] at hR
      rw [hM] at eT eP hR
      rw [eT, eP]
      have hYl : (if M = true then s.data.toList.drop 1 else s.data.toList).length ≤ 80 := by
        split <;> (try rw [List.length_drop]) <;> rw [bytes_length] <;> omega
      generalize (if M = true then s.data.toList.drop 1 else s.data.toList) = Y at hR hYl ⊢
      have hYs : (⟨Y.toArray⟩ : ByteArray).size = Y.length := rfl
      clear eT eP hM eL hnan
      by_cases hinf : Y = [105, 110, 102]
      · subst hinf
        rw [if_pos rfl] at hR
        subst hR
        have ho : bits BinOp.or IntKind.u64 9218868437227405312 9223372036854775808 = 18442240474082181120 := or_top (b := 9218868437227405312) (by decide)
        cases M
        all_goals
          go_wp2_with fail
          go_ret2
          exact ⟨rfl, Below.refl _ _⟩
      · rw [if_neg hinf] at hR
        have h2 : (Y == [105, 110, 102]) = false := by simpa using hinf
        have LT := fun w' => literal_any ⟨Y.toArray⟩ w' (by omega)
        have hR2 := Lib.hid hR
        clear hR HR
        go_wp2_with fail
        refine (LT _).mono ?_
        rintro e w2 ⟨rfl, hb2⟩
        have hR := hR2.out
        clear LT h1 h2 hinf
        rcases litOf_two hYl with ⟨h, -⟩ | ⟨d, x, -, h, -, hd, hdl, -⟩
        · have h' : litOf expOf (⟨Y.toArray⟩ : ByteArray).data.toList = none := h
          rw [h'] 
          rw [h] at hR
          subst hR
          clear h h' hR2
          unfold litVal
          go_wp2_with fail
          go_ret2
          exact ⟨rfl, hb2⟩
        · have h' : litOf expOf (⟨Y.toArray⟩ : ByteArray).data.toList = some (d, x) := h
          rw [h']
          rw [h] at hR
          clear h h' hR2
          unfold litVal
          simp only [] at hR
          have hR2 := Lib.hid hR
          clear hR
          go_wp2_with fail
          refine (Tryd.strings_TrimLeft_one _ _ (by decide) _).mono ?_
          rintro e w3 ⟨rfl, rfl⟩
          have hTe : Lib.trimLeftB (⟨d.toArray⟩ : ByteArray).data.toList 48 = d.dropWhile (· == 48) := rfl
          rw [hTe]
          have hde := decv_trim d
          have htd := isDec_drop hd
          have hth : ∀ b l, d.dropWhile (· == 48) = b :: l → b ≠ 48 := fun b l h => by
            have := List.head?_dropWhile_not (· == 48) d
            rw [h] at this
            simpa using this
          have htl : (d.dropWhile (· == 48)).length ≤ 80 := Nat.le_trans (List.dropWhile_suffix _).length_le hdl
          have hR := hR2.out
          rw [← hde] at hR
          generalize d.dropWhile (· == 48) = t at hR htd hth htl ⊢
          clear hTe hde hd hdl hR2
          rcases t with _ | ⟨b, t⟩
          · rw [if_pos (by rfl)] at hR
            subst hR
            have ho : bits BinOp.or IntKind.u64 0 9223372036854775808 = 9223372036854775808 := or_top (b := 0) (by decide)
            clear hth htl htd
            cases M
            all_goals
              go_wp2_with fail
              go_ret2
              exact ⟨rfl, hb2⟩
          · have hb48 := hth b t rfl
            have hpos := decv_pos htd hb48
            have hlen : (⟨(b :: t).toArray⟩ : ByteArray).size = t.length + 1 := rfl
            have hlen2 : (b :: t).length = t.length + 1 := rfl
            have RD := fun w' => bigRead_any ⟨(b :: t).toArray⟩ w' (by omega) (by omega) htd (by
              show b.toNat ≠ 48
              intro h
              exact hb48 (UInt8.toNat_inj.1 h))
            have hlt := decv_lt htd
            have hd80 : decv (b :: t) < 10 ^ 80 := Nat.lt_of_lt_of_le hlt (Nat.pow_le_pow_right (by omega) htl)
            have e0 : decv (⟨(b :: t).toArray⟩ : ByteArray).data.toList = decv (b :: t) := rfl
            rw [e0] at RD
            clear e0 hlt htd hb48 hth
            generalize decv (b :: t) = D at *
            rw [if_neg (by omega)] at hR
            have hR2 := Lib.hid hR
            have HD := Lib.hid hd80
            clear hR hd80 hlen
            go_wp2_with fail
            refine (RD _).mono ?_
            rintro e w4 ⟨q, rfl, hq, hqf, hb4'⟩
            have hb4 := hb2.trans (hb4'.mono hb2.size)
            clear RD
            go_wp2_with fail
            have hbl := blen_80 HD.out
            refine (near_any (max (min x 1000) (-1000)) w4 hq hbl (by omega)).mono ?_
            rintro e w5 ⟨rfl, hb5'⟩
            have hb5 := hb4.trans (hb5'.mono hb4.size)
            have hR := hR2.out
            have hnl := near_le (D * 10 ^ (max (min x 1000) (-1000)).toNat) (10 ^ (-(max (min x 1000) (-1000))).toNat)
            generalize near (D * 10 ^ (max (min x 1000) (-1000)).toNat) (10 ^ (-(max (min x 1000) (-1000))).toNat) = B at *
            clear hR2
            by_cases hB : B = 9218868437227405312
            · subst hB
              rw [if_pos rfl] at hR
              subst hR
              go_wp2_with fail
              go_ret2
              exact ⟨rfl, hb5⟩
            · rw [if_neg hB] at hR
              subst hR
              have hB2 : ((B : Int) == 9218868437227405312) = false := by simp; omega
              have ho := or_top (b := B) (by omega)
              clear hB
              cases M
              all_goals
                go_wp2_with fail
                go_ret2
              · exact ⟨by simp [readVal], hb5⟩
              · exact ⟨by simp [readVal], hb5⟩
end Go.Proofs.YtfeeiipohfpdiaaDoor
