/- Walks of package float: literal. -/
import Derived.Test.YtfeeiipohfpdiaaDoorFlo3
import Derived.Deep.DeepCutAuto
namespace Go.Proofs.YtfeeiipohfpdiaaDoor
set_option linter.unusedVariables false
set_option linter.unusedSimpArgs false
open Go.RowKit

theorem str_tail (t : UInt8) (S : List UInt8) : (⟨(t :: S).toArray⟩ : ByteArray).extract 1 (S.length + 1) = ⟨S.toArray⟩ := by
  have := str_from ⟨(t :: S).toArray⟩ 1
  exact this

theorem str_join (a b : List UInt8) : (⟨a.toArray⟩ : ByteArray) ++ ⟨b.toArray⟩ = ⟨(a ++ b).toArray⟩ := by
  ext1
  rw [ByteArray.data_append]
  simp

def litVal : Option (List UInt8 × Int) → Value
  | none => .tuple #[.string ⟨#[]⟩, .int .i64 0, .bool false]
  | some (d, x) => .tuple #[.string ⟨d.toArray⟩, .int .i64 x, .bool true]

theorem u8_ne {z : UInt8} {n : Nat} (hn : n < 256) (h : z ≠ UInt8.ofNat n) : ((z.toNat : Int) == (n : Int)) = false ∧ ((z.toNat : Int) != (n : Int)) = true := by
  have : z.toNat ≠ n := by
    intro e
    apply h
    apply UInt8.toNat_inj.1
    rw [e]
    simp
    omega
  constructor
  · simp; omega
  · simp; omega

theorem litTail_e (acc : List UInt8 → Nat) (d : List UInt8) (f : Nat) (s : List UInt8) : litTail acc d f (101 :: s) =
    if (((if ([45].isPrefixOf s || [43].isPrefixOf s) = true then s.drop 1 else s).takeWhile isD).isEmpty || !((if ([45].isPrefixOf s || [43].isPrefixOf s) = true then s.drop 1 else s).dropWhile isD).isEmpty) = true then none
    else some (d, neg ([45].isPrefixOf s) (acc ((if ([45].isPrefixOf s || [43].isPrefixOf s) = true then s.drop 1 else s).takeWhile isD)) - (f : Int)) := by
  simp only [litTail, ne_eq, not_true_eq_false, if_false]

theorem expOf_take {l : List UInt8} {k : Nat} {b : UInt8} (h : l[k]? = some b) : expOf (l.take (k + 1)) = min (expOf (l.take k) * 10 + (b.toNat - 48)) 100000 := by
  rw [List.take_add_one, h]; simp [expOf]

/-- what the fraction leaves -/
def FracRel (R : Option (List UInt8 × Int)) (d : List UInt8) (w wx : World) (s f : Value) : Prop :=
  ∃ F T : List UInt8, f = .string ⟨F.toArray⟩ ∧ s = .string ⟨T.toArray⟩ ∧ R = litTail expOf (d ++ F) F.length T ∧ F.length ≤ 1000 ∧ T.length ≤ 1000 ∧ Below w.heap.size w wx

set_option maxRecDepth 1000000 in
theorem literal_any (s : ByteArray) (w : World) (hs : s.size ≤ 1000) :
    Calls Tryd.prog 28 #[.string s] w fun e w' =>
      e = .returned (litVal (litOf expOf s.data.toList)) ∧ Below w.heap.size w w' := by
  obtain ⟨R, hR⟩ : ∃ R, litOf expOf s.data.toList = R := ⟨_, rfl⟩
  rw [hR]
  have HR := Lib.hid hR
  clear hR
  go_enter Tryd.func28, Tryd.ntmps28
  go_wp2_with fail
  refine (digits_any s w (by omega)).mono ?_
  rintro e w1 ⟨rfl, n1, rfl⟩
  have hb1 := below_drewN (Below.refl w.heap.size w) n1
  generalize w.drewN n1 = w1 at hb1 ⊢
  obtain ⟨W, hW⟩ : ∃ W, s.data.toList.takeWhile isD = W := ⟨_, rfl⟩
  obtain ⟨S, hS⟩ : ∃ S, s.data.toList.dropWhile isD = S := ⟨_, rfl⟩
  have hR := HR.out
  unfold litOf at hR
  rw [hW, hS] at hR ⊢
  have hsum : W.length + S.length = s.size := by rw [← hW, ← hS, ← List.length_append, List.takeWhile_append_dropWhile, bytes_length]
  clear HR hW hS
  rcases W with _ | ⟨c, W⟩
  · replace hR := Lib.hid hR
    go_wp2_with fail
    go_ret3
    have := hR.out
    simp at this
    subst this
    exact ⟨rfl, hb1⟩
  · have hlen : (c :: W).length = W.length + 1 := rfl
    have hWl : W.length ≤ 1000 := by omega
    have hSl : S.length ≤ 1000 := by omega
    clear hsum
    have hc0 : ∀ h, ((⟨(c :: W).toArray⟩ : ByteArray)[0]'h) = c := fun _ => rfl
    by_cases hz : c = 48 ∧ W ≠ []
    · obtain ⟨rfl, hne⟩ := hz
      have hW0 : 0 < W.length := List.length_pos_iff.2 hne
      replace hR := Lib.hid hR
      have hlt : (1 : Int) < (W.length : Int) + 1 := by omega
      go_wp2_with fail
      go_ret3
      have := hR.out
      simp [hW0] at this
      subst this
      exact ⟨rfl, hb1⟩
    · have hz2 : (((c.toNat : Nat) : Int) == 48) = false ∨ (c = 48 ∧ W = []) := by
        by_cases h48 : c = 48
        · exact .inr ⟨h48, Classical.not_not.1 fun h => hz ⟨h48, h⟩⟩
        · exact .inl (u8_ne (n := 48) (by omega) h48).1
      have hz3 : ([48].isPrefixOf (c :: W) && decide (1 < (c :: W).length)) = false := by
        rcases hz2 with h | ⟨rfl, rfl⟩
        · have : c ≠ 48 := by rintro rfl; simp at h
          simp [this, Ne.symm this]
        · simp
      simp only [hz3] at hR
      clear hz hz3
      rcases S with _ | ⟨t, S⟩
      · replace hR := Lib.hid hR
        rcases hz2 with hz2 | ⟨rfl, rfl⟩
        all_goals
          go_wp2_with fail
          go_ret3
          have := hR.out
          simp at this
          subst this
          exact ⟨rfl, hb1⟩
      · have ht0 : ∀ h, ((⟨(t :: S).toArray⟩ : ByteArray)[0]'h) = t := fun _ => rfl
        have htl := str_tail t S
        have hlenS : (t :: S).length = S.length + 1 := rfl
        obtain ⟨D, hD⟩ : ∃ D, c :: W = D := ⟨_, rfl⟩
        have hR3 : R = if t = 46 then (if (S.takeWhile isD).isEmpty then none else litTail expOf (D ++ S.takeWhile isD) (S.takeWhile isD).length (S.dropWhile isD)) else litTail expOf D 0 (t :: S) := by
          rw [← hR, hD]
          have h1 : D.isEmpty = false := by rw [← hD]; rfl
          by_cases h46 : t = 46
          · subst h46; simp [h1]
          · simp [h1, h46, Ne.symm h46]
        have HD := Lib.hid hD
        replace hR := Lib.hid hR3
        clear hD hR3
        rcases hz2 with hz2 | ⟨rfl, rfl⟩
        all_goals
          go_upto_if 34 with (fail)
          go_cut [0, 3, 6] (fun v x f wx => x = .int .i64 0 ∧ FracRel R D w wx v f)
          case first =>
            by_cases ht : t = 46
            · subst ht
              obtain ⟨F, hF⟩ : ∃ F, S.takeWhile isD = F := ⟨_, rfl⟩
              obtain ⟨T, hT⟩ : ∃ T, S.dropWhile isD = T := ⟨_, rfl⟩
              have hsum : F.length + T.length = S.length := by rw [← hF, ← hT, ← List.length_append, List.takeWhile_append_dropWhile]
              have DG := fun w' => digits_any ⟨S.toArray⟩ w' (by have : (⟨S.toArray⟩ : ByteArray).size = S.length := rfl; omega)
              have hR2 := hR.out
              simp only [hF, hT] at DG
              simp only [hF, hT, if_true] at hR2
              replace hR := Lib.hid hR2
              clear hF hT hR2
              go_wp2_with fail
              refine (DG _).mono ?_
              rintro e w2 ⟨rfl, n2, rfl⟩
              have hb2 := below_drewN hb1 n2
              generalize w1.drewN n2 = w2 at hb2 ⊢
              clear DG
              rcases F with _ | ⟨f, F⟩
              · clear hsum
                go_wp2_with fail
                go_ret3
                have := hR.out
                simp at this
                subst this
                exact ⟨rfl, hb2⟩
              · have hfl2 : (f :: F).length = F.length + 1 := rfl
                go_wp2_with fail
                go_meet
                have := hR.out
                simp at this
                exact ⟨rfl, f :: F, T, rfl, rfl, by rw [this]; simp, by omega, by omega, hb2⟩
            · have ht2 := (u8_ne (n := 46) (by omega) ht).1
              go_wp2_with fail
              go_meet
              have := hR.out
              rw [if_neg ht] at this
              exact ⟨rfl, [], t :: S, rfl, rfl, by rw [this]; simp, by simp, by omega, hb1⟩
          case rest =>
            obtain ⟨rfl, F, T, rfl, rfl, hRT, hFl, hTl, hb2⟩ := hcut
            clear hR hlenS htl ht0
            have hj := fun a : List UInt8 => str_join a F
            have hc1 := fun W : List UInt8 => fun h : W.length ≤ 1000 => (show ¬ 9223372036854775807 < W.length + 1 + F.length by omega)
            have hc2 : ¬ 9223372036854775807 < 1 + F.length := by omega
            rcases T with _ | ⟨z, T⟩
            · have HRT := Lib.hid hRT
              clear hRT
              go_wp2_with fail
              go_ret3
              rw [HRT.out, ← HD.out]
              refine ⟨?_, hb2⟩
              rfl
            · have hz0 : ∀ h, ((⟨(z :: T).toArray⟩ : ByteArray)[0]'h) = z := fun _ => rfl
              have htl2 := str_tail z T
              have hlz : (z :: T).length = T.length + 1 := rfl
              by_cases hz1 : z = 101
              · subst hz1
                have hR2 := hRT
                rw [litTail_e] at hR2
                have hR3 := Lib.hid hR2
                clear hRT hR2
                go_wp2_with fail
                refine (Tryd.strings_HasPrefix _ _ _).mono ?_
                rintro e w3 ⟨rfl, rfl⟩
                obtain ⟨M, hM⟩ : ∃ M, [45].isPrefixOf T = M := ⟨_, rfl⟩
                have hM2 : Lib.hasPrefix T [45] = M := hM
                obtain ⟨P, hP⟩ : ∃ P, [43].isPrefixOf T = P := ⟨_, rfl⟩
                have hP2 : Lib.hasPrefix T [43] = P := hP
                simp only [hM2]
                have hR2 := hR3.out
                rw [hM, hP] at hR2
                obtain ⟨Y, hY⟩ : ∃ Y, (if (M || P) = true then T.drop 1 else T) = Y := ⟨_, rfl⟩
                have hYl : Y.length ≤ 1000 := by rw [← hY]; split <;> (try rw [List.length_drop]) <;> omega
                rw [hY] at hR2
                have HR2 := Lib.hid hR2
                have HY := Lib.hid hY
                have HM := Lib.hid hM
                have HP := Lib.hid hP
                clear hR2 hR3 hY hM hP
                rcases M with _ | _
                all_goals
                  go_upto_if 62 with (go_at_call 70; refine (Tryd.strings_HasPrefix _ _ _).mono ?_; rintro e w3 ⟨rfl, rfl⟩)
                  go_cut [0, 3] (fun v x wx => v = .string ⟨Y.toArray⟩ ∧ x = .int .i64 0 ∧ Below w.heap.size w wx)
                  case first =>
                    have hY := HY.out
                    rcases T with _ | ⟨y, T⟩
                    · first
                        | (have h1 := HM.out; simp at h1; done)
                        | (have h2 := HP.out
                           simp at h2
                           subst h2
                           simp at hY
                           subst hY
                           go_wp2_with fail
                           go_meet
                           exact ⟨rfl, rfl, hb2⟩)
                    · have htl3 := str_tail y T
                      have hly : (y :: T).length = T.length + 1 := rfl
                      clear HM HP
                      rcases P with _ | _
                      all_goals
                        simp at hY
                        subst hY
                        go_wp2_with fail
                        go_meet
                        exact ⟨rfl, rfl, hb2⟩
                  case rest =>
                    obtain ⟨rfl, rfl, hb3⟩ := hcut
                    clear hM2 hP2
                    have hR2 := HR2.out
                    obtain ⟨E, hE⟩ : ∃ E, Y.takeWhile isD = E := ⟨_, rfl⟩
                    obtain ⟨Z, hZ⟩ : ∃ Z, Y.dropWhile isD = Z := ⟨_, rfl⟩
                    have hEd : isDec E := by rw [← hE]; exact isDec_takeWhile _
                    have hEl : E.length ≤ 1000 := by rw [← hE]; exact Nat.le_trans (List.takeWhile_prefix isD).length_le hYl
                    have DG := fun w' => digits_any ⟨Y.toArray⟩ w' (by have : (⟨Y.toArray⟩ : ByteArray).size = Y.length := rfl; omega)
                    simp only [hE, hZ] at DG hR2
                    have hR3 := Lib.hid hR2
                    have HED := Lib.hid hEd
                    clear hR2 hE hZ hEd
                    go_wp2_with fail
                    refine (DG _).mono ?_
                    rintro e w4 ⟨rfl, n4, rfl⟩
                    have hb4 := below_drewN hb3 n4
                    generalize World.drewN _ n4 = w4 at hb4 ⊢
                    clear DG
                    rcases E with _ | ⟨e, E⟩
                    · go_wp2_with fail
                      go_ret3
                      have := hR3.out
                      simp at this
                      subst this
                      exact ⟨rfl, hb4⟩
                    · have hle : (e :: E).length = E.length + 1 := rfl
                      rcases Z with _ | ⟨z, Z⟩
                      · have hL : (⟨(e :: E).toArray⟩ : ByteArray).size = E.length + 1 := rfl
                        obtain ⟨w5, cap, hrun, hb5', hsz5, hsl⟩ := conv_bytes ⟨(e :: E).toArray⟩ w4 (by omega)
                        have hb5 := hb4.trans (hb5'.mono hb4.size)
                        have hEE : (⟨(e :: E).toArray⟩ : ByteArray).data.toList = e :: E := rfl
                        rw [hL, hEE] at hsl
                        rw [hL] at hrun
                        clear hEE
                        go_wp2_with fail
                        have HSL := Lib.hid hsl
                        clear hsl hrun
                        go_loopw [3, 79] (fun x i wr => ∃ k X, k ≤ E.length + 1 ∧ i = .int .i64 ((k : Nat) : Int) ∧ x = .int .i64 ((X : Nat) : Int) ∧ X = expOf ((e :: E).take k) ∧ X ≤ 100000 ∧ Below w.heap.size w wr ∧ Below w5.heap.size w5 wr) (fun _ i _ => E.length + 1 - (intOf i).toNat)
                        case atStart => exact ⟨0, 0, by omega, rfl, rfl, rfl, by omega, hb5, Below.refl _ _⟩
                        case round =>
                          obtain ⟨k, X, hk, rfl, rfl, hX, hX5, hbel, hbel5⟩ := hrel
                          have HX := Lib.hid hX
                          clear hX
                          by_cases hlt : k < E.length + 1
                          · obtain ⟨b, hb⟩ : ∃ b, (e :: E)[k]? = some b := ⟨(e :: E)[k]'(by omega), List.getElem?_eq_getElem (by omega)⟩
                            obtain ⟨hb48, hb57⟩ := HED.out b (List.mem_iff_getElem?.2 ⟨k, hb⟩)
                            obtain ⟨b2, off2, e1, -, hc1, hc2, -, hcell⟩ := (HSL.out.below hbel5).at (ints_get (codes_get hb))
                            injection e1 with e1
                            injection e1 with e1 e2
                            subst e1
                            subst e2
                            rw [Nat.zero_add] at hcell
                            have HB := Lib.hid hb
                            clear hb
                            go_wp2_with fail
                            refine ⟨⟨k + 1, min (X * 10 + (b.toNat - 48)) 100000, by omega, rfl, ?_, ?_, by omega, hbel, hbel5⟩, by simp [intOf]; omega⟩
                            · congr 1; omega
                            · rw [expOf_take HB.out, ← HX.out]
                          · obtain rfl : k = E.length + 1 := by omega
                            go_wp2_with fail
                            go_ret3
                            have := hR3.out
                            simp only [List.isEmpty_cons, List.isEmpty_nil, Bool.not_true, Bool.or_false, Bool.false_eq_true, if_false] at this
                            rw [this, ← HD.out, HX.out, List.take_of_length_le (by rw [hle]; omega)]
                            refine ⟨?_, hbel⟩
                            rfl
                      · go_wp2_with fail
                        go_ret3
                        have := hR3.out
                        simp at this
                        subst this
                        exact ⟨rfl, hb4⟩
              · have hz2 := (u8_ne (n := 101) (by omega) hz1).2
                have hR3 : R = none := by rw [hRT]; simp [litTail, hz1]
                clear hRT
                subst hR3
                go_wp2_with fail
                go_ret3
                exact ⟨rfl, hb2⟩
end Go.Proofs.YtfeeiipohfpdiaaDoor
