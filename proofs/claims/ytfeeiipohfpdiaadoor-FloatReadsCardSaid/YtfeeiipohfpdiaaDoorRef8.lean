/- Walks of the reference: ReadFloat, the whole. -/
import Derived.Test.YtfeeiipohfpdiaaDoorRef7
import Derived.WalkSpells
namespace Go.Proofs.YtfeeiipohfpdiaaDoor
set_option linter.unusedVariables false
set_option linter.unusedSimpArgs false
open Go.RowKit

set_option maxRecDepth 1000000 in
set_option maxHeartbeats 4000000 in
theorem readFloat_any (s : ByteArray) (w : World) (hs : s.size ≤ maxLen) :
    Calls Tryd.prog 9 #[.string s] w fun e w' => e = .returned (readVal (readR s.data.toList)) ∧ Below w.heap.size w w' := by
  obtain ⟨R, hR⟩ : ∃ R, readR s.data.toList = R := ⟨_, rfl⟩
  rw [hR]
  rw [readR_eq] at hR
  unfold maxLen at hs
  by_cases h80 : 80 < s.size
  · have h80' : (80 : Int) < (s.size : Int) := by omega
    rw [if_pos (by rw [bytes_length]; exact h80)] at hR
    subst hR
    go_enter Tryd.func9, Tryd.ntmps9
    go_wp2_with fail
    go_ret2
    exact ⟨rfl, Below.refl _ _⟩
  have h80' : ¬ (80 : Int) < (s.size : Int) := by omega
  rw [if_neg (by rw [bytes_length]; exact h80)] at hR
  have eL := Lib.toList_data s
  by_cases hnan : s.data.toList = [110, 97, 110]
  · rw [if_pos hnan] at hR
    subst hR
    have h1 : (s.toList == [110, 97, 110]) = true := by rw [eL, hnan]; rfl
    clear eL hnan
    go_enter Tryd.func9, Tryd.ntmps9
    go_wp2_with fail
    go_ret2
    exact ⟨rfl, Below.refl _ _⟩
  have h1 : (s.toList == [110, 97, 110]) = false := by rw [eL]; simpa using hnan
  rw [if_neg hnan] at hR
  obtain ⟨M, hM⟩ : ∃ M, [45].isPrefixOf s.data.toList = M := ⟨_, rfl⟩
  rw [hM] at hR
  have HR := Lib.hid hR
  have HM := Lib.hid hM
  have HEL := Lib.hid eL
  have hsl := bytes_length s
  clear hR hM eL hnan
  go_enter Tryd.func9, Tryd.ntmps9
  go_upto_region 6 with (fail)
  go_cut [23] (fun t wx => t = .bool M ∧ w = wx)
  case first =>
    --{{
    as_aux_lemma =>
      by_cases h0 : s.data.toList = []
      · have hm := HM.out
        rw [h0] at hm
        simp at hm
        subst hm
        have e1 : s.toList = [] := by rw [HEL.out, h0]
        have e2 : s.toList.isEmpty = true := by rw [e1]; rfl
        have e3 : (!s.toList.isEmpty) = false := by rw [e2]; rfl
        clear HR h0 hsl h1
        go_wp2_with fail
        go_meet
        exact ⟨rfl, rfl⟩
      · have e2 : s.toList.isEmpty = false := by rw [HEL.out]; simpa using h0
        have e3 : (!s.toList.isEmpty) = true := by rw [e2]; rfl
        have hpos : 0 < s.size := by rw [← hsl]; exact List.length_pos_iff.2 h0
        have hb : (((s[0]'hpos).toNat : Int) == 45) = M := by
          rw [← HM.out]
          have hg := str_get hpos
          generalize (s[0]'hpos) = b at *
          rcases hl : s.data.toList with _ | ⟨c, l⟩
          · exact absurd hl h0
          · rw [hl] at hg
            simp at hg
            subst hg
            exact head_is
        clear HR h0 HEL HM h1
        go_wp2_with fail
        go_meet
        exact ⟨rfl, rfl⟩
    --}}
  case rest =>
    obtain ⟨rfl, rfl⟩ := hcut
    go_upto_if 23 with (fail)
    go_cut [0, 4] (fun v sg wx => ∃ S : ByteArray, v = .string S ∧ sg = .int .u64 (((if M = true then 9223372036854775808 else 0 : Nat) : Nat) : Int) ∧ Hid (S.data.toList = (if M = true then s.data.toList.drop 1 else s.data.toList)) ∧ S.size ≤ 80 ∧ Below w.heap.size w wx)
    case first =>
      --{{
      as_aux_lemma =>
        rcases M with _ | _
        · clear HR HEL HM h1
          go_wp2_with fail
          go_meet
          exact ⟨s, rfl, rfl, Lib.hid rfl, by omega, Below.refl _ _⟩
        · have hpos : 0 < s.size := by
            rw [← hsl]
            apply List.length_pos_iff.2
            intro h
            have := HM.out
            rw [h] at this
            simp at this
          clear HR HEL HM h1
          go_wp2_with fail
          go_quiet (fail)
          go_wp2_with fail
          go_meet
          refine ⟨_, rfl, rfl, Lib.hid ?_, ?_, below_drewN (Below.refl _ _) _⟩
          · rw [str_from]; rfl
          · simp; omega
      --}}
    case rest =>
      obtain ⟨S, rfl, rfl, HS, hS80, hbel⟩ := hcut
      obtain ⟨w1, rfl⟩ : ∃ w1 : World, w1 = wc := ⟨_, rfl⟩
      have hR := HR.out
      rw [← HS.out] at hR
      obtain ⟨sg, hsg⟩ : ∃ sg : Nat, (if M = true then 9223372036854775808 else 0 : Nat) = sg := ⟨_, rfl⟩
      have hsg2 : sg ≤ 9223372036854775808 := by rw [← hsg]; split <;> omega
      rw [hsg] at hR ⊢
      have hSl := bytes_length S
      have eL := Lib.toList_data S
      clear HS hsg HM HEL hs h80 h80' h1 hsl HR
      unfold signR at hR
      by_cases hinf : S.data.toList = [105, 110, 102]
      · rw [if_pos hinf] at hR
        have h1 : (S.toList == [105, 110, 102]) = true := by rw [eL, hinf]; rfl
        have HR := Lib.hid hR
        clear hR eL hinf hSl
        go_wp2_with fail
        go_ret2
        rw [← HR.out]
        exact ⟨ret_num2 (by omega) rfl, hbel⟩
      · rw [if_neg hinf] at hR
        have h1 : (S.toList == [105, 110, 102]) = false := by rw [eL]; simpa using hinf
        clear eL hinf
        obtain ⟨L, hL⟩ : ∃ L, S.data.toList = L := ⟨_, rfl⟩
        rw [hL] at hR hSl
        have HR := Lib.hid hR
        have HL := Lib.hid hL
        clear hR hL
        have DG := fun i hi w => isDigit_any S i w (by omega) hi
        rw [HL.out] at DG
        go_upto_block 0 with fail
        go_cut [5, 6] (fun i d wx => ∃ W : List UInt8, i = .int .i64 ((W.length : Nat) : Int) ∧ d = .string ⟨W.toArray⟩ ∧ Hid (W = L.takeWhile isD) ∧ W.length ≤ 80 ∧ Below w.heap.size w wx)
        case first =>
          --{{
          as_aux_lemma =>
            go_wp2_with fail
            go_loop [5, 6] (fun i d => ∃ (k : Nat) (D : List UInt8), k ≤ S.size ∧ i = .int .i64 ((k : Nat) : Int) ∧ d = .string ⟨D.toArray⟩ ∧ Hid (Coll L 0 k [] D) ∧ D.length ≤ k) (fun i _ => S.size - (intOf i).toNat)
            case atStart => exact ⟨0, [], by omega, rfl, rfl, Lib.hid (Coll.start L 0 []), by simp⟩
            case round =>
              obtain ⟨k, D, hk, rfl, rfl, hC, hDk⟩ := hrel
              have hdg := DG k (by omega) w1
              by_cases hd : isDig L k = true
              · rw [hd] at hdg
                have hlt : k < S.size := by
                  apply Nat.lt_of_not_le
                  intro h
                  rw [isDig_none (List.getElem?_eq_none (by omega))] at hd
                  cases hd
                have hb : L[k]? = some (S[k]'hlt) := by rw [← HL.out]; exact str_get hlt
                have hC2 := Lib.hid (hC.out.step hb hd)
                have hx := str_one hlt
                have hj := str_join D [S[k]'hlt]
                have hlt' : (k : Int) < (S.size : Int) := by omega
                clear hb hd
                go_wp2_with fail
                refine hdg.mono ?_
                rintro e w2 ⟨rfl, rfl⟩
                clear hdg DG
                go_wp2_with fail
                exact ⟨⟨k + 1, D ++ [S[k]'hlt], by omega, by go_num, rfl, hC2, by simp; omega⟩, by simp [intOf]; omega⟩
              · have hd2 : isDig L k = false := by simpa using hd
                rw [hd2] at hdg
                obtain ⟨e1, e2, e3⟩ := hC.out.done (by omega) hd2
                have E1 := Lib.hid e1
                have E2 := Lib.hid e2
                clear e1 e2 e3 hd
                go_wp2_with fail
                refine hdg.mono ?_
                rintro e w2 ⟨rfl, rfl⟩
                clear hdg DG
                go_wp2_with fail
                go_meet
                have h1 := E1.out
                have h2 := E2.out
                simp only [List.drop_zero, List.nil_append, Nat.zero_add] at h1 h2
                exact ⟨D, by rw [h1, ← h2], rfl, Lib.hid h1, by omega, hbel⟩
          --}}
        case rest =>
          obtain ⟨W, rfl, rfl, HW, hW80, hbel1⟩ := hcut
          obtain ⟨w2, rfl⟩ : ∃ w2 : World, w2 = wc := ⟨_, rfl⟩
          clear hbel w1
          obtain ⟨T, hT⟩ : ∃ T, L.dropWhile isD = T := ⟨_, rfl⟩
          have hLW : L = W ++ T := by rw [HW.out, ← hT, List.takeWhile_append_dropWhile]
          have hWd : isDec W := by rw [HW.out]; exact isDec_takeWhile _
          have hR := HR.out
          unfold litOf at hR
          rw [← HW.out, hT] at hR
          have hLl : W.length + T.length = S.size := by rw [← hSl, hLW, List.length_append]
          have HLW := Lib.hid hLW
          have HWD := Lib.hid hWd
          clear HR HW hT hLW hWd hSl
          rcases W with _ | ⟨c, W⟩
          · replace hR := Lib.hid hR
            go_wp2_with fail
            go_ret2
            have := hR.out
            simp [tailR] at this
            subst this
            exact ⟨rfl, hbel1⟩
          · have hlen : (c :: W).length = W.length + 1 := rfl
            rw [show (((c :: W).length : Nat) : Int) = (W.length : Int) + 1 from by rw [hlen]; rfl]
            have hW1 : W.length ≤ 79 := by omega
            have hLl2 : W.length + 1 + T.length = S.size := by omega
            clear hLl hlen hW80
            have hc0 : ∀ h, S[0]'h = c := idx_of (A := []) (by rw [HL.out, HLW.out]; rfl) rfl
            by_cases hz : c = 48 ∧ W ≠ []
            · obtain ⟨rfl, hne⟩ := hz
              have hW0 : 0 < W.length := List.length_pos_iff.2 hne
              replace hR := Lib.hid hR
              have hlt : (1 : Int) < (W.length : Int) + 1 := by omega
              go_wp2_with fail
              go_ret2
              have := hR.out
              simp [hW0, tailR] at this
              subst this
              exact ⟨rfl, hbel1⟩
            · have hz2 : (((c.toNat : Nat) : Int) == 48) = false ∨ (c = 48 ∧ W = []) := by
                by_cases h48 : c = 48
                · exact .inr ⟨h48, Classical.not_not.1 fun h => hz ⟨h48, h⟩⟩
                · exact .inl (u8_ne (n := 48) (by omega) h48).1
              have hz3 : ([48].isPrefixOf (c :: W) && decide (1 < (c :: W).length)) = false := by
                rcases hz2 with h | ⟨rfl, rfl⟩
                · have : c ≠ 48 := by rintro rfl; simp at h
                  simp [this, Ne.symm this]
                · simp
              have hz4 : ((1 : Int) < (W.length : Int) + 1 ∧ (((c.toNat : Nat) : Int) == 48) = false) ∨ ¬ (1 : Int) < (W.length : Int) + 1 := by
                rcases hz2 with h | ⟨rfl, rfl⟩
                · by_cases h1 : (1 : Int) < (W.length : Int) + 1
                  · exact .inl ⟨h1, h⟩
                  · exact .inr h1
                · exact .inr (by simp)
              simp only [hz3] at hR
              clear hz hz3 hz2
              rcases T with _ | ⟨t, T⟩
              · have hsz : W.length + 1 = S.size := hLl2
                have hsz2 : (((W.length : Int) + 1) == (S.size : Int)) = true := by simp; omega
                have hsz3 : W.length + 1 ≤ S.size := by omega
                clear hsz hLl2
                replace hR := Lib.hid hR
                rcases hz4 with ⟨hz4, hz5⟩ | hz4
                all_goals
                  go_wp2_with fail
                  go_ret2
                  have := hR.out
                  simp [tailR] at this
                  subst this
                  exact ⟨rfl, hbel1⟩
              · have ht0 : ∀ h, S[W.length + 1]'h = t := idx_of (A := c :: W) (by rw [HL.out, HLW.out]) rfl
                have hlenS : (t :: T).length = T.length + 1 := rfl
                have hLl3 : W.length + 1 + (T.length + 1) = S.size := hLl2
                have hsz2 : (((W.length : Int) + 1) == (S.size : Int)) = false := by simp; omega
                obtain ⟨D, hD⟩ : ∃ D, c :: W = D := ⟨_, rfl⟩
                have hR3 : R = tailR sg (if t = 46 then (if (T.takeWhile isD).isEmpty then none else litTail expRef (D ++ T.takeWhile isD) (T.takeWhile isD).length (T.dropWhile isD)) else litTail expRef D 0 (t :: T)) := by
                  rw [← hR, hD]
                  have h1 : D.isEmpty = false := by rw [← hD]; rfl
                  by_cases h46 : t = 46
                  · subst h46; simp [h1]
                  · simp [h1, h46, Ne.symm h46]
                have HD := Lib.hid hD
                replace hR := Lib.hid hR3
                have hLl4 : W.length + 1 < S.size := by omega
                have HLl := Lib.hid hLl3
                clear hD hR3 hLl2 hlenS hLl3
                have hd1 : L.drop (W.length + 1) = t :: T := by
                  have e : W.length + 1 = (c :: W).length := rfl
                  rw [HLW.out, e, List.drop_left]
                have HD1 := Lib.hid hd1
                clear hd1
                go_upto_region 15 with (fail)
                go_cut [58] (fun v wx => v = .bool false ∧ Below w.heap.size w wx)
                case first =>
                  --{{
                  as_aux_lemma =>
                    rcases hz4 with ⟨hz4, hz5⟩ | hz4
                    all_goals
                      go_wp2_with fail
                      go_meet
                      exact ⟨rfl, hbel1⟩
                  --}}
                case rest =>
                  obtain ⟨rfl, hbel2⟩ := hcut
                  obtain ⟨w3, rfl⟩ : ∃ w3 : World, w3 = wc := ⟨_, rfl⟩
                  clear hbel1 hz4 hc0 hsz2
                  go_upto_if 62 with (fail)
                  go_cut [5, 6, 7] (fun i d b wx => ∃ (I : Nat) (D2 T2 : List UInt8) (f : Nat), i = .int .i64 ((I : Nat) : Int) ∧ d = .string ⟨D2.toArray⟩ ∧ b = .int .i64 ((f : Nat) : Int) ∧ Hid (L.drop I = T2) ∧ Hid (R = tailR sg (litTail expRef D2 f T2)) ∧ I ≤ S.size ∧ Hid (I + T2.length = S.size) ∧ Hid (isDec D2) ∧ D2.length ≤ 200 ∧ f ≤ 100 ∧ Below w.heap.size w wx)
                  case first =>
                    --{{
                    as_aux_lemma =>
                      by_cases ht : t = 46
                      · have htb : ((t.toNat : Int) == 46) = true := by rw [ht]; rfl
                        have htn : (t.toNat : Int) = 46 := by rw [ht]; rfl
                        simp only [htb]
                        simp only [htn]
                        clear htb htn
                        have hR2 := hR.out
                        rw [if_pos ht] at hR2
                        have hd2 := drop_next HD1.out
                        have HD2 := Lib.hid hd2
                        have HR2 := Lib.hid hR2
                        have hls := HLl.out
                        have hW78 : W.length + 2 ≤ S.size := by omega
                        have hDl : D.length = W.length + 1 := by rw [← HD.out]; rfl
                        have HDl := Lib.hid hDl
                        clear hR hR2 hd2 hls HLl hDl
                        go_wp2_with fail
                        go_loop [5, 6, 7] (fun i d b => ∃ (k : Nat) (D2 : List UInt8) (f : Nat), k ≤ S.size ∧ i = .int .i64 ((k : Nat) : Int) ∧ d = .string ⟨D2.toArray⟩ ∧ b = .int .i64 ((f : Nat) : Int) ∧ Hid (W.length + 2 + f = k) ∧ Hid (Coll L (W.length + 2) k D D2) ∧ D2.length ≤ k) (fun i _ _ => S.size - (intOf i).toNat)
                        case atStart => exact ⟨W.length + 2, D, 0, hW78, by go_num, by rw [HD.out], rfl, Lib.hid rfl, Lib.hid (Coll.start L _ D), by rw [HDl.out]; omega⟩
                        case round =>
                          obtain ⟨k, D2, f, hk, rfl, rfl, rfl, hf, hC, hDk⟩ := hrel
                          have hfk : f ≤ k := by have := hf.out; omega
                          have hdg := fun w => DG k (by omega) w
                          by_cases hd : isDig L k = true
                          · simp only [hd] at hdg
                            have hLlen : L.length = S.size := by rw [← HL.out, bytes_length]
                            have hlt : k < S.size := by
                              apply Nat.lt_of_not_le
                              intro h
                              rw [isDig_none (List.getElem?_eq_none (by omega))] at hd
                              cases hd
                            have hb : L[k]? = some (S[k]'hlt) := by rw [← HL.out]; exact str_get hlt
                            have hC2 := Lib.hid (hC.out.step hb hd)
                            have hx := str_one hlt
                            have hj := str_join D2 [S[k]'hlt]
                            have hlt' : (k : Int) < (S.size : Int) := by omega
                            clear hb hd hLlen
                            go_wp2_with fail
                            refine (hdg _).mono ?_
                            rintro e w9 ⟨rfl, rfl⟩
                            clear hdg DG
                            go_wp2_with fail
                            go_round
                            case rel => exact ⟨k + 1, D2 ++ [S[k]'hlt], f + 1, by omega, by go_num, rfl, by go_num, Lib.hid (by have := hf.out; omega), hC2, by simp; omega⟩
                            case measure => simp [intOf]; omega
                          · have hd2 : isDig L k = false := by simpa using hd
                            simp only [hd2] at hdg
                            have hLlen : L.length = S.size := by rw [← HL.out, bytes_length]
                            obtain ⟨e1, e2, e3⟩ := hC.out.done (by omega) hd2
                            rw [HD2.out] at e1 e2 e3
                            have E1 := Lib.hid e1
                            have E2 := Lib.hid e2
                            have E3 := Lib.hid e3
                            have hfe : (T.takeWhile isD).length = f := by have := hf.out; omega
                            have HR3 := HR2.out
                            rw [hfe, ← e1, ← e3] at HR3
                            have HR4 := Lib.hid HR3
                            have HFE := Lib.hid hfe
                            clear HR3 e1 e2 e3 hd HR2 hfe
                            rcases Nat.eq_zero_or_pos f with h0 | h0
                            · subst h0
                              have h1 : T.takeWhile isD = [] := List.eq_nil_of_length_eq_zero HFE.out
                              have hR5 := HR4.out
                              rw [h1] at hR5
                              simp only [List.isEmpty_nil, if_true] at hR5
                              have HR5 := Lib.hid hR5
                              clear hR5 h1 HR4 hLlen
                              go_wp2_with fail
                              refine (hdg _).mono ?_
                              rintro e w9 ⟨rfl, rfl⟩
                              clear hdg DG
                              go_wp2_with fail
                              go_ret2
                              rw [HR5.out]
                              exact ⟨rfl, hbel2⟩
                            · have h1 : ¬ (T.takeWhile isD).isEmpty = true := by
                                intro h
                                rw [List.isEmpty_iff] at h
                                have := HFE.out
                                rw [h] at this
                                simp at this
                                omega
                              have hR5 := HR4.out
                              rw [if_neg h1] at hR5
                              have HR5 := Lib.hid hR5
                              have HLlen := Lib.hid hLlen
                              clear hR5 h1 HR4 hLlen
                              have h0' : ((f : Int) == 0) = false := by simp; omega
                              go_wp2_with fail
                              refine (hdg _).mono ?_
                              rintro e w9 ⟨rfl, rfl⟩
                              clear hdg DG
                              go_wp2_with fail
                              go_meet
                              refine ⟨k, D2, L.drop k, f, rfl, rfl, rfl, Lib.hid rfl, HR5, hk, Lib.hid ?_, Lib.hid ?_, by omega, by have := hf.out; omega, hbel2⟩
                              · rw [List.length_drop, HLlen.out]; omega
                              · rw [E1.out, ← HD.out]
                                exact isDec_two HWD.out (isDec_takeWhile _)
                      · have ht2 := (u8_ne (n := 46) (by omega) ht).1
                        have hR2 := hR.out
                        rw [if_neg ht] at hR2
                        have HR2 := Lib.hid hR2
                        have HDl := HD.out
                        clear hR hR2
                        go_wp2_with fail
                        go_meet
                        refine ⟨W.length + 1, D, t :: T, 0, by go_num, by rw [HD.out], rfl, HD1, HR2, by omega, Lib.hid ?_, Lib.hid ?_, ?_, by omega, hbel2⟩
                        · have := HLl.out
                          rw [List.length_cons]
                          exact this
                        · rw [← HD.out]; exact HWD.out
                        · rw [← HD.out, List.length_cons]; omega
                    --}}
                  case rest =>
                    obtain ⟨I, D2, T2, f, rfl, rfl, rfl, HT2, HR2, hI, HI, HD2, hD2l, hf, hbel3⟩ := hcut
                    obtain ⟨w4, rfl⟩ : ∃ w4 : World, w4 = wc := ⟨_, rfl⟩
                    clear hbel2 ht0 hR HD HD1 HLl hLl4 HLW HWD hW1
                    go_upto_if 84 with (fail)
                    go_cut [8] (fun x wx => ∃ xv : Int, x = .int .i64 xv ∧ Hid (R = tailR sg (some (D2, xv - (f : Int)))) ∧ -200000 ≤ xv ∧ xv ≤ 200000 ∧ Below w.heap.size w wx)
                    case first =>
                      --{{
                      as_aux_lemma =>
                        rcases T2 with _ | ⟨z, T3⟩
                        · have hI2 : ¬ (I : Int) < (S.size : Int) := by have := HI.out; simp at this; omega
                          go_wp2_with fail
                          go_meet
                          refine ⟨0, rfl, Lib.hid ?_, by omega, by omega, hbel3⟩
                          rw [HR2.out, litTail]
                          simp
                        · have hI2 : (I : Int) < (S.size : Int) := by have := HI.out; simp at this; omega
                          have hI3 : I + 1 ≤ S.size := by omega
                          have hz0 := idx_drop HL.out HT2.out
                          have hT3 := drop_next HT2.out
                          have HT3 := Lib.hid hT3
                          have hI4 : I + 1 + T3.length = S.size := by have := HI.out; simp at this; omega
                          have HI4 := Lib.hid hI4
                          clear hT3 hI4
                          by_cases hz1 : z = 101
                          · have hzb : ((z.toNat : Int) != 101) = false := by rw [hz1]; rfl
                            have hR3 := HR2.out
                            rw [hz1, litTail_e] at hR3
                            have HR3 := Lib.hid hR3
                            clear hR3 HR2 HT2 HI
                            obtain ⟨M2, hM2⟩ : ∃ M2, [45].isPrefixOf T3 = M2 := ⟨_, rfl⟩
                            obtain ⟨P2, hP2⟩ : ∃ P2, [43].isPrefixOf T3 = P2 := ⟨_, rfl⟩
                            have HM2 := Lib.hid hM2
                            have HP2 := Lib.hid hP2
                            clear hM2 hP2
                            go_upto_region 32 with (fail)
                            clear hz0 hzb hz1
                            go_cut [106] (fun v wx => v = .bool (M2 || P2) ∧ Below w.heap.size w wx)
                            case first =>
                              --{{
                              as_aux_lemma =>
                                rcases T3 with _ | ⟨y, T4⟩
                                · have h1 : ¬ (I : Int) + 1 < (S.size : Int) := by have := HI4.out; simp at this; omega
                                  have hm := HM2.out
                                  have hp := HP2.out
                                  simp at hm hp
                                  subst hm hp
                                  go_wp2_with fail
                                  go_meet
                                  exact ⟨rfl, hbel3⟩
                                · have h1 : (I : Int) + 1 < (S.size : Int) := by have := HI4.out; simp at this; omega
                                  have h2 : I + 1 < S.size := by omega
                                  have hy0 := idx_drop HL.out HT3.out
                                  have hm := HM2.out
                                  have hp := HP2.out
                                  rw [← head_is] at hm
                                  rw [← head_is43] at hp
                                  clear HM2 HP2
                                  rcases M2 with _ | _ <;> rcases P2 with _ | _
                                  all_goals
                                    go_wp2_with fail
                                    go_meet
                                    exact ⟨rfl, hbel3⟩
                              --}}
                            case rest =>
                              obtain ⟨rfl, hbel4⟩ := hcut
                              obtain ⟨w5, rfl⟩ : ∃ w5 : World, w5 = wc := ⟨_, rfl⟩
                              clear hbel3
                              have hR3 := HR3.out
                              rw [HM2.out, HP2.out] at hR3
                              obtain ⟨Y, hY⟩ : ∃ Y, (if (M2 || P2) = true then T3.drop 1 else T3) = Y := ⟨_, rfl⟩
                              rw [hY] at hR3
                              have HY := Lib.hid hY
                              replace HR3 := Lib.hid hR3
                              clear hR3 hY
                              go_upto_if 106 with (fail)
                              go_cut [5, 9] (fun i m wx => ∃ (J : Nat) (mv : Int), i = .int .i64 ((J : Nat) : Int) ∧ m = .int .i64 mv ∧ Hid (mv = if M2 = true then -1 else 1) ∧ Hid (L.drop J = Y) ∧ J ≤ S.size ∧ Hid (J + Y.length = S.size) ∧ Below w.heap.size w wx)
                              case first =>
                                --{{
                                as_aux_lemma =>
                                  have hY := HY.out
                                  have hi4 := HI4.out
                                  rcases T3 with _ | ⟨y, T4⟩
                                  · have hm := HM2.out
                                    have hp := HP2.out
                                    simp at hm hp
                                    subst hm hp
                                    clear HI4 HM2 HP2 HR3
                                    go_wp2_with fail
                                    go_meet
                                    simp at hY hi4
                                    subst hY
                                    exact ⟨I + 1, _, by go_num, rfl, Lib.hid rfl, HT3, by omega, Lib.hid (by simp; omega), hbel4⟩
                                  · rw [List.length_cons] at hi4
                                    have h2 : I + 1 < S.size := by omega
                                    have hy0 := idx_drop HL.out HT3.out
                                    have hm := HM2.out
                                    rw [← head_is] at hm
                                    have hd2 := drop_next HT3.out
                                    have Hd2 := Lib.hid hd2
                                    have Hi4 := Lib.hid hi4
                                    have HY := Lib.hid hY
                                    clear HI4 HM2 HP2 HR3 hd2 hi4 hY
                                    rcases M2 with _ | _
                                    · rcases P2 with _ | _
                                      · go_wp2_with fail
                                        go_meet
                                        have hY := HY.out
                                        simp at hY
                                        subst hY
                                        exact ⟨I + 1, _, by go_num, rfl, Lib.hid rfl, HT3, by omega, Lib.hid (by have := Hi4.out; simp; omega), hbel4⟩
                                      · go_wp2_with fail
                                        go_meet
                                        have hY := HY.out
                                        simp at hY
                                        subst hY
                                        exact ⟨I + 1 + 1, _, by go_num, rfl, Lib.hid rfl, Hd2, by omega, Lib.hid (by have := Hi4.out; omega), hbel4⟩
                                    · rcases P2 with _ | _
                                      all_goals
                                        go_wp2_with fail
                                        go_meet
                                        have hY := HY.out
                                        simp at hY
                                        subst hY
                                        exact ⟨I + 1 + 1, _, by go_num, rfl, Lib.hid rfl, Hd2, by omega, Lib.hid (by have := Hi4.out; omega), hbel4⟩
                                --}}
                              case rest =>
                                obtain ⟨J, mv, rfl, rfl, HMV, HJ, hJ, HJl, hbel5⟩ := hcut
                                obtain ⟨w6, rfl⟩ : ∃ w6 : World, w6 = wc := ⟨_, rfl⟩
                                clear hbel4 HM2 HP2 HT3 HI4 HY hI2 hI3 hI
                                have hdg := fun w => DG J (by omega) w
                                by_cases hd : isDig L J = true
                                · simp only [hd] at hdg
                                  have hE0 := tw_cons HJ.out hd
                                  have hR3 := HR3.out
                                  simp only [hE0, Bool.false_or] at hR3
                                  replace HR3 := Lib.hid hR3
                                  clear hR3 hE0 hd
                                  go_wp2_with fail
                                  refine (hdg _).mono ?_
                                  rintro e w9 ⟨rfl, rfl⟩
                                  clear hdg
                                  go_upto_block 4 with (fail)
                                  go_cut [5, 8] (fun i x wx => ∃ (k : Nat) (E : List UInt8), i = .int .i64 ((k : Nat) : Int) ∧ x = .int .i64 ((expRef E : Nat) : Int) ∧ Hid (Coll L J k [] E) ∧ Hid (isDig L k = false) ∧ k ≤ S.size ∧ expRef E ≤ 109999 ∧ Below w.heap.size w wx)
                                  case first =>
                                    --{{
                                    as_aux_lemma =>
                                      go_wp2_with fail
                                      go_loop [5, 8] (fun i x => ∃ (k : Nat) (E : List UInt8) (X : Nat), k ≤ S.size ∧ i = .int .i64 ((k : Nat) : Int) ∧ x = .int .i64 ((X : Nat) : Int) ∧ Hid (Coll L J k [] E) ∧ Hid (X = expRef E) ∧ X ≤ 109999) (fun i _ => S.size - (intOf i).toNat)
                                      case atStart => exact ⟨J, [], 0, hJ, rfl, rfl, Lib.hid (Coll.start L J []), Lib.hid rfl, by omega⟩
                                      case round =>
                                        obtain ⟨k, E, X, hk, rfl, rfl, hC, hX, hXl⟩ := hrel
                                        have hdg := fun w => DG k (by omega) w
                                        by_cases hd : isDig L k = true
                                        · simp only [hd] at hdg
                                          have hLlen : L.length = S.size := by rw [← HL.out, bytes_length]
                                          have hlt : k < S.size := by
                                            apply Nat.lt_of_not_le
                                            intro h
                                            rw [isDig_none (List.getElem?_eq_none (by omega))] at hd
                                            cases hd
                                          have hb : L[k]? = some (S[k]'hlt) := by rw [← HL.out]; exact str_get hlt
                                          have hC2 := Lib.hid (hC.out.step hb hd)
                                          rw [isDig_some hb] at hd
                                          have hdd : 48 ≤ (S[k]'hlt).toNat ∧ (S[k]'hlt).toNat ≤ 57 := by simpa [isD] using hd
                                          obtain ⟨hb48, hb57⟩ := hdd
                                          have hlt' : (k : Int) < (S.size : Int) := by omega
                                          have hsn := expRef_snoc E (S[k]'hlt)
                                          rw [← hX.out] at hsn
                                          have HSN := Lib.hid hsn
                                          clear hb hd hLlen hsn
                                          by_cases hx4 : X < 10000
                                          · go_wp2_with fail
                                            refine (hdg _).mono ?_
                                            rintro e w9 ⟨rfl, rfl⟩
                                            clear hdg DG
                                            go_wp2_with fail
                                            go_round
                                            case rel => exact ⟨k + 1, E ++ [S[k]'hlt], X * 10 + ((S[k]'hlt).toNat - 48), by omega, by go_num, by congr 1; omega, hC2, Lib.hid (by rw [HSN.out, if_pos hx4]), by omega⟩
                                            case measure => simp [intOf]; omega
                                          · go_wp2_with fail
                                            refine (hdg _).mono ?_
                                            rintro e w9 ⟨rfl, rfl⟩
                                            clear hdg DG
                                            go_wp2_with fail
                                            go_round
                                            case rel => exact ⟨k + 1, E ++ [S[k]'hlt], X, by omega, by go_num, rfl, hC2, Lib.hid (by rw [HSN.out, if_neg hx4]), by omega⟩
                                            case measure => simp [intOf]; omega
                                        · have hd2 : isDig L k = false := by simpa using hd
                                          simp only [hd2] at hdg
                                          clear hd
                                          have Hd2 := Lib.hid hd2
                                          clear hd2
                                          go_wp2_with fail
                                          refine (hdg _).mono ?_
                                          rintro e w9 ⟨rfl, rfl⟩
                                          clear hdg DG
                                          go_wp2_with fail
                                          go_meet
                                          exact ⟨k, E, rfl, by rw [hX.out], hC, Hd2, hk, by rw [← hX.out]; omega, hbel5⟩
                                    --}}
                                  case rest =>
                                    --{{
                                    as_aux_lemma =>
                                      obtain ⟨k, E, rfl, rfl, hC, Hd, hk, hEl, hbel6⟩ := hcut
                                      obtain ⟨w7, rfl⟩ : ∃ w7 : World, w7 = wc := ⟨_, rfl⟩
                                      have hLlen : L.length = S.size := by rw [← HL.out, bytes_length]
                                      obtain ⟨e1, e2, e3⟩ := hC.out.done (by omega) Hd.out
                                      rw [HJ.out] at e1 e2 e3
                                      rw [List.nil_append] at e1
                                      have hR3 := HR3.out
                                      rw [← e1, ← e3] at hR3
                                      replace HR3 := Lib.hid hR3
                                      have hmv : (M2 = true ∧ mv = -1) ∨ (M2 = false ∧ mv = 1) := by
                                        rw [HMV.out]
                                        cases M2
                                        · right; exact ⟨rfl, rfl⟩
                                        · left; exact ⟨rfl, rfl⟩
                                      have HLlen := Lib.hid hLlen
                                      clear hR3 e1 e2 e3 hC Hd HJ HJl HMV hLlen hbel5
                                      by_cases hks : k < S.size
                                      · have hks' : (k : Int) < (S.size : Int) := by omega
                                        have hR4 : R = tailR sg none := by
                                          have h1 : (L.drop k).isEmpty = false := by
                                            rw [List.isEmpty_eq_false_iff]
                                            intro h
                                            have := congrArg List.length h
                                            rw [List.length_drop, HLlen.out] at this
                                            simp at this
                                            omega
                                          rw [HR3.out, h1]
                                          rfl
                                        have HR4 := Lib.hid hR4
                                        clear hR4 HR3 hmv HLlen
                                        generalize expRef E = X at *
                                        go_wp2_with fail
                                        go_ret2
                                        rw [HR4.out]
                                        exact ⟨rfl, hbel6⟩
                                      · have hks' : ¬ (k : Int) < (S.size : Int) := by omega
                                        have hR4 : R = tailR sg (some (D2, neg M2 (expRef E) - (f : Int))) := by
                                          have h1 : L.drop k = [] := List.drop_of_length_le (by rw [HLlen.out]; omega)
                                          rw [HR3.out, h1]
                                          rfl
                                        have HR4 := Lib.hid hR4
                                        clear hR4 HR3 HLlen
                                        generalize expRef E = X at *
                                        rcases hmv with ⟨rfl, rfl⟩ | ⟨rfl, rfl⟩
                                        · go_wp2_with fail
                                          go_meet
                                          refine ⟨_, rfl, Lib.hid ?_, by omega, by omega, hbel6⟩
                                          rw [HR4.out, neg, if_pos rfl]
                                        · go_wp2_with fail
                                          go_meet
                                          refine ⟨_, rfl, Lib.hid ?_, by omega, by omega, hbel6⟩
                                          rw [HR4.out, neg, if_neg (by simp)]
                                    --}}
                                · have hd2 : isDig L J = false := by simpa using hd
                                  simp only [hd2] at hdg
                                  have hE0 := tw_nil HJ.out hd2
                                  have hR3 := HR3.out
                                  rw [hE0] at hR3
                                  simp only [List.isEmpty_nil, Bool.true_or, if_true] at hR3
                                  replace HR3 := Lib.hid hR3
                                  clear hR3 hE0 hd hd2
                                  go_wp2_with fail
                                  refine (hdg _).mono ?_
                                  rintro e w9 ⟨rfl, rfl⟩
                                  clear hdg
                                  go_wp2_with fail
                                  go_ret2
                                  rw [HR3.out]
                                  exact ⟨rfl, hbel5⟩
                          · have hzb := (u8_ne (n := 101) (by omega) hz1).2
                            have hR3 : R = tailR sg none := by rw [HR2.out]; simp [litTail, hz1]
                            clear HR2 HT2 HI
                            go_wp2_with fail
                            go_ret2
                            rw [hR3]
                            exact ⟨rfl, hbel3⟩
                      --}}
                    case rest =>
                      obtain ⟨xv, rfl, HR5, hx1, hx2, hbel4⟩ := hcut
                      obtain ⟨w5, rfl⟩ : ∃ w5 : World, w5 = wc := ⟨_, rfl⟩
                      have OD := fun w => ofDigits_any ⟨D2.toArray⟩ w (by have : (⟨D2.toArray⟩ : ByteArray).size = D2.length := rfl; omega) HD2.out
                      have e0 : decv (⟨D2.toArray⟩ : ByteArray).data.toList = decv D2 := rfl
                      rw [e0] at OD
                      have hMl := decv_lt HD2.out
                      obtain ⟨y, hy⟩ : ∃ y : Int, xv - (f : Int) = y := ⟨_, rfl⟩
                      have hR6 := HR5.out
                      rw [hy] at hR6
                      unfold tailR at hR6
                      have hy1 : -300000 ≤ y ∧ y ≤ 300000 := by omega
                      have hrl : rl (decv D2) ≤ 200 := rl_le (Nat.lt_of_lt_of_le hMl (Nat.le_trans (Nat.pow_le_pow_right (by omega) hD2l) (Nat.pow_le_pow_left (by omega) _)))
                      clear HT2 HR2 HI HD2 HR5 hbel3 DG e0 hMl hI hD2l
                      simp only [] at hR6
                      generalize decv D2 = M3 at *
                      have HR6 := Lib.hid hR6
                      clear hR6
                      go_wp2_with fail
                      refine (OD _).mono ?_
                      rintro e w6 ⟨q, rfl, hq, -, hb6⟩
                      have hbel6 := hbel4.trans (hb6.mono hbel4.size)
                      clear OD hb6
                      obtain ⟨a, ca, rfl, -⟩ := hq.open
                      have hlr : (dig 10000 M3).length = rl M3 := rfl
                      rw [hlr] at hq ⊢
                      clear hlr
                      clear hy
                      rcases Nat.eq_zero_or_pos M3 with h0 | h0
                      · subst h0
                        have hR7 := HR6.out
                        rw [if_pos (.inl rfl)] at hR7
                        subst hR7
                        have hz : (((rl 0 : Nat) : Int) == 0) = true := by unfold rl; rw [dig_zero]; rfl
                        clear hrl HR6 hq
                        go_wp2_with fail
                        go_ret2
                        exact ⟨rfl, hbel6⟩
                      · have hp : 0 < rl M3 := dig_pos_len h0
                        have hz : (((rl M3 : Nat) : Int) == 0) = false := beq_eq_false_iff_ne.2 (by omega)
                        by_cases hy5 : y < -500
                        · have hR7 := HR6.out
                          rw [if_pos (.inr hy5)] at hR7
                          subst hR7
                          clear HR6 hq
                          go_wp2_with fail
                          go_ret2
                          exact ⟨rfl, hbel6⟩
                        · have hR7 := HR6.out
                          rw [if_neg (by omega)] at hR7
                          by_cases hy4 : 400 < y
                          · rw [if_pos hy4] at hR7
                            subst hR7
                            clear HR6 hq
                            go_wp2_with fail
                            go_ret2
                            exact ⟨rfl, hbel6⟩
                          · rw [if_neg hy4] at hR7
                            have NO := fun G h => nearestOf_any (G := G) y w6 hq h0 (by omega) (by omega) h
                            have hBl := near_le (M3 * 10 ^ y.toNat) (10 ^ (-y).toNat)
                            obtain ⟨B, hB⟩ : ∃ B, near (M3 * 10 ^ y.toNat) (10 ^ (-y).toNat) = B := ⟨_, rfl⟩
                            have NO2 := NO B hB
                            rw [hB] at hR7 hBl
                            have HR7 := Lib.hid hR7
                            clear hR7 HR6 NO hB
                            go_wp2_with fail
                            refine NO2.mono ?_
                            rintro e w7 ⟨rfl, hb7⟩
                            have hbel7 := hbel6.trans (hb7.mono hbel6.size)
                            clear NO2 hb7 hq hz
                            by_cases hBi : B = 9218868437227405312
                            · subst hBi
                              have hR8 := HR7.out
                              rw [if_pos rfl] at hR8
                              subst hR8
                              go_wp2_with fail
                              go_ret2
                              exact ⟨rfl, hbel7⟩
                            · have hR8 := HR7.out
                              rw [if_neg hBi] at hR8
                              subst hR8
                              have hBb : ((B : Int) == 9218868437227405312) = false := beq_eq_false_iff_ne.2 (by omega)
                              clear HR7 hBi
                              go_wp2_with fail
                              go_ret2
                              exact ⟨ret_num2 (by omega) rfl, hbel7⟩
end Go.Proofs.YtfeeiipohfpdiaaDoor
