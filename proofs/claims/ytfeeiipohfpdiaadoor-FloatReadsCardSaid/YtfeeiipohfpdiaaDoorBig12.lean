/- Walks of package big: long division: the multiple is taken off. -/
import Derived.Test.YtfeeiipohfpdiaaDoorBig11
namespace Go.Proofs.YtfeeiipohfpdiaaDoor
set_option linter.unusedVariables false
set_option linter.unusedSimpArgs false
open Go.RowKit

/-- what holds between two rounds of a long division -/
def LongRel (gu gq gv L N j V U0 B0 : Nat) (restu restv : List Value) (vl us qs : List Nat) (w0 w' : World) : Prop :=
  Blk w' gu 76 (ints .u32 us ++ restu) ∧ us.length = N ∧ Good 4294967296 us ∧ Blk w' gq 76 (ints .u32 qs) ∧ qs.length = N - L ∧ Good 4294967296 qs ∧
  val 4294967296 us + val 4294967296 (qs.drop j) * (4294967296 ^ j * V) = U0 ∧ val 4294967296 (us.drop j) < V ∧ Blk w' gv 76 (ints .u32 vl ++ restv) ∧ Below B0 w0 w'

theorem high_zero {us : List Nat} {j L V : Nat} (hj : j + L + 1 ≤ us.length) (hlt : val 4294967296 (us.drop (j + 1)) < V) (hV : V < 4294967296 ^ L) : val 4294967296 (us.drop (j + L + 1)) = 0 := by
  have h1 := val_take_drop (B := 4294967296) (us.drop (j + 1)) L (by rw [List.length_drop]; omega)
  rw [List.drop_drop, show j + 1 + L = j + L + 1 from by omega] at h1
  rcases Nat.eq_zero_or_pos (val 4294967296 (us.drop (j + L + 1))) with h0 | h0
  · exact h0
  · have := Nat.le_mul_of_pos_right (4294967296 ^ L) h0
    omega

theorem long_step {us s : List Nat} {j L V g Q U0 : Nat} (hj : j + L + 1 ≤ us.length) (hs : s.length = L + 1) (hlt : val 4294967296 (us.drop (j + 1)) < V) (hV : V < 4294967296 ^ L)
    (h : val 4294967296 us + Q * (4294967296 ^ (j + 1) * V) = U0) (hsv : val 4294967296 s + g * V = val 4294967296 ((us.drop j).take (L + 1))) :
    val 4294967296 (us.take j ++ s ++ us.drop (j + L + 1)) + (g + 4294967296 * Q) * (4294967296 ^ j * V) = U0 ∧ val 4294967296 ((us.take j ++ s ++ us.drop (j + L + 1)).drop j) = val 4294967296 s := by
  have hz := high_zero hj hlt hV
  have hjt : (us.take j).length = j := by rw [List.length_take]; omega
  constructor
  · have e1 : val 4294967296 us = val 4294967296 (us.take j) + 4294967296 ^ j * val 4294967296 ((us.drop j).take (L + 1)) := by
      rw [val_take_drop us j (by omega)]
      congr 2
      rw [val_take_drop (us.drop j) (L + 1) (by rw [List.length_drop]; omega), List.drop_drop, show j + (L + 1) = j + L + 1 from by omega, hz, Nat.mul_zero, Nat.add_zero]
    rw [val_append, val_append, hz, Nat.mul_zero, Nat.add_zero, hjt, ← h, e1, ← hsv, Nat.pow_succ]
    generalize 4294967296 ^ j = p
    generalize val 4294967296 (us.take j) = a
    generalize val 4294967296 s = b
    have e2 : (g + 4294967296 * Q) * (p * V) = p * (g * V) + Q * (p * 4294967296 * V) := by
      rw [Nat.add_mul, Nat.mul_left_comm g p V, Nat.mul_assoc 4294967296 Q, Nat.mul_assoc p 4294967296 V, Nat.mul_left_comm p 4294967296 V, Nat.mul_left_comm 4294967296 Q]
    rw [e2, Nat.mul_add]
    omega
  · rw [List.append_assoc, List.drop_append_of_le_length (by omega), List.drop_of_length_le (by omega), List.nil_append, val_append, hz, Nat.mul_zero, Nat.add_zero]

theorem split_mid (us : List Nat) (j L : Nat) : us = us.take j ++ (us.drop j).take (L + 1) ++ us.drop (j + L + 1) := by
  rw [List.append_assoc, show j + L + 1 = j + (L + 1) from by omega, ← List.drop_drop, List.take_append_drop, List.take_append_drop]

theorem takes_n (g off cu ls ln : Nat) (b : Option Addr) (cb f : Nat) (pre post : List Value) (seg lv : List Nat) (w : World) (h1 : seg.length = ls) (h2 : lv.length = ln) (hoff : pre.length = off) (hmu : ls ≤ 1000000) (hlv : ln < ls) (hcu : ls ≤ cu)
    (hblk : Blk w g 76 (pre ++ ints .u32 seg ++ post)) (gs : Good 4294967296 seg) (hv : Sl w (.slice b ln cb) (ints .u32 lv)) (gv : Good 4294967296 lv) (hne : (Value.slice b ln cb).ownBlock ≠ some g) (hf : f < 4294967296) :
    Calls Tryd.prog 166 #[.slice (some ⟨g, off, none⟩) ls cu, .slice b ln cb, .int .u64 ((f : Nat) : Int)] w fun e w' => ∃ s bb, e = .returned (.bool (bb == 1)) ∧ bb ≤ 1 ∧ s.length = ls ∧ Good 4294967296 s ∧
      Blk w' g 76 (pre ++ ints .u32 s ++ post) ∧ val 4294967296 s + f * val 4294967296 lv = val 4294967296 seg + bb * 4294967296 ^ ls ∧ w.grownBy w' (some g) := by
  subst h1; subst h2
  exact takes_any g off cu b cb f pre post seg lv w hoff hmu hlv hcu hblk gs hv gv hne hf
theorem gives_n (g off cu ls ln : Nat) (b : Option Addr) (cb : Nat) (pre post : List Value) (seg lv : List Nat) (w : World) (h1 : seg.length = ls) (h2 : lv.length = ln) (hoff : pre.length = off) (hmu : ls ≤ 1000000) (hlv : ln < ls) (hcu : ls ≤ cu)
    (hblk : Blk w g 76 (pre ++ ints .u32 seg ++ post)) (gs : Good 4294967296 seg) (hv : Sl w (.slice b ln cb) (ints .u32 lv)) (gv : Good 4294967296 lv) (hne : (Value.slice b ln cb).ownBlock ≠ some g) :
    Calls Tryd.prog 167 #[.slice (some ⟨g, off, none⟩) ls cu, .slice b ln cb] w fun e w' => ∃ s c, e = .returned (.tuple #[]) ∧ c ≤ 1 ∧ s.length = ls ∧ Good 4294967296 s ∧
      Blk w' g 76 (pre ++ ints .u32 s ++ post) ∧ val 4294967296 s + c * 4294967296 ^ ls = val 4294967296 seg + val 4294967296 lv ∧ w.grownBy w' (some g) := by
  subst h1; subst h2
  exact gives_any g off cu b cb pre post seg lv w hoff hmu hlv hcu hblk gs hv gv hne

set_option maxRecDepth 1000000 in
set_option maxHeartbeats 1000000 in
theorem long_rest (Q : Exit → Act → World → Prop) (gv cv gu cu gq L N j g V U0 B0 : Nat) (restu restv : List Value) (vl us qs : List Nat) (w0 wr : World)
    (s0 s1 s2 s3 s4 s5 s6 s10 s11 s13 s15 s16 s17 s18 s19 s20 s21 s22 s23 s24 s25 s26 s27 s28 s29 s30 s31 s32 s33 s34 s35 s36 s37 s38 s39 s40 s41 s42 s43 s44 s45 s46 s47 s48 s49 s50 s51 s52 s53 s54 s55 s56 s57 s58 s59 s60 s61 s62 s63 s64 s65 s66 s67 s68 s69 s70 s71 s72 s73 s74 s75 s76 s77 s78 s79 s80 s81 s82 s83 s84 s85 s86 s87 s88 s89 s90 s91 s92 s93 s94 s95 s96 s97 s98 s99 s100 s101 s102 s103 s104 s105 s106 s107 s108 s109 s110 s111 s112 s113 s114 s115 s116 s117 s118 s119 s120 s121 s122 s123 s124 s125 s126 s127 s128 s129 s130 s131 s132 s133 s134 s135 s136 s137 s138 s139 s140 s141 s142 s143 s144 s145 s146 : Value)
    (hL : 2 ≤ L) (hL2 : L ≤ 999999) (hj : j + L < N) (hN : N ≤ 1000002) (hcu : N ≤ cu) (hcu2 : cu ≤ 9223372036854775807) (hcv : L ≤ cv) (hcv2 : cv ≤ 9223372036854775807) (hvl : vl.length = L) (gvl : Good 4294967296 vl) (hvv : val 4294967296 vl = V) (hV0 : 0 < V) (hVlt : V < 4294967296 ^ L)
    (hg : g < 4294967296) (hq1 : val 4294967296 ((us.drop j).take (L + 1)) / V ≤ g) (hq2 : g ≤ val 4294967296 ((us.drop j).take (L + 1)) / V + 1)
    (hne : gv ≠ gu) (hne2 : gq ≠ gu) (hne3 : gv ≠ gq) (hB1 : B0 ≤ gu) (hB2 : B0 ≤ gq) (hB3 : B0 ≤ w0.heap.size)
    (hrel : LongRel gu gq gv L N (j + 1) V U0 B0 restu restv vl us qs w0 wr)
    (hQ : ∀ (us' qs' : List Nat) (t14 t113 t114 t115 t116 t117 t118 t119 t120 t121 t122 t123 t124 t125 t126 t127 t128 t129 t130 t131 t132 t133 t134 t135 t136 t137 t138 t139 t140 : Value) (w' : World), LongRel gu gq gv L N j V U0 B0 restu restv vl us' qs' w0 w' → Q .normal { tmps := #[s0, s1, s2, s3, s4, s5, s6, .slice (some ⟨gv, 0, none⟩) L cv, .slice (some ⟨gu, 0, none⟩) N cu, .slice (some ⟨gq, 0, none⟩) (N - L) (N - L), s10, s11, .int .i64 ((j : Nat) : Int), s13, t14, s15, s16, s17, s18, s19, s20, s21, s22, s23, s24, s25, s26, s27, s28, s29, s30, s31, s32, s33, s34, s35, s36, s37, s38, s39, s40, s41, s42, s43, s44, s45, s46, s47, s48, s49, s50, s51, s52, s53, s54, s55, s56, s57, s58, s59, s60, s61, s62, s63, s64, s65, s66, s67, s68, s69, s70, s71, s72, s73, s74, s75, s76, s77, s78, s79, s80, s81, s82, s83, s84, s85, s86, s87, s88, s89, s90, s91, s92, s93, s94, s95, s96, s97, s98, s99, s100, s101, s102, s103, s104, s105, s106, s107, s108, s109, s110, s111, s112, t113, t114, t115, t116, t117, t118, t119, t120, t121, t122, t123, t124, t125, t126, t127, t128, t129, t130, t131, t132, t133, t134, t135, t136, t137, t138, t139, t140, s141, s142, s143, s144, s145, s146], defers := [] } w') :
    Code.wp Tryd.prog longRest Q { tmps := #[s0, s1, s2, s3, s4, s5, s6, .slice (some ⟨gv, 0, none⟩) L cv, .slice (some ⟨gu, 0, none⟩) N cu, .slice (some ⟨gq, 0, none⟩) (N - L) (N - L), s10, s11, .int .i64 ((j : Nat) : Int), s13, .int .u64 ((g : Nat) : Int), s15, s16, s17, s18, s19, s20, s21, s22, s23, s24, s25, s26, s27, s28, s29, s30, s31, s32, s33, s34, s35, s36, s37, s38, s39, s40, s41, s42, s43, s44, s45, s46, s47, s48, s49, s50, s51, s52, s53, s54, s55, s56, s57, s58, s59, s60, s61, s62, s63, s64, s65, s66, s67, s68, s69, s70, s71, s72, s73, s74, s75, s76, s77, s78, s79, s80, s81, s82, s83, s84, s85, s86, s87, s88, s89, s90, s91, s92, s93, s94, s95, s96, s97, s98, s99, s100, s101, s102, s103, s104, s105, s106, s107, s108, s109, s110, s111, s112, s113, s114, s115, s116, s117, s118, s119, s120, s121, s122, s123, s124, s125, s126, s127, s128, s129, s130, s131, s132, s133, s134, s135, s136, s137, s138, s139, s140, s141, s142, s143, s144, s145, s146], defers := [] } wr := by
  obtain ⟨hbu, husl, hgus, hbq, hqsl, hgqs, hval, hlt, hbv, hbel⟩ := hrel
  have HVAL := Lib.hid hval
  have HUL := Lib.hid husl
  have HQL := Lib.hid hqsl
  have HVL := Lib.hid hvl
  have HVV := Lib.hid hvv
  clear hval hvl hvv husl hqsl
  have hju : (ints .u32 (us.take j)).length = j := by rw [ints_length, List.length_take, HUL.out]; omega
  have HJU := Lib.hid hju
  clear hju
  conv => arg 2; whnf
  go_wp2_with fail
  obtain ⟨seg, hseg⟩ : ∃ seg, (us.drop j).take (L + 1) = seg := ⟨_, rfl⟩
  have hsl : seg.length = L + 1 := by rw [← hseg, List.length_take, List.length_drop, HUL.out]; omega
  have gseg : Good 4294967296 seg := by rw [← hseg]; exact good_take (good_drop hgus j) _
  have hlen : j + L + 1 - j = L + 1 := by omega
  rw [hlen]
  rw [hseg] at hq1 hq2
  have hpl : (ints .u32 (us.take j)).length = j := HJU.out
  have hb0 : Blk wr gu 76 (ints .u32 (us.take j) ++ ints .u32 seg ++ (ints .u32 (us.drop (j + L + 1)) ++ restu)) := by
    have := hbu
    rw [split_mid us j L, hseg, ints_append, ints_append] at this
    rw [← List.append_assoc]; exact this
  have hvs : Sl wr (.slice (some ⟨gv, 0, none⟩) L cv) (ints .u32 vl) := hbv.sl (by rw [ints_length]; exact HVL.out) hcv (by unfold maxLen; omega) (fun i u hu => by rw [Nat.zero_add, List.getElem?_append_left (List.getElem?_eq_some_iff.1 hu).1]; exact hu)
  have hdv : val 4294967296 seg < 4294967296 ^ (L + 1) := by have := val_lt gseg; rwa [hsl] at this
  have HSL := Lib.hid hsl
  have HSEG := Lib.hid hseg
  have HDV := Lib.hid hdv
  clear hsl hseg hlen hdv
  refine (takes_n gu j (cu - j) (L + 1) L _ cv g (ints .u32 (us.take j)) (ints .u32 (us.drop (j + L + 1)) ++ restu) seg vl wr HSL.out HVL.out hpl (by omega) (by omega) (by omega) hb0 gseg hvs gvl (by simpa [Value.ownBlock] using hne) hg).mono ?_
  rintro e w1 ⟨s, bb, rfl, hbb, hsl2, hgs, hb1, hv1, hg1⟩
  rw [HVV.out] at hv1
  have HV1 := Lib.hid hv1
  have HSL2 := Lib.hid hsl2
  have hslt : val 4294967296 s < 4294967296 ^ (L + 1) := by have := val_lt hgs; rwa [hsl2] at this
  have hVP : V ≤ 4294967296 ^ (L + 1) := by rw [Nat.pow_succ]; omega
  have HSLT := Lib.hid hslt
  have HVP := Lib.hid hVP
  have hbq1 := hbq.grown hg1 (by simpa using hne2)
  have hbv1 := hbv.grown hg1 (by simpa using hne)
  have hbel1 : Below B0 w0 w1 := hbel.grown hg1 (Nat.le_trans hB3 hbel.size) (fun k hk => by cases hk; exact hB1)
  obtain ⟨qz, hqz⟩ : ∃ x, qs[j]? = some x := ⟨qs[j]'(by rw [HQL.out]; omega), List.getElem?_eq_getElem (by rw [HQL.out]; omega)⟩
  clear hv1 hsl2 hslt hVP hb0 hvs hbu hbq hbv
  rcases (show g = val 4294967296 seg / V ∨ g = val 4294967296 seg / V + 1 by omega) with hgq | hgq
  · obtain ⟨rfl, hsm⟩ := takes_right hV0 HSLT.out HDV.out HVP.out hgq HV1.out
    have hcq : w1.cell? ⟨gq, j, none⟩ = some (.int .u32 ((qz : Nat) : Int)) := by rw [hbq1.cell]; exact ints_get hqz
    have hfq := hbq1.frozen j
    have HGQ := Lib.hid hgq
    have HSM := Lib.hid hsm
    have HQ0 := Lib.hid hbq1
    clear hgq hsm hqz hbq1
    go_wp2_with fail
    have hst := long_step (s := s) (g := g) (by rw [HUL.out]; omega) HSL2.out hlt hVlt HVAL.out (by have := HV1.out; rw [HSEG.out]; omega)
    refine hQ (us.take j ++ s ++ us.drop (j + L + 1)) (qs.set j g) _ _ _ _ _ _ _ _ _ _ _ _ _ _ _ _ _ _ _ _ _ _ _ _ _ _ _ _ _ _ ⟨?_, ?_, ?_, ?_, ?_, ?_, ?_, ?_, ?_, ?_⟩
    · rw [ints_append, ints_append, List.append_assoc _ _ restu]
      exact hb1.other (by simpa using fun h => hne2 h.symm) _
    · simp only [List.length_append, List.length_take, List.length_drop, HSL2.out, HUL.out]; omega
    · intro x hx
      rcases List.mem_append.1 hx with hx | hx
      · rcases List.mem_append.1 hx with hx | hx
        · exact good_take hgus j x hx
        · exact hgs x hx
      · exact good_drop hgus _ x hx
    · rw [← ints_set]; exact HQ0.out.set _ _
    · simp [HQL.out]
    · exact good_set hgqs hg
    · have h2 : (qs.set j g)[j]? = some g := by rw [List.getElem?_set_self (by rw [HQL.out]; omega)]
      rw [val_drop h2, drop_set_succ]
      exact hst.1
    · rw [hst.2, HSM.out]; exact Nat.mod_lt _ hV0
    · exact hbv1.other (by simpa using hne3) _
    · exact hbel1.setCell (by exact hB2) _
  · have hbb1 : bb = 1 := by
      rcases (show bb = 0 ∨ bb = 1 by omega) with h0 | h0
      · exfalso
        have h1 := HV1.out
        have h2 := Nat.div_add_mod' (val 4294967296 seg) V
        have h3 := Nat.mod_lt (val 4294967296 seg) hV0
        rw [hgq, h0, Nat.zero_mul, Nat.add_zero, Nat.add_mul, Nat.one_mul] at h1
        generalize val 4294967296 seg / V * V = z at *
        omega
      · exact h0
    subst hbb1
    have hg0 : 1 ≤ g := by rw [hgq]; exact Nat.le_add_left 1 _
    have HGQ := Lib.hid hgq
    have HB1 := Lib.hid hb1
    have hvs1 : Sl w1 (.slice (some ⟨gv, 0, none⟩) L cv) (ints .u32 vl) := hbv1.sl (by rw [ints_length]; exact HVL.out) hcv (by unfold maxLen; omega) (fun i u hu => by rw [Nat.zero_add, List.getElem?_append_left (List.getElem?_eq_some_iff.1 hu).1]; exact hu)
    have HVS1 := Lib.hid hvs1
    clear hgq hb1 hvs1
    go_wp2_with fail
    have hlen : j + L + 1 - j = L + 1 := by omega
    rw [hlen]
    have eg : ((g : Int) - 1) = ((g - 1 : Nat) : Int) := by omega
    refine (gives_n gu j (cu - j) (L + 1) L _ cv (ints .u32 (us.take j)) (ints .u32 (us.drop (j + L + 1)) ++ restu) s vl w1 HSL2.out HVL.out hpl (by omega) (by omega) (by omega) HB1.out hgs HVS1.out gvl (by simpa [Value.ownBlock] using hne)).mono ?_
    rintro e w2 ⟨s2, c, rfl, hc, hsl3, hgs2, hb2, hv2, hg2⟩
    rw [HVV.out] at hv2
    have hslt2 : val 4294967296 s2 < 4294967296 ^ (L + 1) := by have := val_lt hgs2; rwa [hsl3] at this
    have hov := takes_over hV0 HSLT.out HDV.out HVP.out (show 1 ≤ 1 from Nat.le_refl _) (q := g - 1) (by rw [HGQ.out]; omega) (by rw [show g - 1 + 1 = g from by omega]; exact HV1.out) hc hslt2 hv2
    have hbq2 := hbq1.grown hg2 (by simpa using hne2)
    have hbv2 := hbv1.grown hg2 (by simpa using hne)
    have hbel2 : Below B0 w0 w2 := hbel1.grown hg2 (Nat.le_trans hB3 hbel1.size) (fun k hk => by cases hk; exact hB1)
    have hcq : w2.cell? ⟨gq, j, none⟩ = some (.int .u32 ((qz : Nat) : Int)) := by rw [hbq2.cell]; exact ints_get hqz
    have hfq := hbq2.frozen j
    have HSM := Lib.hid hov.2
    have HQ0 := Lib.hid hbq2
    have HSL3 := Lib.hid hsl3
    have HB2 := Lib.hid hb2
    have hg2l : g - 1 < 4294967296 := by omega
    clear hov hqz hbq1 hbq2 hv2 hsl3 hslt2 hbv1 hb2 hlen
    go_wp2_with fail
    have hst := long_step (s := s2) (g := g - 1) (by rw [HUL.out]; omega) HSL3.out hlt hVlt HVAL.out (by
      have h1 := HSM.out
      have h2 := Nat.div_add_mod (val 4294967296 seg) V
      rw [HSEG.out, h1, HGQ.out, Nat.add_sub_cancel, Nat.mul_comm]
      omega)
    refine hQ (us.take j ++ s2 ++ us.drop (j + L + 1)) (qs.set j (g - 1)) _ _ _ _ _ _ _ _ _ _ _ _ _ _ _ _ _ _ _ _ _ _ _ _ _ _ _ _ _ _ ⟨?_, ?_, ?_, ?_, ?_, ?_, ?_, ?_, ?_, ?_⟩
    · rw [ints_append, ints_append, List.append_assoc _ _ restu]
      exact HB2.out.other (by simpa using fun h => hne2 h.symm) _
    · simp only [List.length_append, List.length_take, List.length_drop, HSL3.out, HUL.out]; omega
    · intro x hx
      rcases List.mem_append.1 hx with hx | hx
      · rcases List.mem_append.1 hx with hx | hx
        · exact good_take hgus j x hx
        · exact hgs2 x hx
      · exact good_drop hgus _ x hx
    · rw [← ints_set]; exact HQ0.out.set _ _
    · simp [HQL.out]
    · exact good_set hgqs hg2l
    · have h2 : (qs.set j (g - 1))[j]? = some (g - 1) := by rw [List.getElem?_set_self (by rw [HQL.out]; omega)]
      rw [val_drop h2, drop_set_succ]
      exact hst.1
    · rw [hst.2, HSM.out]; exact Nat.mod_lt _ hV0
    · exact hbv2.other (by simpa using hne3) _
    · exact hbel2.setCell (by exact hB2) _
end Go.Proofs.YtfeeiipohfpdiaaDoor
