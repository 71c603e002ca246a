/- Walks of package big: long division: the guess. -/
import Derived.Test.YtfeeiipohfpdiaaDoorBig10
namespace Go.Proofs.YtfeeiipohfpdiaaDoor
set_option linter.unusedVariables false
set_option linter.unusedSimpArgs false
open Go.RowKit

/-- a block of a text, by its number -/
def findBlock (id : Nat) : Code → Option Code
  | .block i c => if i = id then some (.block i c) else findBlock id c
  | .seq a b => match findBlock id a with
    | some c => some c
    | none => findBlock id b
  | .cond _ a b => match findBlock id a with
    | some c => some c
    | none => findBlock id b
  | .loop c => findBlock id c
  | .scope c => findBlock id c
  | _ => none

/-- what stands behind a block, by its number -/
def behindBlock (id : Nat) : Code → Option Code
  | .block _ c => behindBlock id c
  | .seq (.block i c) b => if i = id then some b else match behindBlock id c with
    | some c => some c
    | none => behindBlock id b
  | .seq a b => match behindBlock id a with
    | some c => some c
    | none => behindBlock id b
  | .cond _ a b => match behindBlock id a with
    | some c => some c
    | none => behindBlock id b
  | .loop c => behindBlock id c
  | .scope c => behindBlock id c
  | _ => none

noncomputable def longGuess : Code := ((Tryd.f129.body.bind (findBlock 2)).getD .skip)
noncomputable def longRest : Code := ((Tryd.f129.body.bind (behindBlock 2)).getD .skip)

set_option maxRecDepth 1000000 in
set_option maxHeartbeats 1000000 in
theorem long_guess (K : Act → World → Prop) (Q : Exit → Act → World → Prop) (gv cv gu cu L N vt vn j g0 r0 u2 two S V M vlow : Nat) (wr : World)
    (s0 s1 s2 s3 s4 s5 s6 s9 s13 s16 s17 s18 s19 s20 s21 s22 s23 s24 s25 s26 s27 s28 s29 s30 s31 s32 s33 s34 s35 s36 s37 s38 s39 s40 s41 s42 s43 s44 s45 s46 s47 s48 s49 s50 s51 s52 s53 s54 s55 s56 s57 s58 s59 s60 s61 s62 s63 s64 s65 s66 s67 s68 s69 s70 s71 s72 s73 s74 s75 s76 s77 s78 s79 s80 s81 s82 s83 s84 s85 s86 s87 s88 s89 s90 s91 s92 s93 s94 s95 s96 s97 s98 s99 s100 s101 s102 s103 s104 s105 s106 s107 s108 s109 s110 s111 s112 s113 s114 s115 s116 s117 s118 s119 s120 s121 s122 s123 s124 s125 s126 s127 s128 s129 s130 s131 s132 s133 s134 s135 s136 s137 s138 s139 s140 s141 s142 s143 s144 s145 s146 : Value)
    (hL : 2 ≤ L) (hL2 : L ≤ 1000001) (hj : j + L < N) (hN : N ≤ 1000002) (hcu : N ≤ cu) (hcu2 : cu ≤ 9223372036854775807) (gu2 : u2 < 4294967296) (gvt : vt < 4294967296) (gvn : vn < 4294967296) (hvt : 0 < vt)
    (hc2 : wr.cell? ⟨gu, j + L - 2, none⟩ = some (.int .u32 ((u2 : Nat) : Int)))
    (hV : V = (vt * 4294967296 + vn) * M + vlow) (hl : vlow < M) (h3 : (two * 4294967296 + u2) * M ≤ S) (h4 : S < (two * 4294967296 + u2 + 1) * M) (hS : S < 4294967296 * V) (hV0 : 0 < V)
    (hr0 : r0 < 4294967296) (hg0 : g0 ≤ 18446744073709551615) (hq0 : S / V ≤ g0) (ht0 : two = g0 * vt + r0)
    (hK : ∀ (g r : Nat) (t84 t85 t86 t87 t88 t89 t90 t91 t92 t93 t94 t95 t96 t97 t98 t99 t100 t101 t102 t103 t104 t105 t106 t107 t108 t109 t110 t111 t112 : Value), (g < 4294967296 ∧ S / V ≤ g ∧ g ≤ S / V + 1) → K { tmps := #[s0, s1, s2, s3, s4, s5, s6, .slice (some ⟨gv, 0, none⟩) L cv, .slice (some ⟨gu, 0, none⟩) N cu, s9, .int .u64 ((vt : Nat) : Int), .int .u64 ((vn : Nat) : Int), .int .i64 ((j : Nat) : Int), s13, .int .u64 ((g : Nat) : Int), .int .u64 ((r : Nat) : Int), s16, s17, s18, s19, s20, s21, s22, s23, s24, s25, s26, s27, s28, s29, s30, s31, s32, s33, s34, s35, s36, s37, s38, s39, s40, s41, s42, s43, s44, s45, s46, s47, s48, s49, s50, s51, s52, s53, s54, s55, s56, s57, s58, s59, s60, s61, s62, s63, s64, s65, s66, s67, s68, s69, s70, s71, s72, s73, s74, s75, s76, s77, s78, s79, s80, s81, s82, s83, t84, t85, t86, t87, t88, t89, t90, t91, t92, t93, t94, t95, t96, t97, t98, t99, t100, t101, t102, t103, t104, t105, t106, t107, t108, t109, t110, t111, t112, s113, s114, s115, s116, s117, s118, s119, s120, s121, s122, s123, s124, s125, s126, s127, s128, s129, s130, s131, s132, s133, s134, s135, s136, s137, s138, s139, s140, s141, s142, s143, s144, s145, s146], defers := [] } wr) :
    Code.wp Tryd.prog longGuess (Exit.then K Q) { tmps := #[s0, s1, s2, s3, s4, s5, s6, .slice (some ⟨gv, 0, none⟩) L cv, .slice (some ⟨gu, 0, none⟩) N cu, s9, .int .u64 ((vt : Nat) : Int), .int .u64 ((vn : Nat) : Int), .int .i64 ((j : Nat) : Int), s13, .int .u64 ((g0 : Nat) : Int), .int .u64 ((r0 : Nat) : Int), s16, s17, s18, s19, s20, s21, s22, s23, s24, s25, s26, s27, s28, s29, s30, s31, s32, s33, s34, s35, s36, s37, s38, s39, s40, s41, s42, s43, s44, s45, s46, s47, s48, s49, s50, s51, s52, s53, s54, s55, s56, s57, s58, s59, s60, s61, s62, s63, s64, s65, s66, s67, s68, s69, s70, s71, s72, s73, s74, s75, s76, s77, s78, s79, s80, s81, s82, s83, s84, s85, s86, s87, s88, s89, s90, s91, s92, s93, s94, s95, s96, s97, s98, s99, s100, s101, s102, s103, s104, s105, s106, s107, s108, s109, s110, s111, s112, s113, s114, s115, s116, s117, s118, s119, s120, s121, s122, s123, s124, s125, s126, s127, s128, s129, s130, s131, s132, s133, s134, s135, s136, s137, s138, s139, s140, s141, s142, s143, s144, s145, s146], defers := [] } wr := by
  have htwo3 := two_lt hV hl gvn h3 hS
  have hSq : S / V < 4294967296 := by rw [Nat.div_lt_iff_lt_mul hV0]; exact hS
  have HV := Lib.hid hV
  have HN := fun (g r : Nat) => near_final (g := g) (r := r) hV hl h3 hvt
  have HG := fun (g r : Nat) => big_final (g := g) (r := r) hV h4 hV0
  have HNN := Lib.hid HN
  have HGG := Lib.hid HG
  have HT0 := Lib.hid ht0
  clear HN HG hV h3 h4 hS ht0
  have e4 : ((j : Int) + (L : Int) - 2).toNat = j + L - 2 := by omega
  conv => arg 2; whnf
  go_wp2_with fail
  go_loop [14, 15] (fun sg sr => ∃ g r, sg = .int .u64 ((g : Nat) : Int) ∧ sr = .int .u64 ((r : Nat) : Int) ∧ r < 4294967296 ∧ g ≤ 18446744073709551615 ∧ S / V ≤ g ∧ two = g * vt + r) (fun sg _ => (intOf sg).toNat)
  case atStart => exact ⟨g0, r0, rfl, rfl, hr0, hg0, hq0, HT0.out⟩
  case round =>
    obtain ⟨g, r, rfl, rfl, hr, hg, hqg, htw⟩ := hrel
    have HTW := Lib.hid htw
    obtain ⟨rv, hrv⟩ : ∃ rv, r * 4294967296 + u2 = rv := ⟨_, rfl⟩
    have hor := or_two hr gu2
    rw [hrv] at hor
    have hrv2 : rv < 18446744073709551616 := by omega
    have HRV := Lib.hid hrv
    clear hrv htw
    by_cases hB : 4294967296 ≤ g
    · have hgd : (0 : Int) < (g : Int) / 4294967296 := by omega
      have hdq : S / V ≤ g - 1 := by omega
      have eg : ((g : Int) - 1) = ((g - 1 : Nat) : Int) := by omega
      have er : ((r : Int) + (vt : Int)) = ((r + vt : Nat) : Int) := by omega
      have hmul : (g - 1) * vt = g * vt - vt := Nat.sub_one_mul g vt
      have hle : vt ≤ g * vt := Nat.le_mul_of_pos_left vt (by omega)
      have ht' : two = (g - 1) * vt + (r + vt) := by rw [hmul, HTW.out]; omega
      have HT' := Lib.hid ht'
      have HDQ := Lib.hid hdq
      have EG := Lib.hid eg
      have ER := Lib.hid er
      clear hmul hle ht' hdq eg er
      go_wp2_with fail
      · have hb : (0 : Int) < ((r : Int) + (vt : Int)) / 4294967296 := by assumption
        rw [EG.out, ER.out]
        have hb2 : 4294967296 ≤ r + vt := by omega
        have hgl : g - 1 < 4294967296 := by
          rcases Nat.lt_or_ge (g - 1) 4294967296 with h | h
          · exact h
          · have h1 := Nat.mul_le_mul_right vt h
            have h2 := HT'.out
            rw [Nat.mul_comm 4294967296 vt] at h1
            omega
        exact hK (g - 1) (r + vt) _ _ _ _ _ _ _ _ _ _ _ _ _ _ _ _ _ _ _ _ _ _ _ _ _ _ _ _ _ ⟨hgl, HDQ.out, HNN.out _ _ HT'.out hgl (prod_le hgl gvn hb2)⟩
      · have hb : ((r : Int) + (vt : Int)) / 4294967296 ≤ 0 := by assumption
        go_round
        case rel => exact ⟨g - 1, r + vt, by rw [EG.out], by rw [ER.out], by omega, by omega, HDQ.out, HT'.out⟩
        case measure => simp [intOf] <;> omega
    · have hgd : ¬ (0 : Int) < (g : Int) / 4294967296 := by omega
      obtain ⟨gn, hgn⟩ : ∃ gn, g * vn = gn := ⟨_, rfl⟩
      have hgnl : gn ≤ 18446744065119617025 := by rw [← hgn]; exact Nat.mul_le_mul (show g ≤ 4294967295 by omega) (show vn ≤ 4294967295 by omega)
      have hgni : (g : Int) * (vn : Int) = (gn : Int) := by rw [← hgn, Int.natCast_mul]
      have HGN := Lib.hid hgn
      clear hgn
      by_cases hcmp : rv < gn
      · have hg1 : 1 ≤ g := by
          rcases Nat.eq_zero_or_pos g with h | h
          · have := HGN.out; rw [h, Nat.zero_mul] at this; omega
          · exact h
        have hdq : S / V ≤ g - 1 := by
          have := HGG.out g r HTW.out (by rw [HRV.out, HGN.out]; exact hcmp)
          omega
        have eg : ((g : Int) - 1) = ((g - 1 : Nat) : Int) := by omega
        have er : ((r : Int) + (vt : Int)) = ((r + vt : Nat) : Int) := by omega
        have hmul : (g - 1) * vt = g * vt - vt := Nat.sub_one_mul g vt
        have hle : vt ≤ g * vt := Nat.le_mul_of_pos_left vt (by omega)
        have ht' : two = (g - 1) * vt + (r + vt) := by rw [hmul, HTW.out]; omega
        have HT' := Lib.hid ht'
        have HDQ := Lib.hid hdq
        have EG := Lib.hid eg
        have ER := Lib.hid er
        clear hmul hle ht' hdq eg er
        go_wp2_with fail
        · have hb : (0 : Int) < ((r : Int) + (vt : Int)) / 4294967296 := by assumption
          rw [EG.out, ER.out]
          have hb2 : 4294967296 ≤ r + vt := by omega
          have hgl : g - 1 < 4294967296 := by
            rcases Nat.lt_or_ge (g - 1) 4294967296 with h | h
            · exact h
            · have h1 := Nat.mul_le_mul_right vt h
              have h2 := HT'.out
              rw [Nat.mul_comm 4294967296 vt] at h1
              omega
          exact hK (g - 1) (r + vt) _ _ _ _ _ _ _ _ _ _ _ _ _ _ _ _ _ _ _ _ _ _ _ _ _ _ _ _ _ ⟨hgl, HDQ.out, HNN.out _ _ HT'.out hgl (prod_le hgl gvn hb2)⟩
        · have hb : ((r : Int) + (vt : Int)) / 4294967296 ≤ 0 := by assumption
          go_round
          case rel => exact ⟨g - 1, r + vt, by rw [EG.out], by rw [ER.out], by omega, by omega, HDQ.out, HT'.out⟩
          case measure => simp [intOf] <;> omega
      · go_wp2_with fail
        exact ⟨by omega, HNN.out g r HTW.out (by omega) (by rw [HRV.out, HGN.out]; omega)⟩
end Go.Proofs.YtfeeiipohfpdiaaDoor
