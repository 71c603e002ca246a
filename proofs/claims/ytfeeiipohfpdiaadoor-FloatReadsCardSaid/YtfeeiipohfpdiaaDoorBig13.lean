/- Walks of package big: long division, walked. -/
import Derived.Test.YtfeeiipohfpdiaaDoorBig12
import Derived.Deep.Cut
import Derived.Deep.CutBlock
namespace Go.Proofs.YtfeeiipohfpdiaaDoor
set_option linter.unusedVariables false
set_option linter.unusedSimpArgs false
open Go.RowKit

set_option maxRecDepth 100000 in
set_option maxHeartbeats 400000 in
theorem long_any (a b : Option Addr) (ca cb m n : Nat) (la lb : List Nat) (w : World) (hla : dig 4294967296 m = la) (hlb : dig 4294967296 n = lb) (hma : la.length ≤ 100000) (hmb : 2 ≤ lb.length) (hab : lb.length ≤ la.length)
    (ha : Sl w (.slice a la.length ca) (ints .u32 la)) (hb : Sl w (.slice b lb.length cb) (ints .u32 lb)) :
    Calls Tryd.prog 129 #[.slice a la.length ca, .slice b lb.length cb] w fun e w' => ∃ q r, e = .returned (.tuple #[q, r]) ∧ Sl w' q (ints .u32 (dig 4294967296 (m / n))) ∧ Sl w' r (ints .u32 (dig 4294967296 (m % n))) ∧ Fresh w q ∧ Fresh w r ∧ Below w.heap.size w w' := by
  have HA := Lib.hid ha; clear ha
  have HB := Lib.hid hb
  have HLA := Lib.hid hla; clear hla
  have HLB := Lib.hid hlb
  obtain ⟨top, htop⟩ : ∃ x, lb[lb.length - 1]? = some x := ⟨lb[lb.length - 1], List.getElem?_eq_getElem (by omega)⟩
  have gtop : top < 4294967296 := good_get (by rw [← hlb]; exact good_dig (by omega) n) htop
  obtain ⟨b1, off1, rfl, -, hc1, hc2, hbb, hcell⟩ := hb.at (ints_get htop)
  have HT := Lib.hid htop
  clear hb hlb htop
  have e1 : ((lb.length : Int) - 1).toNat = lb.length - 1 := by omega
  have htz : top ≠ 0 := by
    have := dig_top (B := 4294967296) (by omega) n top
    rw [HLB.out, List.getLast?_eq_getElem?, HT.out] at this
    exact this rfl
  obtain ⟨sh, hsh⟩ : ∃ sh, sh = 32 - blen top := ⟨_, rfl⟩
  have hbl : 0 < blen top := blen_pos (by omega)
  have hbl2 : blen top ≤ 32 := blen_le.2 (by omega)
  have hsh2 : sh ≤ 31 := by omega
  have hshi : (32 - (blen top : Int)) = (sh : Int) := by omega
  have HS := Lib.hid hsh
  have HSI := Lib.hid hshi
  clear hsh hshi
  have hvl := norm_len HLB.out (by omega) HT.out htz HS.out gtop
  have hul := up_len HLA.out hsh2
  have cb1 := left_any (some ⟨b1, off1, none⟩) cb n sh w lb HLB.out (by omega) hsh2 HB.out
  have cb2 := fun w1 hb1 => left_any a ca m sh w1 la HLA.out (by omega) hsh2 (HA.out.below hb1)
  obtain ⟨V, hV⟩ : ∃ V, n * 2 ^ sh = V := ⟨_, rfl⟩
  obtain ⟨U0, hU0⟩ : ∃ U0, m * 2 ^ sh = U0 := ⟨_, rfl⟩
  rw [hV] at hvl cb1
  rw [hU0] at hul
  simp only [hU0] at cb2
  obtain ⟨vl, hvd⟩ : ∃ vl, dig 4294967296 V = vl := ⟨_, rfl⟩
  obtain ⟨ul, hud⟩ : ∃ ul, dig 4294967296 U0 = ul := ⟨_, rfl⟩
  rw [hvd] at hvl cb1
  rw [hud] at hul
  simp only [hud] at cb2
  have CB1 := Lib.hid cb1
  have CB2 := Lib.hid cb2
  have HVD := Lib.hid hvd
  have HUD := Lib.hid hud
  have HVV := Lib.hid hV
  have HUU := Lib.hid hU0
  clear cb1 cb2 hvd hud hV hU0
  obtain ⟨hul1, hul2⟩ := hul
  have HVL := Lib.hid hvl
  go_enter Tryd.func129, Tryd.ntmps129
  go_wp2_with (go_at_call 165; refine (lz32_any top _ gtop).mono ?_; rintro e w' ⟨rfl, rfl⟩)
  rw [HSI.out]
  clear hcell e1
  refine CB1.out.mono ?_
  rintro e w1 ⟨v, rfl, hrv, hb1⟩
  clear CB1
  go_wp2_with fail
  refine (CB2.out w1 hb1).mono ?_
  rintro e w2 ⟨u, rfl, hru, hb2⟩
  clear CB2
  have hrv2 : w2.ownsRow w.heap.size 76 1 v vl.length (ints .u32 vl) := hrv.kept ⟨hb2.os, hb2.tape, hb2.output, hb2.size, fun k hk _ => hb2.block k hk⟩ (by cases h : v.ownBlock <;> simp) (row := none)
  obtain ⟨gv, cv, restv, rfl, hgv, hcv1, hcv2, -, hbv⟩ := ownsRow_blk hrv2 (by omega)
  have hgv2 := hbv.lt
  have hbs1 := hb1.size
  have hbs2 := hb2.size
  have hgv3 : gv < w1.heap.size := (hrv.lt gv rfl).2
  clear hrv hrv2
  go_wp2_with (first | (at_builtin; refine app_one rfl _ _ _ rfl rowWords w1.heap.size _ w2.heap.size (hru.alloc _) rfl rfl (cell_one _ _ _) rfl (by omega) (by omega) (by simp; omega) ?_; intro v3 w3 hrow3 hgrow3; obtain ⟨gu, cu, restu, rfl, hgu, hcu1, hcu2, -, hbu⟩ := ownsRow_blk hrow3 (by omega)) | (at_make; refine mk_row rfl _ _ _ rfl rowWords rfl .i64 .i64 _ _ (ul.length + 1 - vl.length) (ul.length + 1 - vl.length) rfl rfl (by omega) (by omega) (by omega) (by omega) (by omega) ?_; intro w4 hblk4 hb4 hsz4))
  have hne : some gv ≠ u.ownBlock := fun e => by have := (hru.lt gv e.symm).1; omega
  have hbv4 : Blk w4 gv 76 (ints .u32 vl ++ restv) := ((hbv.alloc _).grown hgrow3 hne).kept hb4
  have hbu4 : Blk w4 gu 76 (ints .u32 (ul ++ [0]) ++ restu) := by rw [ints_append]; exact hbu.kept hb4
  have hgult := hbu.lt
  have hb3 : Below w.heap.size w w3 := ((hb1.trans (hb2.mono hbs1)).alloc (by omega) _).grown hgrow3 (by simp; omega) (fun j hj => by have := (hru.lt j hj).1; omega)
  have hbw4 : Below w.heap.size w w4 := hb3.trans (hb4.mono hb3.size)
  have hbs3 := hb3.size
  have hbq4 : Blk w4 w3.heap.size 76 (ints .u32 (List.replicate (ul.length + 1 - lb.length) 0)) := by
    have := hblk4
    rw [hvl] at this
    simpa [ints] using this
  clear hblk4 hbu hbv hrow3 hgrow3 hru hb4 hb3 hsz4
  have gvl : Good 4294967296 vl := by rw [← HVD.out]; exact good_dig (by omega) V
  have gul : Good 4294967296 ul := by rw [← HUD.out]; exact good_dig (by omega) U0
  obtain ⟨vt, hvt⟩ : ∃ x, vl[lb.length - 1]? = some x := ⟨vl[lb.length - 1], List.getElem?_eq_getElem (by omega)⟩
  obtain ⟨vn, hvn⟩ : ∃ x, vl[lb.length - 2]? = some x := ⟨vl[lb.length - 2], List.getElem?_eq_getElem (by omega)⟩
  have gvt := good_get gvl hvt
  have gvn := good_get gvl hvn
  have hct : w4.cell? ⟨gv, lb.length - 1, none⟩ = some (.int .u32 ((vt : Nat) : Int)) := by rw [hbv4.cell, List.getElem?_append_left (by rw [ints_length]; omega)]; exact ints_get hvt
  have hcn : w4.cell? ⟨gv, lb.length - 2, none⟩ = some (.int .u32 ((vn : Nat) : Int)) := by rw [hbv4.cell, List.getElem?_append_left (by rw [ints_length]; omega)]; exact ints_get hvn
  have hvt0 : vt ≠ 0 := by
    have := dig_top (B := 4294967296) (by omega) V vt
    rw [HVD.out, List.getLast?_eq_getElem?, hvl, hvt] at this
    exact this rfl
  have HVT := Lib.hid hvt
  have HVN := Lib.hid hvn
  have e1 : ((lb.length : Int) - 1).toNat = lb.length - 1 := by omega
  have e2 : ((lb.length : Int) - 2).toNat = lb.length - 2 := by omega
  clear hvt hvn hvl
  obtain ⟨gq, hgq⟩ : ∃ gq, w3.heap.size = gq := ⟨_, rfl⟩
  rw [hgq] at hbq4 hgult hbs3 ⊢
  clear hgq
  go_quiet (fail)
  go_wp2_with fail
  have hVlt : V < 4294967296 ^ lb.length := by
    have := val_lt gvl
    rwa [HVL.out, ← HVD.out, val_dig (by omega)] at this
  have hVge : 4294967296 ^ (lb.length - 1) ≤ V := by
    have h0 : 0 < V := by
      rcases Nat.eq_zero_or_pos V with h | h
      · have := HVL.out
        rw [← HVD.out, h, dig_zero] at this
        simp at this; omega
      · exact h
    have := pow_le_of_dig (B := 4294967296) (by omega) h0
    rwa [HVD.out, HVL.out] at this
  have HVlt := Lib.hid hVlt
  have HVge := Lib.hid hVge
  clear hVlt hVge hct hcn
  go_loopw [12] (fun i wr => ∃ j us qs, j ≤ ul.length + 1 - lb.length ∧ i = .int .i64 ((j : Nat) - 1 : Int) ∧ LongRel gu gq gv lb.length (ul.length + 1) j V U0 w.heap.size restu restv vl us qs w wr) (fun i _ => (intOf i + 1).toNat)
  case atStart =>
    refine ⟨ul.length + 1 - lb.length, ul ++ [0], _, Nat.le_refl _, rfl, hbu4, by simp, good_snoc gul (by omega), hbq4, by simp, (fun x hx => by have := List.eq_of_mem_replicate hx; omega), ?_, ?_, hbv4, below_drewN hbw4 _⟩
    · rw [List.drop_of_length_le (by simp), val_snoc, ← HUD.out, val_dig (by omega)]
      simp [val]
    · refine Nat.lt_of_lt_of_le ?_ HVge.out
      rw [List.drop_append_of_le_length (by omega), val_snoc, Nat.mul_zero, Nat.add_zero]
      have := val_lt (good_drop gul (ul.length + 1 - lb.length))
      rw [List.length_drop, show ul.length - (ul.length + 1 - lb.length) = lb.length - 1 from by omega] at this
      exact this
  case round =>
    obtain ⟨j, us, qs, hj, rfl, hrel⟩ := hrel
    have HREL := Lib.hid hrel
    obtain ⟨hbu, husl, hgus, hbq, hqsl, hgqs, hval, hlt, hbv, hbel⟩ := hrel
    have HUL := Lib.hid husl
    have HQL := Lib.hid hqsl
    have HVAL := Lib.hid hval
    clear hval hbu4 hbq4 hbv4 hbw4
    rcases j with _ | j
    · go_wp2_with fail
      have hsq : Sl wr (.slice (some ⟨gq, 0, none⟩) qs.length (ul.length + 1 - lb.length)) (ints .u32 qs) := hbq.sl (ints_length _ _) (by rw [HQL.out]; exact Nat.le_refl _) (by unfold maxLen; omega) (fun i u hu => by rw [Nat.zero_add]; exact hu)
      refine (trimmed_n _ _ qs (ul.length + 1 - lb.length) _ HQL.out (by omega) hsq hgqs).mono ?_
      rintro e w' ⟨rfl, rfl⟩
      go_wp2_with fail
      have hsu : Sl wr (.slice (some ⟨gu, 0, none⟩) us.length cu) (ints .u32 us) := hbu.sl (ints_length _ _) (by rw [HUL.out]; exact hcu1) (by unfold maxLen; omega) (fun i u hu => by rw [Nat.zero_add, List.getElem?_append_left (List.getElem?_eq_some_iff.1 hu).1]; exact hu)
      refine (trimmed_n _ _ us (ul.length + 1) _ HUL.out (by omega) hsu hgus).mono ?_
      rintro e w' ⟨rfl, rfl⟩
      go_wp2_with fail
      have hv0 := HVAL.out
      rw [List.drop_zero] at hlt
      rw [List.drop_zero, Nat.pow_zero, Nat.one_mul] at hv0
      have hgd := good_dig (B := 4294967296) (by omega) (val 4294967296 us)
      have hld := length_dig_val hgus
      rw [HUL.out] at hld
      refine (right_any _ _ sh _ _ (by omega) hsh2 (hsu.dig hgus) hgd).mono ?_
      rintro e w5 ⟨v5, rfl, hs5, hf5, hb5⟩
      go_wp2_with fail
      go_ret2
      have hp2 : 0 < 2 ^ sh := Nat.pow_pos (by omega)
      have hV0 : 0 < V := by omega
      have hdq : m / n = val 4294967296 qs := by
        rw [← Nat.mul_div_mul_right m n hp2, HUU.out, HVV.out, ← hv0, Nat.add_mul_div_right _ _ hV0, Nat.div_eq_of_lt hlt, Nat.zero_add]
      have hmq : val 4294967296 us / 2 ^ sh = m % n := by
        have h1 : U0 % V = val 4294967296 us := by rw [← hv0, Nat.add_mul_mod_self_right]; exact Nat.mod_eq_of_lt hlt
        rw [← h1, ← HUU.out, ← HVV.out, Nat.mul_mod_mul_right, Nat.mul_div_cancel _ hp2]
      rw [val_dig (by omega), hmq] at hs5
      rw [hdq]
      have hbs5 := hbel.size
      exact ⟨.slice (some ⟨gq, 0, none⟩) (dig 4294967296 (val 4294967296 qs)).length (ul.length + 1 - lb.length), v5, rfl, (hsq.dig hgqs).below hb5, hs5, (fun b hb => by cases hb; omega), (fun b hb => by have := hf5 b hb; omega), hbel.trans (hb5.mono hbs5)⟩
    · have ej : ((j + 1 : Nat) : Int) - 1 = (j : Int) := by omega
      rw [ej]
      clear ej
      obtain ⟨u0, hu0⟩ : ∃ x, us[j + lb.length]? = some x := ⟨us[j + lb.length], List.getElem?_eq_getElem (by omega)⟩
      obtain ⟨u1, hu1⟩ : ∃ x, us[j + lb.length - 1]? = some x := ⟨us[j + lb.length - 1], List.getElem?_eq_getElem (by omega)⟩
      obtain ⟨u2, hu2⟩ : ∃ x, us[j + lb.length - 2]? = some x := ⟨us[j + lb.length - 2], List.getElem?_eq_getElem (by omega)⟩
      have gu0 := good_get hgus hu0
      have gu1 := good_get hgus hu1
      have gu2 := good_get hgus hu2
      have hce : ∀ k x, us[k]? = some x → wr.cell? ⟨gu, k, none⟩ = some (.int .u32 ((x : Nat) : Int)) := fun k x h => by
        rw [hbu.cell, List.getElem?_append_left (by rw [ints_length]; exact (List.getElem?_eq_some_iff.1 h).1)]; exact ints_get h
      have c0 := hce _ _ hu0
      have c1 := hce _ _ hu1
      have c2 := hce _ _ hu2
      have HU0 := Lib.hid hu0
      have HU1 := Lib.hid hu1
      have HU2 := Lib.hid hu2
      have e3 : ((j : Int) + (lb.length : Int) - 1).toNat = j + lb.length - 1 := by omega
      have e4 : ((j : Int) + (lb.length : Int) - 2).toNat = j + lb.length - 2 := by omega
      have hvti : ((vt : Int) == 0) = false := by simp; omega
      clear hce hu0 hu1 hu2 husl hqsl
      go_wp2_with fail
      go_quiet (fail)
      go_wp2_with fail
      rw [or_two gu0 gu1]
      obtain ⟨two, htwo⟩ : ∃ two, u0 * 4294967296 + u1 = two := ⟨_, rfl⟩
      rw [htwo]
      have htwo2 : two < 18446744073709551616 := by omega
      have HTWO := Lib.hid htwo
      clear htwo
      go_quiet (fail)
      rw [quo_u64 htwo2, rem_u64]
      -- the part of u that is looked at
      have hMM : lb.length - 2 + 2 = lb.length := by omega
      obtain ⟨seg, hseg⟩ : ∃ seg, (us.drop j).take (lb.length + 1) = seg := ⟨_, rfl⟩
      have hsl : seg.length = lb.length + 1 := by rw [← hseg, List.length_take, List.length_drop, HUL.out]; omega
      have gseg : Good 4294967296 seg := by rw [← hseg]; exact good_take (good_drop hgus j) _
      have hsi : ∀ k, k < lb.length + 1 → seg[k]? = us[j + k]? := fun k hk => by rw [← hseg, List.getElem?_take, if_pos hk, List.getElem?_drop]
      have hjl : j < us.length := by rw [HUL.out]; omega
      obtain ⟨x0, hx0⟩ : ∃ x, us[j]? = some x := ⟨us[j], List.getElem?_eq_getElem hjl⟩
      have gx0 := good_get hgus hx0
      clear hjl
      have hdv : val 4294967296 (us.drop j) = x0 + 4294967296 * val 4294967296 (us.drop (j + 1)) := val_drop hx0
      have hsv : val 4294967296 seg = val 4294967296 (us.drop j) := by
        rw [← hseg]
        refine val_take_lt (by omega) ?_
        have h1 := HVlt.out
        rw [hdv, Nat.pow_succ]
        generalize 4294967296 ^ lb.length = P at *
        omega
      obtain ⟨S, hS⟩ : ∃ S, val 4294967296 seg = S := ⟨_, rfl⟩
      have hSB : S < 4294967296 * V := by rw [← hS, hsv, hdv]; omega
      have h3 := three_parts gseg (k := lb.length - 2) (by omega) (by rw [hsi _ (by omega), show j + (lb.length - 2 + 2) = j + lb.length from by omega]; exact HU0.out) (by rw [hsi _ (by omega), show j + (lb.length - 2 + 1) = j + lb.length - 1 from by omega]; exact HU1.out) (by rw [hsi _ (by omega), show j + (lb.length - 2) = j + lb.length - 2 from by omega]; exact HU2.out)
      rw [HTWO.out, hS] at h3
      obtain ⟨vlow, hvlow, hVp⟩ := two_parts gvl (k := lb.length - 2) (by have := HVL.out; omega) (by rw [show lb.length - 2 + 1 = lb.length - 1 from by omega]; exact HVT.out) HVN.out
      rw [← HVD.out, val_dig (by omega)] at hVp
      have H3 := Lib.hid h3
      have HVP := Lib.hid hVp
      have HVLOW := Lib.hid hvlow
      have HSV := Lib.hid hsv
      have HDV := Lib.hid hdv
      have HSEG := Lib.hid hseg
      have HSL := Lib.hid hsl
      have HSS := Lib.hid hS
      have HSB := Lib.hid hSB
      clear h3 hVp hvlow hsv hdv hseg hsl hS hSB hsi hx0 c0 c1
      have hV0 : 0 < V := Nat.lt_of_lt_of_le (Nat.pow_pos (by omega)) HVge.out
      have hq0 : S / V ≤ two / vt := by
        rw [Nat.le_div_iff_mul_le (by omega)]
        have h4 := H3.out.2
        have h5 := Nat.div_mul_le_self S V
        have h6 : S / V * (vt * 4294967296) * 4294967296 ^ (lb.length - 2) ≤ S / V * V := by
          rw [Nat.mul_assoc]
          refine Nat.mul_le_mul_left _ ?_
          have h7 := HVP.out
          rw [Nat.add_mul] at h7
          omega
        have h8 : S / V * (vt * 4294967296) < two * 4294967296 + u2 + 1 := by
          refine Nat.lt_of_mul_lt_mul_right (a := 4294967296 ^ (lb.length - 2)) ?_
          omega
        rw [← Nat.mul_assoc] at h8
        omega
      have hq1 : two / vt ≤ 18446744073709551615 := Nat.le_trans (Nat.div_le_self _ _) (by omega)
      have hr0 := Nat.mod_lt two (show 0 < vt by omega)
      have hd0 := Nat.div_add_mod two vt
      obtain ⟨g0, hg0⟩ : ∃ g0, two / vt = g0 := ⟨_, rfl⟩
      obtain ⟨r0, hr00⟩ : ∃ r0, two % vt = r0 := ⟨_, rfl⟩
      rw [hg0] at hq0 hq1 hd0 ⊢
      rw [hr00] at hr0 hd0 ⊢
      have hd0' : two = g0 * vt + r0 := by rw [Nat.mul_comm]; exact hd0.symm
      clear hg0 hr00 hd0
      have HD0 := Lib.hid hd0'
      clear hd0'
      go_upto_block 2 with (fail)
      refine long_guess _ _ gv cv gu cu lb.length (ul.length + 1) vt vn j g0 r0 u2 two S V (4294967296 ^ (lb.length - 2)) vlow _ _ _ _ _ _ _ _ _ _ _ _ _ _ _ _ _ _ _ _ _ _ _ _ _ _ _ _ _ _ _ _ _ _ _ _ _ _ _ _ _ _ _ _ _ _ _ _ _ _ _ _ _ _ _ _ _ _ _ _ _ _ _ _ _ _ _ _ _ _ _ _ _ _ _ _ _ _ _ _ _ _ _ _ _ _ _ _ _ _ _ _ _ _ _ _ _ _ _ _ _ _ _ _ _ _ _ _ _ _ _ _ _ _ _ _ _ _ _ _ _ _ _ _ _ _ _ _ _ _ _ _ _ _ _ _ _ _ _ _ _ hmb (by omega) (by omega) (by omega) hcu1 hcu2 gu2 gvt gvn (by omega) (by simpa using c2) HVP.out HVLOW.out H3.out.1 H3.out.2 HSB.out hV0 (by omega) hq1 hq0 HD0.out ?_
      rintro g r t84 t85 t86 t87 t88 t89 t90 t91 t92 t93 t94 t95 t96 t97 t98 t99 t100 t101 t102 t103 t104 t105 t106 t107 t108 t109 t110 t111 t112 ⟨hg, hqg1, hqg2⟩
      go_step
      refine long_rest _ gv cv gu cu gq lb.length (ul.length + 1) j g V U0 w.heap.size restu restv vl us qs w _ _ _ _ _ _ _ _ _ _ _ _ _ _ _ _ _ _ _ _ _ _ _ _ _ _ _ _ _ _ _ _ _ _ _ _ _ _ _ _ _ _ _ _ _ _ _ _ _ _ _ _ _ _ _ _ _ _ _ _ _ _ _ _ _ _ _ _ _ _ _ _ _ _ _ _ _ _ _ _ _ _ _ _ _ _ _ _ _ _ _ _ _ _ _ _ _ _ _ _ _ _ _ _ _ _ _ _ _ _ _ _ _ _ _ _ _ _ _ _ _ _ _ _ _ _ _ _ _ _ _ _ _ _ _ _ _ _ _ _ _ _ _ hmb (by omega) (by omega) (by omega) hcu1 hcu2 (by rw [← HVL.out]; exact hcv1) hcv2 HVL.out gvl (by rw [← HVD.out]; exact val_dig (by omega) V) hV0 HVlt.out hg (by rw [HSEG.out, HSS.out]; exact hqg1) (by rw [HSEG.out, HSS.out]; exact hqg2) (by omega) (by omega) (by omega) (by omega) (by omega) (Nat.le_refl _) ?_ ?_
      · obtain ⟨r1, r2, r3, r4, r5, r6, r7, r8, r9, r10⟩ := HREL.out
        exact ⟨r1, r2, r3, r4, r5, r6, r7, r8, r9, below_drewN (below_drewN r10 _) _⟩
      · intro us' qs' x14 x113 x114 x115 x116 x117 x118 x119 x120 x121 x122 x123 x124 x125 x126 x127 x128 x129 x130 x131 x132 x133 x134 x135 x136 x137 x138 x139 x140 w' hrel'
        have HREL' := Lib.hid hrel'
        clear hrel'
        go_wp2_with fail
        go_roundw
        case rel => exact ⟨j, us', qs', by omega, by first | rfl | go_num, HREL'.out⟩
        case measure => simp [intOf] <;> omega
end Go.Proofs.YtfeeiipohfpdiaaDoor
