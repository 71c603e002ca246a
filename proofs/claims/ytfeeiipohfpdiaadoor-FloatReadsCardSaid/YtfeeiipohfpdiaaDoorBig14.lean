/- Walks of package big: quotients. -/
import Derived.Test.YtfeeiipohfpdiaaDoorBig13
namespace Go.Proofs.YtfeeiipohfpdiaaDoor
set_option linter.unusedVariables false
set_option linter.unusedSimpArgs false
open Go.RowKit

theorem Fresh.nil (w : World) : Fresh w (.slice none 0 0) := fun b hb => by cases hb
theorem Fresh.later {w w' : World} {v : Value} (h : Fresh w' v) (hs : w.heap.size ≤ w'.heap.size) : Fresh w v := fun b hb => Nat.le_trans hs (h b hb)

/-- a number's own words, as a slice -/
def Num (w : World) (v : Value) (n : Nat) : Prop := Sl w v (ints .u32 (dig 4294967296 n))
theorem Num.below {w w' : World} {v : Value} {n : Nat} (h : Num w v n) (hb : Below w.heap.size w w') : Num w' v n := Sl.below h hb
theorem Num.nil (w : World) : Num w (.slice none 0 0) 0 := by unfold Num; rw [dig_zero]; exact Sl.nil w

theorem long_num (a b : Option Addr) (ca cb m n la lb : Nat) (w : World) (h1 : (dig 4294967296 m).length = la) (h2 : (dig 4294967296 n).length = lb) (hma : la ≤ 100000) (hmb : 2 ≤ lb) (hab : lb ≤ la)
    (ha : Num w (.slice a la ca) m) (hb : Num w (.slice b lb cb) n) :
    Calls Tryd.prog 129 #[.slice a la ca, .slice b lb cb] w fun e w' => ∃ q r, e = .returned (.tuple #[q, r]) ∧ Num w' q (m / n) ∧ Num w' r (m % n) ∧ Fresh w q ∧ Fresh w r ∧ Below w.heap.size w w' := by
  subst h1; subst h2
  exact long_any a b ca cb m n _ _ w rfl rfl hma hmb hab ha hb

set_option maxRecDepth 1000000 in
set_option maxHeartbeats 1000000 in
theorem divMod_any (a b : Option Addr) (ca cb : Nat) (la lb : List Nat) (w : World) (hma : la.length ≤ 100000) (hmb : lb.length ≤ 100000)
    (ha : Sl w (.slice a la.length ca) (ints .u32 la)) (hb : Sl w (.slice b lb.length cb) (ints .u32 lb)) (ga : Good 4294967296 la) (gb : Good 4294967296 lb) (hn : 0 < val 4294967296 lb) :
    Calls Tryd.prog 88 #[.slice a la.length ca, .slice b lb.length cb] w fun e w' => ∃ q r, e = .returned (.tuple #[q, r, .int .i64 0]) ∧ Num w' q (val 4294967296 la / val 4294967296 lb) ∧ Num w' r (val 4294967296 la % val 4294967296 lb) ∧ Fresh w q ∧ Fresh w r ∧ Below w.heap.size w w' := by
  obtain ⟨m, hm⟩ : ∃ m, val 4294967296 la = m := ⟨_, rfl⟩
  obtain ⟨n, hnn⟩ : ∃ n, val 4294967296 lb = n := ⟨_, rfl⟩
  have ta := fun (w' : World) (hw : Below w.heap.size w w') => trimmed_dig a ca la w' (by omega) (ha.below hw) ga
  have tb := trimmed_dig b cb lb w (by omega) hb gb
  have sa := ha.dig ga
  have sb := hb.dig gb
  have hla := length_dig_val ga
  have hlb := length_dig_val gb
  have ca1 := fun w' hw => trim_any a ca la w' (by omega) (ha.below hw) ga
  simp only [hm] at ta
  rw [hm] at sa hla
  rw [hnn] at tb sb hlb hn
  simp only [hm] at ca1
  rw [hm, hnn]
  obtain ⟨L, hL⟩ : ∃ L, (dig 4294967296 n).length = L := ⟨_, rfl⟩
  obtain ⟨K, hK⟩ : ∃ K, (dig 4294967296 m).length = K := ⟨_, rfl⟩
  rw [hL] at tb sb hlb
  simp only [hK] at ta
  rw [hK] at sa hla
  have hL0 : L ≠ 0 := by
    intro h0
    have := (dig_eq_nil (B := 4294967296) (n := n) (by omega)).1 (List.eq_nil_of_length_eq_zero (by rw [hL, h0]))
    omega
  have cc := fun w' hw => cmp_any a b ca cb la (dig 4294967296 n) w' (by omega) (by rw [hL]; omega) (ha.below hw) (by rw [hL]; exact sb.below hw) ga (good_dig (by omega) n)
  simp only [hL, hm, val_dig (show 2 ≤ 4294967296 by omega) n] at cc
  have TA := Lib.hid ta
  have TB := Lib.hid tb
  have SA := Lib.hid sa
  have SB := Lib.hid sb
  have CC := Lib.hid cc
  have CA1 := Lib.hid ca1
  have HL := Lib.hid hL
  have HK := Lib.hid hK
  have HM := Lib.hid hm
  have HNN := Lib.hid hnn
  have HA := Lib.hid ha
  have hLL : ((L : Int) == 0) = false := by simp; omega
  clear ta tb sa sb cc ca1 hL hK hm hnn ha hb
  go_enter Tryd.func88, Tryd.ntmps88
  go_wp2_with fail
  refine TB.out.mono ?_
  rintro e w' ⟨rfl, rfl⟩
  go_wp2_with fail
  refine (CC.out w (Below.refl _ _)).mono ?_
  rintro e w' ⟨rfl, nd, rfl⟩
  have hb0 : Below w.heap.size w (w.drewN nd) := below_drewN (Below.refl _ _) nd
  rcases Nat.lt_or_ge m n with hlt | hge
  · have ho : ord m n = -1 := by unfold ord; rw [if_pos hlt]
    rw [ho]
    go_wp2_with fail
    refine (CA1.out (w.drewN nd) hb0).mono ?_
    rintro e w2 ⟨v, rfl, hs2, hf2, hb2⟩
    go_wp2_with fail
    go_ret3
    rw [Nat.div_eq_of_lt hlt, Nat.mod_eq_of_lt hlt]
    exact ⟨.slice none 0 0, v, rfl, Num.nil _, hs2, Fresh.nil _, hf2.later (by simp), hb0.trans hb2⟩
  · have ho : decide (ord m n < 0) = false := by
      unfold ord; rw [if_neg (by omega)]; split <;> simp
    by_cases hL1 : L = 1
    · have hL1i : ((L : Int) == 1) = true := by simp; omega
      have hl1 : (dig 4294967296 n).length = 1 := by rw [HL.out, hL1]
      obtain ⟨x, hx⟩ : ∃ x, dig 4294967296 n = [x] := List.length_eq_one_iff.1 hl1
      have hxn : x = n := by
        have := val_dig (B := 4294967296) (by omega) n
        rw [hx] at this; simpa [val] using this
      have gx : x < 4294967296 := good_dig (B := 4294967296) (by omega) n x (by rw [hx]; exact List.mem_cons_self)
      obtain ⟨b1, off1, rfl, -, hc1, hc2, -, hcell⟩ := SB.out.at (i := 0) (u := .int .u32 ((x : Nat) : Int)) (by rw [hx]; rfl)
      rw [hxn, Nat.add_zero] at hcell
      rw [hxn] at gx
      have HX := Lib.hid hx
      clear hx hl1 hxn
      have bw1 := byWord_any a ca la n (w.drewN nd) (by omega) (HA.out.below hb0) ga hn gx
      rw [HM.out] at bw1
      have BW1 := Lib.hid bw1
      clear bw1
      go_wp2_with fail
      refine BW1.out.mono ?_
      rintro e w2 ⟨v, rfl, hs2, hf2, hb2⟩
      have hmn : m % n < 4294967296 := Nat.lt_trans (Nat.mod_lt _ hn) gx
      go_wp2_with fail
      have hblk : Blk (w2.alloc (.cells #[.int .u32 ((m % n : Nat) : Int)] 76)) w2.heap.size 76 (ints .u32 [m % n]) := Blk.new w2 [.int .u32 ((m % n : Nat) : Int)] _
      have hsl : Sl (w2.alloc (.cells #[.int .u32 ((m % n : Nat) : Int)] 76)) (.slice (some ⟨w2.heap.size, 0, none⟩) ([m % n] : List Nat).length 1) (ints .u32 [m % n]) := hblk.sl rfl (Nat.le_refl _) (by unfold maxLen; omega) (fun i u hu => by rw [Nat.zero_add]; exact hu)
      have gr : Good 4294967296 [m % n] := fun y hy => by simp at hy; omega
      refine (trimmed_n _ _ [m % n] 1 _ rfl (by omega) hsl gr).mono ?_
      rintro e w' ⟨rfl, rfl⟩
      go_wp2_with fail
      go_ret3
      have hv : val 4294967296 [m % n] = m % n := by simp [val]
      have hd := hsl.dig gr
      rw [hv] at hd ⊢
      exact ⟨v, .slice (some ⟨w2.heap.size, 0, none⟩) (dig 4294967296 (m % n)).length 1, rfl, hs2.alloc _, hd, hf2.later (by simp), (fun b hb => by cases hb; have := hb2.size; simp at this; omega), (hb0.trans hb2).alloc (by have := hb2.size; simp at this; omega) _⟩
    · have hL1i : ((L : Int) == 1) = false := by simp; omega
      have hKL : L ≤ K := by
        rw [← HL.out, ← HK.out]
        rcases Nat.lt_or_ge (dig 4294967296 m).length (dig 4294967296 n).length with h | h
        · have := val_lt_of_len (B := 4294967296) (by omega) h; omega
        · exact h
      go_wp2_with fail
      refine (TA.out _ hb0).mono ?_
      rintro e w' ⟨rfl, rfl⟩
      go_wp2_with fail
      refine (long_num a b ca cb m n K L (w.drewN nd) HK.out HL.out (by omega) (by omega) hKL SA.out SB.out).mono ?_
      rintro e w2 ⟨q, r, rfl, hq, hr, fq, fr, hb2⟩
      go_wp2_with fail
      go_ret3
      exact ⟨q, r, rfl, hq, hr, fq.later (by simp), fr.later (by simp), hb0.trans hb2⟩
end Go.Proofs.YtfeeiipohfpdiaaDoor
