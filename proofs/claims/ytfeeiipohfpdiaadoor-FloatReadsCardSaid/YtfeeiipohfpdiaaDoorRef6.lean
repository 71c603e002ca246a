/- Walks of the reference: Nearest. -/
import Derived.Test.YtfeeiipohfpdiaaDoorRef5
import Derived.Deep.DeepCutAuto
import Derived.Deep.CutBlock
namespace Go.Proofs.YtfeeiipohfpdiaaDoor
set_option linter.unusedVariables false
set_option linter.unusedSimpArgs false
open Go.RowKit

theorem ord_neg {a b : Nat} (h : a < b) : ord a b = -1 := by rw [ord, if_pos h]
theorem ord_nonneg {a b : Nat} (h : ¬ a < b) : 0 ≤ ord a b := by rw [ord, if_neg h]; split <;> omega
theorem rl_two (n : Nat) : rl (2 ^ n) ≤ n + 1 := rl_pow (by omega) n

theorem blen_rl (n : Nat) : blen n ≤ 14 * rl n := by
  rw [blen_le, Nat.pow_mul]
  exact Nat.lt_of_lt_of_le (lt_rl n) (Nat.pow_le_pow_left (by decide) _)
theorem lt54 {P Q : Nat} (h : P < Q * 9007199254740992) : P < Q * 2 ^ 54 := Nat.lt_of_lt_of_le h (Nat.mul_le_mul_left _ (by decide))
theorem zero_add' (P Q : Nat) : P + 0 * Q = P := by rw [Nat.zero_mul, Nat.add_zero]
theorem i53 : Value.int .i64 53 = .int .i64 (((54 : Nat) : Int) - 1) := rfl
/-- the state behind the two loops that double -/
def Halved (m n a b : Nat) : Prop := a ≤ 1074 ∧ m * 2 ^ a < n * 2 ^ b * 2 ^ 53 ∧ (b = 0 ∧ a = 1074 ∨ n * 2 ^ b * 2 ^ 52 ≤ m * 2 ^ a)

theorem dbl_bound {m n a b : Nat} (hn : 0 < n) (h : n * 2 ^ b * 2 ^ 53 ≤ m * 2 ^ a) : b < blen (m * 2 ^ a) := by
  have h1 : 2 ^ b ≤ m * 2 ^ a := Nat.le_trans (Nat.le_trans (Nat.le_mul_of_pos_left _ hn) (Nat.le_mul_of_pos_right _ (by decide))) h
  have h2 := Nat.lt_of_le_of_lt h1 (lt_blen (m * 2 ^ a))
  exact (Nat.pow_lt_pow_iff_right (by omega)).1 h2
theorem p52 : 2 ^ 52 = 4503599627370496 := rfl
theorem p53 : 2 ^ 53 = 9007199254740992 := rfl
theorem half_ok {n b P : Nat} (h : n * 2 ^ b * 2 ^ 53 ≤ P) : n * 2 ^ (b + 1) * 2 ^ 52 ≤ P := by
  rw [Nat.pow_succ, Nat.mul_assoc, Nat.mul_assoc (2 ^ b), show 2 * 2 ^ 52 = 2 ^ 53 from rfl, ← Nat.mul_assoc]; exact h
theorem twice_pow (n b : Nat) : n * 2 ^ b + n * 2 ^ b = n * 2 ^ (b + 1) := by
  rw [Nat.pow_succ, ← Nat.mul_assoc]; omega

theorem rest_lt {R Q j : Nat} (h : R < Q * 2 ^ (j + 1)) (h2 : Q * 2 ^ j ≤ R) : R - Q * 2 ^ j < Q * 2 ^ j := by
  rw [Nat.pow_succ, ← Nat.mul_assoc] at h; omega
theorem rest_eq {R Q q P X : Nat} (h : R + q * Q = P) (h2 : Q * X ≤ R) : (R - Q * X) + (q + X) * Q = P := by
  rw [Nat.add_mul, Nat.mul_comm X Q]; omega
theorem q_lt {R Q q P : Nat} (hQ : 0 < Q) (h : R + q * Q = P) (hP : P < Q * 9007199254740992) : q < 9007199254740992 := by
  apply Nat.lt_of_mul_lt_mul_right (a := Q)
  rw [Nat.mul_comm 9007199254740992]
  omega

set_option maxRecDepth 1000000 in
set_option maxHeartbeats 1000000 in
theorem nearest_aux {u v : Value} {m n G : Nat} (w : World) (hu : RNum w u m) (hv : RNum w v n) (hm : 0 < m) (hn : 0 < n) (h1 : rl m ≤ 5000) (h2 : rl n ≤ 5000) (hG : near m n = G) :
    Calls Tryd.prog 80 #[u, v] w fun e w' => e = .returned (.int .u64 (G : Nat)) ∧ Below w.heap.size w w' := by
  have HG := Lib.hid hG
  clear hG
  have S52 : ∀ w, Calls Tryd.prog 45 #[.int .u64 4503599627370496] w fun e w' => ∃ q, e = .returned q ∧ RNum w' q 4503599627370496 ∧ Fresh w q ∧ Below w.heap.size w w' := fun w => small_any 4503599627370496 w (by omega)
  have S53 : ∀ w, Calls Tryd.prog 45 #[.int .u64 9007199254740992] w fun e w' => ∃ q, e = .returned q ∧ RNum w' q 9007199254740992 ∧ Fresh w q ∧ Below w.heap.size w w' := fun w => small_any 9007199254740992 w (by omega)
  have L52 := rl_u64 (n := 4503599627370496) (by omega)
  have L53 := rl_u64 (n := 9007199254740992) (by omega)
  have LT := rl_two
  have hwu : ∃ w0 : World, w0 = w := ⟨_, rfl⟩
  go_enter Tryd.func80, Tryd.ntmps80
  go_upto_block 0 with fail
  go_cut [0, 5] (fun x e wx => ∃ a P : Nat, a ≤ 1074 ∧ e = .int .i64 (-((a : Nat) : Int)) ∧ RNum wx x P ∧ RNum wx v n ∧ Hid (m * 2 ^ a = P) ∧ Hid (a = 1074 ∨ n * 4503599627370496 ≤ P) ∧ rl P ≤ 6075 ∧ Below w.heap.size w wx)
  case first =>
    go_wp2_with fail
    go_loopw [0, 5] (fun x e wr => ∃ a, a ≤ 1074 ∧ e = .int .i64 (-((a : Nat) : Int)) ∧ RNum wr x (m * 2 ^ a) ∧ RNum wr v n ∧ Below w.heap.size w wr) (fun _ e _ => (intOf e + 1074).toNat)
    case atStart => exact ⟨0, by omega, rfl, by rw [Nat.pow_zero, Nat.mul_one]; exact hu, hv, Below.refl _ _⟩
    case round =>
      obtain ⟨a, ha, rfl, hx, hy, hbel⟩ := hrel
      obtain ⟨wo, rfl⟩ : ∃ wo : World, wo = wr := ⟨_, rfl⟩
      have hla := Nat.le_trans (rl_mul m (2 ^ a)) (Nat.add_le_add h1 (LT a))
      obtain ⟨P, hP⟩ : ∃ P, m * 2 ^ a = P := ⟨_, rfl⟩
      have HP := Lib.hid hP
      rw [hP] at hx hla
      clear hP
      go_wp2_with fail
      refine (S52 _).mono ?_
      rintro e w1 ⟨q1, rfl, hq1, -, hb1⟩
      go_wp2_with fail
      refine (by_num (hy.below hb1) hq1 (by omega) (by omega)).mono ?_
      rintro e w2 ⟨q2, rfl, hq2, -, hb2⟩
      have hbel1 := hbel.trans (hb1.mono hbel.size)
      have hbel2 := hbel1.trans (hb2.mono hbel1.size)
      have hx2 := (hx.below hb1).below hb2
      have hy2 := (hy.below hb1).below hb2
      go_wp2_with fail
      refine (against_num hx2 hq2 (by omega) (Nat.le_trans (rl_mul _ _) (by omega))).mono ?_
      rintro e w3 ⟨rfl, rfl⟩
      by_cases hgo : P < n * 4503599627370496 ∧ a < 1074
      · obtain ⟨hlt, ha2⟩ := hgo
        rw [ord_neg hlt]
        have ht : (-1074 : Int) < -(a : Int) := by omega
        go_wp2_with fail
        refine (plus_num hx2 hx2 (by omega) (by omega)).mono ?_
        rintro e w4 ⟨q4, rfl, hq4, -, hb4⟩
        go_wp2_with fail
        refine ⟨⟨a + 1, by omega, ?_, ?_, hy2.below hb4, hbel2.trans (hb4.mono hbel2.size)⟩, ?_⟩
        · congr 1; omega
        · rw [← twice_pow, HP.out]; exact hq4
        · simp [intOf]; omega
      · have HE : Hid (a = 1074 ∨ n * 4503599627370496 ≤ P) := Lib.hid (by omega)
        obtain ⟨O, hO⟩ : ∃ O, ord P (n * 4503599627370496) = O := ⟨_, rfl⟩
        rw [hO]
        have hcase : (O = -1 ∧ ¬ (-1074 : Int) < -(a : Int)) ∨ (¬ O < 0) := by
          by_cases hlt : P < n * 4503599627370496
          · left
            rw [← hO, ord_neg hlt]
            exact ⟨rfl, by omega⟩
          · right
            have := ord_nonneg hlt
            omega
        clear hO hgo
        rcases hcase with ⟨rfl, hcase⟩ | hcase
        all_goals
          go_wp2_with fail
          go_meet
          exact ⟨a, P, ha, rfl, hx2, hy2, HP, HE, by omega, hbel2⟩
  case rest =>
    obtain ⟨a, P, ha, rfl, hx2, hy2, HP, HE, hlP, hbel2⟩ := hcut
    obtain ⟨w2, rfl⟩ : ∃ w2 : World, w2 = wc := ⟨_, rfl⟩
    have hblP := blen_rl P
    have hP0 : 0 < P := by rw [← HP.out]; exact Nat.mul_pos hm (Nat.pow_pos (by omega))
    clear hu hv S52 h1
    go_wp2_with fail
    go_loopw [1, 5] (fun y e wr => ∃ b, b ≤ blen P ∧ e = .int .i64 ((b : Nat) - (a : Nat) : Int) ∧ RNum wr y (n * 2 ^ b) ∧ Hid (b = 0 ∨ n * 2 ^ b * 2 ^ 52 ≤ P) ∧ Below w2.heap.size w2 wr) (fun _ e _ => blen P - (intOf e + a).toNat)
    case atStart => exact ⟨0, by omega, by go_num, by rw [Nat.pow_zero, Nat.mul_one]; exact hy2, Lib.hid (.inl rfl), Below.refl _ _⟩
    case round =>
      obtain ⟨b, hbP, rfl, hy, hbn, hbel⟩ := hrel
      obtain ⟨wo, rfl⟩ : ∃ wo : World, wo = wr := ⟨_, rfl⟩
      have hlb : rl (n * 2 ^ b) ≤ 10000 := by
        rcases hbn.out with h | h
        · subst h; rw [Nat.pow_zero, Nat.mul_one]; omega
        · have h3 := rl_mono (Nat.le_trans (Nat.le_mul_of_pos_right _ (by decide)) h)
          omega
      obtain ⟨Q, hQ⟩ : ∃ Q, n * 2 ^ b = Q := ⟨_, rfl⟩
      have HQ := Lib.hid hQ
      rw [hQ] at hy hlb
      clear hQ
      go_wp2_with fail
      refine (S53 _).mono ?_
      rintro e w3 ⟨q3, rfl, hq3, -, hb3⟩
      go_wp2_with fail
      refine (by_num (hy.below hb3) hq3 (by omega) (by omega)).mono ?_
      rintro e w4 ⟨q4, rfl, hq4, -, hb4⟩
      have hbel3 := hbel.trans (hb3.mono hbel.size)
      have hbel4 := hbel3.trans (hb4.mono hbel3.size)
      have hy4 := (hy.below hb3).below hb4
      go_wp2_with fail
      refine (against_num (hx2.below hbel4) hq4 (by omega) (Nat.le_trans (rl_mul _ _) (by omega))).mono ?_
      rintro e w5 ⟨rfl, rfl⟩
      by_cases hlt : P < Q * 9007199254740992
      · rw [ord_neg hlt]
        have HPQ := Lib.hid hlt
        have hQ0 : 0 < Q := by rw [← HQ.out]; exact Nat.mul_pos hn (Nat.pow_pos (by omega))
        have hab : ∃ k : Nat, k ≤ 100000 ∧ (b : Int) - (a : Int) = (k : Int) - 1074 ∧ Hid (G = endR (rhe P Q) k) := by
          have hE := HE.out
          have hbn2 := hbn.out
          refine ⟨b + 1074 - a, by omega, by omega, Lib.hid ?_⟩
          rw [← HG.out]
          have := near_endR (num := m) (den := n) (a := a) (b := b) (k := b + 1074 - a) hn (by rw [kk_eq]; omega) (by rw [HP.out, HQ.out, p53]; exact hlt) (by
            rw [HP.out]
            rcases hbn2 with h | h
            · rcases hE with h4 | h4
              · left; omega
              · right; rw [h, Nat.pow_zero, Nat.mul_one, p52]; exact h4
            · right; exact h)
          rwa [HP.out, HQ.out] at this
        obtain ⟨k, hk, hke, HK⟩ := hab
        have hx4 := hx2.below hbel4
        have hbel5 := hbel2.trans (hbel4.mono hbel2.size)
        rw [hke]
        have hlP' : rl P ≤ 6075 := hlP
        clear hke hy hbn hbel hbP hq3 hb3 hq4 hb4 hbel3 hbel4 hbel2 hx2 hlt S53 HE HG ha hy2 hblP hm
        go_upto_block 4 with fail
        go_cut [0, 1, 6] (fun x y q wx => ∃ R qn, q = .int .u64 ((qn : Nat) : Int) ∧ RNum wx x R ∧ RNum wx y Q ∧ Hid (R + qn * Q = P) ∧ R < Q ∧ Below w4.heap.size w4 wx)
        case first =>
          go_wp2_with fail
          go_loopw [0, 6, 7] (fun x q i wr => ∃ t R qn, t ≤ 54 ∧ i = .int .i64 ((t : Nat) - 1 : Int) ∧ q = .int .u64 ((qn : Nat) : Int) ∧ RNum wr x R ∧ RNum wr u1 Q ∧ Hid (R + qn * Q = P) ∧ Hid (R < Q * 2 ^ t) ∧ Below w4.heap.size w4 wr) (fun _ _ i _ => (intOf i + 1).toNat)
          case atStart =>
            exact ⟨54, P, 0, Nat.le_refl _, i53, rfl, hx4, hy4, Lib.hid (zero_add' P Q), Lib.hid (lt54 HPQ.out), Below.refl _ _⟩
          case round =>
            obtain ⟨t, R, qn, ht, rfl, rfl, hR, hy5, HR1, HR2, hbel6⟩ := hrel
            obtain ⟨w6, rfl⟩ : ∃ w6 : World, w6 = wr := ⟨_, rfl⟩
            have hq53 := q_lt hQ0 HR1.out HPQ.out
            have hRP : rl R ≤ 6075 := Nat.le_trans (rl_mono (by rw [← HR1.out]; omega)) hlP'
            rcases t with _ | j
            · go_wp2_with fail
              go_meet
              exact ⟨R, qn, rfl, hR, hy5, HR1, by have := HR2.out; omega, hbel6⟩
            · have e1 : ((j + 1 : Nat) : Int) - 1 = (j : Int) := by omega
              rw [e1]
              clear e1
              have hp : 2 ^ j ≤ 9007199254740992 := Nat.pow_le_pow_right (n := 2) (j := 53) (by omega) (by omega)
              have hp0 : 0 < 2 ^ j := Nat.pow_pos (by omega)
              have hpw : IntKind.u64.wrap (2 ^ j) = ((2 ^ j : Nat) : Int) := by
                rw [IntKind.wrap_u64]
                have e : ((2 : Int) ^ j) = ((2 ^ j : Nat) : Int) := by rw [Int.natCast_pow]; rfl
                rw [e]
                generalize 2 ^ j = X at *
                omega
              obtain ⟨X, hX⟩ : ∃ X, 2 ^ j = X := ⟨_, rfl⟩
              have r1 := HR2.out
              have r2 := fun h => rest_lt (R := R) (Q := Q) (j := j) HR2.out h
              rw [hX] at hpw hp hp0 r2
              have r3 : Q * X ≤ R → R - Q * X < Q * 2 ^ j := by rw [hX]; exact r2
              have r4 : ¬ Q * X ≤ R → R < Q * 2 ^ j := by rw [hX]; omega
              have R3 := Lib.hid r3
              have R4 := Lib.hid r4
              clear r1 r2 r3 r4 HR2 hX
              have hrX := rl_u64 (n := X) (by omega)
              have SX := fun w => small_any X w (by omega)
              go_wp2_with fail
              refine (SX _).mono ?_
              rintro e w7 ⟨q7, rfl, hq7, -, hb7⟩
              go_wp2_with fail
              refine (by_num (hy5.below hb7) hq7 (by omega) (by omega)).mono ?_
              rintro e w8 ⟨q8, rfl, hq8, -, hb8⟩
              have hR8 := (hR.below hb7).below hb8
              have hy8 := (hy5.below hb7).below hb8
              have hbel7 := hbel6.trans (hb7.mono hbel6.size)
              have hbel8 := hbel7.trans (hb8.mono hbel7.size)
              have hQX : rl (Q * X) ≤ 10005 := Nat.le_trans (rl_mul _ _) (by omega)
              clear hR hy5 hbel6 hb7 hb8 hbel7 hq7 SX
              go_wp2_with fail
              refine (against_num hR8 hq8 (by omega) (by omega)).mono ?_
              rintro e w9 ⟨rfl, rfl⟩
              by_cases hlt : R < Q * X
              · have hR4 := Lib.hid (R4.out (by omega))
                rw [ord_neg hlt]
                go_wp2_with fail
                refine ⟨⟨j, R, qn, by omega, by first | rfl | go_num, rfl, hR8, hy8, HR1, hR4, hbel8⟩, by simp [intOf]⟩
              · have hO := ord_nonneg hlt
                have hge : Q * X ≤ R := by omega
                have hR3 := Lib.hid (R3.out hge)
                have HR5 := Lib.hid (rest_eq HR1.out hge)
                generalize ord R (Q * X) = O at *
                go_wp2_with fail
                refine (minus_num hR8 hq8 (by omega) (by omega) hge).mono ?_
                rintro e w10 ⟨q10, rfl, hq10, -, hb10⟩
                go_wp2_with fail
                refine ⟨⟨j, R - Q * X, qn + X, by omega, by first | rfl | go_num, by go_num, hq10, hy8.below hb10, HR5, hR3, hbel8.trans (hb10.mono hbel8.size)⟩, by simp [intOf]⟩
        case rest =>
          obtain ⟨R, qn, rfl, hR, hy5, HR1, hRQ, hbel6⟩ := hcut
          obtain ⟨w6, rfl⟩ : ∃ w6 : World, w6 = wc := ⟨_, rfl⟩
          have hq53 := q_lt hQ0 HR1.out HPQ.out
          have hRP : rl R ≤ 6075 := Nat.le_trans (rl_mono (by rw [← HR1.out]; omega)) hlP'
          obtain ⟨e1, e2⟩ := div_of HR1.out hRQ
          have hq1 : rhe P Q = if Q < R + R ∨ (R + R = Q ∧ qn % 2 = 1) then qn + 1 else qn := by
            unfold rhe
            rw [e1, e2, Nat.two_mul]
          have HQ1 := Lib.hid hq1
          have hbel7 := hbel5.trans (hbel6.mono hbel5.size)
          clear hq1 e1 e2 hx4 hy4 hbel5 hbel6
          go_wp2_with fail
          refine (plus_num hR hR (by omega) (by omega)).mono ?_
          rintro e w7 ⟨q7, rfl, hq7, -, hb7⟩
          go_wp2_with fail
          refine (against_num hq7 (hy5.below hb7) (Nat.le_trans (rl_add _ _) (by omega)) (by omega)).mono ?_
          rintro e w8 ⟨rfl, rfl⟩
          have hbel8 := hbel7.trans (hb7.mono hbel7.size)
          clear hR hy5 hq7 hb7 hbel7
          obtain ⟨S, hS⟩ : ∃ S, rhe P Q = S := ⟨_, rfl⟩
          have hq2 := HQ1.out
          rw [hS] at HK hq2
          have hS53 : S ≤ 9007199254740992 := by rw [hq2]; split <;> omega
          have hcase : (ord (R + R) Q = 1 ∧ (S : Int) = (qn : Int) + 1) ∨ (ord (R + R) Q = 0 ∧ ((qn : Int) % 2 == 1) = true ∧ (S : Int) = (qn : Int) + 1) ∨ (ord (R + R) Q = 0 ∧ ((qn : Int) % 2 == 1) = false ∧ S = qn) ∨ (ord (R + R) Q = -1 ∧ S = qn) := by
            rw [hq2]
            rcases Nat.lt_trichotomy Q (R + R) with h | h | h
            · left; exact ⟨by rw [ord, if_neg (by omega), if_pos h], by rw [if_pos (.inl h)]; omega⟩
            · have ho : ord (R + R) Q = 0 := by rw [ord, if_neg (by omega), if_neg (by omega)]
              by_cases hodd : qn % 2 = 1
              · right; left; exact ⟨ho, by simp; omega, by rw [if_pos (.inr ⟨h.symm, hodd⟩)]; omega⟩
              · right; right; left; exact ⟨ho, by simp; omega, by rw [if_neg (by omega)]⟩
            · right; right; right; exact ⟨ord_neg h, by rw [if_neg (by omega)]⟩
          clear HQ1 hS hq2
          have hk1 : (k : Int) - 1074 + 1 = ((k + 1 : Nat) : Int) - 1074 := by omega
          have K1 := Lib.hid hk1
          clear hk1
          rcases hcase with ⟨hO, hs⟩ | ⟨hO, ho, hs⟩ | ⟨hO, ho, rfl⟩ | ⟨hO, rfl⟩
          all_goals
            rw [hO]
            clear hO
            go_upto_region 19 with (fail)
            try rw [← hs]
            try clear hs
            try clear ho
            clear hq53 HR1 hRP hRQ HPQ HQ HP hP0 hlb hlP hlP' h2 L52 L53 LT
            by_cases c1 : S = 9007199254740992
            · subst c1
              have hE := HK.out
              unfold endR at hE
              rw [if_pos rfl] at hE
              by_cases c2 : 2045 < k + 1
              · rw [if_pos c2] at hE
                have c2' : (971 : Int) < (k : Int) - 1074 + 1 := by omega
                subst hE
                go_wp2_with fail
                go_ret
                exact ⟨rfl, hbel8⟩
              · rw [if_neg c2] at hE
                have c2' : ¬ (971 : Int) < (k : Int) - 1074 + 1 := by omega
                have HE := Lib.hid hE
                clear hE
                go_wp2_with fail
                go_ret
                rw [HE.out]
                refine ⟨ret_num ?_, hbel8⟩
                omega
            · have hE := HK.out
              unfold endR at hE
              rw [if_neg c1] at hE
              have c1' : ((S : Int) == 9007199254740992) = false := by simp; omega
              by_cases c2 : 2045 < k
              · rw [if_pos c2] at hE
                have c2' : (971 : Int) < (k : Int) - 1074 := by omega
                subst hE
                clear c1
                go_wp2_with fail
                go_ret
                exact ⟨rfl, hbel8⟩
              · rw [if_neg c2] at hE
                have c2' : ¬ (971 : Int) < (k : Int) - 1074 := by omega
                by_cases c3 : S < 4503599627370496
                · rw [if_pos c3] at hE
                  have HE := Lib.hid hE
                  have C3 := Lib.hid c3
                  have HS53 := Lib.hid hS53
                  clear hE c3 hS53 c1
                  go_upto_region 23 with (fail)
                  obtain ⟨H, hH⟩ : ∃ H : Int, (4503599627370496 : Int) = H := ⟨_, rfl⟩
                  rw [hH]
                  have c5' : (S : Int) < H := by have := C3.out; omega
                  have HH := Lib.hid hH
                  clear hH
                  go_wp2_with fail
                  go_ret
                  rw [HE.out]
                  exact ⟨rfl, hbel8⟩
                · rw [if_neg c3] at hE
                  have HE := Lib.hid hE
                  have C3 := Lib.hid c3
                  have HS53 := Lib.hid hS53
                  clear hE c3 hS53 c1
                  go_upto_region 23 with (fail)
                  obtain ⟨H, hH⟩ : ∃ H : Int, (4503599627370496 : Int) = H := ⟨_, rfl⟩
                  rw [hH]
                  have c5' : ¬ (S : Int) < H := by have := C3.out; omega
                  have HH := Lib.hid hH
                  clear hH
                  go_wp2_with fail
                  go_ret
                  rw [HE.out]
                  refine ⟨ret_num ?_, hbel8⟩
                  have := C3.out; have := HS53.out
                  first | omega | (rw [IntKind.wrap_u64]; omega) | (rw [IntKind.wrap_u64, IntKind.wrap_u64]; omega)
      · have hO := ord_nonneg hlt
        have hge : Q * 2 ^ 53 ≤ P := by rw [p53]; omega
        have hbb : b < blen P := by
          rw [← HQ.out, ← HP.out] at hge
          have := dbl_bound hn hge
          rwa [HP.out] at this
        have hb2 : n * 2 ^ (b + 1) * 2 ^ 52 ≤ P := by
          apply half_ok
          rw [HQ.out]
          exact hge
        have HB2 := Lib.hid hb2
        clear hge hb2 hlt
        generalize ord P (Q * 9007199254740992) = O at *
        go_wp2_with fail
        refine (plus_num hy4 hy4 (by omega) (by omega)).mono ?_
        rintro e w6 ⟨q6, rfl, hq6, -, hb6⟩
        go_wp2_with fail
        refine ⟨⟨b + 1, by omega, ?_, ?_, Lib.hid (.inr HB2.out), hbel4.trans (hb6.mono hbel4.size)⟩, ?_⟩
        · congr 1; omega
        · rw [← twice_pow, HQ.out]; exact hq6
        · simp [intOf]; omega
theorem nearest_any {u v : Value} {m n : Nat} (w : World) (hu : RNum w u m) (hv : RNum w v n) (hm : 0 < m) (hn : 0 < n) (h1 : rl m ≤ 5000) (h2 : rl n ≤ 5000) :
    Calls Tryd.prog 80 #[u, v] w fun e w' => e = .returned (.int .u64 (near m n : Nat)) ∧ Below w.heap.size w w' :=
  nearest_aux w hu hv hm hn h1 h2 rfl

theorem dig_pos_len {n : Nat} (h : 0 < n) : 0 < (dig 10000 n).length := by
  apply Nat.pos_of_ne_zero
  intro h0
  have := (dig_eq_nil (B := 10000) (n := n) (by omega)).1 (List.eq_nil_of_length_eq_zero h0)
  omega
theorem rl_one : rl 1 ≤ 1 := rl_le (by decide)

set_option maxRecDepth 1000000 in
theorem nearestOf_any {u : Value} {m G : Nat} (x : Int) (w : World) (hu : RNum w u m) (hm : 0 < m) (h1 : rl m ≤ 1000) (hx : x.natAbs ≤ 1000) (hG : near (m * 10 ^ x.toNat) (10 ^ (-x).toNat) = G) :
    Calls Tryd.prog 34 #[u, .int .i64 x] w fun e w' => e = .returned (.int .u64 (G : Nat)) ∧ Below w.heap.size w w' := by
  obtain ⟨a, ca, rfl, -⟩ := hu.open
  have hpos := dig_pos_len hm
  have hlen0 : (((dig 10000 m).length : Int) == 0) = false := beq_eq_false_iff_ne.2 (by omega)
  have S1 : ∀ w, Calls Tryd.prog 45 #[.int .u64 1] w fun e w' => ∃ q, e = .returned q ∧ RNum w' q 1 ∧ Fresh w q ∧ Below w.heap.size w w' := fun w => small_any 1 w (by omega)
  have HG := Lib.hid hG
  clear hG
  have hl : (dig 10000 m).length = rl m := rfl
  have hrl1 := rl_one
  rw [hl] at hpos hlen0 hu ⊢
  clear hl
  by_cases hx0 : x < 0
  · obtain ⟨n, hn⟩ : ∃ n : Nat, -x = (n : Int) := ⟨(-x).toNat, by omega⟩
    have hrn := rl_pow (b := 10) (by omega) n
    have PW : ∀ w, Calls Tryd.prog 81 #[.int .u64 10, .int .i64 ((n : Nat) : Int)] w fun e w' => ∃ q, e = .returned q ∧ RNum w' q (10 ^ n) ∧ Fresh w q ∧ Below w.heap.size w w' := fun w => power_any 10 n w (by omega) (by omega) (by omega) (by omega)
    have hG2 : near m (10 ^ n) = G := by
      rw [← HG.out, hn, Int.toNat_natCast, show x.toNat = 0 by omega, Nat.pow_zero, Nat.mul_one]
    have HG2 := Lib.hid hG2
    have hp0 : 0 < 10 ^ n := Nat.pow_pos (by omega)
    clear HG hG2
    generalize 10 ^ n = X at *
    go_enter Tryd.func34, Tryd.ntmps34
    go_wp2_with fail
    refine (PW _).mono ?_
    rintro e w1 ⟨q1, rfl, hq1, -, hb1⟩
    go_wp2_with fail
    refine (nearest_aux _ (hu.below hb1) hq1 hm hp0 (by omega) (by omega) HG2.out).mono ?_
    rintro e w2 ⟨rfl, hb2⟩
    have hb3 := hb1.trans (hb2.mono hb1.size)
    go_wp2_with fail
    go_ret
    exact ⟨rfl, hb3⟩
  · obtain ⟨n, rfl⟩ : ∃ n : Nat, x = (n : Int) := ⟨x.toNat, by omega⟩
    have hrn := rl_pow (b := 10) (by omega) n
    have PW : ∀ w, Calls Tryd.prog 81 #[.int .u64 10, .int .i64 ((n : Nat) : Int)] w fun e w' => ∃ q, e = .returned q ∧ RNum w' q (10 ^ n) ∧ Fresh w q ∧ Below w.heap.size w w' := fun w => power_any 10 n w (by omega) (by omega) (by omega) (by omega)
    have hG2 : near (m * 10 ^ n) 1 = G := by
      rw [← HG.out, Int.toNat_natCast, show (-(n : Int)).toNat = 0 by omega, Nat.pow_zero]
    have HG2 := Lib.hid hG2
    have hp0 : 0 < 10 ^ n := Nat.pow_pos (by omega)
    clear HG hG2
    generalize 10 ^ n = X at *
    have hmul := rl_mul m X
    have hmp : 0 < m * X := Nat.mul_pos hm hp0
    go_enter Tryd.func34, Tryd.ntmps34
    go_wp2_with fail
    refine (PW _).mono ?_
    rintro e w1 ⟨q1, rfl, hq1, -, hb1⟩
    go_wp2_with fail
    refine (by_num (hu.below hb1) hq1 (by omega) (by omega)).mono ?_
    rintro e w2 ⟨q2, rfl, hq2, -, hb2⟩
    have hb3 := hb1.trans (hb2.mono hb1.size)
    go_wp2_with fail
    refine (S1 _).mono ?_
    rintro e w3 ⟨q3, rfl, hq3, -, hb4⟩
    have hb5 := hb3.trans (hb4.mono hb3.size)
    go_wp2_with fail
    refine (nearest_aux _ (hq2.below hb4) hq3 hmp (by omega) (by omega) (by omega) HG2.out).mono ?_
    rintro e w4 ⟨rfl, hb6⟩
    have hb7 := hb5.trans (hb6.mono hb5.size)
    go_wp2_with fail
    go_ret
    exact ⟨rfl, hb7⟩
end Go.Proofs.YtfeeiipohfpdiaaDoor
