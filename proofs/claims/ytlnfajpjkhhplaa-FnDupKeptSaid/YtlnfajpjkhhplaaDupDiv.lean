
/-
  Contracts of the functions that divide by doubling. No condition.
-/
import Derived.Test.YtlnfajpjkhhplaaDig
import Derived.Test.YtlnfajpjkhhplaaDupP
import Derived.Test.YtlnfajpjkhhplaaOwn
import Derived.Test.YtlnfajpjkhhplaaCommon
namespace Go.Proofs.Ytlnfajpjkhhplaa
open Go.RowKit

theorem isFactor_any (n : Int) (w : World) :
    Calls Try.prog 33 #[.int .i64 n] w fun e w' => e = .returned (.bool (isFac n)) ∧ w = w' := by
  unfold isFac
  by_cases h1 : 1 ≤ n
  · by_cases h2 : n ≤ 100000
    · rw [inB_mk h1 h2]
      go_enter Try.func33, Try.ntmps33
      go_wp2
      go_ret
      exact ⟨rfl, rfl⟩
    · rw [inB_hi (by omega)]
      go_enter Try.func33, Try.ntmps33
      go_wp2
      go_ret
      exact ⟨rfl, rfl⟩
  · rw [inB_lo (by omega)]
    go_enter Try.func33, Try.ntmps33
    go_wp2
    go_ret
    exact ⟨rfl, rfl⟩
theorem l2Factors_any (a b : Int) (w : World) :
    Calls Try.prog 31 #[.int .i64 a, .int .i64 b] w fun e w' => e = .returned (.bool (isFac a && isFac b)) ∧ w = w' := by
  cases ha : inB a 1 100000
  · have HA := Lib.hid ha
    clear ha
    go_enter Try.func31, Try.ntmps31
    go_wp2_with fail
    refine (l6In_any _ _ _ _).mono ?_
    rintro e w' ⟨rfl, rfl⟩
    rw [HA.out]
    go_wp2_with fail
    go_ret
    exact ⟨by rw [isFac, HA.out]; rfl, rfl⟩
  · have HA := Lib.hid ha
    clear ha
    go_enter Try.func31, Try.ntmps31
    go_wp2_with fail
    refine (l6In_any _ _ _ _).mono ?_
    rintro e w' ⟨rfl, rfl⟩
    rw [HA.out]
    go_wp2_with fail
    refine (l6In_any _ _ _ _).mono ?_
    rintro e w' ⟨rfl, rfl⟩
    go_wp2_with fail
    go_ret
    exact ⟨by rw [isFac, HA.out, Bool.true_and]; rfl, rfl⟩

/-- Quotient, rest and how many are taken. -/
def three (q r m : Nat) : Value := .tuple #[.int .i64 q, .int .i64 r, .int .i64 m]

theorem l2Divide_any (a b : Nat) (w : World) (a1 : 1 ≤ a) (a2 : a ≤ 100000) (b1 : 1 ≤ b) (b2 : b ≤ 100000) :
    Calls Try.prog 32 #[.int .i64 (a : Int), .int .i64 (b : Int)] w fun e w' => e = .returned (three (a / b) (a % b) (popc (a / b))) ∧ w = w' := by
  go_enter Try.func32, Try.ntmps32
  go_wp2_with fail
  go_loop [1, 7] (fun y p => ∃ B P : Nat, y = .int .i64 B ∧ p = .int .i64 P ∧ Dbl b P B ∧ B ≤ 100000) (fun y _ => (100000 - intOf y).toNat)
  case atStart => exact ⟨b, 1, rfl, rfl, Dbl.one b, b2⟩
  case round =>
    obtain ⟨B, P, rfl, rfl, hd, hB⟩ := hrel
    have hp := hd.pos
    have hpb := hd.le b1
    have HD := Lib.hid hd
    clear hd
    by_cases hlt : 2 * B ≤ a
    · go_wp2_with fail
      go_round
      case rel => exact ⟨2 * B, 2 * P, by go_num, by go_num, HD.out.two, by omega⟩
      case measure => (simp [intOf]) <;> omega
    · have S := Lib.hid (DivSt.start HD.out (show a < 2 * B by omega))
      go_wp2_with fail
      go_loop [0, 1, 7, 8, 9] (fun r y p q m => ∃ R Y X Q M : Nat, r = .int .i64 R ∧ y = .int .i64 Y ∧ p = .int .i64 X ∧ q = .int .i64 Q ∧ m = .int .i64 M ∧ DivSt a b R Y X Q M ∧ Y ≤ 100000 ∧ X ≤ 100000) (fun _ _ p _ _ => (intOf p).toNat)
      case atStart => exact ⟨a, B, P, 0, 0, rfl, rfl, rfl, rfl, rfl, S.out, hB, by omega⟩
      case round =>
        obtain ⟨R, Y, X, Q, M, rfl, rfl, rfl, rfl, rfl, hs, hY, hX⟩ := hrel
        have hle := hs.le b1
        have HS := Lib.hid hs
        clear hs
        by_cases h0 : 0 < X
        · by_cases hy : Y ≤ R
          · have N := Lib.hid (HS.out.take_ h0 hy)
            go_wp2_with fail
            go_round
            case rel => exact ⟨R - Y, Y / 2, X / 2, Q + X, M + 1, by go_num, by go_num, by go_num, by go_num, by go_num, N.out, by omega, by omega⟩
            case measure => (simp [intOf]) <;> omega
          · have N := Lib.hid (HS.out.skip_ h0 (by omega))
            go_wp2_with fail
            go_round
            case rel => exact ⟨R, Y / 2, X / 2, Q, M, rfl, by go_num, by go_num, rfl, rfl, N.out, by omega, by omega⟩
            case measure => (simp [intOf]) <;> omega
        · obtain rfl : X = 0 := by omega
          obtain ⟨e1, e2, e3⟩ := HS.out.done
          have E1 := Lib.hid e1
          have E2 := Lib.hid e2
          have E3 := Lib.hid e3
          clear e1 e2 e3
          go_wp2_with fail
          go_ret3
          exact ⟨by rw [← E3.out, ← E1.out, ← E2.out]; rfl, rfl⟩

theorem dupTake_any (a b : Nat) (w : World) (a1 : 1 ≤ a) (a2 : a ≤ 100000) (b1 : 1 ≤ b) (b2 : b ≤ 100000) :
    Calls Try.prog 34 #[.int .i64 (a : Int), .int .i64 (b : Int)] w fun e w' => e = .returned (three (a / b) (a % b) (popc (a / b))) ∧ Below w.heap.size w w' := by
  go_enter Try.func34, Try.ntmps34
  go_wp2_with fail
  go_loopw [7, 8] (fun s d wr => ∃ n D c : Nat, ∃ x : Option Addr, s = .slice x n c ∧ d = .int .i64 D ∧ D = b * 2 ^ n ∧ D ≤ 200000 ∧ n ≤ D ∧ Own wr w.heap.size wr.heap.size (.slice x n c) (dl b n) ∧ Below w.heap.size w wr) (fun _ d _ => (200001 - intOf d).toNat)
  case atStart => exact ⟨0, b, 0, none, rfl, rfl, by simp, by omega, by omega, Own.nil_ w _, Below.refl _ _⟩
  case round =>
    obtain ⟨n, D, c, x, rfl, rfl, hD, hD2, hn, ho, hb⟩ := hrel
    have hs := hb.size
    have HB := Lib.hid hb
    have HD := Lib.hid hD
    have hD1 : 1 ≤ D := by rw [hD]; exact Nat.mul_pos b1 Nat.one_le_two_pow
    clear hb hD
    by_cases hlt : D ≤ a
    · have hl := dl_len b n
      have ho' : Own wr w.heap.size wr.heap.size (.slice x (dl b n).length c) (dl b n) := by rw [hl]; exact ho
      have HL := Lib.hid hl
      clear ho hl
      go_wp2_with (at_builtin; refine wpList_push rfl _ _ rfl wr w.heap.size wr.heap.size (D : Int) (dl b n) x c (by rw [HL.out]; rfl) rfl ho' hs (by rw [HL.out]; omega) ?_; intro x' c' w2 ho2 hb2 hs2)
      have HO2 := Lib.hid ho2
      have HB2 := Lib.hid (HB.out.trans (hb2.mono (Nat.le_refl _)))
      clear ho' ho2 hb2
      rw [HL.out]
      go_wp2_with fail
      go_roundw
      case rel =>
        refine ⟨n + 1, 2 * D, c', x', rfl, by go_num, by rw [dbl_step, ← HD.out], by omega, by omega, ?_, HB2.out⟩
        have := HO2.out
        rw [HL.out, HD.out, dl_succ] at this
        exact this
      case measure => (simp [intOf]) <;> omega
    · have S := Lib.hid (TakeSt.start (b := b) (n := n) (show a < b * 2 ^ n by rw [← HD.out]; omega))
      have HO := Lib.hid ho
      clear ho
      go_wp2_with fail
      go_loop [9, 10, 11, 12] (fun q r m i => ∃ Q R M t : Nat, q = .int .i64 Q ∧ r = .int .i64 R ∧ m = .int .i64 M ∧ i = .int .i64 ((t : Int) - 1) ∧ t ≤ n ∧ TakeSt a b t R Q M) (fun _ _ _ i => (intOf i + 1).toNat)
      case atStart => exact ⟨0, a, 0, n, rfl, rfl, rfl, rfl, Nat.le_refl _, S.out⟩
      case round =>
        obtain ⟨Q, R, M, t, rfl, rfl, rfl, rfl, ht, hst⟩ := hrel
        have hle := hst.le b1
        have HS := Lib.hid hst
        clear hst
        by_cases h0 : t = 0
        · subst h0
          obtain ⟨e1, e2, e3⟩ := HS.out.done
          have E1 := Lib.hid e1
          have E2 := Lib.hid e2
          have E3 := Lib.hid e3
          clear e1 e2 e3
          go_wp2_with fail
          go_ret3
          exact ⟨by rw [← E3.out, ← E1.out, ← E2.out]; rfl, HB.out⟩
        · obtain ⟨t, rfl⟩ : ∃ t', t = t' + 1 := ⟨t - 1, by omega⟩
          obtain ⟨g, hg, _, _, hc, _⟩ := HO.out.at_ (i := t) (by rw [dl_len]; omega)
          rw [dl_nth (by omega)] at hc
          obtain ⟨E, hE⟩ : ∃ E, E = b * 2 ^ t := ⟨_, rfl⟩
          rw [← hE] at hc
          subst hg
          by_cases hy : E ≤ R
          · have N := Lib.hid (HS.out.take_ (by rw [← hE]; exact hy))
            have HE := Lib.hid hE
            clear hE
            go_wp2_with fail
            go_round
            case rel => exact ⟨2 * Q + 1, R - E, M + 1, t, by go_num, by go_num, by go_num, by go_num, by omega, by rw [HE.out]; exact N.out⟩
            case measure => (simp [intOf]) <;> omega
          · have N := Lib.hid (HS.out.skip_ (by rw [← hE]; omega))
            have HE := Lib.hid hE
            clear hE
            go_wp2_with fail
            go_round
            case rel => exact ⟨2 * Q, R, M, t, by go_num, rfl, rfl, by go_num, by omega, N.out⟩
            case measure => (simp [intOf]) <;> omega

theorem dupDivide_yes {n m : Nat} (n1 : 1 ≤ n) (n2 : n ≤ 100000) (m1 : 1 ≤ m) (m2 : m ≤ 100000) : dupDivide (n : Int) (m : Int) = (((n / m : Nat) : Int), ((n % m : Nat) : Int), true) := by
  simp only [dupDivide, fac_nat n1 n2, fac_nat m1 m2, Int.toNat_natCast]
  rfl
theorem dupBits_yes {n m : Nat} (n1 : 1 ≤ n) (n2 : n ≤ 100000) (m1 : 1 ≤ m) (m2 : m ≤ 100000) : dupBits (n : Int) (m : Int) = ((popc (n / m) : Nat) : Int) := by
  simp only [dupBits, fac_nat n1 n2, fac_nat m1 m2, Int.toNat_natCast]
  rfl
theorem dupDivide_no {a b : Int} (h : (isFac a && isFac b) = false) : dupDivide a b = (0, 0, false) := by simp only [dupDivide, h]; rfl
theorem dupBits_no {a b : Int} (h : (isFac a && isFac b) = false) : dupBits a b = -1 := by simp only [dupBits, h]; rfl

theorem specDupDivide_any (w : World) (a b : Int) :
    Calls Try.prog 14 #[.int .i64 a, .int .i64 b] w fun e w' => e = .returned (tri (dupDivide a b)) ∧ w = w' := by
  cases h : isFac a && isFac b
  · have H := Lib.hid h
    clear h
    go_enter Try.func14, Try.ntmps14
    go_wp2_with fail
    refine (l2Factors_any _ _ _).mono ?_
    rintro e w' ⟨rfl, rfl⟩
    rw [H.out]
    go_wp2_with fail
    go_ret3
    exact ⟨by rw [dupDivide_no H.out]; rfl, rfl⟩
  · obtain ⟨n, m, rfl, rfl, n1, n2, m1, m2⟩ := facs h
    have H := Lib.hid h
    have D := Lib.hid (dupDivide_yes n1 n2 m1 m2)
    clear h
    go_enter Try.func14, Try.ntmps14
    go_wp2_with fail
    refine (l2Factors_any _ _ _).mono ?_
    rintro e w' ⟨rfl, rfl⟩
    rw [H.out]
    go_wp2_with fail
    refine (l2Divide_any n m _ n1 n2 m1 m2).mono ?_
    rintro e w' ⟨rfl, rfl⟩
    unfold three
    go_wp2_with fail
    go_ret3
    exact ⟨by rw [D.out]; rfl, rfl⟩
theorem specDupBits_any (w : World) (a b : Int) :
    Calls Try.prog 12 #[.int .i64 a, .int .i64 b] w fun e w' => e = .returned (.int .i64 (dupBits a b)) ∧ w = w' := by
  cases h : isFac a && isFac b
  · have H := Lib.hid h
    clear h
    go_enter Try.func12, Try.ntmps12
    go_wp2_with fail
    refine (l2Factors_any _ _ _).mono ?_
    rintro e w' ⟨rfl, rfl⟩
    rw [H.out]
    go_wp2_with fail
    go_ret
    exact ⟨by rw [dupBits_no H.out]; rfl, rfl⟩
  · obtain ⟨n, m, rfl, rfl, n1, n2, m1, m2⟩ := facs h
    have H := Lib.hid h
    have D := Lib.hid (dupBits_yes n1 n2 m1 m2)
    clear h
    go_enter Try.func12, Try.ntmps12
    go_wp2_with fail
    refine (l2Factors_any _ _ _).mono ?_
    rintro e w' ⟨rfl, rfl⟩
    rw [H.out]
    go_wp2_with fail
    refine (l2Divide_any n m _ n1 n2 m1 m2).mono ?_
    rintro e w' ⟨rfl, rfl⟩
    unfold three
    go_wp2_with fail
    go_ret
    exact ⟨by rw [D.out]; rfl, rfl⟩

theorem implDupDivide_any (w : World) (a b : Int) :
    Calls Try.prog 15 #[.int .i64 a, .int .i64 b] w fun e w' => e = .returned (tri (dupDivide a b)) ∧ Below w.heap.size w w' := by
  cases ha : isFac a
  · have HA := Lib.hid ha
    have D := Lib.hid (dupDivide_no (a := a) (b := b) (by rw [ha]; rfl))
    clear ha
    go_enter Try.func15, Try.ntmps15
    go_wp2_with fail
    refine (isFactor_any _ _).mono ?_
    rintro e w' ⟨rfl, rfl⟩
    rw [HA.out]
    go_wp2_with fail
    go_ret3
    exact ⟨by rw [D.out]; rfl, Below.refl _ _⟩
  · cases hb : isFac b
    · have HA := Lib.hid ha
      have HB := Lib.hid hb
      have D := Lib.hid (dupDivide_no (a := a) (b := b) (by rw [ha, hb]; rfl))
      clear ha hb
      go_enter Try.func15, Try.ntmps15
      go_wp2_with fail
      refine (isFactor_any _ _).mono ?_
      rintro e w' ⟨rfl, rfl⟩
      rw [HA.out]
      go_wp2_with fail
      refine (isFactor_any _ _).mono ?_
      rintro e w' ⟨rfl, rfl⟩
      rw [HB.out]
      go_wp2_with fail
      go_ret3
      exact ⟨by rw [D.out]; rfl, Below.refl _ _⟩
    · obtain ⟨n, m, rfl, rfl, n1, n2, m1, m2⟩ := facs (a := a) (b := b) (by rw [ha, hb]; rfl)
      have HA := Lib.hid ha
      have HB := Lib.hid hb
      have D := Lib.hid (dupDivide_yes n1 n2 m1 m2)
      clear ha hb
      go_enter Try.func15, Try.ntmps15
      go_wp2_with fail
      refine (isFactor_any _ _).mono ?_
      rintro e w' ⟨rfl, rfl⟩
      rw [HA.out]
      go_wp2_with fail
      refine (isFactor_any _ _).mono ?_
      rintro e w' ⟨rfl, rfl⟩
      rw [HB.out]
      go_wp2_with fail
      refine (dupTake_any n m _ n1 n2 m1 m2).mono ?_
      rintro e w1 ⟨rfl, b1⟩
      have B1 := Lib.hid b1
      clear b1
      unfold three
      go_wp2_with fail
      go_ret3
      exact ⟨by rw [D.out]; rfl, B1.out⟩
theorem implDupBits_any (w : World) (a b : Int) :
    Calls Try.prog 13 #[.int .i64 a, .int .i64 b] w fun e w' => e = .returned (.int .i64 (dupBits a b)) ∧ Below w.heap.size w w' := by
  cases ha : isFac a
  · have HA := Lib.hid ha
    have D := Lib.hid (dupBits_no (a := a) (b := b) (by rw [ha]; rfl))
    clear ha
    go_enter Try.func13, Try.ntmps13
    go_wp2_with fail
    refine (isFactor_any _ _).mono ?_
    rintro e w' ⟨rfl, rfl⟩
    rw [HA.out]
    go_wp2_with fail
    go_ret
    exact ⟨by rw [D.out]; rfl, Below.refl _ _⟩
  · cases hb : isFac b
    · have HA := Lib.hid ha
      have HB := Lib.hid hb
      have D := Lib.hid (dupBits_no (a := a) (b := b) (by rw [ha, hb]; rfl))
      clear ha hb
      go_enter Try.func13, Try.ntmps13
      go_wp2_with fail
      refine (isFactor_any _ _).mono ?_
      rintro e w' ⟨rfl, rfl⟩
      rw [HA.out]
      go_wp2_with fail
      refine (isFactor_any _ _).mono ?_
      rintro e w' ⟨rfl, rfl⟩
      rw [HB.out]
      go_wp2_with fail
      go_ret
      exact ⟨by rw [D.out]; rfl, Below.refl _ _⟩
    · obtain ⟨n, m, rfl, rfl, n1, n2, m1, m2⟩ := facs (a := a) (b := b) (by rw [ha, hb]; rfl)
      have HA := Lib.hid ha
      have HB := Lib.hid hb
      have D := Lib.hid (dupBits_yes n1 n2 m1 m2)
      clear ha hb
      go_enter Try.func13, Try.ntmps13
      go_wp2_with fail
      refine (isFactor_any _ _).mono ?_
      rintro e w' ⟨rfl, rfl⟩
      rw [HA.out]
      go_wp2_with fail
      refine (isFactor_any _ _).mono ?_
      rintro e w' ⟨rfl, rfl⟩
      rw [HB.out]
      go_wp2_with fail
      refine (dupTake_any n m _ n1 n2 m1 m2).mono ?_
      rintro e w1 ⟨rfl, b1⟩
      have B1 := Lib.hid b1
      clear b1
      unfold three
      go_wp2_with fail
      go_ret
      exact ⟨by rw [D.out]; rfl, B1.out⟩
end Go.Proofs.Ytlnfajpjkhhplaa
