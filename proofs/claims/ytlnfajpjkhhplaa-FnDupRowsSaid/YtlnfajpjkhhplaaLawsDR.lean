
/-
  The walk of the law FnDupRows: each row halves and doubles: it returns true for every code.
-/
import Derived.Test.YtlnfajpjkhhplaaDrawD
import Derived.Test.YtlnfajpjkhhplaaDupL
namespace Go.Proofs.Ytlnfajpjkhhplaa
open Go.RowKit

theorem last_one {a : Nat} (h : 1 ≤ a) : a / 2 ^ (bl a - 1) = 1 := by
  have hp := bl_pos h
  have h1 := (lt_bl_div a (bl a - 1)).1 (by omega)
  have h2 : a / 2 ^ (bl a - 1) / 2 = 0 := by rw [left_step]; exact div_zero_bl (by omega)
  omega
theorem row_le (n m k : Nat) : n / 2 ^ k * (m * 2 ^ k) ≤ n * m := by
  have h : n / 2 ^ k * 2 ^ k ≤ n := Nat.div_mul_le_self n (2 ^ k)
  calc n / 2 ^ k * (m * 2 ^ k) = n / 2 ^ k * 2 ^ k * m := by rw [Nat.mul_comm m, Nat.mul_assoc]
    _ ≤ n * m := Nat.mul_le_mul_right m h

set_option maxRecDepth 100000 in
set_option maxHeartbeats 2000000 in
theorem fnDupRows_walk (a : Option Addr) (cap : Nat) (zs : List Int) (w : World) (h : InRow .u8 w a cap zs) :
    Calls Try.prog 8 #[.slice a zs.length cap] w fun e w' => e = .returned (.bool true) ∧ Below w.heap.size w w' := by
  have hfit := h.fits
  have hlim := h.lim
  unfold maxLen at hlim
  have H := Lib.hid h
  clear h
  by_cases hbig : 1048576 < zs.length
  · go_enter Try.func8, Try.ntmps8
    go_wp2_with fail
    go_ret
    exact ⟨rfl, Below.refl _ _⟩
  · go_enter Try.func8, Try.ntmps8
    go_wp2_with fail
    refine (drawDupRows_any _ _ _ _ H.out).mono ?_
    rintro e w1 ⟨x, y, rfl, x0, x1, y0, y1, b1⟩
    have B1 := Lib.hid b1
    clear b1
    cases hf : isFac x && isFac y
    · have E := Lib.hid (dupRows_no hf)
      clear hf
      go_wp2_with fail
      refine (implDupRows_any _ _ _ [] [] false E.out).mono ?_
      rintro e w2 ⟨a2, c2, a2', c2', l1, h1, l2, h2, rfl, o2, o2', _, _, _, b2⟩
      have B2 := Lib.hid (B1.out.trans (b2.mono B1.out.size))
      clear b2 o2 o2'
      go_wp2_with fail
      refine (specDupRows_any _ _ _ [] [] false E.out).mono ?_
      rintro e w3 ⟨a3, c3, a3', c3', l3, h3, l4, h4, rfl, o3, o3', _, _, _, b3⟩
      have B3 := Lib.hid (B2.out.trans (b3.mono B2.out.size))
      clear b3 o3 o3'
      go_wp2_with fail
      refine (sameInts_same _ _ _ _ _ [] Row.nil_ Row.nil_ (by simp)).mono ?_
      rintro e w4 ⟨rfl, b4⟩
      have B4 := Lib.hid (B3.out.trans (b4.mono B3.out.size))
      clear b4
      go_wp2_with fail
      refine (sameInts_same _ _ _ _ _ [] Row.nil_ Row.nil_ (by simp)).mono ?_
      rintro e w5 ⟨rfl, b5⟩
      have B5 := Lib.hid (B4.out.trans (b5.mono B4.out.size))
      clear b5
      go_wp2_with fail
      refine (sameInts_same _ _ _ _ _ [] Row.nil_ Row.nil_ (by simp)).mono ?_
      rintro e w6 ⟨rfl, b6⟩
      have B6 := Lib.hid (B5.out.trans (b6.mono B5.out.size))
      clear b6
      go_wp2_with fail
      refine (sameInts_same _ _ _ _ _ [] Row.nil_ Row.nil_ (by simp)).mono ?_
      rintro e w7 ⟨rfl, b7⟩
      have B7 := Lib.hid (B6.out.trans (b7.mono B6.out.size))
      clear b7
      go_wp2_with fail
      go_ret
      exact ⟨rfl, B7.out⟩
    · obtain ⟨n, m, rfl, rfl, n1, n2, m1, m2⟩ := facs hf
      have E := Lib.hid (dupRows_yes n1 n2 m1 m2)
      have HK := bl_pos n1
      have HK' := bl_le n2
      have LO := Lib.hid (last_one n1)
      have FL := Lib.hid (fun (k : Nat) (hk : k < bl n) => hl_nth (a := n) hk)
      have FR := Lib.hid (fun (k : Nat) (hk : k < bl n) => dl_nth (b := m) hk)
      have LL := Lib.hid (hl_len n (bl n))
      have LR := Lib.hid (dl_len m (bl n))
      have MB := mul_bd n2 m2
      have EM := Lib.hid (show (n : Int) * (m : Int) = ((n * m : Nat) : Int) by rw [Int.natCast_mul])
      have em1 : (n : Int) * (m : Int) ≤ 10000000000 := by rw [EM.out]; omega
      have em0 : 0 ≤ (n : Int) * (m : Int) := by rw [EM.out]; omega
      have PL := Lib.hid (fun k : Nat => row_le n m k)
      clear hf MB
      generalize hl n (bl n) = ls at *
      generalize dl m (bl n) = rs at *
      have lb : ls.length ≤ 17 := by rw [LL.out]; exact HK'
      have rb : rs.length ≤ 17 := by rw [LR.out]; exact HK'
      have lb1 : 1 ≤ ls.length := by rw [LL.out]; exact HK
      have rb1 : 1 ≤ rs.length := by rw [LR.out]; exact HK
      go_wp2_with fail
      refine (implDupRows_any _ _ _ ls rs true E.out).mono ?_
      rintro e w2 ⟨a2, c2, a2', c2', l1, h1, l2, h2, rfl, o2, o2', _, _, _, b2⟩
      have B2 := Lib.hid (B1.out.trans (b2.mono B1.out.size))
      have L2 := Lib.hid o2.row
      have R2 := Lib.hid o2'.row
      clear b2 o2 o2'
      go_wp2_with fail
      refine (specDupRows_any _ _ _ ls rs true E.out).mono ?_
      rintro e w3 ⟨a3, c3, a3', c3', l3, h3, l4, h4, rfl, o3, o3', _, _, _, b3⟩
      have B3 := Lib.hid (B2.out.trans (b3.mono B2.out.size))
      have L3 := Lib.hid (L2.out.below b3)
      have R3 := Lib.hid (R2.out.below b3)
      have U3 := Lib.hid o3.row
      have V3 := Lib.hid o3'.row
      clear b3 o3 o3'
      go_wp2_with fail
      refine (sameInts_same _ _ _ _ _ ls L3.out U3.out (by omega)).mono ?_
      rintro e w4 ⟨rfl, b4⟩
      have B4 := Lib.hid (B3.out.trans (b4.mono B3.out.size))
      have L4 := Lib.hid (L3.out.below b4)
      have R4 := Lib.hid (R3.out.below b4)
      have V4 := Lib.hid (V3.out.below b4)
      clear b4
      go_wp2_with fail
      refine (sameInts_same _ _ _ _ _ rs R4.out V4.out (by omega)).mono ?_
      rintro e w5 ⟨rfl, b5⟩
      have B5 := Lib.hid (B4.out.trans (b5.mono B4.out.size))
      have L5 := Lib.hid (L4.out.below b5)
      have R5 := Lib.hid (R4.out.below b5)
      clear b5
      have HLEN := Lib.hid (LR.out.trans LL.out.symm)
      obtain ⟨p1, q1, rfl, _, cl⟩ := L5.out (by omega)
      obtain ⟨p2, q2, rfl, _, cr⟩ := R5.out (by omega)
      have CL := Lib.hid (show ∀ k, k < ls.length → w5.cell? ⟨p1, q1 + k, none⟩ = some (.int .i64 ((n / 2 ^ k : Nat) : Int)) from fun k hk => by rw [← FL.out k (by rw [← LL.out]; exact hk)]; exact cl k hk)
      have CR := Lib.hid (show ∀ k, k < ls.length → w5.cell? ⟨p2, q2 + k, none⟩ = some (.int .i64 ((m * 2 ^ k : Nat) : Int)) from fun k hk => by rw [← FR.out k (by rw [← LL.out]; exact hk)]; exact cr k (by rw [HLEN.out]; exact hk))
      have LO2 := Lib.hid (show n / 2 ^ (ls.length - 1) = 1 by rw [LL.out]; exact LO.out)
      rw [HLEN.out]
      clear cl cr FL FR rb rb1 HK HK'
      generalize ls.length = K at *
      go_wp2_with fail
      go_loopw [12] (fun i wr => ∃ j s : Nat, j + 1 ≤ K ∧ i = .int .i64 ((j + 1 : Nat) : Int) ∧ wr = w5.drewN s) (fun i _ => K - (intOf i).toNat)
      case atStart => exact ⟨0, 0, lb1, rfl, rfl⟩
      case round =>
        obtain ⟨j, s, hj, rfl, rfl⟩ := hrel
        by_cases hlt : j + 1 < K
        · have c1 := CL.out j (by omega)
          have c2 := CL.out (j + 1) hlt
          have c3 := CR.out j (by omega)
          have c4 := CR.out (j + 1) hlt
          rw [← left_step] at c2
          rw [← right_step] at c4
          have pb1 : n / 2 ^ j ≤ 100000 := Nat.le_trans (Nat.div_le_self _ _) n2
          have pb2 : m * 2 ^ j ≤ 13107200000 := right_bd m2 (by omega)
          generalize n / 2 ^ j = P at *
          generalize m * 2 ^ j = R at *
          have u1 : IntKind.i64.wrap (((j + 1 : Nat) : Int) - 1) = (j : Int) := by rw [show ((j + 1 : Nat) : Int) - 1 = (j : Int) by omega]; exact IntWalk.i64_in _ (by omega)
          have e1 : (((P / 2 : Nat) : Int) != (P : Int).tdiv 2) = false := by
            rw [Int.tdiv_eq_ediv_of_nonneg (by omega)]
            simp
          have e2 : (((2 * R : Nat) : Int) != 2 * (R : Int)) = false := by simp
          go_wp2_with fail
          go_quiet (fail)
          go_wp2_with fail
          go_round
          case rel => exact ⟨j + 1, s + nq, by omega, by go_num, rfl⟩
          case measure => simp [intOf]; omega
        · go_wp2_with fail
          go_loopw [13] (fun i wr => ∃ j s : Nat, j ≤ K ∧ i = .int .i64 (j : Int) ∧ wr = w5.drewN s) (fun i _ => K - (intOf i).toNat)
          case atStart => exact ⟨0, s, Nat.zero_le _, rfl, rfl⟩
          case round =>
            obtain ⟨k, s, hk, rfl, rfl⟩ := hrel
            by_cases hlt2 : k < K
            · have c1 := CL.out k hlt2
              have c3 := CR.out k hlt2
              have pl := PL.out k
              generalize n / 2 ^ k = P at *
              generalize m * 2 ^ k = R at *
              have p0 : 0 ≤ (P : Int) * (R : Int) := Int.mul_nonneg (by omega) (by omega)
              have p1' : (P : Int) * (R : Int) ≤ (n : Int) * (m : Int) := by rw [EM.out, ← Int.natCast_mul]; omega
              clear pl
              go_wp2_with fail
              go_quiet (fail)
              go_wp2_with fail
              go_round
              case rel => exact ⟨k + 1, s + nq, by omega, by go_num, rfl⟩
              case measure => simp [intOf]; omega
            · have c0 := CL.out 0 (by omega)
              have d0 := CR.out 0 (by omega)
              rw [Nat.add_zero, Nat.pow_zero, Nat.div_one] at c0
              rw [Nat.add_zero, Nat.pow_zero, Nat.mul_one] at d0
              have cz := CL.out (K - 1) (by omega)
              rw [LO2.out] at cz
              obtain ⟨z, hz⟩ : ∃ z, K = z + 1 := ⟨K - 1, by omega⟩
              subst hz
              rw [Nat.add_sub_cancel] at cz
              go_wp2_with fail
              go_ret
              exact ⟨rfl, below_drewN B5.out s⟩
end Go.Proofs.Ytlnfajpjkhhplaa
