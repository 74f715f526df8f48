
/-
  The walks of the laws over drawn factors: duplation multiplies; duplation divides: each returns true for every code.
-/
import Derived.Test.YtlnfajpjkhhplaaDrawD
import Derived.Test.YtlnfajpjkhhplaaDupL
namespace Go.Proofs.Ytlnfajpjkhhplaa
open Go.RowKit

theorem bitsOf_any (w : World) (n : Nat) (hn : n ≤ 1000000) :
    Calls Try.prog 29 #[.int .i64 (n : Int)] w fun e w' => e = .returned (.int .i64 (popc n : Nat)) ∧ w = w' := by
  have hp := popc_le n
  go_enter Try.func29, Try.ntmps29
  go_wp2_with fail
  go_loop [0, 3] (fun p q => ∃ m s : Nat, m ≤ 1000000 ∧ p = .int .i64 (m : Int) ∧ q = .int .i64 (s : Int) ∧ s + popc m = popc n) (fun p _ => (intOf p).toNat)
  case atStart => exact ⟨n, 0, hn, rfl, rfl, by simp⟩
  case round =>
    obtain ⟨m, s, hm, rfl, rfl, hs⟩ := hrel
    by_cases h0 : m = 0
    · subst h0
      rw [popc_zero, Nat.add_zero] at hs
      have HS := Lib.hid hs
      clear hs
      go_wp2_with fail
      go_ret
      exact ⟨by rw [← HS.out]; rfl, rfl⟩
    · have e : popc m = m % 2 + popc (m / 2) := by rw [popc, if_neg h0]
      have HS := Lib.hid (show s + m % 2 + popc (m / 2) = popc n by omega)
      have sb : s ≤ 1000000 := by omega
      clear hs e
      generalize popc n = P at *
      go_wp2_with fail
      go_round
      case rel => exact ⟨m / 2, s + m % 2, by omega, by go_num, by go_num, HS.out⟩
      case measure => (simp [intOf]) <;> omega

set_option maxRecDepth 100000 in
set_option maxHeartbeats 1000000 in
theorem fnDupTimes_walk (a : Option Addr) (cap : Nat) (zs : List Int) (w : World) (h : InRow .u8 w a cap zs) :
    Calls Try.prog 10 #[.slice a zs.length cap] w fun e w' => e = .returned (.bool true) ∧ Below w.heap.size w w' := by
  have hfit := h.fits
  have hlim := h.lim
  unfold maxLen at hlim
  have H := Lib.hid h
  clear h
  by_cases hl : 1048576 < zs.length
  · go_enter Try.func10, Try.ntmps10
    go_wp2_with fail
    go_ret
    exact ⟨rfl, Below.refl _ _⟩
  · go_enter Try.func10, Try.ntmps10
    go_wp2_with fail
    refine (drawDupTimes_any _ _ _ _ H.out).mono ?_
    rintro e w1 ⟨x, y, rfl, x0, x1, y0, y1, b1⟩
    have B1 := Lib.hid b1
    clear b1
    cases hf : isFac x && isFac y
    · have E := Lib.hid (dupTimes_no hf)
      clear hf
      go_wp2_with fail
      refine (implDupTimes_any _ _ _).mono ?_
      rintro e w2 ⟨rfl, b2⟩
      rw [E.out]
      have B2 := Lib.hid (B1.out.trans (b2.mono B1.out.size))
      clear b2
      go_wp2_with fail
      refine (specDupTimes_any _ _ _).mono ?_
      rintro e w3 ⟨rfl, b3⟩
      rw [E.out]
      have B3 := Lib.hid (B2.out.trans (b3.mono B2.out.size))
      clear b3
      go_wp2_with fail
      go_ret
      exact ⟨rfl, B3.out⟩
    · obtain ⟨n, m, rfl, rfl, n1, n2, m1, m2⟩ := facs hf
      have E := Lib.hid (dupTimes_yes n1 n2 m1 m2)
      have E' := Lib.hid ((dupTimes_yes m1 m2 n1 n2).trans (by rw [Nat.mul_comm] : ((m * n : Nat) : Int) = ((n * m : Nat) : Int)))
      have K := Lib.hid (dupKept_yes n1 n2 m1 m2)
      have KL := Lib.hid (kept_len (bl n) n (bl_lt n))
      have MB := mul_bd n2 m2
      have EM := Lib.hid (show (n : Int) * (m : Int) = ((n * m : Nat) : Int) by rw [Int.natCast_mul])
      have em1 : (n : Int) * (m : Int) ≤ 10000000000 := by rw [EM.out]; omega
      have em0 : 0 ≤ (n : Int) * (m : Int) := by rw [EM.out]; omega
      have pb := popc_le n
      clear hf
      go_wp2_with fail
      refine (implDupTimes_any _ _ _).mono ?_
      rintro e w2 ⟨rfl, b2⟩
      rw [E.out]
      have B2 := Lib.hid (B1.out.trans (b2.mono B1.out.size))
      clear b2
      go_wp2_with fail
      refine (specDupTimes_any _ _ _).mono ?_
      rintro e w3 ⟨rfl, b3⟩
      rw [E.out]
      have B3 := Lib.hid (B2.out.trans (b3.mono B2.out.size))
      clear b3
      have e1 : (((n * m : Nat) : Int) == (n : Int) * (m : Int)) = true := by rw [EM.out]; simp
      go_wp2_with fail
      refine (implDupTimes_any _ _ _).mono ?_
      rintro e w4 ⟨rfl, b4⟩
      rw [E'.out]
      have B4 := Lib.hid (B3.out.trans (b4.mono B3.out.size))
      clear b4 
      go_wp2_with fail
      refine (implDupKept_any _ _ _ _ K.out).mono ?_
      rintro e w5 ⟨a5, c5, rfl, o5, b5⟩
      rw [KL.out]
      have B5 := Lib.hid (B4.out.trans (b5.mono B4.out.size))
      clear b5 o5
      go_wp2_with fail
      refine (bitsOf_any _ n (by omega)).mono ?_
      rintro e w' ⟨rfl, rfl⟩
      go_wp2_with fail
      go_ret
      exact ⟨rfl, B5.out⟩

set_option maxRecDepth 100000 in
set_option maxHeartbeats 1000000 in
theorem fnDupDivide_walk (a : Option Addr) (cap : Nat) (zs : List Int) (w : World) (h : InRow .u8 w a cap zs) :
    Calls Try.prog 11 #[.slice a zs.length cap] w fun e w' => e = .returned (.bool true) ∧ Below w.heap.size w w' := by
  have hfit := h.fits
  have hlim := h.lim
  unfold maxLen at hlim
  have H := Lib.hid h
  clear h
  by_cases hl : 1048576 < zs.length
  · go_enter Try.func11, Try.ntmps11
    go_wp2_with fail
    go_ret
    exact ⟨rfl, Below.refl _ _⟩
  · go_enter Try.func11, Try.ntmps11
    go_wp2_with fail
    refine (drawDupDivide_any _ _ _ _ H.out).mono ?_
    rintro e w1 ⟨x, y, rfl, x0, x1, y0, y1, b1⟩
    have B1 := Lib.hid b1
    clear b1
    cases hf : isFac x && isFac y
    · have E := Lib.hid (dupDivide_no hf)
      clear hf
      go_wp2_with fail
      refine (implDupDivide_any _ _ _).mono ?_
      rintro e w2 ⟨rfl, b2⟩
      rw [E.out]
      unfold tri
      have B2 := Lib.hid (B1.out.trans (b2.mono B1.out.size))
      clear b2
      go_wp2_with fail
      refine (specDupDivide_any _ _ _).mono ?_
      rintro e w' ⟨rfl, rfl⟩
      rw [E.out]
      unfold tri
      go_wp2_with fail
      go_ret
      exact ⟨rfl, B2.out⟩
    · obtain ⟨n, m, rfl, rfl, n1, n2, m1, m2⟩ := facs hf
      have E := Lib.hid (dupDivide_yes n1 n2 m1 m2)
      have EB := Lib.hid (dupBits_yes n1 n2 m1 m2)
      have dm := Nat.div_add_mod n m
      have ml := Nat.mod_lt n (show m > 0 by omega)
      have dl' := Nat.div_le_self n m
      have DT := Lib.hid (fun h1 : 1 ≤ n / m => dupTimes_yes h1 (show n / m ≤ 100000 by omega) m1 m2)
      have pb := popc_le (n / m)
      generalize n / m = Q at *
      generalize n % m = R at *
      have EM := Lib.hid (show (Q : Int) * (m : Int) = ((m * Q : Nat) : Int) by rw [Int.natCast_mul, Int.mul_comm])
      have em1 : (Q : Int) * (m : Int) ≤ 100000 := by rw [EM.out]; omega
      have em0 : 0 ≤ (Q : Int) * (m : Int) := by rw [EM.out]; omega
      have e1 : ((Q : Int) * (m : Int) + (R : Int) == (n : Int)) = true := by rw [beq_iff_eq, EM.out]; omega
      have SUB := Lib.hid (show ((Q * m : Nat) : Int) = (n : Int) - (R : Int) by rw [Nat.mul_comm]; omega)
      have DM := Lib.hid dm
      clear hf dm
      go_wp2_with fail
      refine (implDupDivide_any _ _ _).mono ?_
      rintro e w2 ⟨rfl, b2⟩
      rw [E.out]
      unfold tri
      have B2 := Lib.hid (B1.out.trans (b2.mono B1.out.size))
      clear b2
      go_wp2_with fail
      refine (specDupDivide_any _ _ _).mono ?_
      rintro e w' ⟨rfl, rfl⟩
      rw [E.out]
      unfold tri
      go_wp2_with fail
      refine (implDupBits_any _ _ _).mono ?_
      rintro e w3 ⟨rfl, b3⟩
      rw [EB.out]
      have B3 := Lib.hid (B2.out.trans (b3.mono B2.out.size))
      clear b3
      go_wp2_with fail
      refine (bitsOf_any _ Q (by omega)).mono ?_
      rintro e w' ⟨rfl, rfl⟩
      by_cases hQ : Q = 0
      · have eq0 : ((Q : Int) == 0) = true := by rw [beq_iff_eq]; omega
        clear hQ
        go_wp2_with fail
        go_ret
        exact ⟨rfl, B3.out⟩
      · have eq0 : ((Q : Int) == 0) = false := beq_eq_false_iff_ne.2 (by omega)
        go_wp2_with fail
        refine (implDupTimes_any _ _ _).mono ?_
        rintro e w4 ⟨rfl, b4⟩
        rw [DT.out (by omega), SUB.out]
        have B4 := Lib.hid (B3.out.trans (b4.mono B3.out.size))
        clear b4
        go_wp2_with fail
        go_ret
        exact ⟨rfl, B4.out⟩
end Go.Proofs.Ytlnfajpjkhhplaa
