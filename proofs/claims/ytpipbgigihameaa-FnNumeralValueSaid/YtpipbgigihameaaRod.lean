
/-
  Contracts of the two functions that multiply a numeral by a digit with rods. Condition: lists of at most 2^20 numbers.
-/
import Derived.Test.YtpipbgigihameaaNum2
namespace Go.Proofs.Ytpipbgigihameaa
open Go.RowKit

def rodTimes (zs : List Int) (d : Int) : Int := if isNum zs && inB d 0 9 then val zs * d else -1
theorem rodTimes_yes {zs : List Int} {d : Int} (h : isNum zs = true) (k : inB d 0 9 = true) : rodTimes zs d = val zs * d := by simp [rodTimes, h, k]
theorem rodTimes_no1 {zs : List Int} {d : Int} (h : isNum zs = false) : rodTimes zs d = -1 := by simp [rodTimes, h]
theorem rodTimes_no2 {zs : List Int} {d : Int} (h : inB d 0 9 = false) : rodTimes zs d = -1 := by simp [rodTimes, h]
theorem rodCell_of {a b : Int} (h : inB a 0 9 = true) (k : inB b 0 9 = true) : rodCell a b = (a * b / 10, a * b % 10, true) := by simp [rodCell, h, k]
theorem rod_step {v x d V : Int} (hV : v * d = V) : (10 * v + x) * d = 10 * V + 10 * (x * d / 10) + x * d % 10 := by
  rw [Int.add_mul, Int.mul_assoc, hV]
  omega
theorem rod_bd {v d : Int} (h0 : 0 ≤ v) (h1 : v ≤ 999999) (d0 : 0 ≤ d) (d9 : d ≤ 9) : 0 ≤ v * d ∧ v * d ≤ 8999991 := by
  refine ⟨Int.mul_nonneg h0 d0, ?_⟩
  have h2 : v * d ≤ 999999 * d := Int.mul_le_mul_of_nonneg_right h1 d0
  omega

theorem specRodTimes_any (w : World) (a : Option Addr) (cap : Nat) (zs : List Int) (h : Row .i64 w a zs) (hl : zs.length ≤ 2000000) (d : Int) :
    Calls Try.prog 21 #[.slice a zs.length cap, .int .i64 d] w fun e w' => e = .returned (.int .i64 (rodTimes zs d)) ∧ w = w' := by
  have H := Lib.hid h
  clear h
  cases hn : isNum zs
  · have HN := Lib.hid hn
    clear hn
    go_enter Try.func21, Try.ntmps21
    go_wp2_with fail
    refine (specNumeralValid_any _ _ _ _ H.out hl).mono ?_
    rintro e w' ⟨rfl, rfl⟩
    rw [HN.out]
    go_wp2_with fail
    go_ret
    exact ⟨by rw [rodTimes_no1 HN.out]; rfl, rfl⟩
  · obtain ⟨hd, h1, h6⟩ := isNum_parts hn
    have HN := Lib.hid hn
    have HD := Lib.hid hd
    clear hn hd
    cases hx : inB d 0 9
    · have HX := Lib.hid hx
      clear hx
      go_enter Try.func21, Try.ntmps21
      go_wp2_with fail
      refine (specNumeralValid_any _ _ _ _ H.out hl).mono ?_
      rintro e w' ⟨rfl, rfl⟩
      rw [HN.out]
      go_wp2_with fail
      refine (l3Digit_any _ _).mono ?_
      rintro e w' ⟨rfl, rfl⟩
      rw [HX.out]
      go_wp2_with fail
      go_ret
      exact ⟨by rw [rodTimes_no2 HX.out]; rfl, rfl⟩
    · obtain ⟨d0, d9⟩ := inB_true hx
      have HX := Lib.hid hx
      clear hx
      go_enter Try.func21, Try.ntmps21
      go_wp2_with fail
      refine (specNumeralValid_any _ _ _ _ H.out hl).mono ?_
      rintro e w' ⟨rfl, rfl⟩
      rw [HN.out]
      go_wp2_with fail
      refine (l3Digit_any _ _).mono ?_
      rintro e w' ⟨rfl, rfl⟩
      rw [HX.out]
      go_wp2_with fail
      go_loop [5, 6] (fun v i => ∃ k : Nat, ∃ V : Int, k ≤ zs.length ∧ i = .int .i64 k ∧ v = .int .i64 V ∧ val (zs.take k) * d = V) (fun _ i => zs.length - (intOf i).toNat)
      case atStart => exact ⟨0, 0, Nat.zero_le _, rfl, rfl, by simp [val]⟩
      case round =>
        obtain ⟨k, V, hk, rfl, rfl, hV⟩ := hrel
        have hv := val_take_bd HD.out h6 k
        have hb := rod_bd hv.1 hv.2 d0 d9
        rw [hV] at hb
        have HV := Lib.hid hV
        clear hV
        by_cases hlt : k < zs.length
        · have hx := digs_nth HD.out hlt
          have hxi := Lib.hid (inB_mk hx.1 hx.2)
          have hp := mul_digits hx.1 hx.2 d0 d9
          have e := Lib.hid (show val (zs.take (k + 1)) * d = 10 * V + 10 * (nth zs k * d / 10) + nth zs k * d % 10 by rw [val_take_succ hlt]; exact rod_step HV.out)
          obtain ⟨b, off, rfl, _, hc⟩ := H.out.at_ hlt
          go_wp2_with fail
          refine (specRodCell_any _ _ _).mono ?_
          rintro e w' ⟨rfl, rfl⟩
          rw [rodCell_of hxi.out HX.out]
          unfold tri
          go_wp2_with fail
          go_round
          case rel => exact ⟨k + 1, _, by omega, by go_num, rfl, e.out⟩
          case measure => simp [intOf]; omega
        · have e := Lib.hid (show val zs * d = V by rw [← HV.out, List.take_of_length_le (by omega)])
          go_wp2_with fail
          go_ret
          exact ⟨by rw [rodTimes_yes HN.out HX.out, e.out]; rfl, rfl⟩

theorem implRodTimes_any (w : World) (a : Option Addr) (cap : Nat) (zs : List Int) (h : Row .i64 w a zs) (hl : zs.length ≤ 2000000) (d : Int) :
    Calls Try.prog 22 #[.slice a zs.length cap, .int .i64 d] w fun e w' => e = .returned (.int .i64 (rodTimes zs d)) ∧ Below w.heap.size w w' := by
  have H := Lib.hid h
  clear h
  cases hn : isNum zs
  · have HN := Lib.hid hn
    clear hn
    go_enter Try.func22, Try.ntmps22
    go_wp2_with fail
    refine (digitsOf_any _ _ _ _ H.out hl).mono ?_
    rintro e w1 ⟨rfl, hb⟩
    have HB := Lib.hid hb
    clear hb
    rw [HN.out]
    go_wp2_with fail
    go_ret
    exact ⟨by rw [rodTimes_no1 HN.out]; rfl, HB.out⟩
  · obtain ⟨hd, h1, h6⟩ := isNum_parts hn
    have HN := Lib.hid hn
    have HD := Lib.hid hd
    have HT := Lib.hid (show numText zs = dtext zs by rw [numText, hn]; rfl)
    clear hn hd
    cases hx : inB d 0 9
    · have HX := Lib.hid hx
      clear hx
      go_enter Try.func22, Try.ntmps22
      go_wp2_with fail
      refine (digitsOf_any _ _ _ _ H.out hl).mono ?_
      rintro e w1 ⟨rfl, hb⟩
      have HB := Lib.hid hb
      clear hb
      rw [HN.out]
      go_wp2_with fail
      refine (isDigit_any _ _).mono ?_
      rintro e w' ⟨rfl, rfl⟩
      rw [HX.out]
      go_wp2_with fail
      go_ret
      exact ⟨by rw [rodTimes_no2 HX.out]; rfl, HB.out⟩
    · obtain ⟨d0, d9⟩ := inB_true hx
      have HX := Lib.hid hx
      have hv := val_bd6 HD.out h6
      have hb := rod_bd hv.1 hv.2 d0 d9
      clear hx
      go_enter Try.func22, Try.ntmps22
      go_wp2_with fail
      refine (digitsOf_any _ _ _ _ H.out hl).mono ?_
      rintro e w1 ⟨rfl, hb1⟩
      have HB := Lib.hid hb1
      clear hb1
      rw [HN.out]
      go_wp2_with fail
      refine (isDigit_any _ _).mono ?_
      rintro e w' ⟨rfl, rfl⟩
      rw [HX.out]
      go_wp2_with fail
      refine (digitsValue_any zs HD.out h6 _ HT.out _).mono ?_
      rintro e w' ⟨rfl, rfl⟩
      go_wp2_with fail
      go_ret
      exact ⟨by rw [rodTimes_yes HN.out HX.out]; rfl, HB.out⟩
end Go.Proofs.Ytpipbgigihameaa
