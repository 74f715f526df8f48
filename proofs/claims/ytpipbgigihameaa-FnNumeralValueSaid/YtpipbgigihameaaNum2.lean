
/-
  Contracts of the functions that read the value of a numeral, and of those that multiply it by a digit. Condition: lists of at most 2^20 numbers.
-/
import Derived.Test.YtpipbgigihameaaNum
namespace Go.Proofs.Ytpipbgigihameaa
open Go.RowKit

theorem implNumeralValid_any (w : World) (a : Option Addr) (cap : Nat) (zs : List Int) (h : Row .i64 w a zs) (hm : zs.length ≤ 2000000) :
    Calls Try.prog 13 #[.slice a zs.length cap] w fun e w' => e = .returned (.bool (isNum zs)) ∧ Below w.heap.size w w' := by
  have H := Lib.hid h
  clear h
  go_enter Try.func13, Try.ntmps13
  go_wp2_with fail
  refine (digitsOf_any _ _ _ _ H.out hm).mono ?_
  rintro e w1 ⟨rfl, hb⟩
  have HB := Lib.hid hb
  clear hb
  go_wp2_with fail
  go_ret
  exact ⟨rfl, HB.out⟩

theorem digitAt_byte (s : ByteArray) (i : Nat) (w : World) (hi : i < s.size) (hs : s.size ≤ 2000000) (h48 : 48 ≤ ((s[i]'hi).toNat : Int)) (h57 : ((s[i]'hi).toNat : Int) ≤ 57) :
    Calls Try.prog 41 #[.string s, .int .i64 (i : Int)] w fun e w' => e = .returned (.int .i64 (((s[i]'hi).toNat : Int) - 48)) ∧ w = w' := by
  go_enter Try.func41, Try.ntmps41
  go_wp2_with fail
  go_ret
  exact ⟨rfl, rfl⟩

theorem digitAt_num (zs : List Int) (hd : digs zs = true) (hl : zs.length ≤ 2000000) (s : ByteArray) (hs : s = dtext zs) (i : Nat) (hi : i < zs.length) (w : World) :
    Calls Try.prog 41 #[.string s, .int .i64 (i : Int)] w fun e w' => e = .returned (.int .i64 (nth zs i)) ∧ w = w' := by
  have hsz : s.size = zs.length := by rw [hs, dtext_size]
  have hi' : i < s.size := by omega
  have he := dtext_at hd hs hi hi'
  have hn := digs_nth hd hi
  refine (digitAt_byte s i w hi' (by omega) (by omega) (by omega)).mono ?_
  rintro e w' ⟨rfl, rfl⟩
  exact ⟨by rw [he]; congr 2; omega, rfl⟩

theorem digitsValue_any (zs : List Int) (hd : digs zs = true) (hl : zs.length ≤ 6) (s : ByteArray) (hs : s = dtext zs) (w : World) :
    Calls Try.prog 34 #[.string s] w fun e w' => e = .returned (.int .i64 (val zs)) ∧ w = w' := by
  have hsz : s.size = zs.length := by rw [hs, dtext_size]
  have hsz1 : s.size ≤ zs.length := by omega
  have hsz2 : zs.length ≤ s.size := by omega
  have HD := Lib.hid hd
  have HS := Lib.hid hs
  clear hs hd hsz
  go_enter Try.func34, Try.ntmps34
  go_wp2_with fail
  go_loop [3, 4] (fun v i => ∃ k : Nat, k ≤ zs.length ∧ i = .int .i64 k ∧ v = .int .i64 (val (zs.take k))) (fun _ i => zs.length - (intOf i).toNat)
  case atStart => exact ⟨0, Nat.zero_le _, rfl, rfl⟩
  case round =>
    obtain ⟨k, hk, rfl, rfl⟩ := hrel
    have hv := val_take_bd HD.out hl k
    by_cases hlt : k < s.size
    · have hv2 := val_take_bd HD.out hl (k + 1)
      have hn := digs_nth HD.out (i := k) (by omega)
      have e := Lib.hid (val_take_succ (zs := zs) (k := k) (by omega))
      go_wp2_with fail
      refine (digitAt_num zs HD.out (by omega) s HS.out k (by omega) _).mono ?_
      rintro e w' ⟨rfl, rfl⟩
      go_wp2_with fail
      go_round
      case rel => exact ⟨k + 1, by omega, by go_num, by rw [e.out]; go_num⟩
      case measure => simp [intOf]; omega
    · have e := Lib.hid (show val (zs.take k) = val zs by rw [List.take_of_length_le (by omega)])
      go_wp2_with fail
      go_ret
      exact ⟨by rw [← e.out]; rfl, rfl⟩

theorem l3Value_any (w : World) (a : Option Addr) (cap : Nat) (zs : List Int) (h : Row .i64 w a zs) (hl : zs.length ≤ 12) (hd : digs zs = true) :
    Calls Try.prog 33 #[.slice a zs.length cap] w fun e w' => e = .returned (.int .i64 (val zs)) ∧ w = w' := by
  have H := Lib.hid h
  have HD := Lib.hid hd
  clear h hd
  go_enter Try.func33, Try.ntmps33
  go_wp2_with fail
  go_loop [3, 4] (fun v i => ∃ k : Nat, k ≤ zs.length ∧ i = .int .i64 k ∧ v = .int .i64 (val (zs.take k))) (fun _ i => zs.length - (intOf i).toNat)
  case atStart => exact ⟨0, Nat.zero_le _, rfl, rfl⟩
  case round =>
    obtain ⟨k, hk, rfl, rfl⟩ := hrel
    have hv := val_take_bd12 HD.out hl k
    by_cases hlt : k < zs.length
    · have hn := digs_nth HD.out hlt
      obtain ⟨b, off, rfl, _, hc⟩ := H.out.at_ hlt
      have e := Lib.hid (val_take_succ (zs := zs) (k := k) hlt)
      go_wp2_with fail
      go_round
      case rel => exact ⟨k + 1, by omega, by go_num, by rw [e.out]⟩
      case measure => simp [intOf]; omega
    · have e := Lib.hid (show val (zs.take k) = val zs by rw [List.take_of_length_le (by omega)])
      go_wp2_with fail
      go_ret
      exact ⟨by rw [← e.out]; rfl, rfl⟩

theorem specNumeralValue_any (w : World) (a : Option Addr) (cap : Nat) (zs : List Int) (h : Row .i64 w a zs) (hl : zs.length ≤ 2000000) :
    Calls Try.prog 19 #[.slice a zs.length cap] w fun e w' => e = .returned (.int .i64 (numVal zs)) ∧ w = w' := by
  have H := Lib.hid h
  clear h
  cases hn : isNum zs
  · have HN := Lib.hid hn
    clear hn
    go_enter Try.func19, Try.ntmps19
    go_wp2_with fail
    refine (specNumeralValid_any _ _ _ _ H.out hl).mono ?_
    rintro e w' ⟨rfl, rfl⟩
    rw [HN.out]
    go_wp2_with fail
    go_ret
    exact ⟨by rw [numVal_no HN.out]; rfl, rfl⟩
  · obtain ⟨hd, h1, h6⟩ := isNum_parts hn
    have HN := Lib.hid hn
    have HD := Lib.hid hd
    clear hn hd
    go_enter Try.func19, Try.ntmps19
    go_wp2_with fail
    refine (specNumeralValid_any _ _ _ _ H.out hl).mono ?_
    rintro e w' ⟨rfl, rfl⟩
    rw [HN.out]
    go_wp2_with fail
    refine (l3Value_any _ _ _ _ H.out (by omega) HD.out).mono ?_
    rintro e w' ⟨rfl, rfl⟩
    go_wp2_with fail
    go_ret
    exact ⟨by rw [numVal_yes HN.out]; rfl, rfl⟩

theorem implNumeralValue_any (w : World) (a : Option Addr) (cap : Nat) (zs : List Int) (h : Row .i64 w a zs) (hm : zs.length ≤ 2000000) :
    Calls Try.prog 20 #[.slice a zs.length cap] w fun e w' => e = .returned (.int .i64 (numVal zs)) ∧ Below w.heap.size w w' := by
  have H := Lib.hid h
  clear h
  cases hn : isNum zs
  · have HN := Lib.hid hn
    clear hn
    go_enter Try.func20, Try.ntmps20
    go_wp2_with fail
    refine (digitsOf_any _ _ _ _ H.out hm).mono ?_
    rintro e w1 ⟨rfl, hb⟩
    have HB := Lib.hid hb
    clear hb
    rw [HN.out]
    go_wp2_with fail
    go_ret
    exact ⟨by rw [numVal_no HN.out]; rfl, HB.out⟩
  · obtain ⟨hd, h1, h6⟩ := isNum_parts hn
    have HN := Lib.hid hn
    have HD := Lib.hid hd
    have HT := Lib.hid (show numText zs = dtext zs by rw [numText, hn]; rfl)
    clear hn hd
    go_enter Try.func20, Try.ntmps20
    go_wp2_with fail
    refine (digitsOf_any _ _ _ _ H.out hm).mono ?_
    rintro e w1 ⟨rfl, hb⟩
    have HB := Lib.hid hb
    clear hb
    rw [HN.out]
    go_wp2_with fail
    refine (digitsValue_any zs HD.out h6 _ HT.out _).mono ?_
    rintro e w' ⟨rfl, rfl⟩
    go_wp2_with fail
    go_ret
    exact ⟨by rw [numVal_yes HN.out]; rfl, HB.out⟩
end Go.Proofs.Ytpipbgigihameaa
