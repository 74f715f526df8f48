
/-
  Contracts of the functions that read the value of a numeral, and of those that multiply it by a digit. Condition: lists of at most 2^20 numbers.
-/
import Derived.Test.YthgecmdmoghmpaaNum
namespace Go.Proofs.Ythgecmdmoghmpaa
open Go.RowKit

theorem digitAt_byte (s : ByteArray) (i : Nat) (w : World) (hi : i < s.size) (hs : s.size ≤ 2000000) (h48 : 48 ≤ ((s[i]'hi).toNat : Int)) (h57 : ((s[i]'hi).toNat : Int) ≤ 57) :
    Calls Try.prog 42 #[.string s, .int .i64 (i : Int)] w fun e w' => e = .returned (.int .i64 (((s[i]'hi).toNat : Int) - 48)) ∧ w = w' := by
  go_enter Try.func42, Try.ntmps42
  go_wp2_with fail
  go_ret
  exact ⟨rfl, rfl⟩

theorem digitAt_num (zs : List Int) (hd : digs zs = true) (hl : zs.length ≤ 2000000) (s : ByteArray) (hs : s = dtext zs) (i : Nat) (hi : i < zs.length) (w : World) :
    Calls Try.prog 42 #[.string s, .int .i64 (i : Int)] w fun e w' => e = .returned (.int .i64 (nth zs i)) ∧ w = w' := by
  have hsz : s.size = zs.length := by rw [hs, dtext_size]
  have hi' : i < s.size := by omega
  have he := dtext_at hd hs hi hi'
  have hn := digs_nth hd hi
  refine (digitAt_byte s i w hi' (by omega) (by omega) (by omega)).mono ?_
  rintro e w' ⟨rfl, rfl⟩
  exact ⟨by rw [he]; congr 2; omega, rfl⟩

end Go.Proofs.Ythgecmdmoghmpaa
