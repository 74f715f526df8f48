
/-
  Contracts of the functions on numerals: whether a list is a numeral, its text, the digits of a text, its value. Condition: lists of at most 2^20 numbers; where digits are asked for, the text is a numeral's.
-/
import Derived.Test.YthgecmdmoghmpaaDig
import Derived.Test.YthgecmdmoghmpaaNumP
import Derived.Test.YthgecmdmoghmpaaCommon
namespace Go.Proofs.Ythgecmdmoghmpaa
open Go.RowKit

theorem specNumeralValid_any (w : World) (a : Option Addr) (cap : Nat) (zs : List Int) (h : Row .i64 w a zs) (hl : zs.length ≤ 2000000) :
    Calls Try.prog 38 #[.slice a zs.length cap] w fun e w' => e = .returned (.bool (isNum zs)) ∧ w = w' := by
  have H := Lib.hid h
  clear h
  go_enter Try.func38, Try.ntmps38
  go_wp2_with fail
  go_loop [3] (fun i => ∃ k : Nat, k ≤ zs.length ∧ i = .int .i64 k ∧ digs (zs.take k) = true) (fun i => zs.length - (intOf i).toNat)
  case atStart => exact ⟨0, Nat.zero_le _, rfl, rfl⟩
  case round =>
    obtain ⟨k, hk, rfl, hd⟩ := hrel
    have HD := Lib.hid hd
    clear hd
    by_cases hlt : k < zs.length
    · obtain ⟨b, off, rfl, _, hc⟩ := H.out.at_ hlt
      cases hx : inB (nth zs k) 0 9
      · have HX := Lib.hid hx
        clear hx
        go_wp2_with fail
        refine (l3Digit_any _ _).mono ?_
        rintro e w' ⟨rfl, rfl⟩
        rw [HX.out]
        go_wp2_with fail
        go_ret
        exact ⟨by rw [isNum_not (digs_false_at hlt HX.out)]; rfl, rfl⟩
      · have HX := Lib.hid hx
        clear hx
        go_wp2_with fail
        refine (l3Digit_any _ _).mono ?_
        rintro e w' ⟨rfl, rfl⟩
        rw [HX.out]
        go_wp2_with fail
        go_round
        case rel => exact ⟨k + 1, by omega, by go_num, by rw [digs_take_succ hlt, HD.out, HX.out]; rfl⟩
        case measure => simp [intOf]; omega
    · go_wp2_with fail
      refine (l6In_any _ _ _ _).mono ?_
      rintro e w' ⟨rfl, rfl⟩
      go_wp2_with fail
      go_ret
      refine ⟨?_, rfl⟩
      have hd := HD.out
      rw [List.take_of_length_le (by omega)] at hd
      simp [isNum, hd]

theorem u8_info : (Try.prog.info? 5).map (fun i => (i.zero, i.size, i.bytes)) = some (some (.int .u8 0), 1, 1) := by kernel_rfl
def UV (zs : List Int) : List Value := zs.map (Value.int .u8)
theorem UV_one (zs : List Int) : ∀ u ∈ UV zs, u.oneCell' = true := ints_oneCell .u8 zs

theorem digitsOf_short (w : World) (a : Option Addr) (cap : Nat) (zs : List Int) (hl : zs.length < 1) :
    Calls Try.prog 26 #[.slice a zs.length cap] w fun e w' => e = .returned (.tuple #[.string (numText zs), .bool (isNum zs)]) ∧ Below w.heap.size w w' := by
  have e1 := isNum_short hl
  have E := Lib.hid e1
  clear e1
  go_enter Try.func26, Try.ntmps26
  go_wp2_with fail
  go_ret2
  exact ⟨by rw [numText, E.out]; rfl, Below.refl _ _⟩
theorem digitsOf_long (w : World) (a : Option Addr) (cap : Nat) (zs : List Int) (hl : 6 < zs.length) (hm : zs.length ≤ 2000000) :
    Calls Try.prog 26 #[.slice a zs.length cap] w fun e w' => e = .returned (.tuple #[.string (numText zs), .bool (isNum zs)]) ∧ Below w.heap.size w w' := by
  have e1 := isNum_long hl
  have E := Lib.hid e1
  clear e1
  go_enter Try.func26, Try.ntmps26
  go_wp2_with fail
  go_ret2
  exact ⟨by rw [numText, E.out]; rfl, Below.refl _ _⟩

theorem map_snoc (zs : List Int) (k : Nat) (hk : k < zs.length) : (zs.take k).map (48 + ·) ++ [48 + nth zs k] = (zs.take (k + 1)).map (48 + ·) := by rw [take_snoc zs k hk]; simp

theorem digitsOf_walk (w : World) (a : Option Addr) (cap : Nat) (zs : List Int) (h : Row .i64 w a zs) (h1 : 1 ≤ zs.length) (h6 : zs.length ≤ 6) :
    Calls Try.prog 26 #[.slice a zs.length cap] w fun e w' => e = .returned (.tuple #[.string (numText zs), .bool (isNum zs)]) ∧ Below w.heap.size w w' := by
  obtain ⟨i0, hi, hz0, hz1, hz2⟩ := info_parts u8_info
  have H := Lib.hid h
  clear h
  have hq : ((zs.length : Int) < 1) = False := by simp; omega
  go_enter Try.func26, Try.ntmps26
  go_wp2_with (refine wpList_make_own _ rfl _ _ 35 rfl w.heap.size 5 i0 (.int .u8 0) 1 Try.underlying35 hi hz0 hz1 .i64 .i64 _ 6 rfl rfl rfl (by rw [hz2]; omega) (by unfold maxLen; omega) (Nat.le_refl _) ?_; intro w1 hown hgrow)
  have hb : Below w.heap.size w w1 := (Below.refl _ _).grown hgrow (Nat.le_refl _) (fun k hk => by cases hk)
  have HB := Lib.hid hb
  have HO := Lib.hid hown
  clear hb hown hgrow hq
  go_loopw [4, 18] (fun v i wr => ∃ k : Nat, k ≤ zs.length ∧ i = .int .i64 k ∧ digs (zs.take k) = true ∧ wr.ownsRow w.heap.size 5 1 v k (UV ((zs.take k).map (48 + ·))) ∧ Below w.heap.size w wr) (fun _ i _ => zs.length - (intOf i).toNat)
  case atStart => exact ⟨0, Nat.zero_le _, rfl, rfl, HO.out, HB.out⟩
  case round =>
    obtain ⟨k, hk, rfl, hd, hown, hb⟩ := hrel
    have HD := Lib.hid hd
    clear hd
    by_cases hlt : k < zs.length
    · obtain ⟨b, off, rfl, _, hc⟩ := (H.out.below hb).at_ hlt
      have hs := hb.size
      cases hx : inB (nth zs k) 0 9
      · have HX := Lib.hid hx
        have HB := Lib.hid hb
        clear hx hown hb
        go_wp2_with fail
        refine (isDigit_any _ _).mono ?_
        rintro e w' ⟨rfl, rfl⟩
        rw [HX.out]
        go_wp2_with fail
        go_ret2
        have e1 := isNum_not (digs_false_at hlt HX.out)
        exact ⟨by rw [numText, e1]; rfl, HB.out⟩
      · obtain ⟨d0, d9⟩ := inB_true hx
        have HX := Lib.hid hx
        have HB := Lib.hid hb
        clear hx hb
        go_wp2_with fail
        refine (isDigit_any _ _).mono ?_
        rintro e w' ⟨rfl, rfl⟩
        rw [HX.out]
        go_wp2_with (at_builtin; refine wpList_append_own _ rfl _ _ 35 rfl w.heap.size 5 i0 (.int .u8 0) 1 1 Try.underlying35 hi hz0 hz1 hz2 rfl (by decide) _ _ _ rfl (hown.alloc _) ⟨wr.heap.size, 0, none⟩ 1 1 [.int .u8 (48 + nth zs k)] rfl rfl (news_one _ _ _) (news_one1 rfl) (by unfold maxLen; omega) (by omega) (by simp; omega) ?_; intro v' w2 hown2 hgrow2 _)
        have hb2 : Below w.heap.size w w2 := (HB.out.alloc HB.out.size _).grown hgrow2 (by simp; omega) (fun r hr => (hown.lt r hr).1)
        have HO2 := Lib.hid hown2
        have HB2 := Lib.hid hb2
        clear hown hown2 hb2 hgrow2
        go_wp2_with fail
        go_roundw
        case rel =>
          refine ⟨k + 1, by omega, by go_num, by rw [digs_take_succ hlt, HD.out, HX.out]; rfl, ?_, HB2.out⟩
          have e : UV ((zs.take k).map (48 + ·)) ++ [.int .u8 (48 + nth zs k)] = UV ((zs.take (k + 1)).map (48 + ·)) := by rw [← map_snoc zs k hlt]; simp [UV]
          rw [← e]
          exact HO2.out
        case measure => simp [intOf]; omega
    · obtain rfl : k = zs.length := by omega
      obtain ⟨g, cap', rfl, _, _⟩ := hown.form (by omega)
      have hcv := run_convert_bytes_arg (P := Try.prog) wr 35 5 Try.underlying35 Try.underlying5 g 0 zs.length cap' (zs.map (48 + ·)) (by simp) (fun i hi => by
        rw [Nat.zero_add, hown.cellAt i (by omega)]
        simp [UV, hi]) 9 Try.underlying9
      have HB := Lib.hid hb
      clear hown hb
      go_wp2_with fail
      go_ret2
      have hd := HD.out
      rw [List.take_of_length_le (by omega)] at hd
      have e1 := isNum_of hd h1 h6
      exact ⟨by rw [numText, e1]; rfl, HB.out⟩

theorem digitsOf_any (w : World) (a : Option Addr) (cap : Nat) (zs : List Int) (h : Row .i64 w a zs) (hm : zs.length ≤ 2000000) :
    Calls Try.prog 26 #[.slice a zs.length cap] w fun e w' => e = .returned (.tuple #[.string (numText zs), .bool (isNum zs)]) ∧ Below w.heap.size w w' := by
  by_cases h1 : zs.length < 1
  · exact digitsOf_short w a cap zs h1
  · by_cases h6 : 6 < zs.length
    · exact digitsOf_long w a cap zs h6 hm
    · exact digitsOf_walk w a cap zs h (by omega) (by omega)
end Go.Proofs.Ythgecmdmoghmpaa
