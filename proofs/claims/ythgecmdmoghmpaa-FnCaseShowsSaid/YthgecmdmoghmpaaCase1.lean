
/-
  Contracts of the functions that ask whether a list is a case, and which digits its rods have. Condition: lists of at most 2^20 numbers.
-/
import Derived.Test.YthgecmdmoghmpaaRods
namespace Go.Proofs.Ythgecmdmoghmpaa
open Go.RowKit

theorem ret_b {a b : Bool} (h : a = b) : Ending.returned (.bool a) = .returned (.bool b) := by rw [h]
theorem rodsOk_yes {rs : List (List Int)} {k : Nat} (h : rodsOk rs = rodsOk (rs.drop k)) (hk : k < rs.length) (hr : rodOk (rod rs k) = true) : rodsOk rs = rodsOk (rs.drop (k + 1)) := by
  rw [h, rodsOk_drop hk, hr, Bool.true_and]
theorem rodsOk_no {rs : List (List Int)} {k : Nat} (h : rodsOk rs = rodsOk (rs.drop k)) (hk : k < rs.length) (hr : rodOk (rod rs k) = false) : rodsOk rs = false := by
  rw [h, rodsOk_drop hk, hr, Bool.false_and]
theorem rodOk_len {s : List Int} (h : s.length ≠ 4) : rodOk s = false := by
  have : decide ((s.length : Int) = 4) = false := decide_eq_false (by omega)
  rw [rodOk, this, Bool.false_and]
theorem rodOk_four {s : List Int} (h : s.length = 4) : rodOk s = dgs s := by
  have : decide ((s.length : Int) = 4) = true := decide_eq_true (by omega)
  rw [rodOk, this, Bool.true_and]
theorem dgs_yes {zs : List Int} {k : Nat} (h : dgs zs = dgs (zs.drop k)) (hk : k < zs.length) (hx : inB (nth zs k) 0 9 = true) : dgs zs = dgs (zs.drop (k + 1)) := by
  rw [h, dgs_drop hk, hx, Bool.true_and]
theorem dgs_no {zs : List Int} {k : Nat} (h : dgs zs = dgs (zs.drop k)) (hk : k < zs.length) (hx : inB (nth zs k) 0 9 = false) : dgs zs = false := by
  rw [h, dgs_drop hk, hx, Bool.false_and]

theorem specCaseValid_any (w : World) (a : Option Addr) (cap : Nat) (rs : List (List Int)) (h : Rods w a rs) (hs : RodsSmall rs) :
    Calls Try.prog 16 #[.slice a rs.length cap] w fun e w' => e = .returned (.bool (caseOk rs)) ∧ w = w' := by
  obtain ⟨hl, hsm⟩ := hs
  have H := Lib.hid h
  have HS := Lib.hid hsm
  clear h hsm
  go_enter Try.func16, Try.ntmps16
  go_wp2_with fail
  go_loop [3] (fun i => ∃ k : Nat, k ≤ rs.length ∧ i = .int .i64 k ∧ rodsOk rs = rodsOk (rs.drop k)) (fun i => rs.length - (intOf i).toNat)
  case atStart => exact ⟨0, Nat.zero_le _, rfl, rfl⟩
  case round =>
    obtain ⟨k, hk, rfl, hr⟩ := hrel
    have HR := Lib.hid hr
    clear hr
    by_cases hlt : k < rs.length
    · obtain ⟨b, off, a', c', rfl, _, hcell, _, _, hrow⟩ := H.out.at_ hlt
      have ROW := Lib.hid hrow
      have hsmall := HS.out k hlt
      clear hrow
      by_cases h4 : (rod rs k).length = 4
      · have H4 := Lib.hid h4
        have e4 : (((rod rs k).length : Int) != 4) = false := by simp [h4]
        have e4' : ((rod rs k).length != 4) = false := by simp [h4]
        have hge : 4 ≤ (rod rs k).length := by omega
        clear h4
        generalize hz : rod rs k = zs at *
        have HZ := Lib.hid hz
        clear hz
        go_wp2_with fail
        go_loop [4] (fun i => ∃ m : Nat, m ≤ 4 ∧ i = .int .i64 m ∧ dgs zs = dgs (zs.drop m)) (fun i => 4 - (intOf i).toNat)
        case atStart => exact ⟨0, Nat.zero_le _, rfl, rfl⟩
        case round =>
          obtain ⟨m, hm, rfl, hd⟩ := hrel
          have HD := Lib.hid hd
          clear hd
          by_cases hlt2 : m < 4
          · obtain ⟨b2, off2, rfl, _, hc2⟩ := ROW.out.at_ (i := m) (by omega)
            have hlz : (m : Int) < (zs.length : Int) := by omega
            cases hx : inB (nth zs m) 0 9
            · have HX := Lib.hid hx
              clear hx
              go_wp2_with fail
              refine (l3Digit_any _ _).mono ?_
              rintro e w' ⟨rfl, rfl⟩
              rw [HX.out]
              go_wp2_with fail
              go_ret
              exact ⟨ret_b (caseOk_bad (rodsOk_no HR.out hlt (by rw [HZ.out, rodOk_four H4.out]; exact dgs_no HD.out (by have := H4.out; omega) HX.out))).symm, rfl⟩
            · have HX := Lib.hid hx
              clear hx
              go_wp2_with fail
              refine (l3Digit_any _ _).mono ?_
              rintro e w' ⟨rfl, rfl⟩
              rw [HX.out]
              go_wp2_with fail
              go_round
              case rel => exact ⟨m + 1, by omega, by go_num, dgs_yes HD.out (by have := H4.out; omega) HX.out⟩
              case measure => simp [intOf]; omega
          · have hdt : dgs zs = true := by
              rw [HD.out, show m = zs.length by have := H4.out; omega, List.drop_length]
              rfl
            have HDT := Lib.hid hdt
            clear hdt
            go_wp2_with fail
            go_round
            case rel => exact ⟨k + 1, by omega, by go_num, rodsOk_yes HR.out hlt (by rw [HZ.out, rodOk_four H4.out]; exact HDT.out)⟩
            case measure => simp [intOf]; omega
      · have H4 := Lib.hid h4
        have e4 : (((rod rs k).length : Int) != 4) = true := by simp; omega
        have e4' : ((rod rs k).length != 4) = true := by simp [h4]
        clear h4
        go_wp2_with fail
        go_ret
        exact ⟨ret_b (caseOk_bad (rodsOk_no HR.out hlt (rodOk_len H4.out))).symm, rfl⟩
    · have e : rodsOk rs = true := by
        rw [HR.out, show k = rs.length by omega, List.drop_length]
        rfl
      have E := Lib.hid e
      clear e
      go_wp2_with fail
      go_ret
      exact ⟨ret_b (by rw [caseOk, E.out, Bool.true_and]), rfl⟩

theorem l3Has_any (w : World) (a : Option Addr) (cap : Nat) (zs : List Int) (d : Int) (h : Row .i64 w a zs) (hl : zs.length ≤ 1048576) :
    Calls Try.prog 32 #[.slice a zs.length cap, .int .i64 d] w fun e w' => e = .returned (.bool (hasB zs d)) ∧ w = w' := by
  have H := Lib.hid h
  clear h
  go_enter Try.func32, Try.ntmps32
  go_wp2_with fail
  go_loop [5] (fun i => ∃ k : Nat, k ≤ zs.length ∧ i = .int .i64 k ∧ hasB zs d = hasB (zs.drop k) d) (fun i => zs.length - (intOf i).toNat)
  case atStart => exact ⟨0, Nat.zero_le _, rfl, rfl⟩
  case round =>
    obtain ⟨k, hk, rfl, hr⟩ := hrel
    have HR := Lib.hid hr
    clear hr
    by_cases hlt : k < zs.length
    · obtain ⟨b, off, rfl, _, hc⟩ := H.out.at_ hlt
      have E := Lib.hid (hasB_drop (d := d) hlt)
      cases hx : nth zs k == d
      · have HX := Lib.hid hx
        go_wp2_with fail
        go_round
        case rel => exact ⟨k + 1, by omega, by go_num, by rw [HR.out, E.out, HX.out, Bool.false_or]⟩
        case measure => simp [intOf]; omega
      · have HX := Lib.hid hx
        go_wp2_with fail
        go_ret
        exact ⟨ret_b (by rw [HR.out, E.out, HX.out, Bool.true_or]), rfl⟩
    · have e : hasB zs d = false := by rw [HR.out, show k = zs.length by omega]; exact hasB_end
      have E := Lib.hid e
      clear e
      go_wp2_with fail
      go_ret
      exact ⟨ret_b E.out.symm, rfl⟩

theorem hasSide_any (w : World) (a : Option Addr) (cap : Nat) (zs : List Int) (d : Int) (h : Row .i64 w a zs) (hl : zs.length ≤ 1048576) :
    Calls Try.prog 33 #[.agg #[.slice a zs.length cap], .int .i64 d] w fun e w' => e = .returned (.bool (hasB zs d)) ∧ w' = w.alloc (.cells #[.slice a zs.length cap] 41) := by
  have H := Lib.hid (h.below ((Below.refl w.heap.size w).alloc (Nat.le_refl _) (.cells #[.slice a zs.length cap] 41)))
  clear h
  go_enter Try.func33, Try.ntmps33
  go_wp2_with fail
  go_loop [10] (fun i => ∃ k : Nat, k ≤ zs.length ∧ i = .int .i64 k ∧ hasB zs d = hasB (zs.drop k) d) (fun i => zs.length - (intOf i).toNat)
  case atStart => exact ⟨0, Nat.zero_le _, rfl, rfl⟩
  case round =>
    obtain ⟨k, hk, rfl, hr⟩ := hrel
    have HR := Lib.hid hr
    clear hr
    by_cases hlt : k < zs.length
    · obtain ⟨b, off, rfl, _, hc⟩ := H.out.at_ hlt
      have E := Lib.hid (hasB_drop (d := d) hlt)
      cases hx : nth zs k == d
      · have HX := Lib.hid hx
        go_wp2_with fail
        go_round
        case rel => exact ⟨k + 1, by omega, by go_num, by rw [HR.out, E.out, HX.out, Bool.false_or]⟩
        case measure => simp [intOf]; omega
      · have HX := Lib.hid hx
        go_wp2_with fail
        go_ret
        exact ⟨ret_b (by rw [HR.out, E.out, HX.out, Bool.true_or]), rfl⟩
    · have e : hasB zs d = false := by rw [HR.out, show k = zs.length by omega]; exact hasB_end
      have E := Lib.hid e
      clear e
      go_wp2_with fail
      go_ret
      exact ⟨ret_b E.out.symm, rfl⟩
end Go.Proofs.Ythgecmdmoghmpaa
