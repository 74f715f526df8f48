
/-
  Contracts of the program's functions that ask whether a list is a case, and how many digits it always shows. Condition: lists of at most 2^20 numbers.
-/
import Derived.Test.YthgecmdmoghmpaaCase1
namespace Go.Proofs.Ythgecmdmoghmpaa
open Go.RowKit

theorem implCaseValid_any (w : World) (a : Option Addr) (cap : Nat) (rs : List (List Int)) (h : Rods w a rs) (hs : RodsSmall rs) :
    Calls Try.prog 17 #[.slice a rs.length cap] w fun e w' => e = .returned (.bool (caseOk rs)) ∧ Below w.heap.size w w' := by
  obtain ⟨hl, hsm⟩ := hs
  have H := Lib.hid h
  have HS := Lib.hid hsm
  clear h hsm
  by_cases h10 : 10 < rs.length
  · go_enter Try.func17, Try.ntmps17
    go_wp2_with fail
    go_ret
    exact ⟨ret_b (caseOk_long h10).symm, Below.refl _ _⟩
  · have hl10 : rs.length ≤ 10 := by omega
    go_enter Try.func17, Try.ntmps17
    go_wp2_with fail
    go_loopw [12] (fun i wr => ∃ k : Nat, k ≤ rs.length ∧ i = .int .i64 k ∧ rodsOk rs = rodsOk (rs.drop k) ∧ Below w.heap.size w wr) (fun i _ => rs.length - (intOf i).toNat)
    case atStart => exact ⟨0, Nat.zero_le _, rfl, rfl, Below.refl _ _⟩
    case round =>
      obtain ⟨k, hk, rfl, hr, hb⟩ := hrel
      have HR := Lib.hid hr
      have HB := Lib.hid hb
      clear hr hb
      by_cases hlt : k < rs.length
      · obtain ⟨b, off, a', c', rfl, _, hcell, _, _, hrow⟩ := (H.out.below HB.out).at_ hlt
        have B1 := Lib.hid (HB.out.alloc HB.out.size (.cells #[.slice a' (rod rs k).length c'] 41))
        have ROW := Lib.hid (hrow.below ((Below.refl _ _).alloc (Nat.le_refl _) (.cells #[.slice a' (rod rs k).length c'] 41)))
        have hsmall := HS.out k hlt
        clear hrow
        by_cases h4 : (rod rs k).length = 4
        · have H4 := Lib.hid h4
          have e4 : (((rod rs k).length : Int) != 4) = false := by simp [h4]
          have e4' : ((rod rs k).length != 4) = false := by simp [h4]
          have hge : 4 ≤ (rod rs k).length := by omega
          clear h4
          generalize hz : rod rs k = zs at *
          have HZ := Lib.hid hz
          clear hz
          obtain ⟨W, hW⟩ : ∃ W, wr.alloc (.cells #[.slice a' zs.length c'] 41) = W := ⟨_, rfl⟩
          have HW := Lib.hid hW
          clear hW
          go_wp2_with fail
          go_loop [23] (fun i => ∃ m : Nat, m ≤ zs.length ∧ i = .int .i64 m ∧ dgs zs = dgs (zs.drop m)) (fun i => zs.length - (intOf i).toNat)
          case atStart => exact ⟨0, Nat.zero_le _, rfl, rfl⟩
          case round =>
            obtain ⟨m, hm, rfl, hd⟩ := hrel
            have HD := Lib.hid hd
            clear hd
            by_cases hlt2 : m < zs.length
            · obtain ⟨b2, off2, rfl, _, hc2⟩ := ROW.out.at_ (i := m) (by omega)
              have hlz : (m : Int) < (zs.length : Int) := by omega
              cases hx : inB (nth zs m) 0 9
              · have HX := Lib.hid hx
                clear hx
                go_wp2_with fail
                refine (isDigit_any _ _).mono ?_
                rintro e w' ⟨rfl, rfl⟩
                rw [HX.out]
                go_wp2_with fail
                go_ret
                exact ⟨ret_b (caseOk_bad (rodsOk_no HR.out hlt (by rw [HZ.out, rodOk_four H4.out]; exact dgs_no HD.out (by omega) HX.out))).symm, B1.out⟩
              · have HX := Lib.hid hx
                clear hx
                go_wp2_with fail
                refine (isDigit_any _ _).mono ?_
                rintro e w' ⟨rfl, rfl⟩
                rw [HX.out]
                go_wp2_with fail
                go_round
                case rel => exact ⟨m + 1, by omega, by go_num, dgs_yes HD.out (by omega) HX.out⟩
                case measure => simp [intOf]; omega
            · have hdt : dgs zs = true := by
                rw [HD.out, show m = zs.length by omega, List.drop_length]
                rfl
              have HDT := Lib.hid hdt
              clear hdt
              go_wp2_with fail
              go_roundw
              case rel => exact ⟨k + 1, by omega, by go_num, rodsOk_yes HR.out hlt (by rw [HZ.out, rodOk_four H4.out]; exact HDT.out), B1.out⟩
              case measure => simp [intOf]; omega
        · have H4 := Lib.hid h4
          have e4 : (((rod rs k).length : Int) != 4) = true := by simp; omega
          have e4' : ((rod rs k).length != 4) = true := by simp [h4]
          clear h4
          go_wp2_with fail
          go_ret
          exact ⟨ret_b (caseOk_bad (rodsOk_no HR.out hlt (rodOk_len H4.out))).symm, B1.out⟩
      · have e : rodsOk rs = true := by
          rw [HR.out, show k = rs.length by omega, List.drop_length]
          rfl
        have E := Lib.hid e
        clear e
        go_wp2_with fail
        go_ret
        exact ⟨ret_b (by rw [caseOk_short hl10, E.out]), HB.out⟩

theorem ret_i {a b : Int} (h : a = b) : Ending.returned (.int .i64 a) = .returned (.int .i64 b) := by rw [h]
theorem caseMost_no {rs : List (List Int)} (h : caseOk rs = false) : caseMost rs = -1 := by simp [caseMost, h]
theorem caseMost_yes {rs : List (List Int)} (h : caseOk rs = true) : caseMost rs = ((mostTo rs 10 : Nat) : Int) := by simp [caseMost, h]
theorem mostTo_succ (rs : List (List Int)) (k : Nat) : mostTo rs (k + 1) = min (mostTo rs k) (countTo rs (k : Int) rs.length) := rfl

theorem min_val (c m : Nat) : Value.int IntKind.i64 (if c < m then (c : Int) else (m : Int)) = Value.int IntKind.i64 ((min m c : Nat) : Int) := by
  congr 1
  split <;> omega

set_option maxHeartbeats 400000 in
theorem specCaseMost_any (w : World) (a : Option Addr) (cap : Nat) (rs : List (List Int)) (h : Rods w a rs) (hs : RodsSmall rs) :
    Calls Try.prog 18 #[.slice a rs.length cap] w fun e w' => e = .returned (.int .i64 (caseMost rs)) ∧ w = w' := by
  have HSM := Lib.hid hs
  obtain ⟨hl, hsm⟩ := hs
  have H := Lib.hid h
  have HS := Lib.hid hsm
  clear h hsm
  cases hok : caseOk rs
  · have HO := Lib.hid hok
    clear hok
    go_enter Try.func18, Try.ntmps18
    go_wp2_with fail
    refine (specCaseValid_any _ _ _ _ H.out HSM.out).mono ?_
    rintro e w' ⟨rfl, rfl⟩
    rw [HO.out]
    go_wp2_with fail
    go_ret
    exact ⟨ret_i (caseMost_no HO.out).symm, rfl⟩
  · have HO := Lib.hid hok
    clear hok
    go_enter Try.func18, Try.ntmps18
    go_wp2_with fail
    refine (specCaseValid_any _ _ _ _ H.out HSM.out).mono ?_
    rintro e w' ⟨rfl, rfl⟩
    rw [HO.out]
    go_wp2_with fail
    go_loop [3, 4] (fun s i => ∃ d m : Nat, d ≤ 10 ∧ i = .int .i64 d ∧ s = .int .i64 m ∧ m ≤ 6 ∧ m = mostTo rs d) (fun _ i => 10 - (intOf i).toNat)
    case atStart => exact ⟨0, 6, by omega, rfl, rfl, by omega, rfl⟩
    case round =>
      obtain ⟨d, m, hd, rfl, rfl, hm6, hm⟩ := hrel
      have HM := Lib.hid hm
      clear hm
      by_cases hlt : d < 10
      · go_wp2_with fail
        go_loop [5, 6] (fun n i => ∃ k c : Nat, k ≤ rs.length ∧ i = .int .i64 k ∧ n = .int .i64 c ∧ c ≤ k ∧ c = countTo rs (d : Int) k) (fun _ i => rs.length - (intOf i).toNat)
        case atStart => exact ⟨0, 0, Nat.zero_le _, rfl, rfl, by omega, rfl⟩
        case round =>
          obtain ⟨k, c, hk, rfl, rfl, hck, hc⟩ := hrel
          have HC := Lib.hid hc
          clear hc
          by_cases hlt2 : k < rs.length
          · obtain ⟨b, off, a', c', rfl, _, hcell, _, _, hrow⟩ := H.out.at_ hlt2
            have ROW := Lib.hid hrow
            have hsmall := HS.out k hlt2
            clear hrow
            cases hx : hasB (rod rs k) (d : Int)
            · have HX := Lib.hid hx
              clear hx
              go_wp2_with fail
              refine (l3Has_any _ _ _ _ _ ROW.out hsmall).mono ?_
              rintro e w' ⟨rfl, rfl⟩
              rw [HX.out]
              go_wp2_with fail
              go_round
              case rel => exact ⟨k + 1, c, by omega, by go_num, rfl, by omega, by rw [countTo_no HX.out]; exact HC.out⟩
              case measure => simp [intOf]; omega
            · have HX := Lib.hid hx
              clear hx
              go_wp2_with fail
              refine (l3Has_any _ _ _ _ _ ROW.out hsmall).mono ?_
              rintro e w' ⟨rfl, rfl⟩
              rw [HX.out]
              go_wp2_with fail
              go_round
              case rel => exact ⟨k + 1, c + 1, by omega, by go_num, by go_num, by omega, by rw [countTo_yes HX.out, HC.out]⟩
              case measure => simp [intOf]; omega
          · go_wp2_with fail
            go_round
            case rel =>
              exact ⟨d + 1, min m c, by omega, by go_num, min_val c m, by omega, by rw [mostTo_succ, ← HM.out, HC.out, show k = rs.length by omega]⟩
            case measure => simp [intOf]; omega
      · go_wp2_with fail
        go_ret
        exact ⟨ret_i (by rw [caseMost_yes HO.out, HM.out, show d = 10 by omega]), rfl⟩

set_option maxHeartbeats 400000 in
theorem implCaseMost_any (w : World) (a : Option Addr) (cap : Nat) (rs : List (List Int)) (h : Rods w a rs) (hs : RodsSmall rs) :
    Calls Try.prog 19 #[.slice a rs.length cap] w fun e w' => e = .returned (.int .i64 (caseMost rs)) ∧ Below w.heap.size w w' := by
  have HSM := Lib.hid hs
  obtain ⟨hl, hsm⟩ := hs
  have H := Lib.hid h
  have HS := Lib.hid hsm
  clear h hsm
  cases hok : caseOk rs
  · have HO := Lib.hid hok
    clear hok
    go_enter Try.func19, Try.ntmps19
    go_wp2_with fail
    refine (implCaseValid_any _ _ _ _ H.out HSM.out).mono ?_
    rintro e w1 ⟨rfl, b1⟩
    rw [HO.out]
    have B1 := Lib.hid b1
    clear b1
    go_wp2_with fail
    go_ret
    exact ⟨ret_i (caseMost_no HO.out).symm, B1.out⟩
  · have HO := Lib.hid hok
    clear hok
    go_enter Try.func19, Try.ntmps19
    go_wp2_with fail
    refine (implCaseValid_any _ _ _ _ H.out HSM.out).mono ?_
    rintro e w1 ⟨rfl, b1⟩
    rw [HO.out]
    have B1 := Lib.hid b1
    clear b1
    go_wp2_with fail
    go_loopw [3, 4] (fun s i wr => ∃ d m : Nat, d ≤ 10 ∧ i = .int .i64 d ∧ s = .int .i64 m ∧ m ≤ 6 ∧ m = mostTo rs d ∧ Below w.heap.size w wr) (fun _ i _ => 10 - (intOf i).toNat)
    case atStart => exact ⟨0, 6, by omega, rfl, rfl, by omega, rfl, B1.out⟩
    case round =>
      obtain ⟨d, m, hd, rfl, rfl, hm6, hm, hb⟩ := hrel
      have HM := Lib.hid hm
      have HB := Lib.hid hb
      clear hm hb
      obtain ⟨wo, hwo⟩ : ∃ wo : World, wo = wr := ⟨_, rfl⟩
      subst hwo
      by_cases hlt : d < 10
      · have hd9 : decide ((d : Int) ≤ 9) = true := decide_eq_true (by omega)
        go_wp2_with fail
        go_loopw [5, 17] (fun n i wr => ∃ k c : Nat, k ≤ rs.length ∧ i = .int .i64 k ∧ n = .int .i64 c ∧ c ≤ k ∧ c = countTo rs (d : Int) k ∧ Below w.heap.size w wr) (fun _ i _ => rs.length - (intOf i).toNat)
        case atStart => exact ⟨0, 0, Nat.zero_le _, rfl, rfl, by omega, rfl, HB.out⟩
        case round =>
          obtain ⟨k, c, hk, rfl, rfl, hck, hc, hb2⟩ := hrel
          have HC := Lib.hid hc
          have HB2 := Lib.hid hb2
          clear hc hb2
          by_cases hlt2 : k < rs.length
          · obtain ⟨b, off, a', c', rfl, _, hcell, _, _, hrow⟩ := (H.out.below HB2.out).at_ hlt2
            have ROW := Lib.hid (hrow.below ((Below.refl _ _).alloc (Nat.le_refl _) (.cells #[.slice a' (rod rs k).length c'] 41)))
            have B3 := Lib.hid ((HB2.out.alloc HB2.out.size (.cells #[.slice a' (rod rs k).length c'] 41)).alloc (by have := HB2.out.size; simp; omega) (.cells #[.slice a' (rod rs k).length c'] 41))
            have hsmall := HS.out k hlt2
            clear hrow
            cases hx : hasB (rod rs k) (d : Int)
            · have HX := Lib.hid hx
              clear hx
              go_wp2_with fail
              refine (hasSide_any _ _ _ _ _ ROW.out hsmall).mono ?_
              rintro e w' ⟨rfl, rfl⟩
              rw [HX.out]
              go_wp2_with fail
              go_roundw
              case rel => exact ⟨k + 1, c, by omega, by go_num, rfl, by omega, by rw [countTo_no HX.out]; exact HC.out, B3.out⟩
              case measure => simp [intOf]; omega
            · have HX := Lib.hid hx
              clear hx
              go_wp2_with fail
              refine (hasSide_any _ _ _ _ _ ROW.out hsmall).mono ?_
              rintro e w' ⟨rfl, rfl⟩
              rw [HX.out]
              go_wp2_with fail
              go_roundw
              case rel => exact ⟨k + 1, c + 1, by omega, by go_num, by go_num, by omega, by rw [countTo_yes HX.out, HC.out], B3.out⟩
              case measure => simp [intOf]; omega
          · go_wp2_with fail
            go_roundw
            case rel => exact ⟨d + 1, min m c, by omega, by go_num, min_val c m, by omega, by rw [mostTo_succ, ← HM.out, HC.out, show k = rs.length by omega], HB2.out⟩
            case measure => simp [intOf]; omega
      · go_wp2_with fail
        go_ret
        exact ⟨ret_i (by rw [caseMost_yes HO.out, HM.out, show d = 10 by omega]), HB.out⟩
end Go.Proofs.Ythgecmdmoghmpaa
