
/-
  The walks of the laws of units: greedy units tell the fraction; units are added one by one: each returns true for every code.
-/
import Derived.Test.YtgdeaochfmakbaaDrawU
import Derived.Test.YtgdeaochfmakbaaUnitsL
import Derived.Test.YtgdeaochfmakbaaUnitsD2
namespace Go.Proofs.Ytgdeaochfmakbaa
open Go.RowKit

set_option maxRecDepth 100000 in
set_option maxHeartbeats 1000000 in
theorem fnUnitsOf_walk (a : Option Addr) (cap : Nat) (zs : List Int) (w : World) (h : InRow .u8 w a cap zs) :
    Calls Try.prog 7 #[.slice a zs.length cap] w fun e w' => e = .returned (.bool true) ∧ Below w.heap.size w w' := by
  have hfit := h.fits
  have hlim := h.lim
  unfold maxLen at hlim
  have H := Lib.hid h
  clear h
  by_cases hbig : 1048576 < zs.length
  · go_enter Try.func7, Try.ntmps7
    go_wp2_with fail
    go_ret
    exact ⟨rfl, Below.refl _ _⟩
  · go_enter Try.func7, Try.ntmps7
    go_wp2_with fail
    refine (drawUnitsOf_any _ _ _ _ H.out).mono ?_
    rintro e w1 ⟨x, y, rfl, x0, x1, y0, y1, b1⟩
    have B1 := Lib.hid b1
    clear b1
    obtain ⟨⟨rs, ok⟩, hr⟩ : ∃ t, unitsOfF x y = t := ⟨_, rfl⟩
    have hrl : rs.length ≤ 1048576 := by have := unitsOfF_bd x y; rw [hr] at this; exact this
    have E := Lib.hid hr
    clear hr
    go_wp2_with fail
    refine (implUnitsOf_any _ _ _ rs ok E.out).mono ?_
    rintro e w2 ⟨a2, c2, rfl, o2, b2⟩
    have B2 := Lib.hid (B1.out.trans (b2.mono B1.out.size))
    have O2 := Lib.hid o2
    clear b2 o2
    go_wp2_with fail
    refine (specUnitsOf_any _ _ _ rs ok E.out).mono ?_
    rintro e w3 ⟨a3, c3, rfl, o3, b3⟩
    have B3 := Lib.hid (B2.out.trans (b3.mono B2.out.size))
    have L3 := Lib.hid (O2.out.row.below b3)
    have U3 := Lib.hid o3.row
    clear b3 o3
    cases ok
    · go_wp2_with fail
      refine (sameInts_same _ _ _ _ _ rs L3.out U3.out (by omega)).mono ?_
      rintro e w4 ⟨rfl, b4⟩
      have B4 := Lib.hid (B3.out.trans (b4.mono B3.out.size))
      have L4 := Lib.hid (L3.out.below b4)
      have U4 := Lib.hid (U3.out.below b4)
      clear b4
      go_wp2_with fail
      refine (sameInts_same _ _ _ _ _ rs L4.out U4.out (by omega)).mono ?_
      rintro e w5 ⟨rfl, b5⟩
      have B5 := Lib.hid (B4.out.trans (b5.mono B4.out.size))
      clear b5
      go_wp2_with fail
      go_ret
      exact ⟨rfl, B5.out⟩
    · obtain ⟨u, l, rfl, rfl, l1, l4, ul, T⟩ := unitsOf_told E.out
      have HT := Lib.hid T
      have t8 := T.len
      have cnt := T.cnt
      have gp := gcd_pos' (u := u) l1
      clear T
      go_wp2_with fail
      refine (sameInts_same _ _ _ _ _ rs L3.out U3.out (by omega)).mono ?_
      rintro e w4 ⟨rfl, b4⟩
      have B4 := Lib.hid (B3.out.trans (b4.mono B3.out.size))
      have L4 := Lib.hid (L3.out.below b4)
      clear b4
      go_wp2_with fail
      refine (implUnitsSum_any _ _ _ _ L4.out (by omega)).mono ?_
      rintro e w5 ⟨rfl, b5⟩
      have B5 := Lib.hid (B4.out.trans (b5.mono B4.out.size))
      have L5 := Lib.hid (L4.out.below b5)
      clear b5
      have GOOD := Lib.hid (good_mem HT.out.good)
      have FAR := Lib.hid HT.out.far
      have VAL := Lib.hid (isUnits_yes HT.out.good HT.out.len)
      have CN := Lib.hid cnt
      clear cnt
      generalize hG : Nat.gcd u l = G at *
      have HGG := Lib.hid hG
      clear hG
      have c1 : decide ((rs.length : Int) ≤ (u : Int) / (G : Int)) = true := by
        have := CN.out
        rw [decide_eq_true_eq]
        exact_mod_cast this
      have c2 : decide (rs.length ≤ u / G) = true := by
        have := CN.out
        rw [decide_eq_true_eq]
        exact this
      have c3 : wrap64 ((u : Int) / (G : Int)) = (u : Int) / (G : Int) := by
        have h1 : (0 : Int) ≤ (u : Int) / (G : Int) := Int.ediv_nonneg (by omega) (by omega)
        have h2 : (u : Int) / (G : Int) ≤ (u : Int) := Int.ediv_le_self _ (by omega)
        exact IntWalk.wrap64_in _ ⟨by omega, by omega⟩
      have C1 := Lib.hid c1
      have C3 := Lib.hid c3
      clear c1 c2 c3
      obtain ⟨sx, sy, p, hs, sx0, sx9, sy0, sy9, hp⟩ : ∃ (sx sy : Int) (p : Bool), unitsSum rs = (sx, sy, p) ∧ 0 ≤ sx ∧ sx ≤ 1000000000 ∧ 0 ≤ sy ∧ sy ≤ 1000000000 ∧ (p = true → sx * (l : Int) = (u : Int) * sy) := by
        rcases HT.out.sum with e | ⟨x, y, e, h1, h2, h3⟩
        · exact ⟨0, 0, false, e, by omega, by omega, by omega, by omega, fun h => by cases h⟩
        · exact ⟨x, y, true, e, by omega, by omega, by omega, by omega, fun _ => by exact_mod_cast h3⟩
      rw [hs]
      unfold tri
      have HP := Lib.hid hp
      clear hs hp
      have m1 : 0 ≤ sx * (l : Int) := Int.mul_nonneg sx0 (by omega)
      have m2 : sx * (l : Int) ≤ 1000000000 * 10000 := Int.mul_le_mul sx9 (by omega) (by omega) (by omega)
      have m3 : 0 ≤ (u : Int) * sy := Int.mul_nonneg (by omega) sy0
      have m4 : (u : Int) * sy ≤ 10000 * 1000000000 := Int.mul_le_mul (by omega) sy9 (by omega) (by omega)
      go_wp2_with fail
      go_loopw [12] (fun i wr => ∃ j n : Nat, j ≤ rs.length ∧ i = .int .i64 ((j : Int) + 1) ∧ wr = w5.drewN n) (fun i _ => rs.length - (intOf i).toNat)
      case atStart => exact ⟨0, 0, Nat.zero_le _, rfl, rfl⟩
      case round =>
        obtain ⟨j, n, hj, rfl, rfl⟩ := hrel
        by_cases hlt : j + 1 < rs.length
        · obtain ⟨b, off, rfl, _, hc1⟩ := L5.out.at_ hlt
          obtain ⟨b', off', he, _, hc2⟩ := L5.out.at_ (i := j) (by omega)
          obtain ⟨rfl, rfl⟩ : b = b' ∧ off = off' := by injection he with he; injection he with e1 e2; exact ⟨e1, e2⟩
          clear he
          have hf := FAR.out j hlt
          have hy := GOOD.out _ (nth_mem rs j (by omega))
          generalize nth rs (j + 1) = X at *
          generalize nth rs j = Y at *
          have b1 : 0 ≤ Y * (Y - 1) := Int.mul_nonneg (by omega) (by omega)
          have b2 : Y * (Y - 1) ≤ 1000000000 * 1000000000 := Int.mul_le_mul hy.2 (by omega) (by omega) (by omega)
          have u1 : IntKind.i64.wrap (j : Int) = j := IntWalk.i64_in _ (by omega)
          have u2 : IntKind.i64.wrap (Y - 1) = Y - 1 := IntWalk.i64_in _ (by omega)
          have u3 : IntKind.i64.wrap (Y * (Y - 1)) = Y * (Y - 1) := IntWalk.i64_in _ (by omega)
          have u5 : wrap64 (Y * (Y - 1)) = Y * (Y - 1) := IntWalk.wrap64_in _ ⟨by omega, by omega⟩
          have u4 : decide (X ≤ Y * (Y - 1)) = false := decide_eq_false (by omega)
          have j1 : (j : Int) + 1 < (rs.length : Int) := by omega
          have j2 : (j : Int) < (rs.length : Int) := by omega
          have j3 : ((j : Int) + 1).toNat = j + 1 := by omega
          go_wp2_with fail
          go_quiet (fail)
          clear u1 u2 u3 u5 j3
          go_wp2_with fail
          go_roundw
          case rel => exact ⟨j + 1, _, by omega, by go_num, rfl⟩
          case measure => simp [intOf]; omega
        · go_wp2_with fail
          refine (commonOf_any _ _ _ (by omega) (by omega)).mono ?_
          rintro e w' ⟨rfl, rfl⟩
          rw [HGG.out]
          have c1 := C1.out
          have c3 := C3.out
          cases p
          · go_wp2_with fail
            refine (implUnitsValid_any _ _ _ _ (L5.out.drewN n) (by omega)).mono ?_
            rintro e w6 ⟨rfl, b6⟩
            rw [VAL.out]
            have B6 := Lib.hid ((below_drewN B5.out n).trans (b6.mono B5.out.size))
            clear b6
            go_wp2_with fail
            go_ret
            exact ⟨rfl, B6.out⟩
          · have e1 : (sx * (l : Int) == (u : Int) * sy) = true := by rw [beq_iff_eq]; exact HP.out rfl
            go_wp2_with fail
            refine (implUnitsValid_any _ _ _ _ (L5.out.drewN n) (by omega)).mono ?_
            rintro e w6 ⟨rfl, b6⟩
            rw [VAL.out]
            have B6 := Lib.hid ((below_drewN B5.out n).trans (b6.mono B5.out.size))
            clear b6
            go_wp2_with fail
            go_ret
            exact ⟨rfl, B6.out⟩

set_option maxRecDepth 100000 in
set_option maxHeartbeats 1000000 in
theorem fnUnitsSum_walk (a : Option Addr) (cap : Nat) (zs : List Int) (w : World) (h : InRow .u8 w a cap zs) :
    Calls Try.prog 8 #[.slice a zs.length cap] w fun e w' => e = .returned (.bool true) ∧ Below w.heap.size w w' := by
  have hfit := h.fits
  have hlim := h.lim
  unfold maxLen at hlim
  have H := Lib.hid h
  clear h
  by_cases hbig : 1048576 < zs.length
  · go_enter Try.func8, Try.ntmps8
    go_wp2_with fail
    go_ret
    exact ⟨rfl, Below.refl _ _⟩
  · go_enter Try.func8, Try.ntmps8
    go_wp2_with fail
    refine (drawUnitsSum_any _ _ _ _ H.out).mono ?_
    rintro e w1 ⟨a1, k1, ys, rfl, _, hl5, o1, b1⟩
    have B1 := Lib.hid b1
    have L1 := Lib.hid o1.row
    clear b1 o1
    obtain ⟨⟨x, y, p⟩, ht⟩ : ∃ t, unitsSum ys = t := ⟨_, rfl⟩
    have T := Lib.hid ht
    clear ht
    go_wp2_with fail
    refine (implUnitsSum_any _ _ _ _ L1.out (by omega)).mono ?_
    rintro e w2 ⟨rfl, b2⟩
    rw [T.out]
    unfold tri
    have B2 := Lib.hid (B1.out.trans (b2.mono B1.out.size))
    have L2 := Lib.hid (L1.out.below b2)
    clear b2
    go_wp2_with fail
    refine (specUnitsSum_any _ _ _ _ L2.out (by omega)).mono ?_
    rintro e w' ⟨rfl, rfl⟩
    rw [T.out]
    unfold tri
    cases p
    · go_wp2_with fail
      go_ret
      exact ⟨rfl, B2.out⟩
    · have hu : isUnits ys = true := by
        cases hh : isUnits ys
        · have := T.out
          rw [unitsSum_no hh] at this
          injection this with _ h2
          injection h2 with _ h2
        · rfl
      obtain ⟨n, m, rfl, rfl, A⟩ : ∃ n m : Nat, x = n ∧ y = m ∧ Added ys n m := by
        rcases unitsSum_told hu with e | ⟨n, m, e, A⟩
        · rw [T.out] at e
          injection e with _ h2
          injection h2 with _ h2
          cases h2
        · rw [T.out] at e
          injection e with h1 h2
          injection h2 with h2 _
          exact ⟨n, m, h1, h2, A⟩
      have HA := Lib.hid A
      have n9 := A.x9
      have m9 := A.y9
      have few := A.few
      clear A
      by_cases h0 : ys.length = 0
      · have e0 : ys = [] := List.eq_nil_of_length_eq_zero h0
        have E0 := Lib.hid e0
        have hn : n = 0 ∧ m = 1 := by
          have := T.out
          rw [e0] at this
          have e2 : unitsSum [] = (0, 1, true) := rfl
          rw [e2] at this
          injection this with h1 h2
          injection h2 with h2 _
          exact ⟨by omega, by omega⟩
        obtain ⟨rfl, rfl⟩ := hn
        have z0 : ((ys.length : Int) == 0) = true := by rw [beq_iff_eq]; omega
        clear h0 e0
        go_wp2_with fail
        go_ret
        exact ⟨rfl, B2.out⟩
      · have z0 : ((ys.length : Int) == 0) = false := beq_eq_false_iff_ne.2 (by omega)
        have p1 : 1 ≤ ys.length := by omega
        obtain ⟨u, l, d, hdr, hui, hus, hd, hu9, hl9, hd9, hcr⟩ := HA.out.rest p1
        have DR := Lib.hid (show unitsDrop ys ((ys.length - 1 : Nat) : Int) = (ys.take (ys.length - 1), true) by rw [unitsDrop_yes hu (by omega), hdr])
        have US := Lib.hid hus
        have DD := Lib.hid hd
        have CR := Lib.hid hcr
        have COP := Lib.hid HA.out.cop
        have hi : (ys.length : Int) - 1 = ((ys.length - 1 : Nat) : Int) := by omega
        have HI := Lib.hid hi
        have tl := List.length_take_le (ys.length - 1) ys
        generalize ys.take (ys.length - 1) = ts at *
        clear hdr hui hus hd hcr h0 hi
        go_wp2_with fail
        rw [HI.out]
        refine (implUnitsDrop_any _ _ _ _ L2.out (by omega) _ _ _ DR.out).mono ?_
        rintro e w3 ⟨a3, c3, rfl, o3, b3⟩
        have B3 := Lib.hid (B2.out.trans (b3.mono B2.out.size))
        have L3 := Lib.hid (L2.out.below b3)
        have R3 := Lib.hid o3.row
        clear b3 o3
        go_wp2_with fail
        refine (implUnitsSum_any _ _ _ _ R3.out (by omega)).mono ?_
        rintro e w4 ⟨rfl, b4⟩
        rw [US.out]
        unfold tri
        have B4 := Lib.hid (B3.out.trans (b4.mono B3.out.size))
        have L4 := Lib.hid (L3.out.below b4)
        clear b4
        obtain ⟨b, off, rfl, _, hc⟩ := L4.out.at_ (i := ys.length - 1) (by omega)
        rw [DD.out] at hc
        obtain ⟨k, hk⟩ : ∃ k, ys.length - 1 = k := ⟨_, rfl⟩
        rw [hk] at hc
        have m1 : 0 ≤ (u : Int) * (d : Int) := Int.mul_nonneg (by omega) (by omega)
        have m2 : (u : Int) * (d : Int) ≤ 1000000000 * 1000000000 := Int.mul_le_mul (by omega) (by omega) (by omega) (by omega)
        have m3 : 0 ≤ (n : Int) * (l : Int) := Int.mul_nonneg (by omega) (by omega)
        have m4 : (n : Int) * (l : Int) ≤ 1000000000 * 1000000000 := Int.mul_le_mul (by omega) (by omega) (by omega) (by omega)
        have u0 : IntKind.i64.wrap ((ys.length : Int) - 1) = (k : Int) := by rw [show (ys.length : Int) - 1 = (k : Int) by omega]; exact IntWalk.i64_in _ (by omega)
        have u1 : IntKind.i64.wrap ((u : Int) * (d : Int)) = (u : Int) * (d : Int) := IntWalk.i64_in _ (by omega)
        have u2 : IntKind.i64.wrap ((u : Int) * (d : Int) + (l : Int)) = (u : Int) * (d : Int) + (l : Int) := IntWalk.i64_in _ (by omega)
        have u3 : IntKind.i64.wrap ((n : Int) * (l : Int)) = (n : Int) * (l : Int) := IntWalk.i64_in _ (by omega)
        have u4 : IntKind.i64.wrap (8 * (m : Int)) = 8 * (m : Int) := IntWalk.i64_in _ (by omega)
        have u5 : ((u : Int) * (d : Int) + (l : Int)) * (m : Int) = (n : Int) * (l : Int) * (d : Int) := by exact_mod_cast CR.out
        have d1 : decide ((n : Int) ≤ 8 * (m : Int)) = true := decide_eq_true (by omega)
        have d2 : decide (n ≤ 8 * m) = true := decide_eq_true few
        have d3 : ((1 : Int) == 1) = true := rfl
        have d4 : (IntKind.i64.wrap (((u : Int) * (d : Int) + (l : Int)) * (m : Int)) == IntKind.i64.wrap ((n : Int) * (l : Int) * (d : Int))) = true := by rw [u5]; exact beq_self_eq_true _
        have d5 : (wrap64 (((u : Int) * (d : Int) + (l : Int)) * (m : Int)) == wrap64 ((n : Int) * (l : Int) * (d : Int))) = true := by rw [u5]; exact beq_self_eq_true _
        have U5 := Lib.hid u5
        clear u5
        have k0 : (k : Int) < (ys.length : Int) := by omega
        have HK := Lib.hid hk
        have CM := Lib.hid (show ∀ W : World, Calls Try.prog 23 #[.int .i64 (n : Int), .int .i64 (m : Int)] W fun e w' => e = .returned (.int .i64 1) ∧ W = w' from fun W => by
          have := commonOf_any W n m (by omega) (by omega)
          rw [COP.out] at this
          exact this)
        clear hk
        go_wp2_with fail
        go_quiet ((go_at_call 23; exact quiet_at (CM.out _)))
        clear u0 u1 u2 u3 u4 d1 d2 d3 d4 d5
        go_wp2_with fail
        go_ret
        exact ⟨rfl, below_drewN B4.out _⟩
end Go.Proofs.Ytgdeaochfmakbaa
