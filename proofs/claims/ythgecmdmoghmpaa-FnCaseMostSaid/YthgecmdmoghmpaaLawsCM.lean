
/-
  The walk of the law FnCaseMost: a case shows all short numerals: it returns true for every two codes.
-/
import Derived.Test.YthgecmdmoghmpaaDrawC4
import Derived.Test.YthgecmdmoghmpaaCase7
namespace Go.Proofs.Ythgecmdmoghmpaa
open Go.RowKit

theorem isNum_mk {ds : List Int} (h1 : 1 ≤ ds.length) (h6 : ds.length ≤ 6) (h : ∀ d ∈ ds, 0 ≤ d ∧ d ≤ 9) : isNum ds = true := isNum_of (digs_of h) h1 h6

/-- No numeral of one digit fewer than d is missing, if none is said to be. -/
def Miss (rs : List (List Int)) (m d : Nat) (M : Bool) : Prop := M = false → m ≠ 6 ∧ ∀ e : Nat, e < d → 0 < ways rs (List.replicate (m + 1) (e : Int)) free
theorem miss_true (rs : List (List Int)) (m d : Nat) : Miss rs m d true := fun h => by cases h
theorem miss_start {rs : List (List Int)} {m : Nat} (h : m ≠ 6) : Miss rs m 0 false := fun _ => ⟨h, fun e he => by omega⟩
theorem miss_six {rs : List (List Int)} {m d : Nat} (h : Miss rs m d false) : m ≠ 6 := (h rfl).1
theorem miss_step {rs : List (List Int)} {m d : Nat} (h : Miss rs m d false) (hw : 0 < ways rs (List.replicate (m + 1) (d : Int)) free) : Miss rs m (d + 1) false := fun _ => ⟨(h rfl).1, fun e he => by
  by_cases hed : e = d
  · subst hed; exact hw
  · exact (h rfl).2 e (by omega)⟩

set_option maxRecDepth 100000 in
set_option maxHeartbeats 2000000 in
theorem fnCaseMost_walk (a : Option Addr) (cap : Nat) (zs : List Int) (a2 : Option Addr) (cap2 : Nat) (ys : List Int) (w : World) (h : InRow .u8 w a cap zs) (h2 : InRow .u8 w a2 cap2 ys) :
    Calls Try.prog 6 #[.slice a zs.length cap, .slice a2 ys.length cap2] w fun e w' => e = .returned (.bool true) ∧ Below w.heap.size w w' := by
  have hfit := h.fits
  have hlim := h.lim
  have hfit2 := h2.fits
  have hlim2 := h2.lim
  unfold maxLen at hlim hlim2
  have H := Lib.hid h
  clear h h2
  by_cases hbig : 1048576 < zs.length
  · go_enter Try.func6, Try.ntmps6
    go_wp2_with fail
    go_ret
    exact ⟨rfl, Below.refl _ _⟩
  · by_cases hbig2 : 1048576 < ys.length
    · have d0 : decide ((1048576 : Int) < (zs.length : Int)) = false := decide_eq_false (by omega)
      have d0' : decide (1048576 < zs.length) = false := decide_eq_false hbig
      go_enter Try.func6, Try.ntmps6
      go_wp2_with fail
      go_ret
      exact ⟨rfl, Below.refl _ _⟩
    · have d0 : decide ((1048576 : Int) < (zs.length : Int)) = false := decide_eq_false (by omega)
      have d0' : decide (1048576 < zs.length) = false := decide_eq_false hbig
      have d1 : decide ((1048576 : Int) < (ys.length : Int)) = false := decide_eq_false (by omega)
      have d1' : decide (1048576 < ys.length) = false := decide_eq_false hbig2
      go_enter Try.func6, Try.ntmps6
      go_wp2_with fail
      clear d0 d0' d1 d1'
      refine (drawCaseMost_any _ _ _ _ H.out).mono ?_
      rintro e w1 ⟨a1, c1, rs, rfl, r1, hl9, hl4, b1⟩
      have R1 := Lib.hid r1
      have B1 := Lib.hid b1
      have SM := Lib.hid (show RodsSmall rs from ⟨by omega, fun i hi => by have := hl4 i hi; omega⟩)
      clear r1 b1 hl4
      cases hok : caseOk rs
      · have E := Lib.hid (caseMost_no hok)
        clear hok
        go_wp2_with fail
        refine (implCaseMost_any _ _ _ _ R1.out SM.out).mono ?_
        rintro e w2 ⟨rfl, b2⟩
        rw [E.out]
        have B2 := Lib.hid (B1.out.trans (b2.mono B1.out.size))
        have R2 := Lib.hid (R1.out.below b2)
        clear b2
        go_wp2_with fail
        refine (specCaseMost_any _ _ _ _ R2.out SM.out).mono ?_
        rintro e w' ⟨rfl, rfl⟩
        rw [E.out]
        go_wp2_with fail
        go_ret
        exact ⟨rfl, B2.out⟩
      · have E := Lib.hid (caseMost_yes hok)
        have OK := Lib.hid hok
        have hm6 := mostTo_le rs 10
        have SHOW := Lib.hid (fun (ds : List Int) (hl : ds.length = mostTo rs 10) (hd : ∀ d ∈ ds, 0 ≤ d ∧ d ≤ 9) (h1 : 1 ≤ ds.length) => (show caseShows rs ds = true from by
          rw [caseShows_yes hok (isNum_mk h1 (by omega) hd)]
          exact decide_eq_true (most_shows hl hd)))
        have MISS := Lib.hid (fun (hm : mostTo rs 10 ≠ 6) => most_misses hm)
        clear hok
        generalize mostTo rs 10 = m at *
        go_wp2_with fail
        refine (implCaseMost_any _ _ _ _ R1.out SM.out).mono ?_
        rintro e w2 ⟨rfl, b2⟩
        rw [E.out]
        have B2 := Lib.hid (B1.out.trans (b2.mono B1.out.size))
        have R2 := Lib.hid (R1.out.below b2)
        clear b2
        go_wp2_with fail
        refine (specCaseMost_any _ _ _ _ R2.out SM.out).mono ?_
        rintro e w' ⟨rfl, rfl⟩
        rw [E.out]
        have NW := Lib.hid (own_new w2 w2.heap.size (Nat.le_refl _))
        have BN := Lib.hid ((Below.refl w2.heap.size w2).alloc (Nat.le_refl _) (.cells #[] 3))
        go_wp2_with fail
        go_loopw [8, 9, 10] (fun kk s i wr => ∃ j c : Nat, ∃ ad : Option Addr, ∃ out : List Int, ∃ K : Int, j ≤ m ∧ kk = .int .i64 K ∧ 0 ≤ K ∧ K ≤ 1048576 ∧ s = .slice ad out.length c ∧ i = .int .i64 (j : Int) ∧ out.length = j ∧ (∀ d ∈ out, 0 ≤ d ∧ d ≤ 9) ∧ Own wr w2.heap.size wr.heap.size (.slice ad out.length c) out ∧ Below w2.heap.size w2 wr) (fun _ _ i _ => m - (intOf i).toNat)
        case atStart => exact ⟨0, 0, some ⟨w2.heap.size, 0, none⟩, [], _, by omega, rfl, by omega, by omega, rfl, rfl, rfl, fun d hd => by simp at hd, NW.out.all, BN.out⟩
        case round =>
          obtain ⟨j, c, ad, out, K, hj, rfl, K0, K1, rfl, rfl, hlen, hdg, ho, hb⟩ := hrel
          have hsz := hb.size
          have HO := Lib.hid ho
          have HB := Lib.hid hb
          have HL := Lib.hid hlen
          have HD := Lib.hid hdg
          have hol : out.length ≤ 6 := by omega
          clear ho hb hlen hdg
          by_cases hlt : j < m
          · have o2 := HO.out
            go_wp2_with (at_builtin; refine wpList_push rfl _ _ rfl wr w2.heap.size wr.heap.size (K % 10) out ad c rfl rfl o2 (by omega) (by omega) ?_; intro ad' c' w3 o3 b3 s3)
            have O3 := Lib.hid o3
            have B3 := Lib.hid (HB.out.trans b3)
            clear o2 o3 b3
            go_wp2_with fail
            go_roundw
            case rel =>
              refine ⟨j + 1, c', ad', out ++ [K % 10], K / 3, by omega, rfl, by omega, by omega, by simp, by go_num, by simp [HL.out], fun d hd => ?_, ?_, B3.out⟩
              · rcases List.mem_append.1 hd with hd | hd
                · exact HD.out d hd
                · have : d = K % 10 := by simpa using hd
                  omega
              · have := O3.out
                simpa using this
            case measure => simp [intOf]; omega
          · have hjm : out.length = m := by rw [HL.out]; omega
            have HJ := Lib.hid hjm
            have RB := Lib.hid (R2.out.below HB.out)
            clear hjm
            by_cases hm0 : m = 0
            · have d2 : decide ((0 : Int) < (m : Int)) = false := decide_eq_false (by omega)
              have d2' : decide (0 < m) = false := decide_eq_false (by omega)
              have BX := Lib.hid (B2.out.trans (HB.out.mono B2.out.size))
              have RX := Lib.hid RB.out
              have e6 : ((m : Int) == 6) = false := beq_eq_false_iff_ne.2 (by omega)
              have HM6 := Lib.hid (miss_start (rs := rs) (show m ≠ 6 by omega))
              obtain ⟨wx, hwx⟩ : ∃ wx, wx = wr := ⟨_, rfl⟩
              subst hwx
              clear hm0
              go_wp2_with fail
              clear d2 d2' e6
              go_loopw [11, 12] (fun mi i wr => ∃ d : Nat, ∃ M : Bool, d ≤ 10 ∧ i = .int .i64 (d : Int) ∧ mi = .bool M ∧ Miss rs m d M ∧ Below wx.heap.size wx wr) (fun _ i _ => 10 - (intOf i).toNat)
              case atStart => exact ⟨0, _, by omega, rfl, rfl, HM6.out, Below.refl _ _⟩
              case round =>
                obtain ⟨d, M, hd, rfl, rfl, hMw, hbd⟩ := hrel
                have BD := Lib.hid hbd
                have HW := Lib.hid hMw
                clear hbd hMw
                cases M
                · by_cases hltd : d < 10
                  · have d9 : decide ((d : Int) ≤ 9) = true := decide_eq_true (by omega)
                    have m6 : m ≤ 5 := by have := miss_six HW.out; omega
                    have NW2 := Lib.hid (own_new wr wr.heap.size (Nat.le_refl _))
                    have BN2 := Lib.hid ((Below.refl wr.heap.size wr).alloc (Nat.le_refl _) (.cells #[] 3))
                    obtain ⟨wo, hwo⟩ : ∃ wo, wo = wr := ⟨_, rfl⟩
                    subst hwo
                    go_wp2_with fail
                    go_loopw [13, 14] (fun s i wr => ∃ j c : Nat, ∃ ad : Option Addr, ∃ out : List Int, j ≤ m + 1 ∧ s = .slice ad out.length c ∧ i = .int .i64 (j : Int) ∧ out = List.replicate j (d : Int) ∧ out.length = j ∧ Own wr wo.heap.size wr.heap.size (.slice ad out.length c) out ∧ Below wo.heap.size wo wr) (fun _ i _ => m + 1 - (intOf i).toNat)
                    case atStart => exact ⟨0, 0, some ⟨wo.heap.size, 0, none⟩, [], by omega, rfl, rfl, rfl, rfl, NW2.out.all, BN2.out⟩
                    case round =>
                      obtain ⟨j2, c2, ad2, out2, hj2, rfl, rfl, he2, hl2, ho2, hb2⟩ := hrel
                      have hsz2 := hb2.size
                      have HE2 := Lib.hid he2
                      have HL2 := Lib.hid hl2
                      have HO2 := Lib.hid ho2
                      have HB2 := Lib.hid hb2
                      have hol2 : out2.length ≤ 6 := by omega
                      clear he2 hl2 ho2 hb2
                      by_cases hlt2 : j2 < m + 1
                      · have o2 := HO2.out
                        go_wp2_with (at_builtin; refine wpList_push rfl _ _ rfl wr wo.heap.size wr.heap.size (d : Int) out2 ad2 c2 rfl rfl o2 (by omega) (by omega) ?_; intro ad' c' w3 o3 b3 s3)
                        have O3 := Lib.hid o3
                        have B3 := Lib.hid (HB2.out.trans b3)
                        clear o2 o3 b3
                        go_wp2_with fail
                        go_roundw
                        case rel =>
                          refine ⟨j2 + 1, c', ad', out2 ++ [(d : Int)], by omega, by simp, by go_num, by rw [HE2.out, List.replicate_succ'], by simp [HL2.out], ?_, B3.out⟩
                          have := O3.out
                          simpa using this
                        case measure => simp [intOf]; omega
                      · have OR := Lib.hid HO2.out.row
                        have e1 : out2 = List.replicate (m + 1) (d : Int) := by rw [HE2.out, show j2 = m + 1 by omega]
                        have e2 : out2.length = m + 1 := by rw [HL2.out]; omega
                        have CS2 : caseShows rs out2 = decide (0 < ways rs (List.replicate (m + 1) (d : Int)) free) := by
                          rw [caseShows_yes OK.out (isNum_mk (by omega) (by omega) (fun x hx => by rw [e1] at hx; have := List.eq_of_mem_replicate hx; omega)), e1]
                        have RO := Lib.hid ((RX.out.below BD.out).below HB2.out)
                        have BZ := Lib.hid (BD.out.trans (HB2.out.mono BD.out.size))
                        clear e1 e2
                        cases hway : decide (0 < ways rs (List.replicate (m + 1) (d : Int)) free)
                        · rw [hway] at CS2
                          have CC := Lib.hid CS2
                          clear CS2 hway
                          go_wp2_with fail
                          refine (implCaseShows_any _ _ _ _ _ _ _ RO.out SM.out OR.out (by omega)).mono ?_
                          rintro e w5 ⟨rfl, b5⟩
                          rw [CC.out]
                          have B5 := Lib.hid (BZ.out.trans (b5.mono BZ.out.size))
                          clear b5
                          go_wp2_with fail
                          go_roundw
                          case rel => exact ⟨d + 1, true, by omega, by go_num, rfl, miss_true rs m (d + 1), B5.out⟩
                          case measure => simp [intOf]; omega
                        · rw [hway] at CS2
                          have CC := Lib.hid CS2
                          have WY := Lib.hid (of_decide_eq_true hway)
                          clear CS2 hway
                          go_wp2_with fail
                          refine (implCaseShows_any _ _ _ _ _ _ _ RO.out SM.out OR.out (by omega)).mono ?_
                          rintro e w5 ⟨rfl, b5⟩
                          rw [CC.out]
                          have B5 := Lib.hid (BZ.out.trans (b5.mono BZ.out.size))
                          clear b5
                          go_wp2_with fail
                          go_roundw
                          case rel => exact ⟨d + 1, false, by omega, by go_num, rfl, miss_step HW.out WY.out, B5.out⟩
                          case measure => simp [intOf]; omega
                  · exfalso
                    obtain ⟨d', hd', hz⟩ := MISS.out (miss_six HW.out)
                    have := (HW.out rfl).2 d' (by omega)
                    omega
                · by_cases hltd : d < 10
                  · have d9 : decide ((d : Int) ≤ 9) = true := decide_eq_true (by omega)
                    go_wp2_with fail
                    go_ret
                    exact ⟨rfl, BX.out.trans (BD.out.mono BX.out.size)⟩
                  · have d9 : decide ((d : Int) ≤ 9) = false := decide_eq_false (by omega)
                    go_wp2_with fail
                    go_ret
                    exact ⟨rfl, BX.out.trans (BD.out.mono BX.out.size)⟩
            · have d2 : decide ((0 : Int) < (m : Int)) = true := decide_eq_true (by omega)
              have d2' : decide (0 < m) = true := decide_eq_true (by omega)
              have OROW := Lib.hid HO.out.row
              have CS := Lib.hid (SHOW.out out HJ.out HD.out (by rw [HJ.out]; omega))
              clear hm0
              go_wp2_with fail
              refine (implCaseShows_any _ _ _ _ _ _ _ RB.out SM.out OROW.out (by omega)).mono ?_
              rintro e wx ⟨rfl, bx⟩
              rw [CS.out]
              have BX := Lib.hid ((B2.out.trans (HB.out.mono B2.out.size)).trans (bx.mono (by have := B2.out.size; omega)))
              have RX := Lib.hid (RB.out.below bx)
              clear bx
              by_cases h6 : m = 6
              · have e6 : ((m : Int) == 6) = true := by rw [beq_iff_eq]; omega
                have HM6 := Lib.hid (miss_true rs m 0)
                clear h6
                go_wp2_with fail
                clear d2 d2' e6
                go_loopw [11, 12] (fun mi i wr => ∃ d : Nat, ∃ M : Bool, d ≤ 10 ∧ i = .int .i64 (d : Int) ∧ mi = .bool M ∧ Miss rs m d M ∧ Below wx.heap.size wx wr) (fun _ i _ => 10 - (intOf i).toNat)
                case atStart => exact ⟨0, _, by omega, rfl, rfl, HM6.out, Below.refl _ _⟩
                case round =>
                  obtain ⟨d, M, hd, rfl, rfl, hMw, hbd⟩ := hrel
                  have BD := Lib.hid hbd
                  have HW := Lib.hid hMw
                  clear hbd hMw
                  cases M
                  · by_cases hltd : d < 10
                    · have d9 : decide ((d : Int) ≤ 9) = true := decide_eq_true (by omega)
                      have m6 : m ≤ 5 := by have := miss_six HW.out; omega
                      have NW2 := Lib.hid (own_new wr wr.heap.size (Nat.le_refl _))
                      have BN2 := Lib.hid ((Below.refl wr.heap.size wr).alloc (Nat.le_refl _) (.cells #[] 3))
                      obtain ⟨wo, hwo⟩ : ∃ wo, wo = wr := ⟨_, rfl⟩
                      subst hwo
                      go_wp2_with fail
                      go_loopw [13, 14] (fun s i wr => ∃ j c : Nat, ∃ ad : Option Addr, ∃ out : List Int, j ≤ m + 1 ∧ s = .slice ad out.length c ∧ i = .int .i64 (j : Int) ∧ out = List.replicate j (d : Int) ∧ out.length = j ∧ Own wr wo.heap.size wr.heap.size (.slice ad out.length c) out ∧ Below wo.heap.size wo wr) (fun _ i _ => m + 1 - (intOf i).toNat)
                      case atStart => exact ⟨0, 0, some ⟨wo.heap.size, 0, none⟩, [], by omega, rfl, rfl, rfl, rfl, NW2.out.all, BN2.out⟩
                      case round =>
                        obtain ⟨j2, c2, ad2, out2, hj2, rfl, rfl, he2, hl2, ho2, hb2⟩ := hrel
                        have hsz2 := hb2.size
                        have HE2 := Lib.hid he2
                        have HL2 := Lib.hid hl2
                        have HO2 := Lib.hid ho2
                        have HB2 := Lib.hid hb2
                        have hol2 : out2.length ≤ 6 := by omega
                        clear he2 hl2 ho2 hb2
                        by_cases hlt2 : j2 < m + 1
                        · have o2 := HO2.out
                          go_wp2_with (at_builtin; refine wpList_push rfl _ _ rfl wr wo.heap.size wr.heap.size (d : Int) out2 ad2 c2 rfl rfl o2 (by omega) (by omega) ?_; intro ad' c' w3 o3 b3 s3)
                          have O3 := Lib.hid o3
                          have B3 := Lib.hid (HB2.out.trans b3)
                          clear o2 o3 b3
                          go_wp2_with fail
                          go_roundw
                          case rel =>
                            refine ⟨j2 + 1, c', ad', out2 ++ [(d : Int)], by omega, by simp, by go_num, by rw [HE2.out, List.replicate_succ'], by simp [HL2.out], ?_, B3.out⟩
                            have := O3.out
                            simpa using this
                          case measure => simp [intOf]; omega
                        · have OR := Lib.hid HO2.out.row
                          have e1 : out2 = List.replicate (m + 1) (d : Int) := by rw [HE2.out, show j2 = m + 1 by omega]
                          have e2 : out2.length = m + 1 := by rw [HL2.out]; omega
                          have CS2 : caseShows rs out2 = decide (0 < ways rs (List.replicate (m + 1) (d : Int)) free) := by
                            rw [caseShows_yes OK.out (isNum_mk (by omega) (by omega) (fun x hx => by rw [e1] at hx; have := List.eq_of_mem_replicate hx; omega)), e1]
                          have RO := Lib.hid ((RX.out.below BD.out).below HB2.out)
                          have BZ := Lib.hid (BD.out.trans (HB2.out.mono BD.out.size))
                          clear e1 e2
                          cases hway : decide (0 < ways rs (List.replicate (m + 1) (d : Int)) free)
                          · rw [hway] at CS2
                            have CC := Lib.hid CS2
                            clear CS2 hway
                            go_wp2_with fail
                            refine (implCaseShows_any _ _ _ _ _ _ _ RO.out SM.out OR.out (by omega)).mono ?_
                            rintro e w5 ⟨rfl, b5⟩
                            rw [CC.out]
                            have B5 := Lib.hid (BZ.out.trans (b5.mono BZ.out.size))
                            clear b5
                            go_wp2_with fail
                            go_roundw
                            case rel => exact ⟨d + 1, true, by omega, by go_num, rfl, miss_true rs m (d + 1), B5.out⟩
                            case measure => simp [intOf]; omega
                          · rw [hway] at CS2
                            have CC := Lib.hid CS2
                            have WY := Lib.hid (of_decide_eq_true hway)
                            clear CS2 hway
                            go_wp2_with fail
                            refine (implCaseShows_any _ _ _ _ _ _ _ RO.out SM.out OR.out (by omega)).mono ?_
                            rintro e w5 ⟨rfl, b5⟩
                            rw [CC.out]
                            have B5 := Lib.hid (BZ.out.trans (b5.mono BZ.out.size))
                            clear b5
                            go_wp2_with fail
                            go_roundw
                            case rel => exact ⟨d + 1, false, by omega, by go_num, rfl, miss_step HW.out WY.out, B5.out⟩
                            case measure => simp [intOf]; omega
                    · exfalso
                      obtain ⟨d', hd', hz⟩ := MISS.out (miss_six HW.out)
                      have := (HW.out rfl).2 d' (by omega)
                      omega
                  · by_cases hltd : d < 10
                    · have d9 : decide ((d : Int) ≤ 9) = true := decide_eq_true (by omega)
                      go_wp2_with fail
                      go_ret
                      exact ⟨rfl, BX.out.trans (BD.out.mono BX.out.size)⟩
                    · have d9 : decide ((d : Int) ≤ 9) = false := decide_eq_false (by omega)
                      go_wp2_with fail
                      go_ret
                      exact ⟨rfl, BX.out.trans (BD.out.mono BX.out.size)⟩
              · have e6 : ((m : Int) == 6) = false := beq_eq_false_iff_ne.2 (by omega)
                have HM6 := Lib.hid (miss_start (rs := rs) h6)
                clear h6
                go_wp2_with fail
                clear d2 d2' e6
                go_loopw [11, 12] (fun mi i wr => ∃ d : Nat, ∃ M : Bool, d ≤ 10 ∧ i = .int .i64 (d : Int) ∧ mi = .bool M ∧ Miss rs m d M ∧ Below wx.heap.size wx wr) (fun _ i _ => 10 - (intOf i).toNat)
                case atStart => exact ⟨0, _, by omega, rfl, rfl, HM6.out, Below.refl _ _⟩
                case round =>
                  obtain ⟨d, M, hd, rfl, rfl, hMw, hbd⟩ := hrel
                  have BD := Lib.hid hbd
                  have HW := Lib.hid hMw
                  clear hbd hMw
                  cases M
                  · by_cases hltd : d < 10
                    · have d9 : decide ((d : Int) ≤ 9) = true := decide_eq_true (by omega)
                      have m6 : m ≤ 5 := by have := miss_six HW.out; omega
                      have NW2 := Lib.hid (own_new wr wr.heap.size (Nat.le_refl _))
                      have BN2 := Lib.hid ((Below.refl wr.heap.size wr).alloc (Nat.le_refl _) (.cells #[] 3))
                      obtain ⟨wo, hwo⟩ : ∃ wo, wo = wr := ⟨_, rfl⟩
                      subst hwo
                      go_wp2_with fail
                      go_loopw [13, 14] (fun s i wr => ∃ j c : Nat, ∃ ad : Option Addr, ∃ out : List Int, j ≤ m + 1 ∧ s = .slice ad out.length c ∧ i = .int .i64 (j : Int) ∧ out = List.replicate j (d : Int) ∧ out.length = j ∧ Own wr wo.heap.size wr.heap.size (.slice ad out.length c) out ∧ Below wo.heap.size wo wr) (fun _ i _ => m + 1 - (intOf i).toNat)
                      case atStart => exact ⟨0, 0, some ⟨wo.heap.size, 0, none⟩, [], by omega, rfl, rfl, rfl, rfl, NW2.out.all, BN2.out⟩
                      case round =>
                        obtain ⟨j2, c2, ad2, out2, hj2, rfl, rfl, he2, hl2, ho2, hb2⟩ := hrel
                        have hsz2 := hb2.size
                        have HE2 := Lib.hid he2
                        have HL2 := Lib.hid hl2
                        have HO2 := Lib.hid ho2
                        have HB2 := Lib.hid hb2
                        have hol2 : out2.length ≤ 6 := by omega
                        clear he2 hl2 ho2 hb2
                        by_cases hlt2 : j2 < m + 1
                        · have o2 := HO2.out
                          go_wp2_with (at_builtin; refine wpList_push rfl _ _ rfl wr wo.heap.size wr.heap.size (d : Int) out2 ad2 c2 rfl rfl o2 (by omega) (by omega) ?_; intro ad' c' w3 o3 b3 s3)
                          have O3 := Lib.hid o3
                          have B3 := Lib.hid (HB2.out.trans b3)
                          clear o2 o3 b3
                          go_wp2_with fail
                          go_roundw
                          case rel =>
                            refine ⟨j2 + 1, c', ad', out2 ++ [(d : Int)], by omega, by simp, by go_num, by rw [HE2.out, List.replicate_succ'], by simp [HL2.out], ?_, B3.out⟩
                            have := O3.out
                            simpa using this
                          case measure => simp [intOf]; omega
                        · have OR := Lib.hid HO2.out.row
                          have e1 : out2 = List.replicate (m + 1) (d : Int) := by rw [HE2.out, show j2 = m + 1 by omega]
                          have e2 : out2.length = m + 1 := by rw [HL2.out]; omega
                          have CS2 : caseShows rs out2 = decide (0 < ways rs (List.replicate (m + 1) (d : Int)) free) := by
                            rw [caseShows_yes OK.out (isNum_mk (by omega) (by omega) (fun x hx => by rw [e1] at hx; have := List.eq_of_mem_replicate hx; omega)), e1]
                          have RO := Lib.hid ((RX.out.below BD.out).below HB2.out)
                          have BZ := Lib.hid (BD.out.trans (HB2.out.mono BD.out.size))
                          clear e1 e2
                          cases hway : decide (0 < ways rs (List.replicate (m + 1) (d : Int)) free)
                          · rw [hway] at CS2
                            have CC := Lib.hid CS2
                            clear CS2 hway
                            go_wp2_with fail
                            refine (implCaseShows_any _ _ _ _ _ _ _ RO.out SM.out OR.out (by omega)).mono ?_
                            rintro e w5 ⟨rfl, b5⟩
                            rw [CC.out]
                            have B5 := Lib.hid (BZ.out.trans (b5.mono BZ.out.size))
                            clear b5
                            go_wp2_with fail
                            go_roundw
                            case rel => exact ⟨d + 1, true, by omega, by go_num, rfl, miss_true rs m (d + 1), B5.out⟩
                            case measure => simp [intOf]; omega
                          · rw [hway] at CS2
                            have CC := Lib.hid CS2
                            have WY := Lib.hid (of_decide_eq_true hway)
                            clear CS2 hway
                            go_wp2_with fail
                            refine (implCaseShows_any _ _ _ _ _ _ _ RO.out SM.out OR.out (by omega)).mono ?_
                            rintro e w5 ⟨rfl, b5⟩
                            rw [CC.out]
                            have B5 := Lib.hid (BZ.out.trans (b5.mono BZ.out.size))
                            clear b5
                            go_wp2_with fail
                            go_roundw
                            case rel => exact ⟨d + 1, false, by omega, by go_num, rfl, miss_step HW.out WY.out, B5.out⟩
                            case measure => simp [intOf]; omega
                    · exfalso
                      obtain ⟨d', hd', hz⟩ := MISS.out (miss_six HW.out)
                      have := (HW.out rfl).2 d' (by omega)
                      omega
                  · by_cases hltd : d < 10
                    · have d9 : decide ((d : Int) ≤ 9) = true := decide_eq_true (by omega)
                      go_wp2_with fail
                      go_ret
                      exact ⟨rfl, BX.out.trans (BD.out.mono BX.out.size)⟩
                    · have d9 : decide ((d : Int) ≤ 9) = false := decide_eq_false (by omega)
                      go_wp2_with fail
                      go_ret
                      exact ⟨rfl, BX.out.trans (BD.out.mono BX.out.size)⟩
end Go.Proofs.Ythgecmdmoghmpaa
