
/-
  The contract of the reference that writes units. Condition: lists of at most 2^20 numbers.
-/
import Derived.Test.YtapcnpkaphdlkaaDoorTextUP
namespace Go.Proofs.YtapcnpkaphdlkaaDoor
open Go.RowKit

set_option maxHeartbeats 400000 in
theorem specUnitsText_any (w : World) (a : Option Addr) (cap : Nat) (zs : List Int) (h : Row .i64 w a zs) (hl : zs.length ≤ 1048576) :
    Calls Tryd.prog 9 #[.slice a zs.length cap] w fun e w' => e = .returned (.string (unitsText zs)) ∧ Below w.heap.size w w' := by
  have H := Lib.hid h
  clear h
  cases hb : isUnits zs
  · have HB := Lib.hid hb
    clear hb
    go_enter Tryd.func9, Tryd.ntmps9
    go_wp2_with fail
    refine (specUnitsValid_any _ _ _ _ H.out (by omega)).mono ?_
    rintro e w' ⟨rfl, rfl⟩
    rw [HB.out]
    go_wp2_with fail
    go_ret
    exact ⟨ret_s (unitsText_no HB.out).symm, Below.refl _ _⟩
  · obtain ⟨hg, h8⟩ := isUnits_parts hb
    have HB := Lib.hid hb
    have HG := Lib.hid hg
    have TL := Lib.hid (fun k => word_len hg k)
    have LEN := Lib.hid (fun n k => pre_len (n := n) (word_len hg) k)
    clear hb hg
    by_cases h0 : zs.length = 0
    · have UT := Lib.hid (unitsText_nil HB.out h0)
      have H0 := Lib.hid h0
      clear h0
      go_enter Tryd.func9, Tryd.ntmps9
      go_wp2_with fail
      refine (specUnitsValid_any _ _ _ _ H.out (by omega)).mono ?_
      rintro e w' ⟨rfl, rfl⟩
      rw [HB.out]
      have h0 := H0.out
      go_wp2_with fail
      go_ret
      exact ⟨ret_s UT.out.symm, Below.refl _ _⟩
    · have UT := Lib.hid (unitsText_yes HB.out h0)
      have e0 : ((zs.length : Int) == 0) = false := beq_eq_false_iff_ne.2 (by omega)
      have e1 : (zs.length == 0) = false := beq_eq_false_iff_ne.2 h0
      have H0 := Lib.hid h0
      clear h0
      go_enter Tryd.func9, Tryd.ntmps9
      go_wp2_with fail
      refine (specUnitsValid_any _ _ _ _ H.out (by omega)).mono ?_
      rintro e w' ⟨rfl, rfl⟩
      rw [HB.out]
      go_wp2_with fail
      go_loopw [3, 4] (fun s i wr => ∃ k : Nat, k ≤ zs.length ∧ i = .int .i64 (k : Int) ∧ s = .string (str (pre (unitWord zs) plusSep k k)) ∧ Below w.heap.size w wr) (fun _ i _ => zs.length - (intOf i).toNat)
      case atStart => exact ⟨0, by omega, rfl, rfl, Below.refl _ _⟩
      case round =>
        obtain ⟨k, hk, rfl, rfl, hb⟩ := hrel
        have BB := Lib.hid hb
        have hs : (str (pre (unitWord zs) plusSep k k)).size ≤ 120 := by rw [str_size]; have := LEN.out k k; omega
        clear hb
        by_cases hlt : k < zs.length
        · have RB := Lib.hid (H.out.below BB.out)
          obtain ⟨b, off, rfl, _, hc⟩ := RB.out.at_ hlt
          have hd := good_mem HG.out _ (nth_mem zs k hlt)
          obtain ⟨d, hd'⟩ : ∃ d : Nat, nth zs k = d := ⟨(nth zs k).toNat, by omega⟩
          rw [hd'] at hc hd
          have FT := Lib.hid (show unitWord zs k = [49, 47] ++ Lib.decDigits d by rw [unitWord, hd']; rfl)
          have hdl : (str (Lib.decDigits d)).size ≤ 15 := by rw [str_size]; have := TL.out k; rw [FT.out] at this; simp at this; omega
          clear hd'
          by_cases hk0 : k = 0
          · subst hk0
            rw [Nat.add_zero] at hc
            go_wp2_with fail
            refine (l6Dec_any d d _ _ (Nat.le_refl _) rfl (by omega)).mono ?_
            rintro e w2 ⟨rfl, b2⟩
            have B2 := Lib.hid (BB.out.trans (b2.mono BB.out.size))
            clear b2
            go_wp2_with fail
            go_roundw
            case rel => exact ⟨1, by omega, rfl, by rw [pre_one, FT.out]; rfl, B2.out⟩
            case measure => simp [intOf]; omega
          · have PG := Lib.hid (pre_grow (unitWord zs) plusSep k (by omega))
            have g0 : decide ((0 : Int) < (k : Int)) = true := decide_eq_true (by omega)
            have g1 : decide (0 < k) = true := decide_eq_true (by omega)
            go_wp2_with fail
            refine (l6Dec_any d d _ _ (Nat.le_refl _) rfl (by omega)).mono ?_
            rintro e w2 ⟨rfl, b2⟩
            have B2 := Lib.hid (BB.out.trans (b2.mono BB.out.size))
            clear b2
            go_wp2_with fail
            go_roundw
            case rel =>
              refine ⟨k + 1, by omega, by go_num, ?_, B2.out⟩
              rw [PG.out, FT.out]
              show Value.string (str (pre (unitWord zs) plusSep k k) ++ str plusSep ++ str [49, 47] ++ str (Lib.decDigits d)) = _
              rw [str_add, str_add, str_add]
              simp
            case measure => simp [intOf]; omega
        · obtain rfl : k = zs.length := by omega
          go_wp2_with fail
          go_ret
          exact ⟨ret_s UT.out.symm, BB.out⟩
end Go.Proofs.YtapcnpkaphdlkaaDoor
