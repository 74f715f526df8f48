
/-
  The contract of the implementation that writes units. Condition: lists of at most 2^20 numbers; the listed table of powers of ten.
-/
import Derived.Test.YtapcnpkaphdlkaaDoorTextUP
import Derived.Deep.LoopGhost
namespace Go.Proofs.YtapcnpkaphdlkaaDoor
open Go.RowKit

set_option maxRecDepth 100000 in
set_option maxHeartbeats 400000 in
theorem implUnitsText_any (w : World) (a : Option Addr) (cap : Nat) (zs : List Int) (h : Row .i64 w a zs) (hl : zs.length ≤ 1048576) (ht : Pow10 w) :
    Calls Tryd.prog 10 #[.slice a zs.length cap] w fun e w' => e = .returned (.string (unitsText zs)) ∧ Below w.heap.size w w' := by
  have H := Lib.hid h
  have HT := Lib.hid ht
  clear h ht
  cases hb : isUnits zs
  · have HB := Lib.hid hb
    clear hb
    go_enter Tryd.func10, Tryd.ntmps10
    go_wp2_with fail
    refine (unitsOf_any _ _ _ _ H.out (by omega)).mono ?_
    rintro e w1 ⟨p, rfl, _, _, b1⟩
    rw [HB.out]
    have B1 := Lib.hid b1
    clear b1
    go_wp2_with fail
    go_ret
    exact ⟨ret_s (unitsText_no HB.out).symm, B1.out⟩
  · obtain ⟨hg, h8⟩ := isUnits_parts hb
    have HB := Lib.hid hb
    have HG := Lib.hid hg
    have TL := Lib.hid (fun k => word_len hg k)
    have PL := Lib.hid (pre_len (n := zs.length) (word_len hg) zs.length)
    clear hb hg
    by_cases h0 : zs.length = 0
    · have UT := Lib.hid (unitsText_nil HB.out h0)
      have H0 := Lib.hid h0
      clear h0
      go_enter Tryd.func10, Tryd.ntmps10
      go_wp2_with fail
      refine (unitsOf_any _ _ _ _ H.out (by omega)).mono ?_
      rintro e w1 ⟨p, rfl, hch, _, b1⟩
      have ch := hch HB.out
      rw [List.eq_nil_of_length_eq_zero H0.out] at ch
      obtain rfl : p = none := ch
      rw [HB.out]
      have B1 := Lib.hid b1
      clear b1 hch
      go_wp2_with fail
      go_ret
      exact ⟨ret_s UT.out.symm, B1.out⟩
    · have UT := Lib.hid (unitsText_yes HB.out h0)
      obtain ⟨i0, hi, hz0, hz1, hz2⟩ := info_parts str_info
      have HI := Lib.hid (And.intro hi (And.intro hz0 (And.intro hz1 hz2)))
      clear hi hz0 hz1 hz2
      go_enter Tryd.func10, Tryd.ntmps10
      go_wp2_with fail
      refine (unitsOf_any _ _ _ _ H.out (by omega)).mono ?_
      rintro e w1 ⟨p, rfl, hch, _, b1⟩
      have CH := Lib.hid (hch HB.out)
      obtain ⟨g0, rfl⟩ : ∃ g0, p = some ⟨g0, 0, none⟩ := by
        have ch := CH.out
        match hz : zs, h0, ch with
        | x :: xs, _, ch => obtain ⟨g, next, h1, _⟩ := ch; exact ⟨g, h1⟩
      rw [HB.out]
      have B1 := Lib.hid b1
      have T1 := Lib.hid (Lib.tabBelow_of_tabIs (pow10_below HT.out b1))
      have N0 := Lib.hid (World.ownsRow_nil w1 w1.heap.size 9 1)
      clear b1 hch
      go_wp2_with fail
      go_loopg [5, 6] zs.length (fun m v c wr => ∃ k : Nat, ∃ q : Option Addr, k + m = zs.length ∧ c = .pointer q ∧ wr.ownsRow w1.heap.size 9 1 v k (SV (words (unitWord zs) k)) ∧ Chain w1 w.heap.size w1.heap.size q (zs.drop k) ∧ Below w1.heap.size w1 wr)
      case atStart => exact ⟨0, _, by omega, rfl, N0.out, CH.out, Below.refl _ _⟩
      case round =>
        obtain ⟨k, q, hk, rfl, hown, hch, hb⟩ := hrel
        have HK := Lib.hid hk
        have HB2 := Lib.hid hb
        have hsz := hb.size
        by_cases hlt : k < zs.length
        · have hd := good_mem HG.out _ (nth_mem zs k hlt)
          rw [drop_cons' hlt] at hch
          obtain ⟨g, next, rfl, hfix, hch2⟩ := hch.fixed
          obtain ⟨d, hd'⟩ : ∃ d : Nat, nth zs k = d := ⟨(nth zs k).toNat, by omega⟩
          rw [hd'] at hfix hd
          have FT := Lib.hid (show unitWord zs k = [49, 47] ++ Lib.decDigits d by rw [unitWord, hd']; rfl)
          have hdl : (str (Lib.decDigits d)).size ≤ 15 := by rw [str_size]; have := TL.out k; rw [FT.out] at this; simp at this; omega
          have FX := Lib.hid hfix
          have CH2 := Lib.hid hch2
          have TB := Lib.hid (T1.out wr hb)
          have OW := Lib.hid hown
          obtain ⟨hc0, hc1⟩ := hfix wr hb
          clear hd' hk hfix hch hch2 hb hown
          go_wp2_with fail
          refine (itoa_any d (by omega) _ TB.out).mono ?_
          rintro e w3 ⟨rfl, kk, oo, hw3⟩
          have hown3 := Lib.ownsRow_grow OW.out kk oo
          rw [← hw3] at hown3
          have hb3 : Below w1.heap.size w1 w3 := by rw [hw3]; exact HB2.out.trans (Lib.below_grow _ _ hsz kk oo)
          have hs3 : w1.heap.size ≤ w3.heap.size := hb3.size
          have HB3 := Lib.hid hb3
          clear hw3 hb3
          go_wp2_with (at_builtin; refine wpList_append_own _ rfl _ _ 32 rfl w1.heap.size 9 i0 (.string ⟨#[]⟩) 1 16 Tryd.underlying32 HI.out.1 HI.out.2.1 HI.out.2.2.1 HI.out.2.2.2 rfl (by decide) _ _ _ rfl (hown3.alloc _) ⟨w3.heap.size, 0, none⟩ 1 1 [.string ((⟨#[49, 47]⟩ : ByteArray) ++ str (Lib.decDigits d))] rfl rfl (news_one _ _ _) (news_one1 rfl) (by unfold maxLen; omega) (by omega) (by simp; omega) ?_; intro v' w5 hown2 hgrow2 _; have B5 := Lib.hid (show Below w1.heap.size w1 w5 from (HB3.out.alloc hs3 _).grown hgrow2 (by simp; omega) (fun r hr => (hown3.lt r hr).1)); have HO2 := Lib.hid hown2; obtain ⟨_, hc15⟩ := FX.out w5 B5.out; clear hown2 hgrow2 hown3)
          go_roundg (gk - 1)
          case measure => have := HK.out; omega
          case rel =>
            refine ⟨k + 1, next, by have := HK.out; omega, rfl, ?_, CH2.out, B5.out⟩
            have := HO2.out
            rw [SV_snoc, show (⟨#[49, 47]⟩ : ByteArray) ++ str (Lib.decDigits d) = str (unitWord zs k) by rw [FT.out, ← str_add]; rfl, words_succ] at this
            exact this
        · obtain rfl : k = zs.length := by omega
          rw [List.drop_of_length_le (by omega)] at hch
          obtain rfl : q = none := hch
          obtain ⟨gw, cw, rfl, J⟩ := join_any (unitWord zs) plusSep zs.length (by omega) wr _ _ hown (by have := PL.out; omega) (by omega)
          have JJ := Lib.hid J
          clear J hown hk hb
          go_wp2_with fail
          refine JJ.out.mono ?_
          rintro e w5 ⟨rfl, b5⟩
          have B5 := Lib.hid ((B1.out.trans (HB2.out.mono B1.out.size)).trans (b5.mono (by have := B1.out.size; omega)))
          clear b5
          go_wp2_with fail
          go_ret
          exact ⟨ret_s UT.out.symm, B5.out⟩
end Go.Proofs.YtapcnpkaphdlkaaDoor
