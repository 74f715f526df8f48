
/-
  The walk of the law FnStripTimes: strips need no sums: it returns true for every code.
-/
import Derived.Test.YtpipbgigihameaaLawsN
namespace Go.Proofs.Ytpipbgigihameaa
open Go.RowKit

theorem sameInts_quiet (w : World) (a b : Option Addr) (ca cb n : Nat) (zs : List Int) (hn : zs.length = n) (ha : Row .i64 w a zs) (hb : Row .i64 w b zs) (hl : zs.length ≤ 1048576) :
    Calls Try.prog 24 #[.slice a n ca, .slice b n cb] w fun e w' => e = .returned (.bool true) ∧ ∃ m, w' = w.drewN m := by
  subst hn
  have HA := Lib.hid ha
  have HB := Lib.hid hb
  clear ha hb
  go_enter Try.func24, Try.ntmps24
  go_wp2
  go_loopw [5] (fun i wr => ∃ k n : Nat, k ≤ zs.length ∧ i = .int .i64 k ∧ wr = w.drewN n) (fun i _ => zs.length - (intOf i).toNat)
  case atStart => exact ⟨0, 0, Nat.zero_le _, rfl, rfl⟩
  case round =>
    obtain ⟨k, n, hk, rfl, rfl⟩ := hrel
    by_cases hlt : k < zs.length
    · obtain ⟨b1, o1, rfl, _, hc1⟩ := HA.out.at_ hlt
      obtain ⟨b2, o2, rfl, _, hc2⟩ := HB.out.at_ hlt
      go_wp2
      go_quiet (fail)
      go_wp2
      go_roundw
      case rel => exact ⟨k + 1, _, by omega, by go_num, rfl⟩
      case measure => simp [intOf]; omega
    · go_wp2
      go_ret
      exact ⟨rfl, n, rfl⟩
theorem quiet_more {P : Program} {f : FuncId} {args : Array Value} {w : World} {n : Nat} {v : Value}
    (h : Calls P f args (w.drewN n) fun e w' => e = .returned v ∧ ∃ m, w' = (w.drewN n).drewN m) : Calls P f args (w.drewN n) fun e w'' => e = .returned v ∧ ∃ m, w'' = w.drewN m :=
  h.mono fun _ _ ⟨he, m, hm⟩ => ⟨he, n + m, hm.trans (World.drewN_drewN _ _ _)⟩
theorem Row.drop_ {k : IntKind} {w : World} {b off : Nat} {zs : List Int} (h : Row k w (some ⟨b, off, none⟩) zs) (n : Nat) : Row k w (some ⟨b, off + n, none⟩) (zs.drop n) := fun hn => by
  have hl : n < zs.length := by rw [List.length_drop] at hn; omega
  obtain ⟨b', off', e, hlt, hc⟩ := h (by omega)
  injection e with e
  injection e with e1 e2
  subst e1 e2
  refine ⟨b, off + n, rfl, hlt, fun i hi => ?_⟩
  have := hc (n + i) (by rw [List.length_drop] at hi; omega)
  rw [Nat.add_assoc, this]
  simp [nth]

set_option maxRecDepth 100000 in
set_option maxHeartbeats 1000000 in
theorem fnStripTimes_walk (a : Option Addr) (cap : Nat) (zs : List Int) (w : World) (h : InRow .u8 w a cap zs) :
    Calls Try.prog 10 #[.slice a zs.length cap] w fun e w' => e = .returned (.bool true) ∧ Below w.heap.size w w' := by
  have hfit := h.fits
  have hlim := h.lim
  unfold maxLen at hlim
  have H := Lib.hid h
  clear h
  by_cases hl : 1048576 < zs.length
  · go_enter Try.func10, Try.ntmps10
    go_wp2_with fail
    go_ret
    exact ⟨rfl, Below.refl _ _⟩
  · go_enter Try.func10, Try.ntmps10
    go_wp2_with fail
    refine (drawStripTimes_any _ _ _ _ H.out).mono ?_
    rintro e w1 ⟨a1, c1, ys, t, rfl, _, hl7, t0, t1, o1, b1⟩
    have O1 := Lib.hid o1
    have B1 := Lib.hid b1
    clear o1 b1
    cases hn : isNum ys && inB t 0 9
    · have E := Lib.hid (show stripTimes ys t = ([], false) by unfold stripTimes; rw [hn]; rfl)
      clear hn
      go_wp2_with fail
      refine (implStripTimes_any _ _ _ _ O1.out.row (by omega) _ [] false E.out).mono ?_
      rintro e w2 ⟨a2, c2, rfl, o2, b2⟩
      have B2 := Lib.hid (B1.out.trans (b2.mono B1.out.size))
      have P2 := Lib.hid (O1.out.below (b2.mono O1.out.lim))
      clear b2 o2
      go_wp2_with fail
      refine (specStripTimes_any _ _ _ _ P2.out.row (by omega) _ [] false E.out).mono ?_
      rintro e w3 ⟨a3, c3, rfl, o3, b3⟩
      have B3 := Lib.hid (B2.out.trans (b3.mono B2.out.size))
      clear b3 o3
      go_wp2_with fail
      refine (sameInts_same _ _ _ _ _ [] Row.nil_ Row.nil_ (by simp)).mono ?_
      rintro e w4 ⟨rfl, b4⟩
      have B4 := Lib.hid (B3.out.trans (b4.mono B3.out.size))
      clear b4
      go_wp2_with fail
      refine (sameInts_same _ _ _ _ _ [] Row.nil_ Row.nil_ (by simp)).mono ?_
      rintro e w5 ⟨rfl, b5⟩
      have B5 := Lib.hid (B4.out.trans (b5.mono B4.out.size))
      clear b5
      go_wp2_with fail
      go_ret
      exact ⟨rfl, B5.out⟩
    · obtain ⟨hnum, ht⟩ : isNum ys = true ∧ inB t 0 9 = true := by simpa using hn
      obtain ⟨hdg, hl1, hl6⟩ := isNum_parts hnum
      obtain ⟨tt0, tt9⟩ := inB_true ht
      have E := Lib.hid (stripTimes_yes hnum ht)
      have VS := Lib.hid (strip_val' t ys)
      have RD := Lib.hid (rodTimes_yes hnum ht)
      have DD := Lib.hid (strip_digits tt0 tt9 hdg)
      have LEN := Lib.hid (show ((stripR t ys).1 :: (stripR t ys).2).length = ys.length + 1 by simp [stripR_len])
      have HNUM := Lib.hid hnum
      have HT := Lib.hid ht
      clear hn hnum ht hdg
      generalize hrs : (stripR t ys).1 :: (stripR t ys).2 = rs at *
      have HRS := Lib.hid hrs
      clear hrs
      have rl : rs.length ≤ 7 := by rw [LEN.out]; omega
      go_wp2_with fail
      refine (implStripTimes_any _ _ _ _ O1.out.row (by omega) _ rs true E.out).mono ?_
      rintro e w2 ⟨a2, c2, rfl, o2, b2⟩
      have B2 := Lib.hid (B1.out.trans (b2.mono B1.out.size))
      have P2 := Lib.hid (O1.out.below (b2.mono O1.out.lim))
      have Q2 := Lib.hid o2
      clear b2 o2
      go_wp2_with fail
      refine (specStripTimes_any _ _ _ _ P2.out.row (by omega) _ rs true E.out).mono ?_
      rintro e w3 ⟨a3, c3, rfl, o3, b3⟩
      have B3 := Lib.hid (B2.out.trans (b3.mono B2.out.size))
      have P3 := Lib.hid (P2.out.below (b3.mono P2.out.lim))
      have Q3 := Lib.hid (Q2.out.below (b3.mono Q2.out.lim))
      have R3 := Lib.hid o3
      clear b3 o3
      go_wp2_with fail
      refine (sameInts_same _ _ _ _ _ rs Q3.out.row R3.out.row (by omega)).mono ?_
      rintro e w4 ⟨rfl, b4⟩
      have B4 := Lib.hid (B3.out.trans (b4.mono B3.out.size))
      have P4 := Lib.hid (P3.out.below (b4.mono P3.out.lim))
      have Q4 := Lib.hid (Q3.out.below (b4.mono Q3.out.lim))
      clear b4
      go_wp2_with fail
      refine (valueOf_any _ _ _ _ Q4.out.row (by omega) DD.out).mono ?_
      rintro e w' ⟨rfl, rfl⟩
      rw [VS.out]
      go_wp2_with fail
      refine (implRodTimes_any _ _ _ _ P4.out.row (by omega) _).mono ?_
      rintro e w5 ⟨rfl, b5⟩
      rw [RD.out]
      have B5 := Lib.hid (B4.out.trans (b5.mono B4.out.size))
      have P5 := Lib.hid (P4.out.below (b5.mono P4.out.lim))
      have Q5 := Lib.hid (Q4.out.below (b5.mono Q4.out.lim))
      clear b5
      have e7 : ((rs.length : Int) != (ys.length : Int) + 1) = false := by rw [LEN.out]; simp
      by_cases hone : ys.length = 1
      · have e1 : ((ys.length : Int) == 1) = true := by rw [beq_iff_eq]; omega
        clear hone
        go_wp2_with fail
        go_ret
        exact ⟨rfl, B5.out⟩
      · have e1 : ((ys.length : Int) == 1) = false := beq_eq_false_iff_ne.2 (by omega)
        obtain ⟨x0, xs, rfl⟩ : ∃ x0 xs, ys = x0 :: xs := by cases ys with | nil => simp at hl1 | cons x0 xs => exact ⟨x0, xs, rfl⟩
        have xl : 1 ≤ xs.length := by rw [List.length_cons] at hone; omega
        have NT := Lib.hid (show isNum xs = true from isNum_drop HNUM.out (k := 1) (by simp; omega))
        have ET := Lib.hid (stripTimes_yes NT.out HT.out)
        obtain ⟨b, off, rfl, _, _⟩ := P5.out.row.at_ (i := 0) (by simp)
        have RT := Lib.hid (show Row .i64 w5 (some ⟨b, off + 1, none⟩) xs from P5.out.row.drop_ 1)
        obtain ⟨cl, cm⟩ := P5.out.cap_le
        have cl1 : 1 < c1 := by rw [List.length_cons] at cl; omega
        have hlc : (x0 :: xs).length = xs.length + 1 := List.length_cons
        have HLC := Lib.hid hlc
        have TR := Lib.hid (show rs.drop 2 = (stripR t xs).2 by rw [← HRS.out]; rfl)
        have TL := Lib.hid (stripR_len t xs)
        have hl5 : xs.length ≤ 5 := by omega
        clear hlc hone cl
        rw [HLC.out]
        have e1' : (((xs.length + 1 : Nat) : Int) == 1) = false := beq_eq_false_iff_ne.2 (by omega)
        have e7' : ((rs.length : Int) != ((xs.length + 1 : Nat) : Int) + 1) = false := by rw [LEN.out, HLC.out]; simp
        clear e1 e7
        go_wp2_with fail
        refine (implStripTimes_any _ _ _ xs RT.out (by omega) _ _ true ET.out).mono ?_
        rintro e w6 ⟨a6, c6, rfl, o6, b6⟩
        have B6 := Lib.hid (B5.out.trans (b6.mono B5.out.size))
        have Q6 := Lib.hid (Q5.out.below (b6.mono Q5.out.lim))
        have R6 := Lib.hid o6
        obtain ⟨g6, rfl, _, _, _, _⟩ := o6.at_ (i := 0) (by simp)
        obtain ⟨d6, f6, rfl, _, _⟩ := Q6.out.row.at_ (i := 0) (by rw [LEN.out]; omega)
        obtain ⟨k6, _⟩ := R6.out.cap_le
        obtain ⟨k7, _⟩ := Q6.out.cap_le
        rw [LEN.out, HLC.out] at k7
        rw [List.length_cons, TL.out] at k6
        have X6 := Lib.hid (show Row .i64 w6 (some ⟨g6, 0 + 1, none⟩) (stripR t xs).2 from R6.out.row.drop_ 1)
        have Y6 := Lib.hid (show Row .i64 w6 (some ⟨d6, f6 + 2, none⟩) (stripR t xs).2 by rw [← TR.out]; exact Q6.out.row.drop_ 2)
        clear b6 o6
        rw [List.length_cons, TL.out, LEN.out, HLC.out]
        have SQ := Lib.hid (fun (n : Nat) => sameInts_quiet (w6.drewN n) (some ⟨g6, 0 + 1, none⟩) (some ⟨d6, f6 + 2, none⟩) (c6 - 1) (c2 - 2) xs.length (stripR t xs).2 TL.out (X6.out.drewN n) (Y6.out.drewN n) (by rw [TL.out]; omega))
        rw [Nat.zero_add] at SQ
        generalize xs.length = n at *
        have j1 : 1 ≤ n + 1 := by omega
        have j2 : n + 1 ≤ c6 := by omega
        have j3 : 2 ≤ n + 1 + 1 := by omega
        have j4 : n + 1 + 1 ≤ c2 := by omega
        have j5 : ¬ (c6 = 1) := by omega
        have j6 : ¬ (c2 = 2) := by omega
        have j7 : (1 : Int) ≤ (n : Int) + 1 := by omega
        have j8 : (2 : Int) ≤ (n : Int) + 1 + 1 := by omega
        go_wp2_with fail
        go_quiet ((go_at_call 24; exact quiet_more (SQ.out _)))
        go_wp2_with fail
        go_ret
        exact ⟨rfl, below_drewN B6.out _⟩
end Go.Proofs.Ytpipbgigihameaa
