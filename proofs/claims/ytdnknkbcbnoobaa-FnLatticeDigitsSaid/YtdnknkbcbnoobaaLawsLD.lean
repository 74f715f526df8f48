
/-
  The walk of the law FnLatticeDigits: the product has as many digits as both: it returns true for every code.
-/
import Derived.Test.YtdnknkbcbnoobaaLawsL
import Derived.Test.YtdnknkbcbnoobaaRod
import Derived.IntWalk
namespace Go.Proofs.Ytdnknkbcbnoobaa
open Go.RowKit

set_option maxRecDepth 100000 in
set_option maxHeartbeats 2000000 in
theorem fnLatticeDigits_walk (a : Option Addr) (cap : Nat) (zs : List Int) (w : World) (h : InRow .u8 w a cap zs) :
    Calls Try.prog 7 #[.slice a zs.length cap] w fun e w' => e = .returned (.bool true) ∧ Below w.heap.size w w' := by
  have hfit := h.fits
  have hlim := h.lim
  unfold maxLen at hlim
  have H := Lib.hid h
  clear h
  by_cases hl : 1048576 < zs.length
  · go_enter Try.func7, Try.ntmps7
    go_wp2_with fail
    go_ret
    exact ⟨rfl, Below.refl _ _⟩
  · go_enter Try.func7, Try.ntmps7
    go_wp2_with fail
    refine (drawLatticeDigits_any _ _ _ _ H.out).mono ?_
    rintro e w1 ⟨a1, c1, xs, a2, c2, ys, rfl, hlx, hly, rx, ry, b1⟩
    have B1 := Lib.hid b1
    have X1 := Lib.hid rx
    have Y1 := Lib.hid ry
    clear b1 rx ry
    cases hn : isNum xs && isNum ys
    · have E := Lib.hid (latDigits_no hn)
      clear hn
      go_wp2_with fail
      refine (implLatticeDigits_any _ _ _ _ X1.out (by omega) _ _ _ Y1.out (by omega) [] false E.out).mono ?_
      rintro e w2 ⟨a3, c3, rfl, o2, b2⟩
      have B2 := Lib.hid (B1.out.trans (b2.mono B1.out.size))
      have X2 := Lib.hid (X1.out.below b2)
      have Y2 := Lib.hid (Y1.out.below b2)
      clear b2 o2
      go_wp2_with fail
      refine (specLatticeDigits_any _ _ _ _ X2.out (by omega) _ _ _ Y2.out (by omega) [] false E.out).mono ?_
      rintro e w3 ⟨a4, c4, rfl, o3, b3⟩
      have B3 := Lib.hid (B2.out.trans (b3.mono B2.out.size))
      clear b3 o3
      go_wp2_with fail
      refine (sameInts_same _ _ _ _ _ [] Row.nil_ Row.nil_ (by simp)).mono ?_
      rintro e w4 ⟨rfl, b4⟩
      have B4 := Lib.hid (B3.out.trans (b4.mono B3.out.size))
      clear b4
      go_wp2_with fail
      refine (sameInts_same _ _ _ _ _ [] Row.nil_ Row.nil_ (by simp)).mono ?_
      rintro e w5 ⟨rfl, b5⟩
      have B5 := Lib.hid (B4.out.trans (b5.mono B4.out.size))
      clear b5
      go_wp2_with fail
      go_ret
      exact ⟨rfl, B5.out⟩
    · obtain ⟨hx, hy⟩ := both_true hn
      obtain ⟨dx, lx1, lx6⟩ := isNum_parts hx
      obtain ⟨dy, ly1, ly6⟩ := isNum_parts hy
      have E := Lib.hid (latDigits_yes hx hy)
      have LL := Lib.hid (latDig_len xs ys)
      have LST := Lib.hid (latDig_last (xs := xs) (ys := ys) lx1 ly1)
      have DG := Lib.hid (show digs (latDig xs ys) = true from car_digs _ _)
      have xd := digs_nth dx (i := xs.length - 1) (by omega)
      have yd := digs_nth dy (i := ys.length - 1) (by omega)
      have RC := Lib.hid (rodCell_of (inB_mk xd.1 xd.2) (inB_mk yd.1 yd.2))
      generalize latDig xs ys = rs at *
      have rl : rs.length ≤ 12 := by rw [LL.out]; omega
      have rl1 : 2 ≤ rs.length := by rw [LL.out]; omega
      clear hn hx hy dx dy
      go_wp2_with fail
      refine (implLatticeDigits_any _ _ _ _ X1.out (by omega) _ _ _ Y1.out (by omega) rs true E.out).mono ?_
      rintro e w2 ⟨a3, c3, rfl, o2, b2⟩
      have B2 := Lib.hid (B1.out.trans (b2.mono B1.out.size))
      have X2 := Lib.hid (X1.out.below b2)
      have Y2 := Lib.hid (Y1.out.below b2)
      have O2 := Lib.hid o2.row
      clear b2 o2
      go_wp2_with fail
      refine (specLatticeDigits_any _ _ _ _ X2.out (by omega) _ _ _ Y2.out (by omega) rs true E.out).mono ?_
      rintro e w3 ⟨a4, c4, rfl, o3, b3⟩
      have B3 := Lib.hid (B2.out.trans (b3.mono B2.out.size))
      have X3 := Lib.hid (X2.out.below b3)
      have Y3 := Lib.hid (Y2.out.below b3)
      have O3 := Lib.hid (O2.out.below b3)
      have S3 := Lib.hid o3.row
      clear b3 o3
      go_wp2_with fail
      refine (sameInts_same _ _ _ _ _ rs O3.out S3.out (by omega)).mono ?_
      rintro e w4 ⟨rfl, b4⟩
      have B4 := Lib.hid (B3.out.trans (b4.mono B3.out.size))
      have X4 := Lib.hid (X3.out.below b4)
      have Y4 := Lib.hid (Y3.out.below b4)
      have O4 := Lib.hid (O3.out.below b4)
      clear b4
      obtain ⟨bx, ox, rfl, _, hcx⟩ := X4.out.at_ (i := xs.length - 1) (by omega)
      obtain ⟨bY, oy, rfl, _, hcy⟩ := Y4.out.at_ (i := ys.length - 1) (by omega)
      generalize nth xs (xs.length - 1) = p at *
      generalize nth ys (ys.length - 1) = q at *
      obtain ⟨kx, hkx⟩ : ∃ k, xs.length - 1 = k := ⟨_, rfl⟩
      obtain ⟨ky, hky⟩ : ∃ k, ys.length - 1 = k := ⟨_, rfl⟩
      rw [hkx] at hcx
      rw [hky] at hcy
      have u1 : IntKind.i64.wrap ((xs.length : Int) - 1) = (kx : Int) := by rw [show (xs.length : Int) - 1 = (kx : Int) by omega]; exact IntWalk.i64_in _ (by omega)
      have u2 : IntKind.i64.wrap ((ys.length : Int) - 1) = (ky : Int) := by rw [show (ys.length : Int) - 1 = (ky : Int) by omega]; exact IntWalk.i64_in _ (by omega)
      have j1 : (kx : Int) < (xs.length : Int) := by omega
      have j2 : (ky : Int) < (ys.length : Int) := by omega
      have IR := Lib.hid (show ∀ W : World, Calls Try.prog 23 #[.int .i64 p, .int .i64 q] W fun e w' => e = .returned (.tuple #[.int .i64 (p * q / 10), .int .i64 (p * q % 10), .bool true]) ∧ W = w' from fun W => by
        have := implRodCell_any p q W
        rw [RC.out] at this
        exact this)
      have HKX := Lib.hid hkx
      have HKY := Lib.hid hky
      have U1 := Lib.hid u1
      have U2 := Lib.hid u2
      clear hkx hky u1 u2
      go_wp2_with fail
      have u1 := U1.out
      have u2 := U2.out
      go_quiet ((go_at_call 23; exact quiet_at (IR.out _)))
      clear u1 u2 hcx hcy
      go_wp2_with fail
      have O5 := Lib.hid (O4.out.drewN nq)
      have B5 := Lib.hid (below_drewN B4.out nq)
      have LST2 := Lib.hid (show nth rs (rs.length - 1) = p * q % 10 by rw [LL.out]; exact LST.out)
      generalize w4.drewN nq = w5 at *
      have pq := mul_digits xd.1 xd.2 yd.1 yd.2
      go_loop [12] (fun i => ∃ k : Nat, k ≤ rs.length ∧ i = .int .i64 (k : Int)) (fun i => rs.length - (intOf i).toNat)
      case atStart => exact ⟨0, Nat.zero_le _, rfl⟩
      case round =>
        obtain ⟨k, hk, rfl⟩ := hrel
        by_cases hlt : k < rs.length
        · obtain ⟨bb, off, rfl, _, hc⟩ := O5.out.at_ hlt
          have nb := digs_nth DG.out hlt
          generalize nth rs k = xx at *
          go_wp2_with fail
          go_round
          case rel => exact ⟨k + 1, by omega, by go_num⟩
          case measure => simp [intOf]; omega
        · obtain ⟨bb, off, rfl, _, hc⟩ := O5.out.at_ (i := rs.length - 1) (by omega)
          rw [LST2.out] at hc
          have el : ((rs.length : Int) == (xs.length : Int) + (ys.length : Int)) = true := by rw [beq_iff_eq, LL.out]; simp
          generalize p * q = pp at *
          go_wp2_with fail
          go_ret
          exact ⟨rfl, B5.out⟩
end Go.Proofs.Ytdnknkbcbnoobaa
