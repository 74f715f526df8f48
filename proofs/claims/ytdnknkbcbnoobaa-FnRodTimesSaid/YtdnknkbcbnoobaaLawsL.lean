
/-
  The walks of the laws over drawn pairs of numerals: diagonals add up to the product; the product has as many digits as both: each returns true for every code.
-/
import Derived.Test.YtdnknkbcbnoobaaDrawN
import Derived.Test.YtdnknkbcbnoobaaLat2
import Derived.Test.YtdnknkbcbnoobaaLatL
namespace Go.Proofs.Ytdnknkbcbnoobaa
open Go.RowKit

theorem below_rdL {w w1 w2 : World} (hb : Below w.heap.size w w1) (hg : w1.grownBy w2 (some w.heap.size)) : Below w.heap.size w w2 :=
  hb.grown hg hb.size (fun k hk => by injection hk with hk; omega)
/-- Two lists drawn from a code. -/
def PairDrawn (w : World) (e : Ending) (w' : World) : Prop :=
  ∃ a c xs a' c' ys, e = .returned (.tuple #[.slice a xs.length c, .slice a' ys.length c']) ∧ xs.length ≤ 7 ∧ ys.length ≤ 7 ∧ Row .i64 w' a xs ∧ Row .i64 w' a' ys ∧ Below w.heap.size w w'
theorem l91Pair_any (w : World) (g q : Nat) (h : RdOk w g q) (hq : q ≤ 1000) :
    Calls Try.prog 34 #[.pointer (some ⟨g, 0, none⟩)] w fun e w' => ∃ a c xs a' c' ys, e = .returned (.tuple #[.slice a xs.length c, .slice a' ys.length c']) ∧ xs.length ≤ 7 ∧ ys.length ≤ 7 ∧ Row .i64 w' a xs ∧ Row .i64 w' a' ys ∧ w.grownBy w' (some g) := by
  have hg := h.lt
  have H := Lib.hid h
  clear h
  go_enter Try.func34, Try.ntmps34
  go_wp2_with fail
  refine (l91Numeral_any _ _ _ 4 H.out (by omega) (by omega) (by omega)).mono ?_
  rintro e w1 ⟨a1, c1, xs, rfl, _, hlx, o1, r1, g1⟩
  have O1 := Lib.hid o1
  have R1 := Lib.hid r1
  have G1 := Lib.hid g1
  clear o1 r1 g1
  go_wp2_with fail
  refine (l91Numeral_any _ _ _ 4 R1.out (by omega) (by omega) (by omega)).mono ?_
  rintro e w2 ⟨a2, c2, ys, rfl, _, hly, o2, r2, g2⟩
  have O2 := Lib.hid o2
  have P2 := Lib.hid (O1.out.rd g2 hg)
  have G2 := Lib.hid (grown_trans G1.out g2)
  clear o2 r2 g2
  go_wp2_with fail
  go_ret2
  exact ⟨a1, c1, xs, a2, c2, ys, rfl, hlx, hly, P2.out.row, O2.out.row, G2.out⟩
theorem drawLatticeSums_any (w : World) (a : Option Addr) (cap : Nat) (zs : List Int) (h : InRow .u8 w a cap zs) :
    Calls Try.prog 17 #[.slice a zs.length cap] w (PairDrawn w) := by
  have H := Lib.hid h
  clear h
  go_enter Try.func17, Try.ntmps17
  go_wp2_with fail
  refine (l6Open_any _ _ _ _ H.out).mono ?_
  rintro e w1 ⟨rfl, r1, b1⟩
  have R1 := Lib.hid r1
  have B1 := Lib.hid b1
  clear r1 b1
  go_wp2_with fail
  refine (l91Pair_any _ _ _ R1.out (by omega)).mono ?_
  rintro e w2 ⟨a1, c1, xs, a2, c2, ys, rfl, hlx, hly, rx, ry, g2⟩
  have B2 := Lib.hid (below_rdL B1.out g2)
  have RX := Lib.hid rx
  have RY := Lib.hid ry
  clear rx ry g2
  go_wp2_with fail
  go_ret2
  exact ⟨a1, c1, xs, a2, c2, ys, rfl, hlx, hly, RX.out, RY.out, B2.out⟩
theorem drawLatticeDigits_any (w : World) (a : Option Addr) (cap : Nat) (zs : List Int) (h : InRow .u8 w a cap zs) :
    Calls Try.prog 22 #[.slice a zs.length cap] w (PairDrawn w) := by
  have H := Lib.hid h
  clear h
  go_enter Try.func22, Try.ntmps22
  go_wp2_with fail
  refine (l6Open_any _ _ _ _ H.out).mono ?_
  rintro e w1 ⟨rfl, r1, b1⟩
  have R1 := Lib.hid r1
  have B1 := Lib.hid b1
  clear r1 b1
  go_wp2_with fail
  refine (l91Pair_any _ _ _ R1.out (by omega)).mono ?_
  rintro e w2 ⟨a1, c1, xs, a2, c2, ys, rfl, hlx, hly, rx, ry, g2⟩
  have B2 := Lib.hid (below_rdL B1.out g2)
  have RX := Lib.hid rx
  have RY := Lib.hid ry
  clear rx ry g2
  go_wp2_with fail
  go_ret2
  exact ⟨a1, c1, xs, a2, c2, ys, rfl, hlx, hly, RX.out, RY.out, B2.out⟩

theorem term_bd {W x : Int} (w0 : 0 ≤ W) (w1 : W ≤ 1000000000000) (x0 : 0 ≤ x) (x1 : x ≤ 1000) : 0 ≤ W * x ∧ W * x ≤ 1000000000000000 := by
  constructor
  · exact Int.mul_nonneg w0 x0
  · have h1 : W * x ≤ W * 1000 := Int.mul_le_mul_of_nonneg_left x1 w0
    omega
theorem worth_bd {k : Nat} (h : k ≤ 12) : (0 : Int) ≤ 10 ^ k ∧ (10 : Int) ^ k ≤ 1000000000000 := ⟨Int.le_of_lt (Int.pow_pos (by decide)), pow_le12 h⟩

set_option maxRecDepth 100000 in
set_option maxHeartbeats 2000000 in
theorem fnLatticeSums_walk (a : Option Addr) (cap : Nat) (zs : List Int) (w : World) (h : InRow .u8 w a cap zs) :
    Calls Try.prog 5 #[.slice a zs.length cap] w fun e w' => e = .returned (.bool true) ∧ Below w.heap.size w w' := by
  have hfit := h.fits
  have hlim := h.lim
  unfold maxLen at hlim
  have H := Lib.hid h
  clear h
  by_cases hl : 1048576 < zs.length
  · go_enter Try.func5, Try.ntmps5
    go_wp2_with fail
    go_ret
    exact ⟨rfl, Below.refl _ _⟩
  · go_enter Try.func5, Try.ntmps5
    go_wp2_with fail
    refine (drawLatticeSums_any _ _ _ _ H.out).mono ?_
    rintro e w1 ⟨a1, c1, xs, a2, c2, ys, rfl, hlx, hly, rx, ry, b1⟩
    have B1 := Lib.hid b1
    have X1 := Lib.hid rx
    have Y1 := Lib.hid ry
    clear b1 rx ry
    cases hn : isNum xs && isNum ys
    · have E := Lib.hid (latSums_no hn)
      clear hn
      go_wp2_with fail
      refine (implLatticeSums_any _ _ _ _ X1.out (by omega) _ _ _ Y1.out (by omega) [] false E.out).mono ?_
      rintro e w2 ⟨a3, c3, rfl, o2, b2⟩
      have B2 := Lib.hid (B1.out.trans (b2.mono B1.out.size))
      have X2 := Lib.hid (X1.out.below b2)
      have Y2 := Lib.hid (Y1.out.below b2)
      clear b2 o2
      go_wp2_with fail
      refine (specLatticeSums_any _ _ _ _ X2.out (by omega) _ _ _ Y2.out (by omega) [] false E.out).mono ?_
      rintro e w3 ⟨a4, c4, rfl, o3, b3⟩
      have B3 := Lib.hid (B2.out.trans (b3.mono B2.out.size))
      clear b3 o3
      go_wp2_with fail
      refine (sameInts_same _ _ _ _ _ [] Row.nil_ Row.nil_ (by simp)).mono ?_
      rintro e w4 ⟨rfl, b4⟩
      have B4 := Lib.hid (B3.out.trans (b4.mono B3.out.size))
      clear b4
      go_wp2_with fail
      refine (sameInts_same _ _ _ _ _ [] Row.nil_ Row.nil_ (by simp)).mono ?_
      rintro e w5 ⟨rfl, b5⟩
      have B5 := Lib.hid (B4.out.trans (b5.mono B4.out.size))
      clear b5
      go_wp2_with fail
      go_ret
      exact ⟨rfl, B5.out⟩
    · obtain ⟨hx, hy⟩ := both_true hn
      obtain ⟨dx, lx1, lx6⟩ := isNum_parts hx
      obtain ⟨dy, ly1, ly6⟩ := isNum_parts hy
      have E := Lib.hid (latSums_yes hx hy)
      have E' := Lib.hid ((latSums_comm xs ys).trans (latSums_yes hx hy))
      have LL := Lib.hid (latTab_len xs ys)
      have PR := Lib.hid (lat_product xs ys)
      have BD := Lib.hid (latTab_bd dx dy lx6 ly6)
      have MN := Lib.hid (fun (m : Nat) (hm : m < xs.length + ys.length) => latTab_min dx dy hm)
      have VX := Lib.hid (numVal_yes hx)
      have VY := Lib.hid (numVal_yes hy)
      have vx := val_bd6 dx lx6
      have vy := val_bd6 dy ly6
      generalize latTab xs ys = rs at *
      have rl : rs.length ≤ 12 := by rw [LL.out]; omega
      clear hn hx hy dx dy
      go_wp2_with fail
      refine (implLatticeSums_any _ _ _ _ X1.out (by omega) _ _ _ Y1.out (by omega) rs true E.out).mono ?_
      rintro e w2 ⟨a3, c3, rfl, o2, b2⟩
      have B2 := Lib.hid (B1.out.trans (b2.mono B1.out.size))
      have X2 := Lib.hid (X1.out.below b2)
      have Y2 := Lib.hid (Y1.out.below b2)
      have O2 := Lib.hid o2.row
      clear b2 o2
      go_wp2_with fail
      refine (specLatticeSums_any _ _ _ _ X2.out (by omega) _ _ _ Y2.out (by omega) rs true E.out).mono ?_
      rintro e w3 ⟨a4, c4, rfl, o3, b3⟩
      have B3 := Lib.hid (B2.out.trans (b3.mono B2.out.size))
      have X3 := Lib.hid (X2.out.below b3)
      have Y3 := Lib.hid (Y2.out.below b3)
      have O3 := Lib.hid (O2.out.below b3)
      have S3 := Lib.hid o3.row
      clear b3 o3
      go_wp2_with fail
      refine (sameInts_same _ _ _ _ _ rs O3.out S3.out (by omega)).mono ?_
      rintro e w4 ⟨rfl, b4⟩
      have B4 := Lib.hid (B3.out.trans (b4.mono B3.out.size))
      have X4 := Lib.hid (X3.out.below b4)
      have Y4 := Lib.hid (Y3.out.below b4)
      have O4 := Lib.hid (O3.out.below b4)
      clear b4
      go_wp2_with fail
      refine (implLatticeSums_any _ _ _ _ Y4.out (by omega) _ _ _ X4.out (by omega) rs true E'.out).mono ?_
      rintro e w5 ⟨a5, c5, rfl, o5, b5⟩
      have B5 := Lib.hid (B4.out.trans (b5.mono B4.out.size))
      have X5 := Lib.hid (X4.out.below b5)
      have Y5 := Lib.hid (Y4.out.below b5)
      have O5 := Lib.hid (O4.out.below b5)
      have T5 := Lib.hid o5.row
      clear b5 o5
      go_wp2_with fail
      go_loop [11, 12, 13] (fun s t i => ∃ k : Nat, k ≤ rs.length ∧ s = .int .i64 (sumN k fun m => 10 ^ m * nth rs m) ∧ t = .int .i64 ((10 : Int) ^ k) ∧ i = .int .i64 (k : Int)) (fun _ _ i => rs.length - (intOf i).toNat)
      case atStart => exact ⟨0, Nat.zero_le _, rfl, rfl, rfl⟩
      case round =>
        obtain ⟨k, hk, rfl, rfl, rfl⟩ := hrel
        have sb := sumN_bd (n := k) (g := fun m => 10 ^ m * nth rs m) (B := 1000000000000000) (fun m hm => term_bd (worth_bd (by omega)).1 (worth_bd (by omega)).2 (BD.out m (by omega)).1 (BD.out m (by omega)).2) (by omega)
        by_cases hlt : k < rs.length
        · obtain ⟨bb, off, rfl, _, hc⟩ := O5.out.at_ hlt
          have nb := BD.out k hlt
          have mb := MN.out k (by rw [← LL.out]; exact hlt)
          have wb := worth_bd (k := k) (by omega)
          have tb := term_bd wb.1 wb.2 nb.1 nb.2
          have SN := Lib.hid (show sumN (k + 1) (fun m => 10 ^ m * nth rs m) = sumN k (fun m => 10 ^ m * nth rs m) + 10 ^ k * nth rs k from rfl)
          have PN := Lib.hid (show (10 : Int) ^ (k + 1) = 10 * 10 ^ k by rw [Int.pow_succ, Int.mul_comm])
          have sk : (k : Int) * 1000000000000000 ≤ 12000000000000000 := by omega
          generalize sumN k (fun m => 10 ^ m * nth rs m) = SS at *
          generalize (10 : Int) ^ k = WW at *
          generalize nth rs k = xx at *
          have m2 : xx ≤ 18 * (if ys.length < xs.length then (ys.length : Int) else (xs.length : Int)) := by split <;> omega
          clear mb
          go_wp2_with fail
          go_round
          case rel => exact ⟨k + 1, by omega, by rw [SN.out], by rw [PN.out], by go_num⟩
          case measure => simp [intOf]; omega
        · have e0 : sumN k (fun m => 10 ^ m * nth rs m) = val xs * val ys := by rw [← PR.out, ← LL.out, show k = rs.length by omega]
          rw [e0]
          generalize (10 : Int) ^ k = WW at *
          clear e0 sb
          go_wp2_with fail
          refine (sameInts_same _ _ _ _ _ rs T5.out O5.out (by omega)).mono ?_
          rintro e w6 ⟨rfl, b6⟩
          have B6 := Lib.hid (B5.out.trans (b6.mono B5.out.size))
          have X6 := Lib.hid (X5.out.below b6)
          have Y6 := Lib.hid (Y5.out.below b6)
          clear b6
          go_wp2_with fail
          refine (implNumeralValue_any _ _ _ _ X6.out (by omega)).mono ?_
          rintro e w7 ⟨rfl, b7⟩
          rw [VX.out]
          have B7 := Lib.hid (B6.out.trans (b7.mono B6.out.size))
          have Y7 := Lib.hid (Y6.out.below b7)
          clear b7
          go_wp2_with fail
          refine (implNumeralValue_any _ _ _ _ Y7.out (by omega)).mono ?_
          rintro e w8 ⟨rfl, b8⟩
          rw [VY.out]
          have B8 := Lib.hid (B7.out.trans (b8.mono B7.out.size))
          clear b8
          have pb : 0 ≤ val xs * val ys ∧ val xs * val ys ≤ 999998000001 := by
            constructor
            · exact Int.mul_nonneg vx.1 vy.1
            · have h1 : val xs * val ys ≤ 999999 * val ys := Int.mul_le_mul_of_nonneg_right vx.2 vy.1
              omega
          generalize val xs = VX' at *
          generalize val ys = VY' at *
          go_wp2_with fail
          go_ret
          exact ⟨rfl, B8.out⟩
end Go.Proofs.Ytdnknkbcbnoobaa
