
/-
  Contracts of the two functions that add up the diagonals of a lattice. Condition: lists of at most 2^20 numbers.
-/
import Derived.Test.YtdnknkbcbnoobaaLatP
import Derived.Test.YtdnknkbcbnoobaaNumOf
import Derived.Test.YtdnknkbcbnoobaaNum2
import Derived.Deep.QuietTactic
import Derived.BigQuiet
namespace Go.Proofs.Ytdnknkbcbnoobaa
open Go.RowKit

theorem rodCell_at {P : Program} {f : FuncId} {args : Array Value} {w : World} {n : Nat} {a b : Int} (ha : inB a 0 9 = true) (hb : inB b 0 9 = true)
    (h : Calls P f args (w.drewN n) fun e w' => e = .returned (tri (rodCell a b)) ∧ w.drewN n = w') :
    Calls P f args (w.drewN n) fun e w'' => e = .returned (.tuple #[.int .i64 (a * b / 10), .int .i64 (a * b % 10), .bool true]) ∧ ∃ m, w'' = w.drewN m := by
  have e : tri (rodCell a b) = .tuple #[.int .i64 (a * b / 10), .int .i64 (a * b % 10), .bool true] := by simp [rodCell, ha, hb, tri]
  rw [e] at h
  exact quiet_at h

theorem latF_cell {xs ys : List Int} {i j : Nat} (hi : i < xs.length) (hj : j < ys.length) (m : Nat) :
    latF xs ys i j m = (if m = i + j then nth xs (xs.length - 1 - i) * nth ys (ys.length - 1 - j) % 10 else 0) + (if m = i + j + 1 then nth xs (xs.length - 1 - i) * nth ys (ys.length - 1 - j) / 10 else 0) := rfl

set_option maxRecDepth 100000 in
set_option maxHeartbeats 1000000 in
theorem specLatticeSums_walk (w : World) (a : Option Addr) (ca : Nat) (xs : List Int) (ha : Row .i64 w a xs) (b : Option Addr) (cb : Nat) (ys : List Int) (hb : Row .i64 w b ys) (hx : isNum xs = true) (hy : isNum ys = true) :
    Calls Try.prog 9 #[.slice a xs.length ca, .slice b ys.length cb] w (FreshOk w (latTab xs ys) true) := by
  obtain ⟨i0, hi, hz0, hz1, hz2⟩ := info_parts int_info
  obtain ⟨dx, x1, x6⟩ := isNum_parts hx
  obtain ⟨dy, y1, y6⟩ := isNum_parts hy
  have HA := Lib.hid ha
  have HB := Lib.hid hb
  have HX := Lib.hid hx
  have HY := Lib.hid hy
  have DX := Lib.hid dx
  have DY := Lib.hid dy
  clear ha hb hx hy dx dy
  go_enter Try.func9, Try.ntmps9
  go_wp2_with fail
  refine (specNumeralValid_any _ _ _ _ HA.out (by omega)).mono ?_
  rintro e w' ⟨rfl, rfl⟩
  rw [HX.out]
  go_wp2_with fail
  refine (specNumeralValid_any _ _ _ _ HB.out (by omega)).mono ?_
  rintro e w' ⟨rfl, rfl⟩
  rw [HY.out]
  go_wp2_with (refine wpList_make_full _ rfl _ _ 22 rfl w.heap.size 3 i0 (.int .i64 0) 1 Try.underlying22 hi hz0 hz1 .i64 .i64 _ _ (xs.length + ys.length) rfl rfl (by go_num) (by go_num) (by rw [hz2]; omega) (by unfold maxLen; omega) (Nat.le_refl _) ?_; intro w1 hown hgrow)
  have hb1 : Below w.heap.size w w1 := (Below.refl _ _).grown hgrow (Nat.le_refl _) (fun k hk => by cases hk)
  have ho : Own w1 w.heap.size w1.heap.size (.slice (some ⟨w.heap.size, 0, none⟩) (xs.length + ys.length) (xs.length + ys.length)) (part (xs.length + ys.length) ys.length (latF xs ys) 0 0) := by
    rw [made_ints] at hown
    rw [part_zero]
    refine Own.of ?_
    simpa using hown
  have HB1 := Lib.hid hb1
  have HO1 := Lib.hid ho
  clear hb1 ho hown hgrow
  go_loopw [7] (fun i wr => ∃ k : Nat, k ≤ xs.length ∧ i = .int .i64 k ∧ Own wr w.heap.size w1.heap.size (.slice (some ⟨w.heap.size, 0, none⟩) (xs.length + ys.length) (xs.length + ys.length)) (part (xs.length + ys.length) ys.length (latF xs ys) k 0) ∧ Below w.heap.size w wr) (fun i _ => xs.length - (intOf i).toNat)
  case atStart => exact ⟨0, Nat.zero_le _, rfl, HO1.out, HB1.out⟩
  case round =>
    obtain ⟨i, hil, rfl, ho, hb⟩ := hrel
    have HO := Lib.hid ho
    have HBw := Lib.hid hb
    clear ho hb
    by_cases hlt : i < xs.length
    · obtain ⟨wo, rfl⟩ : ∃ wo : World, wo = wr := ⟨_, rfl⟩
      go_wp2_with fail
      go_loopw [8] (fun j wr => ∃ k : Nat, k ≤ ys.length ∧ j = .int .i64 k ∧ Own wr w.heap.size w1.heap.size (.slice (some ⟨w.heap.size, 0, none⟩) (xs.length + ys.length) (xs.length + ys.length)) (part (xs.length + ys.length) ys.length (latF xs ys) i k) ∧ Below w.heap.size w wr) (fun j _ => ys.length - (intOf j).toNat)
      case atStart => exact ⟨0, Nat.zero_le _, rfl, HO.out, HBw.out⟩
      case round =>
        obtain ⟨j, hjl, rfl, ho, hb⟩ := hrel
        by_cases hjt : j < ys.length
        · obtain ⟨p, hp⟩ : ∃ p, p = xs.length - 1 - i := ⟨_, rfl⟩
          obtain ⟨q, hq⟩ : ∃ q, q = ys.length - 1 - j := ⟨_, rfl⟩
          have hpl : p < xs.length := by omega
          have hql : q < ys.length := by omega
          obtain ⟨b1, o1, rfl, _, hc1⟩ := (HA.out.below hb).at_ hpl
          obtain ⟨b2, o2, rfl, _, hc2⟩ := (HB.out.below hb).at_ hql
          have X := digs_nth DX.out hpl
          have Y := digs_nth DY.out hql
          have IX := Lib.hid (inB_mk X.1 X.2)
          have IY := Lib.hid (inB_mk Y.1 Y.2)
          have XY := mul_digits X.1 X.2 Y.1 Y.2
          have C := Lib.hid (show ∀ m, latF xs ys i j m = (if m = i + j then nth xs p * nth ys q % 10 else 0) + (if m = i + j + 1 then nth xs p * nth ys q / 10 else 0) from fun m => by rw [hp, hq]; rfl)
          generalize nth xs p = x at *
          generalize nth ys q = y at *
          have v1 := part_bd (L := xs.length + ys.length) (latF_bd DX.out DY.out) (i := i) (n := ys.length) (j := j) (by omega) y6 (by omega) (k := i + j) (by omega)
          have v2 := part_bd (L := xs.length + ys.length) (latF_bd DX.out DY.out) (i := i) (n := ys.length) (j := j) (by omega) y6 (by omega) (k := i + j + 1) (by omega)
          obtain ⟨g, hg, g0, g1, hw1, hf1⟩ := ho.at_ (i := i + j) (by rw [part, tab_len]; omega)
          obtain ⟨g', hg', _, _, hw2, hf2⟩ := ho.at_ (i := i + j + 1) (by rw [part, tab_len]; omega)
          obtain rfl : w.heap.size = g := by injection hg with hg; injection hg
          obtain rfl : w.heap.size = g' := by injection hg' with hg'; injection hg'
          have S := Lib.hid (part_cell (L := xs.length + ys.length) (n := ys.length) (i := i) (j := j) (k := i + j) (by omega) C.out)
          generalize nth (part (xs.length + ys.length) ys.length (latF xs ys) i j) (i + j) = s1 at *
          generalize nth (part (xs.length + ys.length) ys.length (latF xs ys) i j) (i + j + 1) = s2 at *
          have HO2 := Lib.hid ho
          have HB2 := Lib.hid hb
          have HP := Lib.hid hp
          have HQ := Lib.hid hq
          clear ho hb hg hg' hp hq
          go_wp2_with fail
          have r1 : IntKind.i64.wrap ((xs.length : Int) - 1) = (xs.length : Int) - 1 := IntWalk.i64_in _ (by omega)
          have r2 : IntKind.i64.wrap ((xs.length : Int) - 1 - (i : Int)) = (p : Int) := by rw [IntWalk.i64_in _ (by omega)]; have := HP.out; omega
          have r3 : IntKind.i64.wrap ((ys.length : Int) - 1) = (ys.length : Int) - 1 := IntWalk.i64_in _ (by omega)
          have r4 : IntKind.i64.wrap ((ys.length : Int) - 1 - (j : Int)) = (q : Int) := by rw [IntWalk.i64_in _ (by omega)]; have := HQ.out; omega
          have j1 : (p : Int) < (xs.length : Int) := by omega
          have j2 : (q : Int) < (ys.length : Int) := by omega
          go_quiet ((go_at_call 30; exact rodCell_at IX.out IY.out (specRodCell_any _ _ _)))
          clear r1 r2 r3 r4
          go_wp2_with fail
          go_roundw
          case rel =>
            refine ⟨j + 1, by omega, by go_num, ?_, below_drewN ((HB2.out.setCell (Nat.le_refl _) _).setCell (Nat.le_refl _) _) _⟩
            have := (HO2.out.set_ (i + j) (s1 + x * y % 10)).set_ (i + j + 1) (s2 + x * y / 10)
            rw [S.out] at this
            exact this.drewN _
          case measure => simp [intOf]; omega
        · obtain rfl : j = ys.length := by omega
          rw [part_row] at ho
          have HO2 := Lib.hid ho
          have HB2 := Lib.hid hb
          clear ho hb
          go_wp2_with fail
          go_roundw
          case rel => exact ⟨i + 1, by omega, by go_num, HO2.out, HB2.out⟩
          case measure => simp [intOf]; omega
    · obtain rfl : i = xs.length := by omega
      go_wp2_with fail
      go_ret2
      refine ⟨some ⟨w.heap.size, 0, none⟩, xs.length + ys.length, ?_, ?_, HBw.out⟩
      · rw [latTab_len]; rfl
      · rw [latTab_len]
        have := HO.out.all
        rw [part_all] at this
        exact this

theorem specLatticeSums_no1 (w : World) (a : Option Addr) (ca : Nat) (xs : List Int) (ha : Row .i64 w a xs) (la : xs.length ≤ 2000000) (b : Option Addr) (cb : Nat) (ys : List Int) (hx : isNum xs = false) :
    Calls Try.prog 9 #[.slice a xs.length ca, .slice b ys.length cb] w (FreshOk w [] false) := by
  have HA := Lib.hid ha
  have HX := Lib.hid hx
  clear ha hx
  go_enter Try.func9, Try.ntmps9
  go_wp2_with fail
  refine (specNumeralValid_any _ _ _ _ HA.out la).mono ?_
  rintro e w' ⟨rfl, rfl⟩
  rw [HX.out]
  go_wp2_with fail
  go_ret2
  exact ⟨_, _, rfl, by simpa using own_empty w w.heap.size (Nat.le_refl _), (Below.refl _ _).alloc (Nat.le_refl _) _⟩
theorem specLatticeSums_no2 (w : World) (a : Option Addr) (ca : Nat) (xs : List Int) (ha : Row .i64 w a xs) (la : xs.length ≤ 2000000) (b : Option Addr) (cb : Nat) (ys : List Int) (hb : Row .i64 w b ys) (lb : ys.length ≤ 2000000) (hx : isNum xs = true) (hy : isNum ys = false) :
    Calls Try.prog 9 #[.slice a xs.length ca, .slice b ys.length cb] w (FreshOk w [] false) := by
  have HA := Lib.hid ha
  have HB := Lib.hid hb
  have HX := Lib.hid hx
  have HY := Lib.hid hy
  clear ha hb hx hy
  go_enter Try.func9, Try.ntmps9
  go_wp2_with fail
  refine (specNumeralValid_any _ _ _ _ HA.out la).mono ?_
  rintro e w' ⟨rfl, rfl⟩
  rw [HX.out]
  go_wp2_with fail
  refine (specNumeralValid_any _ _ _ _ HB.out lb).mono ?_
  rintro e w' ⟨rfl, rfl⟩
  rw [HY.out]
  go_wp2_with fail
  go_ret2
  exact ⟨_, _, rfl, by simpa using own_empty w w.heap.size (Nat.le_refl _), (Below.refl _ _).alloc (Nat.le_refl _) _⟩

theorem specLatticeSums_any (w : World) (a : Option Addr) (ca : Nat) (xs : List Int) (ha : Row .i64 w a xs) (la : xs.length ≤ 2000000) (b : Option Addr) (cb : Nat) (ys : List Int) (hb : Row .i64 w b ys) (lb : ys.length ≤ 2000000) (rs : List Int) (ok : Bool) (hr : latSums xs ys = (rs, ok)) :
    Calls Try.prog 9 #[.slice a xs.length ca, .slice b ys.length cb] w (FreshOk w rs ok) := by
  cases hx : isNum xs
  · rw [latSums_no1 hx] at hr
    injection hr with h1 h2
    subst h1 h2
    exact specLatticeSums_no1 w a ca xs ha la b cb ys hx
  · cases hy : isNum ys
    · rw [latSums_no2 hy] at hr
      injection hr with h1 h2
      subst h1 h2
      exact specLatticeSums_no2 w a ca xs ha la b cb ys hb lb hx hy
    · rw [latSums_yes hx hy] at hr
      injection hr with h1 h2
      subst h1 h2
      exact specLatticeSums_walk w a ca xs ha b cb ys hb hx hy

set_option maxRecDepth 100000 in
set_option maxHeartbeats 1000000 in
theorem diagonals_any (w : World) (xs ys : List Int) (dx : digs xs = true) (dy : digs ys = true) (x6 : xs.length ≤ 6) (y6 : ys.length ≤ 6) (s r : ByteArray) (hs : s = dtext xs) (hr : r = dtext ys) :
    Calls Try.prog 32 #[.string s, .string r] w (Fresh w (latTab xs ys)) := by
  obtain ⟨i0, hi, hz0, hz1, hz2⟩ := info_parts int_info
  have es : s.size = xs.length := by rw [hs, dtext_size]
  have er : r.size = ys.length := by rw [hr, dtext_size]
  have s1 : s.size ≤ xs.length := by omega
  have s2 : xs.length ≤ s.size := by omega
  have r1 : r.size ≤ ys.length := by omega
  have r2 : ys.length ≤ r.size := by omega
  have HS := Lib.hid hs
  have HR := Lib.hid hr
  have ES := Lib.hid es
  have ER := Lib.hid er
  have DX := Lib.hid dx
  have DY := Lib.hid dy
  clear dx dy hs hr es er
  go_enter Try.func32, Try.ntmps32
  go_wp2_with (refine wpList_make_full _ rfl _ _ 22 rfl w.heap.size 3 i0 (.int .i64 0) 1 Try.underlying22 hi hz0 hz1 .i64 .i64 _ _ (s.size + r.size) rfl rfl (by go_num) (by go_num) (by rw [hz2]; omega) (by unfold maxLen; omega) (Nat.le_refl _) ?_; intro w1 hown hgrow)
  have hb1 : Below w.heap.size w w1 := (Below.refl _ _).grown hgrow (Nat.le_refl _) (fun k hk => by cases hk)
  have ho : Own w1 w.heap.size w1.heap.size (.slice (some ⟨w.heap.size, 0, none⟩) (s.size + r.size) (s.size + r.size)) (part (xs.length + ys.length) ys.length (latG xs ys) 0 0) := by
    rw [made_ints] at hown
    rw [part_zero, ← ES.out, ← ER.out]
    refine Own.of ?_
    simpa using hown
  have HB1 := Lib.hid hb1
  have HO1 := Lib.hid ho
  clear hb1 ho hown hgrow
  go_loopw [6] (fun i wr => ∃ k : Nat, k ≤ xs.length ∧ i = .int .i64 k ∧ Own wr w.heap.size w1.heap.size (.slice (some ⟨w.heap.size, 0, none⟩) (s.size + r.size) (s.size + r.size)) (part (xs.length + ys.length) ys.length (latG xs ys) k 0) ∧ Below w.heap.size w wr) (fun i _ => xs.length - (intOf i).toNat)
  case atStart => exact ⟨0, Nat.zero_le _, rfl, HO1.out, HB1.out⟩
  case round =>
    obtain ⟨i, hil, rfl, ho, hb⟩ := hrel
    have HO := Lib.hid ho
    have HBw := Lib.hid hb
    clear ho hb
    by_cases hlt : i < s.size
    · obtain ⟨wo, rfl⟩ : ∃ wo : World, wo = wr := ⟨_, rfl⟩
      go_wp2_with fail
      go_loopw [7] (fun j wr => ∃ k : Nat, k ≤ ys.length ∧ j = .int .i64 k ∧ Own wr w.heap.size w1.heap.size (.slice (some ⟨w.heap.size, 0, none⟩) (s.size + r.size) (s.size + r.size)) (part (xs.length + ys.length) ys.length (latG xs ys) i k) ∧ Below w.heap.size w wr) (fun j _ => ys.length - (intOf j).toNat)
      case atStart => exact ⟨0, Nat.zero_le _, rfl, HO.out, HBw.out⟩
      case round =>
        obtain ⟨j, hjl, rfl, ho, hb⟩ := hrel
        by_cases hjt : j < r.size
        · have X := digs_nth DX.out (i := i) (by omega)
          have Y := digs_nth DY.out (i := j) (by omega)
          have XY := mul_digits X.1 X.2 Y.1 Y.2
          obtain ⟨k, hk⟩ : ∃ k, k = xs.length - 1 - i + (ys.length - 1 - j) := ⟨_, rfl⟩
          have C := Lib.hid (show ∀ m, latG xs ys i j m = (if m = k then nth xs i * nth ys j % 10 else 0) + (if m = k + 1 then nth xs i * nth ys j / 10 else 0) from fun m => by
            have e1 : xs.length - 1 - (xs.length - 1 - i) = i := by omega
            have e2 : ys.length - 1 - (ys.length - 1 - j) = j := by omega
            rw [hk, latG, latF, e1, e2])
          have D1 := Lib.hid (fun W => digitAt_num xs DX.out (by omega) s HS.out i (by omega) W)
          have D2 := Lib.hid (fun W => digitAt_num ys DY.out (by omega) r HR.out j (by omega) W)
          generalize nth xs i = x at *
          generalize nth ys j = y at *
          have hkl : k + 1 < xs.length + ys.length := by omega
          have v1 := part_bd (L := xs.length + ys.length) (f := latG xs ys) (fun p q m => latF_bd DX.out DY.out _ _ m) (i := i) (n := ys.length) (j := j) (by omega) y6 (by omega) (k := k) (by omega)
          have v2 := part_bd (L := xs.length + ys.length) (f := latG xs ys) (fun p q m => latF_bd DX.out DY.out _ _ m) (i := i) (n := ys.length) (j := j) (by omega) y6 (by omega) (k := k + 1) (by omega)
          obtain ⟨g, hg, g0, g1, hw1, hf1⟩ := ho.at_ (i := k) (by rw [part, tab_len]; omega)
          obtain ⟨g', hg', _, _, hw2, hf2⟩ := ho.at_ (i := k + 1) (by rw [part, tab_len]; omega)
          obtain rfl : w.heap.size = g := by injection hg with hg; injection hg
          obtain rfl : w.heap.size = g' := by injection hg' with hg'; injection hg'
          have S := Lib.hid (part_cell (L := xs.length + ys.length) (n := ys.length) (i := i) (j := j) (k := k) (by omega) C.out)
          generalize nth (part (xs.length + ys.length) ys.length (latG xs ys) i j) k = t1 at *
          generalize nth (part (xs.length + ys.length) ys.length (latG xs ys) i j) (k + 1) = t2 at *
          have ek : (s.size : Int) - 1 - (i : Int) + (r.size : Int) - 1 - (j : Int) = (k : Int) := by omega
          have HO2 := Lib.hid ho
          have HB2 := Lib.hid hb
          have HK := Lib.hid hk
          have EK := Lib.hid ek
          clear ho hb hg hg' hk ek
          go_wp2_with fail
          refine (D1.out _).mono ?_
          rintro e w' ⟨rfl, rfl⟩
          go_wp2_with fail
          refine (D2.out _).mono ?_
          rintro e w' ⟨rfl, rfl⟩
          have ek := EK.out
          go_wp2_with fail
          go_roundw
          case rel =>
            refine ⟨j + 1, by omega, by go_num, ?_, (HB2.out.setCell (Nat.le_refl _) _).setCell (Nat.le_refl _) _⟩
            have := (HO2.out.set_ k (t1 + x * y % 10)).set_ (k + 1) (t2 + x * y / 10)
            rw [S.out] at this
            exact this
          case measure => simp [intOf]; omega
        · obtain rfl : j = ys.length := by omega
          rw [part_row] at ho
          have HO2 := Lib.hid ho
          have HB2 := Lib.hid hb
          clear ho hb
          go_wp2_with fail
          go_roundw
          case rel => exact ⟨i + 1, by omega, by go_num, HO2.out, HB2.out⟩
          case measure => simp [intOf]; omega
    · obtain rfl : i = xs.length := by omega
      go_wp2_with fail
      go_ret
      have el : s.size + r.size = (latTab xs ys).length := by rw [latTab_len, ES.out, ER.out]
      refine ⟨some ⟨w.heap.size, 0, none⟩, s.size + r.size, ?_, ?_, HBw.out⟩
      · rw [← el]; rfl
      · rw [← el]
        have := HO.out.all
        rw [part_allG] at this
        exact this

theorem implLatticeSums_any (w : World) (a : Option Addr) (ca : Nat) (xs : List Int) (ha : Row .i64 w a xs) (la : xs.length ≤ 2000000) (b : Option Addr) (cb : Nat) (ys : List Int) (hb : Row .i64 w b ys) (lb : ys.length ≤ 2000000) (rs : List Int) (ok : Bool) (hr : latSums xs ys = (rs, ok)) :
    Calls Try.prog 11 #[.slice a xs.length ca, .slice b ys.length cb] w (FreshOk w rs ok) := by
  have HA := Lib.hid ha
  have HB := Lib.hid hb
  clear ha hb
  cases hx : isNum xs
  · rw [latSums_no1 hx] at hr
    injection hr with h1 h2
    subst h1 h2
    have HX := Lib.hid hx
    clear hx
    go_enter Try.func11, Try.ntmps11
    go_wp2_with fail
    refine (digitsOf_any _ _ _ _ HA.out la).mono ?_
    rintro e w1 ⟨rfl, b1⟩
    have B1 := Lib.hid b1
    clear b1
    rw [HX.out]
    go_wp2_with fail
    refine (digitsOf_any _ _ _ _ (HB.out.below B1.out) lb).mono ?_
    rintro e w2 ⟨rfl, b2⟩
    have B2 := Lib.hid (B1.out.trans (b2.mono B1.out.size))
    clear b2
    go_wp2_with fail
    go_ret2
    exact ⟨none, 0, rfl, Own.nil_ _ _, B2.out⟩
  · cases hy : isNum ys
    · rw [latSums_no2 hy] at hr
      injection hr with h1 h2
      subst h1 h2
      have HX := Lib.hid hx
      have HY := Lib.hid hy
      clear hx hy
      go_enter Try.func11, Try.ntmps11
      go_wp2_with fail
      refine (digitsOf_any _ _ _ _ HA.out la).mono ?_
      rintro e w1 ⟨rfl, b1⟩
      have B1 := Lib.hid b1
      clear b1
      rw [HX.out]
      go_wp2_with fail
      refine (digitsOf_any _ _ _ _ (HB.out.below B1.out) lb).mono ?_
      rintro e w2 ⟨rfl, b2⟩
      have B2 := Lib.hid (B1.out.trans (b2.mono B1.out.size))
      clear b2
      rw [HY.out]
      go_wp2_with fail
      go_ret2
      exact ⟨none, 0, rfl, Own.nil_ _ _, B2.out⟩
    · rw [latSums_yes hx hy] at hr
      injection hr with h1 h2
      subst h1 h2
      obtain ⟨dx, x1, x6⟩ := isNum_parts hx
      obtain ⟨dy, y1, y6⟩ := isNum_parts hy
      have TX := Lib.hid (show numText xs = dtext xs by rw [numText, hx]; rfl)
      have TY := Lib.hid (show numText ys = dtext ys by rw [numText, hy]; rfl)
      have DX := Lib.hid dx
      have DY := Lib.hid dy
      have HX := Lib.hid hx
      have HY := Lib.hid hy
      clear hx hy dx dy
      go_enter Try.func11, Try.ntmps11
      go_wp2_with fail
      refine (digitsOf_any _ _ _ _ HA.out la).mono ?_
      rintro e w1 ⟨rfl, b1⟩
      have B1 := Lib.hid b1
      clear b1
      rw [HX.out]
      go_wp2_with fail
      refine (digitsOf_any _ _ _ _ (HB.out.below B1.out) lb).mono ?_
      rintro e w2 ⟨rfl, b2⟩
      have B2 := Lib.hid (B1.out.trans (b2.mono B1.out.size))
      clear b2
      rw [HY.out]
      go_wp2_with fail
      refine (diagonals_any _ xs ys DX.out DY.out x6 y6 _ _ TX.out TY.out).mono ?_
      rintro e w3 ⟨a3, c3, rfl, o3, b3⟩
      have O3 := Lib.hid (o3.mono B2.out.size (Nat.le_refl _) (Nat.le_refl _))
      have B3 := Lib.hid (B2.out.trans (b3.mono B2.out.size))
      clear o3 b3
      go_wp2_with fail
      go_ret2
      exact ⟨a3, c3, rfl, O3.out, B3.out⟩
end Go.Proofs.Ytdnknkbcbnoobaa
