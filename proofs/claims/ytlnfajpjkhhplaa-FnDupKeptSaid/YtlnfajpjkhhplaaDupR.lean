
/-
  Contracts of the reference's functions on the rows of a duplation. No condition.
-/
import Derived.Test.YtlnfajpjkhhplaaDupDiv
import Derived.Test.YtlnfajpjkhhplaaDupP2
import Derived.Test.YtlnfajpjkhhplaaTwo
namespace Go.Proofs.Ytlnfajpjkhhplaa
open Go.RowKit

theorem specDupRows_any (w : World) (a b : Int) (r0 r1 : List Int) (ok : Bool) (hr : dupRows a b = (r0, r1, ok)) :
    Calls Try.prog 18 #[.int .i64 a, .int .i64 b] w (FreshTwo w r0 r1 ok) := by
  cases hb : isFac a && isFac b
  · rw [dupRows_no hb] at hr
    injection hr with h1 h2
    injection h2 with h2 h3
    subst h1 h2 h3
    have HB := Lib.hid hb
    clear hb
    go_enter Try.func18, Try.ntmps18
    go_wp2_with fail
    refine (l2Factors_any _ _ _).mono ?_
    rintro e w' ⟨rfl, rfl⟩
    rw [HB.out]
    go_wp2_with fail
    go_ret3
    exact (Two.empty w).fresh (((Below.refl _ w).alloc (Nat.le_refl _) _).alloc (by simp) _)
  · have HB := Lib.hid hb
    obtain ⟨n, m, rfl, rfl, n1, n2, m1, m2⟩ := facs hb
    rw [dupRows_yes n1 n2 m1 m2] at hr
    injection hr with h1 h2
    injection h2 with h2 h3
    subst h1 h2 h3
    clear hb
    have B17 := bl_le n2
    go_enter Try.func18, Try.ntmps18
    go_wp2_with fail
    refine (l2Factors_any _ _ _).mono ?_
    rintro e w' ⟨rfl, rfl⟩
    rw [HB.out]
    go_wp2_with fail
    have T0 := Lib.hid (Two.empty w)
    have BB := Lib.hid (((Below.refl _ w).alloc (Nat.le_refl _) (.cells #[] 3)).alloc (by simp) (.cells #[] 3))
    go_loopw [0, 1, 7, 8] (fun x y s t wr => ∃ k c1 c2 : Nat, ∃ A1 A2 : Option Addr, k ≤ bl n ∧ x = .int .i64 ((n / 2 ^ k : Nat) : Int) ∧ y = .int .i64 ((m * 2 ^ k : Nat) : Int) ∧ s = .slice A1 (hl n k).length c1 ∧ t = .slice A2 (dl m k).length c2 ∧ Two wr w.heap.size (.slice A1 (hl n k).length c1) (hl n k) (.slice A2 (dl m k).length c2) (dl m k) ∧ Below w.heap.size w wr) (fun x _ _ _ _ => (intOf x).toNat)
    case atStart => exact ⟨0, 0, 0, some ⟨w.heap.size, 0, none⟩, some ⟨w.heap.size + 1, 0, none⟩, by omega, by simp, by simp, rfl, rfl, T0.out, BB.out⟩
    case round =>
      obtain ⟨k, c1, c2, A1, A2, hk, rfl, rfl, rfl, rfl, ht, hb⟩ := hrel
      have hs := hb.size
      have HB2 := Lib.hid hb
      clear hb
      by_cases hlt : k < bl n
      · have X1 := (lt_bl_div n k).1 hlt
        have X2 : n / 2 ^ k ≤ n := Nat.div_le_self _ _
        have Y2 := right_bd m2 (show k ≤ 17 by omega)
        have SX := Lib.hid (left_step n k)
        have SY := Lib.hid (right_step m k)
        have L1 := Lib.hid (hl_succ n k)
        have L2 := Lib.hid (dl_succ m k)
        have l1 : (hl n k).length ≤ 100 := by rw [hl_len]; omega
        have l2 : (dl m k).length ≤ 100 := by rw [dl_len]; omega
        generalize n / 2 ^ k = X at *
        generalize m * 2 ^ k = Y at *
        generalize hl n k = xs at *
        generalize dl m k = ys at *
        go_wp2_with (at_builtin; first | (refine wpList_push_fst rfl _ _ rfl wr w.heap.size (X : Int) xs ys A1 c1 _ rfl rfl ht hs (by omega) ?_; intro A1' c1' w2 ht2 hb2 hs2) | (refine wpList_push_snd rfl _ _ rfl w2 w.heap.size (Y : Int) _ ys _ A2 c2 rfl rfl ht2 (by omega) (by omega) ?_; intro A2' c2' w3 ht3 hb3 hs3))
        have HT := Lib.hid ht3
        have HB3 := Lib.hid ((HB2.out.trans hb2).trans hb3)
        clear ht ht2 ht3 hb2 hb3
        go_wp2_with fail
        go_roundw
        case rel =>
          refine ⟨k + 1, c1', c2', A1', A2', by omega, by rw [← SX.out]; go_num, by rw [← SY.out]; go_num, by rw [← L1.out]; simp, by rw [← L2.out]; simp, ?_, HB3.out⟩
          rw [← L1.out, ← L2.out]
          have := HT.out
          simpa using this
        case measure => (simp [intOf]) <;> omega
      · obtain rfl : k = bl n := by omega
        have e0 : n / 2 ^ bl n = 0 := div_zero_bl (Nat.le_refl _)
        have HT := Lib.hid ht
        clear ht
        rw [e0]
        clear e0
        go_wp2_with fail
        go_ret3
        exact HT.out.fresh HB2.out

theorem specDupKept_any (w : World) (a b : Int) (rs : List Int) (hr : dupKept a b = rs) :
    Calls Try.prog 23 #[.int .i64 a, .int .i64 b] w (Fresh w rs) := by
  subst hr
  have E0 := Lib.hid (own_new w w.heap.size (Nat.le_refl _))
  have B0 := Lib.hid ((Below.refl _ w).alloc (Nat.le_refl _) (.cells #[] 3))
  cases hb : isFac a && isFac b
  · have HR := Lib.hid (dupRows_no hb)
    rw [dupKept_no hb]
    clear hb
    go_enter Try.func23, Try.ntmps23
    go_wp2_with fail
    refine (specDupRows_any _ _ _ [] [] false HR.out).mono ?_
    rintro e w1 ⟨a1, c1, a2, c2, l1, h1, l2, h2, rfl, o1, o2, dj, q1, q2, b1⟩
    have B1 := Lib.hid (B0.out.trans (b1.mono (by simp)))
    have O1 := Lib.hid (E0.out.below (b1.mono (by simp)))
    clear o1 o2 b1
    go_wp2_with fail
    go_loopw [5, 9] (fun s i wr => s = .slice (some ⟨w.heap.size, 0, none⟩) 0 0 ∧ i = .int .i64 0 ∧ wr = w1) (fun _ _ _ => 0)
    case atStart => exact ⟨rfl, rfl, rfl⟩
    case round =>
      obtain ⟨rfl, rfl, rfl⟩ := hrel
      go_wp2_with fail
      go_ret
      exact ⟨_, _, rfl, O1.out.all, B1.out⟩
  · obtain ⟨n, m, rfl, rfl, n1, n2, m1, m2⟩ := facs hb
    have HR := Lib.hid (dupRows_yes n1 n2 m1 m2)
    rw [dupKept_yes n1 n2 m1 m2]
    clear hb
    have B17 := bl_le n2
    go_enter Try.func23, Try.ntmps23
    go_wp2_with fail
    refine (specDupRows_any _ _ _ _ _ true HR.out).mono ?_
    rintro e w1 ⟨a1, c1, a2, c2, l1, h1, l2, h2, rfl, o1, o2, dj, q1, q2, b1⟩
    have s1 : w.heap.size + 1 ≤ w1.heap.size := by have := b1.size; simpa using this
    have q1' : w.heap.size + 1 ≤ l1 := by simpa using q1
    have B1 := Lib.hid (B0.out.trans (b1.mono (by simp)))
    have O1 := Lib.hid (E0.out.below (b1.mono (by simp)))
    have R1 := Lib.hid o1
    clear o1 o2 b1 q1 q2 dj
    rw [hl_len, dl_len]
    go_wp2_with fail
    go_loopw [5, 9] (fun s i wr => ∃ k c : Nat, ∃ x : Option Addr, k ≤ bl n ∧ s = .slice x (kept n k).length c ∧ i = .int .i64 k ∧ Two wr w.heap.size (.slice x (kept n k).length c) (kept n k) (.slice a1 (hl n (bl n)).length c1) (hl n (bl n)) ∧ Below w.heap.size w wr) (fun _ i _ => bl n - (intOf i).toNat)
    case atStart =>
      refine ⟨0, 0, some ⟨w.heap.size, 0, none⟩, by omega, rfl, rfl, ⟨O1.out.all, R1.out.mono (by omega) R1.out.lim (Nat.le_refl _), ?_⟩, B1.out⟩
      intro r hr1 hr2
      have := (R1.out.owns.lt r hr2).1
      simp [Value.ownBlock] at hr1
      omega
    case round =>
      obtain ⟨k, c, x, hk, rfl, rfl, ht, hb⟩ := hrel
      have hs := hb.size
      have HB2 := Lib.hid hb
      clear hb
      by_cases hlt : k < bl n
      · obtain ⟨bb, off, rfl, _, hc⟩ := ht.snd.row.at_ (i := k) (by rw [hl_len]; exact hlt)
        rw [hl_nth hlt] at hc
        have tl := kept_len_le n k
        by_cases hodd : n / 2 ^ k % 2 = 1
        · have L := Lib.hid (kept_hit hodd)
          generalize n / 2 ^ k = X at *
          have e1 : (((X : Nat) : Int) % 2 == 1) = true := by simp; omega
          generalize kept n k = out at *
          clear hodd
          go_wp2_with (at_builtin; refine wpList_push_fst rfl _ _ rfl wr w.heap.size (k : Int) out _ x c _ rfl rfl ht hs (by omega) ?_; intro x' c' w2 ht2 hb2 hs2)
          have HT := Lib.hid ht2
          have HB3 := Lib.hid (HB2.out.trans hb2)
          clear ht ht2 hb2 hc
          go_wp2_with fail
          go_roundw
          case rel =>
            refine ⟨k + 1, c', x', by omega, by rw [L.out]; simp, by go_num, ?_, HB3.out⟩
            rw [L.out]
            have := HT.out
            simpa using this
          case measure => (simp [intOf]) <;> omega
        · have L := Lib.hid (kept_miss hodd)
          have HT := Lib.hid ht
          generalize n / 2 ^ k = X at *
          have e1 : (((X : Nat) : Int) % 2 == 1) = false := beq_eq_false_iff_ne.2 (by omega)
          clear ht hodd
          go_wp2_with fail
          go_roundw
          case rel =>
            refine ⟨k + 1, c, x, by omega, by rw [L.out], by go_num, ?_, HB2.out⟩
            rw [L.out]
            exact HT.out
          case measure => (simp [intOf]) <;> omega
      · obtain rfl : k = bl n := by omega
        have HT := Lib.hid ht
        clear ht
        go_wp2_with fail
        go_ret
        exact ⟨_, _, rfl, HT.out.fst, HB2.out⟩

theorem specDupTimes_any (w : World) (a b : Int) :
    Calls Try.prog 16 #[.int .i64 a, .int .i64 b] w fun e w' => e = .returned (.int .i64 (dupTimes a b)) ∧ Below w.heap.size w w' := by
  cases hb : isFac a && isFac b
  · have HR := Lib.hid (dupRows_no hb)
    rw [dupTimes_no hb]
    clear hb
    go_enter Try.func16, Try.ntmps16
    go_wp2_with fail
    refine (specDupRows_any _ _ _ [] [] false HR.out).mono ?_
    rintro e w1 ⟨a1, c1, a2, c2, l1, h1, l2, h2, rfl, o1, o2, dj, q1, q2, b1⟩
    have B1 := Lib.hid b1
    clear o1 o2 b1
    go_wp2_with fail
    go_ret
    exact ⟨rfl, B1.out⟩
  · obtain ⟨n, m, rfl, rfl, n1, n2, m1, m2⟩ := facs hb
    have HR := Lib.hid (dupRows_yes n1 n2 m1 m2)
    have HK := Lib.hid (dupKept_yes n1 n2 m1 m2)
    rw [dupTimes_yes n1 n2 m1 m2]
    clear hb
    have B17 := bl_le n2
    have M := mul_bd n2 m2
    go_enter Try.func16, Try.ntmps16
    go_wp2_with fail
    refine (specDupRows_any _ _ _ _ _ true HR.out).mono ?_
    rintro e w1 ⟨a1, c1, a2, c2, l1, h1, l2, h2, rfl, o1, o2, dj, q1, q2, b1⟩
    have B1 := Lib.hid b1
    have O2 := Lib.hid o2
    clear o1 o2 b1 q1 q2 dj
    go_wp2_with fail
    refine (specDupKept_any _ _ _ _ HK.out).mono ?_
    rintro e w2 ⟨a3, c3, rfl, o3, b2⟩
    have B2 := Lib.hid (B1.out.trans (b2.mono B1.out.size))
    have R2 := Lib.hid (O2.out.below (b2.mono O2.out.lim)).row
    have R3 := Lib.hid o3.row
    clear o3 b2
    have KL := kept_len_le n (bl n)
    rw [hl_len, dl_len]
    go_wp2_with fail
    go_loop [9, 10] (fun s i => ∃ k : Nat, k ≤ (kept n (bl n)).length ∧ s = .int .i64 ((pick m ((kept n (bl n)).take k) : Nat) : Int) ∧ i = .int .i64 k) (fun _ i => (kept n (bl n)).length - (intOf i).toNat)
    case atStart => exact ⟨0, Nat.zero_le _, rfl, rfl⟩
    case round =>
      obtain ⟨k, hk, rfl, rfl⟩ := hrel
      by_cases hlt : k < (kept n (bl n)).length
      · obtain ⟨j, hj, hjl⟩ := kept_mem (nth_mem (kept n (bl n)) k hlt)
        have P1 := Lib.hid (pick_take_succ m (kept n (bl n)) hlt)
        have P2 := pick_take_le m (kept n (bl n)) (k + 1)
        rw [pick_kept, sumK_all, P1.out, hj] at P2
        have P3 := P1.out
        rw [hj] at P3
        simp only [Int.toNat_natCast] at P2 P3
        have PP := Lib.hid P3
        obtain ⟨b3, f3, rfl, _, hc3⟩ := R3.out.at_ hlt
        obtain ⟨b2', f2, rfl, _, hc2⟩ := R2.out.at_ (i := j) (by rw [dl_len]; exact hjl)
        rw [hj] at hc3
        rw [dl_nth hjl] at hc2
        generalize m * 2 ^ j = Y at *
        generalize pick m ((kept n (bl n)).take k) = s0 at *
        generalize n * m = M0 at *
        clear hj P1 P3
        go_wp2_with fail
        go_round
        case rel => exact ⟨k + 1, by omega, by rw [PP.out]; go_num, by go_num⟩
        case measure => simp [intOf]; omega
      · have e : pick m ((kept n (bl n)).take k) = n * m := by rw [List.take_of_length_le (by omega), pick_kept, sumK_all]
        rw [e]
        clear e
        go_wp2_with fail
        go_ret
        exact ⟨rfl, B2.out⟩
end Go.Proofs.Ytlnfajpjkhhplaa
