
/-
  Contracts of the two functions that write the reduced board of a value, and of the two that count its counters. No condition.
-/
import Derived.Test.YtdappacmfpkhcaaBoard3
namespace Go.Proofs.Ytdappacmfpkhcaa
open Go.RowKit

theorem own_empty (W : World) (lo : Nat) (h : lo ≤ W.heap.size) : Own (W.alloc (.cells #[] 3)) lo (W.heap.size + 1) (.slice (some ⟨W.heap.size, 0, none⟩) 0 0) [] := by
  have h1 : (W.alloc (.cells #[] 3)).ownsRow lo 3 1 (.slice (some ⟨W.heap.size, 0, none⟩) 0 0) 0 [] := World.ownsRow_lit W #[] 0 h (by unfold maxLen; omega) rfl
  have := Own.of (zs := []) h1
  simpa using this

theorem implBoardOf_any (w : World) (v : Int) (rs : List Int) (ok : Bool) (hr : boardOf v = (rs, ok)) :
    Calls Try.prog 22 #[.int .i64 v] w (FreshOk w rs ok) := by
  cases hb : inB v 0 99999
  · rw [boardOf_no hb] at hr
    injection hr with h1 h2
    subst h1 h2
    have HB := Lib.hid hb
    clear hb
    go_enter Try.func22, Try.ntmps22
    go_wp2_with fail
    refine (layReduced_no _ v HB.out).mono ?_
    rintro e w1 ⟨rfl, b1⟩
    have B1 := Lib.hid b1
    clear b1
    go_wp2_with (refine wpList_put_arr rfl _ _ rfl w1 (List.replicate 10 0) (by simp) rfl rfl ?_; intro w2 a2 b2 s2)
    have B2 := Lib.hid (B1.out.trans (b2.mono B1.out.size))
    clear a2 b2
    go_wp2_with fail
    go_ret2
    exact ⟨none, 0, rfl, Own.nil_ _ _, B2.out⟩
  · obtain ⟨h0, h1⟩ := inB_true hb
    obtain ⟨n, rfl⟩ : ∃ n : Nat, v = n := ⟨v.toNat, by omega⟩
    have hn : n ≤ 99999 := by omega
    rw [boardOf_yes hn] at hr
    injection hr with h1 h2
    subst h1 h2
    clear hb
    go_enter Try.func22, Try.ntmps22
    go_wp2_with fail
    refine (layReduced_yes _ n hn).mono ?_
    rintro e w1 ⟨rfl, b1⟩
    have B1 := Lib.hid b1
    clear b1
    go_wp2_with (first | (refine wpList_put_arr rfl _ _ rfl w1 (redu n) (redu_len n) rfl rfl ?_; intro w2 a2 b2 s2; have A2 := Lib.hid a2; have B2 := Lib.hid (B1.out.trans (b2.mono B1.out.size)); clear a2 b2) | (refine wpList_get_arr rfl _ rfl w1.heap.size (redu n) rfl A2.out ?_))
    refine (list_any _ (redu n) (redu_len n)).mono ?_
    rintro e w3 ⟨a3, c3, rfl, o3, b3⟩
    have O3 := Lib.hid (o3.mono B2.out.size (Nat.le_refl _) (Nat.le_refl _))
    have B3 := Lib.hid (B2.out.trans (b3.mono B2.out.size))
    clear o3 b3
    go_wp2_with fail
    go_ret2
    exact ⟨a3, c3, rfl, O3.out, B3.out⟩

theorem implBoardFewest_any (w : World) (v : Int) :
    Calls Try.prog 18 #[.int .i64 v] w fun e w' => e = .returned (.int .i64 (fewest v)) ∧ Below w.heap.size w w' := by
  cases hb : inB v 0 99999
  · have HB := Lib.hid hb
    clear hb
    go_enter Try.func18, Try.ntmps18
    go_wp2_with fail
    refine (layReduced_no _ v HB.out).mono ?_
    rintro e w1 ⟨rfl, b1⟩
    have B1 := Lib.hid b1
    clear b1
    go_wp2_with (refine wpList_put_arr rfl _ _ rfl w1 (List.replicate 10 0) (by simp) rfl rfl ?_; intro w2 a2 b2 s2)
    have B2 := Lib.hid (B1.out.trans (b2.mono B1.out.size))
    clear a2 b2
    go_wp2_with fail
    go_ret
    exact ⟨by rw [fewest_no HB.out]; rfl, B2.out⟩
  · obtain ⟨h0, h1⟩ := inB_true hb
    obtain ⟨n, rfl⟩ : ∃ n : Nat, v = n := ⟨v.toNat, by omega⟩
    have hn : n ≤ 99999 := by omega
    have F := Lib.hid (fewest_yes hn)
    clear hb
    go_enter Try.func18, Try.ntmps18
    go_wp2_with fail
    refine (layReduced_yes _ n hn).mono ?_
    rintro e w1 ⟨rfl, b1⟩
    have B1 := Lib.hid b1
    clear b1
    go_wp2_with (first | (refine wpList_put_arr rfl _ _ rfl w1 (redu n) (redu_len n) rfl rfl ?_; intro w2 a2 b2 s2; have A2 := Lib.hid a2; have B2 := Lib.hid (B1.out.trans (b2.mono B1.out.size)); clear a2 b2) | (refine wpList_get_arr rfl _ rfl w1.heap.size (redu n) rfl A2.out ?_))
    refine (total_any _ (redu n) (redu_len n) (redu_wide n)).mono ?_
    rintro e w3 ⟨rfl, b3⟩
    have B3 := Lib.hid (B2.out.trans (b3.mono B2.out.size))
    clear b3
    go_wp2_with fail
    go_ret
    exact ⟨by rw [F.out]; rfl, B3.out⟩

theorem specBoardOf_no (w : World) (v : Int) (h : inB v 0 99999 = false) :
    Calls Try.prog 21 #[.int .i64 v] w (FreshOk w [] false) := by
  have H := Lib.hid h
  clear h
  go_enter Try.func21, Try.ntmps21
  go_wp2_with fail
  refine (l6In_any _ _ _ _).mono ?_
  rintro e w' ⟨rfl, rfl⟩
  rw [H.out]
  go_wp2_with fail
  go_ret2
  exact ⟨_, _, rfl, by simpa using own_empty w w.heap.size (Nat.le_refl _), (Below.refl _ _).alloc (Nat.le_refl _) _⟩

theorem specBoardOf_yes (w : World) (n : Nat) (h : n ≤ 99999) :
    Calls Try.prog 21 #[.int .i64 (n : Int)] w (FreshOk w (redu n) true) := by
  have HI := Lib.hid (show inB (n : Int) 0 99999 = true from inB_mk (by omega) (by omega))
  go_enter Try.func21, Try.ntmps21
  go_wp2_with fail
  refine (l6In_any _ _ _ _).mono ?_
  rintro e w' ⟨rfl, rfl⟩
  rw [HI.out]
  go_wp2_with fail
  go_loopw [0, 4, 5] (fun y s i wr => ∃ k c Y : Nat, ∃ x : Option Addr, k ≤ 5 ∧ y = .int .i64 Y ∧ Y = n / 10 ^ k ∧ Y ≤ 99999 ∧ s = .slice x ((redu n).take (2 * k)).length c ∧ i = .int .i64 ((2 * k : Nat) : Int) ∧ Own wr w.heap.size wr.heap.size (.slice x ((redu n).take (2 * k)).length c) ((redu n).take (2 * k)) ∧ Below w.heap.size w wr) (fun _ _ i _ => (10 - intOf i).toNat)
  case atStart => exact ⟨0, 0, n, some ⟨w.heap.size, 0, none⟩, by omega, rfl, by simp, h, rfl, rfl, by simpa using own_empty w w.heap.size (Nat.le_refl _), (Below.refl _ _).alloc (Nat.le_refl _) _⟩
  case round =>
    obtain ⟨k, c, Y, x, hk, rfl, hY, hY9, rfl, rfl, ho, hb⟩ := hrel
    have hs := hb.size
    have HB := Lib.hid hb
    clear hb
    by_cases hlt : k < 5
    · have T := Lib.hid (redu_take n k hlt)
      have tl : ((redu n).take (2 * k)).length ≤ 10 := by rw [List.length_take, redu_len]; omega
      have HY := Lib.hid hY
      have NY := Lib.hid (show Y / 10 = n / 10 ^ (k + 1) by rw [hY, Nat.pow_succ, Nat.div_div_eq_div_mul])
      clear hY
      generalize (redu n).take (2 * k) = out at *
      go_wp2_with (at_builtin; refine wpList_push2 rfl _ _ rfl wr w.heap.size wr.heap.size ((Y : Int) % 5) ((Y : Int) / 5 % 2) out x c rfl rfl ho hs (by omega) ?_; intro x' c' w2 ho2 hb2 hs2)
      have HO2 := Lib.hid ho2
      have HB2 := Lib.hid (HB.out.trans hb2)
      clear ho ho2 hb2
      go_wp2_with fail
      go_roundw
      case rel =>
        refine ⟨k + 1, c', Y / 10, x', by omega, by go_num, NY.out, by omega, ?_, by go_num, ?_, HB2.out⟩
        · rw [show 2 * (k + 1) = 2 * k + 2 by omega, T.out]; simp
        · rw [show 2 * (k + 1) = 2 * k + 2 by omega, T.out, ← HY.out]
          have := HO2.out
          simpa using this
      case measure => (simp [intOf]) <;> omega
    · obtain rfl : k = 5 := by omega
      have e : (redu n).take (2 * 5) = redu n := List.take_of_length_le (by rw [redu_len]; omega)
      rw [e] at ho
      have HO := Lib.hid ho
      clear ho
      rw [e]
      clear e
      go_wp2_with fail
      go_ret2
      exact ⟨x, c, rfl, HO.out, HB.out⟩

theorem specBoardOf_any (w : World) (v : Int) (rs : List Int) (ok : Bool) (hr : boardOf v = (rs, ok)) :
    Calls Try.prog 21 #[.int .i64 v] w (FreshOk w rs ok) := by
  cases hb : inB v 0 99999
  · rw [boardOf_no hb] at hr
    injection hr with h1 h2
    subst h1 h2
    exact specBoardOf_no w v hb
  · obtain ⟨h0, h1⟩ := inB_true hb
    obtain ⟨n, rfl⟩ : ∃ n : Nat, v = n := ⟨v.toNat, by omega⟩
    rw [boardOf_yes (by omega)] at hr
    injection hr with h1 h2
    subst h1 h2
    exact specBoardOf_yes w n (by omega)

theorem specBoardFewest_any (w : World) (v : Int) :
    Calls Try.prog 17 #[.int .i64 v] w fun e w' => e = .returned (.int .i64 (fewest v)) ∧ Below w.heap.size w w' := by
  cases hb : inB v 0 99999
  · have HB := Lib.hid hb
    clear hb
    go_enter Try.func17, Try.ntmps17
    go_wp2_with fail
    refine (specBoardOf_no _ v HB.out).mono ?_
    rintro e w1 ⟨a1, c1, rfl, o1, b1⟩
    have B1 := Lib.hid b1
    clear o1 b1
    go_wp2_with fail
    go_ret
    exact ⟨by rw [fewest_no HB.out]; rfl, B1.out⟩
  · obtain ⟨h0, h1⟩ := inB_true hb
    obtain ⟨n, rfl⟩ : ∃ n : Nat, v = n := ⟨v.toNat, by omega⟩
    have hn : n ≤ 99999 := by omega
    have F := Lib.hid (fewest_yes hn)
    clear hb
    go_enter Try.func17, Try.ntmps17
    go_wp2_with fail
    refine (specBoardOf_yes _ n hn).mono ?_
    rintro e w1 ⟨a1, c1, rfl, o1, b1⟩
    have O1 := Lib.hid o1.row
    have B1 := Lib.hid b1
    clear o1 b1
    go_wp2_with fail
    refine (l1Sum_any _ _ _ _ O1.out (redu_len n) (redu_wide n)).mono ?_
    rintro e w' ⟨rfl, rfl⟩
    go_wp2_with fail
    go_ret
    exact ⟨by rw [F.out]; rfl, B1.out⟩
end Go.Proofs.Ytdappacmfpkhcaa
