
/-
  Contracts of the program's functions that raise and lower counters at a place. Condition: lists of at most 2^20 numbers.
-/
import Derived.Test.YtdappacmfpkhcaaBoard5
import Derived.StillTailTactics
namespace Go.Proofs.Ytdappacmfpkhcaa
open Go.RowKit

theorem implBoardRaise_no (w : World) (a : Option Addr) (cap : Nat) (zs : List Int) (h : Row .i64 w a zs) (hl : zs.length ≤ 2000000) (n : Int) (hn : isBoard zs = false ∨ isBoard zs = true ∧ inB n 0 8 = false) :
    Calls Try.prog 35 #[.slice a zs.length cap, .int .i64 n] w (FreshOk w [] false) := by
  have H := Lib.hid h
  clear h
  rcases hn with hb | ⟨hb, h8⟩
  · have HB := Lib.hid hb
    clear hb
    go_enter Try.func35, Try.ntmps35
    go_wp2_with fail
    refine (layOut_any _ _ _ _ H.out hl).mono ?_
    rintro e w1 ⟨rfl, b1⟩
    rw [HB.out]
    have B1 := Lib.hid b1
    clear b1
    go_wp2_with (refine wpList_put_arr rfl _ _ rfl w1 (laid zs) (laid_len zs) rfl rfl ?_; intro w2 a2 b2 s2; have B2 := Lib.hid (B1.out.trans (b2.mono B1.out.size)); clear a2 b2)
    go_ret2
    exact ⟨none, 0, rfl, Own.nil_ _ _, B2.out⟩
  · have HB := Lib.hid hb
    rcases inB_false h8 with h1 | h1
    all_goals
      clear hb h8
      go_enter Try.func35, Try.ntmps35
      go_wp2_with fail
      refine (layOut_any _ _ _ _ H.out hl).mono ?_
      rintro e w1 ⟨rfl, b1⟩
      rw [HB.out]
      have B1 := Lib.hid b1
      clear b1
      go_wp2_with (refine wpList_put_arr rfl _ _ rfl w1 (laid zs) (laid_len zs) rfl rfl ?_; intro w2 a2 b2 s2; have B2 := Lib.hid (B1.out.trans (b2.mono B1.out.size)); clear a2 b2)
      go_ret2
      exact ⟨none, 0, rfl, Own.nil_ _ _, B2.out⟩
theorem implBoardLower_no (w : World) (a : Option Addr) (cap : Nat) (zs : List Int) (h : Row .i64 w a zs) (hl : zs.length ≤ 2000000) (n : Int) (hn : isBoard zs = false ∨ isBoard zs = true ∧ inB n 1 9 = false) :
    Calls Try.prog 33 #[.slice a zs.length cap, .int .i64 n] w (FreshOk w [] false) := by
  have H := Lib.hid h
  clear h
  rcases hn with hb | ⟨hb, h8⟩
  · have HB := Lib.hid hb
    clear hb
    go_enter Try.func33, Try.ntmps33
    go_wp2_with fail
    refine (layOut_any _ _ _ _ H.out hl).mono ?_
    rintro e w1 ⟨rfl, b1⟩
    rw [HB.out]
    have B1 := Lib.hid b1
    clear b1
    go_wp2_with (refine wpList_put_arr rfl _ _ rfl w1 (laid zs) (laid_len zs) rfl rfl ?_; intro w2 a2 b2 s2; have B2 := Lib.hid (B1.out.trans (b2.mono B1.out.size)); clear a2 b2)
    go_ret2
    exact ⟨none, 0, rfl, Own.nil_ _ _, B2.out⟩
  · have HB := Lib.hid hb
    rcases inB_false h8 with h1 | h1
    all_goals
      clear hb h8
      go_enter Try.func33, Try.ntmps33
      go_wp2_with fail
      refine (layOut_any _ _ _ _ H.out hl).mono ?_
      rintro e w1 ⟨rfl, b1⟩
      rw [HB.out]
      have B1 := Lib.hid b1
      clear b1
      go_wp2_with (refine wpList_put_arr rfl _ _ rfl w1 (laid zs) (laid_len zs) rfl rfl ?_; intro w2 a2 b2 s2; have B2 := Lib.hid (B1.out.trans (b2.mono B1.out.size)); clear a2 b2)
      go_ret2
      exact ⟨none, 0, rfl, Own.nil_ _ _, B2.out⟩

theorem Arr.drew {w : World} {g : Nat} {zs : List Int} (h : Arr w g zs) : Arr w.drew g zs := h
theorem below_drew {B : Nat} {a w : World} (h : Below B a w) : Below B a w.drew := ⟨h.os, h.tape, h.output, h.size, h.block⟩
/-- One cell of an array variable is written. -/
theorem wpList_setArr {ops : Array Oper} {rest : List Oper} {o : Oper} {a : Act} {Q : Exit → Act → World → Prop} (hgd : o.guard = none) (x y : Operand) (ho : o.op = .store 3 x y)
    (W : World) (g : Nat) (zs : List Int) (i : Nat) (d : Int) (hx : a.eval x = .pointer (some ⟨g, i, none⟩)) (hy : a.eval y = .int .i64 d) (ha : Arr W g zs) (hi' : i < 10)
    (h : ∀ w', Arr w' g (zs.set i d) → Below g W w' → wpList Try.prog ops Q rest (a.put o.dst undef) w') : wpList Try.prog ops Q (o :: rest) a W := by
  have hc := ha.cell hi'
  have hf := ha.frozen i
  refine wpList_plain hgd fun K hK => ?_
  have hK' := hK _ _ (h _ (ha.set_ i d) ((Below.refl g W).setCell (Nat.le_refl _) _))
  unfold Oper.wp execOp
  simp only [ho, hx, hy]
  simp [go_sem, hc, hf]
  exact hK'

set_option maxHeartbeats 400000 in
theorem implBoardRaise_yes (w : World) (a : Option Addr) (cap : Nat) (zs : List Int) (h : Row .i64 w a zs) (n : Nat) (hb : isBoard zs = true) (hn : n ≤ 8) (rs : List Int) (ok : Bool) (hr : asBoard (shift zs n (full n) (n + 1) 1) = (rs, ok)) :
    Calls Try.prog 35 #[.slice a zs.length cap, .int .i64 (n : Int)] w (FreshOk w rs ok) := by
  obtain ⟨hfit, h10⟩ := isBoard_parts hb
  have l3 : zs.length ≤ 2000000 := by omega
  have fb := full_bd n
  have q1 := fits_nth hfit (i := n) (by omega)
  have q2 : 0 ≤ nth (zs.set n (nth zs n - full n)) (n + 1) ∧ nth (zs.set n (nth zs n - full n)) (n + 1) ≤ 20 := by
    have q3 := fits_nth hfit (i := n + 1) (by omega)
    rw [nth_of _ _ (by simp; omega), List.getElem_set, if_neg (by omega), ← nth_of zs (n + 1) (by omega)]
    exact q3
  have H := Lib.hid h
  have HB := Lib.hid hb
  have H10 := Lib.hid h10
  have HR := Lib.hid hr
  clear h hb hfit h10 hr
  go_enter Try.func35, Try.ntmps35
  go_wp2_with fail
  refine (layOut_any _ _ _ _ H.out l3).mono ?_
  rintro e w1 ⟨rfl, b1⟩
  rw [HB.out, laid_yes HB.out]
  have S1 := Lib.hid b1.size
  have B1 := Lib.hid b1
  clear b1
  go_wp2_with (refine wpList_put_arr rfl _ _ rfl w1 zs H10.out rfl rfl ?_; intro w2 a2 b2 s2; have A2 := Lib.hid a2; have B2 := Lib.hid (B1.out.trans (b2.mono B1.out.size)); clear a2 b2)
  have c1 := A2.out.cell (i := n) (by omega)
  have u1 : IntKind.i64.wrap (nth zs n - full n) = nth zs n - full n := IntWalk.i64_in _ (by omega)
  have A3 := Lib.hid A2.out.drew
  have B3 := Lib.hid (below_drew B2.out)
  have hn10 : (n : Int) < 10 := by omega
  go_still_tail 7, (by kernel_rfl)
  still_call ((fullAt_any _ n (by omega)).mono (fun _ _ hh => ⟨hh.1, hh.2.symm⟩))
  repeat still_step
  refine wpStill_nil ?_
  change wpList _ _ _ _ _ w2.drew
  clear c1 u1
  have s3 : w1.heap.size < w2.drew.heap.size := s2
  generalize w2.drew = w3 at *
  go_wp2_with (first | (refine wpList_setArr rfl _ _ rfl w3 w1.heap.size zs n (nth zs n - full n) rfl rfl A3.out (by omega) ?_; intro w4 a4 b4; have s4 := b4.size; have A4 := Lib.hid a4; have B4 := Lib.hid (B3.out.trans (b4.mono S1.out)); have c4 := a4.cell (i := n + 1) (by omega); clear a4 b4) | (refine wpList_setArr rfl _ _ rfl w4 w1.heap.size _ (n + 1) (nth (zs.set n (nth zs n - full n)) (n + 1) + 1) rfl rfl A4.out (by omega) ?_; intro w5 a5 b5; have s5 := b5.size; have A5 := Lib.hid a5; have B5 := Lib.hid (B4.out.trans (b5.mono S1.out)); clear a5 b5 c4) | (refine wpList_get_arr rfl _ rfl w1.heap.size (shift zs n (full n) (n + 1) 1) rfl A5.out ?_))
  refine (board_any _ (shift zs n (full n) (n + 1) 1) (by rw [shift_len]; exact H10.out) rs ok HR.out).mono ?_
  rintro e w6 ⟨a6, c6, rfl, o6, b6⟩
  have O6 := Lib.hid (o6.mono B5.out.size (Nat.le_refl _) (Nat.le_refl _))
  have B6 := Lib.hid (B5.out.trans (b6.mono B5.out.size))
  clear o6 b6
  go_wp2_with fail
  go_ret2
  exact ⟨a6, c6, rfl, O6.out, B6.out⟩
theorem implBoardRaise_any (w : World) (a : Option Addr) (cap : Nat) (zs : List Int) (h : Row .i64 w a zs) (hl : zs.length ≤ 2000000) (n : Int) (rs : List Int) (ok : Bool) (hr : boardRaise zs n = (rs, ok)) :
    Calls Try.prog 35 #[.slice a zs.length cap, .int .i64 n] w (FreshOk w rs ok) := by
  cases hb : isBoard zs
  · rw [raise_no1 hb] at hr
    injection hr with e1 e2
    subst e1 e2
    exact implBoardRaise_no w a cap zs h hl n (.inl hb)
  · cases hn : inB n 0 8
    · rw [raise_no2 hn] at hr
      injection hr with e1 e2
      subst e1 e2
      exact implBoardRaise_no w a cap zs h hl n (.inr ⟨hb, hn⟩)
    · obtain ⟨n0, n8⟩ := inB_true hn
      obtain ⟨m, rfl⟩ : ∃ m : Nat, n = m := ⟨n.toNat, by omega⟩
      rw [raise_yes hb (by omega)] at hr
      exact implBoardRaise_yes w a cap zs h m hb (by omega) rs ok hr

set_option maxHeartbeats 400000 in
theorem implBoardLower_yes (w : World) (a : Option Addr) (cap : Nat) (zs : List Int) (h : Row .i64 w a zs) (n : Nat) (hb : isBoard zs = true) (hn : n ≤ 8) (rs : List Int) (ok : Bool) (hr : asBoard (shift zs (n + 1) 1 n (full n)) = (rs, ok)) :
    Calls Try.prog 33 #[.slice a zs.length cap, .int .i64 ((n : Int) + 1)] w (FreshOk w rs ok) := by
  obtain ⟨hfit, h10⟩ := isBoard_parts hb
  have l3 : zs.length ≤ 2000000 := by omega
  have fb := full_bd n
  have q1 := fits_nth hfit (i := n + 1) (by omega)
  have q2 : 0 ≤ nth (zs.set (n + 1) (nth zs (n + 1) - 1)) n ∧ nth (zs.set (n + 1) (nth zs (n + 1) - 1)) n ≤ 20 := by
    have q3 := fits_nth hfit (i := n) (by omega)
    rw [nth_of _ _ (by simp; omega), List.getElem_set, if_neg (by omega), ← nth_of zs n (by omega)]
    exact q3
  have H := Lib.hid h
  have HB := Lib.hid hb
  have H10 := Lib.hid h10
  have HR := Lib.hid hr
  clear h hb hfit h10 hr
  go_enter Try.func33, Try.ntmps33
  go_wp2_with fail
  refine (layOut_any _ _ _ _ H.out l3).mono ?_
  rintro e w1 ⟨rfl, b1⟩
  rw [HB.out, laid_yes HB.out]
  have S1 := Lib.hid b1.size
  have B1 := Lib.hid b1
  clear b1
  go_wp2_with (first | (refine wpList_put_arr rfl _ _ rfl w1 zs H10.out rfl rfl ?_; intro w2 a2 b2 s2; have c1 := a2.cell (i := n + 1) (by omega); have A2 := Lib.hid a2; have B2 := Lib.hid (B1.out.trans (b2.mono B1.out.size)); clear a2 b2) | (refine wpList_setArr rfl _ _ rfl w2 w1.heap.size zs (n + 1) (nth zs (n + 1) - 1) rfl rfl A2.out (by omega) ?_; intro w4 a4 b4; have s4 := b4.size; have A4 := Lib.hid a4; have B4 := Lib.hid (B2.out.trans (b4.mono S1.out)); clear a4 b4 c1))
  have c4 := A4.out.cell (i := n) (by omega)
  have A3 := Lib.hid A4.out.drew
  have B3 := Lib.hid (below_drew B4.out)
  have SE := Lib.hid (show shift zs (n + 1) 1 n (full n) = (zs.set (n + 1) (nth zs (n + 1) - 1)).set n (nth (zs.set (n + 1) (nth zs (n + 1) - 1)) n + full n) from rfl)
  generalize nth (zs.set (n + 1) (nth zs (n + 1) - 1)) n = X at *
  have u1 : IntKind.i64.wrap (X + full n) = X + full n := IntWalk.i64_in _ (by omega)
  have u2 : IntKind.i64.wrap ((n : Int) + 1 - 1) = n := by rw [show (n : Int) + 1 - 1 = n by omega]; exact IntWalk.i64_in _ (by omega)
  have u3 : (n : Int) + 1 - 1 = n := by omega
  have u4 : IntKind.i64.wrap (n : Int) = n := IntWalk.i64_in _ (by omega)
  have hn10 : (n : Int) < 10 := by omega
  go_still_tail 9, (by kernel_rfl)
  still_call ((fullAt_any _ n (by omega)).mono (fun _ _ hh => ⟨hh.1, hh.2.symm⟩))
  repeat still_step
  refine wpStill_nil ?_
  change wpList _ _ _ _ _ w4.drew
  clear c4 u1 u2 u3 u4
  have s5 : w1.heap.size < w4.drew.heap.size := Nat.lt_of_lt_of_le s2 s4
  generalize w4.drew = w5 at *
  go_wp2_with (first | (refine wpList_setArr rfl _ _ rfl w5 w1.heap.size _ n (X + full n) rfl rfl A3.out (by omega) ?_; intro w6 a6 b6; have s6 := b6.size; have A6 := Lib.hid a6; have B6 := Lib.hid (B3.out.trans (b6.mono S1.out)); clear a6 b6) | (refine wpList_get_arr rfl _ rfl w1.heap.size (shift zs (n + 1) 1 n (full n)) rfl (by rw [SE.out]; exact A6.out) ?_))
  refine (board_any _ (shift zs (n + 1) 1 n (full n)) (by rw [shift_len]; exact H10.out) rs ok HR.out).mono ?_
  rintro e w7 ⟨a7, c7, rfl, o7, b7⟩
  have O7 := Lib.hid (o7.mono B6.out.size (Nat.le_refl _) (Nat.le_refl _))
  have B7 := Lib.hid (B6.out.trans (b7.mono B6.out.size))
  clear o7 b7
  go_wp2_with fail
  go_ret2
  exact ⟨a7, c7, rfl, O7.out, B7.out⟩
theorem implBoardLower_any (w : World) (a : Option Addr) (cap : Nat) (zs : List Int) (h : Row .i64 w a zs) (hl : zs.length ≤ 2000000) (n : Int) (rs : List Int) (ok : Bool) (hr : boardLower zs n = (rs, ok)) :
    Calls Try.prog 33 #[.slice a zs.length cap, .int .i64 n] w (FreshOk w rs ok) := by
  cases hb : isBoard zs
  · rw [lower_no1 hb] at hr
    injection hr with e1 e2
    subst e1 e2
    exact implBoardLower_no w a cap zs h hl n (.inl hb)
  · cases hn : inB n 1 9
    · rw [lower_no2 hn] at hr
      injection hr with e1 e2
      subst e1 e2
      exact implBoardLower_no w a cap zs h hl n (.inr ⟨hb, hn⟩)
    · obtain ⟨n0, n8⟩ := inB_true hn
      obtain ⟨m, rfl⟩ : ∃ m : Nat, n = (m : Int) + 1 := ⟨(n - 1).toNat, by omega⟩
      rw [lower_yes hb (by omega)] at hr
      exact implBoardLower_yes w a cap zs h m hb (by omega) rs ok hr
end Go.Proofs.Ytdappacmfpkhcaa
