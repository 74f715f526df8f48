
/-
  The function that hands on the rows of a duplation: what it does for every loop body. No condition.
-/
import Derived.Test.YtlnfajpjkhhplaaDupI
import Derived.RegionIn
namespace Go.Proofs.Ytlnfajpjkhhplaa
open Go.RowKit Go.Shelf
attribute [local go_sem] Oper.semAt_some

theorem grown_drew1 {a w : World} {row : Option Nat} (h : a.grownBy w row) : a.grownBy w.drew row := ⟨h.os, h.tape, h.output, h.size, h.block⟩
set_option maxRecDepth 100000 in
set_option maxHeartbeats 1000000 in
theorem dupIt_in (n : Nat) (hn : 2 ≤ n) (l B1 B2 : Nat) (a b : Nat) (a1 : 1 ≤ a) (a2 : a ≤ 100000) (b1 : 1 ≤ b) (b2 : b ≤ 100000) (J Jx : List R3 → World → Prop) (W : World) (hJ : AbidesFrom W.heap.size J)
    (hY : ∀ pre x W, J pre W → pre.length < 17 → YieldAt Fence.wide (n - 1) Try.prog l #[.int .i64 (x.1.1 : Int), .agg #[.int .i64 (x.1.2.1 : Int), .int .i64 (x.1.2.2 : Int)]] W fun e W' =>
      (e = .returned (.bool true) ∧ J (pre ++ [x]) W' ∧ KR W W') ∨ (e = .returned (.bool false) ∧ Jx (pre ++ [x]) W'))
    (c1 : W.cell? ⟨B1, 0, none⟩ = some (.int .i64 (a : Int))) (c2 : W.cell? ⟨B2, 0, none⟩ = some (.int .i64 (b : Int))) (h0 : J [] W) :
    CallsIn Fence.wide n Try.prog 39 #[.func (.yield l) #[] #[], .pointer (some ⟨B1, 0, none⟩), .pointer (some ⟨B2, 0, none⟩)] W fun e W' => (∃ v, e = .returned v) ∧
      ((∃ ys, ys = rows3 a b (bl a) ∧ J ys W') ∨ (∃ pre : List R3, True ∧ Jx pre W')) := by
  have hn1 : 1 ≤ n := by omega
  have FA := Lib.hid (fac_nat a1 a2)
  have FB := Lib.hid (fac_nat b1 b2)
  have HJ := Lib.hid hJ
  have HY := Lib.hid hY
  have H0 := Lib.hid h0
  clear hJ hY h0
  refine callsIn_of_wp Try.func39 rfl trivial ?_ rfl
  simp only [Try.ntmps39, List.size_toArray, List.length_cons, List.length_nil, Nat.reduceAdd, Nat.reduceSub, Array.replicate_succ, Array.replicate_zero, List.push_toArray, List.append_toArray, List.nil_append, List.cons_append]
  gi_wp2_with (first | (refine ⟨trivial, ?_⟩; gi_at_call 33; refine (callsIn_wide.2 (isFactor_any _ _)).mono ?_; rintro e w' ⟨rfl, rfl⟩; first | rw [FA.out] | rw [FB.out]))
  have c1' : (W.alloc (.cells #[.int .i64 0, .int .i64 0] 44)).cell? ⟨B1, 0, none⟩ = some (.int .i64 (a : Int)) := (World.cell?_alloc_lt W _ _ (World.block_lt_of_cell? W _ c1)).trans c1
  have c2' : (W.alloc (.cells #[.int .i64 0, .int .i64 0] 44)).cell? ⟨B2, 0, none⟩ = some (.int .i64 (b : Int)) := (World.cell?_alloc_lt W _ _ (World.block_lt_of_cell? W _ c2)).trans c2
  gi_region
  clear c1 c2 c1' c2'
  gi_wp2
  have H0' := Lib.hid (HJ.out [] W _ none H0.out (grown_drew1 (World.grownBy_alloc W (.cells #[.int .i64 (a : Int), .int .i64 (b : Int)] 44) none)) (fun r hr => by cases hr))
  have G0 := Lib.hid (show (W.alloc (.cells #[.int .i64 (a : Int), .int .i64 (b : Int)] 44)).drew.heap[W.heap.size]? = some (.cells #[.int .i64 (a : Int), .int .i64 (b : Int)] 44 (0, 0)) from heap_alloc_new W _)
  have B17 := bl_le a2
  gi_loopw [4, 5] (fun i p wr => ∃ k g : Nat, k ≤ bl a ∧ i = .int .i64 (k : Int) ∧ p = .pointer (some ⟨g, 0, none⟩) ∧ wr.heap[g]? = some (.cells #[.int .i64 ((a / 2 ^ k : Nat) : Int), .int .i64 ((b * 2 ^ k : Nat) : Int)] 44 (0, 0)) ∧ J (rows3 a b k) wr) (fun i _ _ => bl a - (intOf i).toNat)
  case atStart => exact ⟨0, W.heap.size, by omega, rfl, rfl, by simpa using G0.out, H0'.out⟩
  case round =>
    obtain ⟨k, g, hk, rfl, rfl, hg, hJs⟩ := hrel
    have hc0 : wr.cell? ⟨g, 0, none⟩ = some (.int .i64 ((a / 2 ^ k : Nat) : Int)) := by simp [World.cell?, hg]
    have hc1 : wr.cell? ⟨g, 1, none⟩ = some (.int .i64 ((b * 2 ^ k : Nat) : Int)) := by simp [World.cell?, hg]
    have HG := Lib.hid hg
    have HJs := Lib.hid hJs
    clear hg hJs
    by_cases hlt : k < bl a
    · have X1 := (lt_bl_div a k).1 hlt
      have X2 : a / 2 ^ k ≤ a := Nat.div_le_self _ _
      have Y2 := right_bd b2 (show k ≤ 17 by omega)
      obtain ⟨fn, tmps, assign, body, hy, hR⟩ := HY.out (rows3 a b k) (row3 a b k) wr HJs.out (by rw [rows3_len]; omega)
      rw [row3_eq a2 b2 (by omega)] at hy
      dsimp only at hy
      have SX := Lib.hid (left_step a k)
      have SY := Lib.hid (right_step b k)
      have RS := Lib.hid (rows3_succ a b k)
      have HR := Lib.hid hR
      clear hR
      generalize a / 2 ^ k = X at *
      generalize b * 2 ^ k = Y at *
      gi_wp2
      refine HR.out.mono ?_
      rintro e W3 (⟨rfl, hJ3, hk3⟩ | ⟨rfl, hJx3⟩)
      · have hg3 := hk3 g _ _ HG.out
        have hd0 : W3.cell? ⟨g, 0, none⟩ = some (.int .i64 (X : Int)) := by simp [World.cell?, hg3]
        have hd1 : W3.cell? ⟨g, 1, none⟩ = some (.int .i64 (Y : Int)) := by simp [World.cell?, hg3]
        have HJ3 := Lib.hid hJ3
        clear hc0 hc1 hy hg3 hk3 hJ3 HY
        gi_wp2
        have u1 : IntKind.i64.wrap ((k : Int) + 1) = (k : Int) + 1 := IntWalk.i64_in _ (by omega)
        have u2 : IntKind.i64.wrap ((Y : Int) * 2) = (Y : Int) * 2 := IntWalk.i64_in _ (by omega)
        have u3 : (X : Int).tdiv 2 = ((X / 2 : Nat) : Int) := rfl
        have u4 : IntKind.i64.wrap ((X / 2 : Nat) : Int) = ((X / 2 : Nat) : Int) := IntWalk.i64_in _ (by omega)
        generalize X / 2 = X' at *
        gi_region
        clear u1 u2 u3 u4 hd0 hd1
        gi_wp2
        go_roundw
        case rel =>
          refine ⟨k + 1, W3.heap.size, by omega, by go_num, rfl, ?_, ?_⟩
          · rw [← SX.out, ← SY.out]
            have e : ((2 * Y : Nat) : Int) = (Y : Int) * 2 := by omega
            rw [e]
            exact heap_alloc_new W3 _
          · rw [RS.out]
            exact HJ.out _ W3 _ none HJ3.out (grown_drew1 (World.grownBy_alloc W3 _ none)) (fun r hr => by cases hr)
        case measure => simp [intOf]; omega
      · gi_wp2
        refine bodyPost_ret (results_none rfl _ _ _) rfl ?_
        exact ⟨⟨_, rfl⟩, .inr ⟨_, trivial, hJx3⟩⟩
    · obtain rfl : k = bl a := by omega
      have e0 : a / 2 ^ bl a = 0 := div_zero_bl (Nat.le_refl _)
      rw [e0] at hc0
      clear e0
      gi_wp2
      go_end0
      exact ⟨⟨_, rfl⟩, .inl ⟨_, rfl, HJs.out⟩⟩

theorem dupIt_no (n : Nat) (hn : 2 ≤ n) (l B1 B2 : Nat) (a b : Int) (h : (isFac a && isFac b) = false) (W : World) (c1 : W.cell? ⟨B1, 0, none⟩ = some (.int .i64 a)) (c2 : W.cell? ⟨B2, 0, none⟩ = some (.int .i64 b)) :
    CallsIn Fence.wide n Try.prog 39 #[.func (.yield l) #[] #[], .pointer (some ⟨B1, 0, none⟩), .pointer (some ⟨B2, 0, none⟩)] W fun e W' => (∃ v, e = .returned v) ∧ W' = W := by
  have hn1 : 1 ≤ n := by omega
  cases ha : isFac a
  · have FA := Lib.hid ha
    clear ha h
    refine callsIn_of_wp Try.func39 rfl trivial ?_ rfl
    simp only [Try.ntmps39, List.size_toArray, List.length_cons, List.length_nil, Nat.reduceAdd, Nat.reduceSub, Array.replicate_succ, Array.replicate_zero, List.push_toArray, List.append_toArray, List.nil_append, List.cons_append]
    gi_wp2_with (first | (refine ⟨trivial, ?_⟩; gi_at_call 33; refine (callsIn_wide.2 (isFactor_any _ _)).mono ?_; rintro e w' ⟨rfl, rfl⟩; rw [FA.out]))
    refine ⟨trivial, ?_⟩
    gi_wp2
    refine bodyPost_ret (results_none rfl _ _ _) rfl ?_
    exact ⟨⟨_, rfl⟩, rfl⟩
  · have hb : isFac b = false := by rw [ha] at h; simpa using h
    have FA := Lib.hid ha
    have FB := Lib.hid hb
    clear ha hb h
    refine callsIn_of_wp Try.func39 rfl trivial ?_ rfl
    simp only [Try.ntmps39, List.size_toArray, List.length_cons, List.length_nil, Nat.reduceAdd, Nat.reduceSub, Array.replicate_succ, Array.replicate_zero, List.push_toArray, List.append_toArray, List.nil_append, List.cons_append]
    gi_wp2_with (first | (refine ⟨trivial, ?_⟩; gi_at_call 33; refine (callsIn_wide.2 (isFactor_any _ _)).mono ?_; rintro e w' ⟨rfl, rfl⟩; first | rw [FA.out] | rw [FB.out]))
    refine bodyPost_ret (results_none rfl _ _ _) rfl ?_
    exact ⟨⟨_, rfl⟩, rfl⟩

theorem dup_stops (n : Nat) (hn : 2 ≤ n) (B1 B2 : Nat) (a b : Int) (w : World) (c1 : w.cell? ⟨B1, 0, none⟩ = some (.int .i64 a)) (c2 : w.cell? ⟨B2, 0, none⟩ = some (.int .i64 b)) :
    SeqStopsK Fence.wide n Try.prog 39 #[.pointer (some ⟨B1, 0, none⟩), .pointer (some ⟨B2, 0, none⟩)] (fun x : R3 => #[Value.int .i64 (x.1.1 : Int), .agg #[.int .i64 (x.1.2.1 : Int), .int .i64 (x.1.2.2 : Int)]]) KR (fun ys => ys = rowsOf a b) (fun _ => True) 17 w := by
  intro l J Jx W hW hJ _ hY h0
  have d1 := (hW.cell (p := ⟨B1, 0, none⟩) (World.block_lt_of_cell? w _ c1)).trans c1
  have d2 := (hW.cell (p := ⟨B2, 0, none⟩) (World.block_lt_of_cell? w _ c2)).trans c2
  cases h : isFac a && isFac b
  · refine (dupIt_no n hn l B1 B2 a b h W d1 d2).mono ?_
    rintro e W' ⟨hv, rfl⟩
    exact ⟨hv, .inl ⟨[], (rowsOf_no h).symm, h0⟩⟩
  · obtain ⟨x, y, rfl, rfl, x1, x2, y1, y2⟩ := facs h
    rw [rowsOf_yes x1 x2 y1 y2]
    exact dupIt_in n hn l B1 B2 x y x1 x2 y1 y2 J Jx W hJ hY d1 d2 h0

theorem dupRows_fn (n : Nat) (a b : Int) (w : World) :
    CallsIn Fence.wide n Try.prog 35 #[.int .i64 a, .int .i64 b] w fun e w' => e = .returned (.func (.func 39) #[] #[.pointer (some ⟨w.heap.size, 0, none⟩), .pointer (some ⟨w.heap.size + 1, 0, none⟩)]) ∧ (w.alloc (.cells #[.int .i64 a] 3)).alloc (.cells #[.int .i64 b] 3) = w' := by
  refine callsIn_of_wp Try.func35 rfl trivial ?_ rfl
  simp only [Try.ntmps35, List.size_toArray, List.length_cons, List.length_nil, Nat.reduceAdd, Nat.reduceSub, Array.replicate_succ, Array.replicate_zero, List.push_toArray, List.append_toArray, List.nil_append, List.cons_append]
  gi_wp2
  go_ret
  exact ⟨rfl, rfl⟩
end Go.Proofs.Ytlnfajpjkhhplaa
