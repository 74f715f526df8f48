
/-
  Contracts of the functions that count the counters of a board and ask whether it is reduced. Condition: lists of at most 2^20 numbers.
-/
import Derived.Test.YtdappacmfpkhcaaBoard
import Derived.Deep.QuietTactic
import Derived.BigQuiet
namespace Go.Proofs.Ytdappacmfpkhcaa
open Go.RowKit

/-- How many counters at a place make one above. -/
def full (p : Nat) : Int := if p % 2 = 0 then 5 else 2
theorem full_bd (p : Nat) : 2 ≤ full p ∧ full p ≤ 5 := by unfold full; split <;> omega

theorem fullAt_any (w : World) (p : Nat) (hp : p ≤ 1000000000) :
    Calls Try.prog 48 #[.int .i64 (p : Int)] w fun e w' => e = .returned (.int .i64 (full p)) ∧ w = w' := by
  by_cases h : p % 2 = 0
  · have e : ((p : Int) % 2 == 0) = true := by simp; omega
    have F := Lib.hid (show full p = 5 by simp [full, h])
    clear h
    go_enter Try.func48, Try.ntmps48
    go_wp2_with fail
    go_ret
    exact ⟨by rw [F.out]; rfl, rfl⟩
  · have e : ((p : Int) % 2 == 0) = false := beq_eq_false_iff_ne.2 (by omega)
    have F := Lib.hid (show full p = 2 by simp [full, h])
    clear h
    go_enter Try.func48, Try.ntmps48
    go_wp2_with fail
    go_ret
    exact ⟨by rw [F.out]; rfl, rfl⟩
theorem l1Group_any (w : World) (p : Nat) (hp : p ≤ 1000000000) :
    Calls Try.prog 42 #[.int .i64 (p : Int)] w fun e w' => e = .returned (.int .i64 (full p)) ∧ w = w' := by
  by_cases h : p % 2 = 0
  · have e : ((p : Int) % 2 == 0) = true := by simp; omega
    have F := Lib.hid (show full p = 5 by simp [full, h])
    clear h
    go_enter Try.func42, Try.ntmps42
    go_wp2_with fail
    go_ret
    exact ⟨by rw [F.out]; rfl, rfl⟩
  · have e : ((p : Int) % 2 == 0) = false := beq_eq_false_iff_ne.2 (by omega)
    have F := Lib.hid (show full p = 2 by simp [full, h])
    clear h
    go_enter Try.func42, Try.ntmps42
    go_wp2_with fail
    go_ret
    exact ⟨by rw [F.out]; rfl, rfl⟩

def total (zs : List Int) : Int := zs.foldl (· + ·) 0
theorem total_snoc (zs : List Int) (d : Int) : total (zs ++ [d]) = total zs + d := by simp [total]
theorem total_take_succ {zs : List Int} {k : Nat} (hk : k < zs.length) : total (zs.take (k + 1)) = total (zs.take k) + nth zs k := by rw [take_snoc zs k hk, total_snoc]
theorem total_take_bd {zs : List Int} {B : Int} (hB : 0 ≤ B) (h : ∀ d ∈ zs, 0 ≤ d ∧ d ≤ B) (k : Nat) (hk : k ≤ zs.length) : 0 ≤ total (zs.take k) ∧ total (zs.take k) ≤ k * B := by
  induction k with
  | zero => simp [total]
  | succ k ih =>
    have h1 := ih (by omega)
    have h2 := h _ (nth_mem zs k (by omega))
    rw [total_take_succ (by omega)]
    have e : ((k + 1 : Nat) : Int) * B = k * B + B := by rw [Int.natCast_add, Int.add_mul]; simp
    omega
theorem total_bd10 {zs : List Int} (hl : zs.length = 10) (h : ∀ d ∈ zs, 0 ≤ d ∧ d ≤ 100000) (k : Nat) (hk : k ≤ 10) : 0 ≤ total (zs.take k) ∧ total (zs.take k) ≤ 1000000 := by
  have h1 := total_take_bd (B := 100000) (by omega) h k (by omega)
  have h2 : (k : Int) * 100000 ≤ 1000000 := by omega
  omega

theorem l1Sum_any (w : World) (a : Option Addr) (cap : Nat) (zs : List Int) (h : Row .i64 w a zs) (hl : zs.length = 10) (hd : ∀ d ∈ zs, 0 ≤ d ∧ d ≤ 100000) :
    Calls Try.prog 38 #[.slice a zs.length cap] w fun e w' => e = .returned (.int .i64 (total zs)) ∧ w = w' := by
  have H := Lib.hid h
  have HL := Lib.hid hl
  have HD := Lib.hid hd
  have l1 : zs.length ≤ 10 := by omega
  have l2 : 10 ≤ zs.length := by omega
  clear h hd hl
  go_enter Try.func38, Try.ntmps38
  go_wp2_with fail
  go_loop [3, 4] (fun v i => ∃ k : Nat, k ≤ zs.length ∧ i = .int .i64 k ∧ v = .int .i64 (total (zs.take k))) (fun _ i => zs.length - (intOf i).toNat)
  case atStart => exact ⟨0, Nat.zero_le _, rfl, rfl⟩
  case round =>
    obtain ⟨k, hk, rfl, rfl⟩ := hrel
    have hv := total_bd10 HL.out HD.out k (by omega)
    by_cases hlt : k < zs.length
    · have hn := HD.out _ (nth_mem zs k hlt)
      obtain ⟨b, off, rfl, _, hc⟩ := H.out.at_ hlt
      have e := Lib.hid (total_take_succ (zs := zs) (k := k) hlt)
      go_wp2_with fail
      go_round
      case rel => exact ⟨k + 1, by omega, by go_num, by rw [e.out]⟩
      case measure => simp [intOf]; omega
    · have e := Lib.hid (show total (zs.take k) = total zs by rw [List.take_of_length_le (by omega)])
      go_wp2_with fail
      go_ret
      exact ⟨by rw [← e.out]; rfl, rfl⟩

theorem total_any (w : World) (zs : List Int) (hl : zs.length = 10) (hd : ∀ d ∈ zs, 0 ≤ d ∧ d ≤ 100000) :
    Calls Try.prog 40 #[.agg (AV zs)] w fun e w' => e = .returned (.int .i64 (total zs)) ∧ Below w.heap.size w w' := by
  have HL := Lib.hid hl
  have HD := Lib.hid hd
  have l1 : zs.length ≤ 10 := by omega
  have l2 : 10 ≤ zs.length := by omega
  have HN := Lib.hid (Arr.new w hl)
  clear hl hd
  go_enter Try.func40, Try.ntmps40
  go_wp2_with (refine wpList_get_arr rfl _ rfl w.heap.size zs rfl HN.out ?_)
  go_loop [3, 7] (fun v i => ∃ k : Nat, k ≤ zs.length ∧ i = .int .i64 k ∧ v = .int .i64 (total (zs.take k))) (fun _ i => zs.length - (intOf i).toNat)
  case atStart => exact ⟨0, Nat.zero_le _, rfl, rfl⟩
  case round =>
    obtain ⟨k, hk, rfl, rfl⟩ := hrel
    have hv := total_bd10 HL.out HD.out k (by omega)
    by_cases hlt : k < 10
    · have hn := HD.out _ (nth_mem zs k (by omega))
      have hx := idx_arr zs HL.out k hlt
      have e := Lib.hid (total_take_succ (zs := zs) (k := k) (by omega))
      go_wp2_with fail
      go_round
      case rel => exact ⟨k + 1, by omega, by go_num, by rw [e.out]⟩
      case measure => simp [intOf]; omega
    · have e := Lib.hid (show total (zs.take k) = total zs by rw [List.take_of_length_le (by omega)])
      go_wp2_with fail
      go_ret
      exact ⟨by rw [← e.out]; rfl, (Below.refl _ _).alloc (Nat.le_refl _) _⟩

def counters (zs : List Int) : Int := if isBoard zs then total zs else -1
theorem counters_yes {zs : List Int} (h : isBoard zs = true) : counters zs = total zs := by simp [counters, h]
theorem counters_no {zs : List Int} (h : isBoard zs = false) : counters zs = -1 := by simp [counters, h]
theorem fits_wide {zs : List Int} (h : fitsB zs = true) : ∀ d ∈ zs, 0 ≤ d ∧ d ≤ 100000 := fun d hd => by have := fits_mem h d hd; omega
theorem laid_yes {zs : List Int} (h : isBoard zs = true) : laid zs = zs := by simp [laid, h]

theorem specBoardCounters_any (w : World) (a : Option Addr) (cap : Nat) (zs : List Int) (h : Row .i64 w a zs) (hl : zs.length ≤ 2000000) :
    Calls Try.prog 19 #[.slice a zs.length cap] w fun e w' => e = .returned (.int .i64 (counters zs)) ∧ w = w' := by
  have H := Lib.hid h
  clear h
  cases hb : isBoard zs
  · have HB := Lib.hid hb
    clear hb
    go_enter Try.func19, Try.ntmps19
    go_wp2_with fail
    refine (specBoardValid_any _ _ _ _ H.out hl).mono ?_
    rintro e w' ⟨rfl, rfl⟩
    rw [HB.out]
    go_wp2_with fail
    go_ret
    exact ⟨by rw [counters_no HB.out]; rfl, rfl⟩
  · obtain ⟨hf, h10⟩ := isBoard_parts hb
    have HB := Lib.hid hb
    have HF := Lib.hid hf
    have H10 := Lib.hid h10
    clear hb hf h10
    go_enter Try.func19, Try.ntmps19
    go_wp2_with fail
    refine (specBoardValid_any _ _ _ _ H.out hl).mono ?_
    rintro e w' ⟨rfl, rfl⟩
    rw [HB.out]
    go_wp2_with fail
    refine (l1Sum_any _ _ _ _ H.out H10.out (fits_wide HF.out)).mono ?_
    rintro e w' ⟨rfl, rfl⟩
    go_wp2_with fail
    go_ret
    exact ⟨by rw [counters_yes HB.out]; rfl, rfl⟩

theorem implBoardCounters_any (w : World) (a : Option Addr) (cap : Nat) (zs : List Int) (h : Row .i64 w a zs) (hl : zs.length ≤ 2000000) :
    Calls Try.prog 20 #[.slice a zs.length cap] w fun e w' => e = .returned (.int .i64 (counters zs)) ∧ Below w.heap.size w w' := by
  have H := Lib.hid h
  clear h
  cases hb : isBoard zs
  · have HB := Lib.hid hb
    clear hb
    go_enter Try.func20, Try.ntmps20
    go_wp2_with fail
    refine (layOut_any _ _ _ _ H.out hl).mono ?_
    rintro e w1 ⟨rfl, b1⟩
    rw [HB.out]
    have B1 := Lib.hid b1
    clear b1
    go_wp2_with (refine wpList_put_arr rfl _ _ rfl w1 (laid zs) (laid_len zs) rfl rfl ?_; intro w2 a2 b2 s2)
    have B2 := Lib.hid (B1.out.trans (b2.mono B1.out.size))
    clear a2 b2
    go_wp2_with fail
    go_ret
    exact ⟨by rw [counters_no HB.out]; rfl, B2.out⟩
  · obtain ⟨hf, h10⟩ := isBoard_parts hb
    have HB := Lib.hid hb
    have HF := Lib.hid hf
    have H10 := Lib.hid h10
    clear hb hf h10
    go_enter Try.func20, Try.ntmps20
    go_wp2_with fail
    refine (layOut_any _ _ _ _ H.out hl).mono ?_
    rintro e w1 ⟨rfl, b1⟩
    rw [HB.out, laid_yes HB.out]
    have B1 := Lib.hid b1
    clear b1
    go_wp2_with (first | (refine wpList_put_arr rfl _ _ rfl w1 zs H10.out rfl rfl ?_; intro w2 a2 b2 s2; have A2 := Lib.hid a2; have B2 := Lib.hid (B1.out.trans (b2.mono B1.out.size)); clear a2 b2) | (refine wpList_get_arr rfl _ rfl w1.heap.size zs rfl A2.out ?_))
    refine (total_any _ zs H10.out (fits_wide HF.out)).mono ?_
    rintro e w3 ⟨rfl, b3⟩
    have B3 := Lib.hid (B2.out.trans (b3.mono B2.out.size))
    clear b3
    go_wp2_with fail
    go_ret
    exact ⟨by rw [counters_yes HB.out]; rfl, B3.out⟩

/-- No place has as many counters as make one above. -/
def redB (zs : List Int) : Bool := (List.range zs.length).all fun p => decide (nth zs p < full p)
def isReduced (zs : List Int) : Bool := redB zs && isBoard zs
def redTo (zs : List Int) (k : Nat) : Bool := (List.range k).all fun p => decide (nth zs p < full p)
theorem redTo_succ (zs : List Int) (k : Nat) : redTo zs (k + 1) = (redTo zs k && decide (nth zs k < full k)) := by simp [redTo, List.range_succ]
theorem redB_false {zs : List Int} {k : Nat} (hk : k < zs.length) (h : full k ≤ nth zs k) : redB zs = false := by
  cases hr : redB zs
  · rfl
  · have := List.all_eq_true.1 hr k (List.mem_range.2 hk)
    simp at this
    omega

theorem specBoardReduced_any (w : World) (a : Option Addr) (cap : Nat) (zs : List Int) (h : Row .i64 w a zs) (hl : zs.length ≤ 2000000) :
    Calls Try.prog 25 #[.slice a zs.length cap] w fun e w' => e = .returned (.bool (isReduced zs)) ∧ Below w.heap.size w w' := by
  have H := Lib.hid h
  clear h
  go_enter Try.func25, Try.ntmps25
  go_wp2_with fail
  go_loopw [3] (fun i wr => ∃ k : Nat, k ≤ zs.length ∧ i = .int .i64 k ∧ Below w.heap.size w wr ∧ redTo zs k = true) (fun i _ => zs.length - (intOf i).toNat)
  case atStart => exact ⟨0, Nat.zero_le _, rfl, Below.refl _ _, rfl⟩
  case round =>
    obtain ⟨k, hk, rfl, hb, hd⟩ := hrel
    have HD := Lib.hid hd
    have HB := Lib.hid hb
    clear hd hb
    have fb := full_bd k
    by_cases hlt : k < zs.length
    · obtain ⟨b, off, rfl, _, hc⟩ := (H.out.below HB.out).at_ hlt
      by_cases hx : nth zs k < full k
      · have E := Lib.hid (show redTo zs (k + 1) = true by rw [redTo_succ, HD.out]; simp [hx])
        go_wp2_with fail
        go_quiet ((go_at_call 42; exact quiet_at (l1Group_any _ _ (by omega))))
        go_wp2_with fail
        go_roundw
        case rel => exact ⟨k + 1, by omega, by go_num, below_drewN HB.out _, E.out⟩
        case measure => simp [intOf]; omega
      · have E := Lib.hid (redB_false hlt (by omega))
        have hx' : full k ≤ nth zs k := by omega
        go_wp2_with fail
        go_quiet ((go_at_call 42; exact quiet_at (l1Group_any _ _ (by omega))))
        go_wp2_with fail
        go_ret
        exact ⟨by rw [isReduced, E.out]; rfl, below_drewN HB.out _⟩
    · obtain rfl : k = zs.length := by omega
      have E := Lib.hid (show redB zs = true from HD.out)
      go_wp2_with fail
      refine (specBoardValid_any _ _ _ _ (H.out.below HB.out) hl).mono ?_
      rintro e w' ⟨rfl, rfl⟩
      go_wp2_with fail
      go_ret
      exact ⟨by rw [isReduced, E.out]; rfl, HB.out⟩

theorem reduced_any (w : World) (zs : List Int) (hl : zs.length = 10) :
    Calls Try.prog 43 #[.agg (AV zs)] w fun e w' => e = .returned (.bool (redB zs)) ∧ Below w.heap.size w w' := by
  have HL := Lib.hid hl
  have l1 : zs.length ≤ 10 := by omega
  have l2 : 10 ≤ zs.length := by omega
  have HN := Lib.hid (Arr.new w hl)
  clear hl
  go_enter Try.func43, Try.ntmps43
  go_wp2_with (refine wpList_get_arr rfl _ rfl w.heap.size zs rfl HN.out ?_)
  go_loop [6] (fun i => ∃ k : Nat, k ≤ zs.length ∧ i = .int .i64 k ∧ redTo zs k = true) (fun i => zs.length - (intOf i).toNat)
  case atStart => exact ⟨0, Nat.zero_le _, rfl, rfl⟩
  case round =>
    obtain ⟨k, hk, rfl, hd⟩ := hrel
    have HD := Lib.hid hd
    clear hd
    have fb := full_bd k
    by_cases hlt : k < 10
    · have hix := idx_arr zs HL.out k hlt
      by_cases hx : nth zs k < full k
      · have E := Lib.hid (show redTo zs (k + 1) = true by rw [redTo_succ, HD.out]; simp [hx])
        go_wp2_with fail
        refine (fullAt_any _ _ (by omega)).mono ?_
        rintro e w' ⟨rfl, rfl⟩
        go_wp2_with fail
        go_round
        case rel => exact ⟨k + 1, by omega, by go_num, E.out⟩
        case measure => simp [intOf]; omega
      · have E := Lib.hid (redB_false (zs := zs) (k := k) (by omega) (by omega))
        have hx' : full k ≤ nth zs k := by omega
        go_wp2_with fail
        refine (fullAt_any _ _ (by omega)).mono ?_
        rintro e w' ⟨rfl, rfl⟩
        go_wp2_with fail
        go_ret
        exact ⟨by rw [E.out]; rfl, (Below.refl _ _).alloc (Nat.le_refl _) _⟩
    · have E := Lib.hid (show redB zs = true by have := HD.out; rw [show k = zs.length by omega] at this; exact this)
      go_wp2_with fail
      go_ret
      exact ⟨by rw [E.out]; rfl, (Below.refl _ _).alloc (Nat.le_refl _) _⟩

theorem implBoardReduced_any (w : World) (a : Option Addr) (cap : Nat) (zs : List Int) (h : Row .i64 w a zs) (hl : zs.length ≤ 2000000) :
    Calls Try.prog 26 #[.slice a zs.length cap] w fun e w' => e = .returned (.bool (isReduced zs)) ∧ Below w.heap.size w w' := by
  have H := Lib.hid h
  clear h
  cases hb : isBoard zs
  · have HB := Lib.hid hb
    clear hb
    go_enter Try.func26, Try.ntmps26
    go_wp2_with fail
    refine (layOut_any _ _ _ _ H.out hl).mono ?_
    rintro e w1 ⟨rfl, b1⟩
    rw [HB.out]
    have B1 := Lib.hid b1
    clear b1
    go_wp2_with (refine wpList_put_arr rfl _ _ rfl w1 (laid zs) (laid_len zs) rfl rfl ?_; intro w2 a2 b2 s2)
    have B2 := Lib.hid (B1.out.trans (b2.mono B1.out.size))
    clear a2 b2
    go_wp2_with fail
    go_ret
    exact ⟨by rw [isReduced, HB.out, Bool.and_false]; rfl, B2.out⟩
  · obtain ⟨hf, h10⟩ := isBoard_parts hb
    have HB := Lib.hid hb
    have H10 := Lib.hid h10
    clear hb hf h10
    go_enter Try.func26, Try.ntmps26
    go_wp2_with fail
    refine (layOut_any _ _ _ _ H.out hl).mono ?_
    rintro e w1 ⟨rfl, b1⟩
    rw [HB.out, laid_yes HB.out]
    have B1 := Lib.hid b1
    clear b1
    go_wp2_with (refine wpList_put_arr rfl _ _ rfl w1 zs H10.out rfl rfl ?_; intro w2 a2 b2 s2; have c0 := a2.cell (i := 0) (by omega); have c1 := a2.cell (i := 1) (by omega); have c2 := a2.cell (i := 2) (by omega); have c3 := a2.cell (i := 3) (by omega); have c4 := a2.cell (i := 4) (by omega); have c5 := a2.cell (i := 5) (by omega); have c6 := a2.cell (i := 6) (by omega); have c7 := a2.cell (i := 7) (by omega); have c8 := a2.cell (i := 8) (by omega); have c9 := a2.cell (i := 9) (by omega); have B2 := Lib.hid (B1.out.trans (b2.mono B1.out.size)); clear a2 b2)
    rw [AV_ten H10.out]
    clear c0 c1 c2 c3 c4 c5 c6 c7 c8 c9
    refine (reduced_any _ zs H10.out).mono ?_
    rintro e w3 ⟨rfl, b3⟩
    have B3 := Lib.hid (B2.out.trans (b3.mono B2.out.size))
    clear b3
    go_wp2_with fail
    go_ret
    exact ⟨by rw [isReduced, HB.out, Bool.and_true]; rfl, B3.out⟩
end Go.Proofs.Ytdappacmfpkhcaa
