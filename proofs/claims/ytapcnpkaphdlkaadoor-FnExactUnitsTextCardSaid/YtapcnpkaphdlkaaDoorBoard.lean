
/-
  Contracts of the functions that ask whether a list is a board. Condition: lists of at most 2^20 numbers; arrays of ten.
-/
import Derived.Test.YtapcnpkaphdlkaaDoorDig
import Derived.Test.YtapcnpkaphdlkaaDoorArr
import Derived.Test.YtapcnpkaphdlkaaDoorCommon
namespace Go.Proofs.YtapcnpkaphdlkaaDoor
open Go.RowKit

/-- Each place has as many counters as a place can have. -/
def fitsB (zs : List Int) : Bool := zs.all fun d => inB d 0 20
def isBoard (zs : List Int) : Bool := fitsB zs && ((zs.length : Int) == 10)
theorem fits_mem {zs : List Int} (h : fitsB zs = true) : ∀ d ∈ zs, 0 ≤ d ∧ d ≤ 20 := by
  intro d hd
  have := List.all_eq_true.1 h d hd
  simpa [inB] using this
theorem fits_nth {zs : List Int} (h : fitsB zs = true) {i : Nat} (hi : i < zs.length) : 0 ≤ nth zs i ∧ nth zs i ≤ 20 := fits_mem h _ (nth_mem zs i hi)
theorem fits_take_succ {zs : List Int} {k : Nat} (hk : k < zs.length) : fitsB (zs.take (k + 1)) = (fitsB (zs.take k) && inB (nth zs k) 0 20) := by
  rw [take_snoc zs k hk]
  simp [fitsB]
theorem fits_false_at {zs : List Int} {k : Nat} (hk : k < zs.length) (h : inB (nth zs k) 0 20 = false) : fitsB zs = false := by
  cases hd : fitsB zs
  · rfl
  · have h1 := fits_nth hd hk
    have : inB (nth zs k) 0 20 = true := by simpa [inB] using h1
    rw [h] at this
    cases this
theorem isBoard_parts {zs : List Int} (h : isBoard zs = true) : fitsB zs = true ∧ zs.length = 10 := by
  simp [isBoard] at h
  exact ⟨h.1, by omega⟩
theorem isBoard_ten {zs : List Int} (h : zs.length = 10) : isBoard zs = fitsB zs := by simp [isBoard, h]
theorem isBoard_not {zs : List Int} (h : zs.length ≠ 10) : isBoard zs = false := by
  have : ((zs.length : Int) == 10) = false := beq_eq_false_iff_ne.2 (by omega)
  simp [isBoard, this]

theorem specBoardValid_any (w : World) (a : Option Addr) (cap : Nat) (zs : List Int) (h : Row .i64 w a zs) (hl : zs.length ≤ 2000000) :
    Calls Tryd.prog 11 #[.slice a zs.length cap] w fun e w' => e = .returned (.bool (isBoard zs)) ∧ w = w' := by
  have H := Lib.hid h
  clear h
  go_enter Tryd.func11, Tryd.ntmps11
  go_wp2_with fail
  go_loop [3] (fun i => ∃ k : Nat, k ≤ zs.length ∧ i = .int .i64 k ∧ fitsB (zs.take k) = true) (fun i => zs.length - (intOf i).toNat)
  case atStart => exact ⟨0, Nat.zero_le _, rfl, rfl⟩
  case round =>
    obtain ⟨k, hk, rfl, hd⟩ := hrel
    have HD := Lib.hid hd
    clear hd
    by_cases hlt : k < zs.length
    · obtain ⟨b, off, rfl, _, hc⟩ := H.out.at_ hlt
      cases hx : inB (nth zs k) 0 20
      · have HX := Lib.hid hx
        clear hx
        go_wp2_with fail
        refine (l6In_any _ _ _ _).mono ?_
        rintro e w' ⟨rfl, rfl⟩
        rw [HX.out]
        go_wp2_with fail
        go_ret
        exact ⟨by rw [isBoard, fits_false_at hlt HX.out]; rfl, rfl⟩
      · have HX := Lib.hid hx
        clear hx
        go_wp2_with fail
        refine (l6In_any _ _ _ _).mono ?_
        rintro e w' ⟨rfl, rfl⟩
        rw [HX.out]
        go_wp2_with fail
        go_round
        case rel => exact ⟨k + 1, by omega, by go_num, by rw [fits_take_succ hlt, HD.out, HX.out]; rfl⟩
        case measure => simp [intOf]; omega
    · go_wp2_with fail
      go_ret
      refine ⟨?_, rfl⟩
      have hd := HD.out
      rw [List.take_of_length_le (by omega)] at hd
      simp [isBoard, hd]

theorem fits_any (w : World) (zs : List Int) (h : zs.length = 10) :
    Calls Tryd.prog 19 #[.agg (AV zs)] w fun e w' => e = .returned (.bool (fitsB zs)) ∧ Below w.heap.size w w' := by
  have H := Lib.hid h
  have hk1 : zs.length ≤ 10 := by omega
  have hk2 : 10 ≤ zs.length := by omega
  have hi := arr_info
  have HI := Lib.hid (show (Tryd.prog.info? 29).map (·.size) = some (AV zs).size by rw [AV_size, h]; exact hi)
  clear h hi
  go_enter Tryd.func19, Tryd.ntmps19
  go_wp2_with (refine wpList_load_row rfl 29 _ rfl w.heap.size rfl 29 (AV zs) (0, 0) _ (heap_alloc_new w _) Tryd.underlying29 rfl HI.out ?_)
  go_loop [6] (fun i => ∃ k : Nat, k ≤ zs.length ∧ i = .int .i64 k ∧ fitsB (zs.take k) = true) (fun i => zs.length - (intOf i).toNat)
  case atStart => exact ⟨0, Nat.zero_le _, rfl, rfl⟩
  case round =>
    obtain ⟨k, hk, rfl, hd⟩ := hrel
    have HD := Lib.hid hd
    clear hd
    by_cases hlt : k < 10
    · have hx := idx_arr zs H.out k hlt
      cases hb : inB (nth zs k) 0 20
      · have HX := Lib.hid hb
        have e := Lib.hid (fits_false_at (by omega) hb)
        rcases inB_false hb with h1 | h1
        all_goals
          clear hb
          go_wp2_with fail
          go_ret
          exact ⟨by rw [e.out]; rfl, (Below.refl _ _).alloc (Nat.le_refl _) _⟩
      · obtain ⟨h1, h2⟩ := inB_true hb
        have HX := Lib.hid hb
        clear hb
        go_wp2_with fail
        go_round
        case rel => exact ⟨k + 1, by omega, by go_num, by rw [fits_take_succ (by omega), HD.out, HX.out]; rfl⟩
        case measure => simp [intOf]; omega
    · go_wp2_with fail
      go_ret
      have hd := HD.out
      rw [List.take_of_length_le (by omega)] at hd
      exact ⟨by rw [hd]; rfl, (Below.refl _ _).alloc (Nat.le_refl _) _⟩

/-- What layOut hands back. -/
def laid (zs : List Int) : List Int := if isBoard zs then zs else List.replicate 10 0
theorem laid_len (zs : List Int) : (laid zs).length = 10 := by
  unfold laid
  split
  · rename_i h
    exact (isBoard_parts h).2
  · simp
theorem zeros_built : (Tryd.prog.built 29 []) = some (AV (List.replicate 10 0)) := by kernel_rfl

theorem layOut_not (w : World) (a : Option Addr) (cap : Nat) (zs : List Int) (hn : zs.length ≠ 10) (hl : zs.length ≤ 2000000) :
    Calls Tryd.prog 13 #[.slice a zs.length cap] w fun e w' => e = .returned (.tuple #[.agg (AV (laid zs)), .bool (isBoard zs)]) ∧ Below w.heap.size w w' := by
  have e0 := isBoard_not hn
  have E := Lib.hid e0
  have hq : ((zs.length : Int) == 10) = false := beq_eq_false_iff_ne.2 (by omega)
  have hq2 : ((zs.length : Int) != 10) = true := by simp [bne, hq]
  clear e0 hn
  go_enter Tryd.func13, Tryd.ntmps13
  go_wp2_with fail
  have hA : Arr ((w.alloc (.cells (AV (List.replicate 10 0)) 29)).alloc (.cells (AV (List.replicate 10 0)) 29)) w.heap.size (List.replicate 10 0) := (Arr.new w (by simp)).alloc _
  refine bodyPost_ret (results_arr_bool Tryd.results13 _ _ rfl hA) rfl ⟨?_, ((Below.refl _ _).alloc (Nat.le_refl _) _).alloc (by simp) _⟩
  rw [laid, E.out]
  rfl

theorem layOut_ten (w : World) (a : Option Addr) (cap : Nat) (zs : List Int) (h : Row .i64 w a zs) (hn : zs.length = 10) :
    Calls Tryd.prog 13 #[.slice a zs.length cap] w fun e w' => e = .returned (.tuple #[.agg (AV (laid zs)), .bool (isBoard zs)]) ∧ Below w.heap.size w w' := by
  have H := Lib.hid h
  have HN := Lib.hid hn
  have hn1 : zs.length ≤ 10 := by omega
  have hn2 : 10 ≤ zs.length := by omega
  have hq : ((zs.length : Int) == 10) = true := by simp; omega
  have hq2 : ((zs.length : Int) != 10) = false := by simp [bne, hq]
  clear h hn
  go_enter Tryd.func13, Tryd.ntmps13
  go_wp2_with fail
  have hA : Arr ((w.alloc (.cells (AV (List.replicate 10 0)) 29)).alloc (.cells (AV (List.replicate 10 0)) 29)) w.heap.size (List.replicate 10 0) := (Arr.new w (by simp)).alloc _
  have hC : Arr ((w.alloc (.cells (AV (List.replicate 10 0)) 29)).alloc (.cells (AV (List.replicate 10 0)) 29)) (w.heap.size + 1) (cop zs 0) := by
    have := Arr.new (w.alloc (.cells (AV (List.replicate 10 0)) 29)) (zs := List.replicate 10 0) (by simp)
    rw [cop_zero, HN.out]
    simpa using this
  have HA := Lib.hid hA
  have HC := Lib.hid hC
  clear hA hC hq hq2
  go_loopw [13] (fun i wr => ∃ k : Nat, k ≤ zs.length ∧ i = .int .i64 k ∧ Arr wr w.heap.size (List.replicate 10 0) ∧ Arr wr (w.heap.size + 1) (cop zs k) ∧ Below w.heap.size w wr) (fun i _ => zs.length - (intOf i).toNat)
  case atStart => exact ⟨0, Nat.zero_le _, rfl, HA.out, HC.out, ((Below.refl _ _).alloc (Nat.le_refl _) _).alloc (by simp) _⟩
  case round =>
    obtain ⟨k, hk, rfl, ha, hc, hb⟩ := hrel
    by_cases hlt : k < zs.length
    · obtain ⟨b, off, rfl, _, hcell⟩ := (H.out.below hb).at_ hlt
      have c1 := hc.cell (i := k) (by omega)
      have f1 := hc.frozen k
      have HA2 := Lib.hid ha
      have HC2 := Lib.hid hc
      have HB2 := Lib.hid hb
      clear ha hc hb
      go_wp2_with fail
      go_roundw
      case rel =>
        refine ⟨k + 1, by omega, by go_num, HA2.out.far (by simp) _, ?_, HB2.out.setCell (by simp) _⟩
        have := HC2.out.set_ k (nth zs k)
        rw [cop_set zs k hlt] at this
        exact this
      case measure => simp [intOf]; omega
    · obtain rfl : k = zs.length := by omega
      rw [cop_all] at hc
      have HA2 := Lib.hid ha
      have HC2 := Lib.hid hc
      have HB2 := Lib.hid hb
      have hs := hb.size
      have hg1 := hc.lt
      clear ha hc hb
      go_wp2_with (refine wpList_load_row rfl 29 _ rfl (w.heap.size + 1) rfl 29 (AV zs) (0, 0) _ HC2.out.2 Tryd.underlying29 rfl (arr_size HN.out) ?_)
      refine (fits_any _ zs HN.out).mono ?_
      rintro e w2 ⟨rfl, b2⟩
      have s2 := b2.size
      have HA3 := Lib.hid (HA2.out.below b2 (by omega))
      have HC3 := Lib.hid (HC2.out.below b2 hg1)
      have HB3 := Lib.hid (HB2.out.trans (b2.mono hs))
      clear b2
      cases hf : fitsB zs
      · have e0 : isBoard zs = false := by rw [isBoard_ten HN.out, hf]
        have E := Lib.hid e0
        clear e0 hf
        go_wp2_with (refine wpList_store_row rfl 29 _ _ rfl w.heap.size (AV (List.replicate 10 0)) rfl rfl 29 (AV (List.replicate 10 0)) HA3.out.2 (arr_size (by simp)) rfl (AV_one _) ?_)
        refine bodyPost_ret (results_arr_bool Tryd.results13 _ _ rfl (HA3.out.row (List.replicate 10 0) (by simp))) rfl ⟨?_, below_setRow' HB3.out (Nat.le_refl _) _⟩
        rw [laid, E.out]
        rfl
      · have e0 : isBoard zs = true := by rw [isBoard_ten HN.out, hf]
        have E := Lib.hid e0
        clear e0 hf
        go_wp2_with (first | (refine wpList_load_row rfl 29 _ rfl (w.heap.size + 1) rfl 29 (AV zs) (0, 0) _ HC3.out.2 Tryd.underlying29 rfl (arr_size HN.out) ?_) | (refine wpList_store_row rfl 29 _ _ rfl w.heap.size (AV zs) rfl rfl 29 (AV (List.replicate 10 0)) HA3.out.2 (arr_size HN.out) (by rw [AV_size, AV_size, HN.out]; rfl) (AV_one _) ?_))
        refine bodyPost_ret (results_arr_bool Tryd.results13 _ _ rfl (HA3.out.row zs HN.out)) rfl ⟨?_, below_setRow' HB3.out (Nat.le_refl _) _⟩
        rw [laid, E.out]
        rfl

theorem layOut_any (w : World) (a : Option Addr) (cap : Nat) (zs : List Int) (h : Row .i64 w a zs) (hl : zs.length ≤ 2000000) :
    Calls Tryd.prog 13 #[.slice a zs.length cap] w fun e w' => e = .returned (.tuple #[.agg (AV (laid zs)), .bool (isBoard zs)]) ∧ Below w.heap.size w w' := by
  by_cases hn : zs.length = 10
  · exact layOut_ten w a cap zs h hn
  · exact layOut_not w a cap zs hn hl

end Go.Proofs.YtapcnpkaphdlkaaDoor
