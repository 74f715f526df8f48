
/-
  Contracts of the functions that lay two boards together. Condition: lists of at most 2^20 numbers.
-/
import Derived.Test.YtdappacmfpkhcaaBoard3b
import Derived.Deep.RegionHeld3
import Derived.Deep.AppendLies
import Derived.IntWalk
namespace Go.Proofs.Ytdappacmfpkhcaa
open Go.RowKit

/-- What an array of counters hands back as a board. -/
def asBoard (zs : List Int) : List Int × Bool := if fitsB zs then (zs, true) else ([], false)
theorem asBoard_yes {zs : List Int} (h : fitsB zs = true) : asBoard zs = (zs, true) := by simp [asBoard, h]
theorem asBoard_no {zs : List Int} (h : fitsB zs = false) : asBoard zs = ([], false) := by simp [asBoard, h]

theorem board_any (w : World) (zs : List Int) (hl : zs.length = 10) (rs : List Int) (ok : Bool) (hr : asBoard zs = (rs, ok)) :
    Calls Try.prog 46 #[.agg (AV zs)] w (FreshOk w rs ok) := by
  have HL := Lib.hid hl
  have HN := Lib.hid (Arr.new w hl)
  clear hl
  cases hf : fitsB zs
  · rw [asBoard_no hf] at hr
    injection hr with h1 h2
    subst h1 h2
    have HF := Lib.hid hf
    clear hf
    go_enter Try.func46, Try.ntmps46
    go_wp2_with (refine wpList_get_arr rfl _ rfl w.heap.size zs rfl HN.out ?_)
    refine (fits_any _ zs HL.out).mono ?_
    rintro e w1 ⟨rfl, b1⟩
    rw [HF.out]
    have B1 := Lib.hid (((Below.refl w.heap.size w).alloc (Nat.le_refl _) _).trans (b1.mono (by simp)))
    clear b1
    go_wp2_with fail
    go_ret2
    exact ⟨none, 0, rfl, Own.nil_ _ _, B1.out⟩
  · rw [asBoard_yes hf] at hr
    injection hr with h1 h2
    subst h1 h2
    have HF := Lib.hid hf
    clear hf
    go_enter Try.func46, Try.ntmps46
    go_wp2_with (refine wpList_get_arr rfl _ rfl w.heap.size zs rfl HN.out ?_)
    refine (fits_any _ zs HL.out).mono ?_
    rintro e w1 ⟨rfl, b1⟩
    rw [HF.out]
    have s1 := b1.size
    have s1' : w.heap.size + 1 ≤ w1.heap.size := by simpa using s1
    have A1 := Lib.hid (HN.out.below b1 (by simp))
    have B1 := Lib.hid (((Below.refl w.heap.size w).alloc (Nat.le_refl _) _).trans (b1.mono (by simp)))
    clear b1 s1
    go_wp2_with (refine wpList_get_arr rfl _ rfl w.heap.size zs rfl A1.out ?_)
    refine (list_any _ zs HL.out).mono ?_
    rintro e w2 ⟨a2, c2, rfl, o2, b2⟩
    have O2 := Lib.hid (o2.mono B1.out.size (Nat.le_refl _) (Nat.le_refl _))
    have B2 := Lib.hid (B1.out.trans (b2.mono B1.out.size))
    clear o2 b2
    go_wp2_with fail
    go_ret2
    exact ⟨a2, c2, rfl, O2.out, B2.out⟩

/-- Place by place. -/
def addL (xs ys : List Int) : List Int := (List.range 10).map fun p => nth xs p + nth ys p
theorem addL_len (xs ys : List Int) : (addL xs ys).length = 10 := by simp [addL]
def boardLay (xs ys : List Int) : List Int × Bool := if isBoard xs && isBoard ys then asBoard (addL xs ys) else ([], false)
theorem boardLay_bd (xs ys : List Int) : (boardLay xs ys).1.length ≤ 1048576 := by
  unfold boardLay asBoard
  split
  · split
    · simp [addL_len]
    · simp
  · simp
theorem boardLay_yes {xs ys : List Int} (h : isBoard xs = true) (k : isBoard ys = true) : boardLay xs ys = asBoard (addL xs ys) := by simp [boardLay, h, k]
theorem boardLay_no1 {xs ys : List Int} (h : isBoard xs = false) : boardLay xs ys = ([], false) := by simp [boardLay, h]
theorem boardLay_no2 {xs ys : List Int} (h : isBoard ys = false) : boardLay xs ys = ([], false) := by simp [boardLay, h]
theorem addL_nth (xs ys : List Int) {p : Nat} (h : p < 10) : nth (addL xs ys) p = nth xs p + nth ys p := by simp [nth, addL, h]
/-- The first k places are laid. -/
def addTo (xs ys : List Int) (k : Nat) : List Int := (List.range 10).map fun p => if p < k then nth xs p + nth ys p else nth xs p
theorem addTo_len (xs ys : List Int) (k : Nat) : (addTo xs ys k).length = 10 := by simp [addTo]
theorem addTo_zero {xs : List Int} (ys : List Int) (h : xs.length = 10) : addTo xs ys 0 = xs := by
  apply List.ext_getElem
  · simp [addTo, h]
  · intro i h1 h2
    simp [addTo, nth, h2]
theorem addTo_ten (xs ys : List Int) : addTo xs ys 10 = addL xs ys := by
  apply List.ext_getElem
  · simp [addTo, addL]
  · intro i h1 h2
    have : i < 10 := by simpa [addTo] using h1
    simp [addTo, addL, this]
theorem addTo_nth (xs ys : List Int) {k : Nat} (h : k < 10) : nth (addTo xs ys k) k = nth xs k := by simp [nth, addTo, h]
theorem addTo_set (xs ys : List Int) (k : Nat) (h : k < 10) : (addTo xs ys k).set k (nth xs k + nth ys k) = addTo xs ys (k + 1) := by
  apply List.ext_getElem
  · simp [addTo]
  · intro i h1 h2
    rw [List.getElem_set]
    by_cases e : k = i
    · subst e
      simp [addTo]
    · rw [if_neg e]
      simp only [addTo, List.getElem_map, List.getElem_range]
      by_cases hi : i < k
      · rw [if_pos hi, if_pos (by omega)]
      · rw [if_neg hi, if_neg (by omega)]
theorem own_snoc {w1 : World} {lo gg cap : Nat} {out : List Int} {d : Int} (h : w1.ownsRow lo 3 1 (.slice (some ⟨gg, 0, none⟩) (out.length + 1) cap) (out.length + 1) (IV out ++ [.int .i64 d])) :
    Own w1 lo w1.heap.size (.slice (some ⟨gg, 0, none⟩) (out ++ [d]).length cap) (out ++ [d]) := by
  rw [IV_snoc] at h
  have e : (out ++ [d]).length = out.length + 1 := by simp
  refine Own.of ?_
  rw [e]
  exact h
theorem below_snoc {wr w1 : World} {lo n m : Nat} {v : Value} {xs : List Value} {tmp : Obj} (h : wr.ownsRow lo 3 n v m xs) (hlo : lo ≤ wr.heap.size) (hg : (wr.alloc tmp).drew.grownBy w1 v.ownBlock) : Below lo wr w1 := by
  have h1 : Below lo wr (wr.alloc tmp) := (Below.refl lo wr).alloc hlo tmp
  have h2 : Below lo wr (wr.alloc tmp).drew := ⟨h1.os, h1.tape, h1.output, h1.size, h1.block⟩
  refine h2.grown hg ?_ (fun r hr => (h.lt r hr).1)
  show lo ≤ (wr.alloc tmp).heap.size
  simp
  omega

set_option maxHeartbeats 400000 in
theorem specBoardLay_yes (w : World) (a : Option Addr) (ca : Nat) (xs : List Int) (ha : Row .i64 w a xs) (b : Option Addr) (cb : Nat) (ys : List Int) (hb : Row .i64 w b ys)
    (h1 : isBoard xs = true) (h2 : isBoard ys = true) (rs : List Int) (ok : Bool) (hr : asBoard (addL xs ys) = (rs, ok)) :
    Calls Try.prog 28 #[.slice a xs.length ca, .slice b ys.length cb] w (FreshOk w rs ok) := by
  obtain ⟨i0, hi0, hz0, hz1, hz2⟩ := info_parts int_info
  obtain ⟨fx, lx⟩ := isBoard_parts h1
  obtain ⟨fy, ly⟩ := isBoard_parts h2
  have l1 : xs.length ≤ 10 := by omega
  have l2 : 10 ≤ xs.length := by omega
  have l3 : ys.length ≤ 10 := by omega
  have l4 : 10 ≤ ys.length := by omega
  have HA := Lib.hid ha
  have HB := Lib.hid hb
  have H1 := Lib.hid h1
  have H2 := Lib.hid h2
  have FX := Lib.hid fx
  have FY := Lib.hid fy
  have HR := Lib.hid hr
  clear ha hb h1 h2 fx fy lx ly hr
  go_enter Try.func28, Try.ntmps28
  go_wp2_with fail
  refine (specBoardValid_any _ _ _ _ HA.out (by omega)).mono ?_
  rintro e w' ⟨rfl, rfl⟩
  rw [H1.out]
  go_wp2_with fail
  refine (specBoardValid_any _ _ _ _ HB.out (by omega)).mono ?_
  rintro e w' ⟨rfl, rfl⟩
  rw [H2.out]
  go_wp2_with fail
  go_loopw [6, 7] (fun s i wr => ∃ k c : Nat, ∃ x : Option Addr, k ≤ xs.length ∧ s = .slice x ((addL xs ys).take k).length c ∧ i = .int .i64 k ∧ Own wr w.heap.size wr.heap.size (.slice x ((addL xs ys).take k).length c) ((addL xs ys).take k) ∧ Below w.heap.size w wr) (fun _ i _ => xs.length - (intOf i).toNat)
  case atStart => exact ⟨0, 0, some ⟨w.heap.size, 0, none⟩, by omega, rfl, rfl, by simpa using own_empty w w.heap.size (Nat.le_refl _), (Below.refl _ _).alloc (Nat.le_refl _) _⟩
  case round =>
    obtain ⟨k, c, x, hk, rfl, rfl, ho, hb⟩ := hrel
    have hs := hb.size
    by_cases hlt : k < xs.length
    · have T := Lib.hid (take_snoc (addL xs ys) k (by rw [addL_len]; omega))
      have N := Lib.hid (addL_nth xs ys (p := k) (by omega))
      have tl : ((addL xs ys).take k).length ≤ 10 := by rw [List.length_take, addL_len]; omega
      obtain ⟨b1, o1, rfl, lt1, hc1⟩ := HA.out.at_ hlt
      obtain ⟨b2, o2, rfl, lt2, hc2⟩ := HB.out.at_ (i := k) (by omega)
      rw [← hb.cell (p := ⟨b1, o1 + k, none⟩) lt1] at hc1
      rw [← hb.cell (p := ⟨b2, o2 + k, none⟩) lt2] at hc2
      have q1 := fits_nth FX.out hlt
      have q2 := fits_nth FY.out (i := k) (by omega)
      have hlt2 : k < ys.length := by omega
      generalize (addL xs ys).take k = out at *
      have B := Lib.hid hb
      have hown := ho.owns
      have ag : (Value.slice x out.length c).ownBlock ≠ some b1 := fun e => by have := (hown.lt b1 e).1; omega
      have ak : (Value.slice x out.length c).ownBlock ≠ some b2 := fun e => by have := (hown.lt b2 e).1; omega
      have lb1 : b1 < wr.heap.size := by omega
      have lb2 : b2 < wr.heap.size := by omega
      clear ho hb
      go_wp2_with fail
      have u1 : IntKind.i64.wrap (nth xs k + nth ys k) = nth xs k + nth ys k := IntWalk.i64_in _ (by omega)
      go_region_held3 (fun w' => w'.cell? ⟨b1, o1 + k, none⟩ = some (.int .i64 (nth xs k)) ∧ w'.cell? ⟨b2, o2 + k, none⟩ = some (.int .i64 (nth ys k)))
        (first
          | go_keep
          | (go_split_ands
             refine ⟨?_, ?_⟩
             · (rw [hgrow.cell_far _ (by simp; omega) (Ne.symm ag)]; assumption)
             · (rw [hgrow.cell_far _ (by simp; omega) (Ne.symm ak)]; assumption)))
        ((refine step_append_lies _ (by rfl) _ _ _ (by rfl) w.heap.size 3 i0 _ 1 8 Try.underlying22 hi0 hz0 hz1 hz2 rfl (by omega) (.slice x out.length c) out.length (IV out) (by rfl) ((hown.alloc _).drew)
            ⟨wr.heap.size, 0, none⟩ 1 1 [.int .i64 (nth xs k + nth ys k)] (by rfl) (by rfl) (World.news_of_block (cs := #[.int .i64 (nth xs k + nth ys k)]) (t := 3) (fr := (0, 0)) (heap_alloc_new wr _)) (by simp [Value.oneCell'])
            (by omega) (by unfold maxLen; omega) (by omega) (by simp; omega) (wr.heap.size + 1) (by simp) ?_; intro gg cap w1 hown1 hgrow hat hlt3))
      clear u1
      have HO2 := Lib.hid (own_snoc hown1)
      have HB2 := Lib.hid (B.out.trans (below_snoc hown hs hgrow))
      clear hown1 hgrow hown hc1 hc2
      go_wp2_with fail
      go_roundw
      case rel =>
        refine ⟨k + 1, cap, some ⟨gg, 0, none⟩, by omega, ?_, by go_num, ?_, HB2.out⟩
        · rw [T.out]; simp
        · rw [T.out, N.out]
          have := HO2.out
          simpa using this
      case measure => simp [intOf]; omega
    · have e : (addL xs ys).take k = addL xs ys := List.take_of_length_le (by rw [addL_len]; omega)
      rw [e] at ho
      have HO := Lib.hid ho
      have B := Lib.hid hb
      clear ho hb
      rw [e]
      clear e
      have E := Lib.hid (isBoard_ten (addL_len xs ys))
      have al : (addL xs ys).length ≤ 10 := by rw [addL_len]; omega
      cases hf : fitsB (addL xs ys)
      · have HF := Lib.hid hf
        have hr := HR.out
        rw [asBoard_no hf] at hr
        injection hr with h1 h2
        subst h1 h2
        clear hf
        go_wp2_with fail
        refine (specBoardValid_any _ _ _ _ HO.out.row (by omega)).mono ?_
        rintro e w' ⟨rfl, rfl⟩
        rw [E.out, HF.out]
        go_wp2_with fail
        go_ret2
        exact ⟨_, _, rfl, by simpa using own_empty wr w.heap.size hs, B.out.alloc hs _⟩
      · have HF := Lib.hid hf
        have hr := HR.out
        rw [asBoard_yes hf] at hr
        injection hr with h1 h2
        subst h1 h2
        clear hf
        go_wp2_with fail
        refine (specBoardValid_any _ _ _ _ HO.out.row (by omega)).mono ?_
        rintro e w' ⟨rfl, rfl⟩
        rw [E.out, HF.out]
        go_wp2_with fail
        go_ret2
        exact ⟨x, c, rfl, HO.out, B.out⟩

theorem specBoardLay_any (w : World) (a : Option Addr) (ca : Nat) (xs : List Int) (ha : Row .i64 w a xs) (hlx : xs.length ≤ 2000000) (b : Option Addr) (cb : Nat) (ys : List Int) (hb : Row .i64 w b ys) (hly : ys.length ≤ 2000000)
    (rs : List Int) (ok : Bool) (hr : boardLay xs ys = (rs, ok)) : Calls Try.prog 28 #[.slice a xs.length ca, .slice b ys.length cb] w (FreshOk w rs ok) := by
  cases h1 : isBoard xs
  · rw [boardLay_no1 h1] at hr
    injection hr with e1 e2
    subst e1 e2
    have HA := Lib.hid ha
    have H1 := Lib.hid h1
    clear ha hb h1
    go_enter Try.func28, Try.ntmps28
    go_wp2_with fail
    refine (specBoardValid_any _ _ _ _ HA.out hlx).mono ?_
    rintro e w' ⟨rfl, rfl⟩
    rw [H1.out]
    go_wp2_with fail
    go_ret2
    exact ⟨_, _, rfl, by simpa using own_empty w w.heap.size (Nat.le_refl _), (Below.refl _ _).alloc (Nat.le_refl _) _⟩
  · cases h2 : isBoard ys
    · rw [boardLay_no2 h2] at hr
      injection hr with e1 e2
      subst e1 e2
      have HA := Lib.hid ha
      have HB := Lib.hid hb
      have H1 := Lib.hid h1
      have H2 := Lib.hid h2
      clear ha hb h1 h2
      go_enter Try.func28, Try.ntmps28
      go_wp2_with fail
      refine (specBoardValid_any _ _ _ _ HA.out hlx).mono ?_
      rintro e w' ⟨rfl, rfl⟩
      rw [H1.out]
      go_wp2_with fail
      refine (specBoardValid_any _ _ _ _ HB.out hly).mono ?_
      rintro e w' ⟨rfl, rfl⟩
      rw [H2.out]
      go_wp2_with fail
      go_ret2
      exact ⟨_, _, rfl, by simpa using own_empty w w.heap.size (Nat.le_refl _), (Below.refl _ _).alloc (Nat.le_refl _) _⟩
    · rw [boardLay_yes h1 h2] at hr
      exact specBoardLay_yes w a ca xs ha b cb ys hb h1 h2 rs ok hr

theorem implBoardLay_no (w : World) (a : Option Addr) (ca : Nat) (xs : List Int) (ha : Row .i64 w a xs) (hlx : xs.length ≤ 2000000) (b : Option Addr) (cb : Nat) (ys : List Int) (hb : Row .i64 w b ys) (hly : ys.length ≤ 2000000)
    (h : isBoard xs = false ∨ isBoard xs = true ∧ isBoard ys = false) : Calls Try.prog 29 #[.slice a xs.length ca, .slice b ys.length cb] w (FreshOk w [] false) := by
  have HA := Lib.hid ha
  have HB := Lib.hid hb
  clear ha hb
  rcases h with h1 | ⟨h1, h2⟩
  · have H1 := Lib.hid h1
    clear h1
    go_enter Try.func29, Try.ntmps29
    go_wp2_with fail
    refine (layOut_any _ _ _ _ HA.out hlx).mono ?_
    rintro e w1 ⟨rfl, b1⟩
    rw [H1.out]
    have B1 := Lib.hid b1
    clear b1
    go_wp2_with (refine wpList_put_arr rfl _ _ rfl w1 (laid xs) (laid_len xs) rfl rfl ?_; intro w2 a2 b2 s2; have B2 := Lib.hid (B1.out.trans (b2.mono B1.out.size)); clear a2 b2)
    refine (layOut_any _ _ _ _ (HB.out.below B2.out) hly).mono ?_
    rintro e w3 ⟨rfl, b3⟩
    have B3 := Lib.hid (B2.out.trans (b3.mono B2.out.size))
    clear b3
    go_wp2_with (refine wpList_put_arr rfl _ _ rfl w3 (laid ys) (laid_len ys) rfl rfl ?_; intro w4 a4 b4 s4; have B4 := Lib.hid (B3.out.trans (b4.mono B3.out.size)); clear a4 b4)
    go_ret2
    exact ⟨none, 0, rfl, Own.nil_ _ _, B4.out⟩
  · have H1 := Lib.hid h1
    have H2 := Lib.hid h2
    clear h1 h2
    go_enter Try.func29, Try.ntmps29
    go_wp2_with fail
    refine (layOut_any _ _ _ _ HA.out hlx).mono ?_
    rintro e w1 ⟨rfl, b1⟩
    rw [H1.out]
    have B1 := Lib.hid b1
    clear b1
    go_wp2_with (refine wpList_put_arr rfl _ _ rfl w1 (laid xs) (laid_len xs) rfl rfl ?_; intro w2 a2 b2 s2; have B2 := Lib.hid (B1.out.trans (b2.mono B1.out.size)); clear a2 b2)
    refine (layOut_any _ _ _ _ (HB.out.below B2.out) hly).mono ?_
    rintro e w3 ⟨rfl, b3⟩
    rw [H2.out]
    have B3 := Lib.hid (B2.out.trans (b3.mono B2.out.size))
    clear b3
    go_wp2_with (refine wpList_put_arr rfl _ _ rfl w3 (laid ys) (laid_len ys) rfl rfl ?_; intro w4 a4 b4 s4; have B4 := Lib.hid (B3.out.trans (b4.mono B3.out.size)); clear a4 b4)
    go_ret2
    exact ⟨none, 0, rfl, Own.nil_ _ _, B4.out⟩

set_option maxHeartbeats 400000 in
theorem implBoardLay_yes (w : World) (a : Option Addr) (ca : Nat) (xs : List Int) (ha : Row .i64 w a xs) (b : Option Addr) (cb : Nat) (ys : List Int) (hb : Row .i64 w b ys)
    (h1 : isBoard xs = true) (h2 : isBoard ys = true) (rs : List Int) (ok : Bool) (hr : asBoard (addL xs ys) = (rs, ok)) :
    Calls Try.prog 29 #[.slice a xs.length ca, .slice b ys.length cb] w (FreshOk w rs ok) := by
  obtain ⟨fx, lx⟩ := isBoard_parts h1
  obtain ⟨fy, ly⟩ := isBoard_parts h2
  have l1 : xs.length ≤ 2000000 := by omega
  have l3 : ys.length ≤ 2000000 := by omega
  have HA := Lib.hid ha
  have HB := Lib.hid hb
  have H1 := Lib.hid h1
  have H2 := Lib.hid h2
  have FX := Lib.hid fx
  have FY := Lib.hid fy
  have LX := Lib.hid lx
  have LY := Lib.hid ly
  have HR := Lib.hid hr
  clear ha hb h1 h2 fx fy lx ly hr
  go_enter Try.func29, Try.ntmps29
  go_wp2_with fail
  refine (layOut_any _ _ _ _ HA.out l1).mono ?_
  rintro e w1 ⟨rfl, b1⟩
  rw [H1.out, laid_yes H1.out]
  have B1 := Lib.hid b1
  clear b1
  go_wp2_with (refine wpList_put_arr rfl _ _ rfl w1 xs LX.out rfl rfl ?_; intro w2 a2 b2 s2; have A2 := Lib.hid a2; have B2 := Lib.hid (B1.out.trans (b2.mono B1.out.size)); clear a2 b2)
  refine (layOut_any _ _ _ _ (HB.out.below B2.out) l3).mono ?_
  rintro e w3 ⟨rfl, b3⟩
  rw [H2.out, laid_yes H2.out]
  have A3 := Lib.hid (A2.out.below b3 s2)
  have s3 := b3.size
  have B3 := Lib.hid (B2.out.trans (b3.mono B2.out.size))
  clear b3 A2
  go_wp2_with (first | (refine wpList_put_arr rfl _ _ rfl w3 ys LY.out rfl rfl ?_; intro w4 a4 b4 s4; have D4 := Lib.hid a4; have A4 := Lib.hid (A3.out.below b4 (by omega)); have B4 := Lib.hid (B3.out.trans (b4.mono B3.out.size)); clear a4 b4) | (refine wpList_get_arr rfl _ rfl w3.heap.size ys rfl D4.out ?_))
  have S1 := Lib.hid B1.out.size
  have st : Arr w4 w1.heap.size (addTo xs ys 0) := by rw [addTo_zero ys LX.out]; exact A4.out
  have ST := Lib.hid st
  clear st
  go_loopw [29] (fun i wr => ∃ k : Nat, k ≤ 10 ∧ i = .int .i64 k ∧ Arr wr w1.heap.size (addTo xs ys k) ∧ Below w.heap.size w wr) (fun i _ => 10 - (intOf i).toNat)
  case atStart => exact ⟨0, Nat.zero_le _, rfl, ST.out, B4.out⟩
  case round =>
    obtain ⟨k, hk, rfl, har, hb⟩ := hrel
    have HB5 := Lib.hid hb
    have hs := hb.size
    clear hb
    by_cases hlt : k < 10
    · have hx := idx_arr ys LY.out k hlt
      have c1 := har.cell (i := k) hlt
      rw [addTo_nth xs ys hlt] at c1
      have f1 := har.frozen k
      have q1 := fits_nth FX.out (i := k) (by rw [LX.out]; exact hlt)
      have q2 := fits_nth FY.out (i := k) (by rw [LY.out]; exact hlt)
      have AR := Lib.hid har
      clear har
      go_wp2_with fail
      go_roundw
      case rel =>
        refine ⟨k + 1, by omega, by go_num, ?_, HB5.out.setCell S1.out _⟩
        have := AR.out.set_ k (nth xs k + nth ys k)
        rw [addTo_set xs ys k hlt] at this
        exact this
      case measure => simp [intOf]; omega
    · obtain rfl : k = 10 := by omega
      rw [addTo_ten] at har
      have AR := Lib.hid har
      clear har
      go_wp2_with (refine wpList_get_arr rfl _ rfl w1.heap.size (addL xs ys) rfl AR.out ?_)
      refine (board_any _ (addL xs ys) (addL_len xs ys) rs ok HR.out).mono ?_
      rintro e w5 ⟨a5, c5, rfl, o5, b5⟩
      have O5 := Lib.hid (o5.mono hs (Nat.le_refl _) (Nat.le_refl _))
      have B5 := Lib.hid (HB5.out.trans (b5.mono hs))
      clear o5 b5
      go_wp2_with fail
      go_ret2
      exact ⟨a5, c5, rfl, O5.out, B5.out⟩

theorem implBoardLay_any (w : World) (a : Option Addr) (ca : Nat) (xs : List Int) (ha : Row .i64 w a xs) (hlx : xs.length ≤ 2000000) (b : Option Addr) (cb : Nat) (ys : List Int) (hb : Row .i64 w b ys) (hly : ys.length ≤ 2000000)
    (rs : List Int) (ok : Bool) (hr : boardLay xs ys = (rs, ok)) : Calls Try.prog 29 #[.slice a xs.length ca, .slice b ys.length cb] w (FreshOk w rs ok) := by
  cases h1 : isBoard xs
  · rw [boardLay_no1 h1] at hr
    injection hr with e1 e2
    subst e1 e2
    exact implBoardLay_no w a ca xs ha hlx b cb ys hb hly (.inl h1)
  · cases h2 : isBoard ys
    · rw [boardLay_no2 h2] at hr
      injection hr with e1 e2
      subst e1 e2
      exact implBoardLay_no w a ca xs ha hlx b cb ys hb hly (.inr ⟨h1, h2⟩)
    · rw [boardLay_yes h1 h2] at hr
      exact implBoardLay_yes w a ca xs ha b cb ys hb h1 h2 rs ok hr

def boardDouble (xs : List Int) : List Int × Bool := boardLay xs xs
theorem boardDouble_bd (xs : List Int) : (boardDouble xs).1.length ≤ 1048576 := boardLay_bd xs xs
theorem specBoardDouble_any (w : World) (a : Option Addr) (ca : Nat) (xs : List Int) (ha : Row .i64 w a xs) (hlx : xs.length ≤ 2000000) (rs : List Int) (ok : Bool) (hr : boardDouble xs = (rs, ok)) :
    Calls Try.prog 30 #[.slice a xs.length ca] w (FreshOk w rs ok) := by
  have HA := Lib.hid ha
  have HR := Lib.hid hr
  clear ha hr
  go_enter Try.func30, Try.ntmps30
  go_wp2_with fail
  refine (specBoardLay_any _ _ _ _ HA.out hlx _ _ _ HA.out hlx rs ok HR.out).mono ?_
  rintro e w1 ⟨a1, c1, rfl, o1, b1⟩
  have O1 := Lib.hid o1
  have B1 := Lib.hid b1
  clear o1 b1
  go_wp2_with fail
  go_ret2
  exact ⟨a1, c1, rfl, O1.out, B1.out⟩
theorem implBoardDouble_any (w : World) (a : Option Addr) (ca : Nat) (xs : List Int) (ha : Row .i64 w a xs) (hlx : xs.length ≤ 2000000) (rs : List Int) (ok : Bool) (hr : boardDouble xs = (rs, ok)) :
    Calls Try.prog 31 #[.slice a xs.length ca] w (FreshOk w rs ok) := by
  have HA := Lib.hid ha
  have HR := Lib.hid hr
  clear ha hr
  go_enter Try.func31, Try.ntmps31
  go_wp2_with fail
  refine (implBoardLay_any _ _ _ _ HA.out hlx _ _ _ HA.out hlx rs ok HR.out).mono ?_
  rintro e w1 ⟨a1, c1, rfl, o1, b1⟩
  have O1 := Lib.hid o1
  have B1 := Lib.hid b1
  clear o1 b1
  go_wp2_with fail
  go_ret2
  exact ⟨a1, c1, rfl, O1.out, B1.out⟩
end Go.Proofs.Ytdappacmfpkhcaa
