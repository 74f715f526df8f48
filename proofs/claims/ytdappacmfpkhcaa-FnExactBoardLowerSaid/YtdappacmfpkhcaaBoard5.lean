
/-
  Contracts of the functions that raise and lower counters at a place. Condition: lists of at most 2^20 numbers.
-/
import Derived.Test.YtdappacmfpkhcaaBoard4
import Derived.Test.YtdappacmfpkhcaaOwn2
namespace Go.Proofs.Ytdappacmfpkhcaa
open Go.RowKit

/-- t counters are taken at the place f, then p are put at the place g. -/
def shift (zs : List Int) (f : Nat) (t : Int) (g : Nat) (p : Int) : List Int := (zs.set f (nth zs f - t)).set g (nth (zs.set f (nth zs f - t)) g + p)
theorem shift_len (zs : List Int) (f : Nat) (t : Int) (g : Nat) (p : Int) : (shift zs f t g p).length = zs.length := by simp [shift]
def boardRaise (zs : List Int) (n : Int) : List Int × Bool := if isBoard zs && inB n 0 8 then asBoard (shift zs n.toNat (full n.toNat) (n.toNat + 1) 1) else ([], false)
def boardLower (zs : List Int) (n : Int) : List Int × Bool := if isBoard zs && inB n 1 9 then asBoard (shift zs n.toNat 1 (n.toNat - 1) (full (n.toNat - 1))) else ([], false)
theorem asBoard_bd {zs : List Int} (h : zs.length ≤ 10) : (asBoard zs).1.length ≤ 1048576 := by
  unfold asBoard
  split
  · show zs.length ≤ 1048576
    omega
  · simp
theorem boardRaise_bd (zs : List Int) (n : Int) : (boardRaise zs n).1.length ≤ 1048576 := by
  unfold boardRaise
  split
  · rename_i h
    have hb : isBoard zs = true := by
      cases hb : isBoard zs
      · simp [hb] at h
      · rfl
    exact asBoard_bd (by rw [shift_len, (isBoard_parts hb).2]; omega)
  · simp
theorem boardLower_bd (zs : List Int) (n : Int) : (boardLower zs n).1.length ≤ 1048576 := by
  unfold boardLower
  split
  · rename_i h
    have hb : isBoard zs = true := by
      cases hb : isBoard zs
      · simp [hb] at h
      · rfl
    exact asBoard_bd (by rw [shift_len, (isBoard_parts hb).2]; omega)
  · simp
theorem raise_yes {zs : List Int} {n : Nat} (h : isBoard zs = true) (hn : n ≤ 8) : boardRaise zs (n : Int) = asBoard (shift zs n (full n) (n + 1) 1) := by
  have : inB (n : Int) 0 8 = true := inB_mk (by omega) (by omega)
  simp [boardRaise, h, this]
theorem raise_no1 {zs : List Int} {n : Int} (h : isBoard zs = false) : boardRaise zs n = ([], false) := by simp [boardRaise, h]
theorem raise_no2 {zs : List Int} {n : Int} (h : inB n 0 8 = false) : boardRaise zs n = ([], false) := by simp [boardRaise, h]
theorem lower_yes {zs : List Int} {n : Nat} (h : isBoard zs = true) (hn : n ≤ 8) : boardLower zs ((n : Int) + 1) = asBoard (shift zs (n + 1) 1 n (full n)) := by
  have : inB ((n : Int) + 1) 1 9 = true := inB_mk (by omega) (by omega)
  have e : ((n : Int) + 1).toNat = n + 1 := by omega
  simp [boardLower, h, this, e]
theorem lower_no1 {zs : List Int} {n : Int} (h : isBoard zs = false) : boardLower zs n = ([], false) := by simp [boardLower, h]
theorem lower_no2 {zs : List Int} {n : Int} (h : inB n 1 9 = false) : boardLower zs n = ([], false) := by simp [boardLower, h]

/-- No board: the answer. -/
theorem l1Shift_no1 (w : World) (a : Option Addr) (cap : Nat) (zs : List Int) (h : Row .i64 w a zs) (hl : zs.length ≤ 2000000) (f t g p : Int) (hb : isBoard zs = false) :
    Calls Try.prog 47 #[.slice a zs.length cap, .int .i64 f, .int .i64 t, .int .i64 g, .int .i64 p] w (FreshOk w [] false) := by
  have H := Lib.hid h
  have HB := Lib.hid hb
  clear h hb
  go_enter Try.func47, Try.ntmps47
  go_wp2_with fail
  refine (specBoardValid_any _ _ _ _ H.out hl).mono ?_
  rintro e w' ⟨rfl, rfl⟩
  rw [HB.out]
  go_wp2_with fail
  go_ret2
  exact ⟨_, _, rfl, by simpa using own_empty w w.heap.size (Nat.le_refl _), (Below.refl _ _).alloc (Nat.le_refl _) _⟩
/-- No place to put at. -/
theorem l1Shift_no2 (w : World) (a : Option Addr) (cap : Nat) (zs : List Int) (h : Row .i64 w a zs) (f t g p : Int) (hb : isBoard zs = true) (hf : inB f 0 9 = true) (hg : inB g 0 9 = false) :
    Calls Try.prog 47 #[.slice a zs.length cap, .int .i64 f, .int .i64 t, .int .i64 g, .int .i64 p] w (FreshOk w [] false) := by
  have hl : zs.length ≤ 2000000 := by have := (isBoard_parts hb).2; omega
  have H := Lib.hid h
  have HB := Lib.hid hb
  have HF := Lib.hid hf
  have HG := Lib.hid hg
  clear h hb hf hg
  go_enter Try.func47, Try.ntmps47
  go_wp2_with fail
  refine (specBoardValid_any _ _ _ _ H.out hl).mono ?_
  rintro e w' ⟨rfl, rfl⟩
  rw [HB.out]
  go_wp2_with fail
  refine (l6In_any _ _ _ _).mono ?_
  rintro e w' ⟨rfl, rfl⟩
  rw [HF.out]
  go_wp2_with fail
  refine (l6In_any _ _ _ _).mono ?_
  rintro e w' ⟨rfl, rfl⟩
  rw [HG.out]
  go_wp2_with fail
  go_ret2
  exact ⟨_, _, rfl, by simpa using own_empty w w.heap.size (Nat.le_refl _), (Below.refl _ _).alloc (Nat.le_refl _) _⟩

set_option maxHeartbeats 400000 in
theorem l1Shift_yes (w : World) (a : Option Addr) (cap : Nat) (zs : List Int) (h : Row .i64 w a zs) (f : Nat) (t : Int) (g : Nat) (p : Int) (hb : isBoard zs = true) (hf : f ≤ 9) (hg : g ≤ 9) (ht0 : 0 ≤ t) (ht : t ≤ 5) (hp0 : 0 ≤ p) (hp : p ≤ 5)
    (rs : List Int) (ok : Bool) (hr : asBoard (shift zs f t g p) = (rs, ok)) :
    Calls Try.prog 47 #[.slice a zs.length cap, .int .i64 (f : Int), .int .i64 t, .int .i64 (g : Int), .int .i64 p] w (FreshOk w rs ok) := by
  obtain ⟨hfit, h10⟩ := isBoard_parts hb
  have l1 : zs.length ≤ 10 := by omega
  have l2 : 10 ≤ zs.length := by omega
  have l3 : zs.length ≤ 2000000 := by omega
  have H := Lib.hid h
  have HB := Lib.hid hb
  have HF := Lib.hid (show inB (f : Int) 0 9 = true from inB_mk (by omega) (by omega))
  have HG := Lib.hid (show inB (g : Int) 0 9 = true from inB_mk (by omega) (by omega))
  have FT := Lib.hid hfit
  have HR := Lib.hid hr
  obtain ⟨ad, rfl⟩ := h.some_ (by omega)
  clear h hb hfit h10 hr
  go_enter Try.func47, Try.ntmps47
  go_wp2_with fail
  refine (specBoardValid_any _ _ _ _ H.out l3).mono ?_
  rintro e w' ⟨rfl, rfl⟩
  rw [HB.out]
  go_wp2_with fail
  refine (l6In_any _ _ _ _).mono ?_
  rintro e w' ⟨rfl, rfl⟩
  rw [HF.out]
  go_wp2_with fail
  refine (l6In_any _ _ _ _).mono ?_
  rintro e w' ⟨rfl, rfl⟩
  rw [HG.out]
  have R2 := Lib.hid (H.out.below ((Below.refl _ w).alloc (Nat.le_refl _) (.cells #[] 3)))
  have E2 := Lib.hid (own_empty w w.heap.size (Nat.le_refl _))
  have q1 := fits_nth FT.out (i := f) (by omega)
  have hls : (zs.set f (nth zs f - t)).length = zs.length := by simp
  have HLS := Lib.hid hls
  have q2 : -5 ≤ nth (zs.set f (nth zs f - t)) g ∧ nth (zs.set f (nth zs f - t)) g ≤ 20 := by
    have q3 := fits_nth FT.out (i := g) (by omega)
    rw [nth_of _ _ (by omega), List.getElem_set]
    split
    · omega
    · rw [← nth_of zs g (by omega)]; omega
  have SE := Lib.hid (show (zs.set f (nth zs f - t)).set g (nth (zs.set f (nth zs f - t)) g + p) = shift zs f t g p from rfl)
  have SL := Lib.hid ((shift_len zs f t g p).trans (show zs.length = 10 by omega))
  have ZF := Lib.hid (show ∃ zf, zf = zs.set f (nth zs f - t) from ⟨_, rfl⟩)
  clear hls
  go_wp2_with (first
    | (at_builtin; refine wpList_cat rfl _ _ rfl _ w.heap.size _ zs [] _ _ ad cap rfl rfl E2.out R2.out (by simp) (by simp; omega) ?_; intro x c w1 o1 b1 s1; have o1' : Own w1 w.heap.size w1.heap.size (.slice x zs.length c) zs := (by simpa using o1); rw [List.length_nil, Nat.zero_add]; obtain ⟨gg, rfl, g0, g1, hcf, hff⟩ := o1'.at_ (i := f) (by omega); have O1 := Lib.hid o1'; have B1 := Lib.hid (((Below.refl w.heap.size w).alloc (Nat.le_refl _) _).trans b1); clear o1 o1' b1)
    | (refine wpList_setOwn rfl _ _ rfl w1 w.heap.size _ gg _ c zs f (nth zs f - t) rfl rfl O1.out (by omega) ?_; intro w2 o2 b2 z2; have z2' : w2.heap.size ≤ w1.heap.size := (by omega); have z2'' : w1.heap.size ≤ w2.heap.size := (by omega); obtain ⟨gg', hgg, _, _, hcg, hfg⟩ := o2.at_ (i := g) (by rw [HLS.out]; omega); obtain rfl : gg = gg' := (by injection hgg with hgg; injection hgg); have O2 := Lib.hid o2; have B2 := Lib.hid (B1.out.trans b2); clear o2 b2 hgg z2 hcf hff)
    | (refine wpList_setOwn rfl _ _ rfl w2 w.heap.size _ gg _ c _ g (nth (zs.set f (nth zs f - t)) g + p) rfl rfl O2.out (by rw [HLS.out]; omega) ?_; intro w3 o3 b3 z3; have z3' : w3.heap.size ≤ w2.heap.size := (by omega); have z3'' : w2.heap.size ≤ w3.heap.size := (by omega); have O3 := Lib.hid o3; have B3 := Lib.hid (B2.out.trans b3); clear o3 b3 z3 hcg hfg))
  have o3 := O3.out
  rw [SE.out] at o3
  have O4 := Lib.hid o3
  clear o3
  have E := Lib.hid (isBoard_ten SL.out)
  have al : (shift zs f t g p).length ≤ 2000000 := by rw [SL.out]; omega
  have hlen : zs.length = (shift zs f t g p).length := by rw [SL.out]; omega
  have HLEN := Lib.hid hlen
  clear hlen
  have o5 := O4.out
  rw [HLEN.out] at o5
  have O5 := Lib.hid o5
  clear o5
  cases hf' : fitsB (shift zs f t g p)
  · have HF' := Lib.hid hf'
    have hr := HR.out
    rw [asBoard_no hf'] at hr
    injection hr with e1 e2
    subst e1 e2
    clear hf'
    rw [HLEN.out]
    refine (specBoardValid_any _ _ _ _ O5.out.row al).mono ?_
    rintro e w' ⟨rfl, rfl⟩
    rw [E.out, HF'.out]
    go_wp2_with fail
    go_ret2
    have hsz := B3.out.size
    exact ⟨_, _, rfl, by simpa using own_empty w3 w.heap.size hsz, B3.out.alloc hsz _⟩
  · have HF' := Lib.hid hf'
    have hr := HR.out
    rw [asBoard_yes hf'] at hr
    injection hr with e1 e2
    subst e1 e2
    clear hf'
    rw [HLEN.out]
    refine (specBoardValid_any _ _ _ _ O5.out.row al).mono ?_
    rintro e w' ⟨rfl, rfl⟩
    rw [E.out, HF'.out]
    go_wp2_with fail
    go_ret2
    exact ⟨_, _, rfl, O5.out.all, B3.out⟩

theorem specBoardRaise_any (w : World) (a : Option Addr) (cap : Nat) (zs : List Int) (h : Row .i64 w a zs) (hl : zs.length ≤ 2000000) (n : Int) (rs : List Int) (ok : Bool) (hr : boardRaise zs n = (rs, ok)) :
    Calls Try.prog 34 #[.slice a zs.length cap, .int .i64 n] w (FreshOk w rs ok) := by
  cases hn : inB n 0 9
  · have h8 : inB n 0 8 = false := by rcases inB_false hn with h1 | h1; exact inB_lo h1; exact inB_hi (by omega)
    rw [raise_no2 h8] at hr
    injection hr with e1 e2
    subst e1 e2
    have HN := Lib.hid hn
    clear hn h8 h
    go_enter Try.func34, Try.ntmps34
    go_wp2_with fail
    refine (l6In_any _ _ _ _).mono ?_
    rintro e w' ⟨rfl, rfl⟩
    rw [HN.out]
    go_wp2_with fail
    go_ret2
    exact ⟨_, _, rfl, by simpa using own_empty w w.heap.size (Nat.le_refl _), (Below.refl _ _).alloc (Nat.le_refl _) _⟩
  · obtain ⟨n0, n9⟩ := inB_true hn
    obtain ⟨m, rfl⟩ : ∃ m : Nat, n = m := ⟨n.toNat, by omega⟩
    have HN := Lib.hid hn
    have H := Lib.hid h
    have HR := Lib.hid hr
    have fb := full_bd m
    clear hn h hr
    go_enter Try.func34, Try.ntmps34
    go_wp2_with fail
    refine (l6In_any _ _ _ _).mono ?_
    rintro e w' ⟨rfl, rfl⟩
    rw [HN.out]
    go_wp2_with fail
    refine (l1Group_any _ _ (by omega)).mono ?_
    rintro e w' ⟨rfl, rfl⟩
    have C : Calls Try.prog 47 #[.slice a zs.length cap, .int .i64 (m : Int), .int .i64 (full m), .int .i64 ((m : Int) + 1), .int .i64 1] w (FreshOk w rs ok) := by
      cases hb : isBoard zs
      · have hr := HR.out
        rw [raise_no1 hb] at hr
        injection hr with e1 e2
        subst e1 e2
        exact l1Shift_no1 _ _ _ _ H.out hl _ _ _ _ hb
      · by_cases h8 : m ≤ 8
        · have hr := HR.out
          rw [raise_yes hb h8] at hr
          exact l1Shift_yes _ _ _ _ H.out m (full m) (m + 1) 1 hb (by omega) (by omega) (by omega) fb.2 (by omega) (by omega) rs ok hr
        · have hr := HR.out
          rw [raise_no2 (inB_hi (by omega))] at hr
          injection hr with e1 e2
          subst e1 e2
          exact l1Shift_no2 _ _ _ _ H.out _ _ _ _ hb (inB_mk (by omega) (by omega)) (inB_hi (by omega))
    go_wp2_with fail
    refine C.mono ?_
    rintro e w1 ⟨a1, c1, rfl, o1, b1⟩
    have O1 := Lib.hid o1
    have B1 := Lib.hid b1
    clear o1 b1
    go_wp2_with fail
    go_ret2
    exact ⟨a1, c1, rfl, O1.out, B1.out⟩

theorem specBoardLower_any (w : World) (a : Option Addr) (cap : Nat) (zs : List Int) (h : Row .i64 w a zs) (hl : zs.length ≤ 2000000) (n : Int) (rs : List Int) (ok : Bool) (hr : boardLower zs n = (rs, ok)) :
    Calls Try.prog 32 #[.slice a zs.length cap, .int .i64 n] w (FreshOk w rs ok) := by
  cases hn : inB n 1 9
  · rw [lower_no2 hn] at hr
    injection hr with e1 e2
    subst e1 e2
    have HN := Lib.hid hn
    clear hn h
    go_enter Try.func32, Try.ntmps32
    go_wp2_with fail
    refine (l6In_any _ _ _ _).mono ?_
    rintro e w' ⟨rfl, rfl⟩
    rw [HN.out]
    go_wp2_with fail
    go_ret2
    exact ⟨_, _, rfl, by simpa using own_empty w w.heap.size (Nat.le_refl _), (Below.refl _ _).alloc (Nat.le_refl _) _⟩
  · obtain ⟨n0, n9⟩ := inB_true hn
    obtain ⟨m, rfl⟩ : ∃ m : Nat, n = (m : Int) + 1 := ⟨(n - 1).toNat, by omega⟩
    have HN := Lib.hid hn
    have H := Lib.hid h
    have HR := Lib.hid hr
    have fb := full_bd m
    clear hn h hr
    go_enter Try.func32, Try.ntmps32
    go_wp2_with fail
    refine (l6In_any _ _ _ _).mono ?_
    rintro e w' ⟨rfl, rfl⟩
    rw [HN.out]
    go_wp2_with fail
    refine (l1Group_any _ _ (by omega)).mono ?_
    rintro e w' ⟨rfl, rfl⟩
    have C : Calls Try.prog 47 #[.slice a zs.length cap, .int .i64 ((m : Int) + 1), .int .i64 1, .int .i64 (m : Int), .int .i64 (full m)] w (FreshOk w rs ok) := by
      cases hb : isBoard zs
      · have hr := HR.out
        rw [lower_no1 hb] at hr
        injection hr with e1 e2
        subst e1 e2
        exact l1Shift_no1 _ _ _ _ H.out hl _ _ _ _ hb
      · have hr := HR.out
        rw [lower_yes hb (by omega)] at hr
        exact l1Shift_yes _ _ _ _ H.out (m + 1) 1 m (full m) hb (by omega) (by omega) (by omega) (by omega) (by omega) fb.2 rs ok hr
    go_wp2_with fail
    refine C.mono ?_
    rintro e w1 ⟨a1, c1, rfl, o1, b1⟩
    have O1 := Lib.hid o1
    have B1 := Lib.hid b1
    clear o1 b1
    go_wp2_with fail
    go_ret2
    exact ⟨a1, c1, rfl, O1.out, B1.out⟩
end Go.Proofs.Ytdappacmfpkhcaa
