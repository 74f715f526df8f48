
/-
  Contracts of the functions that carry the diagonals of a lattice, and of those that read the product. Condition: lists of at most 2^20 numbers.
-/
import Derived.Test.YtdnknkbcbnoobaaLat
namespace Go.Proofs.Ytdnknkbcbnoobaa
open Go.RowKit

/-- The carry and the digits behind it, when k sums are carried. -/
def car (ss : List Int) : Nat → Int × List Int
  | 0 => (0, [])
  | k + 1 => (((car ss k).1 + nth ss k) / 10, ((car ss k).1 + nth ss k) % 10 :: (car ss k).2)
def latDig (xs ys : List Int) : List Int := (car (latTab xs ys) (xs.length + ys.length)).2
def latDigits (xs ys : List Int) : List Int × Bool := if isNum xs && isNum ys then (latDig xs ys, true) else ([], false)
def latTimes (xs ys : List Int) : Int := if isNum xs && isNum ys then val (latDig xs ys) else -1
theorem latDigits_yes {xs ys : List Int} (h : isNum xs = true) (k : isNum ys = true) : latDigits xs ys = (latDig xs ys, true) := by simp [latDigits, h, k]
theorem latDigits_no {xs ys : List Int} (h : (isNum xs && isNum ys) = false) : latDigits xs ys = ([], false) := by simp only [latDigits, h]; rfl
theorem latSums_no {xs ys : List Int} (h : (isNum xs && isNum ys) = false) : latSums xs ys = ([], false) := by simp only [latSums, h]; rfl
theorem latTimes_yes {xs ys : List Int} (h : isNum xs = true) (k : isNum ys = true) : latTimes xs ys = val (latDig xs ys) := by simp [latTimes, h, k]
theorem latTimes_no {xs ys : List Int} (h : (isNum xs && isNum ys) = false) : latTimes xs ys = -1 := by simp only [latTimes, h]; rfl
theorem car_len (ss : List Int) (k : Nat) : (car ss k).2.length = k := by
  induction k with
  | zero => rfl
  | succ k ih => simp [car, ih]
theorem latDig_len (xs ys : List Int) : (latDig xs ys).length = xs.length + ys.length := car_len _ _
theorem latDigits_bd (xs ys : List Int) : (latDigits xs ys).1.length ≤ 1048576 := by
  unfold latDigits
  split
  · rename_i h
    have h' : isNum xs = true ∧ isNum ys = true := by simpa using h
    have h1 := isNum_parts h'.1
    have h2 := isNum_parts h'.2
    rw [latDig_len]
    omega
  · simp
theorem car_digs (ss : List Int) (k : Nat) : digs (car ss k).2 = true := by
  induction k with
  | zero => rfl
  | succ k ih =>
    refine digs_of fun d hd => ?_
    rw [car] at hd
    rcases List.mem_cons.1 hd with rfl | hd
    · omega
    · exact digs_mem ih d hd
theorem car_bd {ss : List Int} (h : ∀ i, i < ss.length → 0 ≤ nth ss i ∧ nth ss i ≤ 1000) (k : Nat) (hk : k ≤ ss.length) : 0 ≤ (car ss k).1 ∧ (car ss k).1 ≤ 1000 := by
  induction k with
  | zero => simp [car]
  | succ k ih =>
    have h1 := ih (by omega)
    have h2 := h k (by omega)
    rw [car]
    omega
theorem latTab_bd {xs ys : List Int} (dx : digs xs = true) (dy : digs ys = true) (x6 : xs.length ≤ 6) (y6 : ys.length ≤ 6) : ∀ i, i < (latTab xs ys).length → 0 ≤ nth (latTab xs ys) i ∧ nth (latTab xs ys) i ≤ 1000 := by
  intro i hi
  rw [latTab_len] at hi
  rw [← part_all]
  exact part_bd (latF_bd dx dy) x6 y6 (by omega) hi
theorem both_true {a b : Bool} (h : (a && b) = true) : a = true ∧ b = true := by simpa using h

theorem specLatticeDigits_any (w : World) (a : Option Addr) (ca : Nat) (xs : List Int) (ha : Row .i64 w a xs) (la : xs.length ≤ 2000000) (b : Option Addr) (cb : Nat) (ys : List Int) (hb : Row .i64 w b ys) (lb : ys.length ≤ 2000000) (rs : List Int) (ok : Bool) (hr : latDigits xs ys = (rs, ok)) :
    Calls Try.prog 15 #[.slice a xs.length ca, .slice b ys.length cb] w (FreshOk w rs ok) := by
  have HA := Lib.hid ha
  have HB := Lib.hid hb
  clear ha hb
  cases hxy : isNum xs && isNum ys
  · rw [latDigits_no hxy] at hr
    injection hr with h1 h2
    subst h1 h2
    have E := Lib.hid (latSums_no hxy)
    clear hxy
    go_enter Try.func15, Try.ntmps15
    go_wp2_with fail
    refine (specLatticeSums_any _ _ _ _ HA.out la _ _ _ HB.out lb [] false E.out).mono ?_
    rintro e w1 ⟨a1, c1, rfl, o1, b1⟩
    have B1 := Lib.hid b1
    have s1 := b1.size
    clear o1 b1
    go_wp2_with fail
    go_ret2
    exact ⟨_, _, rfl, by simpa using own_empty w1 w.heap.size s1, B1.out.alloc s1 _⟩
  · obtain ⟨hx, hy⟩ := both_true hxy
    rw [latDigits_yes hx hy] at hr
    injection hr with h1 h2
    subst h1 h2
    obtain ⟨dx, x1, x6⟩ := isNum_parts hx
    obtain ⟨dy, y1, y6⟩ := isNum_parts hy
    have E := Lib.hid (latSums_yes hx hy)
    have BD := Lib.hid (latTab_bd dx dy x6 y6)
    have el := latTab_len xs ys
    have ed : latDig xs ys = (car (latTab xs ys) (latTab xs ys).length).2 := by rw [el]; rfl
    have hl12 : (latTab xs ys).length ≤ 12 := by omega
    rw [ed]
    clear hxy hx hy dx dy el ed
    generalize latTab xs ys = ss at *
    go_enter Try.func15, Try.ntmps15
    go_wp2_with fail
    refine (specLatticeSums_any _ _ _ _ HA.out la _ _ _ HB.out lb ss true E.out).mono ?_
    rintro e w1 ⟨a1, c1, rfl, o1, b1⟩
    have O1 := Lib.hid o1
    have B1 := Lib.hid b1
    have s1 := b1.size
    clear o1 b1
    go_wp2_with fail
    go_loopw [8, 9, 10] (fun s cy i wr => ∃ k g c : Nat, k ≤ ss.length ∧ i = .int .i64 k ∧ cy = .int .i64 (car ss k).1 ∧ s = .slice (some ⟨g, 0, none⟩) (car ss k).2.length c ∧ Own wr w1.heap.size wr.heap.size (.slice (some ⟨g, 0, none⟩) (car ss k).2.length c) (car ss k).2 ∧ Below w1.heap.size w1 wr) (fun _ _ i _ => ss.length - (intOf i).toNat)
    case atStart => exact ⟨0, w1.heap.size, 0, Nat.zero_le _, rfl, rfl, rfl, by simpa [car] using own_empty w1 w1.heap.size (Nat.le_refl _), (Below.refl _ _).alloc (Nat.le_refl _) _⟩
    case round =>
      obtain ⟨k, g, c, hk, rfl, rfl, rfl, ho, hbw⟩ := hrel
      have hs := hbw.size
      have cb := car_bd BD.out k hk
      have cl := car_len ss k
      by_cases hlt : k < ss.length
      · obtain ⟨b1, o1, rfl, _, hc1⟩ := (O1.out.row.below hbw).at_ hlt
        have nb := BD.out k hlt
        have N1 := Lib.hid (show car ss (k + 1) = (((car ss k).1 + nth ss k) / 10, ((car ss k).1 + nth ss k) % 10 :: (car ss k).2) from rfl)
        have hol : (car ss k).2.length ≤ 12 := by omega
        have HBw := Lib.hid hbw
        clear hbw cl
        generalize car ss k = st at *
        obtain ⟨cv, out⟩ := st
        simp only at *
        go_wp2_with (at_builtin; refine wpList_prepend rfl _ _ rfl wr w1.heap.size wr.heap.size ((cv + nth ss k) % 10) out g c rfl rfl ho hs (by omega) ?_; intro g' c' w2 ho2 hb2)
        have HO2 := Lib.hid ho2
        have HB2 := Lib.hid (HBw.out.trans (hb2.mono hs))
        clear ho ho2 hb2
        go_wp2_with fail
        go_roundw
        case rel => exact ⟨k + 1, g', c', by omega, by go_num, by rw [N1.out], by rw [N1.out]; rfl, by rw [N1.out]; exact HO2.out, HB2.out⟩
        case measure => simp [intOf]; omega
      · obtain rfl : k = ss.length := by omega
        have HO := Lib.hid (ho.mono (lo' := w.heap.size) s1 (Nat.le_refl _) (Nat.le_refl _))
        have HB2 := Lib.hid (B1.out.trans (hbw.mono s1))
        clear ho hbw cl
        generalize car ss ss.length = st at *
        obtain ⟨cv, out⟩ := st
        simp only at *
        go_wp2_with fail
        go_ret2
        exact ⟨_, _, rfl, HO.out, HB2.out⟩

theorem rep_len (ss : List Int) (k : Nat) (hk : k ≤ ss.length) : (List.replicate (ss.length - k) (0 : Int) ++ (car ss k).2).length = ss.length := by rw [List.length_append, List.length_replicate, car_len]; omega

theorem carried_any (w : World) (a : Option Addr) (ca : Nat) (ss : List Int) (ha : Row .i64 w a ss) (hl : ss.length ≤ 12) (hbd : ∀ i, i < ss.length → 0 ≤ nth ss i ∧ nth ss i ≤ 1000) :
    Calls Try.prog 33 #[.slice a ss.length ca] w (Fresh w (car ss ss.length).2) := by
  obtain ⟨i0, hi, hz0, hz1, hz2⟩ := info_parts int_info
  have HA := Lib.hid ha
  have BD := Lib.hid hbd
  clear ha hbd
  go_enter Try.func33, Try.ntmps33
  go_wp2_with (refine wpList_make_full _ rfl _ _ 22 rfl w.heap.size 3 i0 (.int .i64 0) 1 Try.underlying22 hi hz0 hz1 .i64 .i64 _ _ ss.length rfl rfl rfl rfl (by rw [hz2]; omega) (by unfold maxLen; omega) (Nat.le_refl _) ?_; intro w1 hown hgrow)
  have hb1 : Below w.heap.size w w1 := (Below.refl _ _).grown hgrow (Nat.le_refl _) (fun k hk => by cases hk)
  have ho : Own w1 w.heap.size w1.heap.size (.slice (some ⟨w.heap.size, 0, none⟩) ss.length ss.length) (List.replicate (ss.length - 0) 0 ++ (car ss 0).2) := by
    rw [made_ints] at hown
    refine Own.of ?_
    simpa [car] using hown
  have HB1 := Lib.hid hb1
  have HO1 := Lib.hid ho
  clear hb1 ho hown hgrow
  go_loopw [4, 12] (fun cy i wr => ∃ k : Nat, k ≤ ss.length ∧ i = .int .i64 k ∧ cy = .int .i64 (car ss k).1 ∧ Own wr w.heap.size w1.heap.size (.slice (some ⟨w.heap.size, 0, none⟩) ss.length ss.length) (List.replicate (ss.length - k) 0 ++ (car ss k).2) ∧ Below w.heap.size w wr) (fun _ i _ => ss.length - (intOf i).toNat)
  case atStart => exact ⟨0, Nat.zero_le _, rfl, rfl, HO1.out, HB1.out⟩
  case round =>
    obtain ⟨k, hk, rfl, rfl, ho, hbw⟩ := hrel
    have cb := car_bd BD.out k hk
    by_cases hlt : k < ss.length
    · obtain ⟨b1, o1, rfl, _, hc1⟩ := (HA.out.below hbw).at_ hlt
      have nb := BD.out k hlt
      obtain ⟨q, hq⟩ : ∃ q, q = ss.length - 1 - k := ⟨_, rfl⟩
      have hq1 : q < ss.length := by omega
      have hqk : ss.length - k = q + 1 := by omega
      rw [hqk] at ho
      obtain ⟨g, hg, g0, g1, hcw, hf⟩ := ho.at_ (i := q) (by simp; omega)
      obtain rfl : w.heap.size = g := by injection hg with hg; injection hg
      have N1 := Lib.hid (show car ss (k + 1) = (((car ss k).1 + nth ss k) / 10, ((car ss k).1 + nth ss k) % 10 :: (car ss k).2) from rfl)
      have HQ := Lib.hid hq
      have EQ := Lib.hid (show (ss.length : Int) - 1 - (k : Int) = (q : Int) by omega)
      have HO := Lib.hid ho
      have HBw := Lib.hid hbw
      clear ho hbw hg hq hqk
      generalize car ss k = st at *
      obtain ⟨cv, out⟩ := st
      simp only at *
      have eq := EQ.out
      go_wp2_with fail
      go_roundw
      case rel =>
        refine ⟨k + 1, by omega, by go_num, by rw [N1.out]; go_num, ?_, HBw.out.setCell (Nat.le_refl _) _⟩
        have := HO.out.set_ q ((cv + nth ss k) % 10)
        rw [rep_set] at this
        rw [N1.out, show ss.length - (k + 1) = q by have := HQ.out; omega]
        have e : nth ss k + cv = cv + nth ss k := by omega
        rw [e]
        exact this
      case measure => simp [intOf]; omega
    · obtain rfl : k = ss.length := by omega
      have hlen := car_len ss ss.length
      have HO := Lib.hid ho.all
      have HL := Lib.hid hlen
      have HB2 := Lib.hid hbw
      clear ho hbw hlen
      go_wp2_with fail
      go_ret
      refine ⟨some ⟨w.heap.size, 0, none⟩, ss.length, ?_, ?_, HB2.out⟩
      · rw [HL.out]; rfl
      · rw [HL.out]
        have := HO.out
        simpa using this

theorem implLatticeDigits_any (w : World) (a : Option Addr) (ca : Nat) (xs : List Int) (ha : Row .i64 w a xs) (la : xs.length ≤ 2000000) (b : Option Addr) (cb : Nat) (ys : List Int) (hb : Row .i64 w b ys) (lb : ys.length ≤ 2000000) (rs : List Int) (ok : Bool) (hr : latDigits xs ys = (rs, ok)) :
    Calls Try.prog 16 #[.slice a xs.length ca, .slice b ys.length cb] w (FreshOk w rs ok) := by
  have HA := Lib.hid ha
  have HB := Lib.hid hb
  clear ha hb
  cases hxy : isNum xs && isNum ys
  · rw [latDigits_no hxy] at hr
    injection hr with h1 h2
    subst h1 h2
    have E := Lib.hid (latSums_no hxy)
    clear hxy
    go_enter Try.func16, Try.ntmps16
    go_wp2_with fail
    refine (implLatticeSums_any _ _ _ _ HA.out la _ _ _ HB.out lb [] false E.out).mono ?_
    rintro e w1 ⟨a1, c1, rfl, o1, b1⟩
    have B1 := Lib.hid b1
    clear o1 b1
    go_wp2_with fail
    go_ret2
    exact ⟨none, 0, rfl, Own.nil_ _ _, B1.out⟩
  · obtain ⟨hx, hy⟩ := both_true hxy
    rw [latDigits_yes hx hy] at hr
    injection hr with h1 h2
    subst h1 h2
    obtain ⟨dx, x1, x6⟩ := isNum_parts hx
    obtain ⟨dy, y1, y6⟩ := isNum_parts hy
    have E := Lib.hid (latSums_yes hx hy)
    have BD := Lib.hid (latTab_bd dx dy x6 y6)
    have el := latTab_len xs ys
    have ed : latDig xs ys = (car (latTab xs ys) (latTab xs ys).length).2 := by rw [el]; rfl
    have hl12 : (latTab xs ys).length ≤ 12 := by omega
    rw [ed]
    clear hxy hx hy dx dy el ed
    generalize latTab xs ys = ss at *
    go_enter Try.func16, Try.ntmps16
    go_wp2_with fail
    refine (implLatticeSums_any _ _ _ _ HA.out la _ _ _ HB.out lb ss true E.out).mono ?_
    rintro e w1 ⟨a1, c1, rfl, o1, b1⟩
    have O1 := Lib.hid o1
    have B1 := Lib.hid b1
    clear o1 b1
    go_wp2_with fail
    refine (carried_any _ _ _ _ O1.out.row hl12 BD.out).mono ?_
    rintro e w2 ⟨a2, c2, rfl, o2, b2⟩
    have O2 := Lib.hid (o2.mono B1.out.size (Nat.le_refl _) (Nat.le_refl _))
    have B2 := Lib.hid (B1.out.trans (b2.mono B1.out.size))
    clear o2 b2
    go_wp2_with fail
    go_ret2
    exact ⟨a2, c2, rfl, O2.out, B2.out⟩

theorem specLatticeTimes_any (w : World) (a : Option Addr) (ca : Nat) (xs : List Int) (ha : Row .i64 w a xs) (la : xs.length ≤ 2000000) (b : Option Addr) (cb : Nat) (ys : List Int) (hb : Row .i64 w b ys) (lb : ys.length ≤ 2000000) :
    Calls Try.prog 20 #[.slice a xs.length ca, .slice b ys.length cb] w fun e w' => e = .returned (.int .i64 (latTimes xs ys)) ∧ Below w.heap.size w w' := by
  have HA := Lib.hid ha
  have HB := Lib.hid hb
  clear ha hb
  cases hxy : isNum xs && isNum ys
  · have E := Lib.hid (latDigits_no hxy)
    have T := Lib.hid (latTimes_no hxy)
    clear hxy
    go_enter Try.func20, Try.ntmps20
    go_wp2_with fail
    refine (specLatticeDigits_any _ _ _ _ HA.out la _ _ _ HB.out lb [] false E.out).mono ?_
    rintro e w1 ⟨a1, c1, rfl, o1, b1⟩
    have B1 := Lib.hid b1
    clear o1 b1
    go_wp2_with fail
    go_ret
    exact ⟨by rw [T.out]; rfl, B1.out⟩
  · obtain ⟨hx, hy⟩ := both_true hxy
    obtain ⟨dx, x1, x6⟩ := isNum_parts hx
    obtain ⟨dy, y1, y6⟩ := isNum_parts hy
    have E := Lib.hid (latDigits_yes hx hy)
    have T := Lib.hid (latTimes_yes hx hy)
    have D := Lib.hid (show digs (latDig xs ys) = true from car_digs _ _)
    have hl12 : (latDig xs ys).length ≤ 12 := by rw [latDig_len]; omega
    clear hxy hx hy dx dy
    generalize latDig xs ys = ss at *
    go_enter Try.func20, Try.ntmps20
    go_wp2_with fail
    refine (specLatticeDigits_any _ _ _ _ HA.out la _ _ _ HB.out lb ss true E.out).mono ?_
    rintro e w1 ⟨a1, c1, rfl, o1, b1⟩
    have O1 := Lib.hid o1
    have B1 := Lib.hid b1
    clear o1 b1
    go_wp2_with fail
    refine (l3Value_any _ _ _ _ O1.out.row hl12 D.out).mono ?_
    rintro e w' ⟨rfl, rfl⟩
    go_wp2_with fail
    go_ret
    exact ⟨by rw [T.out]; rfl, B1.out⟩

theorem implLatticeTimes_any (w : World) (a : Option Addr) (ca : Nat) (xs : List Int) (ha : Row .i64 w a xs) (la : xs.length ≤ 2000000) (b : Option Addr) (cb : Nat) (ys : List Int) (hb : Row .i64 w b ys) (lb : ys.length ≤ 2000000) :
    Calls Try.prog 21 #[.slice a xs.length ca, .slice b ys.length cb] w fun e w' => e = .returned (.int .i64 (latTimes xs ys)) ∧ Below w.heap.size w w' := by
  have HA := Lib.hid ha
  have HB := Lib.hid hb
  clear ha hb
  cases hxy : isNum xs && isNum ys
  · have E := Lib.hid (latDigits_no hxy)
    have T := Lib.hid (latTimes_no hxy)
    clear hxy
    go_enter Try.func21, Try.ntmps21
    go_wp2_with fail
    refine (implLatticeDigits_any _ _ _ _ HA.out la _ _ _ HB.out lb [] false E.out).mono ?_
    rintro e w1 ⟨a1, c1, rfl, o1, b1⟩
    have B1 := Lib.hid b1
    clear o1 b1
    go_wp2_with fail
    go_ret
    exact ⟨by rw [T.out]; rfl, B1.out⟩
  · obtain ⟨hx, hy⟩ := both_true hxy
    obtain ⟨dx, x1, x6⟩ := isNum_parts hx
    obtain ⟨dy, y1, y6⟩ := isNum_parts hy
    have E := Lib.hid (latDigits_yes hx hy)
    have T := Lib.hid (latTimes_yes hx hy)
    have D := Lib.hid (show digs (latDig xs ys) = true from car_digs _ _)
    have hl12 : (latDig xs ys).length ≤ 12 := by rw [latDig_len]; omega
    clear hxy hx hy dx dy
    generalize latDig xs ys = ss at *
    go_enter Try.func21, Try.ntmps21
    go_wp2_with fail
    refine (implLatticeDigits_any _ _ _ _ HA.out la _ _ _ HB.out lb ss true E.out).mono ?_
    rintro e w1 ⟨a1, c1, rfl, o1, b1⟩
    have O1 := Lib.hid o1.row
    have B1 := Lib.hid b1
    clear o1 b1
    go_wp2_with fail
    go_loop [7, 20] (fun v i => ∃ k : Nat, k ≤ ss.length ∧ i = .int .i64 k ∧ v = .int .i64 (val (ss.take k))) (fun _ i => ss.length - (intOf i).toNat)
    case atStart => exact ⟨0, Nat.zero_le _, rfl, rfl⟩
    case round =>
      obtain ⟨k, hk, rfl, rfl⟩ := hrel
      have hv := val_take_bd12 D.out hl12 k
      by_cases hlt : k < ss.length
      · have hn := digs_nth D.out hlt
        obtain ⟨b, off, rfl, _, hc⟩ := O1.out.at_ hlt
        have e := Lib.hid (val_take_succ (zs := ss) (k := k) hlt)
        go_wp2_with fail
        go_round
        case rel => exact ⟨k + 1, by omega, by go_num, by rw [e.out]; go_num⟩
        case measure => simp [intOf]; omega
      · have e := Lib.hid (show val (ss.take k) = val ss by rw [List.take_of_length_le (by omega)])
        go_wp2_with fail
        go_ret
        exact ⟨by rw [T.out, ← e.out]; rfl, B1.out⟩
end Go.Proofs.Ytdnknkbcbnoobaa
