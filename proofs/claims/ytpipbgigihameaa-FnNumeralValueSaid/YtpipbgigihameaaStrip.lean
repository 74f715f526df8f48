
/-
  Contracts of the two functions that multiply a numeral by a digit with carry strips. Condition: lists of at most 2^20 numbers.
-/
import Derived.Test.YtpipbgigihameaaStripP
import Derived.Test.YtpipbgigihameaaNumOf
import Derived.Test.YtpipbgigihameaaNum2
namespace Go.Proofs.Ytpipbgigihameaa
open Go.RowKit

theorem specStripTimes_walk (w : World) (a : Option Addr) (cap : Nat) (zs : List Int) (h : Row .i64 w a zs) (d : Int) (hn : isNum zs = true) (hx : inB d 0 9 = true) :
    Calls Try.prog 25 #[.slice a zs.length cap, .int .i64 d] w (FreshOk w ((stripR d zs).1 :: (stripR d zs).2) true) := by
  have H := Lib.hid h
  obtain ⟨hd, h1, h6⟩ := isNum_parts hn
  obtain ⟨d0, d9⟩ := inB_true hx
  have HN := Lib.hid hn
  have HX := Lib.hid hx
  have HD := Lib.hid hd
  clear h hn hx hd
  go_enter Try.func25, Try.ntmps25
  go_wp2_with fail
  refine (specNumeralValid_any _ _ _ _ H.out (by omega)).mono ?_
  rintro e w' ⟨rfl, rfl⟩
  rw [HN.out]
  go_wp2_with fail
  refine (l3Digit_any _ _).mono ?_
  rintro e w' ⟨rfl, rfl⟩
  rw [HX.out]
  go_wp2_with fail
  go_loopw [6, 7, 8] (fun s cy i wr => ∃ t g c : Nat, ∃ cv : Int, ∃ out : List Int, t ≤ zs.length ∧ i = .int .i64 ((t : Int) - 1) ∧ cy = .int .i64 cv ∧ s = .slice (some ⟨g, 0, none⟩) out.length c ∧ stripR d (zs.drop t) = (cv, out) ∧ out.length + t = zs.length ∧ Own wr w.heap.size wr.heap.size (.slice (some ⟨g, 0, none⟩) out.length c) out ∧ Below w.heap.size w wr) (fun _ _ i _ => (intOf i + 1).toNat)
  case atStart => exact ⟨zs.length, w.heap.size, 0, 0, [], Nat.le_refl _, rfl, rfl, rfl, by simp [stripR], by simp, by simpa using own_empty w w.heap.size (Nat.le_refl _), (Below.refl _ _).alloc (Nat.le_refl _) _⟩
  case round =>
    obtain ⟨t, g, c, cv, out, ht, rfl, rfl, rfl, he, hlen, ho, hb⟩ := hrel
    have hs := hb.size
    have hc := strip_carry d0 d9 (digs_drop HD.out t)
    rw [he] at hc
    have hol : out.length ≤ 6 := by omega
    have HE := Lib.hid he
    have HL := Lib.hid hlen
    clear he hlen
    by_cases h0 : t = 0
    · subst h0
      have HB := Lib.hid hb
      clear hb
      go_wp2_with (at_builtin; refine wpList_prepend rfl _ _ rfl wr w.heap.size wr.heap.size cv out g c rfl rfl ho hs (by omega) ?_; intro g' c' w2 ho2 hb2)
      have HO2 := Lib.hid ho2
      have HB2 := Lib.hid (HB.out.trans (hb2.mono hs))
      clear ho ho2 hb2
      go_wp2_with fail
      go_ret2
      have e : stripR d zs = (cv, out) := by have := HE.out; simpa using this
      refine ⟨some ⟨g', 0, none⟩, c', ?_, ?_, HB2.out⟩
      · rw [e]; rfl
      · rw [e]; exact HO2.out
    · obtain ⟨t, rfl⟩ : ∃ t', t = t' + 1 := ⟨t - 1, by omega⟩
      have hlt : t < zs.length := by omega
      have hy := digs_nth HD.out hlt
      have hp := mul_digits hy.1 hy.2 d0 d9
      have I1 := Lib.hid (inB_mk hy.1 hy.2)
      have I2 := Lib.hid (inB_mk hc.1 hc.2)
      obtain ⟨b, off, rfl, _, hcell⟩ := (H.out.below hb).at_ hlt
      have N1 := Lib.hid (stripR_at d hlt HE.out)
      have HB := Lib.hid hb
      clear hb
      go_wp2_with fail
      refine (specStripStep_any _ _ _ _).mono ?_
      rintro e w' ⟨rfl, rfl⟩
      rw [stripStep_of I1.out HX.out I2.out]
      unfold tri
      go_wp2_with (at_builtin; refine wpList_prepend rfl _ _ rfl wr w.heap.size wr.heap.size ((nth zs t * d + cv) % 10) out g c rfl rfl ho hs (by omega) ?_; intro g' c' w2 ho2 hb2)
      have HO2 := Lib.hid ho2
      have HB2 := Lib.hid (HB.out.trans (hb2.mono hs))
      clear ho ho2 hb2
      go_wp2_with fail
      go_roundw
      case rel => exact ⟨t, g', c', _, (nth zs t * d + cv) % 10 :: out, by omega, by go_num, rfl, rfl, N1.out, by have := HL.out; simp; omega, HO2.out, HB2.out⟩
      case measure => (simp [intOf]) <;> omega

theorem specStripTimes_no1 (w : World) (a : Option Addr) (cap : Nat) (zs : List Int) (h : Row .i64 w a zs) (hl : zs.length ≤ 2000000) (d : Int) (hn : isNum zs = false) :
    Calls Try.prog 25 #[.slice a zs.length cap, .int .i64 d] w (FreshOk w [] false) := by
  have H := Lib.hid h
  have HN := Lib.hid hn
  clear h hn
  go_enter Try.func25, Try.ntmps25
  go_wp2_with fail
  refine (specNumeralValid_any _ _ _ _ H.out hl).mono ?_
  rintro e w' ⟨rfl, rfl⟩
  rw [HN.out]
  go_wp2_with fail
  go_ret2
  exact ⟨_, _, rfl, by simpa using own_empty w w.heap.size (Nat.le_refl _), (Below.refl _ _).alloc (Nat.le_refl _) _⟩
theorem specStripTimes_no2 (w : World) (a : Option Addr) (cap : Nat) (zs : List Int) (h : Row .i64 w a zs) (hl : zs.length ≤ 2000000) (d : Int) (hn : isNum zs = true) (hx : inB d 0 9 = false) :
    Calls Try.prog 25 #[.slice a zs.length cap, .int .i64 d] w (FreshOk w [] false) := by
  have H := Lib.hid h
  have HN := Lib.hid hn
  have HX := Lib.hid hx
  clear h hn hx
  go_enter Try.func25, Try.ntmps25
  go_wp2_with fail
  refine (specNumeralValid_any _ _ _ _ H.out hl).mono ?_
  rintro e w' ⟨rfl, rfl⟩
  rw [HN.out]
  go_wp2_with fail
  refine (l3Digit_any _ _).mono ?_
  rintro e w' ⟨rfl, rfl⟩
  rw [HX.out]
  go_wp2_with fail
  go_ret2
  exact ⟨_, _, rfl, by simpa using own_empty w w.heap.size (Nat.le_refl _), (Below.refl _ _).alloc (Nat.le_refl _) _⟩

theorem specStripTimes_any (w : World) (a : Option Addr) (cap : Nat) (zs : List Int) (h : Row .i64 w a zs) (hl : zs.length ≤ 2000000) (d : Int) (rs : List Int) (ok : Bool) (hr : stripTimes zs d = (rs, ok)) :
    Calls Try.prog 25 #[.slice a zs.length cap, .int .i64 d] w (FreshOk w rs ok) := by
  cases hn : isNum zs
  · rw [stripTimes_no1 hn] at hr
    injection hr with h1 h2
    subst h1 h2
    exact specStripTimes_no1 w a cap zs h hl d hn
  · cases hx : inB d 0 9
    · rw [stripTimes_no2 hx] at hr
      injection hr with h1 h2
      subst h1 h2
      exact specStripTimes_no2 w a cap zs h hl d hn hx
    · rw [stripTimes_yes hn hx] at hr
      injection hr with h1 h2
      subst h1 h2
      exact specStripTimes_walk w a cap zs h d hn hx

theorem implStripTimes_no1 (w : World) (a : Option Addr) (cap : Nat) (zs : List Int) (h : Row .i64 w a zs) (hl : zs.length ≤ 2000000) (d : Int) (hn : isNum zs = false) :
    Calls Try.prog 26 #[.slice a zs.length cap, .int .i64 d] w (FreshOk w [] false) := by
  have H := Lib.hid h
  have HN := Lib.hid hn
  clear h hn
  go_enter Try.func26, Try.ntmps26
  go_wp2_with fail
  refine (digitsOf_any _ _ _ _ H.out hl).mono ?_
  rintro e w1 ⟨rfl, hb⟩
  have HB := Lib.hid hb
  clear hb
  rw [HN.out]
  go_wp2_with fail
  go_ret2
  exact ⟨none, 0, rfl, Own.nil_ _ _, HB.out⟩
theorem implStripTimes_no2 (w : World) (a : Option Addr) (cap : Nat) (zs : List Int) (h : Row .i64 w a zs) (hl : zs.length ≤ 2000000) (d : Int) (hn : isNum zs = true) (hx : inB d 0 9 = false) :
    Calls Try.prog 26 #[.slice a zs.length cap, .int .i64 d] w (FreshOk w [] false) := by
  have H := Lib.hid h
  have HN := Lib.hid hn
  have HX := Lib.hid hx
  clear h hn hx
  go_enter Try.func26, Try.ntmps26
  go_wp2_with fail
  refine (digitsOf_any _ _ _ _ H.out hl).mono ?_
  rintro e w1 ⟨rfl, hb⟩
  have HB := Lib.hid hb
  clear hb
  rw [HN.out]
  go_wp2_with fail
  refine (isDigit_any _ _).mono ?_
  rintro e w' ⟨rfl, rfl⟩
  rw [HX.out]
  go_wp2_with fail
  go_ret2
  exact ⟨none, 0, rfl, Own.nil_ _ _, HB.out⟩

theorem implStripTimes_walk (w : World) (a : Option Addr) (cap : Nat) (zs : List Int) (h : Row .i64 w a zs) (d : Int) (hn : isNum zs = true) (hx : inB d 0 9 = true) :
    Calls Try.prog 26 #[.slice a zs.length cap, .int .i64 d] w (FreshOk w ((stripR d zs).1 :: (stripR d zs).2) true) := by
  obtain ⟨i0, hi, hz0, hz1, hz2⟩ := info_parts int_info
  have H := Lib.hid h
  obtain ⟨hd, h1, h6⟩ := isNum_parts hn
  obtain ⟨d0, d9⟩ := inB_true hx
  obtain ⟨s, hs⟩ : ∃ s, s = numText zs := ⟨_, rfl⟩
  have hsd : s = dtext zs := by rw [hs, numText, hn]; rfl
  have hsz : s.size = zs.length := by rw [hsd, dtext_size]
  have hz1' : s.size ≤ zs.length := by omega
  have hz2' : zs.length ≤ s.size := by omega
  have HS := Lib.hid hs
  have HT := Lib.hid hsd
  have HZ := Lib.hid hsz
  have HN := Lib.hid hn
  have HX := Lib.hid hx
  have HD := Lib.hid hd
  clear h hn hx hd hs hsd hsz
  go_enter Try.func26, Try.ntmps26
  go_wp2_with fail
  refine (digitsOf_any _ _ _ _ H.out (by omega)).mono ?_
  rintro e w1 ⟨rfl, hb⟩
  have hb1 := hb.size
  have HB := Lib.hid hb
  clear hb
  rw [HN.out, ← HS.out]
  go_wp2_with fail
  refine (isDigit_any _ _).mono ?_
  rintro e w' ⟨rfl, rfl⟩
  rw [HX.out]
  go_wp2_with (refine wpList_make_full _ rfl _ _ 22 rfl w.heap.size 3 i0 (.int .i64 0) 1 Try.underlying22 hi hz0 hz1 .i64 .i64 _ _ (s.size + 1) rfl rfl (by go_num) (by go_num) (by rw [hz2]; omega) (by unfold maxLen; omega) hb1 ?_; intro w2 hown hgrow)
  have hb2 : Below w.heap.size w w2 := HB.out.grown hgrow hb1 (fun k hk => by cases hk)
  have ho : Own w2 w.heap.size w2.heap.size (.slice (some ⟨w1.heap.size, 0, none⟩) (s.size + 1) (s.size + 1)) (List.replicate (zs.length + 1) 0 ++ []) := by
    rw [made_ints] at hown
    refine Own.of ?_
    rw [← HZ.out]
    simpa using hown
  have HB2 := Lib.hid hb2
  have HO2 := Lib.hid ho
  clear hb2 ho hown hgrow
  go_loopw [9, 10] (fun cy i wr => ∃ t : Nat, ∃ cv : Int, ∃ out : List Int, t ≤ zs.length ∧ i = .int .i64 ((t : Int) - 1) ∧ cy = .int .i64 cv ∧ stripR d (zs.drop t) = (cv, out) ∧ out.length + t = zs.length ∧ Own wr w.heap.size w2.heap.size (.slice (some ⟨w1.heap.size, 0, none⟩) (s.size + 1) (s.size + 1)) (List.replicate (t + 1) 0 ++ out) ∧ Below w.heap.size w wr) (fun _ i _ => (intOf i + 1).toNat)
  case atStart => exact ⟨zs.length, 0, [], Nat.le_refl _, by rw [← HZ.out], rfl, by simp [stripR], by simp, HO2.out, HB2.out⟩
  case round =>
    obtain ⟨t, cv, out, ht, rfl, rfl, he, hlen, ho, hb⟩ := hrel
    have hc := strip_carry d0 d9 (digs_drop HD.out t)
    rw [he] at hc
    have hol : out.length ≤ 6 := by omega
    have HE := Lib.hid he
    have HL := Lib.hid hlen
    clear he hlen
    by_cases h0 : t = 0
    · subst h0
      obtain ⟨g, hg, g0, g1, hcw, hf⟩ := ho.at_ (i := 0) (by simp)
      obtain rfl : w1.heap.size = g := by injection hg with hg; injection hg
      have HO := Lib.hid ho
      have HB3 := Lib.hid hb
      clear ho hb hg
      go_wp2_with fail
      go_ret2
      have e : stripR d zs = (cv, out) := by have := HE.out; simpa using this
      have hl : s.size + 1 = (cv :: out).length := by have := HL.out; have := HZ.out; simp; omega
      refine ⟨some ⟨w1.heap.size, 0, none⟩, s.size + 1, ?_, ?_, HB3.out.setCell hb1 _⟩
      · rw [e, ← hl]; rfl
      · rw [e, ← hl]
        have := (HO.out.set_ 0 cv).all
        simpa using this
    · obtain ⟨t, rfl⟩ : ∃ t', t = t' + 1 := ⟨t - 1, by omega⟩
      have hlt : t < zs.length := by omega
      have hy := digs_nth HD.out hlt
      have hp := mul_digits hy.1 hy.2 d0 d9
      have I1 := Lib.hid (inB_mk hy.1 hy.2)
      have I2 := Lib.hid (inB_mk hc.1 hc.2)
      have N1 := Lib.hid (stripR_at d hlt HE.out)
      obtain ⟨g, hg, g0, g1, hcw, hf⟩ := ho.at_ (i := t + 1) (by simp; omega)
      obtain rfl : w1.heap.size = g := by injection hg with hg; injection hg
      have HO := Lib.hid ho
      have HB3 := Lib.hid hb
      clear ho hb hg
      go_wp2_with fail
      refine (digitAt_num zs HD.out (by omega) s HT.out t hlt _).mono ?_
      rintro e w' ⟨rfl, rfl⟩
      go_wp2_with fail
      refine (implStripStep_any _ _ _ _).mono ?_
      rintro e w' ⟨rfl, rfl⟩
      rw [stripStep_of I1.out HX.out I2.out]
      unfold tri
      go_wp2_with fail
      go_roundw
      case rel =>
        refine ⟨t, _, (nth zs t * d + cv) % 10 :: out, by omega, by go_num, rfl, N1.out, by have := HL.out; simp; omega, ?_, HB3.out.setCell hb1 _⟩
        have := HO.out.set_ (t + 1) ((nth zs t * d + cv) % 10)
        rw [rep_set] at this
        exact this
      case measure => (simp [intOf]) <;> omega

theorem implStripTimes_any (w : World) (a : Option Addr) (cap : Nat) (zs : List Int) (h : Row .i64 w a zs) (hl : zs.length ≤ 2000000) (d : Int) (rs : List Int) (ok : Bool) (hr : stripTimes zs d = (rs, ok)) :
    Calls Try.prog 26 #[.slice a zs.length cap, .int .i64 d] w (FreshOk w rs ok) := by
  cases hn : isNum zs
  · rw [stripTimes_no1 hn] at hr
    injection hr with h1 h2
    subst h1 h2
    exact implStripTimes_no1 w a cap zs h hl d hn
  · cases hx : inB d 0 9
    · rw [stripTimes_no2 hx] at hr
      injection hr with h1 h2
      subst h1 h2
      exact implStripTimes_no2 w a cap zs h hl d hn hx
    · rw [stripTimes_yes hn hx] at hr
      injection hr with h1 h2
      subst h1 h2
      exact implStripTimes_walk w a cap zs h d hn hx
end Go.Proofs.Ytpipbgigihameaa
