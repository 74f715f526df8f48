
/-
  Contracts of the functions that write a board: its numbers from the place 9 on, with bars between. Condition: lists of at most 2^20 numbers.
-/
import Derived.Test.YtapcnpkaphdlkaaDoorBoard
import Derived.Test.YtapcnpkaphdlkaaDoorTextP
import Derived.Test.YtapcnpkaphdlkaaDoorShelf
namespace Go.Proofs.YtapcnpkaphdlkaaDoor
open Go.RowKit

/-- The text of the k-th number from the place 9 on. -/
def fromTop (zs : List Int) (k : Nat) : List UInt8 := dec (nth zs (9 - k))
def boardText (zs : List Int) : ByteArray := if isBoard zs then str (pre (fromTop zs) [124] 10 10) else ⟨#[]⟩
theorem boardText_no {zs : List Int} (h : isBoard zs = false) : boardText zs = ⟨#[]⟩ := by simp [boardText, h]
theorem boardText_yes {zs : List Int} (h : isBoard zs = true) : boardText zs = str (pre (fromTop zs) [124] 10 10) := by simp [boardText, h]
theorem str_size (l : List UInt8) : (str l).size = l.length := by simp [str, ByteArray.size]
theorem top_len {zs : List Int} (h : fitsB zs = true) (k : Nat) : (fromTop zs k).length + [(124 : UInt8)].length ≤ 3 := by
  have h2 : (dec (nth zs (9 - k))).length ≤ 2 := by
    refine dec_len 2 _ ?_ (by omega)
    by_cases hk : 9 - k < zs.length
    · have := fits_nth h hk
      omega
    · have : nth zs (9 - k) = 0 := by simp [nth, List.getD, List.getElem?_eq_none (show zs.length ≤ 9 - k by omega)]
      rw [this]; decide
  show (dec (nth zs (9 - k))).length + 1 ≤ 3
  omega
theorem pre_next (f : Nat → List UInt8) (sep : List UInt8) (n k : Nat) (h : k + 1 < n) : str (pre f sep n k) ++ str (f k) ++ str sep = str (pre f sep n (k + 1)) := by
  rw [str_add, str_add, pre, if_pos h]
theorem pre_last (f : Nat → List UInt8) (sep : List UInt8) (n k : Nat) (h : ¬ k + 1 < n) : str (pre f sep n k) ++ str (f k) = str (pre f sep n (k + 1)) := by
  rw [str_add, pre, if_neg h, List.append_nil]

set_option maxHeartbeats 400000 in
theorem specBoardText_any (w : World) (a : Option Addr) (cap : Nat) (zs : List Int) (h : Row .i64 w a zs) (hl : zs.length ≤ 1048576) :
    Calls Tryd.prog 5 #[.slice a zs.length cap] w fun e w' => e = .returned (.string (boardText zs)) ∧ Below w.heap.size w w' := by
  have H := Lib.hid h
  clear h
  cases hb : isBoard zs
  · have HB := Lib.hid hb
    clear hb
    by_cases h0 : zs.length = 0
    · have H0 := Lib.hid h0
      have c0 : decide ((0 : Int) ≤ (zs.length : Int) - 1) = false := decide_eq_false (by omega)
      have c1 : decide ((1 : Int) ≤ (zs.length : Int)) = false := decide_eq_false (by omega)
      have c2 : decide (1 ≤ zs.length) = false := decide_eq_false (by omega)
      clear h0
      go_enter Tryd.func5, Tryd.ntmps5
      go_wp2_with fail
      refine wp_loop_rounds 1 ?_
      rw [rounds_succ]
      go_wp2_with fail
      go_ret
      exact ⟨ret_s (boardText_no HB.out).symm, Below.refl _ _⟩
    · have c0 : decide ((0 : Int) ≤ (zs.length : Int) - 1) = true := decide_eq_true (by omega)
      have c1 : decide ((1 : Int) ≤ (zs.length : Int)) = true := decide_eq_true (by omega)
      have c2 : decide (1 ≤ zs.length) = true := decide_eq_true (by omega)
      clear h0
      go_enter Tryd.func5, Tryd.ntmps5
      go_wp2_with fail
      refine wp_loop_rounds 1 ?_
      rw [rounds_succ]
      go_wp2_with fail
      refine (specBoardValid_any _ _ _ _ H.out (by omega)).mono ?_
      rintro e w' ⟨rfl, rfl⟩
      rw [HB.out]
      go_wp2_with fail
      go_ret
      exact ⟨ret_s (boardText_no HB.out).symm, Below.refl _ _⟩
  · obtain ⟨hf, h10⟩ := isBoard_parts hb
    have HB := Lib.hid hb
    have HF := Lib.hid hf
    have H10 := Lib.hid h10
    have LEN := Lib.hid (fun k => pre_len (n := 10) (top_len hf) k)
    have TL := Lib.hid (fun k => top_len hf k)
    have hm : (zs.length : Int) - 1 = 9 := by omega
    have HM := Lib.hid hm
    clear hb hf h10 hm
    go_enter Tryd.func5, Tryd.ntmps5
    go_wp2_with fail
    rw [HM.out]
    go_loopw [3, 4] (fun s i wr => ∃ k : Nat, ∃ x : Int, k ≤ 10 ∧ x = 9 - (k : Int) ∧ i = .int .i64 x ∧ s = .string (str (pre (fromTop zs) [124] 10 k)) ∧ Below w.heap.size w wr) (fun _ i _ => (intOf i + 1).toNat)
    case atStart => exact ⟨0, 9, by omega, rfl, rfl, rfl, Below.refl _ _⟩
    case round =>
      obtain ⟨k, x, hk, hx, rfl, rfl, hb⟩ := hrel
      have BB := Lib.hid hb
      have hs : (str (pre (fromTop zs) [124] 10 k)).size ≤ 30 := by rw [str_size]; have := LEN.out k; omega
      clear hb
      by_cases hlt : k < 10
      · obtain ⟨p, rfl⟩ : ∃ p : Nat, x = (p : Int) := ⟨x.toNat, by omega⟩
        have hp : p = 9 - k := by omega
        have HP := Lib.hid hp
        have RB := Lib.hid (H.out.below BB.out)
        obtain ⟨b, off, rfl, _, hc⟩ := RB.out.at_ (i := p) (by have := H10.out; omega)
        have hfit := fits_nth HF.out (i := p) (by have := H10.out; omega)
        obtain ⟨d, hd⟩ : ∃ d : Nat, nth zs p = (d : Int) := ⟨(nth zs p).toNat, by omega⟩
        have hd2 : dec (nth zs p) = Lib.decDigits d := by rw [hd]; rfl
        have FT := Lib.hid (show fromTop zs k = Lib.decDigits d by rw [fromTop, ← HP.out, hd2])
        have hdl : (str (Lib.decDigits d)).size ≤ 30 := by rw [str_size, ← FT.out]; have := TL.out k; simp at this; omega
        rw [hd] at hc hfit
        have p9 : (p : Int) < (zs.length : Int) := by have := H10.out; omega
        have hxx := Lib.hid hx
        clear hp hd hd2 hx
        by_cases hp0 : p = 0
        · subst hp0
          rw [Nat.add_zero] at hc
          go_wp2_with fail
          refine (specBoardValid_any _ _ _ _ RB.out (by omega)).mono ?_
          rintro e w' ⟨rfl, rfl⟩
          rw [HB.out]
          go_wp2_with fail
          refine (l6Dec_any d d _ _ (Nat.le_refl _) rfl (by omega)).mono ?_
          rintro e w2 ⟨rfl, b2⟩
          have B2 := Lib.hid (BB.out.trans (b2.mono BB.out.size))
          clear b2
          go_wp2_with fail
          go_roundw
          case rel => exact ⟨k + 1, -1, by omega, by have := hxx.out; omega, rfl, by rw [← FT.out, pre_last _ _ _ _ (by have := HP.out; omega)], B2.out⟩
          case measure => simp [intOf]
        · have g0 : decide ((0 : Int) < (p : Int)) = true := decide_eq_true (by omega)
          have g1 : decide (0 < p) = true := decide_eq_true (by omega)
          go_wp2_with fail
          refine (specBoardValid_any _ _ _ _ RB.out (by omega)).mono ?_
          rintro e w' ⟨rfl, rfl⟩
          rw [HB.out]
          go_wp2_with fail
          refine (l6Dec_any d d _ _ (Nat.le_refl _) rfl (by omega)).mono ?_
          rintro e w2 ⟨rfl, b2⟩
          have B2 := Lib.hid (BB.out.trans (b2.mono BB.out.size))
          clear b2
          go_wp2_with fail
          go_roundw
          case rel => exact ⟨k + 1, (p : Int) - 1, by omega, by have := hxx.out; omega, rfl, by rw [← FT.out, ← pre_next _ _ _ _ (by have := HP.out; omega)]; rfl, B2.out⟩
          case measure => simp [intOf]
      · obtain rfl : x = -1 := by omega
        have hk10 : k = 10 := by omega
        have HK := Lib.hid hk10
        clear hk10 hx
        go_wp2_with fail
        go_ret
        exact ⟨ret_s (by rw [boardText_yes HB.out, HK.out]), BB.out⟩

def SV (xs : List ByteArray) : List Value := xs.map Value.string
theorem str_info : (Tryd.prog.info? 9).map (fun i => (i.zero, i.size, i.bytes)) = some (some (.string ⟨#[]⟩), 1, 16) := by kernel_rfl
theorem SV_snoc (xs : List ByteArray) (x : ByteArray) : SV xs ++ [.string x] = SV (xs ++ [x]) := by simp [SV]
theorem SV_get (xs : List ByteArray) (i : Nat) (x : ByteArray) (h : xs[i]? = some x) : (SV xs)[i]? = some (.string x) := by simp [SV, h]
/-- The first words of a board. -/
def words (f : Nat → List UInt8) (k : Nat) : List ByteArray := (List.range k).map fun j => str (f j)
theorem words_len (f : Nat → List UInt8) (k : Nat) : (words f k).length = k := by simp [words]
theorem words_succ (f : Nat → List UInt8) (k : Nat) : words f k ++ [str (f k)] = words f (k + 1) := by simp [words, List.range_succ]
theorem words_data (f : Nat → List UInt8) (k : Nat) : (words f k).map (·.data.toList) = (List.range k).map f := by
  simp [words, str, Function.comp_def]

theorem itoa_small_any (d : Nat) (h : d < 100) (w : World) : Calls Tryd.prog 14 #[.int .i64 (d : Int)] w fun e w' => e = .returned (.string (str (Lib.decDigits d))) ∧ w = w' :=
  (Tryd.strconv_Itoa_small d h w).mono fun _ _ ⟨h1, h2⟩ => ⟨h1, h2.symm⟩
theorem join_any (f : Nat → List UInt8) (sep : List UInt8) (n : Nat) (hn : 1 ≤ n) (w : World) (base : Nat) (v : Value) (h : w.ownsRow base 9 1 v n (SV (words f n))) (hl : (pre f sep n n).length ≤ 1000000) (hn2 : n ≤ 1000) :
    ∃ g c, v = .slice (some ⟨g, 0, none⟩) n c ∧ Calls Tryd.prog 15 #[.slice (some ⟨g, 0, none⟩) n c, .string ⟨sep.toArray⟩] w fun e w' => e = .returned (.string (str (pre f sep n n))) ∧ Below w.heap.size w w' := by
  rcases h.2 with ⟨_, h0⟩ | ⟨g, cap, cur, rfl, _, hh, h3, _, _⟩
  · omega
  · refine ⟨g, cap, rfl, ?_⟩
    have hj : Lib.join ((words f n).map (·.data.toList)) (⟨sep.toArray⟩ : ByteArray).data.toList = pre f sep n n := by
      rw [words_data, pre_all f sep n hn]
    have J := Tryd.strings_Join g 0 cap (words f n) ⟨sep.toArray⟩ w (fun j x hx => by
      have hj : j < n := by
        rcases Nat.lt_or_ge j n with h | h
        · exact h
        · rw [List.getElem?_eq_none (by rw [words_len]; exact h)] at hx; cases hx
      rw [Nat.zero_add, h.cellAt j (by omega), SV_get _ _ _ hx]) (Array.getElem?_eq_some_iff.1 hh).1 (by rw [words_len]; omega) (by rw [words_len]; exact h3) (by rw [hj]; omega)
    rw [words_len, hj] at J
    exact J

set_option maxRecDepth 100000 in
set_option maxHeartbeats 400000 in
theorem implBoardText_any (w : World) (a : Option Addr) (cap : Nat) (zs : List Int) (h : Row .i64 w a zs) (hl : zs.length ≤ 1048576) :
    Calls Tryd.prog 7 #[.slice a zs.length cap] w fun e w' => e = .returned (.string (boardText zs)) ∧ Below w.heap.size w w' := by
  have H := Lib.hid h
  clear h
  cases hb : isBoard zs
  · have HB := Lib.hid hb
    clear hb
    go_enter Tryd.func7, Tryd.ntmps7
    go_wp2_with fail
    refine (layOut_any _ _ _ _ H.out (by omega)).mono ?_
    rintro e w1 ⟨rfl, b1⟩
    rw [HB.out]
    have B1 := Lib.hid b1
    clear b1
    go_wp2_with (refine wpList_put_arr rfl _ _ rfl w1 (laid zs) (laid_len zs) rfl rfl ?_; intro w2 a2 b2 s2)
    have B2 := Lib.hid (B1.out.trans (b2.mono B1.out.size))
    clear a2 b2
    go_wp2_with fail
    go_ret
    exact ⟨ret_s (boardText_no HB.out).symm, B2.out⟩
  · obtain ⟨hf, h10⟩ := isBoard_parts hb
    have HB := Lib.hid hb
    have HF := Lib.hid hf
    have H10 := Lib.hid h10
    have HLD := Lib.hid (show laid zs = zs by simp [laid, hb])
    have PL := Lib.hid (pre_len (n := 10) (top_len hf) 10)
    obtain ⟨i0, hi, hz0, hz1, hz2⟩ := info_parts str_info
    clear hb hf h10
    go_enter Tryd.func7, Tryd.ntmps7
    go_wp2_with fail
    refine (layOut_any _ _ _ _ H.out (by omega)).mono ?_
    rintro e w1 ⟨rfl, b1⟩
    rw [HB.out, HLD.out]
    have B1 := Lib.hid b1
    clear b1
    go_wp2_with (first
      | (refine wpList_put_arr rfl _ _ rfl w1 zs H10.out rfl rfl ?_; intro w2 a2 b2 s2; have A2 := Lib.hid a2; have S2 := Lib.hid s2; have B2 := Lib.hid (B1.out.trans (b2.mono B1.out.size)); clear a2 b2)
      | (refine wpList_make_own _ rfl _ _ 32 rfl w2.heap.size 9 i0 (.string ⟨#[]⟩) 1 Tryd.underlying32 hi hz0 hz1 .i64 .i64 _ 10 rfl rfl rfl (by rw [hz2]; omega) (by unfold maxLen; omega) (Nat.le_refl _) ?_; intro w3 hown hgrow))
    have HO := Lib.hid hown
    have B3 := Lib.hid (show Below w2.heap.size w2 w3 from (Below.refl _ _).grown hgrow (Nat.le_refl _) (fun k hk => by cases hk))
    have HI := Lib.hid (And.intro hi (And.intro hz0 (And.intro hz1 hz2)))
    clear hown hgrow hi hz0 hz1 hz2
    go_loopw [5, 6] (fun v i wr => ∃ k p : Nat, ∃ x : Int, p + k = 10 ∧ x = (p : Int) - 1 ∧ i = .int .i64 x ∧ wr.ownsRow w2.heap.size 9 1 v k (SV (words (fromTop zs) k)) ∧ Below w2.heap.size w2 wr) (fun _ i _ => (intOf i + 1).toNat)
    case atStart => exact ⟨0, 10, 9, by omega, rfl, rfl, HO.out, B3.out⟩
    case round =>
      obtain ⟨k, p, x, hkp, hx, rfl, hown, hb⟩ := hrel
      have HB2 := Lib.hid hb
      have hsz := hb.size
      have AR := Lib.hid (A2.out.below hb S2.out)
      clear hb
      by_cases hp0 : p = 0
      · obtain rfl : x = -1 := by omega
        obtain rfl : k = 10 := by omega
        obtain ⟨gw, cw, rfl, J⟩ := join_any (fromTop zs) [124] 10 (by omega) wr _ _ hown (by have := PL.out; omega) (by omega)
        have JJ := Lib.hid J
        clear J hown hkp hx hp0
        go_wp2_with fail
        refine JJ.out.mono ?_
        rintro e w5 ⟨rfl, b5⟩
        have B5 := Lib.hid ((B2.out.trans (HB2.out.mono B2.out.size)).trans (b5.mono (by have := B2.out.size; omega)))
        clear b5
        go_wp2_with fail
        go_ret
        exact ⟨ret_s (boardText_yes HB.out).symm, B5.out⟩
      · obtain ⟨q, rfl⟩ : ∃ q, p = q + 1 := ⟨p - 1, by omega⟩
        obtain rfl : x = (q : Int) := by omega
        have hq9 : q = 9 - k := by omega
        have HQ := Lib.hid hq9
        have hc := AR.out.cell (i := q) (by omega)
        have hfit := fits_nth HF.out (i := q) (by have := H10.out; omega)
        obtain ⟨d, hd⟩ : ∃ d : Nat, nth zs q = (d : Int) := ⟨(nth zs q).toNat, by omega⟩
        have hd2 : dec (nth zs q) = Lib.decDigits d := by rw [hd]; rfl
        have FT := Lib.hid (show fromTop zs k = Lib.decDigits d by rw [fromTop, ← HQ.out, hd2])
        rw [hd] at hc hfit
        have q10 : (q : Int) < 10 := by omega
        have kk : k ≤ 9 := by omega
        have HKP := Lib.hid hkp
        clear hd hd2 hq9 hx hkp hp0
        go_wp2_with fail
        refine (itoa_small_any d (by omega) _).mono ?_
        rintro e w' ⟨rfl, rfl⟩
        go_wp2_with (at_builtin; refine wpList_append_own _ rfl _ _ 32 rfl w2.heap.size 9 i0 (.string ⟨#[]⟩) 1 16 Tryd.underlying32 HI.out.1 HI.out.2.1 HI.out.2.2.1 HI.out.2.2.2 rfl (by decide) _ _ _ rfl (hown.alloc _) ⟨wr.heap.size, 0, none⟩ 1 1 [.string (str (Lib.decDigits d))] rfl rfl (news_one _ _ _) (news_one1 rfl) (by unfold maxLen; omega) (by omega) (by simp; omega) ?_; intro v' w5 hown2 hgrow2 _)
        have B5 := Lib.hid (show Below w2.heap.size w2 w5 from (HB2.out.alloc hsz _).grown hgrow2 (by simp; omega) (fun r hr => (hown.lt r hr).1))
        have HO2 := Lib.hid hown2
        clear hown hown2 hgrow2
        go_wp2_with fail
        go_roundw
        case rel =>
          refine ⟨k + 1, q, (q : Int) - 1, by have := HKP.out; omega, rfl, rfl, ?_, B5.out⟩
          have := HO2.out
          rw [SV_snoc, ← FT.out, words_succ] at this
          exact this
        case measure => simp [intOf]
end Go.Proofs.YtapcnpkaphdlkaaDoor
