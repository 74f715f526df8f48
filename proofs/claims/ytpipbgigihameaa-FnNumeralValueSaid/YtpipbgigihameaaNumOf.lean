
/-
  Contracts of the two functions that write the numeral of a value. No condition.
-/
import Derived.Test.YtpipbgigihameaaDig
import Derived.Test.YtpipbgigihameaaNumOfP
import Derived.Test.YtpipbgigihameaaOwn
import Derived.Test.YtpipbgigihameaaCommon
namespace Go.Proofs.Ytpipbgigihameaa
open Go.RowKit

theorem numOf_no {v : Int} (h : inB v 0 999999 = false) : numOf v = ([], false) := by unfold numOf; rw [h]; rfl
theorem numOf_yes {n : Nat} (h : n ≤ 999999) : numOf (n : Int) = (decs (dsize n) n, true) := by
  have : inB (n : Int) 0 999999 = true := inB_mk (by omega) (by omega)
  unfold numOf
  rw [this]
  rfl

theorem freshOk_nil (w : World) (b : Bool) : FreshOk w [] b (.returned (.tuple #[.slice none 0 0, .bool b])) w := ⟨none, 0, rfl, Own.nil_ w _, Below.refl _ _⟩
/-- An empty list that is not nil. -/
theorem own_empty (W : World) (lo : Nat) (h : lo ≤ W.heap.size) : Own (W.alloc (.cells #[] 3)) lo (W.heap.size + 1) (.slice (some ⟨W.heap.size, 0, none⟩) 0 0) [] := by
  have h1 : (W.alloc (.cells #[] 3)).ownsRow lo 3 1 (.slice (some ⟨W.heap.size, 0, none⟩) 0 0) 0 [] := World.ownsRow_lit W #[] 0 h (by unfold maxLen; omega) rfl
  have := Own.of (zs := []) h1
  simpa using this

theorem implNumeralOf_no (w : World) (v : Int) (h : inB v 0 999999 = false) :
    Calls Try.prog 16 #[.int .i64 v] w (FreshOk w [] false) := by
  rcases inB_false h with h1 | h1
  · clear h
    go_enter Try.func16, Try.ntmps16
    go_wp2_with fail
    go_ret2
    exact freshOk_nil w false
  · clear h
    go_enter Try.func16, Try.ntmps16
    go_wp2_with fail
    go_ret2
    exact freshOk_nil w false

theorem implNumeralOf_yes (w : World) (n : Nat) (h : n ≤ 999999) :
    Calls Try.prog 16 #[.int .i64 (n : Int)] w (FreshOk w (decs (dsize n) n) true) := by
  obtain ⟨i0, hi, hz0, hz1, hz2⟩ := info_parts int_info
  have hd6 := dsize_le h
  have hd1 := dsize_ge n
  generalize hS : dsize n = S at hd6 hd1 ⊢
  have HS := Lib.hid hS
  clear hS
  go_enter Try.func16, Try.ntmps16
  go_wp2_with fail
  go_loop [4, 5] (fun s m => ∃ i q : Nat, s = .int .i64 i ∧ m = .int .i64 q ∧ i + dcount q = S ∧ 1 ≤ i ∧ q ≤ 99999) (fun _ m => (intOf m).toNat)
  case atStart => exact ⟨1, n / 10, rfl, by go_num, HS.out, by omega, by omega⟩
  case round =>
    obtain ⟨i, q, rfl, rfl, hq, hi1, hq9⟩ := hrel
    by_cases h0 : 0 < q
    · have HQ := Lib.hid hq
      clear hq
      have hle : i ≤ S := by have := HQ.out; omega
      go_wp2_with fail
      go_round
      case rel => exact ⟨i + 1, q / 10, by go_num, by go_num, by have := HQ.out; rw [dcount_pos h0] at this; omega, by omega, by omega⟩
      case measure => (simp [intOf]) <;> omega
    · obtain rfl : q = 0 := by omega
      have e : i = S := by rw [dcount_zero] at hq; omega
      clear hq
      subst e
      go_wp2_with (refine wpList_make_full _ rfl _ _ 22 rfl w.heap.size 3 i0 (.int .i64 0) 1 Try.underlying22 hi hz0 hz1 .i64 .i64 _ _ i rfl rfl rfl rfl (by rw [hz2]; omega) (by unfold maxLen; omega) (Nat.le_refl _) ?_; intro w1 hown hgrow)
      have hb : Below w.heap.size w w1 := (Below.refl _ _).grown hgrow (Nat.le_refl _) (fun k hk => by cases hk)
      have ho : Own w1 w.heap.size w1.heap.size (.slice (some ⟨w.heap.size, 0, none⟩) i i) (List.replicate i 0 ++ []) := by
        rw [made_ints] at hown
        refine Own.of ?_
        simpa using hown
      have HB := Lib.hid hb
      have HO := Lib.hid ho
      clear hb ho hown hgrow
      go_loopw [0, 7] (fun v k wr => ∃ t m : Nat, ∃ out : List Int, v = .int .i64 m ∧ k = .int .i64 ((t : Int) - 1) ∧ t ≤ i ∧ m ≤ 999999 ∧ decs i n = decs t m ++ out ∧ Own wr w.heap.size w1.heap.size (.slice (some ⟨w.heap.size, 0, none⟩) i i) (List.replicate t 0 ++ out) ∧ Below w.heap.size w wr) (fun _ k _ => (intOf k + 1).toNat)
      case atStart => exact ⟨i, n, [], rfl, rfl, Nat.le_refl _, h, by simp, HO.out, HB.out⟩
      case round =>
        obtain ⟨t, m, out, rfl, rfl, ht, hm, he, ho, hb⟩ := hrel
        have HE := Lib.hid he
        clear he
        by_cases h0 : t = 0
        · subst h0
          have e : decs i n = out := by rw [HE.out]; rfl
          have E := Lib.hid e
          have hlen : i = out.length := by rw [← e, decs_len]
          have HL := Lib.hid hlen
          have HO := Lib.hid ho
          have HB := Lib.hid hb
          clear ho hb e hlen
          go_wp2_with fail
          go_ret2
          refine ⟨some ⟨w.heap.size, 0, none⟩, i, ?_, ?_, HB.out⟩
          · rw [E.out, ← HL.out]; rfl
          · rw [E.out, ← HL.out]
            have := HO.out.all
            simpa using this
        · obtain ⟨t, rfl⟩ : ∃ t', t = t' + 1 := ⟨t - 1, by omega⟩
          obtain ⟨g, hg, g0, g1, hcw, hf⟩ := ho.at_ (i := t) (by simp; omega)
          obtain rfl : w.heap.size = g := by injection hg with hg; injection hg
          have HO := Lib.hid ho
          have HB := Lib.hid hb
          clear ho hb hg
          go_wp2_with fail
          go_roundw
          case rel =>
            refine ⟨t, m / 10, ((m % 10 : Nat) : Int) :: out, by go_num, by go_num, by omega, by omega, ?_, ?_, HB.out.setCell (Nat.le_refl _) _⟩
            · rw [HE.out, decs, List.append_assoc, List.singleton_append]
            · have := HO.out.set_ t ((m % 10 : Nat) : Int)
              rw [rep_set] at this
              exact this
          case measure => (simp [intOf]) <;> omega

theorem implNumeralOf_any (w : World) (v : Int) (rs : List Int) (ok : Bool) (hr : numOf v = (rs, ok)) :
    Calls Try.prog 16 #[.int .i64 v] w (FreshOk w rs ok) := by
  cases hb : inB v 0 999999
  · rw [numOf_no hb] at hr
    injection hr with h1 h2
    subst h1 h2
    exact implNumeralOf_no w v hb
  · obtain ⟨h0, h1⟩ := inB_true hb
    obtain ⟨n, rfl⟩ : ∃ n : Nat, v = n := ⟨v.toNat, by omega⟩
    rw [numOf_yes (by omega)] at hr
    injection hr with h1 h2
    subst h1 h2
    exact implNumeralOf_yes w n (by omega)

theorem specNumeralOf_no (w : World) (v : Int) (h : inB v 0 999999 = false) :
    Calls Try.prog 15 #[.int .i64 v] w (FreshOk w [] false) := by
  have H := Lib.hid h
  clear h
  go_enter Try.func15, Try.ntmps15
  go_wp2_with fail
  refine (l6In_any _ _ _ _).mono ?_
  rintro e w' ⟨rfl, rfl⟩
  rw [H.out]
  go_wp2_with fail
  go_ret2
  exact ⟨_, _, rfl, by simpa using own_empty w w.heap.size (Nat.le_refl _), (Below.refl _ _).alloc (Nat.le_refl _) _⟩

/-- How far the digits are written: t digits of m are still to come in front of out. -/
def Wrote (n t m : Nat) (out : List Int) : Prop := decs (dsize n) n = decs t m ++ out ∧ m ≤ 999999 ∧ (out = [] ∧ t = dsize n ∧ m = n ∨ 0 < out.length ∧ t = dcount m)
theorem Wrote.start {n : Nat} (h : n ≤ 999999) : Wrote n (dsize n) n [] := ⟨by simp, h, .inl ⟨rfl, rfl, rfl⟩⟩
theorem Wrote.next {n t m : Nat} {out : List Int} (h : Wrote n t m out) (hc : 0 < m ∨ out.length = 0) : Wrote n (dcount (m / 10)) (m / 10) (((m % 10 : Nat) : Int) :: out) := by
  obtain ⟨h1, h2, h3⟩ := h
  have ht : t = dcount (m / 10) + 1 := by
    rcases h3 with ⟨_, rfl, rfl⟩ | ⟨h4, rfl⟩
    · unfold dsize; omega
    · exact dcount_pos (by omega)
  refine ⟨?_, by omega, .inr ⟨by simp, rfl⟩⟩
  rw [h1, ht, decs, List.append_assoc]
  rfl
theorem Wrote.done {n t m : Nat} {out : List Int} (h : Wrote n t m out) (h0 : m = 0) (h1 : 0 < out.length) : decs (dsize n) n = out := by
  obtain ⟨e, _, h3⟩ := h
  rcases h3 with ⟨rfl, _⟩ | ⟨_, rfl⟩
  · simp at h1
  · rw [e, h0, dcount_zero]; rfl
theorem Wrote.len {n t m : Nat} {out : List Int} (h : Wrote n t m out) (hn : n ≤ 999999) : out.length ≤ 6 := by
  have := congrArg List.length h.1
  rw [List.length_append, decs_len, decs_len] at this
  have := dsize_le hn
  omega
theorem Wrote.le {n t m : Nat} {out : List Int} (h : Wrote n t m out) : m ≤ 999999 := h.2.1

theorem specNumeralOf_yes (w : World) (n : Nat) (h : n ≤ 999999) :
    Calls Try.prog 15 #[.int .i64 (n : Int)] w (FreshOk w (decs (dsize n) n) true) := by
  have HI := Lib.hid (show inB (n : Int) 0 999999 = true from inB_mk (by omega) (by omega))
  go_enter Try.func15, Try.ntmps15
  go_wp2_with fail
  refine (l6In_any _ _ _ _).mono ?_
  rintro e w' ⟨rfl, rfl⟩
  rw [HI.out]
  go_wp2_with fail
  go_loopw [0, 4] (fun v s wr => ∃ t m g c : Nat, ∃ out : List Int, v = .int .i64 m ∧ s = .slice (some ⟨g, 0, none⟩) out.length c ∧ Wrote n t m out ∧ Own wr w.heap.size wr.heap.size (.slice (some ⟨g, 0, none⟩) out.length c) out ∧ Below w.heap.size w wr) (fun v s _ => 2 * (intOf v).toNat + (match s with | .slice _ 0 _ => 1 | _ => 0))
  case atStart => exact ⟨dsize n, n, w.heap.size, 0, [], rfl, rfl, Wrote.start h, by simpa using own_empty w w.heap.size (Nat.le_refl _), (Below.refl _ _).alloc (Nat.le_refl _) _⟩
  case round =>
    obtain ⟨t, m, g, c, out, rfl, rfl, hw, ho, hb⟩ := hrel
    have hl := hw.len h
    have hm := hw.le
    have hs := hb.size
    have HW := Lib.hid hw
    have HB := Lib.hid hb
    clear hw hb
    by_cases hm0 : 0 < m
    · have W1 := Lib.hid (HW.out.next (.inl hm0))
      go_wp2_with (at_builtin; refine wpList_prepend rfl _ _ rfl wr w.heap.size wr.heap.size ((m : Int) % 10) out g c rfl rfl ho hs (by omega) ?_; intro g' c' w2 ho2 hb2)
      have HO2 := Lib.hid ho2
      have HB2 := Lib.hid (HB.out.trans (hb2.mono hs))
      clear ho ho2 hb2
      go_wp2_with fail
      go_roundw
      case rel => exact ⟨dcount (m / 10), m / 10, g', c', ((m % 10 : Nat) : Int) :: out, by go_num, rfl, W1.out, HO2.out, HB2.out⟩
      case measure => simp [intOf]; split <;> omega
    · obtain rfl : m = 0 := by omega
      by_cases hl0 : out.length = 0
      · obtain rfl : out = [] := List.eq_nil_of_length_eq_zero hl0
        have W1 := Lib.hid (HW.out.next (.inr rfl))
        go_wp2_with (at_builtin; refine wpList_prepend rfl _ _ rfl wr w.heap.size wr.heap.size 0 [] g c rfl rfl ho hs (by simp) ?_; intro g' c' w2 ho2 hb2)
        have HO2 := Lib.hid ho2
        have HB2 := Lib.hid (HB.out.trans (hb2.mono hs))
        clear ho ho2 hb2
        go_wp2_with fail
        go_roundw
        case rel => exact ⟨dcount (0 / 10), 0 / 10, g', c', ((0 % 10 : Nat) : Int) :: [], rfl, rfl, W1.out, HO2.out, HB2.out⟩
        case measure => simp [intOf]
      · have hl1 : 0 < out.length := by omega
        have hl2 : ((out.length : Int) == 0) = false := beq_eq_false_iff_ne.2 (by omega)
        have E := Lib.hid (HW.out.done rfl hl1)
        have HO := Lib.hid ho
        clear ho
        go_wp2_with fail
        go_ret2
        refine ⟨some ⟨g, 0, none⟩, c, ?_, ?_, HB.out⟩
        · rw [E.out]; rfl
        · rw [E.out]; exact HO.out

theorem specNumeralOf_any (w : World) (v : Int) (rs : List Int) (ok : Bool) (hr : numOf v = (rs, ok)) :
    Calls Try.prog 15 #[.int .i64 v] w (FreshOk w rs ok) := by
  cases hb : inB v 0 999999
  · rw [numOf_no hb] at hr
    injection hr with h1 h2
    subst h1 h2
    exact specNumeralOf_no w v hb
  · obtain ⟨h0, h1⟩ := inB_true hb
    obtain ⟨n, rfl⟩ : ∃ n : Nat, v = n := ⟨v.toNat, by omega⟩
    rw [numOf_yes (by omega)] at hr
    injection hr with h1 h2
    subst h1 h2
    exact specNumeralOf_yes w n (by omega)
end Go.Proofs.Ytpipbgigihameaa
