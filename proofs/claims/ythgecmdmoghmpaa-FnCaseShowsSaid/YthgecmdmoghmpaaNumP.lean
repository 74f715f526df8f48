
/-
  Plain arithmetic of numerals: lists of digits, their value, their text. No program text is walked here.
-/
import Derived.Test.YthgecmdmoghmpaaBase
import Derived.Laws.BytesArg
namespace Go.Proofs.Ythgecmdmoghmpaa
open Go.RowKit

/-- All numbers are digits. -/
def digs (zs : List Int) : Bool := zs.all fun d => inB d 0 9
/-- The list is a numeral. -/
def isNum (zs : List Int) : Bool := digs zs && inB zs.length 1 6
/-- The value of digits, the greatest place first. -/
def val (zs : List Int) : Int := zs.foldl (fun n d => 10 * n + d) 0
def numVal (zs : List Int) : Int := if isNum zs then val zs else -1
/-- The text of digits. -/
def dtext (zs : List Int) : ByteArray := strOfNums (zs.map (48 + ·))
def numText (zs : List Int) : ByteArray := if isNum zs then dtext zs else ⟨#[]⟩

theorem digs_mem {zs : List Int} (h : digs zs = true) : ∀ d ∈ zs, 0 ≤ d ∧ d ≤ 9 := by
  intro d hd
  have := List.all_eq_true.1 h d hd
  simpa [inB] using this
theorem digs_of {zs : List Int} (h : ∀ d ∈ zs, 0 ≤ d ∧ d ≤ 9) : digs zs = true := by
  refine List.all_eq_true.2 fun d hd => ?_
  simpa [inB] using h d hd
theorem digs_nth {zs : List Int} (h : digs zs = true) {i : Nat} (hi : i < zs.length) : 0 ≤ nth zs i ∧ nth zs i ≤ 9 := digs_mem h _ (nth_mem zs i hi)
theorem digs_nil : digs [] = true := rfl
theorem digs_take_succ {zs : List Int} {k : Nat} (hk : k < zs.length) : digs (zs.take (k + 1)) = (digs (zs.take k) && inB (nth zs k) 0 9) := by
  rw [take_snoc zs k hk]
  simp [digs]
theorem digs_false_at {zs : List Int} {k : Nat} (hk : k < zs.length) (h : inB (nth zs k) 0 9 = false) : digs zs = false := by
  cases hd : digs zs
  · rfl
  · have h1 := digs_nth hd hk
    have : inB (nth zs k) 0 9 = true := by simpa [inB] using h1
    rw [h] at this
    cases this
theorem isNum_parts {zs : List Int} (h : isNum zs = true) : digs zs = true ∧ 1 ≤ zs.length ∧ zs.length ≤ 6 := by
  simp [isNum, inB] at h
  exact ⟨h.1, by omega, by omega⟩
theorem isNum_of {zs : List Int} (h : digs zs = true) (h1 : 1 ≤ zs.length) (h2 : zs.length ≤ 6) : isNum zs = true := by
  simp [isNum, inB, h]
  omega
theorem isNum_short {zs : List Int} (h : zs.length < 1) : isNum zs = false := by simp [isNum, inB]; omega
theorem isNum_long {zs : List Int} (h : 6 < zs.length) : isNum zs = false := by simp [isNum, inB]; omega
theorem isNum_not {zs : List Int} (h : digs zs = false) : isNum zs = false := by simp [isNum, h]
theorem numVal_yes {zs : List Int} (h : isNum zs = true) : numVal zs = val zs := by simp [numVal, h]
theorem numVal_no {zs : List Int} (h : isNum zs = false) : numVal zs = -1 := by simp [numVal, h]

theorem val_snoc (zs : List Int) (d : Int) : val (zs ++ [d]) = 10 * val zs + d := by simp [val]
theorem val_take_succ {zs : List Int} {k : Nat} (hk : k < zs.length) : val (zs.take (k + 1)) = 10 * val (zs.take k) + nth zs k := by
  rw [take_snoc zs k hk, val_snoc]
theorem val_bd : ∀ (n : Nat) (zs : List Int), zs.length = n → digs zs = true → 0 ≤ val zs ∧ val zs < 10 ^ n := by
  intro n
  induction n with
  | zero =>
    intro zs hl _
    obtain rfl := List.eq_nil_of_length_eq_zero hl
    simp [val]
  | succ n ih =>
    intro zs hl hd
    have hk : n < zs.length := by omega
    have e : zs = zs.take n ++ [nth zs n] := by rw [← take_snoc zs n hk, List.take_of_length_le (by omega)]
    have h1 : digs (zs.take n) = true := digs_of fun d hd' => digs_mem hd d (List.mem_of_mem_take hd')
    have h2 := ih (zs.take n) (by rw [List.length_take]; omega) h1
    have h3 := digs_nth hd hk
    rw [e, val_snoc, Int.pow_succ]
    omega
theorem pow_le6 {k : Nat} (h : k ≤ 6) : (10 : Int) ^ k ≤ 1000000 := by
  rcases k with _ | _ | _ | _ | _ | _ | _ | k
  all_goals first | decide | omega
theorem val_bd6 {zs : List Int} (hd : digs zs = true) (hl : zs.length ≤ 6) : 0 ≤ val zs ∧ val zs ≤ 999999 := by
  have h := val_bd zs.length zs rfl hd
  have := pow_le6 hl
  omega
theorem digs_take {zs : List Int} (h : digs zs = true) (k : Nat) : digs (zs.take k) = true := digs_of fun d hd => digs_mem h d (List.mem_of_mem_take hd)
theorem val_take_bd {zs : List Int} (hd : digs zs = true) (hl : zs.length ≤ 6) (k : Nat) : 0 ≤ val (zs.take k) ∧ val (zs.take k) ≤ 999999 :=
  val_bd6 (digs_take hd k) (Nat.le_trans (List.length_take_le' _ _) hl)

theorem pow_le12 {k : Nat} (h : k ≤ 12) : (10 : Int) ^ k ≤ 1000000000000 := by
  rcases k with _ | _ | _ | _ | _ | _ | _ | _ | _ | _ | _ | _ | _ | k
  all_goals first | decide | omega
theorem val_bd12 {zs : List Int} (hd : digs zs = true) (hl : zs.length ≤ 12) : 0 ≤ val zs ∧ val zs ≤ 999999999999 := by
  have h := val_bd zs.length zs rfl hd
  have := pow_le12 hl
  omega
theorem val_take_bd12 {zs : List Int} (hd : digs zs = true) (hl : zs.length ≤ 12) (k : Nat) : 0 ≤ val (zs.take k) ∧ val (zs.take k) ≤ 999999999999 :=
  val_bd12 (digs_take hd k) (Nat.le_trans (List.length_take_le' _ _) hl)

theorem dtext_size (zs : List Int) : (dtext zs).size = zs.length := by rw [dtext, strOfNums_size, List.length_map]
theorem dtext_at {zs : List Int} (hd : digs zs = true) {s : ByteArray} (hs : s = dtext zs) {i : Nat} (hi : i < zs.length) (h : i < s.size) : ((s[i]'h).toNat : Int) = 48 + nth zs i := by
  subst hs
  have h1 := digs_nth hd hi
  have : (dtext zs)[i] = UInt8.ofNat (48 + nth zs i).toNat := by
    show (dtext zs).data[i] = _
    simp [dtext, strOfNums, nth, hi]
  rw [this]
  simp
  omega
end Go.Proofs.Ythgecmdmoghmpaa
