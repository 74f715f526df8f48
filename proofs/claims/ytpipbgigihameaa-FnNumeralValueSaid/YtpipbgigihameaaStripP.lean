
/-
  Plain arithmetic of carry strips. No program text is walked here.
-/
import Derived.Test.YtpipbgigihameaaDig
import Derived.Test.YtpipbgigihameaaNumP
namespace Go.Proofs.Ytpipbgigihameaa
open Go.RowKit

/-- The carry and the digits behind it, from the right to the left. -/
def stripR (d : Int) : List Int → Int × List Int
  | [] => (0, [])
  | x :: xs => ((x * d + (stripR d xs).1) / 10, (x * d + (stripR d xs).1) % 10 :: (stripR d xs).2)
def stripTimes (zs : List Int) (d : Int) : List Int × Bool := if isNum zs && inB d 0 9 then ((stripR d zs).1 :: (stripR d zs).2, true) else ([], false)

theorem stripR_len (d : Int) (zs : List Int) : (stripR d zs).2.length = zs.length := by
  induction zs with
  | nil => rfl
  | cons x xs ih => simp [stripR, ih]
theorem stripTimes_bd (zs : List Int) (d : Int) : (stripTimes zs d).1.length ≤ 1048576 := by
  unfold stripTimes
  split
  · rename_i h
    have := isNum_parts (zs := zs) (by simp at h; exact h.1)
    simp [stripR_len]
    omega
  · simp
theorem stripTimes_yes {zs : List Int} {d : Int} (h : isNum zs = true) (k : inB d 0 9 = true) : stripTimes zs d = ((stripR d zs).1 :: (stripR d zs).2, true) := by simp [stripTimes, h, k]
theorem stripTimes_no1 {zs : List Int} {d : Int} (h : isNum zs = false) : stripTimes zs d = ([], false) := by simp [stripTimes, h]
theorem stripTimes_no2 {zs : List Int} {d : Int} (h : inB d 0 9 = false) : stripTimes zs d = ([], false) := by simp [stripTimes, h]
theorem strip_carry {d : Int} (d0 : 0 ≤ d) (d9 : d ≤ 9) {zs : List Int} (h : digs zs = true) : 0 ≤ (stripR d zs).1 ∧ (stripR d zs).1 ≤ 9 := by
  induction zs with
  | nil => simp [stripR]
  | cons x xs ih =>
    have hx := digs_mem h x (by simp)
    have hr := ih (digs_of fun y hy => digs_mem h y (by simp [hy]))
    have hp := mul_digits hx.1 hx.2 d0 d9
    simp only [stripR]
    omega
theorem digs_drop {zs : List Int} (h : digs zs = true) (k : Nat) : digs (zs.drop k) = true := digs_of fun d hd => digs_mem h d (List.mem_of_mem_drop hd)
theorem drop_cons {zs : List Int} {t : Nat} (h : t < zs.length) : zs.drop t = nth zs t :: zs.drop (t + 1) := by
  rw [List.drop_eq_getElem_cons h, nth_of zs t h]
theorem stripR_at {zs : List Int} {t : Nat} (d : Int) {c : Int} {out : List Int} (h : t < zs.length) (e : stripR d (zs.drop (t + 1)) = (c, out)) :
    stripR d (zs.drop t) = ((nth zs t * d + c) / 10, (nth zs t * d + c) % 10 :: out) := by
  rw [drop_cons h, stripR, e]
theorem stripStep_of {x d c : Int} (h : inB x 0 9 = true) (k : inB d 0 9 = true) (l : inB c 0 9 = true) : stripStep x d c = ((x * d + c) % 10, (x * d + c) / 10, true) := by simp [stripStep, h, k, l]
theorem strip_digits {d : Int} (d0 : 0 ≤ d) (d9 : d ≤ 9) {zs : List Int} (h : digs zs = true) : digs ((stripR d zs).1 :: (stripR d zs).2) = true := by
  have hc := strip_carry d0 d9 h
  refine digs_of fun y hy => ?_
  rcases List.mem_cons.1 hy with rfl | hy
  · exact hc
  · clear hc
    induction zs with
    | nil => simp [stripR] at hy
    | cons x xs ih =>
      rw [stripR] at hy
      rcases List.mem_cons.1 hy with rfl | hy
      · omega
      · exact ih (digs_of fun z hz => digs_mem h z (by simp [hz])) (by simp [hy]) hy
end Go.Proofs.Ytpipbgigihameaa
