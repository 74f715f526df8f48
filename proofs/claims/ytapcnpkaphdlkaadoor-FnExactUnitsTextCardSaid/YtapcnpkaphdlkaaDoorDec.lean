
/-
  The contract of the reference's decimals: a number from 0 on, as Go's library writes it. Condition: at most 10^12.
-/
import Derived.Test.YtapcnpkaphdlkaaDoorBase
import Derived.Laws.BytesArg
import Derived.Lib.ItoaNum
import Derived.Deep.RegionWith
import Derived.IntWalk
import Derived.Outline
namespace Go.Proofs.YtapcnpkaphdlkaaDoor
open Go.RowKit

/-- A text. -/
def str (l : List UInt8) : ByteArray := ⟨l.toArray⟩
theorem str_add (a b : List UInt8) : str a ++ str b = str (a ++ b) := by
  apply ByteArray.ext
  simp [str]
theorem one_digit (n : Nat) : strOfNums [48 + (n : Int)] = str [UInt8.ofNat (48 + n)] := by
  have : (48 + (n : Int)).toNat = 48 + n := by omega
  simp [strOfNums, str, this]
theorem run_byte_at (w : World) (g : Nat) (x : Int) (h : w.cell? ⟨g, 0, none⟩ = some (.int .u8 x)) :
    (convert 40 9 (.slice (some ⟨g, 0, none⟩) 1 1)).run Tryd.prog w = .ok (.string (strOfNums [x])) w :=
  run_convert_bytes_arg (P := Tryd.prog) w 40 5 Tryd.underlying40 Tryd.underlying5 g 0 1 1 [x] rfl (fun i hi => by
    have : i = 0 := by omega
    subst this
    exact h) 9 Tryd.underlying9
theorem run_byte_new (w : World) (x : Int) :
    (convert 40 9 (.slice (some ⟨w.heap.size, 0, none⟩) 1 1)).run Tryd.prog (w.alloc (.cells #[.int .u8 x] 5)) = .ok (.string (strOfNums [x])) (w.alloc (.cells #[.int .u8 x] 5)) :=
  run_byte_at _ _ x ((cell_new w _ _ 0).trans rfl)
theorem ret_s {a b : ByteArray} (h : a = b) : Ending.returned (.string a) = .returned (.string b) := by rw [h]

theorem l6Dec_one (n : Nat) (x : Int) (W : World) (hx : x = (n : Int)) (h10 : n < 10) :
    Calls Tryd.prog 12 #[.int .i64 x] W fun e W' => e = .returned (.string (str (Lib.decDigits n))) ∧ Below W.heap.size W W' := by
  subst hx
  have cv := fun (w : World) (x : Int) => run_byte_new w x
  have u1 : IntKind.u8.wrap (48 + (n : Int)) = 48 + (n : Int) := IntWalk.u8_in _ (by omega)
  go_enter Tryd.func12, Tryd.ntmps12
  go_wp2_with fail
  go_ret
  exact ⟨ret_s (by rw [Lib.decDigits_one h10, one_digit]), (Below.refl _ _).alloc (Nat.le_refl _) _⟩
theorem dec_more {n : Nat} (h : ¬ n < 10) : str (Lib.decDigits (n / 10)) ++ strOfNums [48 + ((n % 10 : Nat) : Int)] = str (Lib.decDigits n) := by
  have e : Lib.decDigits n = Lib.decDigits (n / 10) ++ [UInt8.ofNat (48 + n % 10)] := by rw [Lib.decDigits, dif_neg h]
  rw [one_digit, str_add, e]
theorem below_drewD {B : Nat} {a w : World} (h : Below B a w) : Below B a w.drew := ⟨h.os, h.tape, h.output, h.size, h.block⟩
theorem dec_len : ∀ (k n : Nat), n < 10 ^ k → 1 ≤ k → (Lib.decDigits n).length ≤ k
  | 0, n, h, h1 => by omega
  | 1, n, h, _ => by rw [Lib.decDigits_one (by simpa using h)]; simp
  | k + 2, n, h, _ => by
    rw [Lib.decDigits]
    split
    · simp
    · have h2 : n / 10 < 10 ^ (k + 1) := by
        rw [Nat.pow_succ] at h
        omega
      have := dec_len (k + 1) (n / 10) h2 (by omega)
      simp
      omega

set_option maxHeartbeats 1000000 in
theorem l6Dec_any (k : Nat) : ∀ (n : Nat) (x : Int) (W : World), n ≤ k → x = (n : Int) → n ≤ 1000000000000 →
    Calls Tryd.prog 12 #[.int .i64 x] W fun e W' => e = .returned (.string (str (Lib.decDigits n))) ∧ Below W.heap.size W W' := by
  induction k with
  | zero => exact fun n x W hk hx hn => l6Dec_one n x W hx (by omega)
  | succ k ih =>
    intro n x W hk hx hn
    by_cases h10 : n < 10
    · exact l6Dec_one n x W hx h10
    · subst hx
      have cv := fun (w : World) (x : Int) => run_byte_new w x
      have IH := Lib.hid ih
      have DM := Lib.hid (dec_more h10)
      have em : ((n : Int)).tmod 10 = ((n % 10 : Nat) : Int) := rfl
      have eq : (n : Int) / 10 = ((n / 10 : Nat) : Int) := by omega
      have m9 : n % 10 < 10 := Nat.mod_lt _ (by omega)
      have hd := dec_len 13 (n / 10) (by omega) (by omega)
      have hds : (str (Lib.decDigits (n / 10))).size ≤ 13 := by simpa [str, ByteArray.size] using hd
      have hz1 : ∀ r : Nat, (strOfNums [48 + (r : Int)]).size ≤ 1 := fun r => by rw [strOfNums_size]; simp
      have HZ1 := Lib.hid hz1
      clear ih hd hz1
      rw [← DM.out]
      generalize n % 10 = r at *
      have u0 : IntKind.i64.wrap ((n : Int) / 10) = ((n / 10 : Nat) : Int) := by rw [eq]; exact IntWalk.i64_in _ (by omega)
      have EQ := Lib.hid eq
      clear eq
      have u1 : IntKind.i64.wrap (48 + (r : Int)) = 48 + (r : Int) := IntWalk.i64_in _ (by omega)
      have u2 : IntKind.u8.wrap (48 + (r : Int)) = 48 + (r : Int) := IntWalk.u8_in _ (by omega)
      have AC := Lib.hid (fun (w2 : World) (b2 : Below (W.alloc (.cells #[.int .u8 (48 + (r : Int))] 5)).drew.heap.size (W.alloc (.cells #[.int .u8 (48 + (r : Int))] 5)).drew w2) => run_byte_at w2 W.heap.size (48 + (r : Int)) ((b2.cell (p := ⟨W.heap.size, 0, none⟩) (by show W.heap.size < (W.alloc (.cells #[.int .u8 (48 + (r : Int))] 5)).heap.size; simp)).trans ((cell_new W #[.int .u8 (48 + (r : Int))] 5 0).trans rfl)))
      have hz2 := HZ1.out r
      have cvd : (convert 40 9 (.slice (some ⟨W.heap.size, 0, none⟩) 1 1)).run Tryd.prog (W.alloc (.cells #[.int .u8 (48 + (r : Int))] 5)).drew = .ok (.string (strOfNums [48 + (r : Int)])) (W.alloc (.cells #[.int .u8 (48 + (r : Int))] 5)).drew := run_byte_at _ _ _ ((cell_new W #[.int .u8 (48 + (r : Int))] 5 0).trans rfl)
      go_enter Tryd.func12, Tryd.ntmps12
      go_wp2_with fail
      go_region_with ((go_at_call 12; refine (IH.out (n / 10) _ _ (by omega) (by omega) (by omega)).mono ?_; rintro e w2 ⟨rfl, b2⟩; have s2 := b2.size; (first | (have cv2 := AC.out _ b2) | skip)))
      all_goals
        clear u0 u1 u2 cvd
        (try clear cv2)
        go_wp2_with fail
        go_ret
        first
          | exact ⟨rfl, (below_drewD ((Below.refl W.heap.size W).alloc (Nat.le_refl _) _)).trans (b2.mono (by show W.heap.size ≤ (W.alloc (.cells #[.int .u8 (48 + (r : Int))] 5)).heap.size; simp))⟩
          | exact ⟨rfl, ((below_drewD (Below.refl W.heap.size W)).trans b2).alloc s2 _⟩
end Go.Proofs.YtapcnpkaphdlkaaDoor
