
/-
  Contracts of the laws' small helpers on lists of integers: a copy, equality of lists that read alike, marks written into a list of the call's own, and marks that are still held. Condition: lists of at most 2^20 numbers.
-/
import Derived.Test.YtapcnpkaphdlkaaDoorBase
import Derived.Deep.QuietTactic
import Derived.BigQuiet
import Derived.Outline
import Derived.IntWalk
import Derived.Laws.Rows
namespace Go.Proofs.YtapcnpkaphdlkaaDoor
open Go.RowKit

theorem quiet_at {P : Program} {f : FuncId} {args : Array Value} {w : World} {n : Nat} {v : Value}
    (h : Calls P f args (w.drewN n) fun e w' => e = .returned v ∧ w.drewN n = w') : Calls P f args (w.drewN n) fun e w'' => e = .returned v ∧ ∃ m, w'' = w.drewN m :=
  h.mono fun _ _ ⟨he, hm⟩ => ⟨he, n, hm.symm⟩

/-- A list of which the first k numbers are copied. -/
def cop (zs : List Int) (k : Nat) : List Int := zs.take k ++ List.replicate (zs.length - k) 0
theorem cop_len (zs : List Int) (k : Nat) : (cop zs k).length = zs.length := by simp [cop]; omega
theorem cop_zero (zs : List Int) : cop zs 0 = List.replicate zs.length 0 := by simp [cop]
theorem cop_all (zs : List Int) : cop zs zs.length = zs := by simp [cop]
theorem cop_set (zs : List Int) (k : Nat) (hk : k < zs.length) : (cop zs k).set k (nth zs k) = cop zs (k + 1) := by
  have e : List.replicate (zs.length - k) (0 : Int) = 0 :: List.replicate (zs.length - (k + 1)) 0 := by
    rw [show zs.length - k = (zs.length - (k + 1)) + 1 by omega, List.replicate_succ]
  have hl : (zs.take k).length = k := by rw [List.length_take]; omega
  unfold cop
  rw [e, List.set_append_right _ _ (by omega), hl, Nat.sub_self, List.set_cons_zero, take_snoc zs k hk]
  simp

theorem toIntS_any (w : World) (a : Option Addr) (cap : Nat) (zs : List Int) (h : Row .i64 w a zs) (hl : zs.length ≤ 1048576) :
    Calls Tryd.prog 6 #[.slice a zs.length cap] w (Fresh w zs) := by
  obtain ⟨i0, hi, hz0, hz1, hz2⟩ := info_parts int_info
  have HZ2 := Lib.hid hz2
  have H := Lib.hid h
  clear h
  go_enter Tryd.func6, Tryd.ntmps6
  go_wp2_with (refine wpList_make_full _ rfl _ _ 22 rfl w.heap.size 3 i0 (.int .i64 0) 1 Tryd.underlying22 hi hz0 hz1 .i64 .i64 _ _ zs.length rfl rfl rfl rfl (by rw [hz2]; omega) (by unfold maxLen; omega) (Nat.le_refl _) ?_; intro w1 hown hgrow)
  have hb : Below w.heap.size w w1 := (Below.refl _ _).grown hgrow (Nat.le_refl _) (fun k hk => by cases hk)
  have ho : Own w1 w.heap.size w1.heap.size (.slice (some ⟨w.heap.size, 0, none⟩) zs.length zs.length) (cop zs 0) := by
    have e : (madeCells (Value.int .i64 0).cells (zs.length * 1)).toList = IV (cop zs 0) := by rw [made_ints, cop_zero]
    rw [e] at hown
    refine Own.of ?_
    rw [cop_len]
    exact hown
  have HB := Lib.hid hb
  have HO := Lib.hid ho
  clear hb ho hown hgrow
  go_loopw [4] (fun i wr => ∃ k : Nat, k ≤ zs.length ∧ i = .int .i64 k ∧ Own wr w.heap.size w1.heap.size (.slice (some ⟨w.heap.size, 0, none⟩) zs.length zs.length) (cop zs k) ∧ Below w.heap.size w wr) (fun i _ => zs.length - (intOf i).toNat)
  case atStart => exact ⟨0, Nat.zero_le _, rfl, HO.out, HB.out⟩
  case round =>
    obtain ⟨k, hk, rfl, ho, hb⟩ := hrel
    by_cases hlt : k < zs.length
    · obtain ⟨b, off, rfl, _, hc⟩ := (H.out.below hb).at_ hlt
      obtain ⟨g, hg, g0, g1, hcw, hf⟩ := ho.at_ (i := k) (by rw [cop_len]; exact hlt)
      obtain rfl : w.heap.size = g := by injection hg with hg; injection hg
      have HO := Lib.hid ho
      have HB := Lib.hid hb
      clear ho hb hg
      go_wp2
      go_roundw
      case rel =>
        refine ⟨k + 1, by omega, by go_num, ?_, HB.out.setCell (Nat.le_refl _) _⟩
        have := HO.out.set_ k (nth zs k)
        rw [cop_set zs k hlt] at this
        exact this
      case measure => simp [intOf]; omega
    · obtain rfl : k = zs.length := by omega
      rw [cop_all] at ho
      have HO := Lib.hid ho
      have HB := Lib.hid hb
      clear ho hb
      go_wp2
      go_ret
      exact ⟨_, _, rfl, HO.out.all, HB.out⟩
-- GEN

theorem eqIntS_same (w : World) (a b : Option Addr) (ca cb : Nat) (zs : List Int) (ha : Row .i64 w a zs) (hb : Row .i64 w b zs) (hl : zs.length ≤ 1048576) :
    Calls Tryd.prog 8 #[.slice a zs.length ca, .slice b zs.length cb] w fun e w' => e = .returned (.bool true) ∧ Below w.heap.size w w' := by
  have HA := Lib.hid ha
  have HB := Lib.hid hb
  clear ha hb
  go_enter Tryd.func8, Tryd.ntmps8
  go_wp2
  go_loopw [5] (fun i wr => ∃ k n : Nat, k ≤ zs.length ∧ i = .int .i64 k ∧ wr = w.drewN n) (fun i _ => zs.length - (intOf i).toNat)
  case atStart => exact ⟨0, 0, Nat.zero_le _, rfl, rfl⟩
  case round =>
    obtain ⟨k, n, hk, rfl, rfl⟩ := hrel
    by_cases hlt : k < zs.length
    · obtain ⟨b1, o1, rfl, _, hc1⟩ := HA.out.at_ hlt
      obtain ⟨b2, o2, rfl, _, hc2⟩ := HB.out.at_ hlt
      go_wp2
      go_quiet (fail)
      go_wp2
      go_roundw
      case rel => exact ⟨k + 1, _, by omega, by go_num, rfl⟩
      case measure => simp [intOf]; omega
    · go_wp2
      go_ret
      exact ⟨rfl, below_drewN (Below.refl _ _) n⟩
end Go.Proofs.YtapcnpkaphdlkaaDoor
