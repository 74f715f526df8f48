
/-
  Contracts of the laws' small helpers on lists of integers: a copy, equality of lists that read alike, marks written into a list of the call's own, and marks that are still held. Condition: lists of at most 2^20 numbers.
-/
import Derived.Test.YtpipbgigihameaaBase
import Derived.Deep.QuietTactic
import Derived.BigQuiet
import Derived.Outline
import Derived.IntWalk
import Derived.Laws.Rows
namespace Go.Proofs.Ytpipbgigihameaa
open Go.RowKit

theorem quiet_at {P : Program} {f : FuncId} {args : Array Value} {w : World} {n : Nat} {v : Value}
    (h : Calls P f args (w.drewN n) fun e w' => e = .returned v ∧ w.drewN n = w') : Calls P f args (w.drewN n) fun e w'' => e = .returned v ∧ ∃ m, w'' = w.drewN m :=
  h.mono fun _ _ ⟨he, hm⟩ => ⟨he, n, hm.symm⟩

/-- A list of which the first k numbers are copied. -/
def cop (zs : List Int) (k : Nat) : List Int := zs.take k ++ List.replicate (zs.length - k) 0
theorem cop_len (zs : List Int) (k : Nat) : (cop zs k).length = zs.length := by simp [cop]; omega
theorem cop_zero (zs : List Int) : cop zs 0 = List.replicate zs.length 0 := by simp [cop]
theorem cop_all (zs : List Int) : cop zs zs.length = zs := by simp [cop]
theorem cop_set (zs : List Int) (k : Nat) (hk : k < zs.length) : (cop zs k).set k (nth zs k) = cop zs (k + 1) := by
  have e : List.replicate (zs.length - k) (0 : Int) = 0 :: List.replicate (zs.length - (k + 1)) 0 := by
    rw [show zs.length - k = (zs.length - (k + 1)) + 1 by omega, List.replicate_succ]
  have hl : (zs.take k).length = k := by rw [List.length_take]; omega
  unfold cop
  rw [e, List.set_append_right _ _ (by omega), hl, Nat.sub_self, List.set_cons_zero, take_snoc zs k hk]
  simp

theorem toIntS_any (w : World) (a : Option Addr) (cap : Nat) (zs : List Int) (h : Row .i64 w a zs) (hl : zs.length ≤ 1048576) :
    Calls Try.prog 12 #[.slice a zs.length cap] w (Fresh w zs) := by
  obtain ⟨i0, hi, hz0, hz1, hz2⟩ := info_parts int_info
  have HZ2 := Lib.hid hz2
  have H := Lib.hid h
  clear h
  go_enter Try.func12, Try.ntmps12
  go_wp2_with (refine wpList_make_full _ rfl _ _ 22 rfl w.heap.size 3 i0 (.int .i64 0) 1 Try.underlying22 hi hz0 hz1 .i64 .i64 _ _ zs.length rfl rfl rfl rfl (by rw [hz2]; omega) (by unfold maxLen; omega) (Nat.le_refl _) ?_; intro w1 hown hgrow)
  have hb : Below w.heap.size w w1 := (Below.refl _ _).grown hgrow (Nat.le_refl _) (fun k hk => by cases hk)
  have ho : Own w1 w.heap.size w1.heap.size (.slice (some ⟨w.heap.size, 0, none⟩) zs.length zs.length) (cop zs 0) := by
    have e : (madeCells (Value.int .i64 0).cells (zs.length * 1)).toList = IV (cop zs 0) := by rw [made_ints, cop_zero]
    rw [e] at hown
    refine Own.of ?_
    rw [cop_len]
    exact hown
  have HB := Lib.hid hb
  have HO := Lib.hid ho
  clear hb ho hown hgrow
  go_loopw [4] (fun i wr => ∃ k : Nat, k ≤ zs.length ∧ i = .int .i64 k ∧ Own wr w.heap.size w1.heap.size (.slice (some ⟨w.heap.size, 0, none⟩) zs.length zs.length) (cop zs k) ∧ Below w.heap.size w wr) (fun i _ => zs.length - (intOf i).toNat)
  case atStart => exact ⟨0, Nat.zero_le _, rfl, HO.out, HB.out⟩
  case round =>
    obtain ⟨k, hk, rfl, ho, hb⟩ := hrel
    by_cases hlt : k < zs.length
    · obtain ⟨b, off, rfl, _, hc⟩ := (H.out.below hb).at_ hlt
      obtain ⟨g, hg, g0, g1, hcw, hf⟩ := ho.at_ (i := k) (by rw [cop_len]; exact hlt)
      obtain rfl : w.heap.size = g := by injection hg with hg; injection hg
      have HO := Lib.hid ho
      have HB := Lib.hid hb
      clear ho hb hg
      go_wp2
      go_roundw
      case rel =>
        refine ⟨k + 1, by omega, by go_num, ?_, HB.out.setCell (Nat.le_refl _) _⟩
        have := HO.out.set_ k (nth zs k)
        rw [cop_set zs k hlt] at this
        exact this
      case measure => simp [intOf]; omega
    · obtain rfl : k = zs.length := by omega
      rw [cop_all] at ho
      have HO := Lib.hid ho
      have HB := Lib.hid hb
      clear ho hb
      go_wp2
      go_ret
      exact ⟨_, _, rfl, HO.out.all, HB.out⟩
-- GEN

theorem eqIntS_same (w : World) (a b : Option Addr) (ca cb : Nat) (zs : List Int) (ha : Row .i64 w a zs) (hb : Row .i64 w b zs) (hl : zs.length ≤ 1048576) :
    Calls Try.prog 14 #[.slice a zs.length ca, .slice b zs.length cb] w fun e w' => e = .returned (.bool true) ∧ Below w.heap.size w w' := by
  have HA := Lib.hid ha
  have HB := Lib.hid hb
  clear ha hb
  go_enter Try.func14, Try.ntmps14
  go_wp2
  go_loopw [5] (fun i wr => ∃ k n : Nat, k ≤ zs.length ∧ i = .int .i64 k ∧ wr = w.drewN n) (fun i _ => zs.length - (intOf i).toNat)
  case atStart => exact ⟨0, 0, Nat.zero_le _, rfl, rfl⟩
  case round =>
    obtain ⟨k, n, hk, rfl, rfl⟩ := hrel
    by_cases hlt : k < zs.length
    · obtain ⟨b1, o1, rfl, _, hc1⟩ := HA.out.at_ hlt
      obtain ⟨b2, o2, rfl, _, hc2⟩ := HB.out.at_ hlt
      go_wp2
      go_quiet (fail)
      go_wp2
      go_roundw
      case rel => exact ⟨k + 1, _, by omega, by go_num, rfl⟩
      case measure => simp [intOf]; omega
    · go_wp2
      go_ret
      exact ⟨rfl, below_drewN (Below.refl _ _) n⟩

theorem sameInts_same (w : World) (a b : Option Addr) (ca cb : Nat) (zs : List Int) (ha : Row .i64 w a zs) (hb : Row .i64 w b zs) (hl : zs.length ≤ 1048576) :
    Calls Try.prog 24 #[.slice a zs.length ca, .slice b zs.length cb] w fun e w' => e = .returned (.bool true) ∧ Below w.heap.size w w' := by
  have HA := Lib.hid ha
  have HB := Lib.hid hb
  clear ha hb
  go_enter Try.func24, Try.ntmps24
  go_wp2
  go_loopw [5] (fun i wr => ∃ k n : Nat, k ≤ zs.length ∧ i = .int .i64 k ∧ wr = w.drewN n) (fun i _ => zs.length - (intOf i).toNat)
  case atStart => exact ⟨0, 0, Nat.zero_le _, rfl, rfl⟩
  case round =>
    obtain ⟨k, n, hk, rfl, rfl⟩ := hrel
    by_cases hlt : k < zs.length
    · obtain ⟨b1, o1, rfl, _, hc1⟩ := HA.out.at_ hlt
      obtain ⟨b2, o2, rfl, _, hc2⟩ := HB.out.at_ hlt
      go_wp2
      go_quiet (fail)
      go_wp2
      go_roundw
      case rel => exact ⟨k + 1, _, by omega, by go_num, rfl⟩
      case measure => simp [intOf]; omega
    · go_wp2
      go_ret
      exact ⟨rfl, below_drewN (Below.refl _ _) n⟩
/-- The marks k, k + 1, .. -/
def marks (k : Int) (n : Nat) : List Int := (List.range n).map fun i => k + (i : Nat)
theorem marks_len (k : Int) (n : Nat) : (marks k n).length = n := by simp [marks]
theorem marks_nth (k : Int) (n i : Nat) (h : i < n) : nth (marks k n) i = k + i := by simp [nth, marks, h]
def markd (zs : List Int) (k : Int) (j : Nat) : List Int := marks k j ++ zs.drop j
theorem markd_len (zs : List Int) (k : Int) (j : Nat) (h : j ≤ zs.length) : (markd zs k j).length = zs.length := by simp [markd, marks_len]; omega
theorem markd_zero (zs : List Int) (k : Int) : markd zs k 0 = zs := by simp [markd, marks]
theorem markd_all (zs : List Int) (k : Int) : markd zs k zs.length = marks k zs.length := by simp [markd]
theorem markd_set (zs : List Int) (k : Int) (j : Nat) (h : j < zs.length) : (markd zs k j).set j (k + j) = markd zs k (j + 1) := by
  unfold markd
  rw [List.set_append_right _ _ (by rw [marks_len]; omega), marks_len, Nat.sub_self, List.drop_eq_getElem_cons h, List.set_cons_zero]
  simp [marks, List.range_succ]

/-- Only blocks from lo on and below hi, and new ones, have turned. -/
structure Touched (lo hi : Nat) (w w' : World) : Prop where
  os : w'.os = w.os
  tape : w'.tape = w.tape
  output : w'.output = w.output
  size : w.heap.size ≤ w'.heap.size
  block : ∀ k, k < w.heap.size → (k < lo ∨ hi ≤ k) → w'.heap[k]? = w.heap[k]?
section
variable {lo hi lo' hi' B : Nat} {w w' w2 : World} {v : Value} {zs : List Int}
theorem Touched.refl (lo hi : Nat) (w : World) : Touched lo hi w w := ⟨rfl, rfl, rfl, Nat.le_refl _, fun _ _ _ => rfl⟩
theorem Touched.below (h : Touched lo hi w w') (hB : B ≤ lo) (hw : B ≤ w.heap.size) : Below B w w' := ⟨h.os, h.tape, h.output, h.size, fun k hk => h.block k (by omega) (.inl (by omega))⟩
theorem Touched.own (h : Touched lo hi w w') (ho : Own w lo' hi' v zs) (hd : hi' ≤ lo ∨ hi ≤ lo') : Own w' lo' hi' v zs := by
  refine ⟨⟨ho.owns.1, ?_⟩, ho.top, Nat.le_trans ho.lim h.size⟩
  rcases ho.owns.2 with hn | ⟨g, cap, cur, rfl, h1, h2, h3⟩
  · exact .inl hn
  · have hg := ho.top g rfl
    have hl := ho.lim
    exact .inr ⟨g, cap, cur, rfl, h1, (h.block g (by omega) (by omega)).trans h2, h3⟩
theorem Touched.set_ (h : Touched lo hi w w') {g i : Nat} (h1 : lo ≤ g) (h2 : g < hi) (u : Value) : Touched lo hi w (w'.setCell ⟨g, i, none⟩ u) :=
  ⟨h.os, h.tape, h.output, by simpa [World.setCell] using h.size, fun k hk hd => (Below.heap_setCell w' _ u k (by simp; omega)).trans (h.block k hk hd)⟩
end

theorem markIntS_any (w : World) (lo hi : Nat) (a : Option Addr) (cap : Nat) (zs : List Int) (k : Int) (h : Own w lo hi (.slice a zs.length cap) zs) (hl : zs.length ≤ 1048576) (k0 : 0 ≤ k) (k1 : k ≤ 1000000000) :
    Calls Try.prog 17 #[.slice a zs.length cap, .int .i64 k] w fun e w' => e = .returned (.int .i64 (k + zs.length)) ∧ Own w' lo hi (.slice a zs.length cap) (marks k zs.length) ∧ Touched lo hi w w' := by
  have H := Lib.hid h
  clear h
  go_enter Try.func17, Try.ntmps17
  go_wp2
  go_loopw [1, 5] (fun m i wr => ∃ j : Nat, j ≤ zs.length ∧ i = .int .i64 j ∧ m = .int .i64 (k + j) ∧ Own wr lo hi (.slice a zs.length cap) (markd zs k j) ∧ Touched lo hi w wr) (fun _ i _ => zs.length - (intOf i).toNat)
  case atStart => exact ⟨0, Nat.zero_le _, rfl, by simp, by rw [markd_zero]; exact H.out, Touched.refl _ _ _⟩
  case round =>
    obtain ⟨j, hj, rfl, rfl, ho, ht⟩ := hrel
    by_cases hlt : j < zs.length
    · obtain ⟨g, rfl, g0, g1, hc, hf⟩ := ho.at_ (i := j) (by rw [markd_len _ _ _ hj]; exact hlt)
      have HO := Lib.hid ho
      have HT := Lib.hid ht
      clear ho ht
      go_wp2
      go_roundw
      case rel =>
        refine ⟨j + 1, by omega, by go_num, by go_num, ?_, HT.out.set_ g0 g1 _⟩
        have := HO.out.set_ j (k + j)
        rw [markd_set zs k j hlt] at this
        exact this
      case measure => simp [intOf]; omega
    · have ho' : Own wr lo hi (.slice a zs.length cap) (marks k zs.length) := by
        have e : j = zs.length := by omega
        rw [e, markd_all] at ho
        exact ho
      have HO := Lib.hid ho'
      have HT := Lib.hid ht
      obtain rfl : j = zs.length := by omega
      clear ho ht ho'
      go_wp2
      go_ret
      exact ⟨rfl, HO.out, HT.out⟩

theorem heldIntS_any (w : World) (a : Option Addr) (cap n : Nat) (k : Int) (h : Row .i64 w a (marks k n)) (hl : n ≤ 1048576) (k0 : 0 ≤ k) (k1 : k ≤ 1000000000) :
    Calls Try.prog 18 #[.slice a n cap, .int .i64 k] w fun e w' => e = .returned (.int .i64 (k + n)) ∧ w = w' := by
  have H := Lib.hid h
  clear h
  go_enter Try.func18, Try.ntmps18
  go_wp2
  go_loop [1, 5] (fun m i => ∃ j : Nat, j ≤ n ∧ i = .int .i64 j ∧ m = .int .i64 (k + j)) (fun _ i => n - (intOf i).toNat)
  case atStart => exact ⟨0, Nat.zero_le _, rfl, by simp⟩
  case round =>
    obtain ⟨j, hj, rfl, rfl⟩ := hrel
    by_cases hlt : j < n
    · obtain ⟨b, off, rfl, _, hc⟩ := H.out.at_ (i := j) (by rw [marks_len]; exact hlt)
      rw [marks_nth k n j hlt] at hc
      go_wp2
      go_round
      case rel => exact ⟨j + 1, by omega, by go_num, by go_num⟩
      case measure => simp [intOf]; omega
    · obtain rfl : j = n := by omega
      go_wp2
      go_ret
      exact ⟨rfl, rfl⟩
end Go.Proofs.Ytpipbgigihameaa
