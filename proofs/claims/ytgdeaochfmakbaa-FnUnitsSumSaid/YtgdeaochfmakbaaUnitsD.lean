
/-
  Contracts of the functions that leave one unit out. Condition: lists of at most 2^20 numbers.
-/
import Derived.Test.YtgdeaochfmakbaaUnitsO
import Derived.Test.YtgdeaochfmakbaaOwn2
import Derived.Deep.RegionHeld3
import Derived.Deep.AppendLies
namespace Go.Proofs.Ytgdeaochfmakbaa
open Go.RowKit

def dropAt (zs : List Int) (k : Nat) : List Int := zs.take k ++ zs.drop (k + 1)
def unitsDrop (zs : List Int) (k : Int) : List Int × Bool := if isUnits zs && inB k 0 ((zs.length : Int) - 1) then (dropAt zs k.toNat, true) else ([], false)
theorem unitsDrop_yes {zs : List Int} {k : Nat} (h : isUnits zs = true) (hk : k < zs.length) : unitsDrop zs (k : Int) = (dropAt zs k, true) := by
  have : inB (k : Int) 0 ((zs.length : Int) - 1) = true := inB_mk (by omega) (by omega)
  simp [unitsDrop, h, this]
theorem unitsDrop_no1 {zs : List Int} {k : Int} (h : isUnits zs = false) : unitsDrop zs k = ([], false) := by simp [unitsDrop, h]
theorem unitsDrop_no2 {zs : List Int} {k : Int} (h : inB k 0 ((zs.length : Int) - 1) = false) : unitsDrop zs k = ([], false) := by simp [unitsDrop, h]
theorem dropAt_len {zs : List Int} {k : Nat} (h : k < zs.length) : (dropAt zs k).length = zs.length - 1 := by
  simp [dropAt]
  omega
theorem unitsDrop_bd (zs : List Int) (k : Int) : (unitsDrop zs k).1.length ≤ 1048576 := by
  cases h : isUnits zs
  · rw [unitsDrop_no1 h]; simp
  · have h8 := (isUnits_parts h).2
    cases h2 : inB k 0 ((zs.length : Int) - 1)
    · rw [unitsDrop_no2 h2]; simp
    · have a2 := inB_true h2
      obtain ⟨n, rfl⟩ : ∃ n : Nat, k = n := ⟨k.toNat, by omega⟩
      rw [unitsDrop_yes h (by omega)]
      have := dropAt_len (zs := zs) (k := n) (by omega)
      show (dropAt zs n).length ≤ 1048576
      omega

/-- The list of a chain. -/
theorem unitList_any (w : World) (lo hi : Nat) (p : Option Addr) (zs : List Int) (h : Chain w lo hi p zs) (hh : hi ≤ w.heap.size) (hl : zs.length ≤ 100) :
    Calls Try.prog 28 #[.pointer p] w (Fresh w zs) := by
  have H := Lib.hid h
  clear h
  go_enter Try.func28, Try.ntmps28
  go_wp2_with fail
  go_loopg [0, 3] zs.length (fun m q s wr => ∃ k c : Nat, ∃ n x : Option Addr, k + m = zs.length ∧ q = .pointer n ∧ s = .slice x (zs.take k).length c ∧ Chain wr lo hi n (zs.drop k) ∧ Own wr w.heap.size wr.heap.size (.slice x (zs.take k).length c) (zs.take k) ∧ Below w.heap.size w wr)
  case atStart => exact ⟨0, 0, p, some ⟨w.heap.size, 0, none⟩, by omega, rfl, rfl, Chain.below ((Below.refl _ w).alloc hh _) H.out, by simpa using own_empty w w.heap.size (Nat.le_refl _), (Below.refl _ _).alloc (Nat.le_refl _) _⟩
  case round =>
    obtain ⟨k, c, n, x, hk, rfl, rfl, hch, ho, hb⟩ := hrel
    have hs := hb.size
    have HB := Lib.hid hb
    have HK := Lib.hid hk
    clear hb
    by_cases hlt : k < zs.length
    · have T := Lib.hid (take_snoc zs k hlt)
      have D := Lib.hid (drop_cons' hlt)
      rw [D.out] at hch
      obtain ⟨g, next, rfl, _, hgh, hc0, hc1, hch2⟩ := hch.cells
      have tl : (zs.take k).length ≤ 100 := by rw [List.length_take]; omega
      have CH := Lib.hid hch2
      have hgw : g < w.heap.size := by omega
      generalize zs.take k = out at *
      generalize nth zs k = d at *
      clear hch hch2 hk
      go_wp2_with (at_builtin; refine wpList_push rfl _ _ rfl wr w.heap.size wr.heap.size d out x c rfl rfl ho hs (by omega) ?_; intro x' c' w2 ho2 hb2 hs2; have c2 : w2.cell? ⟨g, 1, none⟩ = some (.pointer next) := (hb2.cell (p := ⟨g, 1, none⟩) hgw).trans hc1)
      have HO2 := Lib.hid ho2
      have HB2 := Lib.hid (HB.out.trans hb2)
      have CH2 := Lib.hid (Chain.below (hb2.mono hh) CH.out)
      clear ho ho2 hb2
      go_wp2_with fail
      go_roundg (gk - 1)
      case measure => have := HK.out; omega
      case rel =>
        refine ⟨k + 1, c', next, x', by have := HK.out; omega, rfl, by rw [T.out]; simp, CH2.out, ?_, HB2.out⟩
        rw [T.out]
        have := HO2.out
        simpa using this
    · rw [List.drop_of_length_le (by omega)] at hch
      obtain rfl : n = none := hch
      have e : zs.take k = zs := List.take_of_length_le (by omega)
      rw [e] at ho ⊢
      have HO := Lib.hid ho
      clear ho e
      go_wp2_with fail
      go_ret
      exact ⟨x, c, rfl, HO.out, HB.out⟩
end Go.Proofs.Ytgdeaochfmakbaa
