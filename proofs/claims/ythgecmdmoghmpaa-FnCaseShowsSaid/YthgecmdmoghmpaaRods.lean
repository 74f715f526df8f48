
/-
  Words for a slice of rods in memory, and contracts of the laws' helpers on rods. Condition: lists of at most 2^20 numbers.
-/
import Derived.Test.YthgecmdmoghmpaaCommon
import Derived.Test.YthgecmdmoghmpaaCaseP
import Derived.Test.YthgecmdmoghmpaaDig
import Derived.StillTailTactics
namespace Go.Proofs.Ythgecmdmoghmpaa
open Go.RowKit

/-- The slice of rods at 'a' reads as the lists 'rs' of their sides. -/
def Rods (w : World) (a : Option Addr) (rs : List (List Int)) : Prop :=
  0 < rs.length → ∃ b off, a = some ⟨b, off, none⟩ ∧ b < w.heap.size ∧ ∀ i, i < rs.length → ∃ a' c', w.cell? ⟨b, off + i, none⟩ = some (.slice a' (rod rs i).length c') ∧ (rod rs i).length ≤ c' ∧ c' ≤ maxLen ∧ Row .i64 w a' (rod rs i)
section
variable {w w' : World} {a : Option Addr} {rs : List (List Int)}
theorem Rods.nil_ : Rods w a [] := fun h => absurd h (by simp)
theorem Rods.below (h : Rods w a rs) (hb : Below w.heap.size w w') : Rods w' a rs := fun hn => by
  obtain ⟨b, off, e, hlt, hc⟩ := h hn
  refine ⟨b, off, e, Nat.lt_of_lt_of_le hlt hb.size, fun i hi => ?_⟩
  obtain ⟨a', c', h1, h2, h3, h4⟩ := hc i hi
  exact ⟨a', c', (hb.cell (p := ⟨b, off + i, none⟩) hlt).trans h1, h2, h3, h4.below hb⟩
theorem Rods.drewN (h : Rods w a rs) (n : Nat) : Rods (w.drewN n) a rs := h
theorem Rods.at_ (h : Rods w a rs) {i : Nat} (hi : i < rs.length) : ∃ b off a' c', a = some ⟨b, off, none⟩ ∧ b < w.heap.size ∧ w.cell? ⟨b, off + i, none⟩ = some (.slice a' (rod rs i).length c') ∧ (rod rs i).length ≤ c' ∧ c' ≤ maxLen ∧ Row .i64 w a' (rod rs i) := by
  obtain ⟨b, off, e, hlt, hc⟩ := h (by omega)
  obtain ⟨a', c', h1, h2, h3, h4⟩ := hc i hi
  exact ⟨b, off, a', c', e, hlt, h1, h2, h3, h4⟩
end

theorem szIntS_any (w : World) (a : Option Addr) (n cap : Nat) (l : Int) (hn : (n : Int) ≤ 9223372036854775807) (h1 : l ≤ 1048576) (h0 : 0 ≤ l) :
    Calls Try.prog 41 #[.slice a n cap, .int .i64 l] w fun e w' => (∃ r : Int, e = .returned (.int .i64 r) ∧ r ≤ 1048576 ∧ (0 ≤ r → n ≤ 1048576)) ∧ w = w' := by
  by_cases hc : l - (n : Int) < 0
  · go_enter Try.func41, Try.ntmps41
    go_wp2_with fail
    go_ret
    exact ⟨⟨_, rfl, by omega, by omega⟩, rfl⟩
  · go_enter Try.func41, Try.ntmps41
    go_wp2_with fail
    go_ret
    exact ⟨⟨_, rfl, by omega, by omega⟩, rfl⟩

theorem szRod_any (w : World) (a : Option Addr) (n cap : Nat) (l : Int) (hn : (n : Int) ≤ 9223372036854775807) (h1 : l ≤ 1048576) (h0 : 0 ≤ l) :
    Calls Try.prog 24 #[.agg #[.slice a n cap], .int .i64 l] w fun e w' => (∃ r : Int, e = .returned (.int .i64 r) ∧ r ≤ 1048576 ∧ (0 ≤ r → n ≤ 1048576)) ∧ Below w.heap.size w w' := by
  go_enter Try.func24, Try.ntmps24
  go_wp2_with fail
  refine (szIntS_any _ _ _ _ _ hn h1 h0).mono ?_
  rintro e w' ⟨⟨r, rfl, r1, r2⟩, rfl⟩
  by_cases hc : r < 0
  · go_wp2_with fail
    go_ret
    exact ⟨⟨_, rfl, by omega, by omega⟩, (Below.refl _ _).alloc (Nat.le_refl _) _⟩
  · go_wp2_with fail
    go_ret
    exact ⟨⟨_, rfl, by omega, r2⟩, (Below.refl _ _).alloc (Nat.le_refl _) _⟩

/-- What the law asks of the rods' sizes. -/
def RodsSmall (rs : List (List Int)) : Prop := rs.length ≤ 1048576 ∧ ∀ i, i < rs.length → (rod rs i).length ≤ 1048576
theorem szRodS_any (w : World) (a : Option Addr) (cap : Nat) (rs : List (List Int)) (h : Rods w a rs) (hl : rs.length ≤ cap) (hc : cap ≤ maxLen) :
    Calls Try.prog 9 #[.slice a rs.length cap, .int .i64 1048576] w fun e w' => (∃ r : Int, e = .returned (.int .i64 r) ∧ (0 ≤ r → RodsSmall rs)) ∧ Below w.heap.size w w' := by
  unfold maxLen at hc
  have H := Lib.hid h
  clear h
  by_cases hbig : 1048576 < rs.length
  · go_enter Try.func9, Try.ntmps9
    go_wp2_with fail
    go_ret
    exact ⟨⟨_, rfl, by omega⟩, Below.refl _ _⟩
  · have hbig' : rs.length ≤ 1048576 := by omega
    go_enter Try.func9, Try.ntmps9
    go_wp2_with fail
    go_loopw [1, 5] (fun l i wr => ∃ k : Nat, ∃ r : Int, k ≤ rs.length ∧ i = .int .i64 k ∧ l = .int .i64 r ∧ 0 ≤ r ∧ r ≤ 1048576 ∧ (∀ j, j < k → (rod rs j).length ≤ 1048576) ∧ Below w.heap.size w wr) (fun _ i _ => rs.length - (intOf i).toNat)
    case atStart => exact ⟨0, _, Nat.zero_le _, rfl, rfl, by omega, by omega, fun j hj => by omega, Below.refl _ _⟩
    case round =>
      obtain ⟨k, r, hk, rfl, rfl, r0, r1, hs, hb⟩ := hrel
      have HS := Lib.hid hs
      have HB := Lib.hid hb
      clear hs hb
      by_cases hlt : k < rs.length
      · obtain ⟨b, off, a', c', rfl, _, hcell, l1, l2, _⟩ := (H.out.below HB.out).at_ hlt
        unfold maxLen at l2
        go_wp2_with fail
        refine (szRod_any _ _ _ _ _ (by omega) r1 r0).mono ?_
        rintro e w1 ⟨⟨q, rfl, q1, q2⟩, b1⟩
        have B1 := Lib.hid (HB.out.trans (b1.mono HB.out.size))
        clear b1
        by_cases hq : q < 0
        · go_wp2_with fail
          go_ret
          exact ⟨⟨_, rfl, by omega⟩, B1.out⟩
        · have hq' : 0 ≤ q := by omega
          go_wp2_with fail
          go_roundw
          case rel =>
            refine ⟨k + 1, q, by omega, by go_num, rfl, hq', q1, fun j hj => ?_, B1.out⟩
            by_cases e : j = k
            · subst e; exact q2 hq'
            · exact HS.out j (by omega)
          case measure => simp [intOf]; omega
      · go_wp2_with fail
        go_ret
        exact ⟨⟨_, rfl, fun _ => ⟨hbig', fun i hi => HS.out i (by omega)⟩⟩, HB.out⟩
end Go.Proofs.Ythgecmdmoghmpaa
