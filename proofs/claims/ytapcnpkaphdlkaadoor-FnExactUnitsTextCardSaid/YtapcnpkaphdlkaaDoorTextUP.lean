
/-
  Plain texts of units: '1/' and a number's decimals, ' + ' between; what the program's contracts on them share.
-/
import Derived.Test.YtapcnpkaphdlkaaDoorTextB
import Derived.Test.YtapcnpkaphdlkaaDoorUnits
import Derived.Lib.AppendIntMem
import Derived.Lib.LaidTab
import Derived.Stop.LaidErr
import Derived.LaidMore
import Derived.Test.YtapcnpkaphdlkaaDoorRows
namespace Go.Proofs.YtapcnpkaphdlkaaDoor
open Go.RowKit

/-- The text of the k-th unit. -/
def unitWord (zs : List Int) (k : Nat) : List UInt8 := [49, 47] ++ dec (nth zs k)
def plusSep : List UInt8 := [32, 43, 32]
def unitsText (zs : List Int) : ByteArray := if isUnits zs then (if zs.length = 0 then ⟨#[48]⟩ else str (pre (unitWord zs) plusSep zs.length zs.length)) else ⟨#[]⟩
theorem unitsText_no {zs : List Int} (h : isUnits zs = false) : unitsText zs = ⟨#[]⟩ := by simp [unitsText, h]
theorem unitsText_nil {zs : List Int} (h : isUnits zs = true) (h0 : zs.length = 0) : unitsText zs = ⟨#[48]⟩ := by simp [unitsText, h, h0]
theorem unitsText_yes {zs : List Int} (h : isUnits zs = true) (h0 : ¬ zs.length = 0) : unitsText zs = str (pre (unitWord zs) plusSep zs.length zs.length) := by simp only [unitsText, h, if_true, if_neg h0]
theorem word_len {zs : List Int} (h : good zs = true) (k : Nat) : (unitWord zs k).length + plusSep.length ≤ 15 := by
  have h2 : (dec (nth zs k)).length ≤ 10 := by
    refine dec_len 10 _ ?_ (by omega)
    by_cases hk : k < zs.length
    · have := good_mem h _ (nth_mem zs k hk)
      omega
    · have : nth zs k = 0 := by simp [nth, List.getD, List.getElem?_eq_none (show zs.length ≤ k by omega)]
      rw [this]; decide
  show ([49, 47] ++ dec (nth zs k)).length + 3 ≤ 15
  simp
  omega
theorem pre_same (f : Nat → List UInt8) (sep : List UInt8) (n m k : Nat) (h1 : k < n) (h2 : k < m) : pre f sep n k = pre f sep m k := by
  rw [pre_flat f sep n k h1, pre_flat f sep m k h2]
theorem pre_one (f : Nat → List UInt8) (sep : List UInt8) : pre f sep 1 1 = f 0 := by simp [pre]
theorem pre_grow (f : Nat → List UInt8) (sep : List UInt8) (k : Nat) (h : 1 ≤ k) : pre f sep (k + 1) (k + 1) = pre f sep k k ++ sep ++ f k := by
  obtain ⟨j, rfl⟩ : ∃ j, k = j + 1 := ⟨k - 1, by omega⟩
  rw [pre, if_neg (by omega), pre, if_pos (by omega), pre_same f sep (j + 1 + 1) (j + 1) j (by omega) (by omega)]
  show _ = pre f sep (j + 1) (j + 1) ++ sep ++ f (j + 1)
  conv => rhs; rw [pre, if_neg (by omega)]
  simp

theorem Chain.fixed {w : World} {lo hi : Nat} {p : Option Addr} {x : Int} {xs : List Int} (h : Chain w lo hi p (x :: xs)) :
    ∃ g next, p = some ⟨g, 0, none⟩ ∧ (∀ w', Below hi w w' → w'.cell? ⟨g, 0, none⟩ = some (.int .i64 x) ∧ w'.cell? ⟨g, 1, none⟩ = some (.pointer next)) ∧ Chain w lo hi next xs := by
  obtain ⟨g, next, h1, h2, h3, h4, h5⟩ := h
  refine ⟨g, next, h1, fun w' hb => ?_, h5⟩
  have h6 := (hb.block g h3).trans h4
  exact ⟨by simp [World.cell?, h6], by simp [World.cell?, h6]⟩

/-- The table of powers of ten that Go's decimals read. -/
abbrev Pow10 (w : World) : Prop := Lib.TabIs Tryd.prog w "internal/strconv.uint64pow10" .u64 Lib.pow10Tab
theorem pow10_below {w w' : World} (h : Pow10 w) (hb : Below w.heap.size w w') : Pow10 w' := Lib.tabBelow_of_tabIs h w' hb
theorem itoa_any (d : Nat) (h : d ≤ 1000000000) (w : World) (ht : Pow10 w) : Calls Tryd.prog 14 #[.int .i64 (d : Int)] w fun e w' => e = .returned (.string (str (Lib.decDigits d))) ∧ ∃ k os, w' = Sort.grow (w.drewN k) os :=
  (Tryd.strconv_Itoa (d : Int) (by omega) (by omega) w ht).mono fun _ _ ⟨h1, h2⟩ => ⟨by rw [h1, Lib.itoa_nonneg]; rfl, h2⟩

theorem gPow : Tryd.prog.globalNamed "internal/strconv.uint64pow10" = some 0 := by kernel_rfl
theorem tPow : (Tryd.prog.globals[0]?).map (·.type) = some 64 := by kernel_rfl
theorem eqPow : (Rows.laid_internal_strconv_uint64pow10 : DataW Unit) = Lib.tabData .u64 Lib.pow10Tab := by kernel_rfl
theorem pow10_of_laid {W : World} (h : laidMetH Tryd.prog Rows.fnExactUnitsTextRow.laid W) : Pow10 W := by
  rw [MakeChecks.laidMetH_plain _ _ _ (by kernel_rfl)] at h
  have h2 := h.tail.tail
  rw [eqPow] at h2
  exact Lib.tabIs_of_head gPow tPow Tryd.underlying64 Tryd.underlying54 (by kernel_rfl) (by kernel_rfl) h2
end Go.Proofs.YtapcnpkaphdlkaaDoor
