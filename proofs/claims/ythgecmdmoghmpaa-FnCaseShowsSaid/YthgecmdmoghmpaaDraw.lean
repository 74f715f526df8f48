
/-
  Contracts of the openings of a code and of the draws of a digit. No condition but that fewer than some hundred thousand picks came before.
-/
import Derived.Test.YthgecmdmoghmpaaPick
namespace Go.Proofs.Ythgecmdmoghmpaa
open Go.RowKit

theorem rd_new {w : World} {a : Option Addr} {cap : Nat} {zs : List Int} (hr : Row .u8 w a zs) (hb : ∀ n ∈ zs, 0 ≤ n ∧ n ≤ 255) (hl : zs.length ≤ 2000) :
    RdOk (w.alloc (.cells #[.slice a zs.length cap, .int .i64 0] 68)) w.heap.size 0 := by
  refine ⟨a, cap, zs, 0, Nat.le_refl _, heap_alloc_new w _, fun hn => ?_, hb, hl⟩
  obtain ⟨b, off, e, hlt, hc⟩ := hr hn
  exact ⟨b, off, e, hlt, fun i hi => (World.cell?_alloc_lt w _ _ hlt).trans (hc i hi)⟩
theorem Row.take_ {k : IntKind} {w : World} {a : Option Addr} {zs : List Int} (h : Row k w a zs) (n : Nat) : Row k w a (zs.take n) := fun hn => by
  have hl : (zs.take n).length ≤ zs.length := List.length_take_le' _ _
  obtain ⟨b, off, e, hlt, hc⟩ := h (by omega)
  refine ⟨b, off, e, hlt, fun i hi => (hc i (by omega)).trans ?_⟩
  have : i < n := by rw [List.length_take] at hi; omega
  simp [nth, this]

theorem l6Open_any (w : World) (a : Option Addr) (cap : Nat) (zs : List Int) (h : InRow .u8 w a cap zs) :
    Calls Try.prog 34 #[.slice a zs.length cap] w fun e w' => e = .returned (.pointer (some ⟨w.heap.size, 0, none⟩)) ∧ RdOk w' w.heap.size 0 ∧ Below w.heap.size w w' := by
  have hb : ∀ n ∈ zs, 0 ≤ n ∧ n ≤ 255 := fun n hn => by
    have := h.wf n hn
    simp [Lit.wf, IntKind.min, IntKind.max, IntKind.signed, IntKind.bits] at this
    omega
  have hfit := h.fits
  have hlim := h.lim
  unfold maxLen at hlim
  have HB := Lib.hid hb
  have HR := Lib.hid h.row
  clear hb h
  by_cases hl : zs.length ≤ 2000
  · go_enter Try.func34, Try.ntmps34
    go_wp2
    go_ret
    exact ⟨rfl, rd_new HR.out HB.out hl, (Below.refl _ _).alloc (Nat.le_refl _) _⟩
  · have hl' : 2000 < zs.length := by omega
    go_enter Try.func34, Try.ntmps34
    go_wp2
    go_ret
    refine ⟨rfl, ?_, (Below.refl _ _).alloc (Nat.le_refl _) _⟩
    have ht : (zs.take 2000).length = 2000 := by rw [List.length_take]; omega
    have := rd_new (cap := cap) (HR.out.take_ 2000) (fun n hn => HB.out n (List.mem_of_mem_take hn)) (by omega)
    rw [ht] at this
    exact this

/-- What a draw of a number leaves: a number from lo to hi, the reader with some picks more. -/
def DrewInt (w : World) (g q : Nat) (lo hi : Int) (e : Ending) (w' : World) : Prop := ∃ x : Int, e = .returned (.int .i64 x) ∧ lo ≤ x ∧ x ≤ hi ∧ RdOk w' g q ∧ w.grownBy w' (some g)

end Go.Proofs.Ythgecmdmoghmpaa
