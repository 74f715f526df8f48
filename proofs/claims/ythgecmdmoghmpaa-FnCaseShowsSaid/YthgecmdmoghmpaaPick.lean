
/-
  Contracts of the reader of a code: it opens over any list of bytes; each pick from n numbers is one of 0 to n - 1, and turns the reader's own place alone. No condition but that fewer than a million picks came before.
-/
import Derived.Test.YthgecmdmoghmpaaBase
import Derived.Deep.QuietTactic
import Derived.BigQuiet
import Derived.Outline
import Derived.Laws.BitsAllLaws
import Derived.Laws.BitsLemmas
import Derived.IntWalk
import Derived.Laws.Rows
namespace Go.Proofs.Ythgecmdmoghmpaa
open Go.RowKit

/-- The reader at block g: the bytes zs at a, below g; p picks are done. -/
structure Rd (w : World) (g : Nat) (a : Option Addr) (cap : Nat) (zs : List Int) (p : Nat) : Prop where
  blk : w.heap[g]? = some (.cells #[.slice a zs.length cap, .int .i64 p] 68 (0, 0))
  row : 0 < zs.length → ∃ b off, a = some ⟨b, off, none⟩ ∧ b < g ∧ ∀ i, i < zs.length → w.cell? ⟨b, off + i, none⟩ = some (.int .u8 (nth zs i))
  byte : ∀ n ∈ zs, 0 ≤ n ∧ n ≤ 255
  len : zs.length ≤ 2000

section
variable {w w' : World} {g : Nat} {a : Option Addr} {cap : Nat} {zs : List Int} {p : Nat}
theorem Rd.c0 (h : Rd w g a cap zs p) : w.cell? ⟨g, 0, none⟩ = some (.slice a zs.length cap) := by simp [World.cell?, h.blk]
theorem Rd.c1 (h : Rd w g a cap zs p) : w.cell? ⟨g, 1, none⟩ = some (.int .i64 p) := by simp [World.cell?, h.blk]
theorem Rd.f1 (h : Rd w g a cap zs p) : w.frozen? ⟨g, 1, none⟩ = false := by simp [World.frozen?, h.blk]
theorem Rd.lt (h : Rd w g a cap zs p) : g < w.heap.size := (Array.getElem?_eq_some_iff.1 h.blk).1
theorem Rd.kept {B : Nat} (h : Rd w g a cap zs p) (hb : Below B w w') (hg : g < B) : Rd w' g a cap zs p := by
  refine ⟨(hb.block g hg).trans h.blk, fun hn => ?_, h.byte, h.len⟩
  obtain ⟨b, off, e, hlt, hc⟩ := h.row hn
  exact ⟨b, off, e, hlt, fun i hi => (hb.cell (p := ⟨b, off + i, none⟩) (Nat.lt_trans hlt hg)).trans (hc i hi)⟩
theorem Rd.grown {row : Option Nat} (h : Rd w g a cap zs p) (hb : w.grownBy w' row) (hg : ∀ r, row = some r → g < r) : Rd w' g a cap zs p :=
  h.kept (B := g + 1) (below_of_grown hb h.lt (fun r hr => hg r hr)) (Nat.lt_succ_self g)
theorem Rd.drewN (h : Rd w g a cap zs p) (n : Nat) : Rd (w.drewN n) g a cap zs p := ⟨h.blk, h.row, h.byte, h.len⟩
theorem Rd.alloc (h : Rd w g a cap zs p) (o : Obj) : Rd (w.alloc o) g a cap zs p := h.grown (World.grownBy_alloc w o none) (fun r hr => by cases hr)
theorem Rd.next (h : Rd w g a cap zs p) (q : Nat) : Rd (w.setCell ⟨g, 1, none⟩ (.int .i64 q)) g a cap zs q := by
  refine ⟨?_, fun hn => ?_, h.byte, h.len⟩
  · simp [World.setCell, Array.getElem?_modify, h.blk]
  · obtain ⟨b, off, e, hlt, hc⟩ := h.row hn
    exact ⟨b, off, e, hlt, fun i hi => (World.cell?_setCell_other w _ _ _ (fun e => by injection e; omega)).trans (hc i hi)⟩
theorem Rd.at_ (h : Rd w g a cap zs p) {i : Nat} (hi : i < zs.length) : ∃ b off, a = some ⟨b, off, none⟩ ∧ b < g ∧ w.cell? ⟨b, off + i, none⟩ = some (.int .u8 (nth zs i)) ∧ 0 ≤ nth zs i ∧ nth zs i ≤ 255 := by
  obtain ⟨b, off, e, hlt, hc⟩ := h.row (by omega)
  exact ⟨b, off, e, hlt, hc i hi, h.byte _ (nth_mem zs i hi)⟩
end

/-- What a pick from n numbers leaves. -/
def Picked (w : World) (g : Nat) (a : Option Addr) (cap : Nat) (zs : List Int) (p : Nat) (n : Int) (e : Ending) (w' : World) : Prop :=
  ∃ x : Int, e = .returned (.int .i64 x) ∧ 0 ≤ x ∧ (1 ≤ n → x < n) ∧ Rd w' g a cap zs (p + 1) ∧ w.grownBy w' (some g)

theorem picked_of {w w' : World} {g : Nat} {a : Option Addr} {cap : Nat} {zs : List Int} {p : Nat} {n x : Int} (h : Rd w g a cap zs p) (hx0 : 0 ≤ x) (hx1 : 1 ≤ n → x < n)
    (hw : ∃ m, w' = (w.setCell ⟨g, 1, none⟩ (.int .i64 ((p : Int) + 1))).drewN m) : Picked w g a cap zs p n (.returned (.int .i64 x)) w' := by
  obtain ⟨m, rfl⟩ := hw
  refine ⟨x, rfl, hx0, hx1, ?_, grown_drewN (grown_set w g 1 _) m⟩
  have := (h.next (p + 1)).drewN m
  simpa using this

theorem xor_nonneg {x : Int} (h0 : 0 ≤ x) (h1 : x < 9223372036854775808) : 0 ≤ bits .xor .i64 x (x / 64) := by
  obtain ⟨n, rfl⟩ : ∃ n : Nat, x = n := ⟨x.toNat, by omega⟩
  have hq : ((n : Int) / 64) = ((n / 64 : Nat) : Int) := by omega
  have hx : n ^^^ (n / 64) < 2 ^ 63 := Nat.xor_lt_two_pow (by omega) (by omega)
  have e1 : (BitVec.ofInt 64 (n : Int)).toNat = n := by rw [BitVec.ofInt_natCast, BitVec.toNat_ofNat]; exact Nat.mod_eq_of_lt (by omega)
  have e2 : (BitVec.ofInt 64 ((n / 64 : Nat) : Int)).toNat = n / 64 := by rw [BitVec.ofInt_natCast, BitVec.toNat_ofNat]; exact Nat.mod_eq_of_lt (by omega)
  rw [hq]
  show 0 ≤ IntKind.i64.wrap ((BitVec.ofInt 64 (n : Int) ^^^ BitVec.ofInt 64 ((n / 64 : Nat) : Int)).toNat : Int)
  rw [BitVec.toNat_xor, e1, e2, IntKind.wrap_i64]
  omega

set_option maxRecDepth 100000 in
theorem pick_few (w : World) (g : Nat) (a : Option Addr) (cap : Nat) (zs : List Int) (p : Nat) (n : Int) (h : Rd w g a cap zs p) (hp : p ≤ 1000000) (hn : n < 1) :
    Calls Try.prog 36 #[.pointer (some ⟨g, 0, none⟩), .int .i64 n] w (Picked w g a cap zs p n) := by
  have c0 := h.c0
  have c1 := h.c1
  have f1 := h.f1
  have hl := h.len
  have H := Lib.hid h
  clear h
  go_enter Try.func36, Try.ntmps36
  go_wp2
  go_ret
  exact picked_of H.out (by omega) (by omega) ⟨0, rfl⟩

set_option maxRecDepth 100000 in
theorem pick_empty (w : World) (g : Nat) (a : Option Addr) (cap : Nat) (p : Nat) (n : Int) (h : Rd w g a cap [] p) (hp : p ≤ 1000000) (hn : 1 ≤ n) :
    Calls Try.prog 36 #[.pointer (some ⟨g, 0, none⟩), .int .i64 n] w (Picked w g a cap [] p n) := by
  have c0 := h.c0
  have c1 := h.c1
  have f1 := h.f1
  have H := Lib.hid h
  clear h
  go_enter Try.func36, Try.ntmps36
  go_wp2
  go_ret
  exact picked_of H.out (by omega) (by omega) ⟨0, rfl⟩

set_option maxRecDepth 100000 in
theorem pick_byte (w : World) (g : Nat) (a : Option Addr) (cap : Nat) (zs : List Int) (p : Nat) (n : Int) (h : Rd w g a cap zs p) (hp : p ≤ 1000000) (hn : 1 ≤ n) (hlt : p < zs.length) :
    Calls Try.prog 36 #[.pointer (some ⟨g, 0, none⟩), .int .i64 n] w (Picked w g a cap zs p n) := by
  have c0 := h.c0
  have c1 := h.c1
  have f1 := h.f1
  have hl := h.len
  obtain ⟨b, off, rfl, hb, hc, h0, h255⟩ := h.at_ hlt
  have hbg : b ≠ g := by omega
  have hgb : g ≠ b := by omega
  have H := Lib.hid h
  clear h
  have hz : ((zs.length : Int) == 0) = false := beq_eq_false_iff_ne.2 (by omega)
  go_enter Try.func36, Try.ntmps36
  go_wp2
  go_ret
  have hm0 : 0 ≤ nth zs p % n := Int.emod_nonneg _ (by omega)
  have hm1 : nth zs p % n < n := Int.emod_lt_of_pos _ (by omega)
  exact picked_of H.out hm0 (fun _ => hm1) ⟨0, rfl⟩

set_option maxHeartbeats 1000000 in
set_option maxRecDepth 100000 in
theorem pick_mix (w : World) (g : Nat) (a : Option Addr) (cap : Nat) (zs : List Int) (p : Nat) (n : Int) (h : Rd w g a cap zs p) (hp : p ≤ 1000000) (hn : 1 ≤ n) (h1 : 1 ≤ zs.length) (hge : zs.length ≤ p) :
    Calls Try.prog 36 #[.pointer (some ⟨g, 0, none⟩), .int .i64 n] w (Picked w g a cap zs p n) := by
  have c0 := h.c0
  have c1 := h.c1
  have f1 := h.f1
  have hl := h.len
  have m1 : p % zs.length < zs.length := Nat.mod_lt _ (by omega)
  have m2 : (p * 7 + 3) % zs.length < zs.length := Nat.mod_lt _ (by omega)
  obtain ⟨b, off, rfl, hb, hc, h0, h255⟩ := h.at_ m1
  obtain ⟨b', off', he, hb', hc', h0', h255'⟩ := h.at_ m2
  obtain ⟨rfl, rfl⟩ : b = b' ∧ off = off' := by injection he with he; injection he with e1 e2; exact ⟨e1, e2⟩
  have hd : p / zs.length ≤ p := Nat.div_le_self _ _
  have t1 : (p : Int).tmod (zs.length : Int) = ((p % zs.length : Nat) : Int) := rfl
  have t2 : ((p : Int) * 7 + 3).tmod (zs.length : Int) = (((p * 7 + 3) % zs.length : Nat) : Int) := rfl
  have t3 : (p : Int).tdiv (zs.length : Int) = ((p / zs.length : Nat) : Int) := rfl
  generalize p % zs.length = k1 at *
  generalize (p * 7 + 3) % zs.length = k2 at *
  generalize p / zs.length = k3 at *
  generalize nth zs k1 = x1 at *
  generalize nth zs k2 = x2 at *
  clear he hb'
  have hbg : b ≠ g := by omega
  have hgb : g ≠ b := by omega
  have H := Lib.hid h
  clear h
  have hz : ((zs.length : Int) == 0) = false := beq_eq_false_iff_ne.2 (by omega)
  have T1 := Lib.hid t1
  have T2 := Lib.hid t2
  have T3 := Lib.hid t3
  clear t1 t2 t3
  go_enter Try.func36, Try.ntmps36
  go_wp2
  have u1 : IntKind.i64.wrap x1 = x1 := IntWalk.i64_in _ (by omega)
  have u2 : IntKind.i64.wrap x2 = x2 := IntWalk.i64_in _ (by omega)
  have u3 : IntKind.i64.wrap (x1 * 131) = x1 * 131 := IntWalk.i64_in _ (by omega)
  have u4 : IntKind.i64.wrap (x2 * 1117) = x2 * 1117 := IntWalk.i64_in _ (by omega)
  have u5 : IntKind.i64.wrap (x1 * 131 + x2 * 1117) = x1 * 131 + x2 * 1117 := IntWalk.i64_in _ (by omega)
  have u6 : IntKind.i64.wrap ((p : Int) * 7) = (p : Int) * 7 := IntWalk.i64_in _ (by omega)
  have u7 : IntKind.i64.wrap ((p : Int) * 7 + 3) = (p : Int) * 7 + 3 := IntWalk.i64_in _ (by omega)
  have u8 : IntKind.i64.wrap ((p : Int) * 29) = (p : Int) * 29 := IntWalk.i64_in _ (by omega)
  have u9 : IntKind.i64.wrap (x1 * 131 + x2 * 1117 + (p : Int) * 29) = x1 * 131 + x2 * 1117 + (p : Int) * 29 := IntWalk.i64_in _ (by omega)
  have u10 : IntKind.i64.wrap (k3 : Int) = k3 := IntWalk.i64_in _ (by omega)
  have u11 : IntKind.i64.wrap ((k3 : Int) * 53) = (k3 : Int) * 53 := IntWalk.i64_in _ (by omega)
  have u12 : IntKind.i64.wrap (x1 * 131 + x2 * 1117 + (p : Int) * 29 + (k3 : Int) * 53) = x1 * 131 + x2 * 1117 + (p : Int) * 29 + (k3 : Int) * 53 := IntWalk.i64_in _ (by omega)
  have j1 : (k1 : Int) < (zs.length : Int) := by omega
  have j2 : (k2 : Int) < (zs.length : Int) := by omega
  have t1 := T1.out
  have t2 := T2.out
  have t3 := T3.out
  go_quiet (fail)
  clear t1 t2 t3 u1 u2 u3 u4 u5 u6 u7 u8 u9 u10 u11 u12
  have b0 : 0 ≤ x1 * 131 + x2 * 1117 + (p : Int) * 29 + (k3 : Int) * 53 := by omega
  have b1 : x1 * 131 + x2 * 1117 + (p : Int) * 29 + (k3 : Int) * 53 < 9223372036854775808 := by omega
  generalize x1 * 131 + x2 * 1117 + (p : Int) * 29 + (k3 : Int) * 53 = X at *
  have b2 := xor_nonneg b0 b1
  have b3 := Int.emod_nonneg (bits .xor .i64 X (X / 64)) (show n ≠ 0 by omega)
  have b4 := Int.emod_lt_of_pos (bits .xor .i64 X (X / 64)) (show 0 < n by omega)
  go_wp2
  go_ret
  exact picked_of H.out b3 (fun _ => b4) ⟨_, rfl⟩

/-- A pick. -/
theorem pick_any (w : World) (g : Nat) (a : Option Addr) (cap : Nat) (zs : List Int) (p : Nat) (n : Int) (h : Rd w g a cap zs p) (hp : p ≤ 1000000) :
    Calls Try.prog 36 #[.pointer (some ⟨g, 0, none⟩), .int .i64 n] w (Picked w g a cap zs p n) := by
  by_cases hn : n < 1
  · exact pick_few w g a cap zs p n h hp hn
  · by_cases h0 : zs.length = 0
    · obtain rfl : zs = [] := List.eq_nil_of_length_eq_zero h0
      exact pick_empty w g a cap p n h hp (by omega)
    · by_cases hl : p < zs.length
      · exact pick_byte w g a cap zs p n h hp (by omega) hl
      · exact pick_mix w g a cap zs p n h hp (by omega) (by omega) (by omega)

/-- A reader at block g, with at most q picks done. -/
def RdOk (w : World) (g q : Nat) : Prop := ∃ a cap zs p, p ≤ q ∧ Rd w g a cap zs p
section
variable {w w' : World} {g q q' : Nat}
theorem RdOk.lt (h : RdOk w g q) : g < w.heap.size := by obtain ⟨_, _, _, _, _, h⟩ := h; exact h.lt
theorem RdOk.more (h : RdOk w g q) (hq : q ≤ q') : RdOk w g q' := by obtain ⟨a, c, z, p, hp, h⟩ := h; exact ⟨a, c, z, p, Nat.le_trans hp hq, h⟩
theorem RdOk.kept {B : Nat} (h : RdOk w g q) (hb : Below B w w') (hg : g < B) : RdOk w' g q := by obtain ⟨a, c, z, p, hp, h⟩ := h; exact ⟨a, c, z, p, hp, h.kept hb hg⟩
theorem RdOk.grown {row : Option Nat} (h : RdOk w g q) (hb : w.grownBy w' row) (hg : ∀ r, row = some r → g < r) : RdOk w' g q := by obtain ⟨a, c, z, p, hp, h⟩ := h; exact ⟨a, c, z, p, hp, h.grown hb hg⟩
theorem RdOk.drewN (h : RdOk w g q) (n : Nat) : RdOk (w.drewN n) g q := by obtain ⟨a, c, z, p, hp, h⟩ := h; exact ⟨a, c, z, p, hp, h.drewN n⟩
theorem RdOk.alloc (h : RdOk w g q) (o : Obj) : RdOk (w.alloc o) g q := by obtain ⟨a, c, z, p, hp, h⟩ := h; exact ⟨a, c, z, p, hp, h.alloc o⟩
end

/-- A pick from n numbers, at least one. -/
theorem pick_ok (w : World) (g q : Nat) (n : Int) (h : RdOk w g q) (hq : q ≤ 1000000) (hn : 1 ≤ n) :
    Calls Try.prog 36 #[.pointer (some ⟨g, 0, none⟩), .int .i64 n] w fun e w' => ∃ x : Int, e = .returned (.int .i64 x) ∧ 0 ≤ x ∧ x < n ∧ RdOk w' g (q + 1) ∧ w.grownBy w' (some g) := by
  obtain ⟨a, c, z, p, hp, h⟩ := h
  refine (pick_any w g a c z p n h (by omega)).mono ?_
  rintro e w' ⟨x, he, h0, h1, hr, hg⟩
  exact ⟨x, he, h0, h1 hn, ⟨a, c, z, p + 1, by omega, hr⟩, hg⟩

end Go.Proofs.Ythgecmdmoghmpaa
