
/-
  Contracts of the functions that ask whether a list are units; the chain of units in memory. Condition: lists of at most 2^20 numbers.
-/
import Derived.Test.YtapcnpkaphdlkaaDoorDig
import Derived.Test.YtapcnpkaphdlkaaDoorCommon
import Derived.Deep.QuietTactic
import Derived.BigQuiet
namespace Go.Proofs.YtapcnpkaphdlkaaDoor
open Go.RowKit

/-- Each number is greater than the one before, none too great. -/
def asc : Int → List Int → Bool
  | _, [] => true
  | last, x :: xs => inB x (last + 1) 1000000000 && asc x xs
def isUnits (zs : List Int) : Bool := asc 1 zs && decide ((zs.length : Int) ≤ 8)
/-- The same from the end on. -/
def under (x : Int) : List Int → Bool
  | [] => true
  | y :: _ => decide (x < y)
def good : List Int → Bool
  | [] => true
  | x :: xs => inB x 2 1000000000 && under x xs && good xs
theorem good_asc : ∀ (zs : List Int) (last : Int), 1 ≤ last → asc last zs = (good zs && under last zs)
  | [], _, _ => rfl
  | x :: xs, last, h => by
    rw [asc, good, under]
    by_cases h1 : last < x
    · by_cases h2 : x ≤ 1000000000
      · rw [good_asc xs x (by omega), inB_mk (by omega) h2, inB_mk (by omega) h2]
        simp [h1, Bool.and_comm]
      · rw [inB_hi (by omega), inB_hi (by omega)]
        rfl
    · rw [inB_lo (by omega)]
      simp [h1]
theorem asc_good (zs : List Int) : asc 1 zs = good zs := by
  rw [good_asc zs 1 (by omega)]
  cases zs with
  | nil => rfl
  | cons x xs =>
    cases hg : good (x :: xs)
    · rfl
    · have : inB x 2 1000000000 = true := by
        rw [good] at hg
        simp only [Bool.and_eq_true] at hg
        exact hg.1.1
      have h2 := inB_true this
      simp [under]
      omega
theorem good_mem : ∀ {zs : List Int}, good zs = true → ∀ x ∈ zs, 2 ≤ x ∧ x ≤ 1000000000
  | [], _, x, hx => by simp at hx
  | y :: ys, h, x, hx => by
    rw [good] at h
    simp only [Bool.and_eq_true] at h
    rcases List.mem_cons.1 hx with rfl | hx
    · exact inB_true h.1.1
    · exact good_mem h.2 x hx
theorem isUnits_parts {zs : List Int} (h : isUnits zs = true) : good zs = true ∧ zs.length ≤ 8 := by
  rw [isUnits, asc_good] at h
  simp only [Bool.and_eq_true, decide_eq_true_eq] at h
  exact ⟨h.1, by omega⟩
theorem isUnits_bad {zs : List Int} (h : good zs = false) : isUnits zs = false := by rw [isUnits, asc_good, h]; rfl
theorem isUnits_long {zs : List Int} (h : 8 < zs.length) : isUnits zs = false := by
  have : decide ((zs.length : Int) ≤ 8) = false := decide_eq_false (by omega)
  rw [isUnits, this, Bool.and_false]
theorem isUnits_yes {zs : List Int} (h : good zs = true) (h8 : zs.length ≤ 8) : isUnits zs = true := by
  have : decide ((zs.length : Int) ≤ 8) = true := decide_eq_true (by omega)
  rw [isUnits, asc_good, h, this]
  rfl
theorem good_drop : ∀ {zs : List Int}, good zs = true → ∀ k, good (zs.drop k) = true
  | [], _, k => by simp [good]
  | x :: xs, h, 0 => h
  | x :: xs, h, k + 1 => by
    rw [good] at h
    simp only [Bool.and_eq_true] at h
    exact good_drop h.2 k
theorem good_not {zs : List Int} {t : Nat} (h : good (zs.drop t) = false) : good zs = false := by
  cases hg : good zs
  · rfl
  · rw [good_drop hg t] at h
    cases h
theorem drop_cons' {zs : List Int} {t : Nat} (h : t < zs.length) : zs.drop t = nth zs t :: zs.drop (t + 1) := by
  rw [List.drop_eq_getElem_cons h, nth_of zs t h]

theorem specUnitsValid_any (w : World) (a : Option Addr) (cap : Nat) (zs : List Int) (h : Row .i64 w a zs) (hl : zs.length ≤ 2000000) :
    Calls Tryd.prog 16 #[.slice a zs.length cap] w fun e w' => e = .returned (.bool (isUnits zs)) ∧ w = w' := by
  have H := Lib.hid h
  clear h
  go_enter Tryd.func16, Tryd.ntmps16
  go_wp2_with fail
  go_loop [3, 4] (fun l i => ∃ k : Nat, ∃ last : Int, k ≤ zs.length ∧ i = .int .i64 k ∧ l = .int .i64 last ∧ 1 ≤ last ∧ last ≤ 1000000000 ∧ asc 1 zs = asc last (zs.drop k)) (fun _ i => zs.length - (intOf i).toNat)
  case atStart => exact ⟨0, 1, Nat.zero_le _, rfl, rfl, by omega, by omega, rfl⟩
  case round =>
    obtain ⟨k, last, hk, rfl, rfl, l1, l2, hd⟩ := hrel
    have HD := Lib.hid hd
    clear hd
    by_cases hlt : k < zs.length
    · obtain ⟨b, off, rfl, _, hc⟩ := H.out.at_ hlt
      have E := Lib.hid (show asc 1 zs = (inB (nth zs k) (last + 1) 1000000000 && asc (nth zs k) (zs.drop (k + 1))) by rw [HD.out, drop_cons' hlt]; rfl)
      cases hx : inB (nth zs k) (last + 1) 1000000000
      · have HX := Lib.hid hx
        clear hx
        go_wp2_with fail
        refine (l6In_any _ _ _ _).mono ?_
        rintro e w' ⟨rfl, rfl⟩
        rw [HX.out]
        go_wp2_with fail
        go_ret
        exact ⟨by rw [isUnits, E.out, HX.out]; rfl, rfl⟩
      · obtain ⟨x1, x2⟩ := inB_true hx
        have HX := Lib.hid hx
        clear hx
        go_wp2_with fail
        refine (l6In_any _ _ _ _).mono ?_
        rintro e w' ⟨rfl, rfl⟩
        rw [HX.out]
        go_wp2_with fail
        go_round
        case rel => exact ⟨k + 1, _, by omega, by go_num, rfl, by omega, x2, by rw [E.out, HX.out, Bool.true_and]⟩
        case measure => simp [intOf]; omega
    · go_wp2_with fail
      go_ret
      refine ⟨?_, rfl⟩
      have hd := HD.out
      rw [List.drop_of_length_le (by omega)] at hd
      rw [isUnits, hd]
      rfl

/-- A chain of units in blocks from lo on and below hi. -/
def Chain (w : World) (lo hi : Nat) : Option Addr → List Int → Prop
  | p, [] => p = none
  | p, x :: xs => ∃ g next, p = some ⟨g, 0, none⟩ ∧ lo ≤ g ∧ g < hi ∧ w.heap[g]? = some (.cells #[.int .i64 x, .pointer next] 38 (0, 0)) ∧ Chain w lo hi next xs
theorem Chain.below {lo hi : Nat} {w w' : World} (hb : Below hi w w') : ∀ {p : Option Addr} {zs : List Int}, Chain w lo hi p zs → Chain w' lo hi p zs
  | _, [], h => h
  | _, _ :: _, ⟨g, next, h1, h2, h3, h4, h5⟩ => ⟨g, next, h1, h2, h3, (hb.block g h3).trans h4, Chain.below hb h5⟩
theorem Chain.mono {lo hi hi' : Nat} {w : World} (h : hi ≤ hi') : ∀ {p : Option Addr} {zs : List Int}, Chain w lo hi p zs → Chain w lo hi' p zs
  | _, [], h => h
  | _, _ :: _, ⟨g, next, h1, h2, h3, h4, h5⟩ => ⟨g, next, h1, h2, Nat.lt_of_lt_of_le h3 h, h4, Chain.mono h h5⟩
theorem Chain.down {lo lo' hi : Nat} {w : World} (h : lo' ≤ lo) : ∀ {p : Option Addr} {zs : List Int}, Chain w lo hi p zs → Chain w lo' hi p zs
  | _, [], h => h
  | _, _ :: _, ⟨g, next, h1, h2, h3, h4, h5⟩ => ⟨g, next, h1, Nat.le_trans h h2, h3, h4, Chain.down h h5⟩
theorem Chain.drewN {lo hi : Nat} {w : World} {p : Option Addr} {zs : List Int} (h : Chain w lo hi p zs) (n : Nat) : Chain (w.drewN n) lo hi p zs :=
  Chain.below (below_drewN (Below.refl hi w) n) h
theorem Chain.push {lo : Nat} {w : World} {p : Option Addr} {zs : List Int} (h : Chain w lo w.heap.size p zs) (hlo : lo ≤ w.heap.size) (x : Int) :
    Chain (w.alloc (.cells #[.int .i64 x, .pointer p] 38)) lo (w.heap.size + 1) (some ⟨w.heap.size, 0, none⟩) (x :: zs) :=
  ⟨w.heap.size, p, rfl, hlo, by omega, heap_alloc_new w _, Chain.mono (by omega) (Chain.below ((Below.refl _ _).alloc (Nat.le_refl _) _) h)⟩

/-- What unitsOf hands back. -/
def Units (w : World) (zs : List Int) (e : Ending) (w' : World) : Prop :=
  ∃ p, e = .returned (.tuple #[.pointer p, .bool (isUnits zs)]) ∧ (isUnits zs = true → Chain w' w.heap.size w'.heap.size p zs) ∧ (isUnits zs = false → p = none) ∧ Below w.heap.size w w'
theorem units_no {w w' : World} {zs : List Int} (h : isUnits zs = false) (hb : Below w.heap.size w w') : Units w zs (.returned (.tuple #[.pointer none, .bool false])) w' :=
  ⟨none, by rw [h], (fun h' => by (rw [h] at h'; cases h')), fun _ => rfl, hb⟩

set_option maxRecDepth 100000 in
theorem unitsOf_any (w : World) (a : Option Addr) (cap : Nat) (zs : List Int) (h : Row .i64 w a zs) (hl : zs.length ≤ 2000000) :
    Calls Tryd.prog 17 #[.slice a zs.length cap] w (Units w zs) := by
  have H := Lib.hid h
  clear h
  by_cases h8 : 8 < zs.length
  · have E := Lib.hid (isUnits_long h8)
    go_enter Tryd.func17, Tryd.ntmps17
    go_wp2_with fail
    go_ret2
    exact units_no E.out (Below.refl _ _)
  · go_enter Tryd.func17, Tryd.ntmps17
    go_wp2_with fail
    go_loopw [4, 5] (fun p i wr => ∃ t : Nat, ∃ q : Option Addr, t ≤ zs.length ∧ p = .pointer q ∧ i = .int .i64 ((t : Int) - 1) ∧ good (zs.drop t) = true ∧ Chain wr w.heap.size wr.heap.size q (zs.drop t) ∧ Below w.heap.size w wr) (fun _ i _ => (intOf i + 1).toNat)
    case atStart => exact ⟨zs.length, none, Nat.le_refl _, rfl, rfl, by simp [good], by simp [Chain], Below.refl _ _⟩
    case round =>
      obtain ⟨t, q, ht, rfl, rfl, hg, hc, hb⟩ := hrel
      have hs := hb.size
      have HG := Lib.hid hg
      have HB := Lib.hid hb
      clear hg hb
      by_cases h0 : t = 0
      · subst h0
        have E := Lib.hid (isUnits_yes (zs := zs) HG.out (by omega))
        have HC := Lib.hid hc
        clear hc
        go_wp2_with fail
        go_ret2
        exact ⟨q, by rw [E.out]; rfl, fun _ => HC.out, fun h' => by (rw [E.out] at h'; cases h'), HB.out⟩
      · obtain ⟨t, rfl⟩ : ∃ t', t = t' + 1 := ⟨t - 1, by omega⟩
        have hlt : t < zs.length := by omega
        obtain ⟨b, off, rfl, _, hcell⟩ := (H.out.below HB.out).at_ hlt
        have D := Lib.hid (drop_cons' hlt)
        have NO := Lib.hid (fun hbad : good (zs.drop t) = false => isUnits_bad (good_not hbad))
        generalize hx : nth zs t = x at *
        have HX := Lib.hid hx
        clear hx
        have ei : ((t : Int) + 1 - 1) = t := by omega
        by_cases h1 : x < 2
        · have E := Lib.hid (NO.out (by rw [D.out, good, inB_lo h1]; rfl))
          have d1 : decide (x < 2) = true := decide_eq_true h1
          clear hc
          go_wp2_with fail
          go_quiet (fail)
          go_wp2_with fail
          go_ret2
          exact units_no E.out (below_drewN HB.out _)
        · have d1 : decide (x < 2) = false := decide_eq_false h1
          by_cases h2 : 1000000000 < x
          · have E := Lib.hid (NO.out (by rw [D.out, good, inB_hi h2]; rfl))
            have d2 : decide (1000000000 < x) = true := decide_eq_true h2
            clear hc
            go_wp2_with fail
            go_quiet (fail)
            go_wp2_with fail
            go_ret2
            exact units_no E.out (below_drewN HB.out _)
          · have d2 : decide (1000000000 < x) = false := decide_eq_false h2
            have I := Lib.hid (inB_mk (show 2 ≤ x by omega) (show x ≤ 1000000000 by omega))
            generalize zs.drop (t + 1) = tail at *
            cases tail with
            | nil =>
              have C := Lib.hid (fun n => Chain.push (w := wr.drewN n) (hc.drewN n) hs x)
              obtain rfl : q = none := hc
              have G := Lib.hid (show good (zs.drop t) = true by rw [D.out, good, I.out]; rfl)
              go_wp2_with fail
              go_quiet (fail)
              go_wp2_with fail
              go_roundw
              case rel => exact ⟨t, _, by omega, rfl, by go_num, G.out, by rw [D.out]; simpa using C.out _, (below_drewN HB.out _).alloc hs _⟩
              case measure => (simp [intOf]) <;> omega
            | cons y ys =>
              have C := Lib.hid (fun n => Chain.push (w := wr.drewN n) (hc.drewN n) hs x)
              obtain ⟨g, next, rfl, g0, g1, hblk, hrest⟩ := hc
              have cy : wr.cell? ⟨g, 0, none⟩ = some (.int .i64 y) := by rw [cell_of_row wr g 0 _ _ _ hblk]; rfl
              clear hblk hrest
              by_cases h3 : y ≤ x
              · have E := Lib.hid (NO.out (by rw [D.out, good, I.out, under, decide_eq_false (by omega)]; rfl))
                have d3 : decide (y ≤ x) = true := decide_eq_true h3
                go_wp2_with fail
                go_quiet (fail)
                go_wp2_with fail
                go_ret2
                exact units_no E.out (below_drewN HB.out _)
              · have G := Lib.hid (show good (zs.drop t) = true by rw [D.out, good, I.out, under, decide_eq_true (by omega), HG.out]; rfl)
                have d3 : decide (y ≤ x) = false := decide_eq_false h3
                go_wp2_with fail
                go_quiet (fail)
                go_wp2_with fail
                go_roundw
                case rel => exact ⟨t, _, by omega, rfl, by go_num, G.out, by rw [D.out]; simpa using C.out _, (below_drewN HB.out _).alloc hs _⟩
                case measure => (simp [intOf]) <;> omega

end Go.Proofs.YtapcnpkaphdlkaaDoor
