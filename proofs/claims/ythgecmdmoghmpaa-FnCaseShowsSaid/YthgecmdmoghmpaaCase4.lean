
/-
  Contracts of the reference's functions that count ways and ask for some way. Condition: lists of at most 2^20 numbers.
-/
import Derived.Test.YthgecmdmoghmpaaCase3
namespace Go.Proofs.Ythgecmdmoghmpaa
open Go.RowKit

def caseWays (rs : List (List Int)) (ds : List Int) : Int := if caseOk rs && isNum ds then ((ways rs ds free : Nat) : Int) else -1
def caseShows (rs : List (List Int)) (ds : List Int) : Bool := caseOk rs && isNum ds && decide (0 < ways rs ds free)
theorem caseWays_no1 {rs : List (List Int)} {ds : List Int} (h : caseOk rs = false) : caseWays rs ds = -1 := by simp [caseWays, h]
theorem caseWays_no2 {rs : List (List Int)} {ds : List Int} (h : isNum ds = false) : caseWays rs ds = -1 := by simp [caseWays, h]
theorem caseWays_yes {rs : List (List Int)} {ds : List Int} (h : caseOk rs = true) (h2 : isNum ds = true) : caseWays rs ds = ((ways rs ds free : Nat) : Int) := by simp [caseWays, h, h2]
theorem caseShows_no1 {rs : List (List Int)} {ds : List Int} (h : caseOk rs = false) : caseShows rs ds = false := by simp [caseShows, h]
theorem caseShows_no2 {rs : List (List Int)} {ds : List Int} (h : isNum ds = false) : caseShows rs ds = false := by simp [caseShows, h]
theorem caseShows_yes {rs : List (List Int)} {ds : List Int} (h : caseOk rs = true) (h2 : isNum ds = true) : caseShows rs ds = decide (0 < ways rs ds free) := by simp [caseShows, h, h2]
theorem caseShows_ways (rs : List (List Int)) (ds : List Int) : decide (0 < caseWays rs ds) = caseShows rs ds := by
  cases h : caseOk rs
  · rw [caseWays_no1 h, caseShows_no1 h]; rfl
  · cases h2 : isNum ds
    · rw [caseWays_no2 h2, caseShows_no2 h2]; rfl
    · rw [caseWays_yes h h2, caseShows_yes h h2]
      by_cases h3 : 0 < ways rs ds free
      · rw [decide_eq_true h3, decide_eq_true (by omega)]
      · rw [decide_eq_false h3, decide_eq_false (by omega)]
theorem bool_info : (Try.prog.info? 4).map (fun i => (i.zero, i.size, i.bytes)) = some (some (.bool false), 1, 1) := by kernel_rfl
theorem flags_made {w : World} {lo g n : Nat} (h : w.ownsRow lo 4 1 (.slice (some ⟨g, 0, none⟩) n n) n (madeCells (Value.bool false).cells (n * 1)).toList) : Flags w g n free := by
  refine ⟨fun i hi => ?_, fun i => h.frozenAt i, (h.lt g rfl).2⟩
  rw [h.cellAt i (by omega)]
  simp [madeCells, Value.cells, Nat.mod_one, free, hi]

theorem specCaseWays_any (w : World) (a : Option Addr) (cap : Nat) (rs : List (List Int)) (b : Option Addr) (cb : Nat) (ds : List Int) (h : Rods w a rs) (hs : RodsSmall rs) (hd : Row .i64 w b ds) (hdl : ds.length ≤ 1048576) (hdc : ds.length ≤ cb) (hcb : cb ≤ maxLen) :
    Calls Try.prog 22 #[.slice a rs.length cap, .slice b ds.length cb] w fun e w' => e = .returned (.int .i64 (caseWays rs ds)) ∧ Below w.heap.size w w' := by
  have H := Lib.hid h
  have HS := Lib.hid hs
  have HD := Lib.hid hd
  clear h hs hd
  cases hok : caseOk rs
  · have HO := Lib.hid hok
    clear hok
    go_enter Try.func22, Try.ntmps22
    go_wp2_with fail
    refine (specCaseValid_any _ _ _ _ H.out HS.out).mono ?_
    rintro e w' ⟨rfl, rfl⟩
    rw [HO.out]
    go_wp2_with fail
    go_ret
    exact ⟨ret_z (caseWays_no1 HO.out).symm, Below.refl _ _⟩
  · cases hn : isNum ds
    · have HO := Lib.hid hok
      have HN := Lib.hid hn
      clear hok hn
      go_enter Try.func22, Try.ntmps22
      go_wp2_with fail
      refine (specCaseValid_any _ _ _ _ H.out HS.out).mono ?_
      rintro e w' ⟨rfl, rfl⟩
      rw [HO.out]
      go_wp2_with fail
      refine (specNumeralValid_any _ _ _ _ HD.out (by omega)).mono ?_
      rintro e w' ⟨rfl, rfl⟩
      rw [HN.out]
      go_wp2_with fail
      go_ret
      exact ⟨ret_z (caseWays_no2 HN.out).symm, Below.refl _ _⟩
    · have HO := Lib.hid hok
      have HN := Lib.hid hn
      obtain ⟨_, _, hn6⟩ := isNum_parts hn
      obtain ⟨hl10, _⟩ := caseOk_parts hok
      obtain ⟨i0, hi, hz0, hz1, hz2⟩ := info_parts bool_info
      have HZ2 := Lib.hid hz2
      clear hok hn
      go_enter Try.func22, Try.ntmps22
      go_wp2_with fail
      refine (specCaseValid_any _ _ _ _ H.out HS.out).mono ?_
      rintro e w' ⟨rfl, rfl⟩
      rw [HO.out]
      go_wp2_with fail
      refine (specNumeralValid_any _ _ _ _ HD.out (by omega)).mono ?_
      rintro e w' ⟨rfl, rfl⟩
      rw [HN.out]
      go_wp2_with (refine wpList_make_full _ rfl _ _ 62 rfl w.heap.size 4 i0 (.bool false) 1 Try.underlying62 hi hz0 hz1 .i64 .i64 _ _ rs.length rfl rfl rfl rfl (by rw [hz2]; omega) (by unfold maxLen; omega) (Nat.le_refl _) ?_; intro w1 hown hgrow)
      have FL := Lib.hid (flags_made hown)
      have B1 := Lib.hid (show Below w.heap.size w w1 from (Below.refl _ _).grown hgrow (Nat.le_refl _) (fun k hk => by cases hk))
      clear hown hgrow hi hz0 hz1 hz2
      go_wp2_with fail
      refine (l3Ways_any w a cap rs H HS hl10 w.heap.size rs.length (Nat.le_refl _) ds b cb w1 free HD.out hn6 hdc hcb B1.out FL.out).mono ?_
      rintro e w2 ⟨rfl, _, b2⟩
      have B2 := Lib.hid b2
      clear b2
      go_wp2_with fail
      go_ret
      exact ⟨ret_z (caseWays_yes HO.out HN.out).symm, B2.out⟩

theorem specCaseShows_any (w : World) (a : Option Addr) (cap : Nat) (rs : List (List Int)) (b : Option Addr) (cb : Nat) (ds : List Int) (h : Rods w a rs) (hs : RodsSmall rs) (hd : Row .i64 w b ds) (hdl : ds.length ≤ 1048576) (hdc : ds.length ≤ cb) (hcb : cb ≤ maxLen) :
    Calls Try.prog 10 #[.slice a rs.length cap, .slice b ds.length cb] w fun e w' => e = .returned (.bool (caseShows rs ds)) ∧ Below w.heap.size w w' := by
  have H := Lib.hid h
  have HS := Lib.hid hs
  have HD := Lib.hid hd
  have E := Lib.hid (caseShows_ways rs ds)
  clear h hs hd
  go_enter Try.func10, Try.ntmps10
  go_wp2_with fail
  refine (specCaseWays_any _ _ _ _ _ _ _ H.out HS.out HD.out hdl hdc hcb).mono ?_
  rintro e w1 ⟨rfl, b1⟩
  have B1 := Lib.hid b1
  clear b1
  go_wp2_with fail
  go_ret
  exact ⟨ret_b E.out, B1.out⟩
end Go.Proofs.Ythgecmdmoghmpaa
