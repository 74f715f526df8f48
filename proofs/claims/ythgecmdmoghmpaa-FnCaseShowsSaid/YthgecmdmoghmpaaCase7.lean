
/-
  Contracts of the program's functions that count ways and ask for some way. Condition: lists of at most 2^20 numbers.
-/
import Derived.Test.YthgecmdmoghmpaaCase6
import Derived.Laws.EntriesVeiled
namespace Go.Proofs.Ythgecmdmoghmpaa
open Go.RowKit

def picked (sl tx fn : Value) : Array Value := #[sl, tx, .bool false, .bool false, .bool false, .bool false, .bool false, .bool false, .bool false, .bool false, .bool false, .bool false, fn]
theorem picker_new (w : World) (sl tx fn : Value) : Picker (w.alloc (.cells (picked sl tx fn) 51)) w.heap.size sl tx fn free := by
  refine ⟨(cell_new w _ _ 0).trans rfl, (cell_new w _ _ 1).trans rfl, fun i hi => ?_, (cell_new w _ _ 12).trans rfl, fun i => by go_simp, by simp⟩
  refine (cell_new w _ _ (2 + i)).trans ?_
  match i, hi with
  | 0, _ => rfl
  | 1, _ => rfl
  | 2, _ => rfl
  | 3, _ => rfl
  | 4, _ => rfl
  | 5, _ => rfl
  | 6, _ => rfl
  | 7, _ => rfl
  | 8, _ => rfl
  | 9, _ => rfl

set_option maxRecDepth 100000 in
theorem implCaseWays_any (w : World) (a : Option Addr) (cap : Nat) (rs : List (List Int)) (b : Option Addr) (cb : Nat) (ds : List Int) (h : Rods w a rs) (hs : RodsSmall rs) (hd : Row .i64 w b ds) (hdl : ds.length ≤ 1048576) :
    Calls Try.prog 23 #[.slice a rs.length cap, .slice b ds.length cb] w fun e w' => e = .returned (.int .i64 (caseWays rs ds)) ∧ Below w.heap.size w w' := by
  have H := Lib.hid h
  have HS := Lib.hid hs
  have HD := Lib.hid hd
  clear h hs hd
  cases hn : isNum ds
  · have HN := Lib.hid hn
    clear hn
    go_enter Try.func23, Try.ntmps23
    go_wp2_with fail
    refine (digitsOf_any _ _ _ _ HD.out (by omega)).mono ?_
    rintro e w1 ⟨rfl, b1⟩
    rw [HN.out]
    have B1 := Lib.hid b1
    clear b1
    go_wp2_with fail
    go_ret
    exact ⟨ret_z (caseWays_no2 HN.out).symm, B1.out⟩
  · cases hok : caseOk rs
    · have HO := Lib.hid hok
      have HN := Lib.hid hn
      clear hok hn
      go_enter Try.func23, Try.ntmps23
      go_wp2_with fail
      refine (digitsOf_any _ _ _ _ HD.out (by omega)).mono ?_
      rintro e w1 ⟨rfl, b1⟩
      rw [HN.out]
      have B1 := Lib.hid b1
      have R1 := Lib.hid (H.out.below b1)
      clear b1
      go_wp2_with fail
      refine (implCaseValid_any _ _ _ _ R1.out HS.out).mono ?_
      rintro e w2 ⟨rfl, b2⟩
      rw [HO.out]
      have B2 := Lib.hid (B1.out.trans (b2.mono B1.out.size))
      clear b2
      go_wp2_with fail
      go_ret
      exact ⟨ret_z (caseWays_no1 HO.out).symm, B2.out⟩
    · have HO := Lib.hid hok
      have HN := Lib.hid hn
      obtain ⟨hdg, hn1, hn6⟩ := isNum_parts hn
      obtain ⟨hl10, _⟩ := caseOk_parts hok
      have HDG := Lib.hid hdg
      have tt : numText ds = dtext ds := by simp [numText, hn]
      have TT := Lib.hid tt
      have wb := ways_bd (rs := rs) (ds := ds) (U := free) hl10 hn6
      clear hok hn hdg tt
      have hmf : ∀ (fn : Fn) (first cap : Array Value) (w : World), (Instr.makeFunc fn first cap).run Try.prog w = .ok (.func fn first cap) w := fun _ _ _ _ => rfl
      go_enter Try.func23, Try.ntmps23
      go_wp2_with fail
      refine (digitsOf_any _ _ _ _ HD.out (by omega)).mono ?_
      rintro e w1 ⟨rfl, b1⟩
      rw [HN.out, TT.out]
      have B1 := Lib.hid b1
      have R1 := Lib.hid (H.out.below b1)
      clear b1
      go_wp2_with fail
      refine (implCaseValid_any _ _ _ _ R1.out HS.out).mono ?_
      rintro e w2 ⟨rfl, b2⟩
      rw [HO.out]
      have B2 := Lib.hid (B1.out.trans (b2.mono B1.out.size))
      clear b2
      go_wp2_with fail
      have he : (w2.alloc (.cells #[.int .i64 0] 3)).heap.size = w2.heap.size + 1 := by simp
      have hb2 : Below w.heap.size w (w2.alloc (.cells #[.int .i64 0] 3)) := B2.out.alloc B2.out.size _
      have PN := picker_new (w2.alloc (.cells #[.int .i64 0] 3)) (.slice a rs.length cap) (.string (dtext ds)) (.func (.func 40) #[] #[.pointer (some ⟨w2.heap.size, 0, none⟩)])
      have B3 := hb2.alloc hb2.size (.cells (picked (.slice a rs.length cap) (.string (dtext ds)) (.func (.func 40) #[] #[.pointer (some ⟨w2.heap.size, 0, none⟩)])) 51)
      rw [he] at PN
      have C3 : ((w2.alloc (.cells #[.int .i64 0] 3)).alloc (.cells (picked (.slice a rs.length cap) (.string (dtext ds)) (.func (.func 40) #[] #[.pointer (some ⟨w2.heap.size, 0, none⟩)])) 51)).cell? ⟨w2.heap.size, 0, none⟩ = some (.int .i64 ((0 : Nat) : Int)) :=
        (World.cell?_alloc_lt _ _ _ (by rw [he]; exact Nat.lt_succ_self _)).trans ((cell_new w2 _ _ 0).trans rfl)
      have F3 : ((w2.alloc (.cells #[.int .i64 0] 3)).alloc (.cells (picked (.slice a rs.length cap) (.string (dtext ds)) (.func (.func 40) #[] #[.pointer (some ⟨w2.heap.size, 0, none⟩)])) 51)).frozen? ⟨w2.heap.size, 0, none⟩ = false := by go_simp
      have PW := pickWays_any w a cap rs H HS hl10 (w2.heap.size + 1) w2.heap.size (by have := B2.out.size; omega) B2.out.size (by omega) ds hn6 HDG (dtext ds) (Lib.hid rfl) (Lib.hid (dtext_size ds)) ds.length 0 0 _ free 0 rfl (by omega) B3 PN C3 F3 (by simpa using wb)
      rw [List.drop_zero, Nat.zero_add] at PW
      clear PN B3 C3 F3 hb2 he
      refine PW.mono ?_
      clear PW
      rintro e w3 ⟨rfl, _, c3, _, b3⟩
      have B3 := Lib.hid b3
      clear b3
      generalize hwy : ways rs ds free = wy at *
      have HWY := Lib.hid hwy
      clear hwy
      go_wp2_with fail
      go_ret
      exact ⟨ret_z (by rw [caseWays_yes HO.out HN.out, HWY.out]), B3.out⟩
set_option maxRecDepth 100000 in
theorem implCaseShows_any (w : World) (a : Option Addr) (cap : Nat) (rs : List (List Int)) (b : Option Addr) (cb : Nat) (ds : List Int) (h : Rods w a rs) (hs : RodsSmall rs) (hd : Row .i64 w b ds) (hdl : ds.length ≤ 1048576) :
    Calls Try.prog 13 #[.slice a rs.length cap, .slice b ds.length cb] w fun e w' => e = .returned (.bool (caseShows rs ds)) ∧ Below w.heap.size w w' := by
  have H := Lib.hid h
  have HS := Lib.hid hs
  have HD := Lib.hid hd
  clear h hs hd
  cases hn : isNum ds
  · have HN := Lib.hid hn
    clear hn
    go_enter Try.func13, Try.ntmps13
    go_wp2_with fail
    refine (digitsOf_any _ _ _ _ HD.out (by omega)).mono ?_
    rintro e w1 ⟨rfl, b1⟩
    rw [HN.out]
    have B1 := Lib.hid b1
    clear b1
    go_wp2_with fail
    go_ret
    exact ⟨ret_b (caseShows_no2 HN.out).symm, B1.out⟩
  · cases hok : caseOk rs
    · have HO := Lib.hid hok
      have HN := Lib.hid hn
      clear hok hn
      go_enter Try.func13, Try.ntmps13
      go_wp2_with fail
      refine (digitsOf_any _ _ _ _ HD.out (by omega)).mono ?_
      rintro e w1 ⟨rfl, b1⟩
      rw [HN.out]
      have B1 := Lib.hid b1
      have R1 := Lib.hid (H.out.below b1)
      clear b1
      go_wp2_with fail
      refine (implCaseValid_any _ _ _ _ R1.out HS.out).mono ?_
      rintro e w2 ⟨rfl, b2⟩
      rw [HO.out]
      have B2 := Lib.hid (B1.out.trans (b2.mono B1.out.size))
      clear b2
      go_wp2_with fail
      go_ret
      exact ⟨ret_b (caseShows_no1 HO.out).symm, B2.out⟩
    · have HO := Lib.hid hok
      have HN := Lib.hid hn
      obtain ⟨hdg, hn1, hn6⟩ := isNum_parts hn
      obtain ⟨hl10, _⟩ := caseOk_parts hok
      have HDG := Lib.hid hdg
      have tt : numText ds = dtext ds := by simp [numText, hn]
      have TT := Lib.hid tt
      clear hok hn hdg tt
      have hmf : ∀ (fn : Fn) (first cap : Array Value) (w : World), (Instr.makeFunc fn first cap).run Try.prog w = .ok (.func fn first cap) w := fun _ _ _ _ => rfl
      go_enter Try.func13, Try.ntmps13
      go_wp2_with fail
      refine (digitsOf_any _ _ _ _ HD.out (by omega)).mono ?_
      rintro e w1 ⟨rfl, b1⟩
      rw [HN.out, TT.out]
      have B1 := Lib.hid b1
      have R1 := Lib.hid (H.out.below b1)
      clear b1
      go_wp2_with fail
      refine (implCaseValid_any _ _ _ _ R1.out HS.out).mono ?_
      rintro e w2 ⟨rfl, b2⟩
      rw [HO.out]
      have B2 := Lib.hid (B1.out.trans (b2.mono B1.out.size))
      clear b2
      go_wp2_with fail
      have he : (w2.alloc (.cells #[.bool false] 4)).heap.size = w2.heap.size + 1 := by simp
      have hb2 : Below w.heap.size w (w2.alloc (.cells #[.bool false] 4)) := B2.out.alloc B2.out.size _
      have PN := picker_new (w2.alloc (.cells #[.bool false] 4)) (.slice a rs.length cap) (.string (dtext ds)) (.func (.func 27) #[] #[.pointer (some ⟨w2.heap.size, 0, none⟩)])
      have B3 := hb2.alloc hb2.size (.cells (picked (.slice a rs.length cap) (.string (dtext ds)) (.func (.func 27) #[] #[.pointer (some ⟨w2.heap.size, 0, none⟩)])) 51)
      rw [he] at PN
      have C3 : ((w2.alloc (.cells #[.bool false] 4)).alloc (.cells (picked (.slice a rs.length cap) (.string (dtext ds)) (.func (.func 27) #[] #[.pointer (some ⟨w2.heap.size, 0, none⟩)])) 51)).cell? ⟨w2.heap.size, 0, none⟩ = some (.bool false) :=
        (World.cell?_alloc_lt _ _ _ (by rw [he]; exact Nat.lt_succ_self _)).trans ((cell_new w2 _ _ 0).trans rfl)
      have F3 : ((w2.alloc (.cells #[.bool false] 4)).alloc (.cells (picked (.slice a rs.length cap) (.string (dtext ds)) (.func (.func 27) #[] #[.pointer (some ⟨w2.heap.size, 0, none⟩)])) 51)).frozen? ⟨w2.heap.size, 0, none⟩ = false := by go_simp
      have PW := pickShows_any w a cap rs H HS hl10 (w2.heap.size + 1) w2.heap.size (by have := B2.out.size; omega) B2.out.size (by omega) ds hn6 HDG (dtext ds) (Lib.hid rfl) (Lib.hid (dtext_size ds)) ds.length 0 0 _ free rfl (by omega) B3 PN C3 F3
      rw [List.drop_zero] at PW
      clear PN B3 C3 F3 hb2 he
      refine PW.mono ?_
      clear PW
      rintro e w3 ⟨rfl, _, c3, _, b3⟩
      have B3 := Lib.hid b3
      clear b3
      generalize hwy : decide (0 < ways rs ds free) = wy at *
      have HWY := Lib.hid hwy
      clear hwy
      go_wp2_with fail
      go_ret
      exact ⟨ret_b (by rw [caseShows_yes HO.out HN.out, HWY.out]), B3.out⟩
end Go.Proofs.Ythgecmdmoghmpaa
