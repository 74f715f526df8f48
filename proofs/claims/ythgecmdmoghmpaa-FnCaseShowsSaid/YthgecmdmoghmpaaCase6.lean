
/-
  The contract of the program's picker of rods, for the closure of CaseShows: it stops at the first way. Condition: at most 10 rods, at most 6 digits.
-/
import Derived.Test.YthgecmdmoghmpaaCase5
namespace Go.Proofs.Ythgecmdmoghmpaa
open Go.RowKit

theorem caseShows1_any (w : World) (q : Nat) (h : w.cell? ⟨q, 0, none⟩ = some (.bool false)) (hf : w.frozen? ⟨q, 0, none⟩ = false) :
    Calls Try.prog 27 #[.pointer (some ⟨q, 0, none⟩)] w fun e w' => e = .returned (.bool false) ∧ w' = w.setCell ⟨q, 0, none⟩ (.bool true) := by
  go_enter Try.func27, Try.ntmps27
  go_wp2_with fail
  go_ret
  exact ⟨rfl, rfl⟩

set_option maxRecDepth 100000 in
set_option maxHeartbeats 1000000 in
theorem pickShows_any (W0 : World) (a : Option Addr) (cap : Nat) (rs : List (List Int)) (HR : Hid (Rods W0 a rs)) (HS : Hid (RodsSmall rs)) (hl : rs.length ≤ 10) (p q : Nat) (hp : W0.heap.size ≤ p) (hq : W0.heap.size ≤ q) (hpq : p ≠ q)
    (ds : List Int) (hdl : ds.length ≤ 6) (HD : Hid (digs ds = true)) (tx : ByteArray) (HT : Hid (tx = dtext ds)) (hsz : Hid (tx.size = ds.length)) :
    ∀ (m at_ : Nat) (x : Int) (W : World) (U : Nat → Bool), x = (at_ : Int) → at_ + m = ds.length → Below W0.heap.size W0 W → Picker W p (.slice a rs.length cap) (.string tx) (.func (.func 27) #[] #[.pointer (some ⟨q, 0, none⟩)]) U →
      W.cell? ⟨q, 0, none⟩ = some (.bool false) → W.frozen? ⟨q, 0, none⟩ = false →
      Calls Try.prog 28 #[.pointer (some ⟨p, 0, none⟩), .int .i64 x] W fun e W' => e = .returned (.bool (!decide (0 < ways rs (ds.drop at_) U))) ∧
        Picker W' p (.slice a rs.length cap) (.string tx) (.func (.func 27) #[] #[.pointer (some ⟨q, 0, none⟩)]) U ∧
        W'.cell? ⟨q, 0, none⟩ = some (.bool (decide (0 < ways rs (ds.drop at_) U))) ∧ W'.frozen? ⟨q, 0, none⟩ = false ∧ Below W0.heap.size W0 W' := by
  intro m
  induction m with
  | zero =>
    intro at_ x W U hxa hat hB hP hc hf
    subst hxa
    have BB := Lib.hid hB
    have PP := Lib.hid hP
    have k0 := hP.c1
    have k12 := hP.c12
    have e0 : ((at_ : Int) == (tx.size : Int)) = true := by rw [beq_iff_eq, hsz.out]; omega
    have e0' : (at_ == tx.size) = true := by rw [beq_iff_eq, hsz.out]; omega
    have hd : ways rs (ds.drop at_) U = 1 := by rw [List.drop_of_length_le (by omega)]; rfl
    have HDD := Lib.hid hd
    have HAT := Lib.hid hat
    clear hB hP hd hat
    go_enter Try.func28, Try.ntmps28
    go_wp2_with fail
    refine (caseShows1_any _ q hc hf).mono ?_
    rintro e w' ⟨rfl, rfl⟩
    go_wp2_with fail
    go_ret
    exact ⟨ret_b (by rw [HDD.out]; rfl), PP.out.far hpq, by rw [HDD.out]; exact World.cell?_setCell_same _ _ _ hc, by rw [World.frozen?_setCell]; exact hf, BB.out.setCell hq _⟩
  | succ m ih =>
    intro at_ x W U hxa hat hB hP hc hf
    subst hxa
    have BB := Lib.hid hB
    have PP := Lib.hid hP
    have HC := Lib.hid hc
    have HF := Lib.hid hf
    have IH := Lib.hid ih
    have k0 := hP.c0
    have k1 := hP.c1
    have hlt0 : at_ < ds.length := by omega
    have e0 : ((at_ : Int) == (tx.size : Int)) = false := beq_eq_false_iff_ne.2 (by have := hsz.out; omega)
    have e0' : (at_ == tx.size) = false := beq_eq_false_iff_ne.2 (by have := hsz.out; omega)
    have hdrop : ds.drop at_ = nth ds at_ :: ds.drop (at_ + 1) := by rw [List.drop_eq_getElem_cons hlt0, nth_of ds at_ hlt0]
    rw [hdrop]
    have DA := Lib.hid (fun W : World => digitAt_num ds HD.out (by omega) tx HT.out at_ hlt0 W)
    have hat7 : at_ ≤ 6 := by omega
    generalize nth ds at_ = d at *
    have HAT := Lib.hid hat
    have HDR := Lib.hid hdrop
    clear hB hP hc hf ih hat hdrop
    generalize hes : ds.drop (at_ + 1) = es at *
    have HES := Lib.hid hes
    clear hes
    go_enter Try.func28, Try.ntmps28
    go_wp2_with fail
    clear k0 k1
    go_loopw [25] (fun i wr => ∃ k : Nat, k ≤ rs.length ∧ i = .int .i64 k ∧ Picker wr p (.slice a rs.length cap) (.string tx) (.func (.func 27) #[] #[.pointer (some ⟨q, 0, none⟩)]) U ∧
      wr.cell? ⟨q, 0, none⟩ = some (.bool false) ∧ waysTo rs (ways rs es) d U k = 0 ∧ wr.frozen? ⟨q, 0, none⟩ = false ∧ Below W0.heap.size W0 wr) (fun i _ => rs.length - (intOf i).toNat)
    case atStart => exact ⟨0, Nat.zero_le _, rfl, PP.out, HC.out, rfl, HF.out, BB.out⟩
    case round =>
      obtain ⟨k, hk, rfl, hP, hc, hz, hf, hB⟩ := hrel
      have HZ := Lib.hid hz
      clear hz
      have BB := Lib.hid hB
      have PP := Lib.hid hP
      have HC := Lib.hid hc
      have HF := Lib.hid hf
      have hplt := hP.lt
      clear hB hP hc hf
      by_cases hlt : k < rs.length
      · obtain ⟨b1, o1, a1, c1, rfl, _, hcell, _, _, hrow⟩ := (HR.out.below BB.out).at_ hlt
        have j1 : (k : Int) < (rs.length : Int) := by omega
        have j2 : (k : Int) < 10 := by omega
        have hsmall := HS.out.2 k hlt
        have hal : Below wr.heap.size wr (wr.alloc (.cells #[.slice a1 (rod rs k).length c1] 41)) := (Below.refl _ _).alloc (Nat.le_refl _) _
        have P1 := Lib.hid (PP.out.below hal)
        have R1 := Lib.hid (hrow.below hal)
        have B1 := Lib.hid (BB.out.trans (hal.mono BB.out.size))
        have hqlt : q < wr.heap.size := World.block_lt_of_cell? wr _ HC.out
        have C1 := Lib.hid ((hal.cell (p := ⟨q, 0, none⟩) hqlt).trans HC.out)
        have F1 := Lib.hid ((hal.frozen (p := ⟨q, 0, none⟩) hqlt).trans HF.out)
        have Z1 := Lib.hid (cell_new wr #[.slice a1 (rod rs k).length c1] 41 0)
        clear hal hrow
        go_wp2_with fail
        generalize wr.alloc (.cells #[.slice a1 (rod rs k).length c1] 41) = w1 at *
        have k2 := P1.out.used k (by omega)
        cases hU : U k
        · rw [hU] at k2
          have HUK := Lib.hid hU
          have k1 := P1.out.c1
          have kz := Z1.out
          clear hU
          cases hx : hasB (rod rs k) d
          · have HX := Lib.hid hx
            clear hx
            go_region_held3 (fun w' => w'.cell? ⟨p, 2 + k, none⟩ = some (.bool false) ∧ w'.cell? ⟨p, 1, none⟩ = some (.string tx) ∧ w'.cell? ⟨wr.heap.size, 0, none⟩ = some (.slice a1 (rod rs k).length c1)) (go_keep) (first | (go_at_call 42; refine (DA.out _).mono ?_; rintro e w' ⟨rfl, rfl⟩) | (go_at_call 33; refine (hasSide_any _ a1 c1 (rod rs k) d (by exact R1.out) hsmall).mono ?_; rintro e w' ⟨rfl, rfl⟩; rw [HX.out]))
            have hal2 : Below w1.heap.size w1 (w1.alloc (.cells #[.slice a1 (rod rs k).length c1] 41)).drew := below_drewN ((Below.refl w1.heap.size w1).alloc (Nat.le_refl _) _) 1
            have hq1 := World.block_lt_of_cell? w1 _ C1.out
            have P2 := Lib.hid (P1.out.below hal2)
            have C2 := Lib.hid ((hal2.cell (p := ⟨q, 0, none⟩) hq1).trans C1.out)
            have F2 := Lib.hid ((hal2.frozen (p := ⟨q, 0, none⟩) hq1).trans F1.out)
            have B2 := Lib.hid (B1.out.trans (hal2.mono B1.out.size))
            clear hal2 k1 k2 kz
            go_wp2_with fail
            go_roundw
            case rel => exact ⟨k + 1, by omega, by go_num, P2.out, C2.out, by rw [waysTo_skip (by rw [HX.out]; simp)]; exact HZ.out, F2.out, B2.out⟩
            case measure => simp [intOf]; omega
          · have HX := Lib.hid hx
            clear hx
            go_region_held3 (fun w' => w'.cell? ⟨p, 2 + k, none⟩ = some (.bool false) ∧ w'.cell? ⟨p, 1, none⟩ = some (.string tx) ∧ w'.cell? ⟨wr.heap.size, 0, none⟩ = some (.slice a1 (rod rs k).length c1)) (go_keep) (first | (go_at_call 42; refine (DA.out _).mono ?_; rintro e w' ⟨rfl, rfl⟩) | (go_at_call 33; refine (hasSide_any _ a1 c1 (rod rs k) d (by exact R1.out) hsmall).mono ?_; rintro e w' ⟨rfl, rfl⟩; rw [HX.out]))
            have hal2 : Below w1.heap.size w1 (w1.alloc (.cells #[.slice a1 (rod rs k).length c1] 41)).drew := below_drewN ((Below.refl w1.heap.size w1).alloc (Nat.le_refl _) _) 1
            have hq1 := World.block_lt_of_cell? w1 _ C1.out
            have P2 := Lib.hid (P1.out.below hal2)
            have C2 := Lib.hid ((hal2.cell (p := ⟨q, 0, none⟩) hq1).trans C1.out)
            have F2 := Lib.hid ((hal2.frozen (p := ⟨q, 0, none⟩) hq1).trans F1.out)
            have B2 := Lib.hid (B1.out.trans (hal2.mono B1.out.size))
            have TK := Lib.hid (waysTo_take (f := ways rs es) (d := d) (U := U) (show (U k || !hasB (rod rs k) d) = false by rw [HUK.out, HX.out]; rfl))
            clear hal2 k1 k2 kz
            generalize (w1.alloc (.cells #[.slice a1 (rod rs k).length c1] 41)).drew = w2 at *
            have k2 := P2.out.used k (by omega)
            have f2 := P2.out.free (2 + k)
            rw [HUK.out] at k2
            go_wp2_with fail
            have IHC := IH.out (at_ + 1) ((at_ : Int) + 1) (w2.setCell ⟨p, 2 + k, none⟩ (.bool true)) (use U k) (by omega) (by have := HAT.out; omega) (B2.out.setCell hp _) (P2.out.mark (by omega) (use_eq U k)) (far_cell C2.out (fun e => hpq e.symm)) (by rw [World.frozen?_setCell]; exact F2.out)
            rw [HES.out] at IHC
            cases hs : decide (0 < ways rs es (use U k))
            · rw [hs] at IHC
              have ZE := Lib.hid (show waysTo rs (ways rs es) d U (k + 1) = 0 by rw [TK.out, HZ.out]; simpa using hs)
              clear hs
              refine IHC.mono ?_
              clear IHC
              rintro e w3 ⟨rfl, p3, c3, f3, b3⟩
              have P3 := Lib.hid p3
              have C3 := Lib.hid c3
              have F3 := Lib.hid f3
              have B3 := Lib.hid b3
              have k3 := p3.used k (by omega)
              have g3 := p3.free (2 + k)
              clear p3 c3 f3 b3 k2 f2
              go_wp2_with fail
              go_roundw
              case rel => exact ⟨k + 1, by omega, by go_num, P3.out.mark (by omega) (unuse_eq HUK.out), far_cell C3.out (fun e => hpq e.symm), ZE.out, by rw [World.frozen?_setCell]; exact F3.out, B3.out.setCell hp _⟩
              case measure => simp [intOf]; omega
            · rw [hs] at IHC
              have YE := Lib.hid (show decide (0 < ways rs (d :: es) U) = true from decide_eq_true (ways_cons.2 ⟨k, hlt, HUK.out, HX.out, of_decide_eq_true hs⟩))
              clear hs
              refine IHC.mono ?_
              clear IHC
              rintro e w3 ⟨rfl, p3, c3, f3, b3⟩
              have P3 := Lib.hid p3
              have C3 := Lib.hid c3
              have F3 := Lib.hid f3
              have B3 := Lib.hid b3
              have k3 := p3.used k (by omega)
              have g3 := p3.free (2 + k)
              clear p3 c3 f3 b3 k2 f2
              go_wp2_with fail
              go_ret
              exact ⟨ret_b (by rw [YE.out]; rfl), P3.out.mark (by omega) (unuse_eq HUK.out), by rw [YE.out]; exact far_cell C3.out (fun e => hpq e.symm), by rw [World.frozen?_setCell]; exact F3.out, B3.out.setCell hp _⟩
        · rw [hU] at k2
          have HUK := Lib.hid hU
          clear hU
          go_quiet (fail)
          go_wp2_with fail
          go_roundw
          case rel => exact ⟨k + 1, by omega, by go_num, P1.out.drewN _, C1.out, by rw [waysTo_skip (by rw [HUK.out]; simp)]; exact HZ.out, F1.out, below_drewN B1.out _⟩
          case measure => simp [intOf]; omega
      · go_wp2_with fail
        go_ret
        have NE : decide (0 < ways rs (d :: es) U) = false := decide_eq_false (by
          have h1 : ways rs (d :: es) U = waysTo rs (ways rs es) d U rs.length := rfl
          have h2 := HZ.out
          rw [show k = rs.length by omega] at h2
          omega)
        exact ⟨ret_b (by rw [NE]; rfl), PP.out, by rw [NE]; exact HC.out, HF.out, BB.out⟩
end Go.Proofs.Ythgecmdmoghmpaa
