
/-
  Contracts of the reference's functions that count the ways in which rods show digits. Condition: at most 10 rods, at most 6 digits (else the functions say so at once); lists of at most 2^20 numbers.
-/
import Derived.Test.YthgecmdmoghmpaaCase1
import Derived.Test.YthgecmdmoghmpaaNum2
namespace Go.Proofs.Ythgecmdmoghmpaa
open Go.RowKit

theorem ret_z {a b : Int} (h : a = b) : Ending.returned (.int .i64 a) = .returned (.int .i64 b) := by rw [h]
theorem ret_n {a b : Nat} (h : a = b) : Ending.returned (.int .i64 (a : Int)) = .returned (.int .i64 (b : Int)) := by rw [h]
/-- Block g holds n marks. -/
structure Flags (w : World) (g n : Nat) (U : Nat → Bool) : Prop where
  cell : ∀ i, i < n → w.cell? ⟨g, i, none⟩ = some (.bool (U i))
  free : ∀ i, w.frozen? ⟨g, i, none⟩ = false
  lt : g < w.heap.size
theorem Flags.below {w w' : World} {g n : Nat} {U : Nat → Bool} (h : Flags w g n U) (hb : Below w.heap.size w w') : Flags w' g n U :=
  ⟨fun i hi => (hb.cell (p := ⟨g, i, none⟩) h.lt).trans (h.cell i hi), fun i => (hb.frozen (p := ⟨g, i, none⟩) h.lt).trans (h.free i), Nat.lt_of_lt_of_le h.lt hb.size⟩
theorem Flags.drewN {w : World} {g n : Nat} {U : Nat → Bool} (h : Flags w g n U) (m : Nat) : Flags (w.drewN m) g n U := ⟨h.cell, h.free, h.lt⟩
theorem Flags.set_ {w : World} {g n : Nat} {U V : Nat → Bool} (h : Flags w g n U) {k : Nat} {b : Bool} (hk : k < n) (hV : ∀ j, V j = if j = k then b else U j) : Flags (w.setCell ⟨g, k, none⟩ (.bool b)) g n V := by
  refine ⟨fun i hi => ?_, fun i => by rw [World.frozen?_setCell]; exact h.free i, by simpa using h.lt⟩
  by_cases e : i = k
  · subst e
    rw [hV, if_pos rfl]
    exact World.cell?_setCell_same _ _ _ (h.cell i hi)
  · rw [hV, if_neg e]
    exact (World.cell?_setCell_other w _ _ _ (fun e' => e (by injection e' with _ e'; exact e'.symm))).trans (h.cell i hi)
theorem use_eq (U : Nat → Bool) (k j : Nat) : use U k j = if j = k then true else U j := by
  unfold use
  by_cases e : j = k <;> simp [e]
theorem unuse_eq {U : Nat → Bool} {k : Nat} (h : U k = false) (j : Nat) : U j = if j = k then false else use U k j := by
  by_cases e : j = k
  · subst e; simp [h]
  · simp [e, use]
theorem Row.tail_ {k : IntKind} {w : World} {b off : Nat} {x : Int} {zs : List Int} (h : Row k w (some ⟨b, off, none⟩) (x :: zs)) : Row k w (some ⟨b, off + 1, none⟩) zs := fun hn => by
  obtain ⟨b', off', e, hlt, hc⟩ := h (by simp)
  injection e with e
  injection e with e1 e2
  subst e1 e2
  refine ⟨b, off + 1, rfl, hlt, fun i hi => ?_⟩
  have := hc (i + 1) (by simp; omega)
  rw [show off + 1 + i = off + (i + 1) by omega, this]
  simp [nth]

set_option maxRecDepth 100000 in
set_option maxHeartbeats 1000000 in
theorem l3Ways_any (W0 : World) (a : Option Addr) (cap : Nat) (rs : List (List Int)) (HR : Hid (Rods W0 a rs)) (HS : Hid (RodsSmall rs)) (hl : rs.length ≤ 10) (g cu : Nat) (hg : W0.heap.size ≤ g) :
    ∀ (ds : List Int) (b : Option Addr) (cb : Nat) (W : World) (U : Nat → Bool), Row .i64 W0 b ds → ds.length ≤ 6 → ds.length ≤ cb → cb ≤ maxLen → Below W0.heap.size W0 W → Flags W g rs.length U →
    Calls Try.prog 39 #[.slice a rs.length cap, .slice b ds.length cb, .slice (some ⟨g, 0, none⟩) rs.length cu] W fun e W' => e = .returned (.int .i64 (ways rs ds U : Nat)) ∧ Flags W' g rs.length U ∧ Below W0.heap.size W0 W' := by
  intro ds
  induction ds with
  | nil =>
    intro b cb W U hb hl6 hcb hcm hB hF
    have BB := Lib.hid hB
    have FF := Lib.hid hF
    clear hB hF hb
    go_enter Try.func39, Try.ntmps39
    go_wp2_with fail
    go_ret
    exact ⟨rfl, FF.out, BB.out⟩
  | cons d ds ih =>
    intro b cb W U hb hl6 hcb hcm hB hF
    have BB := Lib.hid hB
    have FF := Lib.hid hF
    have RB := Lib.hid hb
    have IH := Lib.hid ih
    clear hB hF hb ih
    obtain ⟨bb, ob, rfl, _, hcd⟩ := RB.out.at_ (i := 0) (by simp)
    have hcd0 : nth (d :: ds) 0 = d := rfl
    rw [hcd0, Nat.add_zero] at hcd
    have HCD := Lib.hid hcd
    have wb := ways_bd (rs := rs) (ds := d :: ds) (U := U) hl hl6
    have hl6' : ds.length + 1 ≤ 6 := hl6
    have hcb' : ds.length + 1 ≤ cb := hcb
    have hne : ((ds.length : Int) + 1 == 0) = false := beq_eq_false_iff_ne.2 (by omega)
    unfold maxLen at hcm
    clear hcd hcd0 hl6 hcb
    go_enter Try.func39, Try.ntmps39
    go_wp2_with fail
    go_loopw [7, 8] (fun n i wr => ∃ k c : Nat, k ≤ rs.length ∧ i = .int .i64 k ∧ n = .int .i64 c ∧ c = waysTo rs (ways rs ds) d U k ∧ Flags wr g rs.length U ∧ Below W0.heap.size W0 wr) (fun _ i _ => rs.length - (intOf i).toNat)
    case atStart => exact ⟨0, 0, Nat.zero_le _, rfl, rfl, rfl, FF.out, BB.out⟩
    case round =>
      obtain ⟨k, c, hk, rfl, rfl, hc, hf, hb⟩ := hrel
      have hcb2 : c ≤ 1000000 := by
        have h1 := waysTo_mono (rs := rs) (f := ways rs ds) (d := d) (U := U) hk
        have h2 : ways rs (d :: ds) U = waysTo rs (ways rs ds) d U rs.length := rfl
        omega
      have HC := Lib.hid hc
      have HF := Lib.hid hf
      have HB := Lib.hid hb
      clear hc hf hb
      by_cases hlt : k < rs.length
      · have hu := HF.out.cell k hlt
        have j1 : (k : Int) < (rs.length : Int) := by omega
        cases hU : U k
        · obtain ⟨b1, o1, a1, c1, rfl, _, hcell, _, _, hrow⟩ := (HR.out.below HB.out).at_ hlt
          have ROW := Lib.hid hrow
          obtain ⟨b2, o2, he, _, hcd⟩ := (RB.out.below HB.out).at_ (i := 0) (by simp)
          have hcd0 : nth (d :: ds) 0 = d := rfl
          rw [hcd0, Nat.add_zero] at hcd
          obtain ⟨rfl, rfl⟩ : bb = b2 ∧ ob = o2 := by injection he with he; injection he with e1 e2; exact ⟨e1, e2⟩
          have hsmall := HS.out.2 k hlt
          have HUK := Lib.hid hU
          rw [hU] at hu
          clear hrow he hcd0 hU
          cases hx : hasB (rod rs k) d
          · have HX := Lib.hid hx
            have CL := Lib.hid (fun W : World => fun hW : Row .i64 W a1 (rod rs k) => (show Calls Try.prog 32 #[.slice a1 (rod rs k).length c1, .int .i64 d] W fun e w' => e = .returned (.bool false) ∧ W = w' from by
              have := l3Has_any W a1 c1 (rod rs k) d hW hsmall
              rw [hx] at this
              exact this))
            clear hx
            go_wp2_with fail
            go_quiet ((go_at_call 32; exact quiet_at (CL.out _ ROW.out)))
            go_wp2_with fail
            go_roundw
            case rel => exact ⟨k + 1, c, by omega, by go_num, rfl, by rw [waysTo_skip (by rw [HX.out]; simp)]; exact HC.out, HF.out.drewN _, below_drewN HB.out _⟩
            case measure => simp [intOf]; omega
          · have HX := Lib.hid hx
            have CL := Lib.hid (fun W : World => fun hW : Row .i64 W a1 (rod rs k) => (show Calls Try.prog 32 #[.slice a1 (rod rs k).length c1, .int .i64 d] W fun e w' => e = .returned (.bool true) ∧ W = w' from by
              have := l3Has_any W a1 c1 (rod rs k) d hW hsmall
              rw [hx] at this
              exact this))
            clear hx
            go_wp2_with fail
            go_quiet ((go_at_call 32; exact quiet_at (CL.out _ ROW.out)))
            have fz := HF.out.free k
            have b2 : (1 : Int) ≤ (ds.length : Int) + 1 := by omega
            have b3 : (ds.length : Int) + 1 ≤ (cb : Int) := by omega
            have hsum : c + ways rs ds (use U k) ≤ 1000000 := by
              have h1 := waysTo_mono (rs := rs) (f := ways rs ds) (d := d) (U := U) (show k + 1 ≤ rs.length by omega)
              have h2 : ways rs (d :: ds) U = waysTo rs (ways rs ds) d U rs.length := rfl
              rw [waysTo_take (by rw [HUK.out, HX.out]; rfl), ← HC.out] at h1
              omega
            by_cases hcap : cb = 1
            · subst hcap
              go_wp2_with fail
              have hL : ds.length = 0 := by omega
              have IH0 := IH.out (some ⟨bb, ob, none⟩) 0 ((wr.drewN nq).setCell ⟨g, k, none⟩ (.bool true)) (use U k) (fun hn => absurd hn (by omega)) (by omega) (by omega) (Nat.zero_le _) ((below_drewN HB.out nq).setCell hg _) ((HF.out.drewN nq).set_ hlt (use_eq U k))
              rw [hL] at IH0
              clear hL
              refine IH0.mono ?_
              clear IH0
              rintro e w3 ⟨rfl, f3, b3'⟩
              have F3 := Lib.hid f3
              have B3 := Lib.hid b3'
              have fz3 := f3.free k
              have hu3 := f3.cell k hlt
              clear f3 b3'
              generalize hw : ways rs ds (use U k) = wk at *
              have HWK := Lib.hid hw
              clear hw
              go_wp2_with fail
              go_roundw
              case rel => exact ⟨k + 1, c + wk, by omega, by go_num, by go_num, by rw [waysTo_take (by rw [HUK.out, HX.out]; rfl), ← HC.out, HWK.out], F3.out.set_ hlt (unuse_eq HUK.out), B3.out.setCell hg _⟩
              case measure => simp [intOf]; omega
            · have hcap' : 1 < cb := by omega
              go_wp2_with fail
              refine (IH.out (some ⟨bb, ob + 1, none⟩) (cb - 1) ((wr.drewN nq).setCell ⟨g, k, none⟩ (.bool true)) (use U k) RB.out.tail_ (by omega) (by omega) (by unfold maxLen; omega) ((below_drewN HB.out nq).setCell hg _) ((HF.out.drewN nq).set_ hlt (use_eq U k))).mono ?_
              rintro e w3 ⟨rfl, f3, b3'⟩
              have F3 := Lib.hid f3
              have B3 := Lib.hid b3'
              have fz3 := f3.free k
              have hu3 := f3.cell k hlt
              clear f3 b3'
              generalize hw : ways rs ds (use U k) = wk at *
              have HWK := Lib.hid hw
              clear hw
              go_wp2_with fail
              go_roundw
              case rel => exact ⟨k + 1, c + wk, by omega, by go_num, by go_num, by rw [waysTo_take (by rw [HUK.out, HX.out]; rfl), ← HC.out, HWK.out], F3.out.set_ hlt (unuse_eq HUK.out), B3.out.setCell hg _⟩
              case measure => simp [intOf]; omega
        · have HUK := Lib.hid hU
          rw [hU] at hu
          clear hU
          go_wp2_with fail
          go_quiet (fail)
          go_wp2_with fail
          go_roundw
          case rel => exact ⟨k + 1, c, by omega, by go_num, rfl, by rw [waysTo_skip (by rw [HUK.out]; simp)]; exact HC.out, HF.out.drewN _, below_drewN HB.out _⟩
          case measure => simp [intOf]; omega
      · go_wp2_with fail
        go_ret
        exact ⟨ret_n (by rw [HC.out, show k = rs.length by omega]; rfl), HF.out, HB.out⟩
end Go.Proofs.Ythgecmdmoghmpaa
