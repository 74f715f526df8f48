
/-
  The walk of the law FnNumeralValue: places are worth ten times as much: it returns true for every code. (The last region is taken operation by operation; that part is printed by gen_nv.py.)
-/
import Derived.Test.YtpipbgigihameaaLawsN
import Derived.IntWalk
namespace Go.Proofs.Ytpipbgigihameaa
open Go.RowKit

set_option maxRecDepth 100000 in
set_option maxHeartbeats 1000000 in
theorem fnNumeralValue_walk (a : Option Addr) (cap : Nat) (zs : List Int) (w : World) (h : InRow .u8 w a cap zs) :
    Calls Try.prog 9 #[.slice a zs.length cap] w fun e w' => e = .returned (.bool true) ∧ Below w.heap.size w w' := by
  have hfit := h.fits
  have hlim := h.lim
  unfold maxLen at hlim
  have H := Lib.hid h
  clear h
  by_cases hl : 1048576 < zs.length
  · go_enter Try.func9, Try.ntmps9
    go_wp2_with fail
    go_ret
    exact ⟨rfl, Below.refl _ _⟩
  · go_enter Try.func9, Try.ntmps9
    go_wp2_with fail
    refine (drawNumeralValue_any _ _ _ _ H.out).mono ?_
    rintro e w1 ⟨a1, c1, ys, rfl, _, hl7, o1, b1⟩
    have O1 := Lib.hid o1
    have B1 := Lib.hid b1
    clear o1 b1
    cases hn : isNum ys
    · have E := Lib.hid (numVal_no hn)
      clear hn
      go_wp2_with fail
      refine (implNumeralValue_any _ _ _ _ O1.out.row (by omega)).mono ?_
      rintro e w2 ⟨rfl, b2⟩
      rw [E.out]
      have B2 := Lib.hid (B1.out.trans (b2.mono B1.out.size))
      have O2 := Lib.hid (O1.out.below (b2.mono O1.out.lim))
      clear b2
      go_wp2_with fail
      refine (specNumeralValue_any _ _ _ _ O2.out.row (by omega)).mono ?_
      rintro e w' ⟨rfl, rfl⟩
      rw [E.out]
      go_wp2_with fail
      go_ret
      exact ⟨rfl, B2.out⟩
    · obtain ⟨hdg, hl1, hl6⟩ := isNum_parts hn
      have hvb := val_bd6 hdg hl6
      have hvb2 := val_bd _ ys rfl hdg
      obtain ⟨v, hv⟩ : ∃ v : Nat, val ys = v := ⟨(val ys).toNat, by omega⟩
      rw [hv] at hvb
      have hv9 : v ≤ 999999 := by omega
      have hds : dsize v ≤ ys.length := dsize_small (by rw [hv] at hvb2; have := hvb2.2; exact_mod_cast this) hl1
      have E := Lib.hid ((numVal_yes hn).trans hv)
      have NO := Lib.hid (numOf_yes hv9)
      have VD := Lib.hid (decs_val (dsize v) v (lt_pow_dsize v))
      have DD := Lib.hid (decs_digs (dsize v) v)
      have DL := Lib.hid (decs_len (dsize v) v)
      have d6 := dsize_le hv9
      have LAST := Lib.hid (val_last hl1)
      have TK := Lib.hid (fun h : 1 ≤ ys.length - 1 => (isNum_take hn h))
      have HV := Lib.hid hv
      have HDG := Lib.hid hdg
      clear hn hdg hv hvb2
      go_wp2_with fail
      refine (implNumeralValue_any _ _ _ _ O1.out.row (by omega)).mono ?_
      rintro e w2 ⟨rfl, b2⟩
      rw [E.out]
      have B2 := Lib.hid (B1.out.trans (b2.mono B1.out.size))
      have O2 := Lib.hid (O1.out.below (b2.mono O1.out.lim))
      clear b2
      go_wp2_with fail
      refine (specNumeralValue_any _ _ _ _ O2.out.row (by omega)).mono ?_
      rintro e w' ⟨rfl, rfl⟩
      rw [E.out]
      go_wp2_with fail
      refine (implNumeralOf_any _ _ _ _ NO.out).mono ?_
      rintro e w3 ⟨a3, c3, rfl, o3, b3⟩
      have O3 := Lib.hid o3
      have B3 := Lib.hid (B2.out.trans (b3.mono B2.out.size))
      have P3 := Lib.hid (O2.out.below (b3.mono O2.out.lim))
      have hs3 := B3.out.size
      clear o3 b3
      go_wp2_with fail
      refine (valueOf_any _ _ _ _ O3.out.row (by rw [DL.out]; omega) DD.out).mono ?_
      rintro e w' ⟨rfl, rfl⟩
      rw [VD.out, DL.out]
      by_cases hone : ys.length = 1
      · have h0 : nth ys 0 = v := by
          have h2 := LAST.out
          rw [HV.out, hone] at h2
          have h3 : val (ys.take (1 - 1)) = 0 := by simp [val]
          rw [h3] at h2
          have h4 : nth ys (1 - 1) = nth ys 0 := rfl
          rw [h4] at h2
          omega
        obtain ⟨b, off, rfl, _, hc⟩ := P3.out.row.at_ (i := 0) (by omega)
        rw [h0, Nat.add_zero] at hc
        have e1 : ((ys.length : Int) == 1) = true := by rw [beq_iff_eq]; omega
        have k1 : 0 < ys.length := by omega
        clear h0 hone
        go_wp2_with fail
        go_quiet (fail)
        go_wp2_with fail
        go_ret
        exact ⟨rfl, below_drewN B3.out _⟩
      · have e1 : ((ys.length : Int) == 1) = false := beq_eq_false_iff_ne.2 (by omega)
        have n1 : 1 < ys.length := by omega
        have n1' : (1 : Int) < (ys.length : Int) := by omega
        obtain ⟨b, off, rfl, _, hc⟩ := P3.out.row.at_ (i := ys.length - 1) (by omega)
        have tl : (ys.take (ys.length - 1)).length = ys.length - 1 := by rw [List.length_take]; omega
        have nd := digs_nth HDG.out (i := ys.length - 1) (by omega)
        have vb := val_take_bd HDG.out hl6 (ys.length - 1)
        have TV := Lib.hid (numVal_yes (TK.out (by omega)))
        have LST := Lib.hid (HV.out.symm.trans LAST.out)
        have RT := Lib.hid (P3.out.row.take_ (ys.length - 1))
        have TL := Lib.hid tl
        have NC := Lib.hid (show ∀ W : World, Row .i64 W (some ⟨b, off, none⟩) (ys.take (ys.length - 1)) → Calls Try.prog 20 #[.slice (some ⟨b, off, none⟩) (ys.length - 1) c1] W fun e w' => e = .returned (.int .i64 (val (ys.take (ys.length - 1)))) ∧ Below W.heap.size W w' from fun W hW => by
          have := implNumeralValue_any W (some ⟨b, off, none⟩) c1 (ys.take (ys.length - 1)) hW (by omega)
          rw [TV.out, TL.out] at this
          exact this)
        clear tl hone
        generalize val (ys.take (ys.length - 1)) = V1 at *
        generalize nth ys (ys.length - 1) = d1 at *
        obtain ⟨cl, cm⟩ := P3.out.cap_le
        go_wp2_with fail
        obtain ⟨k, hk⟩ : ∃ k, ys.length - 1 = k := ⟨_, rfl⟩
        rw [hk] at hc
        have u1 : IntKind.i64.wrap ((ys.length : Int) - 1) = (k : Int) := by rw [show (ys.length : Int) - 1 = (k : Int) by omega]; exact IntWalk.i64_in _ (by omega)
        have u2 : IntKind.i64.wrap (10 * V1) = 10 * V1 := IntWalk.i64_in _ (by omega)
        have u3 : IntKind.i64.wrap (10 * V1 + d1) = (v : Int) := by rw [← LST.out]; exact IntWalk.i64_in _ (by omega)
        have k0 : (k : Int) < (ys.length : Int) := by omega
        have k2 : k ≤ c1 := by omega
        have k3 : (k : Int) ≤ (c1 : Int) := by omega
        have NC2 := Lib.hid (show ∀ W : World, Row .i64 W (some ⟨b, off, none⟩) (ys.take (ys.length - 1)) → Calls Try.prog 20 #[.slice (some ⟨b, off, none⟩) k c1] W fun e w' => e = .returned (.int .i64 V1) ∧ Below W.heap.size W w' by rw [← hk]; exact NC.out)
        have HK := Lib.hid hk
        have lb : b < w3.heap.size := World.block_lt_of_cell? w3 _ hc
        clear hk
        have C4 := Lib.hid (fun (w4 : World) (h4 : Below w3.drew.heap.size w3.drew w4) => ((h4.cell (p := ⟨b, off + k, none⟩) lb).trans hc : w4.cell? ⟨b, off + k, none⟩ = some (.int .i64 d1)))
        have RTD := Lib.hid (show Row .i64 w3.drew (some ⟨b, off, none⟩) (ys.take (ys.length - 1)) from RT.out)
        refine wp_region_held_drew (S := fun w' => w'.cell? ⟨b, off + k, none⟩ = some (.int .i64 d1)) (by kernel_rfl) hc (fun hHeld => ?_)
        refine wpAnyH_take (i := 0) (oi := { dst := some 49, op := Go.Op.move (Go.Operand.tmp 6), type := 3, pos := "laws.go:512", after := #[], guard := none }) (v := ?_) rfl (by kernel_rfl) (by kernel_rfl) (by kernel_rfl) (fun _ _ _ h => h) (Or.inl ⟨by rfl, ?_⟩) (by assumption) ?_
        rotate_left
        · intro w' hSw; (try dsimp only at hSw); go_simp; (try with_reducible rfl)
        try simp only [Act.put, List.setIfInBounds_toArray, List.set_cons_zero, List.set_cons_succ]
        refine wpAnyH_take (i := 1) (oi := { dst := some 50, op := Go.Op.binOp Go.BinOp.eql 3 (Go.Operand.tmp 49) (Go.Operand.const (Go.Value.int Go.IntKind.i64 1)) 3, type := 4, pos := "laws.go:512", after := #[{ on := 0, ground := Go.Ground.data }], guard := none }) (v := ?_) rfl (by kernel_rfl) (by kernel_rfl) (by kernel_rfl) (fun _ _ _ h => h) (Or.inl ⟨by rfl, ?_⟩) (by assumption) ?_
        rotate_left
        · intro w' hSw; (try dsimp only at hSw); go_simp; (try with_reducible rfl)
        try simp only [Act.put, List.setIfInBounds_toArray, List.set_cons_zero, List.set_cons_succ]
        refine wpAnyH_take (i := 2) (oi := { dst := some 51, op := Go.Op.move (Go.Operand.tmp 50), type := 4, pos := "laws.go:512", after := #[{ on := 1, ground := Go.Ground.data }], guard := none }) (v := ?_) rfl (by kernel_rfl) (by kernel_rfl) (by kernel_rfl) (fun _ _ _ h => h) (Or.inl ⟨by rfl, ?_⟩) (by assumption) ?_
        rotate_left
        · intro w' hSw; (try dsimp only at hSw); go_simp; (try with_reducible rfl)
        try simp only [Act.put, List.setIfInBounds_toArray, List.set_cons_zero, List.set_cons_succ]
        refine wpAnyH_take (i := 3) (oi := { dst := some 52, op := Go.Op.move (Go.Operand.tmp 4), type := 3, pos := "laws.go:512", after := #[{ on := 2, ground := Go.Ground.guard }], guard := some (2, true) }) (v := undef) rfl (by kernel_rfl) (by kernel_rfl) (by kernel_rfl) (fun _ _ _ h => h) (Or.inr ⟨by rfl, rfl⟩) (by assumption) ?_
        try simp only [Act.put, List.setIfInBounds_toArray, List.set_cons_zero, List.set_cons_succ]
        refine wpAnyH_take (i := 4) (oi := { dst := some 53, op := Go.Op.move (Go.Operand.tmp 3), type := 22, pos := "laws.go:512", after := #[{ on := 2, ground := Go.Ground.guard }], guard := some (2, true) }) (v := undef) rfl (by kernel_rfl) (by kernel_rfl) (by kernel_rfl) (fun _ _ _ h => h) (Or.inr ⟨by rfl, rfl⟩) (by assumption) ?_
        try simp only [Act.put, List.setIfInBounds_toArray, List.set_cons_zero, List.set_cons_succ]
        refine wpAnyH_take (i := 5) (oi := { dst := some 54, op := Go.Op.indexAddr 22 (Go.Operand.tmp 53) (Go.Operand.const (Go.Value.int Go.IntKind.i64 0)), type := 0, pos := "laws.go:512", after := #[{ on := 4, ground := Go.Ground.data }, { on := 2, ground := Go.Ground.guard }], guard := some (2, true) }) (v := undef) rfl (by kernel_rfl) (by kernel_rfl) (by kernel_rfl) (fun _ _ _ h => h) (Or.inr ⟨by rfl, rfl⟩) (by assumption) ?_
        try simp only [Act.put, List.setIfInBounds_toArray, List.set_cons_zero, List.set_cons_succ]
        refine wpAnyH_take (i := 6) (oi := { dst := some 55, op := Go.Op.load 3 (Go.Operand.tmp 54), type := 3, pos := "laws.go:512", after := #[{ on := 5, ground := Go.Ground.data }, { on := 2, ground := Go.Ground.guard }], guard := some (2, true) }) (v := undef) rfl (by kernel_rfl) (by kernel_rfl) (by kernel_rfl) (fun _ _ _ h => h) (Or.inr ⟨by rfl, rfl⟩) (by assumption) ?_
        try simp only [Act.put, List.setIfInBounds_toArray, List.set_cons_zero, List.set_cons_succ]
        refine wpAnyH_take (i := 7) (oi := { dst := some 56, op := Go.Op.binOp Go.BinOp.eql 3 (Go.Operand.tmp 52) (Go.Operand.tmp 55) 3, type := 4, pos := "laws.go:512", after := #[{ on := 3, ground := Go.Ground.data }, { on := 6, ground := Go.Ground.data }, { on := 2, ground := Go.Ground.guard }], guard := some (2, true) }) (v := undef) rfl (by kernel_rfl) (by kernel_rfl) (by kernel_rfl) (fun _ _ _ h => h) (Or.inr ⟨by rfl, rfl⟩) (by assumption) ?_
        try simp only [Act.put, List.setIfInBounds_toArray, List.set_cons_zero, List.set_cons_succ]
        refine wpAnyH_take (i := 8) (oi := { dst := some 57, op := Go.Op.pick (Go.Operand.tmp 51) (Go.Operand.tmp 56) (Go.Operand.const (Go.Value.bool false)), type := 4, pos := "laws.go:512", after := #[{ on := 2, ground := Go.Ground.data }, { on := 7, ground := Go.Ground.data }], guard := none }) (v := ?_) rfl (by kernel_rfl) (by kernel_rfl) (by kernel_rfl) (fun _ _ _ h => h) (Or.inl ⟨by rfl, ?_⟩) (by assumption) ?_
        rotate_left
        · intro w' hSw; (try dsimp only at hSw); go_simp; (try with_reducible rfl)
        try simp only [Act.put, List.setIfInBounds_toArray, List.set_cons_zero, List.set_cons_succ]
        refine wpAnyH_take (i := 9) (oi := { dst := some 58, op := Go.Op.move (Go.Operand.tmp 57), type := 4, pos := "laws.go:512", after := #[{ on := 8, ground := Go.Ground.data }, { on := 2, ground := Go.Ground.chain }], guard := none }) (v := ?_) rfl (by kernel_rfl) (by kernel_rfl) (by kernel_rfl) (fun _ _ _ h => h) (Or.inl ⟨by rfl, ?_⟩) (by assumption) ?_
        rotate_left
        · intro w' hSw; (try dsimp only at hSw); go_simp; (try with_reducible rfl)
        try simp only [Act.put, List.setIfInBounds_toArray, List.set_cons_zero, List.set_cons_succ]
        refine wpAnyH_take (i := 10) (oi := { dst := some 59, op := Go.Op.move (Go.Operand.tmp 6), type := 3, pos := "laws.go:512", after := #[{ on := 9, ground := Go.Ground.guard }], guard := some (9, false) }) (v := ?_) rfl (by kernel_rfl) (by kernel_rfl) (by kernel_rfl) (fun _ _ _ h => h) (Or.inl ⟨by rfl, ?_⟩) (by assumption) ?_
        rotate_left
        · intro w' hSw; (try dsimp only at hSw); go_simp; (try with_reducible rfl)
        try simp only [Act.put, List.setIfInBounds_toArray, List.set_cons_zero, List.set_cons_succ]
        refine wpAnyH_take (i := 11) (oi := { dst := some 60, op := Go.Op.binOp Go.BinOp.gtr 3 (Go.Operand.tmp 59) (Go.Operand.const (Go.Value.int Go.IntKind.i64 1)) 3, type := 4, pos := "laws.go:512", after := #[{ on := 10, ground := Go.Ground.data }, { on := 9, ground := Go.Ground.guard }], guard := some (9, false) }) (v := ?_) rfl (by kernel_rfl) (by kernel_rfl) (by kernel_rfl) (fun _ _ _ h => h) (Or.inl ⟨by rfl, ?_⟩) (by assumption) ?_
        rotate_left
        · intro w' hSw; (try dsimp only at hSw); go_simp; (try with_reducible rfl)
        try simp only [Act.put, List.setIfInBounds_toArray, List.set_cons_zero, List.set_cons_succ]
        refine wpAnyH_take (i := 12) (oi := { dst := some 61, op := Go.Op.move (Go.Operand.tmp 60), type := 4, pos := "laws.go:512", after := #[{ on := 11, ground := Go.Ground.data }, { on := 9, ground := Go.Ground.chain }, { on := 9, ground := Go.Ground.guard }], guard := some (9, false) }) (v := ?_) rfl (by kernel_rfl) (by kernel_rfl) (by kernel_rfl) (fun _ _ _ h => h) (Or.inl ⟨by rfl, ?_⟩) (by assumption) ?_
        rotate_left
        · intro w' hSw; (try dsimp only at hSw); go_simp; (try with_reducible rfl)
        try simp only [Act.put, List.setIfInBounds_toArray, List.set_cons_zero, List.set_cons_succ]
        refine wpAnyH_take (i := 13) (oi := { dst := some 62, op := Go.Op.move (Go.Operand.tmp 4), type := 3, pos := "laws.go:512", after := #[{ on := 12, ground := Go.Ground.guard }], guard := some (12, true) }) (v := ?_) rfl (by kernel_rfl) (by kernel_rfl) (by kernel_rfl) (fun _ _ _ h => h) (Or.inl ⟨by rfl, ?_⟩) (by assumption) ?_
        rotate_left
        · intro w' hSw; (try dsimp only at hSw); go_simp; (try with_reducible rfl)
        try simp only [Act.put, List.setIfInBounds_toArray, List.set_cons_zero, List.set_cons_succ]
        refine wpAnyH_take (i := 14) (oi := { dst := some 63, op := Go.Op.move (Go.Operand.tmp 3), type := 22, pos := "laws.go:512", after := #[{ on := 12, ground := Go.Ground.guard }], guard := some (12, true) }) (v := ?_) rfl (by kernel_rfl) (by kernel_rfl) (by kernel_rfl) (fun _ _ _ h => h) (Or.inl ⟨by rfl, ?_⟩) (by assumption) ?_
        rotate_left
        · intro w' hSw; (try dsimp only at hSw); go_simp; (try with_reducible rfl)
        try simp only [Act.put, List.setIfInBounds_toArray, List.set_cons_zero, List.set_cons_succ]
        refine wpAnyH_take (i := 15) (oi := { dst := some 64, op := Go.Op.move (Go.Operand.tmp 6), type := 3, pos := "laws.go:512", after := #[{ on := 12, ground := Go.Ground.guard }], guard := some (12, true) }) (v := ?_) rfl (by kernel_rfl) (by kernel_rfl) (by kernel_rfl) (fun _ _ _ h => h) (Or.inl ⟨by rfl, ?_⟩) (by assumption) ?_
        rotate_left
        · intro w' hSw; (try dsimp only at hSw); go_simp; (try with_reducible rfl)
        try simp only [Act.put, List.setIfInBounds_toArray, List.set_cons_zero, List.set_cons_succ]
        refine wpAnyH_take (i := 16) (oi := { dst := some 65, op := Go.Op.binOp Go.BinOp.sub 3 (Go.Operand.tmp 64) (Go.Operand.const (Go.Value.int Go.IntKind.i64 1)) 3, type := 3, pos := "laws.go:512", after := #[{ on := 15, ground := Go.Ground.data }, { on := 12, ground := Go.Ground.guard }], guard := some (12, true) }) (v := ?_) rfl (by kernel_rfl) (by kernel_rfl) (by kernel_rfl) (fun _ _ _ h => h) (Or.inl ⟨by rfl, ?_⟩) (by assumption) ?_
        rotate_left
        · intro w' hSw; (try dsimp only at hSw); go_simp; (try with_reducible rfl)
        try simp only [Act.put, List.setIfInBounds_toArray, List.set_cons_zero, List.set_cons_succ]
        refine wpAnyH_take (i := 17) (oi := { dst := some 66, op := Go.Op.slice 22 (Go.Operand.tmp 63) none (some (Go.Operand.tmp 65)) none, type := 22, pos := "laws.go:512", after := #[{ on := 14, ground := Go.Ground.data }, { on := 16, ground := Go.Ground.data }, { on := 12, ground := Go.Ground.guard }], guard := some (12, true) }) (v := ?_) rfl (by kernel_rfl) (by kernel_rfl) (by kernel_rfl) (fun _ _ _ h => h) (Or.inl ⟨by rfl, ?_⟩) (by assumption) ?_
        rotate_left
        · intro w' hSw; (try dsimp only at hSw); go_simp; (try with_reducible rfl)
        try simp only [Act.put, List.setIfInBounds_toArray, List.set_cons_zero, List.set_cons_succ]
        refine wpAnyH_take (i := 20) (oi := { dst := some 69, op := Go.Op.move (Go.Operand.tmp 3), type := 22, pos := "laws.go:512", after := #[{ on := 12, ground := Go.Ground.guard }], guard := some (12, true) }) (v := ?_) rfl (by kernel_rfl) (by kernel_rfl) (by kernel_rfl) (fun _ _ _ h => h) (Or.inl ⟨by rfl, ?_⟩) (by assumption) ?_
        rotate_left
        · intro w' hSw; (try dsimp only at hSw); go_simp; (try with_reducible rfl)
        try simp only [Act.put, List.setIfInBounds_toArray, List.set_cons_zero, List.set_cons_succ]
        refine wpAnyH_take (i := 21) (oi := { dst := some 70, op := Go.Op.move (Go.Operand.tmp 6), type := 3, pos := "laws.go:512", after := #[{ on := 12, ground := Go.Ground.guard }], guard := some (12, true) }) (v := ?_) rfl (by kernel_rfl) (by kernel_rfl) (by kernel_rfl) (fun _ _ _ h => h) (Or.inl ⟨by rfl, ?_⟩) (by assumption) ?_
        rotate_left
        · intro w' hSw; (try dsimp only at hSw); go_simp; (try with_reducible rfl)
        try simp only [Act.put, List.setIfInBounds_toArray, List.set_cons_zero, List.set_cons_succ]
        refine wpAnyH_take (i := 22) (oi := { dst := some 71, op := Go.Op.binOp Go.BinOp.sub 3 (Go.Operand.tmp 70) (Go.Operand.const (Go.Value.int Go.IntKind.i64 1)) 3, type := 3, pos := "laws.go:512", after := #[{ on := 21, ground := Go.Ground.data }, { on := 12, ground := Go.Ground.guard }], guard := some (12, true) }) (v := ?_) rfl (by kernel_rfl) (by kernel_rfl) (by kernel_rfl) (fun _ _ _ h => h) (Or.inl ⟨by rfl, ?_⟩) (by assumption) ?_
        rotate_left
        · intro w' hSw; (try dsimp only at hSw); go_simp; (try with_reducible rfl)
        try simp only [Act.put, List.setIfInBounds_toArray, List.set_cons_zero, List.set_cons_succ]
        refine wpAnyH_take (i := 23) (oi := { dst := some 72, op := Go.Op.indexAddr 22 (Go.Operand.tmp 69) (Go.Operand.tmp 71), type := 0, pos := "laws.go:512", after := #[{ on := 20, ground := Go.Ground.data }, { on := 22, ground := Go.Ground.data }, { on := 12, ground := Go.Ground.guard }], guard := some (12, true) }) (v := ?_) rfl (by kernel_rfl) (by kernel_rfl) (by kernel_rfl) (fun _ _ _ h => h) (Or.inl ⟨by rfl, ?_⟩) (by assumption) ?_
        rotate_left
        · intro w' hSw; (try dsimp only at hSw); go_simp; (try with_reducible rfl)
        try simp only [Act.put, List.setIfInBounds_toArray, List.set_cons_zero, List.set_cons_succ]
        refine wpAnyH_take (i := 24) (oi := { dst := some 73, op := Go.Op.load 3 (Go.Operand.tmp 72), type := 3, pos := "laws.go:512", after := #[{ on := 23, ground := Go.Ground.data }, { on := 12, ground := Go.Ground.guard }], guard := some (12, true) }) (v := ?_) rfl (by kernel_rfl) (by kernel_rfl) (by kernel_rfl) (fun _ _ _ h => h) (Or.inl ⟨by rfl, ?_⟩) (by assumption) ?_
        rotate_left
        · intro w' hSw; (try dsimp only at hSw); go_simp; (try with_reducible rfl)
        try simp only [Act.put, List.setIfInBounds_toArray, List.set_cons_zero, List.set_cons_succ]
        refine wpAnyH_ready (rs := [18]) (by kernel_rfl) (by simp) ?_
        refine AllReadyH.cons (o := { dst := some 67, op := Go.Op.call { callee := Go.Callee.value (Go.Operand.func 20), args := #[Go.Operand.tmp 66], argTypes := #[22] }, type := 3, pos := "laws.go:512", after := #[{ on := 17, ground := Go.Ground.data }, { on := 12, ground := Go.Ground.chain }, { on := 12, ground := Go.Ground.guard }], guard := some (12, true) }) rfl (fun K hK => ?_) AllReadyH.nil
        go_simp
        refine (NC2.out _ RTD.out).mono ?_
        rintro e w4 ⟨rfl, b4⟩
        have c4 := C4.out w4 b4
        go_wp2_with fail
        refine hK.out _ _ ?_ (fun hHeld => ?_)
        · exact c4
        clear hK K
        try simp only [Act.put, List.setIfInBounds_toArray, List.set_cons_zero, List.set_cons_succ]
        refine wpAnyH_take (i := 19) (oi := { dst := some 68, op := Go.Op.binOp Go.BinOp.mul 3 (Go.Operand.const (Go.Value.int Go.IntKind.i64 10)) (Go.Operand.tmp 67) 3, type := 3, pos := "laws.go:512", after := #[{ on := 18, ground := Go.Ground.data }, { on := 12, ground := Go.Ground.guard }], guard := some (12, true) }) (v := ?_) rfl (by kernel_rfl) (by kernel_rfl) (by kernel_rfl) (fun _ _ _ h => h) (Or.inl ⟨by rfl, ?_⟩) (by assumption) ?_
        rotate_left
        · intro w' hSw; (try dsimp only at hSw); go_simp; (try with_reducible rfl)
        try simp only [Act.put, List.setIfInBounds_toArray, List.set_cons_zero, List.set_cons_succ]
        refine wpAnyH_take (i := 25) (oi := { dst := some 74, op := Go.Op.binOp Go.BinOp.add 3 (Go.Operand.tmp 68) (Go.Operand.tmp 73) 3, type := 3, pos := "laws.go:512", after := #[{ on := 19, ground := Go.Ground.data }, { on := 24, ground := Go.Ground.data }, { on := 12, ground := Go.Ground.guard }], guard := some (12, true) }) (v := ?_) rfl (by kernel_rfl) (by kernel_rfl) (by kernel_rfl) (fun _ _ _ h => h) (Or.inl ⟨by rfl, ?_⟩) (by assumption) ?_
        rotate_left
        · intro w' hSw; (try dsimp only at hSw); go_simp; (try with_reducible rfl)
        try simp only [Act.put, List.setIfInBounds_toArray, List.set_cons_zero, List.set_cons_succ]
        refine wpAnyH_take (i := 26) (oi := { dst := some 75, op := Go.Op.binOp Go.BinOp.eql 3 (Go.Operand.tmp 62) (Go.Operand.tmp 74) 3, type := 4, pos := "laws.go:512", after := #[{ on := 13, ground := Go.Ground.data }, { on := 25, ground := Go.Ground.data }, { on := 12, ground := Go.Ground.guard }], guard := some (12, true) }) (v := ?_) rfl (by kernel_rfl) (by kernel_rfl) (by kernel_rfl) (fun _ _ _ h => h) (Or.inl ⟨by rfl, ?_⟩) (by assumption) ?_
        rotate_left
        · intro w' hSw; (try dsimp only at hSw); go_simp; (try with_reducible rfl)
        try simp only [Act.put, List.setIfInBounds_toArray, List.set_cons_zero, List.set_cons_succ]
        refine wpAnyH_take (i := 27) (oi := { dst := some 76, op := Go.Op.pick (Go.Operand.tmp 61) (Go.Operand.tmp 75) (Go.Operand.const (Go.Value.bool false)), type := 4, pos := "laws.go:512", after := #[{ on := 12, ground := Go.Ground.data }, { on := 26, ground := Go.Ground.data }, { on := 9, ground := Go.Ground.guard }], guard := some (9, false) }) (v := ?_) rfl (by kernel_rfl) (by kernel_rfl) (by kernel_rfl) (fun _ _ _ h => h) (Or.inl ⟨by rfl, ?_⟩) (by assumption) ?_
        rotate_left
        · intro w' hSw; (try dsimp only at hSw); go_simp; (try with_reducible rfl)
        try simp only [Act.put, List.setIfInBounds_toArray, List.set_cons_zero, List.set_cons_succ]
        refine wpAnyH_take (i := 28) (oi := { dst := some 77, op := Go.Op.pick (Go.Operand.tmp 58) (Go.Operand.const (Go.Value.bool true)) (Go.Operand.tmp 76), type := 4, pos := "laws.go:512", after := #[{ on := 9, ground := Go.Ground.data }, { on := 27, ground := Go.Ground.data }], guard := none }) (v := ?_) rfl (by kernel_rfl) (by kernel_rfl) (by kernel_rfl) (fun _ _ _ h => h) (Or.inl ⟨by rfl, ?_⟩) (by assumption) ?_
        rotate_left
        · intro w' hSw; (try dsimp only at hSw); go_simp; (try with_reducible rfl)
        try simp only [Act.put, List.setIfInBounds_toArray, List.set_cons_zero, List.set_cons_succ]
        refine wpAnyH_take (i := 29) (oi := { dst := some 2, op := Go.Op.assign (Go.Operand.tmp 77), type := 4, pos := "laws.go:512", after := #[{ on := 28, ground := Go.Ground.data }, { on := 18, ground := Go.Ground.chain }, { on := 0, ground := Go.Ground.phase }, { on := 1, ground := Go.Ground.phase }, { on := 2, ground := Go.Ground.phase }, { on := 3, ground := Go.Ground.phase }, { on := 4, ground := Go.Ground.phase }, { on := 5, ground := Go.Ground.phase }, { on := 6, ground := Go.Ground.phase }, { on := 7, ground := Go.Ground.phase }, { on := 8, ground := Go.Ground.phase }, { on := 9, ground := Go.Ground.phase }, { on := 10, ground := Go.Ground.phase }, { on := 11, ground := Go.Ground.phase }, { on := 12, ground := Go.Ground.phase }, { on := 13, ground := Go.Ground.phase }, { on := 14, ground := Go.Ground.phase }, { on := 15, ground := Go.Ground.phase }, { on := 16, ground := Go.Ground.phase }, { on := 17, ground := Go.Ground.phase }, { on := 18, ground := Go.Ground.phase }, { on := 19, ground := Go.Ground.phase }, { on := 20, ground := Go.Ground.phase }, { on := 21, ground := Go.Ground.phase }, { on := 22, ground := Go.Ground.phase }, { on := 23, ground := Go.Ground.phase }, { on := 24, ground := Go.Ground.phase }, { on := 25, ground := Go.Ground.phase }, { on := 26, ground := Go.Ground.phase }, { on := 27, ground := Go.Ground.phase }, { on := 28, ground := Go.Ground.phase }], guard := none }) (v := ?_) rfl (by kernel_rfl) (by kernel_rfl) (by kernel_rfl) (fun _ _ _ h => h) (Or.inl ⟨by rfl, ?_⟩) (by assumption) ?_
        rotate_left
        · intro w' hSw; (try dsimp only at hSw); go_simp; (try with_reducible rfl)
        try simp only [Act.put, List.setIfInBounds_toArray, List.set_cons_zero, List.set_cons_succ]
        refine wpAnyH_done (by kernel_rfl) ?_ _
        have B4 := Lib.hid (show Below w.heap.size w w4 from (show Below w.heap.size w w3.drew from ⟨B3.out.os, B3.out.tape, B3.out.output, B3.out.size, B3.out.block⟩).trans (b4.mono hs3))
        clear u1 u2 u3
        go_wp2_with fail
        go_ret
        exact ⟨rfl, B4.out⟩
end Go.Proofs.Ytpipbgigihameaa
