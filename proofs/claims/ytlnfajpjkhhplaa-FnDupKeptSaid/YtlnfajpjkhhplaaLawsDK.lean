
/-
  The walk of the law FnDupKept: the last row is always kept, and the kept rows add up to the left factor: it returns true for every code.
-/
import Derived.Test.YtlnfajpjkhhplaaDrawD
import Derived.Test.YtlnfajpjkhhplaaDupL
namespace Go.Proofs.Ytlnfajpjkhhplaa
open Go.RowKit

theorem nth_snoc (zs : List Int) (x : Int) : nth (zs ++ [x]) zs.length = x := by simp [nth]
theorem kept_last {a : Nat} (h : 1 ≤ a) : 1 ≤ (kept a (bl a)).length ∧ nth (kept a (bl a)) ((kept a (bl a)).length - 1) = ((bl a - 1 : Nat) : Int) := by
  rw [kept_top h]
  simp only [List.length_append, List.length_cons, List.length_nil, Nat.zero_add, Nat.add_sub_cancel]
  exact ⟨by omega, nth_snoc _ _⟩
theorem nth_mem' {zs : List Int} {i : Nat} (h : i < zs.length) : nth zs i ∈ zs := by
  rw [nth_of zs i h]
  exact List.getElem_mem h

set_option maxRecDepth 100000 in
set_option maxHeartbeats 2000000 in
theorem fnDupKept_walk (a : Option Addr) (cap : Nat) (zs : List Int) (w : World) (h : InRow .u8 w a cap zs) :
    Calls Try.prog 9 #[.slice a zs.length cap] w fun e w' => e = .returned (.bool true) ∧ Below w.heap.size w w' := by
  have hfit := h.fits
  have hlim := h.lim
  unfold maxLen at hlim
  have H := Lib.hid h
  clear h
  by_cases hbig : 1048576 < zs.length
  · go_enter Try.func9, Try.ntmps9
    go_wp2_with fail
    go_ret
    exact ⟨rfl, Below.refl _ _⟩
  · go_enter Try.func9, Try.ntmps9
    go_wp2_with fail
    refine (drawDupKept_any _ _ _ _ H.out).mono ?_
    rintro e w1 ⟨x, y, rfl, x0, x1, y0, y1, b1⟩
    have B1 := Lib.hid b1
    clear b1
    cases hf : isFac x && isFac y
    · have E := Lib.hid (dupKept_no hf)
      clear hf
      go_wp2_with fail
      refine (implDupKept_any _ _ _ [] E.out).mono ?_
      rintro e w2 ⟨a2, c2, rfl, o2, b2⟩
      have B2 := Lib.hid (B1.out.trans (b2.mono B1.out.size))
      clear b2 o2
      go_wp2_with fail
      refine (specDupKept_any _ _ _ [] E.out).mono ?_
      rintro e w3 ⟨a3, c3, rfl, o3, b3⟩
      have B3 := Lib.hid (B2.out.trans (b3.mono B2.out.size))
      clear b3 o3
      go_wp2_with fail
      refine (sameInts_same _ _ _ _ _ [] Row.nil_ Row.nil_ (by simp)).mono ?_
      rintro e w4 ⟨rfl, b4⟩
      have B4 := Lib.hid (B3.out.trans (b4.mono B3.out.size))
      clear b4
      go_wp2_with fail
      refine (sameInts_same _ _ _ _ _ [] Row.nil_ Row.nil_ (by simp)).mono ?_
      rintro e w5 ⟨rfl, b5⟩
      have B5 := Lib.hid (B4.out.trans (b5.mono B4.out.size))
      clear b5
      go_wp2_with fail
      go_ret
      exact ⟨rfl, B5.out⟩
    · obtain ⟨n, m, rfl, rfl, n1, n2, m1, m2⟩ := facs hf
      have E := Lib.hid (dupKept_yes n1 n2 m1 m2)
      have ER := Lib.hid (dupRows_yes n1 n2 m1 m2)
      have HK := bl_pos n1
      have HK' := bl_le n2
      have LAST := Lib.hid (kept_last n1).2
      have len1 := (kept_last n1).1
      have len2 := kept_len_le n (bl n)
      have MEM := Lib.hid (fun (i : Nat) (hi : i < (kept n (bl n)).length) => kept_mem (nth_mem' hi))
      have SUM := Lib.hid ((pick_kept n 1 (bl n)).trans ((sumK_all n 1).trans (Nat.mul_one n)))
      have LL := Lib.hid (hl_len n (bl n))
      have LR := Lib.hid (dl_len m (bl n))
      clear hf
      generalize kept n (bl n) = ks at *
      generalize hl n (bl n) = ls at *
      generalize dl m (bl n) = rs at *
      go_wp2_with fail
      refine (implDupKept_any _ _ _ ks E.out).mono ?_
      rintro e w2 ⟨a2, c2, rfl, o2, b2⟩
      have B2 := Lib.hid (B1.out.trans (b2.mono B1.out.size))
      have L2 := Lib.hid o2.row
      clear b2 o2
      go_wp2_with fail
      refine (specDupKept_any _ _ _ ks E.out).mono ?_
      rintro e w3 ⟨a3, c3, rfl, o3, b3⟩
      have B3 := Lib.hid (B2.out.trans (b3.mono B2.out.size))
      have L3 := Lib.hid (L2.out.below b3)
      have U3 := Lib.hid o3.row
      clear b3 o3
      go_wp2_with fail
      refine (sameInts_same _ _ _ _ _ ks L3.out U3.out (by omega)).mono ?_
      rintro e w4 ⟨rfl, b4⟩
      have B4 := Lib.hid (B3.out.trans (b4.mono B3.out.size))
      have L4 := Lib.hid (L3.out.below b4)
      clear b4
      go_wp2_with fail
      refine (implDupRows_any _ _ _ ls rs true ER.out).mono ?_
      rintro e w5 ⟨a5, c5, a5', c5', l1, h1, l2, h2, rfl, _, _, _, _, _, b5⟩
      rw [LL.out, LR.out]
      have B5 := Lib.hid (B4.out.trans (b5.mono B4.out.size))
      have L5 := Lib.hid (L4.out.below b5)
      clear b5
      obtain ⟨p1, q1, rfl, _, cl⟩ := L5.out (by omega)
      have CL := Lib.hid cl
      clear cl
      have PT := Lib.hid (fun (i : Nat) (hi : i < ks.length) => pick_take_succ 1 ks hi)
      have PB := Lib.hid (fun i : Nat => pick_take_le 1 ks i)
      have PE := Lib.hid (show pick 1 (ks.take ks.length) = n by rw [List.take_length]; exact SUM.out)
      have P0 := Lib.hid (show pick 1 (ks.take 0) = 0 by rfl)
      rw [SUM.out] at PB
      generalize ks.length = K at *
      generalize bl n = T at *
      go_wp2_with fail
      go_loop [10, 11] (fun s i => ∃ j S : Nat, j ≤ K ∧ i = .int .i64 (j : Int) ∧ s = .int .i64 (S : Int) ∧ S = pick 1 (ks.take j)) (fun _ i => K - (intOf i).toNat)
      case atStart => exact ⟨0, 0, Nat.zero_le _, rfl, rfl, P0.out.symm⟩
      case round =>
        obtain ⟨j, S, hj, rfl, rfl, hS⟩ := hrel
        have HS := Lib.hid hS
        have sb : S ≤ n := by rw [hS]; exact PB.out j
        clear hS
        by_cases hlt : j < K
        · have hc := CL.out j hlt
          obtain ⟨x, hx, hxT⟩ := MEM.out j hlt
          rw [hx] at hc
          have HX := Lib.hid hx
          have px := pow_row (k := x) (by omega)
          clear hx
          go_wp2_with fail
          go_loop [12, 13] (fun p q => ∃ k R : Nat, k ≤ x ∧ p = .int .i64 (R : Int) ∧ q = .int .i64 (k : Int) ∧ R = 2 ^ k) (fun _ q => x - (intOf q).toNat)
          case atStart => exact ⟨0, 1, Nat.zero_le _, rfl, rfl, rfl⟩
          case round =>
            obtain ⟨k, R, hk, rfl, rfl, hR⟩ := hrel
            have rb : R ≤ 131072 := by rw [hR]; exact pow_row (by omega)
            have HR := Lib.hid hR
            clear hR
            by_cases hlt2 : k < x
            · go_wp2_with fail
              go_round
              case rel => exact ⟨k + 1, 2 * R, by omega, by go_num, by go_num, by rw [HR.out, Nat.pow_succ, Nat.mul_comm]⟩
              case measure => (simp [intOf]) <;> omega
            · go_wp2_with fail
              go_round
              case rel =>
                refine ⟨j + 1, S + R, by omega, by go_num, by go_num, ?_⟩
                rw [PT.out j hlt, ← HS.out, HX.out, HR.out, show k = x by omega]
                simp
              case measure => (simp [intOf]) <;> omega
        · have e : S = n := by rw [HS.out, show j = K by omega]; exact PE.out
          subst e
          obtain ⟨z, hz⟩ : ∃ z, K = z + 1 := ⟨K - 1, by omega⟩
          subst hz
          have hc := CL.out z (by omega)
          have hl := LAST.out
          rw [Nat.add_sub_cancel] at hl
          rw [hl] at hc
          obtain ⟨t, ht⟩ : ∃ t, T = t + 1 := ⟨T - 1, by omega⟩
          subst ht
          rw [Nat.add_sub_cancel] at hc
          clear hl
          go_wp2_with fail
          go_ret
          exact ⟨rfl, B5.out⟩
end Go.Proofs.Ytlnfajpjkhhplaa
