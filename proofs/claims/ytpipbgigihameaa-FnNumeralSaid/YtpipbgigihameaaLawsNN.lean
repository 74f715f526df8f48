
/-
  The walk of the law FnNumeral: a numeral has its value: it returns true for every code.
-/
import Derived.Test.YtpipbgigihameaaLawsN
namespace Go.Proofs.Ytpipbgigihameaa
open Go.RowKit

/-- 'append([]int{0}, out...)' behind a guard that lets it by. -/
theorem wpList_prepend_g {ops : Array Oper} {rest : List Oper} {o : Oper} {a : Act} {Q : Exit → Act → World → Prop} (hw : Region.wanted o (yielded ops a.tmps) = true) (s x : Operand)
    (ho : o.op = .call { callee := .builtin .append, args := #[s, x], argTypes := #[22, 22] })
    (W : World) (base hi : Nat) (d : Int) (out : List Int) (g cap : Nat) (hs : a.eval s = .slice (some ⟨W.heap.size, 0, none⟩) 1 1) (hx : a.eval x = .slice (some ⟨g, 0, none⟩) out.length cap)
    (hown : Own W base hi (.slice (some ⟨g, 0, none⟩) out.length cap) out) (hb : base ≤ W.heap.size) (hl : out.length ≤ 1000000)
    (h : ∀ g' c' w', Own w' base w'.heap.size (.slice (some ⟨g', 0, none⟩) (out.length + 1) c') (d :: out) → Below W.heap.size W w' → wpList Try.prog ops Q rest (a.put o.dst (.slice (some ⟨g', 0, none⟩) (out.length + 1) c')) w') :
    wpList Try.prog ops Q (o :: rest) a (W.alloc (.cells #[.int .i64 d] 3)) := by
  obtain ⟨i0, hi0, hz0, hz1, hz2⟩ := info_parts int_info
  have hlit : (W.alloc (.cells #[.int .i64 d] 3)).ownsRow base 3 1 (.slice (some ⟨W.heap.size, 0, none⟩) 1 1) 1 [.int .i64 d] := World.ownsRow_lit W #[.int .i64 d] 1 hb (by unfold maxLen; omega) rfl
  refine wpList_step fun K hK => ?_
  rw [if_pos hw]
  refine wp_append_own _ s x 22 ho base 3 i0 (.int .i64 0) 1 8 Try.underlying22 hi0 hz0 hz1 hz2 rfl (by decide) _ _ _ hs hlit ⟨g, 0, none⟩ out.length cap (IV out) hx (by rw [IV_len]; omega) (fun j u hj => ?_) (IV_one out) (by unfold maxLen; omega) (by omega) (by simp; omega) ?_
  · have := cells_own hown j u hj
    rw [Addr.add_lit] at this ⊢
    rw [World.cell?_alloc_lt W _ _ (by have := hown.top g rfl; have := hown.lim; show g < _; omega)]
    exact this
  · intro v' w' ho' hg' _
    have ho2 : w'.ownsRow base 3 1 v' (d :: out).length (IV (d :: out)) := by
      rw [List.length_cons, Nat.add_comm]
      exact ho'
    have hO := Own.of ho2
    obtain ⟨g', c', rfl, _, _⟩ := ho2.form (by simp)
    have hlen : (d :: out).length = out.length + 1 := by simp
    rw [hlen] at hO ⊢
    refine hK _ _ (h g' c' w' hO ?_)
    exact ((Below.refl _ W).alloc (Nat.le_refl _) _).grown hg' (by simp) (fun r hr => by
      have : W.heap.size = r := by simpa [Value.ownBlock] using hr
      omega)

set_option maxRecDepth 100000 in
set_option maxHeartbeats 1000000 in
theorem fnNumeral_walk (a : Option Addr) (cap : Nat) (zs : List Int) (w : World) (h : InRow .u8 w a cap zs) :
    Calls Try.prog 7 #[.slice a zs.length cap] w fun e w' => e = .returned (.bool true) ∧ Below w.heap.size w w' := by
  have hfit := h.fits
  have hlim := h.lim
  unfold maxLen at hlim
  have H := Lib.hid h
  clear h
  by_cases hl : 1048576 < zs.length
  · go_enter Try.func7, Try.ntmps7
    go_wp2_with fail
    go_ret
    exact ⟨rfl, Below.refl _ _⟩
  · go_enter Try.func7, Try.ntmps7
    go_wp2_with fail
    refine (drawNumeralOf_any _ _ _ _ H.out).mono ?_
    rintro e w1 ⟨x, rfl, x0, x1, b1⟩
    have B1 := Lib.hid b1
    clear b1
    cases hn : inB x 0 999999
    · have E := Lib.hid (numOf_no hn)
      clear hn
      go_wp2_with fail
      refine (implNumeralOf_any _ _ [] false E.out).mono ?_
      rintro e w2 ⟨a2, c2, rfl, o2, b2⟩
      have B2 := Lib.hid (B1.out.trans (b2.mono B1.out.size))
      clear b2 o2
      go_wp2_with fail
      refine (specNumeralOf_any _ _ [] false E.out).mono ?_
      rintro e w3 ⟨a3, c3, rfl, o3, b3⟩
      have B3 := Lib.hid (B2.out.trans (b3.mono B2.out.size))
      clear b3 o3
      go_wp2_with fail
      refine (sameInts_same _ _ _ _ _ [] Row.nil_ Row.nil_ (by simp)).mono ?_
      rintro e w4 ⟨rfl, b4⟩
      have B4 := Lib.hid (B3.out.trans (b4.mono B3.out.size))
      clear b4
      go_wp2_with fail
      refine (sameInts_same _ _ _ _ _ [] Row.nil_ Row.nil_ (by simp)).mono ?_
      rintro e w5 ⟨rfl, b5⟩
      have B5 := Lib.hid (B4.out.trans (b5.mono B4.out.size))
      clear b5
      go_wp2_with fail
      go_ret
      exact ⟨rfl, B5.out⟩
    · obtain ⟨l0, u0⟩ := inB_true hn
      obtain ⟨v, rfl⟩ : ∃ v : Nat, x = v := ⟨x.toNat, by omega⟩
      have hv9 : v ≤ 999999 := by omega
      have E := Lib.hid (numOf_yes hv9)
      have NV := Lib.hid (numVal_decs hv9)
      have ND := Lib.hid (isNum_decs hv9)
      have HD := Lib.hid (numeral_head v)
      have DL := Lib.hid (decs_len (dsize v) v)
      have d1 := dsize_ge v
      have d6 := dsize_le hv9
      have VD := Lib.hid (decs_val (dsize v) v (lt_pow_dsize v))
      generalize decs (dsize v) v = rs at *
      clear hn
      have rl : rs.length ≤ 6 := by rw [DL.out]; omega
      have r1 : 1 ≤ rs.length := by rw [DL.out]; omega
      go_wp2_with fail
      refine (implNumeralOf_any _ _ rs true E.out).mono ?_
      rintro e w2 ⟨a2, c2, rfl, o2, b2⟩
      have B2 := Lib.hid (B1.out.trans (b2.mono B1.out.size))
      have Q2 := Lib.hid o2
      clear b2 o2
      go_wp2_with fail
      refine (specNumeralOf_any _ _ rs true E.out).mono ?_
      rintro e w3 ⟨a3, c3, rfl, o3, b3⟩
      have B3 := Lib.hid (B2.out.trans (b3.mono B2.out.size))
      have Q3 := Lib.hid (Q2.out.below (b3.mono Q2.out.lim))
      have R3 := Lib.hid o3
      clear b3 o3
      go_wp2_with fail
      refine (sameInts_same _ _ _ _ _ rs Q3.out.row R3.out.row (by omega)).mono ?_
      rintro e w4 ⟨rfl, b4⟩
      have B4 := Lib.hid (B3.out.trans (b4.mono B3.out.size))
      have Q4 := Lib.hid (Q3.out.below (b4.mono Q3.out.lim))
      clear b4
      go_wp2_with fail
      refine (implNumeralValue_any _ _ _ _ Q4.out.row (by omega)).mono ?_
      rintro e w5 ⟨rfl, b5⟩
      rw [NV.out]
      have B5 := Lib.hid (B4.out.trans (b5.mono B4.out.size))
      have q5 := Q4.out.below (b5.mono Q4.out.lim)
      clear b5
      obtain ⟨g, rfl, _, _, hc, _⟩ := q5.at_ (i := 0) (by omega)
      have Q5 := Lib.hid q5
      have hs5 := B5.out.size
      clear q5
      have key : ∃ f : Bool, decide (0 < nth rs 0) = f ∧ (f = false → v = 0 ∧ rs.length = 1) := ⟨_, rfl, fun hf => by
        rcases HD.out with h1 | ⟨h1, h2⟩
        · exact absurd h1 (by simpa using hf)
        · exact ⟨h1, by rw [DL.out]; exact h2⟩⟩
      obtain ⟨f, hf, hff⟩ := key
      have HFF := Lib.hid hff
      clear hff
      by_cases h6 : rs.length = 6
      · have e6 : ((rs.length : Int) == 6) = true := by rw [beq_iff_eq]; omega
        cases f with
        | true =>
          have hf' : 0 < nth rs 0 := by simpa using hf
          clear hf h6
          go_wp2_with fail
          go_ret
          exact ⟨rfl, B5.out⟩
        | false =>
          have := (HFF.out rfl).2
          omega
      · have e6 : ((rs.length : Int) == 6) = false := beq_eq_false_iff_ne.2 (by omega)
        have N0 := Lib.hid (show numVal (0 :: rs) = (v : Int) by rw [numVal_yes (isNum_zero_cons ND.out h6), val_zero_cons, VD.out])
        clear h6
        cases f with
        | true =>
          have hf' : 0 < nth rs 0 := by simpa using hf
          clear hf
          go_wp2_with (at_builtin; refine wpList_prepend_g rfl _ _ rfl w5 w.heap.size _ 0 rs g c2 rfl rfl (Q5.out.mono (by have := B1.out.size; omega) (Nat.le_refl _) Q5.out.lim) hs5 (by omega) ?_; intro g6 c6 w6 o6 b6)
          have O6 := Lib.hid o6
          have B6 := Lib.hid (B5.out.trans (b6.mono hs5))
          have hlen : rs.length + 1 = (0 :: rs).length := by simp
          clear o6 b6
          rw [hlen]
          refine (implNumeralValue_any _ _ _ (0 :: rs) (by have := O6.out.row; exact this) (by simp; omega)).mono ?_
          rintro e w7 ⟨rfl, b7⟩
          rw [N0.out]
          have B7 := Lib.hid (B6.out.trans (b7.mono B6.out.size))
          clear b7 hlen
          go_wp2_with fail
          go_ret
          exact ⟨rfl, B7.out⟩
        | false =>
          obtain ⟨v0, r1'⟩ := HFF.out rfl
          have hf' : nth rs 0 ≤ 0 := by simpa using hf
          have ev : ((v : Int) == 0) = true := by rw [beq_iff_eq]; omega
          have el : ((rs.length : Int) == 1) = true := by rw [beq_iff_eq]; omega
          clear hf v0 r1'
          go_wp2_with (at_builtin; refine wpList_prepend_g rfl _ _ rfl w5 w.heap.size _ 0 rs g c2 rfl rfl (Q5.out.mono (by have := B1.out.size; omega) (Nat.le_refl _) Q5.out.lim) hs5 (by omega) ?_; intro g6 c6 w6 o6 b6)
          have O6 := Lib.hid o6
          have B6 := Lib.hid (B5.out.trans (b6.mono hs5))
          have hlen : rs.length + 1 = (0 :: rs).length := by simp
          clear o6 b6
          rw [hlen]
          refine (implNumeralValue_any _ _ _ (0 :: rs) (by have := O6.out.row; exact this) (by simp; omega)).mono ?_
          rintro e w7 ⟨rfl, b7⟩
          rw [N0.out]
          have B7 := Lib.hid (B6.out.trans (b7.mono B6.out.size))
          clear b7 hlen
          go_wp2_with fail
          go_ret
          exact ⟨rfl, B7.out⟩
end Go.Proofs.Ytpipbgigihameaa
