
/-
  The contract of spec's function that leaves one unit out. Condition: lists of at most 2^20 numbers.
-/
import Derived.Test.YtgdeaochfmakbaaUnitsD2
import Derived.Test.YtgdeaochfmakbaaDraw
namespace Go.Proofs.Ytgdeaochfmakbaa
open Go.RowKit

theorem Own.cap_le {w : World} {lo hi n cap : Nat} {a : Option Addr} {zs : List Int} (h : Own w lo hi (.slice a n cap) zs) : n ≤ cap := by
  rcases h.owns.2 with ⟨hv, hz⟩ | ⟨g, cap', cur, hv, _, _, h1, _⟩
  · injection hv with _ h1 h2
    omega
  · injection hv with _ h3 h4
    omega
theorem Own.cap_max {w : World} {lo hi n cap : Nat} {a : Option Addr} {zs : List Int} (h : Own w lo hi (.slice a n cap) zs) : cap ≤ maxLen := by
  rcases h.owns.2 with ⟨hv, hz⟩ | ⟨g, cap', cur, hv, _, _, _, h1, _⟩
  · injection hv with _ h1 h2
    omega
  · injection hv with _ h3 h4
    omega
theorem Row.drop2_ {k : IntKind} {w : World} {b off : Nat} {zs : List Int} (h : Row k w (some ⟨b, off, none⟩) zs) (n : Nat) : Row k w (some ⟨b, off + n, none⟩) (zs.drop n) := fun hn => by
  have hl : n < zs.length := by rw [List.length_drop] at hn; omega
  obtain ⟨b', off', e, hlt, hc⟩ := h (by omega)
  injection e with e
  injection e with e1 e2
  subst e1 e2
  refine ⟨b, off + n, rfl, hlt, fun i hi => ?_⟩
  have := hc (n + i) (by rw [List.length_drop] at hi; omega)
  rw [Nat.add_assoc, this]
  simp [nth]
/-- 'append(out, ys...)' at a step of a region that draws its order. -/
theorem step_cat {ops : Array Oper} {o : Oper} {a : Act} {w : World} {K : Act → World → Prop} {Q : Exit → Act → World → Prop} {E : Prop} (hgd : o.guard = none) (s x : Operand)
    (ho : o.op = .call { callee := .builtin .append, args := #[s, x], argTypes := #[22, 22] })
    (base : Nat) (ys out : List Int) (a0 : Option Addr) (n m cap : Nat) (ad : Addr) (cy : Nat) (hn : out.length = n) (hm : ys.length = m) (hs : a.eval s = .slice a0 n cap) (hx : a.eval x = .slice (some ad) m cy)
    (hown : w.ownsRow base 3 1 (.slice a0 n cap) n (IV out)) (hrow : Row .i64 w (some ad) ys) (hb : base ≤ w.heap.size) (hl : n + m ≤ 1000000)
    (h : ∀ a' c' w', w'.ownsRow base 3 1 (.slice a' (n + m) c') (n + m) (IV (out ++ ys)) → Below base w w' → w.heap.size ≤ w'.heap.size → K (a.put o.dst (.slice a' (n + m) c')) w') :
    if Region.wanted o (yielded ops a.tmps) = true then Oper.wp Try.prog o a w K Q else E := by
  obtain ⟨i0, hi0, hz0, hz1, hz2⟩ := info_parts int_info
  have hw : Region.wanted o (yielded ops a.tmps) = true := by simp [Region.wanted, hgd]
  rw [if_pos hw]
  refine wp_append_own w s x 22 ho base 3 i0 (.int .i64 0) 1 8 Try.underlying22 hi0 hz0 hz1 hz2 rfl (by decide) _ n _ hs hown ad m cy (IV ys) hx (by rw [IV_len]; omega) hrow.cells (IV_one ys) (by unfold maxLen; omega) (by omega) hb ?_
  intro v' w' ho' hg' _
  rw [IV_app] at ho'
  have ho2 : w'.ownsRow base 3 1 v' (out ++ ys).length (IV (out ++ ys)) := by
    rw [List.length_append, hn, hm]
    exact ho'
  obtain ⟨a', c', rfl⟩ := (Own.of ho2).form
  have hlen : (out ++ ys).length = n + m := by simp; omega
  rw [hlen] at ho2 ⊢
  exact h a' c' w' ho2 ((Below.refl base w).grown hg' hb (fun r hr => (hown.lt r hr).1)) hg'.size

set_option maxRecDepth 100000 in
set_option maxHeartbeats 2000000 in
theorem specUnitsDrop_any (w : World) (a : Option Addr) (cap : Nat) (zs : List Int) (h : Row .i64 w a zs) (hl : zs.length ≤ 2000000) (hcap : zs.length ≤ cap) (hcm : cap ≤ maxLen) (k : Int) (rs : List Int) (ok : Bool) (hr : unitsDrop zs k = (rs, ok)) :
    Calls Try.prog 13 #[.slice a zs.length cap, .int .i64 k] w (FreshOk w rs ok) := by
  have H := Lib.hid h
  have E0 := Lib.hid (own_empty w w.heap.size (Nat.le_refl _))
  have B0 := Lib.hid ((Below.refl _ w).alloc (Nat.le_refl _) (.cells #[] 3))
  clear h
  cases hu : isUnits zs
  · rw [unitsDrop_no1 hu] at hr
    injection hr with e1 e2
    subst e1
    subst e2
    have HU := Lib.hid hu
    clear hu
    go_enter Try.func13, Try.ntmps13
    go_wp2_with fail
    refine (specUnitsValid_any _ _ _ _ H.out hl).mono ?_
    rintro e w' ⟨rfl, rfl⟩
    rw [HU.out]
    go_wp2_with fail
    go_ret2
    exact ⟨_, _, rfl, E0.out.all, B0.out⟩
  · have h8 := (isUnits_parts hu).2
    cases hk : inB k 0 ((zs.length : Int) - 1)
    · rw [unitsDrop_no2 hk] at hr
      injection hr with e1 e2
      subst e1
      subst e2
      have HU := Lib.hid hu
      have HK := Lib.hid hk
      clear hu hk
      go_enter Try.func13, Try.ntmps13
      go_wp2_with fail
      refine (specUnitsValid_any _ _ _ _ H.out hl).mono ?_
      rintro e w' ⟨rfl, rfl⟩
      rw [HU.out]
      go_wp2_with fail
      refine (l6In_any _ _ _ _).mono ?_
      rintro e w' ⟨rfl, rfl⟩
      rw [HK.out]
      go_wp2_with fail
      go_ret2
      exact ⟨_, _, rfl, E0.out.all, B0.out⟩
    · obtain ⟨k0, k1⟩ := inB_true hk
      obtain ⟨n, rfl⟩ : ∃ n : Nat, k = n := ⟨k.toNat, by omega⟩
      rw [unitsDrop_yes hu (by omega)] at hr
      injection hr with e1 e2
      subst e1
      subst e2
      have HU := Lib.hid hu
      have HK := Lib.hid hk
      have DL := Lib.hid (dropAt_len (zs := zs) (k := n) (by omega))
      clear hu hk
      obtain ⟨b, off, rfl, hb, _⟩ := H.out (by omega)
      have RT := H.out.take_ n
      have RD := H.out.drop2_ (n + 1)
      have lt : (zs.take n).length = n := by rw [List.length_take]; omega
      have ld : (zs.drop (n + 1)).length = zs.length - (n + 1) := List.length_drop
      go_enter Try.func13, Try.ntmps13
      go_wp2_with fail
      refine (specUnitsValid_any _ _ _ _ H.out hl).mono ?_
      rintro e w' ⟨rfl, rfl⟩
      rw [HU.out]
      go_wp2_with fail
      refine (l6In_any _ _ _ _).mono ?_
      rintro e w' ⟨rfl, rfl⟩
      rw [HK.out]
      go_wp2_with fail
      have ho := E0.out.owns
      have f1 : (0 : Int) ≤ (n : Int) := by omega
      have f2 : (n : Int) ≤ (cap : Int) := by omega
      have f3 : IntKind.i64.wrap ((n : Int) + 1) = (n : Int) + 1 := IntWalk.i64_in _ (by omega)
      have f4 : (0 : Int) ≤ (n : Int) + 1 := by omega
      have f5 : (n : Int) + 1 ≤ (zs.length : Int) := by omega
      have f6 : (zs.length : Int) ≤ (cap : Int) := by omega
      have f7 : ((n : Int) + 1).toNat = n + 1 := by omega
      have f8 : (n : Int).toNat = n := by omega
      by_cases hz : cap = n + 1
      · have f9 : cap - (n + 1) = 0 := by omega
        have f11 : (n : Int) ≤ (n : Int) + 1 := by omega
        have RD' : ∀ W : World, Row .i64 W (some ⟨b, off, none⟩) (zs.drop (n + 1)) := fun W => by
          rw [List.drop_of_length_le (by omega)]
          exact Row.nil_
        go_region_held3 (fun _ => True) (trivial)
          (first
            | (refine step_cat rfl _ _ rfl w.heap.size (zs.take n) [] _ 0 n 0 ⟨b, off, none⟩ _ rfl lt rfl rfl ho (RT.below (below_drewN B0.out 1)) (by simp) (by omega) ?_; intro a1 c1 w1 o1 b1 s1; have S1 : w.heap.size ≤ w1.heap.size := (by have := s1; simp at this; omega); have B1 : Below w.heap.size w w1 := (below_drewN B0.out 1).trans b1)
            | (refine step_cat rfl _ _ rfl w.heap.size (zs.drop (n + 1)) (zs.take n) a1 (0 + n) (zs.length - (n + 1)) c1 ⟨b, off, none⟩ _ (lt.trans (Nat.zero_add n).symm) ld rfl rfl o1 (RD' _) S1 (by omega) ?_; intro a2 c2 w2 o2 b2 s2))
        have B2 := Lib.hid (B1.trans b2)
        have O2 := Lib.hid o2
        clear o1 o2 b1 b2 B1 ho
        go_wp2_with fail
        go_ret2
        have e : 0 + n + (zs.length - (n + 1)) = (dropAt zs n).length := by rw [DL.out]; omega
        have e' : n + (zs.length - (n + 1)) = (dropAt zs n).length := by rw [DL.out]; omega
        have o3 := O2.out
        rw [e] at o3
        refine ⟨a2, c2, ?_, Own.of o3, B2.out⟩
        rw [← e']
        rfl
      · have f9 : ¬ (cap - (n + 1) = 0) := by omega
        have f10 : ¬ ((cap : Int) = (n : Int) + 1) := by omega
        go_region_held3 (fun _ => True) (trivial)
          (first
            | (refine step_cat rfl _ _ rfl w.heap.size (zs.take n) [] _ 0 n 0 ⟨b, off, none⟩ _ rfl lt rfl rfl ho (RT.below (below_drewN B0.out 1)) (by simp) (by omega) ?_; intro a1 c1 w1 o1 b1 s1; have S1 : w.heap.size ≤ w1.heap.size := (by have := s1; simp at this; omega); have B1 : Below w.heap.size w w1 := (below_drewN B0.out 1).trans b1)
            | (refine step_cat rfl _ _ rfl w.heap.size (zs.drop (n + 1)) (zs.take n) a1 (0 + n) (zs.length - (n + 1)) c1 ⟨b, off + (n + 1), none⟩ _ (lt.trans (Nat.zero_add n).symm) ld rfl rfl o1 (RD.below B1) S1 (by omega) ?_; intro a2 c2 w2 o2 b2 s2))
        have B2 := Lib.hid (B1.trans b2)
        have O2 := Lib.hid o2
        clear o1 o2 b1 b2 B1 ho
        go_wp2_with fail
        go_ret2
        have e : 0 + n + (zs.length - (n + 1)) = (dropAt zs n).length := by rw [DL.out]; omega
        have e' : n + (zs.length - (n + 1)) = (dropAt zs n).length := by rw [DL.out]; omega
        have o3 := O2.out
        rw [e] at o3
        refine ⟨a2, c2, ?_, Own.of o3, B2.out⟩
        rw [← e']
        rfl
end Go.Proofs.Ytgdeaochfmakbaa
