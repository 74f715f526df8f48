
/-
  Contracts of impl's functions that leave one unit out of a chain. Condition: lists of at most 2^20 numbers.
-/
import Derived.Test.YtgdeaochfmakbaaUnitsD
namespace Go.Proofs.Ytgdeaochfmakbaa
open Go.RowKit

theorem Chain.uniq {w : World} {lo hi : Nat} : ∀ {xs ys : List Int} {p : Option Addr}, Chain w lo hi p xs → Chain w lo hi p ys → xs = ys
  | [], [], _, _, _ => rfl
  | [], _ :: _, _, h, ⟨g, next, h1, _⟩ => by rw [show _ = none from h] at h1; cases h1
  | _ :: _, [], _, ⟨g, next, h1, _⟩, h => by rw [show _ = none from h] at h1; cases h1
  | x :: xs, y :: ys, p, ⟨g, next, h1, _, _, h4, h5⟩, ⟨g', next', h1', _, _, h4', h5'⟩ => by
    rw [h1] at h1'
    injection h1' with e
    injection e with e
    subst e
    rw [h4] at h4'
    injection h4' with e
    injection e with e _ _
    simp at e
    obtain ⟨rfl, rfl⟩ := e
    rw [Chain.uniq h5 h5']
/-- The second world has the blocks of all chains that are longer than n. -/
def Agree (w w' : World) (lo hi n : Nat) : Prop := ∀ g L, Chain w lo hi (some ⟨g, 0, none⟩) L → n < L.length → w'.heap[g]? = w.heap[g]?
/-- A chain shorter than the one from block g on does not hold g. -/
theorem Chain.other {w w' : World} {lo hi g : Nat} {L : List Int} (hg : Chain w lo hi (some ⟨g, 0, none⟩) L) (hk : ∀ b, b ≠ g → w'.heap[b]? = w.heap[b]?) :
    ∀ {xs : List Int} {p : Option Addr}, Chain w lo hi p xs → xs.length < L.length → Chain w' lo hi p xs
  | [], _, h, _ => h
  | x :: xs, p, h, hl => by
    obtain ⟨b, next, h1, h2, h3, h4, h5⟩ := h
    have hb : b ≠ g := fun e => by
      subst e
      have h' : Chain w lo hi (some ⟨b, 0, none⟩) (x :: xs) := ⟨b, next, rfl, h2, h3, h4, h5⟩
      rw [Chain.uniq h' hg] at hl
      omega
    exact ⟨b, next, h1, h2, h3, (hk b hb).trans h4, Chain.other hg hk h5 (by simp only [List.length_cons] at hl; omega)⟩
/-- What is known of the node that k steps reach. -/
def Seg (w : World) (lo hi : Nat) (p : Option Addr) (xs : List Int) (k : Nat) (n : Option Addr) : Prop :=
  Chain w lo hi n (xs.drop k) ∧ ∀ w' ys, Agree w w' lo hi (xs.length - k) → Chain w' lo hi n ys → Chain w' lo hi p (xs.take k ++ ys)
theorem Seg.start {w : World} {lo hi : Nat} {p : Option Addr} {xs : List Int} (h : Chain w lo hi p xs) : Seg w lo hi p xs 0 p := ⟨h, fun w' ys _ hc => by simpa using hc⟩
theorem Seg.step {w : World} {lo hi g : Nat} {p next : Option Addr} {xs : List Int} {k : Nat} (hk : k < xs.length) (h : Seg w lo hi p xs k (some ⟨g, 0, none⟩))
    (hlo : lo ≤ g) (hhi : g < hi) (hb : w.heap[g]? = some (.cells #[.int .i64 (nth xs k), .pointer next] 47 (0, 0))) (hc : Chain w lo hi next (xs.drop (k + 1))) : Seg w lo hi p xs (k + 1) next := by
  refine ⟨hc, fun w' ys ha hy => ?_⟩
  rw [take_snoc xs k hk, List.append_assoc]
  refine h.2 w' _ (fun b L hL hn => ha b L hL (by omega)) ?_
  refine ⟨g, next, rfl, hlo, hhi, ?_, hy⟩
  rw [ha g _ h.1 (by rw [List.length_drop]; omega)]
  exact hb
/-- The node after the one at k is left out. -/
theorem Seg.cut {w : World} {lo hi g g2 : Nat} {p n2 : Option Addr} {xs : List Int} {k : Nat} (hk : k + 1 < xs.length) (h : Seg w lo hi p xs k (some ⟨g, 0, none⟩))
    (hlo : lo ≤ g) (hhi : g < hi) (hb : w.heap[g]? = some (.cells #[.int .i64 (nth xs k), .pointer (some ⟨g2, 0, none⟩)] 47 (0, 0))) (hc : Chain w lo hi n2 (xs.drop (k + 2))) :
    Chain (w.setCell ⟨g, 1, none⟩ (.pointer n2)) lo hi p (dropAt xs (k + 1)) := by
  have keep : ∀ b, b ≠ g → (w.setCell ⟨g, 1, none⟩ (.pointer n2)).heap[b]? = w.heap[b]? := fun b hb' => heap_setCell_other w ⟨g, 1, none⟩ b _ hb'
  have h1 : Chain (w.setCell ⟨g, 1, none⟩ (.pointer n2)) lo hi (some ⟨g, 0, none⟩) (nth xs k :: xs.drop (k + 2)) := by
    refine ⟨g, n2, rfl, hlo, hhi, ?_, Chain.other h.1 keep hc (by simp only [List.length_drop]; omega)⟩
    rw [heap_setCell_same w g 1 _ _ _ hb]
    rfl
  have h2 := h.2 _ _ (fun b L hL hn => keep b (fun e => by
    subst e
    rw [Chain.uniq hL h.1, List.length_drop] at hn
    omega)) h1
  rw [dropAt, take_snoc xs k (by omega), List.append_assoc]
  exact h2

set_option maxRecDepth 100000 in
theorem unitWithout_any (w : World) (lo : Nat) (p : Option Addr) (zs : List Int) (k : Nat) (h : Chain w lo w.heap.size p zs) (hlo : lo ≤ w.heap.size) (hk : k < zs.length) (hl : zs.length ≤ 100) :
    Calls Try.prog 27 #[.pointer p, .int .i64 (k : Int)] w fun e w' => ∃ q, e = .returned (.pointer q) ∧ Chain w' lo w'.heap.size q (dropAt zs k) ∧ Below lo w w' := by
  have S0 := Lib.hid (Seg.start (Chain.push h hlo 0))
  have B0 := Lib.hid ((Below.refl lo w).alloc hlo (.cells #[.int .i64 0, .pointer p] 47))
  have SZ := Lib.hid (show (w.alloc (.cells #[.int .i64 0, .pointer p] 47)).heap.size = w.heap.size + 1 by simp)
  clear h
  go_enter Try.func27, Try.ntmps27
  go_wp2_with fail
  obtain ⟨xs, hxs⟩ : ∃ xs, xs = 0 :: zs := ⟨_, rfl⟩
  rw [← hxs] at S0
  have XL : xs.length = zs.length + 1 := by rw [hxs]; rfl
  have XD := Lib.hid (show dropAt xs (k + 1) = 0 :: dropAt zs k by rw [hxs]; simp [dropAt])
  clear hxs
  obtain ⟨F, hF⟩ : ∃ F, F = w.heap.size := ⟨_, rfl⟩
  rw [← hF] at S0 hlo SZ ⊢
  have HF := Lib.hid hF
  clear hF
  generalize w.alloc (.cells #[.int .i64 0, .pointer p] 47) = W at *
  go_loop [1, 6] (fun c q => ∃ j : Nat, ∃ n, j ≤ k ∧ c = .int .i64 ((k - j : Nat) : Int) ∧ q = .pointer n ∧ Seg W lo (F + 1) (some ⟨F, 0, none⟩) xs j n) (fun c _ => (intOf c).toNat)
  case atStart => exact ⟨0, _, Nat.zero_le _, rfl, rfl, S0.out⟩
  case round =>
    obtain ⟨j, n, hj, rfl, rfl, hs⟩ := hrel
    have D := Lib.hid (drop_cons' (zs := xs) (t := j) (by omega))
    have hch := hs.1
    rw [D.out] at hch
    obtain ⟨g, next, rfl, g0, g1, hblk, hch2⟩ := hch
    have c1 : W.cell? ⟨g, 1, none⟩ = some (.pointer next) := by simp [World.cell?, hblk]
    have HS := Lib.hid hs
    have HB := Lib.hid hblk
    clear hs hblk
    by_cases hlt : j < k
    · have ST := Lib.hid (Seg.step (by omega) HS.out g0 g1 HB.out hch2)
      clear hch2
      go_wp2_with fail
      go_round
      case rel => exact ⟨j + 1, next, by omega, by go_num, rfl, ST.out⟩
      case measure => (simp [intOf]) <;> omega
    · obtain rfl : j = k := by omega
      rw [drop_cons' (zs := xs) (t := j + 1) (by omega)] at hch2
      obtain ⟨g2, n2, rfl, _, _, hblk2, hch3⟩ := hch2
      have c2 : W.cell? ⟨g2, 1, none⟩ = some (.pointer n2) := by simp [World.cell?, hblk2]
      have CUT := Lib.hid (Seg.cut (by omega) HS.out g0 g1 HB.out hch3)
      have hcut := CUT.out
      rw [XD.out] at hcut
      obtain ⟨g', next', e, _, _, _, c3, hfin⟩ := hcut.cells
      injection e with e
      injection e with e
      subst e
      have FIN := Lib.hid hfin
      have ek : (j - j : Nat) = 0 := by omega
      rw [ek]
      have BW := Lib.hid (B0.out.setCell (p := ⟨g, 1, none⟩) g0 (.pointer n2))
      have SW := Lib.hid (show (W.setCell ⟨g, 1, none⟩ (.pointer n2)).heap.size = F + 1 by simpa [World.setCell] using SZ.out)
      have fz : W.frozen? ⟨g, 1, none⟩ = false := by simp [World.frozen?, HB.out]
      clear hcut hfin hblk2 hch3 ek
      go_wp2_with fail
      go_ret
      exact ⟨next', rfl, by rw [SW.out]; exact FIN.out, BW.out⟩

set_option maxRecDepth 100000 in
theorem implUnitsDrop_any (w : World) (a : Option Addr) (cap : Nat) (zs : List Int) (h : Row .i64 w a zs) (hl : zs.length ≤ 2000000) (k : Int) (rs : List Int) (ok : Bool) (hr : unitsDrop zs k = (rs, ok)) :
    Calls Try.prog 14 #[.slice a zs.length cap, .int .i64 k] w (FreshOk w rs ok) := by
  have H := Lib.hid h
  clear h
  cases hu : isUnits zs
  · rw [unitsDrop_no1 hu] at hr
    injection hr with e1 e2
    subst e1
    subst e2
    have HU := Lib.hid hu
    clear hu
    go_enter Try.func14, Try.ntmps14
    go_wp2_with fail
    refine (unitsOf_any _ _ _ _ H.out hl).mono ?_
    rintro e w1 ⟨p, rfl, _, hn, b1⟩
    rw [HU.out]
    have B1 := Lib.hid b1
    clear b1 hn
    go_wp2_with fail
    go_ret2
    exact ⟨none, 0, rfl, Own.nil_ _ _, B1.out⟩
  · have h8 := (isUnits_parts hu).2
    cases hk : inB k 0 ((zs.length : Int) - 1)
    · rw [unitsDrop_no2 hk] at hr
      injection hr with e1 e2
      subst e1
      subst e2
      have HU := Lib.hid hu
      clear hu
      have hk2 : k < 0 ∨ (zs.length : Int) ≤ k := by
        by_cases h0 : k < 0
        · exact .inl h0
        · refine .inr ?_
          by_cases h1 : (zs.length : Int) ≤ k
          · exact h1
          · rw [inB_mk (by omega) (by omega)] at hk
            cases hk
      clear hk
      go_enter Try.func14, Try.ntmps14
      go_wp2_with fail
      refine (unitsOf_any _ _ _ _ H.out hl).mono ?_
      rintro e w1 ⟨p, rfl, _, hn, b1⟩
      rw [HU.out]
      have B1 := Lib.hid b1
      clear b1 hn
      rcases hk2 with h0 | h0
      · go_wp2_with fail
        go_ret2
        exact ⟨none, 0, rfl, Own.nil_ _ _, B1.out⟩
      · have h1 : ¬ k < 0 := by omega
        go_wp2_with fail
        go_ret2
        exact ⟨none, 0, rfl, Own.nil_ _ _, B1.out⟩
    · obtain ⟨k0, k1⟩ := inB_true hk
      obtain ⟨n, rfl⟩ : ∃ n : Nat, k = n := ⟨k.toNat, by omega⟩
      rw [unitsDrop_yes hu (by omega)] at hr
      injection hr with e1 e2
      subst e1
      subst e2
      have HU := Lib.hid hu
      have DL := Lib.hid (dropAt_len (zs := zs) (k := n) (by omega))
      clear hu hk
      go_enter Try.func14, Try.ntmps14
      go_wp2_with fail
      refine (unitsOf_any _ _ _ _ H.out hl).mono ?_
      rintro e w1 ⟨p, rfl, hc, _, b1⟩
      have C1 := Lib.hid (hc HU.out)
      rw [HU.out]
      have B1 := Lib.hid b1
      have hs1 := b1.size
      clear b1 hc
      go_wp2_with fail
      refine (unitWithout_any _ _ _ _ n C1.out hs1 (by omega) (by omega)).mono ?_
      rintro e w2 ⟨q, rfl, hc2, b2⟩
      have C2 := Lib.hid hc2
      have B2 := Lib.hid (B1.out.trans b2)
      clear hc2 b2
      go_wp2_with fail
      refine (unitList_any _ _ _ _ _ C2.out (Nat.le_refl _) (by rw [DL.out]; omega)).mono ?_
      rintro e w3 ⟨x, c, rfl, o3, b3⟩
      have O3 := Lib.hid o3
      have B3 := Lib.hid (B2.out.trans (b3.mono B2.out.size))
      have S2 := Lib.hid B2.out.size
      clear o3 b3
      go_wp2_with fail
      go_ret2
      exact ⟨x, c, rfl, O3.out.mono S2.out (Nat.le_refl _) O3.out.lim, B3.out⟩
end Go.Proofs.Ytgdeaochfmakbaa
