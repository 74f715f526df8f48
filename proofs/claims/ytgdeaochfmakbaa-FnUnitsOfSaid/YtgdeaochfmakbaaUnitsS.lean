
/-
  Contracts of the functions that find common divisors and add up unit fractions. Condition: lists of at most 2^20 numbers.
-/
import Derived.Test.YtgdeaochfmakbaaUnitsP
import Derived.IntWalk
import Derived.Deep.LoopGhost
namespace Go.Proofs.Ytgdeaochfmakbaa
open Go.RowKit

theorem l2Common_any (w : World) (a b : Nat) (ha : a ≤ 2000000000000000000) (hb : b ≤ 2000000000000000000) :
    Calls Try.prog 29 #[.int .i64 (a : Int), .int .i64 (b : Int)] w fun e w' => e = .returned (.int .i64 (Nat.gcd a b : Nat)) ∧ w = w' := by
  go_enter Try.func29, Try.ntmps29
  go_wp2_with fail
  go_loop [0, 1] (fun p q => ∃ x y : Nat, x ≤ 2000000000000000000 ∧ y ≤ 2000000000000000000 ∧ p = .int .i64 (x : Int) ∧ q = .int .i64 (y : Int) ∧ Nat.gcd x y = Nat.gcd a b) (fun _ q => (intOf q).toNat)
  case atStart => exact ⟨a, b, ha, hb, rfl, rfl, rfl⟩
  case round =>
    obtain ⟨x, y, hx, hy, rfl, rfl, hg⟩ := hrel
    have HG := Lib.hid hg
    clear hg
    by_cases h0 : y = 0
    · subst h0
      have E := Lib.hid (show Nat.gcd x 0 = x from Nat.gcd_zero_right x)
      go_wp2_with fail
      go_ret
      exact ⟨by rw [← HG.out, E.out]; rfl, rfl⟩
    · have hm : x % y < y := Nat.mod_lt _ (by omega)
      have e0 : ((y : Int) != 0) = true := by simp [bne, h0]
      have S := Lib.hid (gcd_step x y)
      have EM := Lib.hid (show (x : Int) % (y : Int) = ((x % y : Nat) : Int) from rfl)
      go_wp2_with fail
      go_round
      case rel => exact ⟨y, x % y, hy, by omega, rfl, by rw [← EM.out], by rw [← S.out]; exact HG.out⟩
      case measure => rw [EM.out]; simp [intOf]; omega
theorem commonOf_any (w : World) (a b : Nat) (ha : a ≤ 2000000000000000000) (hb : b ≤ 2000000000000000000) :
    Calls Try.prog 23 #[.int .i64 (a : Int), .int .i64 (b : Int)] w fun e w' => e = .returned (.int .i64 (Nat.gcd a b : Nat)) ∧ w = w' := by
  go_enter Try.func23, Try.ntmps23
  go_wp2_with fail
  go_loop [0, 1] (fun p q => ∃ x y : Nat, x ≤ 2000000000000000000 ∧ y ≤ 2000000000000000000 ∧ p = .int .i64 (x : Int) ∧ q = .int .i64 (y : Int) ∧ Nat.gcd x y = Nat.gcd a b) (fun _ q => (intOf q).toNat)
  case atStart => exact ⟨a, b, ha, hb, rfl, rfl, rfl⟩
  case round =>
    obtain ⟨x, y, hx, hy, rfl, rfl, hg⟩ := hrel
    have HG := Lib.hid hg
    clear hg
    by_cases h0 : y = 0
    · subst h0
      have E := Lib.hid (show Nat.gcd x 0 = x from Nat.gcd_zero_right x)
      go_wp2_with fail
      go_ret
      exact ⟨by rw [← HG.out, E.out]; rfl, rfl⟩
    · have hm : x % y < y := Nat.mod_lt _ (by omega)
      have e0 : ((y : Int) != 0) = true := by simp [bne, h0]
      have S := Lib.hid (gcd_step x y)
      have EM := Lib.hid (show (x : Int) % (y : Int) = ((x % y : Nat) : Int) from rfl)
      go_wp2_with fail
      go_round
      case rel => exact ⟨y, x % y, hy, by omega, rfl, by rw [← EM.out], by rw [← S.out]; exact HG.out⟩
      case measure => rw [EM.out]; simp [intOf]; omega

theorem commonDivisor_any (w : World) (a b : Nat) (ha : a ≤ 2000000000000000000) (hb : b ≤ 2000000000000000000) :
    Calls Try.prog 34 #[.int .i64 (a : Int), .int .i64 (b : Int)] w fun e w' => e = .returned (.int .i64 (Nat.gcd a b : Nat)) ∧ ∃ m, w' = w.drewN m := by
  go_enter Try.func34, Try.ntmps34
  go_wp2_with fail
  go_loopw [0, 1] (fun p q wr => ∃ x y n : Nat, x ≤ 2000000000000000000 ∧ y ≤ 2000000000000000000 ∧ p = .int .i64 (x : Int) ∧ q = .int .i64 (y : Int) ∧ Nat.gcd x y = Nat.gcd a b ∧ wr = w.drewN n) (fun _ q _ => (intOf q).toNat)
  case atStart => exact ⟨a, b, 0, ha, hb, rfl, rfl, rfl, rfl⟩
  case round =>
    obtain ⟨x, y, n, hx, hy, rfl, rfl, hg, rfl⟩ := hrel
    have HG := Lib.hid hg
    clear hg
    by_cases h0 : y = 0
    · subst h0
      have E := Lib.hid (show Nat.gcd x 0 = x from Nat.gcd_zero_right x)
      go_wp2_with fail
      go_ret
      exact ⟨by rw [← HG.out, E.out]; rfl, n, rfl⟩
    · have hm : x % y < y := Nat.mod_lt _ (by omega)
      have e0 : ((y : Int) != 0) = true := by simp [bne, h0]
      have S := Lib.hid (gcd_step x y)
      go_wp2_with fail
      have hy1 : (y : Int) ≠ 0 := by omega
      have hy2 : ¬ ((y : Int) = 0) := by omega
      have hy3 : ¬ (y = 0) := h0
      have e1 : ((y : Int) == 0) = false := beq_eq_false_iff_ne.2 hy1
      have t1 : (x : Int).tmod (y : Int) = ((x % y : Nat) : Int) := rfl
      have t2 : IntKind.i64.wrap ((x % y : Nat) : Int) = ((x % y : Nat) : Int) := IntWalk.i64_in _ (by omega)
      generalize x % y = z at *
      go_quiet (fail)
      clear t1 t2 hy1 hy2 hy3
      go_wp2_with fail
      go_roundw
      case rel => exact ⟨y, z, _, hy, by omega, rfl, rfl, by rw [← S.out]; exact HG.out, World.drewN_drewN _ _ _⟩
      case measure => (simp [intOf]) <;> omega

theorem quiet_more {P : Program} {f : FuncId} {args : Array Value} {w : World} {n : Nat} {v : Value}
    (h : Calls P f args (w.drewN n) fun e w' => e = .returned v ∧ ∃ m, w' = (w.drewN n).drewN m) : Calls P f args (w.drewN n) fun e w'' => e = .returned v ∧ ∃ m, w'' = w.drewN m :=
  h.mono fun _ _ ⟨he, m, hm⟩ => ⟨he, n + m, hm.trans (World.drewN_drewN _ _ _)⟩
theorem lowest_any (w : World) (u l : Nat) (hu : u ≤ 2000000000000000000) (hl : l ≤ 2000000000000000000) (h1 : 1 ≤ l) :
    Calls Try.prog 30 #[.int .i64 (u : Int), .int .i64 (l : Int)] w fun e w' => e = .returned (.tuple #[.int .i64 (lowU u l : Nat), .int .i64 (lowL u l : Nat)]) ∧ ∃ m, w' = w.drewN m := by
  have hg := gcd_pos' (u := u) h1
  have hgl : Nat.gcd u l ≤ l := Nat.gcd_le_right u h1
  have EU := Lib.hid (show lowU u l = u / Nat.gcd u l from rfl)
  have EL := Lib.hid (show lowL u l = l / Nat.gcd u l from rfl)
  have bu := lowU_le u l
  have bl' := lowL_le u l
  go_enter Try.func30, Try.ntmps30
  go_wp2_with fail
  refine (commonDivisor_any _ _ _ hu hl).mono ?_
  rintro e w1 ⟨rfl, m, rfl⟩
  have T1 := Lib.hid (show (u : Int).tdiv ((Nat.gcd u l : Nat) : Int) = ((u / Nat.gcd u l : Nat) : Int) from rfl)
  have T2 := Lib.hid (show (l : Int).tdiv ((Nat.gcd u l : Nat) : Int) = ((l / Nat.gcd u l : Nat) : Int) from rfl)
  rw [← EU.out] at T1
  rw [← EL.out] at T2
  have t1 := T1.out
  have t2 := T2.out
  generalize hX : lowU u l = X at t1 bu
  generalize hY : lowL u l = Y at t2 bl'
  have HX := Lib.hid hX
  have HY := Lib.hid hY
  have T1' := Lib.hid t1
  have T2' := Lib.hid t2
  clear hX hY t1 t2 T1 T2 EU EL
  generalize Nat.gcd u l = g at *
  go_wp2_with fail
  have t1 := T1'.out
  have t2 := T2'.out
  have u1 : IntKind.i64.wrap (X : Int) = (X : Int) := IntWalk.i64_in _ (by omega)
  have u2 : IntKind.i64.wrap (Y : Int) = (Y : Int) := IntWalk.i64_in _ (by omega)
  have e1 : ((g : Int) == 0) = false := beq_eq_false_iff_ne.2 (by omega)
  have e2 : ¬ ((g : Int) = 0) := by omega
  have e3 : ¬ (g = 0) := by omega
  go_quiet (fail)
  clear t1 t2 u1 u2 e1 e2 e3
  go_wp2_with fail
  go_ret2
  exact ⟨by rw [HX.out, HY.out]; rfl, _, World.drewN_drewN _ _ _⟩

theorem step_bd {u l d : Nat} (hu : u ≤ 1000000000) (hl : l ≤ 1000000000) (hd : d ≤ 1000000000) : u * d + l ≤ 1000000001000000000 ∧ l * d ≤ 1000000000000000000 ∧ u * d ≤ 1000000000000000000 := by
  have h1 : u * d ≤ 1000000000 * 1000000000 := Nat.mul_le_mul hu hd
  have h2 : l * d ≤ 1000000000 * 1000000000 := Nat.mul_le_mul hl hd
  omega
/-- Where a sum of units stands: what is still to be added leads to the answer. -/
theorem good_pos {zs : List Int} (h : good zs = true) : ∀ d ∈ zs, 1 ≤ d := fun d hd => by have := good_mem h d hd; omega

theorem specUnitsSum_any (w : World) (a : Option Addr) (cap : Nat) (zs : List Int) (h : Row .i64 w a zs) (hl : zs.length ≤ 2000000) :
    Calls Try.prog 17 #[.slice a zs.length cap] w fun e w' => e = .returned (tri (unitsSum zs)) ∧ w = w' := by
  have H := Lib.hid h
  clear h
  cases hb : isUnits zs
  · have HB := Lib.hid hb
    rw [unitsSum_no hb]
    clear hb
    go_enter Try.func17, Try.ntmps17
    go_wp2_with fail
    refine (specUnitsValid_any _ _ _ _ H.out hl).mono ?_
    rintro e w' ⟨rfl, rfl⟩
    rw [HB.out]
    go_wp2_with fail
    go_ret3
    exact ⟨rfl, rfl⟩
  · obtain ⟨hg, h8⟩ := isUnits_parts hb
    have HB := Lib.hid hb
    have HG := Lib.hid hg
    rw [unitsSum_yes hb]
    generalize ht : usum 0 1 zs = t
    have T := Lib.hid ht
    obtain ⟨t0, t1, t2⟩ := t
    clear hb hg ht
    go_enter Try.func17, Try.ntmps17
    go_wp2_with fail
    refine (specUnitsValid_any _ _ _ _ H.out hl).mono ?_
    rintro e w' ⟨rfl, rfl⟩
    rw [HB.out]
    go_wp2_with fail
    go_loop [5, 6, 7] (fun p q i => ∃ k u l : Nat, k ≤ zs.length ∧ u ≤ 1000000000 ∧ l ≤ 1000000000 ∧ 1 ≤ l ∧ p = .int .i64 (u : Int) ∧ q = .int .i64 (l : Int) ∧ i = .int .i64 (k : Int) ∧ usum u l (zs.drop k) = (t0, t1, t2)) (fun _ _ i => zs.length - (intOf i).toNat)
    case atStart => exact ⟨0, 0, 1, by omega, by omega, by omega, by omega, rfl, rfl, rfl, T.out⟩
    case round =>
      obtain ⟨k, u, l, hk, hu, hl9, hl1, rfl, rfl, rfl, hs⟩ := hrel
      have HS := Lib.hid hs
      clear hs
      by_cases hlt : k < zs.length
      · obtain ⟨b, off, rfl, _, hc⟩ := H.out.at_ hlt
        have hd := good_mem HG.out _ (nth_mem zs k hlt)
        have D := Lib.hid (drop_cons' hlt)
        obtain ⟨d, hd'⟩ : ∃ d : Nat, nth zs k = d := ⟨(nth zs k).toNat, by omega⟩
        rw [hd'] at hc hd
        have D2 := Lib.hid (show usum u l ((d : Int) :: zs.drop (k + 1)) = (t0, t1, t2) by rw [← HS.out, D.out, hd'])
        obtain ⟨b1, b2, b3⟩ := step_bd hu hl9 (show d ≤ 1000000000 by omega)
        have hld : 1 ≤ l * d := Nat.mul_pos hl1 (by omega)
        have hg1 := gcd_pos' (u := u * d + l) hld
        have hlp := lowL_pos (u := u * d + l) hld
        have EU := Lib.hid (show ((u * d + l : Nat) : Int) / ((Nat.gcd (u * d + l) (l * d) : Nat) : Int) = ((lowU (u * d + l) (l * d) : Nat) : Int) from rfl)
        have EL := Lib.hid (show ((l * d : Nat) : Int) / ((Nat.gcd (u * d + l) (l * d) : Nat) : Int) = ((lowL (u * d + l) (l * d) : Nat) : Int) from rfl)
        have bu := lowU_le (u * d + l) (l * d)
        have bl' := lowL_le (u * d + l) (l * d)
        have YES := Lib.hid (fun h1 h2 => usum_yes (u := u) (l := l) (d := d) (ds := zs.drop (k + 1)) h1 h2)
        have NO := Lib.hid (fun h => usum_no (u := u) (l := l) (d := d) (ds := zs.drop (k + 1)) h)
        have e1 : (u : Int) * (d : Int) = ((u * d : Nat) : Int) := by rw [Int.natCast_mul]
        have e2 : (l : Int) * (d : Int) = ((l * d : Nat) : Int) := by rw [Int.natCast_mul]
        have e3 : ((u * d : Nat) : Int) + (l : Int) = ((u * d + l : Nat) : Int) := by rw [Int.natCast_add]
        have E1 := Lib.hid e1
        have E2 := Lib.hid e2
        have E3 := Lib.hid e3
        have c1 : (u : Int) * (d : Int) ≤ 1000000000000000000 := by rw [e1]; omega
        have c2 : (l : Int) * (d : Int) ≤ 1000000000000000000 := by rw [e2]; omega
        have c3 : 0 ≤ (u : Int) * (d : Int) := by rw [e1]; omega
        have c4 : 0 ≤ (l : Int) * (d : Int) := by rw [e2]; omega
        clear e1 e2 e3 hd'
        go_wp2_with fail
        rw [E1.out, E2.out, E3.out]
        refine (l2Common_any _ _ _ (by omega) (by omega)).mono ?_
        rintro e w' ⟨rfl, rfl⟩
        generalize lowU (u * d + l) (l * d) = X at *
        generalize lowL (u * d + l) (l * d) = Y at *
        generalize Nat.gcd (u * d + l) (l * d) = g at *
        generalize u * d + l = A at *
        generalize l * d = B at *
        have eu := EU.out
        have el := EL.out
        clear c1 c2 c3 c4 E1 E2 E3 EU EL hc
        by_cases hX : X ≤ 1000000000
        · by_cases hY : Y ≤ 1000000000
          · have N := Lib.hid ((YES.out hX hY).symm.trans D2.out)
            go_wp2_with fail
            go_round
            case rel => exact ⟨k + 1, X, Y, by omega, hX, hY, hlp, rfl, rfl, by go_num, N.out⟩
            case measure => simp [intOf]; omega
          · have N := D2.out
            rw [NO.out (.inr (by omega))] at N
            injection N with n1 n2
            injection n2 with n2 n3
            subst n1 n2 n3
            go_wp2_with fail
            go_ret3
            exact ⟨rfl, rfl⟩
        · have N := D2.out
          rw [NO.out (.inl (by omega))] at N
          injection N with n1 n2
          injection n2 with n2 n3
          subst n1 n2 n3
          go_wp2_with fail
          go_ret3
          exact ⟨rfl, rfl⟩
      · have N := HS.out
        rw [List.drop_of_length_le (by omega), usum_nil] at N
        injection N with n1 n2
        injection n2 with n2 n3
        subst n1 n2 n3
        go_wp2_with fail
        go_ret3
        exact ⟨rfl, rfl⟩

theorem Chain.cells {w : World} {lo hi : Nat} {p : Option Addr} {x : Int} {xs : List Int} (h : Chain w lo hi p (x :: xs)) :
    ∃ g next, p = some ⟨g, 0, none⟩ ∧ lo ≤ g ∧ g < hi ∧ w.cell? ⟨g, 0, none⟩ = some (.int .i64 x) ∧ w.cell? ⟨g, 1, none⟩ = some (.pointer next) ∧ Chain w lo hi next xs := by
  obtain ⟨g, next, h1, h2, h3, h4, h5⟩ := h
  exact ⟨g, next, h1, h2, h3, by simp [World.cell?, h4], by simp [World.cell?, h4], h5⟩

set_option maxRecDepth 100000 in
theorem implUnitsSum_any (w : World) (a : Option Addr) (cap : Nat) (zs : List Int) (h : Row .i64 w a zs) (hl : zs.length ≤ 2000000) :
    Calls Try.prog 18 #[.slice a zs.length cap] w fun e w' => e = .returned (tri (unitsSum zs)) ∧ Below w.heap.size w w' := by
  have H := Lib.hid h
  clear h
  cases hb : isUnits zs
  · have HB := Lib.hid hb
    rw [unitsSum_no hb]
    clear hb
    go_enter Try.func18, Try.ntmps18
    go_wp2_with fail
    refine (unitsOf_any _ _ _ _ H.out hl).mono ?_
    rintro e w1 ⟨p, rfl, _, _, b1⟩
    rw [HB.out]
    have B1 := Lib.hid b1
    clear b1
    go_wp2_with fail
    go_ret3
    exact ⟨rfl, B1.out⟩
  · obtain ⟨hg, h8⟩ := isUnits_parts hb
    have HB := Lib.hid hb
    have HG := Lib.hid hg
    rw [unitsSum_yes hb]
    generalize ht : usum 0 1 zs = t
    have T := Lib.hid ht
    obtain ⟨t0, t1, t2⟩ := t
    clear hb hg ht
    go_enter Try.func18, Try.ntmps18
    go_wp2_with fail
    refine (unitsOf_any _ _ _ _ H.out hl).mono ?_
    rintro e w1 ⟨p, rfl, hch, _, b1⟩
    have CH := Lib.hid (hch HB.out)
    rw [HB.out]
    have B1 := Lib.hid b1
    clear b1 hch
    go_wp2_with fail
    go_loopg [7, 8, 9] zs.length (fun m p q r wr => ∃ k u l : Nat, ∃ c : Option Addr, k + m = zs.length ∧ u ≤ 1000000000 ∧ l ≤ 1000000000 ∧ 1 ≤ l ∧ p = .int .i64 (u : Int) ∧ q = .int .i64 (l : Int) ∧ r = .pointer c ∧ Chain wr w.heap.size w1.heap.size c (zs.drop k) ∧ usum u l (zs.drop k) = (t0, t1, t2) ∧ Below w.heap.size w wr)
    case atStart => exact ⟨0, 0, 1, p, by omega, by omega, by omega, by omega, rfl, rfl, rfl, CH.out, T.out, B1.out⟩
    case round =>
      obtain ⟨k, u, l, c, hk, hu, hl9, hl1, rfl, rfl, rfl, hch, hs, hb⟩ := hrel
      have HS := Lib.hid hs
      have HK := Lib.hid hk
      have HB2 := Lib.hid hb
      clear hs hb
      by_cases hlt : k < zs.length
      · have hd := good_mem HG.out _ (nth_mem zs k hlt)
        have D := Lib.hid (drop_cons' hlt)
        rw [D.out] at hch
        obtain ⟨g, next, rfl, _, _, hc0, hc1, hch2⟩ := hch.cells
        obtain ⟨d, hd'⟩ : ∃ d : Nat, nth zs k = d := ⟨(nth zs k).toNat, by omega⟩
        rw [hd'] at hc0 hd
        have D2 := Lib.hid (show usum u l ((d : Int) :: zs.drop (k + 1)) = (t0, t1, t2) by rw [← HS.out, D.out, hd'])
        have CH2 := Lib.hid hch2
        obtain ⟨b1, b2, b3⟩ := step_bd hu hl9 (show d ≤ 1000000000 by omega)
        have hld : 1 ≤ l * d := Nat.mul_pos hl1 (by omega)
        have hlp := lowL_pos (u := u * d + l) hld
        have bu := lowU_le (u * d + l) (l * d)
        have bl' := lowL_le (u * d + l) (l * d)
        have YES := Lib.hid (fun h1 h2 => usum_yes (u := u) (l := l) (d := d) (ds := zs.drop (k + 1)) h1 h2)
        have NO := Lib.hid (fun h => usum_no (u := u) (l := l) (d := d) (ds := zs.drop (k + 1)) h)
        have e1 : IntKind.i64.wrap ((u : Int) * (d : Int)) = ((u * d : Nat) : Int) := by rw [← Int.natCast_mul]; exact IntWalk.i64_in _ (by omega)
        have e2 : IntKind.i64.wrap ((l : Int) * (d : Int)) = ((l * d : Nat) : Int) := by rw [← Int.natCast_mul]; exact IntWalk.i64_in _ (by omega)
        have e3 : IntKind.i64.wrap (((u * d : Nat) : Int) + (l : Int)) = ((u * d + l : Nat) : Int) := by rw [← Int.natCast_add]; exact IntWalk.i64_in _ (by omega)
        have LA := Lib.hid (fun W => lowest_any W (u * d + l) (l * d) (by omega) (by omega) hld)
        generalize lowU (u * d + l) (l * d) = X at *
        generalize lowL (u * d + l) (l * d) = Y at *
        generalize u * d + l = A at *
        generalize l * d = B at *
        generalize u * d = C at *
        clear hch hch2 hd' hk
        go_wp2_with fail
        go_quiet ((go_at_call 30; exact quiet_more (LA.out _)))
        clear e1 e2 e3
        by_cases hX : X ≤ 1000000000
        · by_cases hY : Y ≤ 1000000000
          · have N := Lib.hid ((YES.out hX hY).symm.trans D2.out)
            go_wp2_with fail
            go_roundg (gk - 1)
            case measure => have := HK.out; omega
            case rel => exact ⟨k + 1, X, Y, next, by have := HK.out; omega, hX, hY, hlp, rfl, rfl, rfl, CH2.out.drewN _, N.out, below_drewN HB2.out _⟩
          · have N := D2.out
            rw [NO.out (.inr (by omega))] at N
            injection N with n1 n2
            injection n2 with n2 n3
            subst n1 n2 n3
            go_wp2_with fail
            go_ret3
            exact ⟨rfl, below_drewN HB2.out _⟩
        · have N := D2.out
          rw [NO.out (.inl (by omega))] at N
          injection N with n1 n2
          injection n2 with n2 n3
          subst n1 n2 n3
          go_wp2_with fail
          go_ret3
          exact ⟨rfl, below_drewN HB2.out _⟩
      · have N := HS.out
        rw [List.drop_of_length_le (by omega)] at hch
        obtain rfl : c = none := hch
        rw [List.drop_of_length_le (by omega), usum_nil] at N
        injection N with n1 n2
        injection n2 with n2 n3
        subst n1 n2 n3
        go_wp2_with fail
        go_ret3
        exact ⟨rfl, HB2.out⟩
end Go.Proofs.Ytgdeaochfmakbaa
