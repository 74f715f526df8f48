
/-
  Plain arithmetic of lattices: sums over diagonals, in any order. No program text is walked here.
-/
import Derived.Test.YtdnknkbcbnoobaaDig
import Derived.Test.YtdnknkbcbnoobaaNumP
namespace Go.Proofs.Ytdnknkbcbnoobaa
open Go.RowKit

/-- A list by its places. -/
def tab (L : Nat) (g : Nat → Int) : List Int := (List.range L).map g
theorem tab_len (L : Nat) (g : Nat → Int) : (tab L g).length = L := by simp [tab]
theorem tab_nth {L k : Nat} (g : Nat → Int) (h : k < L) : nth (tab L g) k = g k := by simp [nth, tab, h]
theorem tab_congr {L : Nat} {g h : Nat → Int} (e : ∀ m, m < L → g m = h m) : tab L g = tab L h := by
  unfold tab
  exact List.map_congr_left fun m hm => e m (List.mem_range.1 hm)
theorem tab_set {L k : Nat} (g : Nat → Int) (x : Int) : (tab L g).set k x = tab L (fun m => if m = k then x else g m) := by
  apply List.ext_getElem
  · simp [tab]
  · intro i h1 h2
    simp [tab, List.getElem_set, eq_comm]
theorem tab_zero (L : Nat) : List.replicate L (0 : Int) = tab L (fun _ => 0) := by
  apply List.ext_getElem
  · simp [tab]
  · intro i h1 h2
    simp [tab]

/-- The sum of the first n terms. -/
def sumN : Nat → (Nat → Int) → Int
  | 0, _ => 0
  | n + 1, g => sumN n g + g n
theorem sumN_congr {n : Nat} {g h : Nat → Int} (e : ∀ q, q < n → g q = h q) : sumN n g = sumN n h := by
  induction n with
  | zero => rfl
  | succ n ih => rw [sumN, sumN, ih (fun q hq => e q (by omega)), e n (by omega)]
theorem sumN_front (n : Nat) (g : Nat → Int) : sumN (n + 1) g = g 0 + sumN n (fun q => g (q + 1)) := by
  induction n with
  | zero => simp [sumN]
  | succ n ih => rw [sumN, ih, sumN]; omega
theorem sumN_rev (n : Nat) (g : Nat → Int) : sumN n (fun q => g (n - 1 - q)) = sumN n g := by
  induction n with
  | zero => rfl
  | succ n ih =>
    rw [sumN_front, sumN]
    have : sumN n (fun q => g (n + 1 - 1 - (q + 1))) = sumN n (fun q => g (n - 1 - q)) := sumN_congr fun q hq => by congr 1; omega
    rw [this, ih]
    simp
    omega
theorem sumN_bd {n : Nat} {g : Nat → Int} {B : Int} (h : ∀ q, q < n → 0 ≤ g q ∧ g q ≤ B) (hB : 0 ≤ B) : 0 ≤ sumN n g ∧ sumN n g ≤ n * B := by
  induction n with
  | zero => simp [sumN]
  | succ n ih =>
    have h1 := ih (fun q hq => h q (by omega))
    have h2 := h n (by omega)
    rw [sumN]
    have e : ((n + 1 : Nat) : Int) * B = n * B + B := by rw [Int.natCast_add, Int.add_mul]; simp
    omega
theorem sumN_add (n : Nat) (g h : Nat → Int) : sumN n (fun q => g q + h q) = sumN n g + sumN n h := by
  induction n with
  | zero => rfl
  | succ n ih => rw [sumN, sumN, sumN, ih]; omega

/-- What the cell of the places p and q, counted from the units, adds to the diagonal m. -/
def latF (xs ys : List Int) (p q m : Nat) : Int :=
  (if m = p + q then nth xs (xs.length - 1 - p) * nth ys (ys.length - 1 - q) % 10 else 0) + (if m = p + q + 1 then nth xs (xs.length - 1 - p) * nth ys (ys.length - 1 - q) / 10 else 0)
def latTab (xs ys : List Int) : List Int := tab (xs.length + ys.length) fun m => sumN xs.length fun p => sumN ys.length fun q => latF xs ys p q m
def latSums (xs ys : List Int) : List Int × Bool := if isNum xs && isNum ys then (latTab xs ys, true) else ([], false)
theorem latSums_yes {xs ys : List Int} (h : isNum xs = true) (k : isNum ys = true) : latSums xs ys = (latTab xs ys, true) := by simp [latSums, h, k]
theorem latSums_no1 {xs ys : List Int} (h : isNum xs = false) : latSums xs ys = ([], false) := by simp [latSums, h]
theorem latSums_no2 {xs ys : List Int} (h : isNum ys = false) : latSums xs ys = ([], false) := by simp [latSums, h]
theorem latTab_len (xs ys : List Int) : (latTab xs ys).length = xs.length + ys.length := by rw [latTab, tab_len]
theorem latSums_bd (xs ys : List Int) : (latSums xs ys).1.length ≤ 1048576 := by
  unfold latSums
  split
  · rename_i h
    have h' : isNum xs = true ∧ isNum ys = true := by simpa using h
    have h1 := isNum_parts h'.1
    have h2 := isNum_parts h'.2
    rw [latTab_len]
    omega
  · simp

theorem nth_digit {xs : List Int} (hx : digs xs = true) (i : Nat) : 0 ≤ nth xs i ∧ nth xs i ≤ 9 := by
  by_cases h : i < xs.length
  · exact digs_nth hx h
  · have : nth xs i = 0 := by simp [nth, h]
    rw [this]
    omega
theorem latF_bd {xs ys : List Int} (hx : digs xs = true) (hy : digs ys = true) (p q m : Nat) : 0 ≤ latF xs ys p q m ∧ latF xs ys p q m ≤ 9 := by
  have h1 := nth_digit hx (xs.length - 1 - p)
  have h2 := nth_digit hy (ys.length - 1 - q)
  have h3 := mul_digits h1.1 h1.2 h2.1 h2.2
  unfold latF
  generalize nth xs (xs.length - 1 - p) * nth ys (ys.length - 1 - q) = c at *
  split <;> split <;> omega

/-- The sums when i whole rows and j cells of the next are added; 'f' tells what each cell adds. -/
def part (L n : Nat) (f : Nat → Nat → Nat → Int) (i j : Nat) : List Int := tab L fun m => sumN i (fun p => sumN n fun q => f p q m) + sumN j (fun q => f i q m)
theorem part_zero (L n : Nat) (f : Nat → Nat → Nat → Int) : part L n f 0 0 = List.replicate L 0 := by rw [tab_zero]; rfl
theorem part_row (L n : Nat) (f : Nat → Nat → Nat → Int) (i : Nat) : part L n f i n = part L n f (i + 1) 0 := by
  unfold part
  refine tab_congr fun m _ => ?_
  simp [sumN]
theorem part_bd {L n : Nat} {f : Nat → Nat → Nat → Int} (hf : ∀ p q m, 0 ≤ f p q m ∧ f p q m ≤ 9) {i j : Nat} (hi : i ≤ 6) (hn : n ≤ 6) (hj : j ≤ 6) {k : Nat} (hk : k < L) : 0 ≤ nth (part L n f i j) k ∧ nth (part L n f i j) k ≤ 1000 := by
  rw [part, tab_nth _ hk]
  have h1 := sumN_bd (n := i) (g := fun p => sumN n fun q => f p q k) (B := 54) (fun p _ => by
    have := sumN_bd (n := n) (g := fun q => f p q k) (B := 9) (fun q _ => hf p q k) (by omega)
    omega) (by omega)
  have h2 := sumN_bd (n := j) (g := fun q => f i q k) (B := 9) (fun q _ => hf i q k) (by omega)
  have e1 : (i : Int) * 54 ≤ 324 := by omega
  have e2 : (j : Int) * 9 ≤ 54 := by omega
  omega
/-- One cell: its units at k, its tens at k + 1. -/
theorem part_cell {L n i j k : Nat} {f : Nat → Nat → Nat → Int} {u t : Int} (hk : k + 1 < L) (hf : ∀ m, f i j m = (if m = k then u else 0) + (if m = k + 1 then t else 0)) :
    ((part L n f i j).set k (nth (part L n f i j) k + u)).set (k + 1) (nth (part L n f i j) (k + 1) + t) = part L n f i (j + 1) := by
  have e2 : nth (part L n f i j) (k + 1) = sumN i (fun p => sumN n fun q => f p q (k + 1)) + sumN j (fun q => f i q (k + 1)) := by rw [part, tab_nth _ (by omega)]
  have e1 : nth (part L n f i j) k = sumN i (fun p => sumN n fun q => f p q k) + sumN j (fun q => f i q k) := by rw [part, tab_nth _ (by omega)]
  rw [e1, e2]
  unfold part
  rw [tab_set, tab_set]
  refine tab_congr fun m hm => ?_
  simp only [sumN, hf]
  by_cases h1 : m = k + 1
  · subst h1
    simp
    omega
  · by_cases h2 : m = k
    · subst h2
      simp
      omega
    · simp [h1, h2]
theorem part_all {xs ys : List Int} : part (xs.length + ys.length) ys.length (latF xs ys) xs.length 0 = latTab xs ys := by
  unfold part latTab
  refine tab_congr fun m _ => ?_
  simp [sumN]
/-- The same cells from the greatest place on. -/
def latG (xs ys : List Int) (i j m : Nat) : Int := latF xs ys (xs.length - 1 - i) (ys.length - 1 - j) m
theorem part_allG {xs ys : List Int} : part (xs.length + ys.length) ys.length (latG xs ys) xs.length 0 = latTab xs ys := by
  unfold part latTab
  refine tab_congr fun m _ => ?_
  simp only [sumN, Int.add_zero]
  rw [← sumN_rev xs.length (fun p => sumN ys.length fun q => latF xs ys p q m)]
  refine sumN_congr fun p _ => ?_
  rw [← sumN_rev ys.length (fun q => latF xs ys (xs.length - 1 - p) q m)]
  rfl
end Go.Proofs.Ytdnknkbcbnoobaa
