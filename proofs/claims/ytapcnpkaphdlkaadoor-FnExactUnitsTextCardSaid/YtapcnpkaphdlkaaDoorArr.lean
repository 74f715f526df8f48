
/-
  Arrays of ten integers as values and in memory. No program text is walked here.
-/
import Derived.Test.YtapcnpkaphdlkaaDoorBase
import Derived.Laws.Tables
namespace Go.Proofs.YtapcnpkaphdlkaaDoor
open Go.RowKit

/-- The cells of an array. -/
def AV (zs : List Int) : Array Value := (IV zs).toArray
theorem AV_size (zs : List Int) : (AV zs).size = zs.length := by simp [AV, IV]
theorem AV_one (zs : List Int) : (AV zs).all (·.oneCell') = true := by
  rw [Array.all_eq_true_iff_forall_mem]
  intro v hv
  exact IV_one zs v (by simpa [AV] using hv)
theorem AV_get (zs : List Int) (i : Nat) (h : i < zs.length) : (AV zs)[i]? = some (.int .i64 (nth zs i)) := by
  have := IV_get zs i h
  simpa [AV] using this
theorem AV_set (zs : List Int) (i : Nat) (x : Int) : (AV zs).setIfInBounds i (.int .i64 x) = AV (zs.set i x) := by
  simp [AV, ← IV_set]
theorem arr_info : (Tryd.prog.info? 29).map (·.size) = some 10 := by kernel_rfl
theorem ten {zs : List Int} (h : zs.length = 10) : ∃ x0 x1 x2 x3 x4 x5 x6 x7 x8 x9, zs = [x0, x1, x2, x3, x4, x5, x6, x7, x8, x9] := by
  match zs, h with
  | [x0, x1, x2, x3, x4, x5, x6, x7, x8, x9], _ => exact ⟨x0, x1, x2, x3, x4, x5, x6, x7, x8, x9, rfl⟩
theorem idx_arr0 (x0 x1 x2 x3 x4 x5 x6 x7 x8 x9 : Int) (w : World) : (Instr.index 29 (.agg (AV [x0, x1, x2, x3, x4, x5, x6, x7, x8, x9])) (.int .i64 0)).run Tryd.prog w = .ok (.int .i64 x0) w := by kernel_rfl
theorem idx_arr1 (x0 x1 x2 x3 x4 x5 x6 x7 x8 x9 : Int) (w : World) : (Instr.index 29 (.agg (AV [x0, x1, x2, x3, x4, x5, x6, x7, x8, x9])) (.int .i64 1)).run Tryd.prog w = .ok (.int .i64 x1) w := by kernel_rfl
theorem idx_arr2 (x0 x1 x2 x3 x4 x5 x6 x7 x8 x9 : Int) (w : World) : (Instr.index 29 (.agg (AV [x0, x1, x2, x3, x4, x5, x6, x7, x8, x9])) (.int .i64 2)).run Tryd.prog w = .ok (.int .i64 x2) w := by kernel_rfl
theorem idx_arr3 (x0 x1 x2 x3 x4 x5 x6 x7 x8 x9 : Int) (w : World) : (Instr.index 29 (.agg (AV [x0, x1, x2, x3, x4, x5, x6, x7, x8, x9])) (.int .i64 3)).run Tryd.prog w = .ok (.int .i64 x3) w := by kernel_rfl
theorem idx_arr4 (x0 x1 x2 x3 x4 x5 x6 x7 x8 x9 : Int) (w : World) : (Instr.index 29 (.agg (AV [x0, x1, x2, x3, x4, x5, x6, x7, x8, x9])) (.int .i64 4)).run Tryd.prog w = .ok (.int .i64 x4) w := by kernel_rfl
theorem idx_arr5 (x0 x1 x2 x3 x4 x5 x6 x7 x8 x9 : Int) (w : World) : (Instr.index 29 (.agg (AV [x0, x1, x2, x3, x4, x5, x6, x7, x8, x9])) (.int .i64 5)).run Tryd.prog w = .ok (.int .i64 x5) w := by kernel_rfl
theorem idx_arr6 (x0 x1 x2 x3 x4 x5 x6 x7 x8 x9 : Int) (w : World) : (Instr.index 29 (.agg (AV [x0, x1, x2, x3, x4, x5, x6, x7, x8, x9])) (.int .i64 6)).run Tryd.prog w = .ok (.int .i64 x6) w := by kernel_rfl
theorem idx_arr7 (x0 x1 x2 x3 x4 x5 x6 x7 x8 x9 : Int) (w : World) : (Instr.index 29 (.agg (AV [x0, x1, x2, x3, x4, x5, x6, x7, x8, x9])) (.int .i64 7)).run Tryd.prog w = .ok (.int .i64 x7) w := by kernel_rfl
theorem idx_arr8 (x0 x1 x2 x3 x4 x5 x6 x7 x8 x9 : Int) (w : World) : (Instr.index 29 (.agg (AV [x0, x1, x2, x3, x4, x5, x6, x7, x8, x9])) (.int .i64 8)).run Tryd.prog w = .ok (.int .i64 x8) w := by kernel_rfl
theorem idx_arr9 (x0 x1 x2 x3 x4 x5 x6 x7 x8 x9 : Int) (w : World) : (Instr.index 29 (.agg (AV [x0, x1, x2, x3, x4, x5, x6, x7, x8, x9])) (.int .i64 9)).run Tryd.prog w = .ok (.int .i64 x9) w := by kernel_rfl
theorem idx_arr (zs : List Int) (h : zs.length = 10) (k : Nat) (hk : k < 10) (w : World) :
    (Instr.index 29 (.agg (AV zs)) (.int .i64 (k : Int))).run Tryd.prog w = .ok (.int .i64 (nth zs k)) w := by
  obtain ⟨x0, x1, x2, x3, x4, x5, x6, x7, x8, x9, rfl⟩ := ten h
  match k, hk with
  | 0, _ => exact idx_arr0 x0 x1 x2 x3 x4 x5 x6 x7 x8 x9 w
  | 1, _ => exact idx_arr1 x0 x1 x2 x3 x4 x5 x6 x7 x8 x9 w
  | 2, _ => exact idx_arr2 x0 x1 x2 x3 x4 x5 x6 x7 x8 x9 w
  | 3, _ => exact idx_arr3 x0 x1 x2 x3 x4 x5 x6 x7 x8 x9 w
  | 4, _ => exact idx_arr4 x0 x1 x2 x3 x4 x5 x6 x7 x8 x9 w
  | 5, _ => exact idx_arr5 x0 x1 x2 x3 x4 x5 x6 x7 x8 x9 w
  | 6, _ => exact idx_arr6 x0 x1 x2 x3 x4 x5 x6 x7 x8 x9 w
  | 7, _ => exact idx_arr7 x0 x1 x2 x3 x4 x5 x6 x7 x8 x9 w
  | 8, _ => exact idx_arr8 x0 x1 x2 x3 x4 x5 x6 x7 x8 x9 w
  | 9, _ => exact idx_arr9 x0 x1 x2 x3 x4 x5 x6 x7 x8 x9 w

/-- A variable of the call's own that holds an array. -/
def Arr (w : World) (g : Nat) (zs : List Int) : Prop := zs.length = 10 ∧ w.heap[g]? = some (.cells (AV zs) 29 (0, 0))
section
variable {w w' : World} {g : Nat} {zs : List Int}
theorem Arr.cell (h : Arr w g zs) {i : Nat} (hi : i < 10) : w.cell? ⟨g, i, none⟩ = some (.int .i64 (nth zs i)) := by
  rw [cell_of_row w g i _ _ _ h.2]
  exact AV_get zs i (by rw [h.1]; exact hi)
theorem Arr.frozen (h : Arr w g zs) (i : Nat) : w.frozen? ⟨g, i, none⟩ = false := frozen_of_row w g i _ _ h.2
theorem Arr.lt (h : Arr w g zs) : g < w.heap.size := (Array.getElem?_eq_some_iff.1 h.2).1
theorem Arr.set_ (h : Arr w g zs) (i : Nat) (x : Int) : Arr (w.setCell ⟨g, i, none⟩ (.int .i64 x)) g (zs.set i x) :=
  ⟨by simpa using h.1, by rw [heap_setCell_same w g i _ _ _ h.2, AV_set]⟩
theorem Arr.below {B : Nat} (h : Arr w g zs) (hb : Below B w w') (hg : g < B) : Arr w' g zs := ⟨h.1, (hb.block g hg).trans h.2⟩
theorem Arr.far (h : Arr w g zs) {p : Addr} (hp : g ≠ p.block) (u : Value) : Arr (w.setCell p u) g zs := ⟨h.1, (heap_setCell_other w p g u hp).trans h.2⟩
theorem Arr.new (w : World) {zs : List Int} (h : zs.length = 10) : Arr (w.alloc (.cells (AV zs) 29)) w.heap.size zs := ⟨h, heap_alloc_new w _⟩
theorem Arr.alloc (h : Arr w g zs) (o : Obj) : Arr (w.alloc o) g zs := ⟨h.1, (Below.heap_alloc w o g h.lt).trans h.2⟩
theorem Arr.drewN (h : Arr w g zs) (n : Nat) : Arr (w.drewN n) g zs := h
theorem Arr.row (h : Arr w g zs) (ys : List Int) (hy : ys.length = 10) : Arr (w.setRow g (AV ys)) g ys := ⟨hy, setRow_heap w g _ _ _ _ h.2⟩
theorem Arr.rowFar (h : Arr w g zs) {k : Nat} (hk : g ≠ k) (cs : Array Value) : Arr (w.setRow k cs) g zs := ⟨h.1, (setRow_other w k g cs hk).trans h.2⟩
end
theorem Arr.load (w : World) {g : Nat} {zs : List Int} (h : Arr w g zs) : (loadVar 29 ⟨g, 0, none⟩).run Tryd.prog w = .ok (.agg (AV zs)) w :=
  run_loadVar_row w g 29 29 (AV zs) (0, 0) _ h.2 Tryd.underlying29 rfl (by rw [AV_size, h.1]; exact arr_info)
/-- The results of a function that hands back an array and a bool. -/
theorem results_arr_bool {fn : Func} {p b : Tmp} (h : fn.results = #[.cell p 29, .tmp b]) (tmps : Array Value) (w : World) {g : Nat} {zs : List Int}
    (hp : tmps.getD p undef = .pointer (some ⟨g, 0, none⟩)) (ha : Arr w g zs) : (results fn tmps).run Tryd.prog w = .ok (.tuple #[.agg (AV zs), tmps.getD b undef]) w := by
  have hp' : tmps[p]?.getD undef = .pointer (some ⟨g, 0, none⟩) := by simpa using hp
  simp [results, h, hp', asAddr, ha.load w]
theorem below_setRow' {B g : Nat} {w0 w : World} (hb : Below B w0 w) (hBg : B ≤ g) (cs : Array Value) : Below B w0 (w.setRow g cs) :=
  hb.trans ⟨rfl, rfl, rfl, by simp, fun k hk => setRow_other w g k cs (by omega)⟩
/-- A new array variable takes a value. -/
theorem wpList_put_arr {ops : Array Oper} {rest : List Oper} {o : Oper} {a : Act} {Q : Exit → Act → World → Prop} (hgd : o.guard = none) (x y : Operand) (ho : o.op = .store 29 x y)
    (W : World) (zs : List Int) (hz : zs.length = 10) (hx : a.eval x = .pointer (some ⟨W.heap.size, 0, none⟩)) (hy : a.eval y = .agg (AV zs))
    (h : ∀ w', Arr w' W.heap.size zs → Below W.heap.size W w' → W.heap.size < w'.heap.size → wpList Tryd.prog ops Q rest (a.put o.dst undef) w') :
    wpList Tryd.prog ops Q (o :: rest) a (W.alloc (.cells (AV (List.replicate 10 0)) 29)) := by
  have hn := Arr.new W (zs := List.replicate 10 0) (by simp)
  refine wpList_store_row hgd 29 x y ho W.heap.size (AV zs) hx hy 29 _ hn.2 (by rw [AV_size, hz]; exact arr_info) (by rw [AV_size, AV_size, hz]; rfl) (AV_one _) ?_
  exact h _ (hn.row zs hz) (below_setRow' ((Below.refl _ _).alloc (Nat.le_refl _) _) (Nat.le_refl _) _) (by simp)
/-- An array variable is read whole. -/
theorem wpList_get_arr {ops : Array Oper} {rest : List Oper} {o : Oper} {a : Act} {w : World} {Q : Exit → Act → World → Prop} (hgd : o.guard = none) (x : Operand) (ho : o.op = .load 29 x)
    (g : Nat) (zs : List Int) (hx : a.eval x = .pointer (some ⟨g, 0, none⟩)) (ha : Arr w g zs) (h : wpList Tryd.prog ops Q rest (a.put o.dst (.agg (AV zs))) w) : wpList Tryd.prog ops Q (o :: rest) a w :=
  wpList_load_row hgd 29 x ho g hx 29 (AV zs) (0, 0) _ ha.2 Tryd.underlying29 rfl (by rw [AV_size, ha.1]; exact arr_info) h
theorem AV_ten {zs : List Int} (h : zs.length = 10) : #[.int .i64 (nth zs 0), .int .i64 (nth zs 1), .int .i64 (nth zs 2), .int .i64 (nth zs 3), .int .i64 (nth zs 4), .int .i64 (nth zs 5), .int .i64 (nth zs 6), .int .i64 (nth zs 7), .int .i64 (nth zs 8), .int .i64 (nth zs 9)] = AV zs := by
  obtain ⟨x0, x1, x2, x3, x4, x5, x6, x7, x8, x9, rfl⟩ := ten h
  rfl
theorem arr_size {zs : List Int} (h : zs.length = 10) : (Tryd.prog.info? 29).map (·.size) = some (AV zs).size := by rw [AV_size, h]; exact arr_info
end Go.Proofs.YtapcnpkaphdlkaaDoor
