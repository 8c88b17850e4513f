/-
  append(bits, b) where there is room; the padded message's bits.
-/
import Derived.Test.YgcsahOut
namespace Go.Proofs.Ygcsah
open Go.RowKit

theorem run_build1 (v : Bool) (w : World) : (Instr.buildSlice 36 1 #[(0, .bool v)]).run Sahg.prog w = .ok (.slice (some ⟨w.heap.size, 0, none⟩) 1 1) (w.alloc (.cells #[.bool v] 4)) := by kernel_rfl
theorem run_append1 (g T c l h : Nat) (f : Nat → Bool) (v : Bool) (ty : TypeId) (w : World) (hr : Row w g T (brow c f)) (hl : l + 1 ≤ c) (hv : w.cell? ⟨h, 0, none⟩ = some (.bool v)) :
    (Builtin.append_ #[36, 36] ty #[.slice (some ⟨g, 0, none⟩) l c, .slice (some ⟨h, 0, none⟩) 1 1]).run Sahg.prog w = .ok (.slice (some ⟨g, 0, none⟩) (l + 1) c) (w.setCell ⟨g, l, none⟩ (.bool v)) := by
  have hc := brow_cell hr (show l < c by omega)
  have hf := hr.frozen l
  have hs : (sizeOf 4).run Sahg.prog w = .ok 1 w := by kernel_rfl
  have hload : (load ⟨h, 0, none⟩).run Sahg.prog w = .ok (.bool v) w := by simp [load, Sem.run, hv]
  simp [Builtin.append_, run_underlying Sahg.underlying36, hs, Builtin.lenOf, Builtin.firstCells, loadCells, loadCellsFrom, Addr.add_mid, hl, hload, storeCells, run_store_bool, stored, hc, hf]
theorem wpList_push {ops : Array Oper} {rest : List Oper} {o1 o2 : Oper} {a : Act} {w : World} {Q : Exit → Act → World → Prop} (hg1 : o1.guard = none) (hg2 : o2.guard = none) (y x z : Operand) (ho1 : o1.op = .buildSlice 36 1 #[(0, y)])
    (ho2 : o2.op = .call { callee := .builtin .append, args := #[x, z], argTypes := #[36, 36] }) (v : Bool) (hy : a.eval y = .bool v) (g T c l : Nat) (f : Nat → Bool)
    (hx : (a.put o1.dst (.slice (some ⟨w.heap.size, 0, none⟩) 1 1)).eval x = .slice (some ⟨g, 0, none⟩) l c) (hz : (a.put o1.dst (.slice (some ⟨w.heap.size, 0, none⟩) 1 1)).eval z = .slice (some ⟨w.heap.size, 0, none⟩) 1 1)
    (hr : Row w g T (brow c f)) (hl : l + 1 ≤ c)
    (h : ∀ w', Row w' g T (brow c fun i => if i = l then v else f i) → Fr (blk g) w w' → wpList Sahg.prog ops Q rest ((a.put o1.dst (.slice (some ⟨w.heap.size, 0, none⟩) 1 1)).put o2.dst (.slice (some ⟨g, 0, none⟩) (l + 1) c)) w') : wpList Sahg.prog ops Q (o1 :: o2 :: rest) a w := by
  refine wpList_plain hg1 fun K1 hK1 => ?_
  unfold Oper.wp execOp
  simp only [ho1, List.map_toArray, List.map_cons, List.map_nil, hy, Sem.run_bind, run_build1, Result.andThen_ok, Sem.run_pure]
  refine hK1 _ _ (wpList_plain hg2 fun K2 hK2 => ?_)
  have hr2 := hr.alloc (.cells #[.bool v] 4)
  have hrun := run_append1 g T c l w.heap.size f v o2.type _ hr2 hl (by simp)
  unfold Oper.wp execOp
  simp only [ho2, resolve, Sem.run_bind, Sem.run_pure, Result.andThen_ok, invoke, builtin, List.map_toArray, List.map_cons, List.map_nil, hx, hz, hrun]
  exact hK2 _ _ (h _ (brow_put hr2 l v) (Fr.set1 ((Fr.refl _ _).alloc _ _) _))

/-- The message's bits laid so far. -/
def lg (m : Nat → Bool) (l t : Nat) : Bool := if t < l then m t else false
theorem lg_step (m : Nat → Bool) (l i : Nat) (v : Bool) (hv : v = m l) : (if i = l then v else lg m l i) = lg m (l + 1) i := by
  unfold lg
  by_cases h : i = l
  · subst h; rw [if_pos rfl, if_pos (by omega), hv]
  · by_cases h1 : i < l
    · rw [if_neg h, if_pos h1, if_pos (by omega)]
    · rw [if_neg h, if_neg h1, if_neg (by omega)]
theorem mbit_data (n : Nat) (D : Nat → BitVec 8) (I k : Nat) (hI : I < n) (hk : k < 8) : K.mbit n D (8 * I + k) = (D I).getLsbD k := by
  unfold K.mbit
  rw [show (8 * I + k) / 8 = I by omega, show (8 * I + k) % 8 = k by omega, padB_in n D I hI]
theorem mbit_one (n : Nat) (D : Nat → BitVec 8) : K.mbit n D (8 * n) = true := by
  unfold K.mbit K.padB
  rw [show 8 * n / 8 = n by omega, show 8 * n % 8 = 0 by omega, if_neg (by omega), if_pos rfl, BitVec.getLsbD_or]
  rfl
theorem mbit_zero (n : Nat) (D : Nat → BitVec 8) (t : Nat) (h1 : 8 * n < t) (h2 : t < 1088 * (n / 136) + 1087) : K.mbit n D t = false := by
  unfold K.mbit K.padB
  rw [if_neg (by omega), BitVec.getLsbD_or]
  have a1 : (if t / 8 = n then 1#8 else 0#8).getLsbD (t % 8) = false := by
    by_cases h : t / 8 = n
    · rw [if_pos h, BitVec.getLsbD_one, decide_eq_false (show ¬ t % 8 = 0 by omega)]; simp
    · rw [if_neg h]; simp
  have a2 : (if t / 8 = n / 136 * 136 + 135 then 128#8 else 0#8).getLsbD (t % 8) = false := by
    by_cases h : t / 8 = n / 136 * 136 + 135
    · rw [if_pos h]
      have : ∀ z, z < 7 → (128#8).getLsbD z = false := by decide
      exact this _ (by omega)
    · rw [if_neg h]; simp
  rw [a1, a2]; rfl
theorem mbit_last (n : Nat) (D : Nat → BitVec 8) : K.mbit n D (1088 * (n / 136) + 1087) = true := by
  unfold K.mbit K.padB
  rw [show (1088 * (n / 136) + 1087) / 8 = n / 136 * 136 + 135 by omega, show (1088 * (n / 136) + 1087) % 8 = 7 by omega, if_pos rfl, BitVec.getLsbD_or, show (128#8).getLsbD 7 = true from rfl, Bool.or_true]
end Go.Proofs.Ygcsah
