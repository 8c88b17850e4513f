/-
  Whole arrays: a variable of an array type made, read and written at once; a result that is an array.
-/
import Derived.Test.YgcsahConst
import Derived.Deep.WholeRow
namespace Go.Proofs.Ygcsah
open Go.RowKit

theorem brow_false (n : Nat) : brow n (fun _ => false) = (List.replicate n (Value.bool false)).toArray := by
  apply Array.ext
  · simp [brow, rowF]
  · intro i h1 h2
    simp [brow, rowF]
theorem zero49' (w : World) : (zeroValue 49).run Sahg.prog w = .ok (.agg (List.replicate 1600 (Value.bool false)).toArray) w := by kernel_rfl
theorem zero37' (w : World) : (zeroValue 37).run Sahg.prog w = .ok (.agg (List.replicate 1600 (Value.bool false)).toArray) w := by kernel_rfl
theorem zero47' (w : World) : (zeroValue 47).run Sahg.prog w = .ok (.agg (List.replicate 320 (Value.bool false)).toArray) w := by kernel_rfl
theorem zero46' (w : World) : (zeroValue 46).run Sahg.prog w = .ok (.agg (List.replicate 64 (Value.bool false)).toArray) w := by kernel_rfl
theorem zero49 (w : World) : (zeroValue 49).run Sahg.prog w = .ok (.agg (brow 1600 fun _ => false)) w := by rw [brow_false]; exact zero49' w
theorem zero37 (w : World) : (zeroValue 37).run Sahg.prog w = .ok (.agg (brow 1600 fun _ => false)) w := by rw [brow_false]; exact zero37' w
theorem zero47 (w : World) : (zeroValue 47).run Sahg.prog w = .ok (.agg (brow 320 fun _ => false)) w := by rw [brow_false]; exact zero47' w
theorem zero46 (w : World) : (zeroValue 46).run Sahg.prog w = .ok (.agg (brow 64 fun _ => false)) w := by rw [brow_false]; exact zero46' w
/-- A row of bytes. -/
def byrow (n : Nat) (B : Nat → BitVec 8) : Array Value := rowF n fun i => .int .u8 (byt (B i))
theorem zero25 (w : World) : (zeroValue 25).run Sahg.prog w = .ok (.agg (byrow 32 fun _ => 0)) w := by kernel_rfl
theorem zero33 (w : World) : (zeroValue 33).run Sahg.prog w = .ok (.agg (byrow 136 fun _ => 0)) w := by kernel_rfl
theorem zero29 (w : World) : (zeroValue 29).run Sahg.prog w = .ok (.agg (rowF 25 fun _ => .int .u64 (u 0))) w := by kernel_rfl

theorem wp_alloc_row {P : Program} {o : Oper} {a : Act} {w : World} {K : Act → World → Prop} {Q : Exit → Act → World → Prop} (ty : TypeId) (ho : o.op = .alloc ty) (Z : Array Value)
    (hz : (zeroValue ty).run P w = .ok (.agg Z) w) (h : K (a.put o.dst (.pointer (some ⟨w.heap.size, 0, none⟩))) (w.alloc (.cells Z ty))) : o.wp P a w K Q := by
  unfold Oper.wp execOp
  simp only [ho, Instr.alloc, Sem.run_bind, hz, Result.andThen_ok, newVar, newRow, newObj, Sem.run, Sem.run_pure, Value.cells]
  exact h
theorem wpList_alloc_row {P : Program} {ops : Array Oper} {rest : List Oper} {o : Oper} {a : Act} {w : World} {Q : Exit → Act → World → Prop} (hgd : o.guard = none) (ty : TypeId) (ho : o.op = .alloc ty) (Z : Array Value)
    (hz : (zeroValue ty).run P w = .ok (.agg Z) w) (h : wpList P ops Q rest (a.put o.dst (.pointer (some ⟨w.heap.size, 0, none⟩))) (w.alloc (.cells Z ty))) : wpList P ops Q (o :: rest) a w :=
  wpList_plain hgd fun _ hK => wp_alloc_row ty ho Z hz (hK _ _ h)

theorem size49 : (Sahg.prog.info? 49).map (·.size) = some 1600 := by kernel_rfl
theorem size46 : (Sahg.prog.info? 46).map (·.size) = some 64 := by kernel_rfl
theorem size25 : (Sahg.prog.info? 25).map (·.size) = some 32 := by kernel_rfl
theorem brow_size (n : Nat) (g : Nat → Bool) : (brow n g).size = n := rowF_size n _
theorem byrow_size (n : Nat) (g : Nat → BitVec 8) : (byrow n g).size = n := rowF_size n _
theorem brow_one (n : Nat) (g : Nat → Bool) : (brow n g).all (·.oneCell') = true := by
  refine Array.all_eq_true_iff_forall_mem.2 fun v hv => ?_
  obtain ⟨i, rfl⟩ : ∃ i : Fin n, Value.bool (g i.val) = v := by simpa [brow, rowF] using hv
  rfl
theorem byrow_one (n : Nat) (g : Nat → BitVec 8) : (byrow n g).all (·.oneCell') = true := by
  refine Array.all_eq_true_iff_forall_mem.2 fun v hv => ?_
  obtain ⟨i, rfl⟩ : ∃ i : Fin n, Value.int .u8 (byt (g i.val)) = v := by simpa [byrow, rowF] using hv
  rfl
theorem Row.setRow {w : World} {b T : Nat} {vs : Array Value} (h : Row w b T vs) (vs' : Array Value) : Row (w.setRow b vs') b T vs' := setRow_heap w b vs vs' T (0, 0) h
theorem Row.setRowOther {w : World} {b T g : Nat} {vs : Array Value} (h : Row w b T vs) (ne : b ≠ g) (vs' : Array Value) : Row (w.setRow g vs') b T vs := by
  unfold Row at *; rw [setRow_other w g b vs' ne, h]
theorem frozen?_setRow (w : World) (g : Nat) (cs : Array Value) (a : Addr) : (w.setRow g cs).frozen? a = w.frozen? a := by
  by_cases e : g = a.block
  · have h1 : (w.setRow g cs).heap[a.block]? = (w.heap[a.block]?).map (fun | .cells _ elem frozen => .cells cs elem frozen | o => o) := by
      simp only [World.setRow, Array.getElem?_modify, e, if_true]
      rfl
    unfold World.frozen?
    rw [h1]
    cases h : w.heap[a.block]? with
    | none => rfl
    | some o => cases o <;> rfl
  · exact World.frozen?_of_block (w := w) (setRow_other w g a.block cs (Ne.symm e))
theorem Fr.setRow {S : Nat → Prop} {a w : World} (h : Fr S a w) {g : Nat} (hp : a.heap.size ≤ g ∨ S g) (vs : Array Value) : Fr S a (w.setRow g vs) :=
  ⟨h.os, h.tape, h.output, by rw [setRow_size]; exact h.size, fun x => (frozen?_setRow _ _ _ _).trans (h.frz x), fun k hk hn => by
    rw [setRow_other w g k vs (fun e => by subst e; rcases hp with hp | hp; omega; exact hn hp)]; exact h.block k hk hn⟩
end Go.Proofs.Ygcsah
