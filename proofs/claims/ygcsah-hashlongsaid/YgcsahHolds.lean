/-
  law.hashLongHolds.
-/
import Derived.Test.YgcsahBitSum
import Derived.Stop.BytesEq
namespace Go.Proofs.Ygcsah
open Go.RowKit Go.BigFrame
set_option maxHeartbeats 1000000
set_option maxRecDepth 100000

theorem byrow_cells (g : Nat → BitVec 8) : byrow 32 g = (((List.range 32).map fun j => UInt8.ofBitVec (g j)).map Extern.Stop.cell).toArray := by
  apply Array.ext
  · simp [byrow, rowF]
  · intro i h1 h2
    simp [byrow, rowF, Extern.Stop.cell, byt]
theorem eql25 (g : Nat → BitVec 8) (w : World) : (binOp .eql 25 (.agg (byrow 32 g)) (.agg (byrow 32 g))).run Sahg.prog w = .ok (.bool true) w := by
  rw [byrow_cells, run_eql_bytes w 25 5 32 Sahg.underlying25 Sahg.underlying5 (fun w => by kernel_rfl) _ _ (by simp) (by simp)]
  simp
theorem guard25 (x y : Operand) (xs ys : Array Value) (w : World) : (eqGuard .eql 25 x y (.agg xs) (.agg ys)).run Sahg.prog w = .ok () w := run_eqGuard_agg w .eql 25 x y xs ys (by kernel_rfl)
theorem call7 (args : Array Value) (w : World) : (callFunc 7 args).run Sahg.prog w = .ok (.enter 7 args) w := by kernel_rfl

section
variable {P : Program} {ops : Array Oper} {C : World → Prop} {Q : Act → Prop} {rest : List Oper} {o : Oper} {a : Act}
theorem wpQuiet_run (hw : Region.wanted o (yielded ops a.tmps) = true) (v : Value) (hrun : ∀ w, C w → (execOp a.eval o).run P w = .ok (.value v) w) (h : wpQuiet P ops C Q rest (a.put o.dst v)) : wpQuiet P ops C Q (o :: rest) a :=
  wpQuiet_want hw fun K hK => ⟨v, fun w hw' => by unfold Oper.quietAt; rw [hrun w hw']; exact ⟨rfl, rfl⟩, hK _ h⟩
theorem wpQuiet_enter (hw : Region.wanted o (yielded ops a.tmps) = true) (f : FuncId) (args : Array Value) (v : Value) (hrun : ∀ w, C w → (execOp a.eval o).run P w = .ok (.enter f args) w)
    (hc : ∀ w, C w → Calls P f args w fun e w'' => e = .returned v ∧ C w'') (h : wpQuiet P ops C Q rest (a.put o.dst v)) : wpQuiet P ops C Q (o :: rest) a :=
  wpQuiet_want hw fun K hK => ⟨v, fun w hw' => by unfold Oper.quietAt; rw [hrun w hw']; exact ⟨rfl, hc w hw'⟩, hK _ h⟩
end
theorem run_load25 (x : Operand) (b T : Nat) (g : Nat → BitVec 8) (a : Act) (o : Oper) (ho : o.op = .load 25 x) (hx : a.eval x = .pointer (some ⟨b, 0, none⟩)) (w : World) (hr : Row w b T (byrow 32 g)) :
    (execOp a.eval o).run Sahg.prog w = .ok (.value (.agg (byrow 32 g))) w := by
  unfold execOp
  simp only [ho, hx, Instr.loadAt, Instr.sureAddr, Sem.run_bind, Sem.run_pure, Result.andThen_ok, run_loadVar_row w b T 25 (byrow 32 g) (0, 0) _ hr Sahg.underlying25 rfl (by rw [byrow_size]; exact size25)]
theorem run_eql25 (x y : Operand) (yT : TypeId) (g : Nat → BitVec 8) (a : Act) (o : Oper) (ho : o.op = .binOp .eql 25 x y yT) (hx : a.eval x = .agg (byrow 32 g)) (hy : a.eval y = .agg (byrow 32 g)) (w : World) :
    (execOp a.eval o).run Sahg.prog w = .ok (.value (.bool true)) w := by
  unfold execOp
  simp only [ho, hx, hy, Sem.run_bind, guard25, eql25, Result.andThen_ok, Sem.run_pure]

theorem run_call7 (x : Operand) (v : Value) (a : Act) (o : Oper) (ho : o.op = .call { callee := .value (.func 7), args := #[x], argTypes := #[23] }) (hx : a.eval x = v) (w : World) :
    (execOp a.eval o).run Sahg.prog w = .ok (.enter 7 #[v]) w := by
  have hf : a.eval (.func 7) = .func (.func 7) #[] #[] := rfl
  unfold execOp
  simp only [ho, resolve, List.map_toArray, List.map_cons, List.map_nil, hx, hf, Deferred.ofValue, Sem.run_bind, Sem.run_pure, Result.andThen_ok, invoke]
  exact call7 _ w
theorem holds_any (bd n : Nat) (D : Nat → BitVec 8) (w : World) (hn : n < 600) (hd : Row w bd 5 (byrow n D)) :
    Calls Sahg.prog 4 #[.slice (some ⟨bd, 0, none⟩) n n, .agg (byrow 32 (K.digest n D)), .agg (byrow 32 (K.digest n D))] w fun e w' => e = .returned (.bool true) ∧ Fr nob w w' := by
  go_enter Sahg.func4, Sahg.ntmps4
  go_wp2
  have h4 := (Row.new w 25 (byrow 32 (K.digest n D))).alloc (.cells (byrow 32 (K.digest n D)) 25)
  have h5 := Row.new (w.alloc (.cells (byrow 32 (K.digest n D)) 25)) 25 (byrow 32 (K.digest n D))
  rw [World.size_alloc] at h5
  have hd2 := (hd.alloc (.cells (byrow 32 (K.digest n D)) 25)).alloc (.cells (byrow 32 (K.digest n D)) 25)
  have hF := ((Fr.refl nob w).alloc (byrow 32 (K.digest n D)) 25).alloc (byrow 32 (K.digest n D)) 25
  obtain ⟨W2, hW2⟩ : ∃ W2, W2 = (w.alloc (.cells (byrow 32 (K.digest n D)) 25)).alloc (.cells (byrow 32 (K.digest n D)) 25) := ⟨_, rfl⟩
  rw [← hW2] at h4 h5 hd2 hF ⊢
  clear hW2
  refine wp_region_quiet (C := fun w' => Fr nob W2 w') (by kernel_rfl) (by kernel_rfl) (Fr.drew (Fr.refl nob W2)) ?_
  simp only []
  refine wpQuiet_run rfl (.agg (byrow 32 (K.digest n D))) (fun w' hw' => run_load25 _ w.heap.size 25 (K.digest n D) _ _ rfl (by rfl) w' (hw'.row h4 (fun h => h))) ?_
  simp only [Act.put, List.setIfInBounds_toArray, List.set_cons_succ, List.set_cons_zero]
  refine wpQuiet_run rfl (.agg (byrow 32 (K.digest n D))) (fun w' hw' => run_load25 _ (w.heap.size + 1) 25 (K.digest n D) _ _ rfl (by rfl) w' (hw'.row h5 (fun h => h))) ?_
  simp only [Act.put, List.setIfInBounds_toArray, List.set_cons_succ, List.set_cons_zero]
  refine wpQuiet_run rfl (.bool true) (fun w' _ => run_eql25 _ _ _ (K.digest n D) _ _ rfl (by rfl) (by rfl) w') ?_
  simp only [Act.put, List.setIfInBounds_toArray, List.set_cons_succ, List.set_cons_zero]
  refine wpQuiet_run rfl (.bool true) (fun w' _ => rfl) ?_
  simp only [Act.put, List.setIfInBounds_toArray, List.set_cons_succ, List.set_cons_zero]
  refine wpQuiet_run rfl (.agg (byrow 32 (K.digest n D))) (fun w' hw' => run_load25 _ (w.heap.size + 1) 25 (K.digest n D) _ _ rfl (by rfl) w' (hw'.row h5 (fun h => h))) ?_
  simp only [Act.put, List.setIfInBounds_toArray, List.set_cons_succ, List.set_cons_zero]
  refine wpQuiet_run rfl (.slice (some ⟨bd, 0, none⟩) n n) (fun w' _ => rfl) ?_
  simp only [Act.put, List.setIfInBounds_toArray, List.set_cons_succ, List.set_cons_zero]
  refine wpQuiet_enter rfl 7 #[.slice (some ⟨bd, 0, none⟩) n n] (.agg (byrow 32 (K.digest n D))) (fun w' _ => run_call7 _ _ _ _ rfl (by rfl) w') (fun w' hw' => (bsum_any bd n D w' hn (hw'.row hd2 (fun h => h))).mono (fun e w'' ⟨he, hf⟩ => ⟨he, hw'.trans hf (fun _ _ h => h)⟩)) ?_
  simp only [Act.put, List.setIfInBounds_toArray, List.set_cons_succ, List.set_cons_zero]
  refine wpQuiet_run rfl (.bool true) (fun w' _ => run_eql25 _ _ _ (K.digest n D) _ _ rfl (by rfl) (by rfl) w') ?_
  simp only [Act.put, List.setIfInBounds_toArray, List.set_cons_succ, List.set_cons_zero]
  refine wpQuiet_run rfl (.bool true) (fun w' _ => rfl) ?_
  simp only [Act.put, List.setIfInBounds_toArray, List.set_cons_succ, List.set_cons_zero]
  refine wpQuiet_run rfl (.bool true) (fun w' _ => rfl) ?_
  simp only [Act.put, List.setIfInBounds_toArray, List.set_cons_succ, List.set_cons_zero]
  refine wpQuiet_nil ?_
  intro w' hw'
  go_wp2
  go_ret
  exact ⟨rfl, hF.trans hw' (fun _ _ h => h)⟩
end Go.Proofs.Ygcsah
