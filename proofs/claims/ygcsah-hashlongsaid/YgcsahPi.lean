/-
  kmodel.pi.
-/
import Derived.Test.YgcsahRho
namespace Go.Proofs.Ygcsah
open Go.RowKit Go.BigFrame
set_option maxHeartbeats 4000000
set_option maxRecDepth 100000

theorem wpQuiet_load_mid {P : Program} {ops : Array Oper} {C : World → Prop} {Q : Act → Prop} {rest : List Oper} {o : Oper} {a : Act} (hgd : o.guard = none) (ty : TypeId) (x : Operand) (ho : o.op = .load ty x)
    (b o' : Nat) (cs : List Value) (hx : a.eval x = .pointer (some ⟨b, o', none⟩)) (hc : ∀ w, C w → w.rangeAt b o' cs) (d : TypeDesc) (hu : P.underlying ty = some d) (hd : d.isRow = true)
    (hi : (P.info? ty).map (·.size) = some cs.length) (h : wpQuiet P ops C Q rest (a.put o.dst (.agg cs.toArray))) : wpQuiet P ops C Q (o :: rest) a := by
  refine wpQuiet_want (by simp [Region.wanted, hgd]) fun K hK => ⟨.agg cs.toArray, fun w hw => ?_, hK _ h⟩
  unfold Oper.quietAt execOp
  simp only [ho, hx, Instr.loadAt, Instr.sureAddr, Sem.run_bind, Sem.run_pure, Result.andThen_ok, run_loadVar_mid w b o' ty cs d (hc w hw) hu hd hi]
  exact ⟨rfl, rfl⟩

/-- n cells of a row of Bools, from o on. -/
def part64 (G : Nat → Bool) (o : Nat) : List Value := (List.range 64).map fun j => .bool (G (o + j))
theorem part64_len (G : Nat → Bool) (o : Nat) : (part64 G o).length = 64 := by simp [part64]
theorem part64_range {w : World} {b T : Nat} {G : Nat → Bool} (h : Row w b T (brow 1600 G)) (o : Nat) (ho : o + 64 ≤ 1600) : w.rangeAt b o (part64 G o) := by
  intro j v hv
  have hj : j < 64 := by have := (List.getElem?_eq_some_iff.1 hv).1; simpa [part64] using this
  rw [brow_cell h (by omega), ← hv]
  simp [part64, hj]
theorem part64_one (G : Nat → Bool) (o : Nat) : (part64 G o).toArray.all (·.oneCell') = true :=
  all_oneCell_toArray fun v hv => by obtain ⟨j, _, rfl⟩ := List.mem_map.1 hv; rfl
theorem Row.there {w : World} {b T n : Nat} {f : Nat → Value} (h : Row w b T (rowF n f)) (o m : Nat) (ho : o + m ≤ n) : w.there b o m := fun j hj =>
  ⟨by rw [h.cellF (by omega)]; rfl, h.frozen _⟩
theorem pi_cells (G : Nat → Bool) (X Y P i : Nat) (hY : Y < 5) (hP : P = (X + 3 * Y) % 5) :
    (if X * 320 + Y * 64 ≤ i ∧ i < X * 320 + Y * 64 + (part64 G (P * 320 + X * 64)).length then (part64 G (P * 320 + X * 64)).getD (i - (X * 320 + Y * 64)) undef else Value.bool (pg (K.piB G) (320 * X + 64 * Y) i)) =
    Value.bool (pg (K.piB G) (320 * X + 64 * (Y + 1)) i) := by
  rw [part64_len]
  unfold pg
  by_cases c1 : X * 320 + Y * 64 ≤ i ∧ i < X * 320 + Y * 64 + 64
  · rw [if_pos c1, if_pos (by omega)]
    unfold part64
    rw [range_getD 64 _ _ (by omega)]
    simp only [K.piB]
    rw [show i / 320 = X by omega, show i / 64 % 5 = Y by omega, ← hP]
    congr 2; omega
  · rw [if_neg c1]
    by_cases c3 : i < 320 * X + 64 * Y
    · rw [if_pos c3, if_pos (by omega)]
    · rw [if_neg c3, if_neg (by omega)]

section
attribute [local go_sem] cell?_At frozen?_At heap_At
theorem pi_any (b T : Nat) (G : Nat → Bool) (w : World) (hr : Row w b T (brow 1600 G)) :
    Calls Sahg.prog 17 #[.pointer (some ⟨b, 0, none⟩)] w fun e w' => e = .returned (.agg (brow 1600 (K.piB G))) ∧ Fr nob w w' := by
  have hbs := hr.lt
  go_enter Sahg.func17, Sahg.ntmps17
  go_wp2_with (refine wpList_alloc_row rfl 49 rfl _ (zero49 _) ?_)
  go_loopw [5] (fun i w' => ∃ X : Nat, X ≤ 5 ∧ i = .int .i64 X ∧ Row w' w.heap.size 49 (brow 1600 (pg (K.piB G) (320 * X))) ∧ Fr nob w w') (fun i _ => 5 - (intOf i).toNat)
  case atStart => exact ⟨0, by omega, rfl, brow_congr (Row.new w 49 _) (fun i _ => by unfold pg; rw [if_neg (by omega)]), (Fr.refl _ _).alloc _ _⟩
  case round =>
    obtain ⟨X, hX, rfl, hB, hF⟩ := hrel
    by_cases hltX : X < 5
    · have hX5 : decide ((X : Int) < 5) = true := decide_eq_true (by omega)
      go_wp2
      go_loopw [8] (fun i w' => ∃ Y : Nat, Y ≤ 5 ∧ i = .int .i64 Y ∧ Row w' w.heap.size 49 (brow 1600 (pg (K.piB G) (320 * X + 64 * Y))) ∧ Fr nob w w') (fun i _ => 5 - (intOf i).toNat)
      case atStart => exact ⟨0, by omega, rfl, hB, hF⟩
      case round =>
        clear hB hF
        obtain ⟨Y, hY, rfl, hB, hF⟩ := hrel
        by_cases hltY : Y < 5
        · obtain ⟨P, hP⟩ : ∃ P, P = (X + 3 * Y) % 5 := ⟨_, rfl⟩
          have eP : ((X : Int) + 3 * (Y : Int)) % 5 = (P : Int) := by omega
          have hP5 : P < 5 := by omega
          have HP : Hid (P = (X + 3 * Y) % 5) := hP
          clear hP
          have hA := hF.row hr (fun h => h)
          go_wp2
          refine region_tail 15 (by kernel_rfl) (by kernel_rfl) ?_
          simp only [List.take_succ_cons, List.take_zero, List.drop_succ_cons, List.drop_zero]
          iterate 12 (go_big_quiet_step (fail))
          refine wpQuiet_load_mid rfl 46 _ rfl b (P * 320 + X * 64) (part64 G (P * 320 + X * 64)) (by rfl) (fun w' ⟨n, hn⟩ => by subst hn; exact part64_range hA _ (by omega)) _ Sahg.underlying46 rfl (by rw [part64_len]; exact size46) ?_
          simp only [Act.put, List.setIfInBounds_toArray, List.set_cons_succ, List.set_cons_zero]
          repeat (go_big_quiet_step (fail))
          refine wpQuiet_nil ?_
          refine wpList_store_mid rfl 46 _ _ rfl w.heap.size (X * 320 + Y * 64) (part64 G (P * 320 + X * 64)).toArray (by rfl) (by rfl) (Row.there hB.drew _ _ (by simp [part64]; omega)) (by simp only [List.size_toArray, part64_len]; exact size46) (part64_one _ _) ?_
          simp only [Act.put]
          obtain ⟨w2, hw2⟩ : ∃ x, x = wr.drew.setCells w.heap.size (X * 320 + Y * 64) (part64 G (P * 320 + X * 64)).toArray.toList := ⟨_, rfl⟩
          rw [← hw2]
          have hB2 : Row w2 w.heap.size 49 (brow 1600 (pg (K.piB G) (320 * X + 64 * (Y + 1)))) := by
            rw [hw2]; exact (Row.setCells _ _ _ _ hB.drew).congr fun i _ => pi_cells G X Y P i hltY HP.out
          have hF2 : Fr nob w w2 := by
            rw [hw2]; exact hF.drew.trans (Fr.setCells _ _ _ (Fr.refl _ _)) (fun k hk h => absurd h (not_blk (by omega)))
          clear hw2
          go_wp2
          go_roundw
          case rel => exact ⟨Y + 1, by omega, by go_num, hB2, hF2⟩
          case measure => simp [intOf]; omega
        · obtain rfl : Y = 5 := by omega
          go_wp2
          exact ⟨⟨X + 1, by omega, by go_num, hB, hF⟩, by simp [intOf]; omega⟩
    · obtain rfl : X = 5 := by omega
      go_wp2_with (first | (refine wpList_load_row rfl 49 _ rfl w.heap.size rfl 49 _ (0, 0) _ hB Sahg.underlying49 rfl (by rw [brow_size]; exact size49) ?_) | (refine wpList_store_row rfl 49 _ _ rfl w.heap.size _ rfl rfl 49 _ hB (by rw [brow_size]; exact size49) rfl (brow_one _ _) ?_))
      refine bodyPost_ret (v := .agg (brow 1600 (pg (K.piB G) (320 * 5)))) (ret_row49 Sahg.results17 _ w.heap.size 49 _ rfl (hB.setRow _)) rfl ⟨?_, hF.setRow (.inl (Nat.le_refl _)) _⟩
      rw [brow_eq (fun i hi => by unfold pg; rw [if_pos (by omega)])]
end
end Go.Proofs.Ygcsah
