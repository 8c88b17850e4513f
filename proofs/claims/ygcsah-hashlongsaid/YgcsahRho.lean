/-
  kmodel.rho.
-/
import Derived.Test.YgcsahCopy
import Derived.Test.YgcsahOffset
namespace Go.Proofs.Ygcsah
open Go.RowKit Go.BigFrame
set_option maxHeartbeats 4000000
set_option maxRecDepth 100000

/-- The first N bits turned. -/
def pg (H : Nat → Bool) (N j : Nat) : Bool := if j < N then H j else false

theorem brow_eq {n : Nat} {g g' : Nat → Bool} (h : ∀ i, i < n → g i = g' i) : brow n g = brow n g' := rowF_congr fun i hi => by rw [h i hi]
theorem rho_cells (G : Nat → Bool) (X Y kk mm i : Nat) (hY : Y < 5) (hk : kk = K.off X Y) (hm : mm + kk = 64) :
    (if X * 320 + Y * 64 ≤ i ∧ i < X * 320 + Y * 64 + kk then Value.bool (G (X * 320 + Y * 64 + mm + (i - (X * 320 + Y * 64)))) else
      if X * 320 + Y * 64 + kk ≤ i ∧ i < X * 320 + Y * 64 + kk + mm then Value.bool (G (X * 320 + Y * 64 + (i - (X * 320 + Y * 64 + kk)))) else Value.bool (pg (K.rhoB G) (320 * X + 64 * Y) i)) =
    Value.bool (pg (K.rhoB G) (320 * X + 64 * (Y + 1)) i) := by
  unfold pg
  have hro : X * 320 + Y * 64 ≤ i → i < X * 320 + Y * 64 + 64 → K.rhoB G i = G (320 * X + 64 * Y + (i % 64 + (64 - kk)) % 64) := fun h1 h2 => by
    simp only [K.rhoB]
    rw [show i / 320 = X by omega, show i / 64 % 5 = Y by omega, hk]
  by_cases c1 : X * 320 + Y * 64 ≤ i ∧ i < X * 320 + Y * 64 + kk
  · rw [if_pos c1, if_pos (by omega), hro (by omega) (by omega)]
    congr 2; omega
  · rw [if_neg c1]
    by_cases c2 : X * 320 + Y * 64 + kk ≤ i ∧ i < X * 320 + Y * 64 + kk + mm
    · rw [if_pos c2, if_pos (by omega), hro (by omega) (by omega)]
      congr 2; omega
    · rw [if_neg c2]
      by_cases c3 : i < 320 * X + 64 * Y
      · rw [if_pos c3, if_pos (by omega)]
      · rw [if_neg c3, if_neg (by omega)]

theorem ret_row49 {fn : Func} {w : World} {p : Tmp} (h : fn.results = #[.cell p 49]) (tmps : Array Value) (g T : Nat) (H : Nat → Bool) (hp : tmps.getD p undef = .pointer (some ⟨g, 0, none⟩)) (hr : Row w g T (brow 1600 H)) :
    (results fn tmps).run Sahg.prog w = .ok (.agg (brow 1600 H)) w :=
  results_cell_row h tmps w g T _ (0, 0) _ hp hr Sahg.underlying49 rfl (by rw [brow_size]; exact size49)

theorem size4 : (Sahg.prog.info? 4).map (·.size) = some 1 := by kernel_rfl
theorem run_size4 (w : World) : (sizeOf 4).run Sahg.prog w = .ok 1 w := by kernel_rfl
theorem slice_from (g o l : Nat) (k : IntKind) (hl : l < 64) (W : World) :
    (Instr.sliceAt 46 (.pointer (some ⟨g, o, none⟩)) (some (.int k l)) none none).run Sahg.prog W = .ok (.slice (some ⟨g, o + l, none⟩) (64 - l) (64 - l)) W := by
  have h1 : 0 ≤ (l : Int) ∧ (l : Int) ≤ ((64 : Nat) : Int) := ⟨by omega, by omega⟩
  simp only [Instr.sliceAt, Sem.run_bind, run_underlying Sahg.underlying46, Result.andThen_ok, Instr.sureAddr, Sem.run_pure, Instr.sliceBounds, Instr.sliceBound, asIntOf, run_size4, if_pos h1, Int.toNat_natCast]
  rw [if_neg (by omega), Nat.mul_one, Addr.add_mid]
/-- Where 'x[l:]' begins: at the array's own address where nothing is left. -/
def soff (l o : Nat) : Nat := if l = 64 then o else o + l
theorem slice_from_any (g o l : Nat) (k : IntKind) (hl : l ≤ 64) (W : World) :
    (Instr.sliceAt 46 (.pointer (some ⟨g, o, none⟩)) (some (.int k l)) none none).run Sahg.prog W = .ok (.slice (some ⟨g, soff l o, none⟩) (64 - l) (64 - l)) W := by
  have h1 : 0 ≤ (l : Int) ∧ (l : Int) ≤ ((64 : Nat) : Int) := ⟨by omega, by omega⟩
  simp only [Instr.sliceAt, Sem.run_bind, run_underlying Sahg.underlying46, Result.andThen_ok, Instr.sureAddr, Sem.run_pure, Instr.sliceBounds, Instr.sliceBound, asIntOf, run_size4, if_pos h1, Int.toNat_natCast]
  unfold soff
  by_cases h : l = 64
  · rw [if_pos h.symm, if_pos h]
  · rw [if_neg (Ne.symm h), if_neg h, Nat.mul_one, Addr.add_mid]
theorem slice_to (g o l : Nat) (k : IntKind) (hl : l ≤ 64) (W : World) :
    (Instr.sliceAt 46 (.pointer (some ⟨g, o, none⟩)) none (some (.int k l)) none).run Sahg.prog W = .ok (.slice (some ⟨g, o, none⟩) l 64) W := by
  have h1 : 0 ≤ (l : Int) ∧ (l : Int) ≤ ((64 : Nat) : Int) := ⟨by omega, by omega⟩
  simp only [Instr.sliceAt, Sem.run_bind, run_underlying Sahg.underlying46, Result.andThen_ok, Instr.sureAddr, Sem.run_pure, Instr.sliceBounds, Instr.sliceBound, asIntOf, run_size4, if_pos h1, Int.toNat_natCast]
  rw [if_neg (by omega), Nat.zero_mul, Addr.add_mid]
  rfl

section
attribute [local go_sem] cell?_At frozen?_At heap_At
theorem rho_any (b T : Nat) (G : Nat → Bool) (w : World) (hr : Row w b T (brow 1600 G)) :
    Calls Sahg.prog 16 #[.pointer (some ⟨b, 0, none⟩)] w fun e w' => e = .returned (.agg (brow 1600 (K.rhoB G))) ∧ Fr nob w w' := by
  have hbs := hr.lt
  go_enter Sahg.func16, Sahg.ntmps16
  go_wp2_with (refine wpList_alloc_row rfl 49 rfl _ (zero49 _) ?_)
  go_loopw [6] (fun i w' => ∃ X : Nat, X ≤ 5 ∧ i = .int .i64 X ∧ Row w' w.heap.size 49 (brow 1600 (pg (K.rhoB G) (320 * X))) ∧ Fr nob w w') (fun i _ => 5 - (intOf i).toNat)
  case atStart => exact ⟨0, by omega, rfl, brow_congr (Row.new w 49 _) (fun i _ => by unfold pg; rw [if_neg (by omega)]), (Fr.refl _ _).alloc _ _⟩
  case round =>
    obtain ⟨X, hX, rfl, hB, hF⟩ := hrel
    by_cases hltX : X < 5
    · have hX5 : decide ((X : Int) < 5) = true := decide_eq_true (by omega)
      go_wp2
      go_loopw [9] (fun i w' => ∃ Y : Nat, Y ≤ 5 ∧ i = .int .i64 Y ∧ Row w' w.heap.size 49 (brow 1600 (pg (K.rhoB G) (320 * X + 64 * Y))) ∧ Fr nob w w') (fun i _ => 5 - (intOf i).toNat)
      case atStart => exact ⟨0, by omega, rfl, hB, hF⟩
      case round =>
        clear hB hF
        obtain ⟨Y, hY, rfl, hB, hF⟩ := hrel
        by_cases hltY : Y < 5
        · obtain ⟨kk, hkk⟩ : ∃ kk, kk = K.off X Y := ⟨_, rfl⟩
          have hk64 : kk < 64 := by rw [hkk]; exact K.off_lt X Y
          have Hk : Hid (kk = K.off X Y) := hkk
          have hoff := fun w => offset_any X Y hltX hltY w
          rw [← hkk] at hoff
          have Hoff : Hid (∀ w : World, Calls Sahg.prog 22 #[.int .u8 X, .int .u8 Y] w fun e w' => e = .returned (.int .u8 (kk : Nat)) ∧ w' = w) := hoff
          clear hkk hoff
          have ek : (kk : Int) % 64 = (kk : Int) := by omega
          obtain ⟨mm, hmm⟩ : ∃ mm, mm + kk = 64 := ⟨64 - kk, by omega⟩
          have em : (64 : Int) - (kk : Int) = (mm : Int) := by omega
          have hm64 : mm ≤ 64 := by omega
          have s1 := fun g o W => slice_from g o kk .u8 hk64 W
          have s2 := fun g o W => slice_to g o mm .u8 hm64 W
          have Hm : Hid (mm + kk = 64) := hmm
          clear hmm
          go_wp2_with (go_at_call 22; refine (Hoff.out _).mono ?_; rintro e w' ⟨rfl, rfl⟩)
          refine region_tail 15 (by kernel_rfl) (by kernel_rfl) ?_
          simp only [List.take_succ_cons, List.take_zero, List.drop_succ_cons, List.drop_zero]
          repeat (go_big_quiet_step (fail))
          refine wpQuiet_nil ?_
          have hA := hF.row hr (fun h => h)
          refine wpList_copy rfl 36 36 _ _ rfl 4 Sahg.underlying36 size4 w.heap.size 49 1600 (fun i => .bool (pg (K.rhoB G) (320 * X + 64 * Y) i)) (X * 320 + Y * 64 + kk) (64 - kk) (64 - kk) (by rfl) b (X * 320 + Y * 64) mm 64 (by rfl) mm
            (by have := Hm.out; show _ = min _ _; omega) (fun j => .bool (G (X * 320 + Y * 64 + j))) (fun j hj => brow_cell hA.drew (by omega)) (fun j => rfl) hB.drew (by have := Hm.out; omega) ?_
          intro w2 hB2 hF2
          simp only [Act.put, List.setIfInBounds_toArray, List.set_cons_succ, List.set_cons_zero]
          have hA2 := hF2.row hA.drew (not_blk (show b ≠ w.heap.size by omega))
          go_wp2
          have s3 := fun g o W => slice_to g o kk .u8 (Nat.le_of_lt hk64) W
          have s4 := fun g o W => slice_from_any g o mm .u8 hm64 W
          clear s1 s2
          refine region_tail 15 (by kernel_rfl) (by kernel_rfl) ?_
          simp only [List.take_succ_cons, List.take_zero, List.drop_succ_cons, List.drop_zero]
          repeat (go_big_quiet_step (fail))
          refine wpQuiet_nil ?_
          refine wpList_copy rfl 36 36 _ _ rfl 4 Sahg.underlying36 size4 w.heap.size 49 1600 _ (X * 320 + Y * 64) kk 64 (by rfl) b (soff mm (X * 320 + Y * 64)) (64 - mm) (64 - mm) (by rfl) kk
            (by have := Hm.out; show _ = min _ _; omega) (fun j => .bool (G (X * 320 + Y * 64 + mm + j))) (fun j hj => ?_) (fun j => rfl) hB2.drew (by have := Hm.out; omega) ?_
          · have := Hm.out
            unfold soff
            rw [if_neg (by omega)]
            exact brow_cell hA2.drew (by omega)
          intro w3 hB3 hF3
          simp only [Act.put, List.setIfInBounds_toArray, List.set_cons_succ, List.set_cons_zero]
          go_wp2
          go_roundw
          case rel =>
            refine ⟨Y + 1, by omega, by go_num, ?_, ?_⟩
            · exact hB3.congr fun i _ => rho_cells G X Y kk mm i hltY Hk.out Hm.out
            · exact ((hF.drew.trans hF2 (fun k hk h => absurd h (not_blk (by omega)))).drew).trans hF3 (fun k hk h => absurd h (not_blk (by omega)))
          case measure => simp [intOf]; omega
        · obtain rfl : Y = 5 := by omega
          go_wp2
          exact ⟨⟨X + 1, by omega, by go_num, hB, hF⟩, by simp [intOf]; omega⟩
    · obtain rfl : X = 5 := by omega
      go_wp2_with (first | (refine wpList_load_row rfl 49 _ rfl w.heap.size rfl 49 _ (0, 0) _ hB Sahg.underlying49 rfl (by rw [brow_size]; exact size49) ?_) | (refine wpList_store_row rfl 49 _ _ rfl w.heap.size _ rfl rfl 49 _ hB (by rw [brow_size]; exact size49) rfl (brow_one _ _) ?_))
      refine bodyPost_ret (v := .agg (brow 1600 (pg (K.rhoB G) (320 * 5)))) (ret_row49 Sahg.results16 _ w.heap.size 49 _ rfl (hB.setRow _)) rfl ⟨?_, hF.setRow (.inl (Nat.le_refl _)) _⟩
      rw [brow_eq (fun i hi => by unfold pg; rw [if_pos (by omega)])]
end
end Go.Proofs.Ygcsah
