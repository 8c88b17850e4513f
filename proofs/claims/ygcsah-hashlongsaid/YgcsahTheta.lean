/-
  kmodel.theta.
-/
import Derived.Test.YgcsahWhole
namespace Go.Proofs.Ygcsah
open Go.RowKit Go.BigFrame
set_option maxHeartbeats 4000000
set_option maxRecDepth 100000

/-- The columns' sums, x < X whole, at X the first Y lanes (Y + 1 at the first Z places). -/
def cg (G : Nat → Bool) (X Y Z i : Nat) : Bool := if i / 64 < X then K.par G (i / 64) 5 (i % 64) else if i / 64 = X then K.par G X (if i % 64 < Z then Y + 1 else Y) (i % 64) else false

theorem cg_step (G : Nat → Bool) (X Y Z i : Nat) (hZ : Z < 64) : (if i = X * 64 + Z then (!(K.par G X Y Z == G (320 * X + 64 * Y + Z))) else cg G X Y Z i) = cg G X Y (Z + 1) i := by
  unfold cg
  by_cases h : i = X * 64 + Z
  · rw [if_pos h, if_neg (by omega), if_pos (by omega), if_pos (by omega), show i % 64 = Z by omega]; rfl
  · rw [if_neg h]
    by_cases h1 : i / 64 < X
    · rw [if_pos h1, if_pos h1]
    · rw [if_neg h1, if_neg h1]
      by_cases h2 : i / 64 = X
      · rw [if_pos h2, if_pos h2]
        by_cases h3 : i % 64 < Z
        · rw [if_pos h3, if_pos (by omega)]
        · rw [if_neg h3, if_neg (by omega)]
      · rw [if_neg h2, if_neg h2]
theorem cg_lane (G : Nat → Bool) (X Y i : Nat) : cg G X Y 64 i = cg G X (Y + 1) 0 i := by
  unfold cg
  rw [if_pos (show i % 64 < 64 by omega), if_neg (show ¬ i % 64 < 0 by omega)]
theorem cg_col (G : Nat → Bool) (X i : Nat) : cg G X 5 0 i = cg G (X + 1) 0 0 i := by
  unfold cg
  rw [if_neg (show ¬ i % 64 < 0 by omega)]
  by_cases h1 : i / 64 < X
  · rw [if_pos h1, if_pos (by omega)]
  · by_cases h2 : i / 64 = X
    · rw [if_neg h1, if_pos h2, if_pos (by omega), h2]
    · rw [if_neg h1, if_neg h2, if_neg (by omega)]
      split
      · rw [if_neg (by omega)]; rfl
      · rfl
theorem cg_start (G : Nat → Bool) (i : Nat) : cg G 0 0 0 i = false := by
  unfold cg
  rw [if_neg (by omega), if_neg (show ¬ i % 64 < 0 by omega)]
  split <;> rfl
theorem cg_at (G : Nat → Bool) (X Y Z : Nat) (hZ : Z < 64) : cg G X Y Z (X * 64 + Z) = K.par G X Y Z := by
  unfold cg
  rw [if_neg (by omega), if_pos (by omega), show (X * 64 + Z) % 64 = Z by omega, if_neg (by omega)]

/-- The first N bits mixed. -/
def tg (G : Nat → Bool) (N j : Nat) : Bool := if j < N then K.thetaB G j else G j

def dg (G : Nat → Bool) (P Q Z i : Nat) : Bool := if i < Z then (K.par G P 5 i != K.par G Q 5 ((i + 63) % 64)) else false
theorem dg_step (G : Nat → Bool) (P Q Z i : Nat) : (if i = Z then (!(K.par G P 5 Z == K.par G Q 5 ((Z + 63) % 64))) else dg G P Q Z i) = dg G P Q (Z + 1) i := by
  unfold dg
  by_cases h : i = Z
  · subst h; rw [if_pos rfl, if_pos (by omega)]; rfl
  · by_cases h1 : i < Z
    · rw [if_neg h, if_pos h1, if_pos (by omega)]
    · rw [if_neg h, if_neg h1, if_neg (by omega)]
theorem tg_step (G : Nat → Bool) (X Y Z P Q i : Nat) (hY : Y < 5) (hZ : Z < 64) (hP : P = (X + 4) % 5) (hQ : Q = (X + 1) % 5) :
    (if i = 320 * X + 64 * Y + Z then (!(G (320 * X + 64 * Y + Z) == dg G P Q 64 Z)) else tg G (320 * X + 64 * Y + Z) i) = tg G (320 * X + 64 * Y + Z + 1) i := by
  unfold tg
  by_cases h : i = 320 * X + 64 * Y + Z
  · rw [if_pos h, if_pos (by omega), h]
    unfold dg
    rw [if_pos hZ]
    simp only [K.thetaB]
    rw [show (320 * X + 64 * Y + Z) / 320 = X by omega, show (320 * X + 64 * Y + Z) % 64 = Z by omega, hP, hQ]
    rfl
  · by_cases h1 : i < 320 * X + 64 * Y + Z
    · rw [if_neg h, if_pos h1, if_pos (by omega)]
    · rw [if_neg h, if_neg h1, if_neg (by omega)]

section
attribute [local go_sem] cell?_At frozen?_At heap_At
theorem theta_any (b T : Nat) (G : Nat → Bool) (w : World) (hr : Row w b T (brow 1600 G)) :
    Calls Sahg.prog 15 #[.pointer (some ⟨b, 0, none⟩)] w fun e w' => e = .returned (.tuple #[]) ∧ Row w' b T (brow 1600 (K.thetaB G)) ∧ Fr (blk b) w w' := by
  have hbs := hr.lt
  go_enter Sahg.func15, Sahg.ntmps15
  go_wp2_with (refine wpList_alloc_row rfl 47 rfl _ (zero47 _) ?_)
  go_loopw [16] (fun i w' => ∃ X : Nat, X ≤ 5 ∧ i = .int .i64 X ∧ Row w' w.heap.size 47 (brow 320 (cg G X 0 0)) ∧ Fr nob w w') (fun i _ => 5 - (intOf i).toNat)
  case atStart => exact ⟨0, by omega, rfl, brow_congr (Row.new w 47 _) (fun i _ => (cg_start G i).symm), (Fr.refl _ _).alloc _ _⟩
  case round =>
    obtain ⟨X, hX, rfl, hrX, hfX⟩ := hrel
    by_cases hltX : X < 5
    · go_wp2
      go_loopw [19] (fun i w' => ∃ Y : Nat, Y ≤ 5 ∧ i = .int .i64 Y ∧ Row w' w.heap.size 47 (brow 320 (cg G X Y 0)) ∧ Fr nob w w') (fun i _ => 5 - (intOf i).toNat)
      case atStart => exact ⟨0, by omega, rfl, hrX, hfX⟩
      case round =>
        obtain ⟨Y, hY, rfl, hrY, hfY⟩ := hrel
        by_cases hltY : Y < 5
        · go_wp2
          go_loopw [28] (fun i w' => ∃ Z : Nat, Z ≤ 64 ∧ i = .int .i64 Z ∧ Row w' w.heap.size 47 (brow 320 (cg G X Y Z)) ∧ Fr nob w w') (fun i _ => 64 - (intOf i).toNat)
          case atStart => exact ⟨0, by omega, rfl, hrY, hfY⟩
          case round =>
            obtain ⟨Z, hZ, rfl, hrZ, hfZ⟩ := hrel
            by_cases hltZ : Z < 64
            · have ha : wr.cell? ⟨b, X * 320 + Y * 64 + Z, none⟩ = some (.bool (G (X * 320 + Y * 64 + Z))) := brow_cell (hfZ.row hr (fun h => h)) (by omega)
              have hc : wr.cell? ⟨w.heap.size, X * 64 + Z, none⟩ = some (.bool (K.par G X Y Z)) := by rw [brow_cell hrZ (by omega), cg_at G X Y Z hltZ]
              have hfz := hrZ.frozen (X * 64 + Z)
              go_wp2
              go_quiet (fail)
              go_wp2
              refine region_tail 11 (by kernel_rfl) (by kernel_rfl) ?_
              simp only [List.take_succ_cons, List.take_zero, List.drop_succ_cons, List.drop_zero]
              repeat (go_big_quiet_step (fail))
              refine wpQuiet_nil ?_
              go_wp2
              refine ⟨⟨Z + 1, by omega, by go_num, ?_, ?_⟩, by simp [intOf]; omega⟩
              · refine brow_set (hrZ.drewN _) _ _ (fun i _ => ?_)
                rw [← cg_step G X Y Z i hltZ, Nat.mul_comm X 320, Nat.mul_comm Y 64]
              · exact Fr.setNew (hfZ.drewN _) (Nat.le_refl _) _
            · obtain rfl : Z = 64 := by omega
              go_wp2
              refine ⟨⟨Y + 1, by omega, by go_num, brow_congr hrZ (fun i _ => cg_lane G X Y i), hfZ⟩, by simp [intOf]; omega⟩
        · obtain rfl : Y = 5 := by omega
          go_wp2
          refine ⟨⟨X + 1, by omega, by go_num, brow_congr hrY (fun i _ => cg_col G X i), hfY⟩, by simp [intOf]; omega⟩
    · obtain rfl : X = 5 := by omega
      have hC : Row wr w.heap.size 47 (brow 320 fun i => K.par G (i / 64) 5 (i % 64)) := brow_congr hrX (fun i hi => by unfold cg; rw [if_pos (by omega)])
      have hA := hfX.row hr (fun h => h)
      have hF : Fr (blk b) w wr := hfX.any
      clear hrX hfX hX hltX
      go_wp2
      go_loopw [48] (fun i w' => ∃ X : Nat, X ≤ 5 ∧ i = .int .i64 X ∧ Row w' w.heap.size 47 (brow 320 fun i => K.par G (i / 64) 5 (i % 64)) ∧ Row w' b T (brow 1600 (tg G (320 * X))) ∧ Fr (blk b) w w') (fun i _ => 5 - (intOf i).toNat)
      case atStart => exact ⟨0, by omega, rfl, hC, brow_congr hA (fun i _ => by unfold tg; rw [if_neg (by omega)]), hF⟩
      case round =>
        clear hC hA hF
        obtain ⟨X, hX, rfl, hC, hA, hF⟩ := hrel
        by_cases hltX : X < 5
        · obtain ⟨P, hP⟩ : ∃ P, P = (X + 4) % 5 := ⟨_, rfl⟩
          obtain ⟨Q, hQ⟩ : ∃ Q, Q = (X + 1) % 5 := ⟨_, rfl⟩
          have eP : ((X : Int) + 4) % 5 = (P : Int) := by omega
          have eQ : ((X : Int) + 1) % 5 = (Q : Int) := by omega
          have hP5 : P < 5 := by omega
          have hQ5 : Q < 5 := by omega
          have HP : Hid (P = (X + 4) % 5) := hP
          have HQ : Hid (Q = (X + 1) % 5) := hQ
          clear hP hQ
          obtain ⟨w1, hw1⟩ : ∃ x, x = wr := ⟨_, rfl⟩
          subst hw1
          go_wp2_with (refine wpList_alloc_row rfl 46 rfl _ (zero46 _) ?_)
          have hbd : w.heap.size < w1.heap.size := hC.lt
          have hC1 := hC.alloc (.cells (brow 64 fun _ => false) 46)
          have hA1 := hA.alloc (.cells (brow 64 fun _ => false) 46)
          go_loopw [59] (fun i w' => ∃ Z : Nat, Z ≤ 64 ∧ i = .int .i64 Z ∧ Row w' w1.heap.size 46 (brow 64 (dg G P Q Z)) ∧ Row w' w.heap.size 47 (brow 320 fun i => K.par G (i / 64) 5 (i % 64)) ∧ Row w' b T (brow 1600 (tg G (320 * X))) ∧ Fr (blk b) w w') (fun i _ => 64 - (intOf i).toNat)
          case atStart => exact ⟨0, by omega, rfl, brow_congr (Row.new w1 46 _) (fun i _ => by unfold dg; rw [if_neg (by omega)]), hC1, hA1, hF.alloc _ _⟩
          case round =>
            clear hC hA hF hC1 hA1
            obtain ⟨Z, hZ, rfl, hD, hC, hA, hF⟩ := hrel
            by_cases hltZ : Z < 64
            · obtain ⟨R, hR⟩ : ∃ R, R = (Z + 63) % 64 := ⟨_, rfl⟩
              have eR : ((Z : Int) + 63) % 64 = (R : Int) := by omega
              have hR64 : R < 64 := by omega
              have HR : Hid (R = (Z + 63) % 64) := hR
              clear hR
              have cl : wr.cell? ⟨w.heap.size, P * 64 + Z, none⟩ = some (.bool (K.par G P 5 Z)) := by
                rw [brow_cell hC (by omega), show (P * 64 + Z) / 64 = P by omega, show (P * 64 + Z) % 64 = Z by omega]
              have cr : wr.cell? ⟨w.heap.size, Q * 64 + R, none⟩ = some (.bool (K.par G Q 5 R)) := by
                rw [brow_cell hC (by omega), show (Q * 64 + R) / 64 = Q by omega, show (Q * 64 + R) % 64 = R by omega]
              have cd : wr.cell? ⟨w1.heap.size, Z, none⟩ = some (.bool false) := by
                rw [brow_cell hD (by omega)]; unfold dg; rw [if_neg (by omega)]
              have hfz := hD.frozen Z
              go_wp2
              refine region_tail 15 (by kernel_rfl) (by kernel_rfl) ?_
              simp only [List.take_succ_cons, List.take_zero, List.drop_succ_cons, List.drop_zero]
              repeat (go_big_quiet_step (fail))
              refine wpQuiet_nil ?_
              go_wp2
              refine ⟨⟨Z + 1, by omega, by go_num, ?_, ?_, ?_, ?_⟩, by simp [intOf]; omega⟩
              · refine Row.drew (brow_set hD _ _ (fun i _ => ?_))
                rw [← dg_step G P Q Z i, HR.out]
              · exact Row.drew (hC.other (show w.heap.size ≠ w1.heap.size by omega) _)
              · exact Row.drew (hA.other (show b ≠ w1.heap.size by omega) _)
              · exact Fr.drew (Fr.setNew hF (by omega) _)
            · obtain rfl : Z = 64 := by omega
              go_wp2
              go_loopw [78] (fun i w' => ∃ Y : Nat, Y ≤ 5 ∧ i = .int .i64 Y ∧ Row w' w1.heap.size 46 (brow 64 (dg G P Q 64)) ∧ Row w' w.heap.size 47 (brow 320 fun i => K.par G (i / 64) 5 (i % 64)) ∧ Row w' b T (brow 1600 (tg G (320 * X + 64 * Y))) ∧ Fr (blk b) w w') (fun i _ => 5 - (intOf i).toNat)
              case atStart => exact ⟨0, by omega, rfl, hD, hC, hA, hF⟩
              case round =>
                clear hC hA hF hD
                obtain ⟨Y, hY, rfl, hD, hC, hA, hF⟩ := hrel
                by_cases hltY : Y < 5
                · go_wp2
                  go_loopw [87] (fun i w' => ∃ Z : Nat, Z ≤ 64 ∧ i = .int .i64 Z ∧ Row w' w1.heap.size 46 (brow 64 (dg G P Q 64)) ∧ Row w' w.heap.size 47 (brow 320 fun i => K.par G (i / 64) 5 (i % 64)) ∧ Row w' b T (brow 1600 (tg G (320 * X + 64 * Y + Z))) ∧ Fr (blk b) w w') (fun i _ => 64 - (intOf i).toNat)
                  case atStart => exact ⟨0, by omega, rfl, hD, hC, hA, hF⟩
                  case round =>
                    clear hC hA hF hD
                    obtain ⟨Z, hZ2, rfl, hD, hC, hA, hF⟩ := hrel
                    by_cases hltZ2 : Z < 64
                    · have cd : wr.cell? ⟨w1.heap.size, Z, none⟩ = some (.bool (dg G P Q 64 Z)) := brow_cell hD (by omega)
                      have ca : wr.cell? ⟨b, X * 320 + Y * 64 + Z, none⟩ = some (.bool (G (320 * X + 64 * Y + Z))) := by
                        rw [show X * 320 + Y * 64 + Z = 320 * X + 64 * Y + Z by omega, brow_cell hA (by omega)]; unfold tg; rw [if_neg (by omega)]
                      have hfz := hA.frozen (X * 320 + Y * 64 + Z)
                      go_wp2
                      go_quiet (fail)
                      go_wp2
                      refine region_tail 11 (by kernel_rfl) (by kernel_rfl) ?_
                      simp only [List.take_succ_cons, List.take_zero, List.drop_succ_cons, List.drop_zero]
                      repeat (go_big_quiet_step (fail))
                      refine wpQuiet_nil ?_
                      go_wp2
                      refine ⟨⟨Z + 1, by omega, by go_num, ?_, ?_, ?_, ?_⟩, by simp [intOf]; omega⟩
                      · exact (hD.drewN _).other (show w1.heap.size ≠ b by omega) _
                      · exact (hC.drewN _).other (show w.heap.size ≠ b by omega) _
                      · refine brow_set (hA.drewN _) _ _ (fun i _ => ?_)
                        rw [show X * 320 + Y * 64 + Z = 320 * X + 64 * Y + Z by omega, show 320 * X + 64 * Y + (Z + 1) = 320 * X + 64 * Y + Z + 1 by omega]
                        exact tg_step G X Y Z P Q i (by omega) hltZ2 HP.out HQ.out
                      · exact Fr.set1 (hF.drewN _) _
                    · obtain rfl : Z = 64 := by omega
                      go_wp2
                      exact ⟨⟨Y + 1, by omega, by go_num, hD, hC, hA, hF⟩, by simp [intOf]; omega⟩
                · obtain rfl : Y = 5 := by omega
                  go_wp2
                  go_roundw
                  case rel => (repeat apply Exists.intro); exact ⟨⟨X + 1, by omega, by go_num, hC, hA, hF⟩, rfl⟩
                  case measure => simp [intOf]; omega
        · obtain rfl : X = 5 := by omega
          go_wp2
          go_end0
          exact ⟨rfl, brow_congr hA (fun i hi => by unfold tg; rw [if_pos (by omega)]), hF⟩
end
end Go.Proofs.Ygcsah
