/-
  kmodel.chi.
-/
import Derived.Test.YgcsahRho
namespace Go.Proofs.Ygcsah
open Go.RowKit Go.BigFrame
set_option maxHeartbeats 4000000
set_option maxRecDepth 100000

def bitv (b : Bool) : Int := if b then 1 else 0
theorem bitv_any (b : Bool) (w : World) : Calls Sahg.prog 23 #[.bool b] w fun e w' => e = .returned (.int .u8 (bitv b)) ∧ w' = w := bit_any b w
theorem bitv_gt (l n : Bool) : decide (bitv n < bitv l) = (l && !n) := by cases l <;> cases n <;> decide
theorem chi_step (G : Nat → Bool) (X Y Z P Q i : Nat) (hY : Y < 5) (hZ : Z < 64) (hP : P = (X + 1) % 5) (hQ : Q = (X + 2) % 5) :
    (if i = X * 320 + Y * 64 + Z then (!(G (X * 320 + Y * 64 + Z) == decide (bitv (G (P * 320 + Y * 64 + Z)) < bitv (G (Q * 320 + Y * 64 + Z))))) else pg (K.chiB G) (320 * X + 64 * Y + Z) i) = pg (K.chiB G) (320 * X + 64 * Y + Z + 1) i := by
  unfold pg
  by_cases h : i = X * 320 + Y * 64 + Z
  · rw [if_pos h, if_pos (by omega), bitv_gt]
    simp only [K.chiB]
    rw [show i / 320 = X by omega, show i / 64 % 5 = Y by omega, show i % 64 = Z by omega, ← hP, ← hQ, h, Nat.mul_comm 320 P, Nat.mul_comm 320 Q, Nat.mul_comm 64 Y]
    rfl
  · by_cases h1 : i < 320 * X + 64 * Y + Z
    · rw [if_neg h, if_pos h1, if_pos (by omega)]
    · rw [if_neg h, if_neg h1, if_neg (by omega)]

section
attribute [local go_sem] cell?_At frozen?_At heap_At
theorem chi_any (b T : Nat) (G : Nat → Bool) (w : World) (hr : Row w b T (brow 1600 G)) :
    Calls Sahg.prog 18 #[.pointer (some ⟨b, 0, none⟩)] w fun e w' => e = .returned (.agg (brow 1600 (K.chiB G))) ∧ Fr nob w w' := by
  have hbs := hr.lt
  go_enter Sahg.func18, Sahg.ntmps18
  go_wp2_with (refine wpList_alloc_row rfl 49 rfl _ (zero49 _) ?_)
  go_loopw [10] (fun i w' => ∃ X : Nat, X ≤ 5 ∧ i = .int .i64 X ∧ Row w' w.heap.size 49 (brow 1600 (pg (K.chiB G) (320 * X))) ∧ Fr nob w w') (fun i _ => 5 - (intOf i).toNat)
  case atStart => exact ⟨0, by omega, rfl, brow_congr (Row.new w 49 _) (fun i _ => by unfold pg; rw [if_neg (by omega)]), (Fr.refl _ _).alloc _ _⟩
  case round =>
    obtain ⟨X, hX, rfl, hB, hF⟩ := hrel
    by_cases hltX : X < 5
    · have hX5 : decide ((X : Int) < 5) = true := decide_eq_true (by omega)
      obtain ⟨P, hP⟩ : ∃ P, P = (X + 1) % 5 := ⟨_, rfl⟩
      obtain ⟨Q, hQ⟩ : ∃ Q, Q = (X + 2) % 5 := ⟨_, rfl⟩
      have eP : ((X : Int) + 1) % 5 = (P : Int) := by omega
      have eQ : ((X : Int) + 2) % 5 = (Q : Int) := by omega
      have hP5 : P < 5 := by omega
      have hQ5 : Q < 5 := by omega
      have HP : Hid (P = (X + 1) % 5) := hP
      have HQ : Hid (Q = (X + 2) % 5) := hQ
      clear hP hQ
      go_wp2
      go_loopw [13] (fun i w' => ∃ Y : Nat, Y ≤ 5 ∧ i = .int .i64 Y ∧ Row w' w.heap.size 49 (brow 1600 (pg (K.chiB G) (320 * X + 64 * Y))) ∧ Fr nob w w') (fun i _ => 5 - (intOf i).toNat)
      case atStart => exact ⟨0, by omega, rfl, hB, hF⟩
      case round =>
        clear hB hF
        obtain ⟨Y, hY, rfl, hB, hF⟩ := hrel
        by_cases hltY : Y < 5
        · have hY5 : decide ((Y : Int) < 5) = true := decide_eq_true (by omega)
          go_wp2
          go_loopw [42] (fun i w' => ∃ Z : Nat, Z ≤ 64 ∧ i = .int .i64 Z ∧ Row w' w.heap.size 49 (brow 1600 (pg (K.chiB G) (320 * X + 64 * Y + Z))) ∧ Fr nob w w') (fun i _ => 64 - (intOf i).toNat)
          case atStart => exact ⟨0, by omega, rfl, hB, hF⟩
          case round =>
            clear hB hF
            obtain ⟨Z, hZ, rfl, hB, hF⟩ := hrel
            by_cases hltZ : Z < 64
            · have hA := hF.row hr (fun h => h)
              have c1 : wr.cell? ⟨b, X * 320 + Y * 64 + Z, none⟩ = some (.bool (G (X * 320 + Y * 64 + Z))) := brow_cell hA (by omega)
              have c2 : wr.cell? ⟨b, P * 320 + Y * 64 + Z, none⟩ = some (.bool (G (P * 320 + Y * 64 + Z))) := brow_cell hA (by omega)
              have c3 : wr.cell? ⟨b, Q * 320 + Y * 64 + Z, none⟩ = some (.bool (G (Q * 320 + Y * 64 + Z))) := brow_cell hA (by omega)
              have c4 : wr.cell? ⟨w.heap.size, X * 320 + Y * 64 + Z, none⟩ = some (.bool false) := by
                rw [brow_cell hB (by omega)]; unfold pg; rw [if_neg (by omega)]
              have hfz := hB.frozen (X * 320 + Y * 64 + Z)
              go_wp2
              refine region_tail 23 (by kernel_rfl) (by kernel_rfl) ?_
              simp only [List.take_succ_cons, List.take_zero, List.drop_succ_cons, List.drop_zero]
              repeat (go_big_quiet_step ((go_at_call 23; exact Calls.at_of_same (bitv_any _ _))))
              refine wpQuiet_nil ?_
              go_wp2
              refine ⟨⟨Z + 1, by omega, by go_num, ?_, ?_⟩, by simp [intOf]; omega⟩
              · exact Row.drew (brow_set hB _ _ (fun i _ => chi_step G X Y Z P Q i hltY hltZ HP.out HQ.out))
              · exact Fr.drew (Fr.setNew hF (Nat.le_refl _) _)
            · obtain rfl : Z = 64 := by omega
              go_wp2
              go_roundw
              case rel => first | exact ⟨Y + 1, by omega, by go_num, hB, hF⟩ | ((repeat apply Exists.intro); exact ⟨⟨Y + 1, by omega, by go_num, hB, hF⟩, rfl⟩)
              case measure => simp [intOf]; omega
        · obtain rfl : Y = 5 := by omega
          go_wp2
          go_roundw
          case rel => first | exact ⟨X + 1, by omega, by go_num, hB, hF⟩ | ((repeat apply Exists.intro); exact ⟨⟨X + 1, by omega, by go_num, hB, hF⟩, rfl⟩)
          case measure => simp [intOf]; omega
    · obtain rfl : X = 5 := by omega
      go_wp2_with (first | (refine wpList_load_row rfl 49 _ rfl w.heap.size rfl 49 _ (0, 0) _ hB Sahg.underlying49 rfl (by rw [brow_size]; exact size49) ?_) | (refine wpList_store_row rfl 49 _ _ rfl w.heap.size _ rfl rfl 49 _ hB (by rw [brow_size]; exact size49) rfl (brow_one _ _) ?_))
      refine bodyPost_ret (v := .agg (brow 1600 (pg (K.chiB G) (320 * 5)))) (ret_row49 Sahg.results18 _ w.heap.size 49 _ rfl (hB.setRow _)) rfl ⟨?_, hF.setRow (.inl (Nat.le_refl _)) _⟩
      rw [brow_eq (fun i hi => by unfold pg; rw [if_pos (by omega)])]
end
end Go.Proofs.Ygcsah
