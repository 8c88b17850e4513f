/-
  keccak.F: the permutation on lanes.
-/
import Derived.Test.YgcsahRound
import Derived.Test.YgcsahTail
namespace Go.Proofs.Ygcsah
open Go.RowKit Go.BigFrame
set_option maxHeartbeats 1000000

theorem round_any (b T : Nat) (A : Nat → BitVec 64) (w : World) (hr : Row w b T (lanes A)) :
    Calls Sahg.prog 20 #[.pointer (some ⟨b, 0, none⟩)] w fun e w' => e = .returned (.tuple #[]) ∧ Row w' b T (lanes (K.roundL A)) ∧ Fr (blk b) w w' := by
  refine (round_walk b T A w hr).mono ?_
  rintro e w' ⟨rfl, n, rfl⟩
  refine ⟨rfl, ?_, ?_⟩
  · unfold lanes
    rw [row25_lit]
    simp only [roundL_0, roundL_1, roundL_2, roundL_3, roundL_4, roundL_5, roundL_6, roundL_7, roundL_8, roundL_9, roundL_10, roundL_11, roundL_12, roundL_13, roundL_14, roundL_15, roundL_16, roundL_17, roundL_18, roundL_19, roundL_20, roundL_21, roundL_22, roundL_23, roundL_24]
    exact Row.set25 (hr.drewN n) _ _ _ _ _ _ _ _ _ _ _ _ _ _ _ _ _ _ _ _ _ _ _ _ _
  · iterate 25 refine Fr.set1 ?_ _
    exact (Fr.refl _ _).drewN _

section
attribute [local go_sem] bits_xor_u cell?_At frozen?_At heap_At
theorem f_any (b T : Nat) (A : Nat → BitVec 64) (w : World) (hr : Row w b T (lanes A)) :
    Calls Sahg.prog 13 #[.pointer (some ⟨b, 0, none⟩)] w fun e w' => e = .returned (.tuple #[]) ∧ Row w' b T (lanes (K.permL A 24)) ∧ Fr (blk b) w w' := by
  go_enter Sahg.func13, Sahg.ntmps13
  go_wp2
  go_loopw [2] (fun i w' => ∃ k : Nat, k ≤ 24 ∧ i = .int .u8 k ∧ Row w' b T (lanes (K.permL A k)) ∧ Fr (blk b) w w') (fun i _ => (24 - intOf i).toNat)
  case atStart => exact ⟨0, by omega, rfl, hr, Fr.refl _ _⟩
  case round =>
    obtain ⟨k, hk, rfl, hrk, hfr⟩ := hrel
    by_cases hlt : k < 24
    · go_wp2_with (go_at_call 20; refine (round_any b T _ _ hrk).mono ?_; rintro e w2 ⟨rfl, hr2, hf2⟩)
      have hc0 : w2.cell? ⟨b, 0, none⟩ = some (.int .u64 (u (K.roundL (K.permL A k) 0))) := hr2.cellF (by omega)
      have hfz := hr2.frozen 0
      refine region_tail 9 (by kernel_rfl) (by kernel_rfl) ?_
      simp only [List.take_succ_cons, List.take_zero, List.drop_succ_cons, List.drop_zero]
      repeat (go_big_quiet_step ((go_at_call 21; exact Calls.at_of_same (rc_any k _ hlt))))
      refine wpQuiet_nil ?_
      go_wp2
      refine ⟨⟨k + 1, by omega, by go_num, ?_, ?_⟩, by simp [intOf]; omega⟩
      · refine Row.drew (hr2.setF 0 _ ?_)
        intro i hi
        by_cases h0 : i = 0
        · subst h0; rfl
        · simp only [upd, if_neg h0, K.permL, K.iotaL]
      · exact Fr.drew (Fr.set1 (hfr.trans hf2 (fun _ _ h => h)) _)
    · obtain rfl : k = 24 := by omega
      go_wp2
      go_end0
      exact ⟨rfl, hrk, hfr⟩
end
end Go.Proofs.Ygcsah
