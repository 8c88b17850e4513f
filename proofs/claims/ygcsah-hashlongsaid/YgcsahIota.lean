/-
  kmodel.iota0.
-/
import Derived.Test.YgcsahConst
namespace Go.Proofs.Ygcsah
open Go.RowKit Go.BigFrame
set_option maxHeartbeats 4000000
set_option maxRecDepth 100000

theorem bit_of (c : BitVec 64) (Z : Nat) : (bits .and .u64 (u c / 2 ^ Z) 1 == 1) = c.getLsbD Z := by
  have h1 : bits .and .u64 (u c / 2 ^ Z) 1 = u ((c >>> Z) &&& 1#64) := by rw [shr_u]; exact bits_and_u _ 1#64
  rw [h1]
  unfold u
  rw [BitVec.toNat_and, BitVec.toNat_ushiftRight, show (1#64).toNat = 1 from rfl, nat_mask1, Nat.shiftRight_eq_div_pow]
  rw [BitVec.getLsbD, Nat.testBit_eq_decide_div_mod_eq]
  rw [Bool.eq_iff_iff]
  simp only [beq_iff_eq, decide_eq_true_eq]
  omega

def ig (k : Nat) (G : Nat → Bool) (N j : Nat) : Bool := if j < N then K.iotaB k G j else G j
theorem ig_step (k : Nat) (G : Nat → Bool) (Z i : Nat) (hZ : Z < 64) : (if i = Z then (!(G Z == (K.rc k).getLsbD Z)) else ig k G Z i) = ig k G (Z + 1) i := by
  unfold ig
  by_cases h : i = Z
  · subst h; rw [if_pos rfl, if_pos (by omega)]; simp only [K.iotaB]; rw [if_pos hZ]; rfl
  · by_cases h1 : i < Z
    · rw [if_neg h, if_pos h1, if_pos (by omega)]
    · rw [if_neg h, if_neg h1, if_neg (by omega)]

section
attribute [local go_sem] cell?_At frozen?_At heap_At
theorem iota_any (b T : Nat) (G : Nat → Bool) (k : Nat) (hk : k < 24) (w : World) (hr : Row w b T (brow 1600 G)) :
    Calls Sahg.prog 19 #[.pointer (some ⟨b, 0, none⟩), .int .u8 k] w fun e w' => e = .returned (.tuple #[]) ∧ Row w' b T (brow 1600 (K.iotaB k G)) ∧ Fr (blk b) w w' := by
  go_enter Sahg.func19, Sahg.ntmps19
  go_wp2_with (go_at_call 24; refine (const_any k hk _).mono ?_; rintro e w1 ⟨rfl, hF1⟩)
  have hA1 := hF1.row hr (fun h => h)
  go_loopw [8] (fun i w' => ∃ Z : Nat, Z ≤ 64 ∧ i = .int .i64 Z ∧ Row w' b T (brow 1600 (ig k G Z)) ∧ Fr (blk b) w w') (fun i _ => 64 - (intOf i).toNat)
  case atStart => exact ⟨0, by omega, rfl, brow_congr hA1 (fun i _ => by unfold ig; rw [if_neg (by omega)]), hF1.any⟩
  case round =>
    clear hF1 hA1
    obtain ⟨Z, hZ, rfl, hA, hF⟩ := hrel
    by_cases hltZ : Z < 64
    · have c1 : wr.cell? ⟨b, Z, none⟩ = some (.bool (G Z)) := by rw [brow_cell hA (by omega)]; unfold ig; rw [if_neg (by omega)]
      have hfz := hA.frozen Z
      have hmin : min Z 64 = Z := by omega
      have hbit := bit_of (K.rc k) Z
      generalize hg : (K.rc k).getLsbD Z = gb at *
      have Hg : Hid ((K.rc k).getLsbD Z = gb) := hg
      clear hg
      generalize hc : K.rc k = c at *
      have Hc : Hid (K.rc k = c) := hc
      clear hc
      go_wp2
      refine region_tail 19 (by kernel_rfl) (by kernel_rfl) ?_
      simp only [List.take_succ_cons, List.take_zero, List.drop_succ_cons, List.drop_zero]
      repeat (go_big_quiet_step (fail))
      refine wpQuiet_nil ?_
      go_wp2
      refine ⟨⟨Z + 1, by omega, by go_num, ?_, ?_⟩, by simp [intOf]; omega⟩
      · refine Row.drew (brow_set hA _ _ (fun i _ => ?_))
        rw [← ig_step k G Z i hltZ, Hc.out, Hg.out]
      · exact Fr.drew (Fr.set1 hF _)
    · obtain rfl : Z = 64 := by omega
      go_wp2
      go_end0
      refine ⟨rfl, brow_congr hA (fun i _ => ?_), hF⟩
      unfold ig
      by_cases h : i < 64
      · rw [if_pos h]
      · rw [if_neg h]; simp only [K.iotaB]; rw [if_neg h]
end
end Go.Proofs.Ygcsah
