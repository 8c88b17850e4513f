/-
  keccak.absorb: one block of 136 bytes laid on the lanes, and the permutation.
-/
import Derived.Test.YgcsahF
namespace Go.Proofs.Ygcsah
open Go.RowKit Go.BigFrame
set_option maxHeartbeats 1000000

theorem be64_int (b o n cap : Nat) (off : Int) (m : Nat) (e : off = (m : Int)) (B : Nat → BitVec 8) (w : World) (hn : n ≤ cap) (h1 : m + 8 ≤ n) (h2 : n ≤ 1000000)
    (hc : ∀ j, j < 8 → w.cell? ⟨b, o + m + j, none⟩ = some (.int .u8 (byt (B j)))) :
    Calls Sahg.prog 12 #[.slice (some ⟨b, o, none⟩) n cap, .int .i64 off] w fun e w' => e = .returned (.tuple #[.int .u64 (u (be B)), .bool true]) ∧ Fr nob w w' := by
  subst e; exact be64_any b o n cap m B w hn h1 h2 hc

/-- A block of bytes laid on the first 17 lanes. -/
def absL (A : Nat → BitVec 64) (B : Nat → BitVec 8) (n l : Nat) : BitVec 64 := if l < n then A l ^^^ turned (be fun j => B (8 * l + j)) else A l

section
attribute [local go_sem] bits_xor_u cell?_At frozen?_At heap_At
theorem absorb_any (b T : Nat) (A : Nat → BitVec 64) (bb o : Nat) (B : Nat → BitVec 8) (w : World) (hr : Row w b T (lanes A)) (hne : bb ≠ b)
    (hB : ∀ j, j < 136 → w.cell? ⟨bb, o + j, none⟩ = some (.int .u8 (byt (B j)))) :
    Calls Sahg.prog 8 #[.pointer (some ⟨b, 0, none⟩), .pointer (some ⟨bb, o, none⟩)] w fun e w' => e = .returned (.tuple #[]) ∧ Row w' b T (lanes (K.permL (absL A B 17) 24)) ∧ Fr (blk b) w w' := by
  go_enter Sahg.func8, Sahg.ntmps8
  go_wp2
  go_loopw [4] (fun i w' => ∃ k : Nat, k ≤ 17 ∧ i = .int .i64 k ∧ Row w' b T (lanes (absL A B k)) ∧ Fr (blk b) w w') (fun i _ => 17 - (intOf i).toNat)
  case atStart => exact ⟨0, by omega, rfl, hr.congr (fun i hi => rfl), Fr.refl _ _⟩
  case round =>
    obtain ⟨k, hk, rfl, hrk, hfr⟩ := hrel
    by_cases hlt : k < 17
    · have hB2 : ∀ j, j < 8 → wr.cell? ⟨bb, o + 8 * k + j, none⟩ = some (.int .u8 (byt (B (8 * k + j)))) := fun j hj => by
        rw [Nat.add_assoc]; exact hfr.cell (hB (8 * k + j) (by omega)) hne
      go_wp2_with (go_at_call 12; refine (be64_int bb o 136 136 _ (8 * k) (by omega) (fun j => B (8 * k + j)) _ (by omega) (by omega) (by omega) hB2).mono ?_; rintro e w2 ⟨rfl, hf2⟩)
      have hr2 := hf2.row hrk (fun h => h)
      have hc0 : w2.cell? ⟨b, k, none⟩ = some (.int .u64 (u (A k))) := by
        have := hr2.cellF (show k < 25 by omega); simp only [absL, Nat.lt_irrefl, if_false] at this; exact this
      have hfz := hr2.frozen k
      refine region_tail 10 (by kernel_rfl) (by kernel_rfl) ?_
      simp only [List.take_succ_cons, List.take_zero, List.drop_succ_cons, List.drop_zero]
      repeat (go_big_quiet_step ((go_at_call 10; exact Calls.at_of_same (turned_any _ _))))
      refine wpQuiet_nil ?_
      go_wp2
      refine ⟨⟨k + 1, by omega, by go_num, ?_, ?_⟩, by simp [intOf]; omega⟩
      · refine Row.drew (hr2.setF k _ ?_)
        intro i hi
        simp only [upd, absL]
        by_cases h0 : i = k
        · subst h0; rw [if_pos rfl, if_pos (by omega)]
        · by_cases h1 : i < k
          · rw [if_neg h0, if_pos h1, if_pos (by omega)]
          · rw [if_neg h0, if_neg h1, if_neg (by omega)]
      · exact Fr.drew (Fr.set1 (hfr.trans hf2.any (fun _ _ h => h)) _)
    · obtain rfl : k = 17 := by omega
      go_wp2_with (go_at_call 13; refine (f_any b T _ _ hrk).mono ?_; rintro e w2 ⟨rfl, hr2, hf2⟩)
      go_end0
      exact ⟨rfl, hr2, hfr.trans hf2 (fun _ _ h => h)⟩
end
end Go.Proofs.Ygcsah
