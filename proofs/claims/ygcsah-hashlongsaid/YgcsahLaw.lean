/-
  law.HashLong: the walk.
-/
import Derived.Test.YgcsahHolds
import Derived.Test.YgcsahMSum
namespace Go.Proofs.Ygcsah
open Go.RowKit Go.BigFrame
set_option maxHeartbeats 4000000
set_option maxRecDepth 100000

theorem byt_ofInt (x : Int) : byt (BitVec.ofInt 8 x) = x % 256 := by
  unfold byt
  rw [BitVec.toNat_ofInt]
  omega
theorem hash_walk (a0 : Int) (a1 : Int) (w0 : (Lit.int .u16 a0).wf = true) (w : World) :
    Calls Sahg.prog 3 #[.int .u16 a0, .int .u8 a1] w fun e w' => e = .returned (.bool true) ∧ Grown w w' := by
  have hb0 : 0 ≤ a0 ∧ a0 ≤ 65535 := by simpa [Lit.wf, IntKind.min, IntKind.max, IntKind.bits, IntKind.signed] using w0
  obtain ⟨h0, h1⟩ := hb0
  obtain ⟨L, hL⟩ : ∃ L : Nat, a0 % 600 = (L : Int) := ⟨(a0 % 600).toNat, by omega⟩
  have hL600 : L < 600 := by omega
  go_enter Sahg.func3, Sahg.ntmps3
  go_wp2_with (refine wpList_make rfl 23 5 _ _ rfl .u16 .u16 L L (by exact congrArg (Value.int .u16) hL) (by exact congrArg (Value.int .u16) hL) Sahg.underlying23 (.int .u8 0) info5 rfl (Nat.le_refl _) (by omega) ?_; simp only [Act.put, List.setIfInBounds_toArray, List.set_cons_succ, List.set_cons_zero])
  have hR0 : Row (w.alloc (.cells (rowF L fun _ => .int .u8 0) 5)) w.heap.size 5 (byrow L fun _ => 0) := Row.new w 5 _
  have hF0 := (Fr.refl nob w).alloc (rowF L fun _ => .int .u8 0) 5
  go_loopw [12] (fun i w' => ∃ I : Nat, I ≤ L ∧ i = .int .i64 I ∧ Row w' w.heap.size 5 (byrow L fun j => if j < I then BitVec.ofInt 8 (a1 + (j : Int)) else 0) ∧ Fr nob w w') (fun i _ => L - (intOf i).toNat)
  case atStart => exact ⟨0, by omega, rfl, byrow_congr hR0 (fun i _ => by rw [if_neg (by omega)]), hF0⟩
  case round =>
    clear hR0 hF0
    obtain ⟨I, hI, rfl, hR, hF⟩ := hrel
    by_cases hlt : I < L
    · have hIL : decide ((I : Int) < (L : Int)) = true := decide_eq_true (by omega)
      have cd : ∃ v, wr.cell? ⟨w.heap.size, I, none⟩ = some (.int .u8 (byt v)) := ⟨_, byrow_cell hR hlt⟩
      obtain ⟨v, cd⟩ := cd
      have hfz := hR.frozen I
      go_wp2
      refine ⟨⟨I + 1, by omega, by go_num, ?_, Fr.setNew hF (Nat.le_refl _) _⟩, by simp [intOf]; omega⟩
      rw [← byt_ofInt]
      refine byrow_set hR I _ (fun i _ => ?_)
      by_cases h : i = I
      · subst h; rw [if_pos rfl, if_pos (by omega)]
      · by_cases h2 : i < I
        · rw [if_neg h, if_pos h2, if_pos (by omega)]
        · rw [if_neg h, if_neg h2, if_neg (by omega)]
    · obtain rfl : I = L := by omega
      have hd : Row wr w.heap.size 5 (byrow I fun j => BitVec.ofInt 8 (a1 + (j : Int))) := byrow_congr hR (fun i hi => by rw [if_pos hi])
      go_wp2_with fail
      refine (ksum_any _ _ _ _ hL600 hd).mono ?_
      rintro e w2 ⟨rfl, hF2⟩
      have hd2 := hF2.row hd (fun h => h)
      go_wp2_with fail
      refine (msum_any _ _ _ _ hL600 hd2).mono ?_
      rintro e w3 ⟨rfl, hF3⟩
      have hd3 := hF3.row hd2 (fun h => h)
      go_wp2_with fail
      refine (holds_any _ _ _ _ hL600 hd3).mono ?_
      rintro e w4 ⟨rfl, hF4⟩
      have hF5 := ((hF.trans hF2 (fun _ _ h => h)).trans hF3 (fun _ _ h => h)).trans hF4 (fun _ _ h => h)
      go_wp2
      go_ret
      exact ⟨rfl, hF5.grown⟩
end Go.Proofs.Ygcsah
