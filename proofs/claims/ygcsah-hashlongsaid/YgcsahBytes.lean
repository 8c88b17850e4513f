/-
  BE64 and PutBE64: eight bytes out of, and into, a slice.
-/
import Derived.Test.YgcsahLeaf
namespace Go.Proofs.Ygcsah
open Go.RowKit
set_option maxHeartbeats 1000000

theorem arrayAt54 (a : Option Addr) (c : Nat) (w : World) : (Instr.arrayAt 54 (.slice a 8 c)).run Sahg.prog w = .ok (.pointer a) w := by
  simp [Instr.arrayAt, run_underlying Sahg.underlying54]
theorem wrap_u8_u (x : BitVec 8) : IntKind.u64.wrap (byt x) = u (x.setWidth 64) := by
  have := x.isLt
  unfold u byt
  rw [IntKind.wrap_u64, BitVec.toNat_setWidth, Nat.mod_eq_of_lt (by omega)]
  omega
theorem wrap_u_u8 (x : BitVec 64) : IntKind.u8.wrap (u x) = byt (x.setWidth 8) := by
  unfold u byt
  rw [IntKind.wrap_u8', BitVec.toNat_setWidth]
  omega
/-- The eight bytes as a word, the first the highest. -/
def be (B : Nat → BitVec 8) : BitVec 64 :=
  (B 7).setWidth 64 ||| (B 6).setWidth 64 <<< 8 ||| (B 5).setWidth 64 <<< 16 ||| (B 4).setWidth 64 <<< 24 ||| (B 3).setWidth 64 <<< 32 ||| (B 2).setWidth 64 <<< 40 ||| (B 1).setWidth 64 <<< 48 ||| (B 0).setWidth 64 <<< 56

section
attribute [local go_sem] arrayAt54 bits_or_u wrap_u8_u wrap_u_u8
attribute [local go_sem ↓] op_shl8 op_shl16 op_shl24 op_shl32 op_shl40 op_shl48 op_shl56 op_shr8 op_shr16 op_shr24 op_shr32 op_shr40 op_shr48 op_shr56
theorem be64_any (b o n cap off : Nat) (B : Nat → BitVec 8) (w : World) (hn : n ≤ cap) (h1 : off + 8 ≤ n) (h2 : n ≤ 1000000)
    (hc : ∀ j, j < 8 → w.cell? ⟨b, o + off + j, none⟩ = some (.int .u8 (byt (B j)))) :
    Calls Sahg.prog 12 #[.slice (some ⟨b, o, none⟩) n cap, .int .i64 off] w fun e w' => e = .returned (.tuple #[.int .u64 (u (be B)), .bool true]) ∧ Fr nob w w' := by
  have c0 := hc 0 (by omega)
  have c1 := hc 1 (by omega)
  have c2 := hc 2 (by omega)
  have c3 := hc 3 (by omega)
  have c4 := hc 4 (by omega)
  have c5 := hc 5 (by omega)
  have c6 := hc 6 (by omega)
  have c7 := hc 7 (by omega)
  rw [Nat.add_zero] at c0
  clear hc
  go_enter Sahg.func12, Sahg.ntmps12
  go_wp2_with (go_at_call 14; refine (inside_any _ _ _ (by omega) (by omega) (by omega) (by omega)).mono ?_; rintro e w' ⟨rfl, rfl⟩)
  go_ret2
  exact ⟨rfl, (Fr.refl _ _).alloc _ _⟩

/-- Byte j of a word, the highest first. -/
def byteOf (x : BitVec 64) : Nat → BitVec 8
  | 0 => (x >>> 56).setWidth 8
  | 1 => (x >>> 48).setWidth 8
  | 2 => (x >>> 40).setWidth 8
  | 3 => (x >>> 32).setWidth 8
  | 4 => (x >>> 24).setWidth 8
  | 5 => (x >>> 16).setWidth 8
  | 6 => (x >>> 8).setWidth 8
  | _ => x.setWidth 8
theorem put_cells (f : Nat → Value) (v : Nat → Value) (off i : Nat) :
    upd (upd (upd (upd (upd (upd (upd (upd f off (v 0)) (off + 1) (v 1)) (off + 2) (v 2)) (off + 3) (v 3)) (off + 4) (v 4)) (off + 5) (v 5)) (off + 6) (v 6)) (off + 7) (v 7) i =
      if off ≤ i ∧ i < off + 8 then v (i - off) else f i := by
  unfold upd
  by_cases h : off ≤ i ∧ i < off + 8
  · obtain ⟨j, rfl⟩ : ∃ j, i = off + j := ⟨i - off, by omega⟩
    have hj : j < 8 := by omega
    rw [if_pos h, Nat.add_sub_cancel_left]
    obtain rfl | rfl | rfl | rfl | rfl | rfl | rfl | rfl : j = 0 ∨ j = 1 ∨ j = 2 ∨ j = 3 ∨ j = 4 ∨ j = 5 ∨ j = 6 ∨ j = 7 := by omega
    all_goals simp
  · rw [if_neg h, if_neg (by omega), if_neg (by omega), if_neg (by omega), if_neg (by omega), if_neg (by omega), if_neg (by omega), if_neg (by omega), if_neg (by omega)]
theorem put_any (b T m n cap off : Nat) (f : Nat → Value) (x : BitVec 64) (w : World) (hn : n ≤ cap) (h1 : off + 8 ≤ n) (h2 : n ≤ 1000000) (hm : n ≤ m) (hr : Row w b T (rowF m f)) :
    Calls Sahg.prog 9 #[.slice (some ⟨b, 0, none⟩) n cap, .int .i64 off, .int .u64 (u x)] w fun e w' => e = .returned (.bool true) ∧
      Row w' b T (rowF m fun i => if off ≤ i ∧ i < off + 8 then .int .u8 (byt (byteOf x (i - off))) else f i) ∧ Fr (blk b) w w' := by
  have hcell : ∀ j, j < 8 → w.cell? ⟨b, off + j, none⟩ = some (f (off + j)) := fun j hj => hr.cellF (by omega)
  have c0 := hcell 0 (by omega)
  have c1 := hcell 1 (by omega)
  have c2 := hcell 2 (by omega)
  have c3 := hcell 3 (by omega)
  have c4 := hcell 4 (by omega)
  have c5 := hcell 5 (by omega)
  have c6 := hcell 6 (by omega)
  have c7 := hcell 7 (by omega)
  rw [Nat.add_zero] at c0
  have hfz := hr.frozen
  clear hcell
  go_enter Sahg.func9, Sahg.ntmps9
  go_wp2_with (go_at_call 14; refine (inside_any _ _ _ (by omega) (by omega) (by omega) (by omega)).mono ?_; rintro e w' ⟨rfl, rfl⟩)
  go_ret
  refine ⟨rfl, ?_, ?_⟩
  · have r := (((((((hr.set off (.int .u8 (byt (byteOf x 0)))).set (off + 1) (.int .u8 (byt (byteOf x 1)))).set (off + 2) (.int .u8 (byt (byteOf x 2)))).set (off + 3) (.int .u8 (byt (byteOf x 3)))).set (off + 4) (.int .u8 (byt (byteOf x 4)))).set (off + 5) (.int .u8 (byt (byteOf x 5)))).set (off + 6) (.int .u8 (byt (byteOf x 6)))).set (off + 7) (.int .u8 (byt (byteOf x 7)))
    simp only [rowF_set] at r
    rw [rowF_congr (fun i _ => put_cells f (fun j => .int .u8 (byt (byteOf x j))) off i)] at r
    exact r
  · iterate 8 refine Fr.set1 ?_ _
    exact Fr.refl _ _
end
end Go.Proofs.Ygcsah
