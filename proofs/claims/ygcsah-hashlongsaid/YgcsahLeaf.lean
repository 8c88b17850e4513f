/-
  THE LEAVES: bit, inside, turned, the rotation, RC.
-/
import Derived.Test.YgcsahBase
namespace Go.Proofs.Ygcsah
open Go.RowKit
set_option maxHeartbeats 400000

theorem shr_u8 (x : BitVec 64) : u x / 256 = u (x >>> 8) := shr_u x 8
theorem shl_u8 (x : BitVec 64) : IntKind.u64.wrap (u x * 256) = u (x <<< 8) := shl_u x 8
theorem op_shr8 (x : BitVec 64) (yk : IntKind) : Op.shift .shr .u64 (u x) yk 8 = pure (.int .u64 (u (x >>> 8))) := by rw [shift_shr_any _ _ _ _ (by decide)]; exact congrArg (fun n => pure (Value.int .u64 n)) (shr_u8 x)
theorem op_shl8 (x : BitVec 64) (yk : IntKind) : Op.shift .shl .u64 (u x) yk 8 = pure (.int .u64 (u (x <<< 8))) := by rw [shift_shl_any _ _ _ _ (by decide)]; exact congrArg (fun n => pure (Value.int .u64 n)) (shl_u8 x)
theorem shr_u16 (x : BitVec 64) : u x / 65536 = u (x >>> 16) := shr_u x 16
theorem shl_u16 (x : BitVec 64) : IntKind.u64.wrap (u x * 65536) = u (x <<< 16) := shl_u x 16
theorem op_shr16 (x : BitVec 64) (yk : IntKind) : Op.shift .shr .u64 (u x) yk 16 = pure (.int .u64 (u (x >>> 16))) := by rw [shift_shr_any _ _ _ _ (by decide)]; exact congrArg (fun n => pure (Value.int .u64 n)) (shr_u16 x)
theorem op_shl16 (x : BitVec 64) (yk : IntKind) : Op.shift .shl .u64 (u x) yk 16 = pure (.int .u64 (u (x <<< 16))) := by rw [shift_shl_any _ _ _ _ (by decide)]; exact congrArg (fun n => pure (Value.int .u64 n)) (shl_u16 x)
theorem shr_u24 (x : BitVec 64) : u x / 16777216 = u (x >>> 24) := shr_u x 24
theorem shl_u24 (x : BitVec 64) : IntKind.u64.wrap (u x * 16777216) = u (x <<< 24) := shl_u x 24
theorem op_shr24 (x : BitVec 64) (yk : IntKind) : Op.shift .shr .u64 (u x) yk 24 = pure (.int .u64 (u (x >>> 24))) := by rw [shift_shr_any _ _ _ _ (by decide)]; exact congrArg (fun n => pure (Value.int .u64 n)) (shr_u24 x)
theorem op_shl24 (x : BitVec 64) (yk : IntKind) : Op.shift .shl .u64 (u x) yk 24 = pure (.int .u64 (u (x <<< 24))) := by rw [shift_shl_any _ _ _ _ (by decide)]; exact congrArg (fun n => pure (Value.int .u64 n)) (shl_u24 x)
theorem shr_u32 (x : BitVec 64) : u x / 4294967296 = u (x >>> 32) := shr_u x 32
theorem shl_u32 (x : BitVec 64) : IntKind.u64.wrap (u x * 4294967296) = u (x <<< 32) := shl_u x 32
theorem op_shr32 (x : BitVec 64) (yk : IntKind) : Op.shift .shr .u64 (u x) yk 32 = pure (.int .u64 (u (x >>> 32))) := by rw [shift_shr_any _ _ _ _ (by decide)]; exact congrArg (fun n => pure (Value.int .u64 n)) (shr_u32 x)
theorem op_shl32 (x : BitVec 64) (yk : IntKind) : Op.shift .shl .u64 (u x) yk 32 = pure (.int .u64 (u (x <<< 32))) := by rw [shift_shl_any _ _ _ _ (by decide)]; exact congrArg (fun n => pure (Value.int .u64 n)) (shl_u32 x)
theorem shr_u40 (x : BitVec 64) : u x / 1099511627776 = u (x >>> 40) := shr_u x 40
theorem shl_u40 (x : BitVec 64) : IntKind.u64.wrap (u x * 1099511627776) = u (x <<< 40) := shl_u x 40
theorem op_shr40 (x : BitVec 64) (yk : IntKind) : Op.shift .shr .u64 (u x) yk 40 = pure (.int .u64 (u (x >>> 40))) := by rw [shift_shr_any _ _ _ _ (by decide)]; exact congrArg (fun n => pure (Value.int .u64 n)) (shr_u40 x)
theorem op_shl40 (x : BitVec 64) (yk : IntKind) : Op.shift .shl .u64 (u x) yk 40 = pure (.int .u64 (u (x <<< 40))) := by rw [shift_shl_any _ _ _ _ (by decide)]; exact congrArg (fun n => pure (Value.int .u64 n)) (shl_u40 x)
theorem shr_u48 (x : BitVec 64) : u x / 281474976710656 = u (x >>> 48) := shr_u x 48
theorem shl_u48 (x : BitVec 64) : IntKind.u64.wrap (u x * 281474976710656) = u (x <<< 48) := shl_u x 48
theorem op_shr48 (x : BitVec 64) (yk : IntKind) : Op.shift .shr .u64 (u x) yk 48 = pure (.int .u64 (u (x >>> 48))) := by rw [shift_shr_any _ _ _ _ (by decide)]; exact congrArg (fun n => pure (Value.int .u64 n)) (shr_u48 x)
theorem op_shl48 (x : BitVec 64) (yk : IntKind) : Op.shift .shl .u64 (u x) yk 48 = pure (.int .u64 (u (x <<< 48))) := by rw [shift_shl_any _ _ _ _ (by decide)]; exact congrArg (fun n => pure (Value.int .u64 n)) (shl_u48 x)
theorem shr_u56 (x : BitVec 64) : u x / 72057594037927936 = u (x >>> 56) := shr_u x 56
theorem shl_u56 (x : BitVec 64) : IntKind.u64.wrap (u x * 72057594037927936) = u (x <<< 56) := shl_u x 56
theorem op_shr56 (x : BitVec 64) (yk : IntKind) : Op.shift .shr .u64 (u x) yk 56 = pure (.int .u64 (u (x >>> 56))) := by rw [shift_shr_any _ _ _ _ (by decide)]; exact congrArg (fun n => pure (Value.int .u64 n)) (shr_u56 x)
theorem op_shl56 (x : BitVec 64) (yk : IntKind) : Op.shift .shl .u64 (u x) yk 56 = pure (.int .u64 (u (x <<< 56))) := by rw [shift_shl_any _ _ _ _ (by decide)]; exact congrArg (fun n => pure (Value.int .u64 n)) (shl_u56 x)
theorem and_ff00 (x : BitVec 64) : bits .and .u64 (u x) 71777214294589695 = u (x &&& 71777214294589695#64) := bits_and_u x 71777214294589695#64
theorem and_ffff (x : BitVec 64) : bits .and .u64 (u x) 281470681808895 = u (x &&& 281470681808895#64) := bits_and_u x 281470681808895#64

theorem bit_any (b : Bool) (w : World) : Calls Sahg.prog 23 #[.bool b] w fun e w' => e = .returned (.int .u8 (if b then 1 else 0)) ∧ w' = w := by
  cases b
  · go_enter Sahg.func23, Sahg.ntmps23
    go_wp2
    go_ret
    exact ⟨rfl, rfl⟩
  · go_enter Sahg.func23, Sahg.ntmps23
    go_wp2
    go_ret
    exact ⟨rfl, rfl⟩

theorem inside_any (n off : Int) (w : World) (h0 : 0 ≤ off) (h1 : 8 ≤ n) (h2 : n ≤ 1000000) (h3 : off ≤ n - 8) : Calls Sahg.prog 14 #[.int .i64 n, .int .i64 off] w fun e w' => e = .returned (.bool true) ∧ w' = w := by
  go_enter Sahg.func14, Sahg.ntmps14
  go_wp2
  go_ret
  exact ⟨rfl, rfl⟩

def turned1 (x : BitVec 64) : BitVec 64 := (x >>> 8 &&& 71777214294589695#64) ||| ((x &&& 71777214294589695#64) <<< 8)
def turned2 (x : BitVec 64) : BitVec 64 := (x >>> 16 &&& 281470681808895#64) ||| ((x &&& 281470681808895#64) <<< 16)
def turned (x : BitVec 64) : BitVec 64 := (turned2 (turned1 x) >>> 32) ||| (turned2 (turned1 x) <<< 32)

theorem ret_int {k : IntKind} {a b : Int} (h : a = b) : Ending.returned (.int k a) = .returned (.int k b) := by rw [h]

section
attribute [local go_sem] bits_xor_u bits_and_u bits_or_u and_ff00 and_ffff
attribute [local go_sem ↓] op_shr8 op_shr16 op_shr32 op_shl8 op_shl16 op_shl32
theorem turned_any (x : BitVec 64) (w : World) : Calls Sahg.prog 10 #[.int .u64 (u x)] w fun e w' => e = .returned (.int .u64 (u (turned x))) ∧ w' = w := by
  go_enter Sahg.func10, Sahg.ntmps10
  go_wp2
  go_ret
  exact ⟨rfl, rfl⟩
end

theorem rotl27 (x : BitVec 64) (k : Nat) (w : World) (h0 : 0 < k) (h1 : k < 64) : Calls Sahg.prog 27 #[.int .u64 (u x), .int .i64 k] w fun e w' => e = .returned (.int .u64 (u (x.rotateLeft k))) ∧ w' = w := by
  have hb : bits .and .u64 (k : Int) 63 = (k : Int) := by
    rw [show (63 : Int) = ((63 : Nat) : Int) from rfl, u64_and_nat _ _ (by omega) (by omega), nat_mask6, Nat.mod_eq_of_lt h1]
  have e1 : (min k 64) = k := by omega
  go_enter Sahg.func27, Sahg.ntmps27
  go_wp2
  go_ret
  exact ⟨ret_int (by rw [shl_u, shr_u, bits_or_u, BitVec.rotateLeft_def, Nat.mod_eq_of_lt h1]), rfl⟩
theorem rotl_any (x : BitVec 64) (k : Int) (w : World) (h0 : 0 < k) (h1 : k < 64) : Calls Sahg.prog 25 #[.int .u64 (u x), .int .i64 k] w fun e w' => e = .returned (.int .u64 (u (x.rotateLeft k.toNat))) ∧ w' = w := by
  obtain ⟨n, rfl⟩ := Int.eq_ofNat_of_zero_le (Int.le_of_lt h0)
  rw [Int.toNat_natCast]
  go_enter Sahg.func25, Sahg.ntmps25
  go_wp2_with (go_at_call 27; refine (rotl27 x n _ (by omega) (by omega)).mono ?_; rintro e w' ⟨rfl, rfl⟩)
  go_ret
  exact ⟨rfl, rfl⟩

theorem rc_index (i : Nat) (h : i < 24) (w : World) : (Instr.index 60 (.agg #[.int .u64 1, .int .u64 32898, .int .u64 9223372036854808714, .int .u64 9223372039002292224, .int .u64 32907, .int .u64 2147483649, .int .u64 9223372039002292353, .int .u64 9223372036854808585, .int .u64 138, .int .u64 136, .int .u64 2147516425, .int .u64 2147483658, .int .u64 2147516555, .int .u64 9223372036854775947, .int .u64 9223372036854808713, .int .u64 9223372036854808579, .int .u64 9223372036854808578, .int .u64 9223372036854775936, .int .u64 32778, .int .u64 9223372039002259466, .int .u64 9223372039002292353, .int .u64 9223372036854808704, .int .u64 2147483649, .int .u64 9223372039002292232]) (.int .u8 i)).run Sahg.prog w = .ok (.int .u64 (u (K.rc i))) w := by
  obtain rfl | rfl | rfl | rfl | rfl | rfl | rfl | rfl | rfl | rfl | rfl | rfl | rfl | rfl | rfl | rfl | rfl | rfl | rfl | rfl | rfl | rfl | rfl | rfl : i = 0 ∨ i = 1 ∨ i = 2 ∨ i = 3 ∨ i = 4 ∨ i = 5 ∨ i = 6 ∨ i = 7 ∨ i = 8 ∨ i = 9 ∨ i = 10 ∨ i = 11 ∨ i = 12 ∨ i = 13 ∨ i = 14 ∨ i = 15 ∨ i = 16 ∨ i = 17 ∨ i = 18 ∨ i = 19 ∨ i = 20 ∨ i = 21 ∨ i = 22 ∨ i = 23 := by omega
  all_goals kernel_rfl
theorem rc_any (i : Nat) (w : World) (h1 : i < 24) : Calls Sahg.prog 21 #[.int .u8 i] w fun e w' => e = .returned (.int .u64 (u (K.rc i))) ∧ w' = w := by
  have hi := rc_index i h1
  have hl : ¬ (24 : Int) ≤ (i : Int) := by omega
  go_enter Sahg.func21, Sahg.ntmps21
  go_wp2
  go_ret
  exact ⟨rfl, rfl⟩
end Go.Proofs.Ygcsah
