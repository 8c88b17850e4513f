/-
  make; the answer's bytes bit by bit; bytes' bits.
-/
import Derived.Test.YgcsahKSum
namespace Go.Proofs.Ygcsah
open Go.RowKit

theorem made_row (z : Value) (n : Nat) : madeCells #[z] n = rowF n fun _ => z := by
  apply Array.ext
  · rw [size_madeCells, rowF_size]
  · intro i h1 h2
    simp [madeCells, rowF, Nat.mod_one]
theorem wpList_make {P : Program} {ops : Array Oper} {rest : List Oper} {o : Oper} {a : Act} {w : World} {Q : Exit → Act → World → Prop} (hgd : o.guard = none) (t e : TypeId) (x y : Operand) (ho : o.op = .makeSlice t x y)
    (kl kc : IntKind) (l c : Nat) (hx : a.eval x = .int kl l) (hy : a.eval y = .int kc c) (ht : P.underlying t = some (.slice e)) (z : Value) (hinfo : (P.info? e).map (fun i => (i.zero, i.size, i.bytes)) = some (some z, 1, 1)) (hz1 : z.cells = #[z])
    (hlc : l ≤ c) (hc : c ≤ 1000000) (h : wpList P ops Q rest (a.put o.dst (.slice (some ⟨w.heap.size, 0, none⟩) l c)) (w.alloc (.cells (rowF c fun _ => z) e))) : wpList P ops Q (o :: rest) a w := by
  refine wpList_plain hgd fun K hK => ?_
  obtain ⟨i, hi, hzz⟩ := Option.map_eq_some_iff.1 hinfo
  simp only [Prod.mk.injEq] at hzz
  obtain ⟨hz, hs, hb⟩ := hzz
  have hrun := run_make (P := P) w t e i z ht hi hz kl kc l c (by omega) (by omega) (by rw [hb]; omega) (by omega)
  rw [Int.toNat_natCast, Int.toNat_natCast, hs, Nat.mul_one, hz1, made_row] at hrun
  unfold Oper.wp execOp
  simp only [ho, hx, hy, Sem.run_bind, hrun, Result.andThen_ok, Sem.run_pure]
  exact hK _ _ h
theorem info5 : (Sahg.prog.info? 5).map (fun i => (i.zero, i.size, i.bytes)) = some (some (Value.int .u8 0), 1, 1) := by kernel_rfl
theorem info4 : (Sahg.prog.info? 4).map (fun i => (i.zero, i.size, i.bytes)) = some (some (Value.bool false), 1, 1) := by kernel_rfl

theorem shr_byt (x : BitVec 8) (k : Nat) : byt x / (2 ^ k : Int) = byt (x >>> k) := by
  unfold byt; rw [BitVec.toNat_ushiftRight, Nat.shiftRight_eq_div_pow]; push_cast; rfl
theorem bits_and_u8 (x y : BitVec 8) : bits .and .u8 (byt x) (byt y) = byt (x &&& y) := by
  unfold byt; rw [u8_and_nat _ _ (by have := x.isLt; omega) (by have := y.isLt; omega), BitVec.toNat_and]
theorem bit8_of (c : BitVec 8) (Z : Nat) : (bits .and .u8 (byt c / 2 ^ Z) 1 == 1) = c.getLsbD Z := by
  have h1 : bits .and .u8 (byt c / 2 ^ Z) 1 = byt ((c >>> Z) &&& 1#8) := by rw [shr_byt]; exact bits_and_u8 _ 1#8
  rw [h1]
  unfold byt
  rw [BitVec.toNat_and, BitVec.toNat_ushiftRight, show (1#8).toNat = 1 from rfl, nat_mask1, Nat.shiftRight_eq_div_pow]
  rw [BitVec.getLsbD, Nat.testBit_eq_decide_div_mod_eq]
  rw [Bool.eq_iff_iff]
  simp only [beq_iff_eq, decide_eq_true_eq]
  omega
theorem shl_one (Z : Nat) : IntKind.u8.wrap (2 ^ Z) = byt (1#8 <<< Z) := by
  unfold byt
  rw [IntKind.wrap_u8', BitVec.toNat_shiftLeft, Nat.shiftLeft_eq, show (1#8).toNat = 1 from rfl, Nat.one_mul, Int.natCast_emod, Int.natCast_pow]; rfl
theorem or_byte1 (x : BitVec 8) : bits .or .u8 (byt x) 1 = byt (x ||| 1#8) := bits_or_u8 x 1#8

/-- The answer's bytes when I bits have been looked at. -/
def og (s : Nat → Bool) (I j : Nat) : BitVec 8 := K.pb s j (min 8 (I - 8 * j))
theorem og_at (s : Nat → Bool) (I : Nat) : og s I (I / 8) = K.pb s (I / 8) (I % 8) := by
  unfold og; congr 1; omega
theorem og_yes (s : Nat → Bool) (I i J Z : Nat) (h : s I = true) (hJ : J = I / 8) (hZ : Z = I % 8) : (if i = J then K.pb s J Z ||| (1#8 <<< Z) else og s I i) = og s (I + 1) i := by
  unfold og
  by_cases e : i = J
  · subst e
    rw [if_pos rfl, show min 8 (I + 1 - 8 * i) = Z + 1 by omega]
    simp only [K.pb]
    rw [show 8 * i + Z = I by omega, h]; rfl
  · rw [if_neg e]; congr 1; omega
theorem og_no (s : Nat → Bool) (I i : Nat) (h : s I = false) : og s I i = og s (I + 1) i := by
  unfold og
  by_cases e : i = I / 8
  · subst e
    rw [show min 8 (I + 1 - 8 * (I / 8)) = I % 8 + 1 by omega, show min 8 (I - 8 * (I / 8)) = I % 8 by omega]
    simp only [K.pb]
    rw [show 8 * (I / 8) + I % 8 = I by omega, h]; rfl
  · congr 1; omega
theorem og_start (s : Nat → Bool) (i : Nat) : og s 0 i = 0 := by
  unfold og; rw [show min 8 (0 - 8 * i) = 0 by omega]; rfl
theorem og_end (s : Nat → Bool) (j : Nat) (hj : j < 32) : og s 256 j = K.pb s j 8 := by
  unfold og; congr 1; omega
end Go.Proofs.Ygcsah
