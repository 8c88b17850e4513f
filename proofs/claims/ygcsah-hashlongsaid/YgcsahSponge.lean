/-
  THE SPONGE, PLAIN: the padded message's bits taken in block by block, the answer's bytes. And what a block of bytes on lanes is on bits.
-/
import Derived.Test.YgcsahAbsorb
namespace Go.Proofs.Ygcsah.K

/-- Byte j of the padded message: n bytes D, a one, zeros, a one that ends the block. -/
def padB (n : Nat) (D : Nat → BitVec 8) (j : Nat) : BitVec 8 := (if j < n then D j else if j = n then 1#8 else 0#8) ||| (if j = n / 136 * 136 + 135 then 128#8 else 0#8)
/-- Bit t of the padded message. -/
def mbit (n : Nat) (D : Nat → BitVec 8) (t : Nat) : Bool := (padB n D (t / 8)).getLsbD (t % 8)
/-- The first r bits of block k laid on. -/
def absTo (s m : Nat → Bool) (k r i : Nat) : Bool := if i < r then (s i != m (1088 * k + i)) else s i
def spo (m : Nat → Bool) : Nat → (Nat → Bool)
  | 0 => fun _ => false
  | k + 1 => kF (absTo (spo m k) m k 1088)
/-- The first c bits of byte j of the answer. -/
def pb (s : Nat → Bool) (j : Nat) : Nat → BitVec 8
  | 0 => 0#8
  | c + 1 => if s (8 * j + c) then pb s j c ||| (1#8 <<< c) else pb s j c
/-- The hash of n bytes D. -/
def digest (n : Nat) (D : Nat → BitVec 8) (j : Nat) : BitVec 8 := pb (spo (mbit n D) (n / 136 + 1)) j 8

theorem pb_congr {s s' : Nat → Bool} (j : Nat) (h : ∀ i, i < 1600 → s i = s' i) (hj : j < 32) : ∀ c, c ≤ 8 → pb s j c = pb s' j c
  | 0, _ => rfl
  | c + 1, hc => by simp only [pb]; rw [pb_congr j h hj c (by omega), h _ (by omega)]
theorem pb_bit (s : Nat → Bool) (j : Nat) : ∀ c z, c ≤ 8 → z < 8 → (pb s j c).getLsbD z = (decide (z < c) && s (8 * j + z))
  | 0, z, _, _ => by simp [pb]
  | c + 1, z, hc, hz => by
    simp only [pb]
    have ih := pb_bit s j c z (by omega) hz
    by_cases e : z = c
    · subst e
      cases h : s (8 * j + z)
      · simp [ih]
      · simp [hz]
    · have h1 : (1#8 <<< c).getLsbD z = false := by
        rw [BitVec.getLsbD_shiftLeft]
        by_cases h2 : z < c
        · simp [h2]
        · simp [BitVec.getLsbD_one]; omega
      cases h : s (8 * j + c)
      · simp only [Bool.false_eq_true, if_false, ih]
        congr 1
        simp; omega
      · simp only [if_true, BitVec.getLsbD_or, h1, Bool.or_false, ih]
        congr 1
        simp; omega
end Go.Proofs.Ygcsah.K
namespace Go.Proofs.Ygcsah
theorem be_bit (B : Nat → BitVec 8) : ∀ z, z < 64 → (be B).getLsbD z = (B (7 - z / 8)).getLsbD (z % 8) := by
  intro z hz
  have h8 : ∀ (v : BitVec 8) (n : Nat), 8 ≤ n → v.getLsbD n = false := fun v n hn => BitVec.getLsbD_of_ge v n hn
  have sh : ∀ (v : BitVec 8) (a : Nat), a % 8 = 0 → (v.setWidth 64 <<< a).getLsbD z = (decide (z / 8 = a / 8) && v.getLsbD (z % 8)) := by
    intro v a ha
    rw [BitVec.getLsbD_shiftLeft, BitVec.getLsbD_setWidth]
    by_cases h1 : z < a
    · simp only [hz, h1, decide_true, Bool.not_true, Bool.and_false, Bool.false_and]
      rw [decide_eq_false (show ¬ z / 8 = a / 8 by omega)]; rfl
    · by_cases h2 : z / 8 = a / 8
      · rw [show z - a = z % 8 by omega]; simp [hz, h1, h2]; omega
      · rw [h8 v (z - a) (by omega)]; simp [h2]
  have s0 := fun (v : BitVec 8) => sh v 0 (by omega)
  simp only [BitVec.shiftLeft_zero] at s0
  simp only [be, BitVec.getLsbD_or, s0, sh (B 6) 8 (by omega), sh (B 5) 16 (by omega), sh (B 4) 24 (by omega), sh (B 3) 32 (by omega), sh (B 2) 40 (by omega), sh (B 1) 48 (by omega), sh (B 0) 56 (by omega)]
  generalize hq : z / 8 = q
  have : q < 8 := by omega
  obtain rfl | rfl | rfl | rfl | rfl | rfl | rfl | rfl : q = 0 ∨ q = 1 ∨ q = 2 ∨ q = 3 ∨ q = 4 ∨ q = 5 ∨ q = 6 ∨ q = 7 := by omega
  all_goals simp
theorem turned_bit (x : BitVec 64) : ∀ z, z < 64 → (turned x).getLsbD z = x.getLsbD (8 * (7 - z / 8) + z % 8) := by
  have m1 : ∀ z, z < 64 → (71777214294589695#64).getLsbD z = decide (z % 16 < 8) := by decide
  have m2 : ∀ z, z < 64 → (281470681808895#64).getLsbD z = decide (z % 32 < 16) := by decide
  have g : ∀ (v : BitVec 64) (n : Nat), 64 ≤ n → v.getLsbD n = false := fun v n hn => BitVec.getLsbD_of_ge v n hn
  have t1 : ∀ z, z < 64 → (turned1 x).getLsbD z = x.getLsbD (if z % 16 < 8 then z + 8 else z - 8) := by
    intro z hz
    simp only [turned1, BitVec.getLsbD_or, BitVec.getLsbD_and, BitVec.getLsbD_ushiftRight, BitVec.getLsbD_shiftLeft, m1 z hz]
    by_cases h : z % 16 < 8
    · simp only [h, decide_true, Bool.and_true, if_true, hz, Bool.true_and]
      by_cases h3 : z < 8
      · simp [h3, Nat.add_comm]
      · rw [m1 (z - 8) (by omega), decide_eq_false (show ¬ (z - 8) % 16 < 8 by omega)]; simp [Nat.add_comm]
    · simp only [h, decide_false, Bool.and_false, if_false, hz, decide_true, Bool.true_and, Bool.false_or]
      rw [m1 (z - 8) (by omega), decide_eq_true (show (z - 8) % 16 < 8 by omega), decide_eq_false (show ¬ z < 8 by omega)]; simp
  have t2 : ∀ z, z < 64 → (turned2 (turned1 x)).getLsbD z = (turned1 x).getLsbD (if z % 32 < 16 then z + 16 else z - 16) := by
    intro z hz
    simp only [turned2, BitVec.getLsbD_or, BitVec.getLsbD_and, BitVec.getLsbD_ushiftRight, BitVec.getLsbD_shiftLeft, m2 z hz]
    by_cases h : z % 32 < 16
    · simp only [h, decide_true, Bool.and_true, if_true, hz, Bool.true_and]
      by_cases h3 : z < 16
      · simp [h3, Nat.add_comm]
      · rw [m2 (z - 16) (by omega), decide_eq_false (show ¬ (z - 16) % 32 < 16 by omega)]; simp [Nat.add_comm]
    · simp only [h, decide_false, Bool.and_false, if_false, hz, decide_true, Bool.true_and, Bool.false_or]
      rw [m2 (z - 16) (by omega), decide_eq_true (show (z - 16) % 32 < 16 by omega), decide_eq_false (show ¬ z < 16 by omega)]; simp
  intro z hz
  have t3 : (turned x).getLsbD z = (turned2 (turned1 x)).getLsbD (if z < 32 then z + 32 else z - 32) := by
    simp only [turned, BitVec.getLsbD_or, BitVec.getLsbD_ushiftRight, BitVec.getLsbD_shiftLeft]
    by_cases h : z < 32
    · simp [h, Nat.add_comm]
    · rw [g _ (32 + z) (by omega)]; simp [h, hz]
  rw [t3]
  by_cases a : z < 32
  · rw [if_pos a, t2 _ (by omega)]
    by_cases b : (z + 32) % 32 < 16
    · rw [if_pos b, t1 _ (by omega)]
      by_cases c : (z + 32 + 16) % 16 < 8
      · rw [if_pos c]; congr 1; omega
      · rw [if_neg c]; congr 1; omega
    · rw [if_neg b, t1 _ (by omega)]
      by_cases c : (z + 32 - 16) % 16 < 8
      · rw [if_pos c]; congr 1; omega
      · rw [if_neg c]; congr 1; omega
  · rw [if_neg a, t2 _ (by omega)]
    by_cases b : (z - 32) % 32 < 16
    · rw [if_pos b, t1 _ (by omega)]
      by_cases c : (z - 32 + 16) % 16 < 8
      · rw [if_pos c]; congr 1; omega
      · rw [if_neg c]; congr 1; omega
    · rw [if_neg b, t1 _ (by omega)]
      by_cases c : (z - 32 - 16) % 16 < 8
      · rw [if_pos c]; congr 1; omega
      · rw [if_neg c]; congr 1; omega
theorem le_bit (B : Nat → BitVec 8) (z : Nat) (hz : z < 64) : (turned (be B)).getLsbD z = (B (z / 8)).getLsbD (z % 8) := by
  rw [turned_bit _ z hz, be_bit _ _ (by omega), show 7 - (8 * (7 - z / 8) + z % 8) / 8 = z / 8 by omega, show (8 * (7 - z / 8) + z % 8) % 8 = z % 8 by omega]
/-- A block on lanes is a block on bits. -/
theorem absL_bits (A : Nat → BitVec 64) (B : Nat → BitVec 8) (s m : Nat → Bool) (k : Nat) (hs : ∀ i, i < 1600 → K.bitsL A i = s i) (hB : ∀ j, j < 136 → ∀ z, z < 8 → (B j).getLsbD z = m (1088 * k + (8 * j + z))) :
    ∀ i, i < 1600 → K.bitsL (absL A B 17) i = K.absTo s m k 1088 i := by
  intro i hi
  rw [show K.bitsL (absL A B 17) i = (absL A B 17 (i / 64)).getLsbD (i % 64) from rfl]
  unfold absL K.absTo
  rw [← hs i hi, show K.bitsL A i = (A (i / 64)).getLsbD (i % 64) from rfl]
  by_cases h : i < 1088
  · rw [if_pos (show i / 64 < 17 by omega), if_pos h, BitVec.getLsbD_xor, le_bit _ _ (by omega)]
    have := hB (8 * (i / 64) + i % 64 / 8) (by omega) (i % 64 % 8) (by omega)
    rw [this, show 8 * (8 * (i / 64) + i % 64 / 8) + i % 64 % 8 = i by omega]
  · rw [if_neg (show ¬ i / 64 < 17 by omega), if_neg h]
/-- A lane's bytes, as they are put out, are the bits' bytes. -/
theorem out_byte (A : Nat → BitVec 64) (i j : Nat) (hj : j < 8) : byteOf (turned (A i)) j = K.pb (K.bitsL A) (8 * i + j) 8 := by
  have e : byteOf (turned (A i)) j = ((turned (A i)) >>> (8 * (7 - j))).setWidth 8 := by
    obtain rfl | rfl | rfl | rfl | rfl | rfl | rfl | rfl : j = 0 ∨ j = 1 ∨ j = 2 ∨ j = 3 ∨ j = 4 ∨ j = 5 ∨ j = 6 ∨ j = 7 := by omega
    all_goals first | rfl | (simp [byteOf])
  rw [e]
  refine BitVec.eq_of_getLsbD_eq fun z hz => ?_
  rw [K.pb_bit _ _ 8 z (by omega) hz, BitVec.getLsbD_setWidth, BitVec.getLsbD_ushiftRight, turned_bit _ _ (by omega)]
  simp only [hz, decide_true, Bool.true_and, K.bitsL]
  rw [show (8 * (8 * i + j) + z) / 64 = i by omega, show (8 * (8 * i + j) + z) % 64 = 8 * j + z by omega]
  congr 1; omega
end Go.Proofs.Ygcsah
