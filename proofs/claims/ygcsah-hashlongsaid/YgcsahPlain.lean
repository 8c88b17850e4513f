/-
  THE PLAIN MATHEMATICS of Keccak-256: on 64-bit lanes, on single bits, the sponge. No Go in sight.
  Two layouts of the 1600 bits: 's' (lane 5y+x, bit z at 64(5y+x)+z) and 'model' (at 320x+64y+z).
-/
namespace Go.Proofs.Ygcsah.K

/-! ### Lanes -/
/-- The rotation offset of lane x, y, modulo 64. -/
def off (x y : Nat) : Nat := [0, 1, 62, 28, 27, 36, 44, 6, 55, 20, 3, 10, 43, 25, 39, 41, 45, 15, 21, 8, 18, 2, 61, 56, 14].getD (5 * y + x) 0
/-- The round constants. -/
def rc (i : Nat) : BitVec 64 := [1, 32898, 9223372036854808714, 9223372039002292224, 32907, 2147483649, 9223372039002292353, 9223372036854808585, 138, 136, 2147516425, 2147483658, 2147516555, 9223372036854775947, 9223372036854808713, 9223372036854808579, 9223372036854808578, 9223372036854775936, 32778, 9223372039002259466, 9223372039002292353, 9223372036854808704, 2147483649, 9223372039002292232].getD i 0
def colL (A : Nat → BitVec 64) (x : Nat) : BitVec 64 := A x ^^^ A (x + 5) ^^^ A (x + 10) ^^^ A (x + 15) ^^^ A (x + 20)
def difL (A : Nat → BitVec 64) (x : Nat) : BitVec 64 := colL A ((x + 4) % 5) ^^^ (colL A ((x + 1) % 5)).rotateLeft 1
/-- theta, rho and pi: lane x, y behind them. -/
def movL (A : Nat → BitVec 64) (x y : Nat) : BitVec 64 := (A (5 * x + (x + 3 * y) % 5) ^^^ difL A ((x + 3 * y) % 5)).rotateLeft (off ((x + 3 * y) % 5) x)
/-- theta, rho, pi, chi on lanes; lane x, y stands at 5y+x. -/
def roundL (A : Nat → BitVec 64) (i : Nat) : BitVec 64 := movL A (i % 5) (i / 5) ^^^ (~~~ movL A ((i % 5 + 1) % 5) (i / 5) &&& movL A ((i % 5 + 2) % 5) (i / 5))
def iotaL (k : Nat) (A : Nat → BitVec 64) (i : Nat) : BitVec 64 := if i = 0 then A 0 ^^^ rc k else A i
def permL (A : Nat → BitVec 64) : Nat → (Nat → BitVec 64)
  | 0 => A
  | k + 1 => iotaL k (roundL (permL A k))

/-! ### Bits -/
/-- The sum of a column's first y bits. -/
def par (G : Nat → Bool) (x : Nat) : Nat → Nat → Bool
  | 0, _ => false
  | y + 1, z => (par G x y z != G (320 * x + 64 * y + z))
def thetaB (G : Nat → Bool) (j : Nat) : Bool := (G j != (par G ((j / 320 + 4) % 5) 5 (j % 64) != par G ((j / 320 + 1) % 5) 5 ((j % 64 + 63) % 64)))
def rhoB (G : Nat → Bool) (j : Nat) : Bool := G (320 * (j / 320) + 64 * (j / 64 % 5) + (j % 64 + (64 - off (j / 320) (j / 64 % 5))) % 64)
def piB (G : Nat → Bool) (j : Nat) : Bool := G (320 * ((j / 320 + 3 * (j / 64 % 5)) % 5) + 64 * (j / 320) + j % 64)
def chiB (G : Nat → Bool) (j : Nat) : Bool := (G j != (G (320 * ((j / 320 + 2) % 5) + 64 * (j / 64 % 5) + j % 64) && !G (320 * ((j / 320 + 1) % 5) + 64 * (j / 64 % 5) + j % 64)))
def iotaB (k : Nat) (G : Nat → Bool) (j : Nat) : Bool := if j < 64 then (G j != (rc k).getLsbD j) else G j
def permB (G : Nat → Bool) : Nat → (Nat → Bool)
  | 0 => G
  | k + 1 => iotaB k (chiB (piB (rhoB (thetaB (permB G k)))))
/-- From the s-layout to the model's, and back. -/
def toM (s : Nat → Bool) (j : Nat) : Bool := s (64 * (5 * (j / 64 % 5) + j / 320) + j % 64)
def ofM (G : Nat → Bool) (i : Nat) : Bool := G (320 * (i / 64 % 5) + 64 * (i / 320) + i % 64)
/-- The permutation on bits in the s-layout. -/
def kF (s : Nat → Bool) : Nat → Bool := ofM (permB (toM s) 24)

/-! ### What depends on the first 1600 bits alone -/
theorem par_congr {G G' : Nat → Bool} (h : ∀ j, j < 1600 → G j = G' j) (x : Nat) (hx : x < 5) (z : Nat) (hz : z < 64) : ∀ y, y ≤ 5 → par G x y z = par G' x y z
  | 0, _ => rfl
  | y + 1, hy => by
    simp only [par]
    rw [par_congr h x hx z hz y (by omega), h _ (by omega)]
theorem thetaB_congr {G G' : Nat → Bool} (h : ∀ j, j < 1600 → G j = G' j) : ∀ j, j < 1600 → thetaB G j = thetaB G' j := by
  intro j hj
  simp only [thetaB]
  rw [h j hj, par_congr h _ (by omega) _ (by omega) 5 (by omega), par_congr h ((j / 320 + 1) % 5) (by omega) _ (by omega) 5 (by omega)]
theorem rhoB_congr {G G' : Nat → Bool} (h : ∀ j, j < 1600 → G j = G' j) : ∀ j, j < 1600 → rhoB G j = rhoB G' j := by
  intro j hj
  simp only [rhoB]
  rw [h _ (by omega)]
theorem piB_congr {G G' : Nat → Bool} (h : ∀ j, j < 1600 → G j = G' j) : ∀ j, j < 1600 → piB G j = piB G' j := by
  intro j hj
  simp only [piB]
  rw [h _ (by omega)]
theorem chiB_congr {G G' : Nat → Bool} (h : ∀ j, j < 1600 → G j = G' j) : ∀ j, j < 1600 → chiB G j = chiB G' j := by
  intro j hj
  simp only [chiB]
  rw [h j hj, h _ (by omega), h (320 * ((j / 320 + 1) % 5) + 64 * (j / 64 % 5) + j % 64) (by omega)]
theorem iotaB_congr {G G' : Nat → Bool} (k : Nat) (h : ∀ j, j < 1600 → G j = G' j) : ∀ j, j < 1600 → iotaB k G j = iotaB k G' j := by
  intro j hj
  simp only [iotaB]
  rw [h j hj]
theorem permB_congr {G G' : Nat → Bool} (h : ∀ j, j < 1600 → G j = G' j) : ∀ k, ∀ j, j < 1600 → permB G k j = permB G' k j
  | 0 => h
  | k + 1 => iotaB_congr k (chiB_congr (piB_congr (rhoB_congr (thetaB_congr (permB_congr h k)))))
theorem kF_congr {s s' : Nat → Bool} (h : ∀ i, i < 1600 → s i = s' i) : ∀ i, i < 1600 → kF s i = kF s' i := by
  intro i hi
  simp only [kF, ofM]
  exact permB_congr (fun j hj => by simp only [toM]; exact h _ (by omega)) 24 _ (by omega)

/-! ### THE LAW: the permutation on lanes is the permutation on bits -/
/-- The lanes' bits in the model's layout. -/
def bitsM (A : Nat → BitVec 64) (j : Nat) : Bool := (A (5 * (j / 64 % 5) + j / 320)).getLsbD (j % 64)
/-- The lanes' bits in the s-layout. -/
def bitsL (A : Nat → BitVec 64) (i : Nat) : Bool := (A (i / 64)).getLsbD (i % 64)

theorem bitsM_at (A : Nat → BitVec 64) (x y z : Nat) (hy : y < 5) (hz : z < 64) : bitsM A (320 * x + 64 * y + z) = (A (5 * y + x)).getLsbD z := by
  unfold bitsM
  rw [show (320 * x + 64 * y + z) / 64 % 5 = y by omega, show (320 * x + 64 * y + z) / 320 = x by omega, show (320 * x + 64 * y + z) % 64 = z by omega]
theorem rot_bit (v : BitVec 64) (k z : Nat) (hk : k < 64) (hz : z < 64) : (v.rotateLeft k).getLsbD z = v.getLsbD ((z + (64 - k)) % 64) := by
  rw [BitVec.getLsbD_rotateLeft, Nat.mod_eq_of_lt hk]
  by_cases h : z < k
  · simp only [h, decide_true, cond_true]
    congr 1; omega
  · simp only [h, decide_false, cond_false, hz, decide_true, Bool.true_and]
    congr 1; omega
theorem par_col (A : Nat → BitVec 64) (x z : Nat) (hz : z < 64) : par (bitsM A) x 5 z = (colL A x).getLsbD z := by
  have e : ∀ y, y < 5 → bitsM A (320 * x + 64 * y + z) = (A (5 * y + x)).getLsbD z := fun y hy => bitsM_at A x y z hy hz
  simp only [par, colL, BitVec.getLsbD_xor]
  rw [e 0 (by omega), e 1 (by omega), e 2 (by omega), e 3 (by omega), e 4 (by omega)]
  simp only [show 5 * 0 + x = x by omega, show 5 * 1 + x = x + 5 by omega, show 5 * 2 + x = x + 10 by omega, show 5 * 3 + x = x + 15 by omega, show 5 * 4 + x = x + 20 by omega]
  cases (A x).getLsbD z <;> cases (A (x + 5)).getLsbD z <;> cases (A (x + 10)).getLsbD z <;> cases (A (x + 15)).getLsbD z <;> cases (A (x + 20)).getLsbD z <;> rfl
theorem dif_bit (A : Nat → BitVec 64) (x z : Nat) (hz : z < 64) : (difL A x).getLsbD z = (par (bitsM A) ((x + 4) % 5) 5 z != par (bitsM A) ((x + 1) % 5) 5 ((z + 63) % 64)) := by
  rw [par_col A _ z hz, par_col A _ _ (by omega)]
  simp only [difL, BitVec.getLsbD_xor]
  rw [rot_bit _ 1 z (by omega) hz]
theorem theta_bit (A : Nat → BitVec 64) (x y z : Nat) (hy : y < 5) (hz : z < 64) : thetaB (bitsM A) (320 * x + 64 * y + z) = (A (5 * y + x) ^^^ difL A x).getLsbD z := by
  simp only [thetaB]
  rw [show (320 * x + 64 * y + z) / 320 = x by omega, show (320 * x + 64 * y + z) % 64 = z by omega, bitsM_at A x y z hy hz, ← dif_bit A x z hz, BitVec.getLsbD_xor]
theorem off_lt (x y : Nat) : off x y < 64 := by
  unfold off
  by_cases h : 5 * y + x < 25
  · have : ∀ n, n < 25 → [0, 1, 62, 28, 27, 36, 44, 6, 55, 20, 3, 10, 43, 25, 39, 41, 45, 15, 21, 8, 18, 2, 61, 56, 14].getD n 0 < 64 := by decide
    exact this _ h
  · rw [List.getD_eq_getElem?_getD, List.getElem?_eq_none (by simp; omega)]
    decide
theorem mov_bit (A : Nat → BitVec 64) (x y z : Nat) (hx : x < 5) (hy : y < 5) (hz : z < 64) : piB (rhoB (thetaB (bitsM A))) (320 * x + 64 * y + z) = (movL A x y).getLsbD z := by
  have ho := off_lt ((x + 3 * y) % 5) x
  simp only [piB]
  rw [show (320 * x + 64 * y + z) / 320 = x by omega, show (320 * x + 64 * y + z) / 64 % 5 = y by omega, show (320 * x + 64 * y + z) % 64 = z by omega]
  simp only [rhoB]
  generalize hq : (x + 3 * y) % 5 = q at *
  rw [show (320 * q + 64 * x + z) / 320 = q by omega, show (320 * q + 64 * x + z) / 64 % 5 = x by omega, show (320 * q + 64 * x + z) % 64 = z by omega]
  rw [theta_bit A q x _ hx (by omega)]
  simp only [movL, hq]
  rw [rot_bit _ _ z ho hz]
theorem round_bit (A : Nat → BitVec 64) (x y z : Nat) (hx : x < 5) (hy : y < 5) (hz : z < 64) : chiB (piB (rhoB (thetaB (bitsM A)))) (320 * x + 64 * y + z) = (roundL A (5 * y + x)).getLsbD z := by
  simp only [chiB]
  rw [show (320 * x + 64 * y + z) / 320 = x by omega, show (320 * x + 64 * y + z) / 64 % 5 = y by omega, show (320 * x + 64 * y + z) % 64 = z by omega]
  rw [mov_bit A x y z hx hy hz, mov_bit A _ y z (by omega) hy hz, mov_bit A _ y z (by omega) hy hz]
  simp only [roundL, BitVec.getLsbD_xor, BitVec.getLsbD_and, BitVec.getLsbD_not, hz, decide_true, Bool.true_and]
  rw [show (5 * y + x) % 5 = x by omega, show (5 * y + x) / 5 = y by omega]
  cases (movL A x y).getLsbD z <;> cases (movL A ((x + 1) % 5) y).getLsbD z <;> cases (movL A ((x + 2) % 5) y).getLsbD z <;> rfl
theorem round_bits (A : Nat → BitVec 64) : ∀ j, j < 1600 → chiB (piB (rhoB (thetaB (bitsM A)))) j = bitsM (roundL A) j := by
  intro j hj
  have e : j = 320 * (j / 320) + 64 * (j / 64 % 5) + j % 64 := by omega
  have h := round_bit A (j / 320) (j / 64 % 5) (j % 64) (by omega) (by omega) (by omega)
  rw [← e] at h
  rw [h]
  rfl
theorem iota_bits (k : Nat) (A : Nat → BitVec 64) : ∀ j, j < 1600 → iotaB k (bitsM A) j = bitsM (iotaL k A) j := by
  intro j hj
  simp only [iotaB, bitsM, iotaL]
  by_cases h : j < 64
  · rw [if_pos h, if_pos (show 5 * (j / 64 % 5) + j / 320 = 0 by omega), show 5 * (j / 64 % 5) + j / 320 = 0 by omega, show j % 64 = j by omega, BitVec.getLsbD_xor]
  · rw [if_neg h, if_neg (show ¬ 5 * (j / 64 % 5) + j / 320 = 0 by omega)]
theorem perm_bits (A : Nat → BitVec 64) : ∀ k, ∀ j, j < 1600 → permB (bitsM A) k j = bitsM (permL A k) j
  | 0 => fun _ _ => rfl
  | k + 1 => fun j hj => by
    simp only [permB, permL]
    rw [← iota_bits k _ j hj]
    refine iotaB_congr k (fun j hj => ?_) j hj
    rw [← round_bits _ j hj]
    exact chiB_congr (piB_congr (rhoB_congr (thetaB_congr (perm_bits A k)))) j hj
theorem toM_bitsL (A : Nat → BitVec 64) : ∀ j, j < 1600 → toM (bitsL A) j = bitsM A j := by
  intro j hj
  simp only [toM, bitsL, bitsM]
  rw [show (64 * (5 * (j / 64 % 5) + j / 320) + j % 64) / 64 = 5 * (j / 64 % 5) + j / 320 by omega, show (64 * (5 * (j / 64 % 5) + j / 320) + j % 64) % 64 = j % 64 by omega]
/-- **The permutation on lanes is the permutation on bits.** -/
theorem kF_bitsL (A : Nat → BitVec 64) : ∀ i, i < 1600 → kF (bitsL A) i = bitsL (permL A 24) i := by
  intro i hi
  simp only [kF, ofM]
  rw [permB_congr (toM_bitsL A) 24 _ (by omega), perm_bits A 24 _ (by omega)]
  rw [bitsM_at _ _ _ _ (by omega) (by omega)]
  simp only [bitsL]
  rw [show 5 * (i / 320) + i / 64 % 5 = i / 64 by omega]

/-! ### The register and the walk of the offsets -/
def turnR (r : Nat → Bool) (i : Nat) : Bool := if i = 0 then r 7 else if i = 4 ∨ i = 5 ∨ i = 6 then (r (i - 1) != r 7) else r (i - 1)
def regAt : Nat → (Nat → Bool)
  | 0 => fun i => decide (i = 0)
  | t + 1 => turnR (regAt t)
def constTo (i : Nat) : Nat → BitVec 64
  | 0 => 0
  | j + 1 => if regAt (7 * i + j) 0 then constTo i j ||| (1 <<< (2 ^ j - 1)) else constTo i j
def uv : Nat → Nat × Nat
  | 0 => (1, 0)
  | t + 1 => ((uv t).2, (2 * (uv t).1 + 3 * (uv t).2) % 5)
/-- The register as eight Bools, for the reckoning. -/
def turn8 : Bool × Bool × Bool × Bool × Bool × Bool × Bool × Bool → Bool × Bool × Bool × Bool × Bool × Bool × Bool × Bool
  | (a, b, c, d, e, f, g, h) => (h, a, b, c, (d != h), (e != h), (f != h), g)
def reg8 : Nat → Bool × Bool × Bool × Bool × Bool × Bool × Bool × Bool
  | 0 => (true, false, false, false, false, false, false, false)
  | t + 1 => turn8 (reg8 t)
theorem reg8_eq : ∀ t, reg8 t = (regAt t 0, regAt t 1, regAt t 2, regAt t 3, regAt t 4, regAt t 5, regAt t 6, regAt t 7)
  | 0 => rfl
  | t + 1 => by
    simp only [reg8, reg8_eq t, turn8, regAt, turnR]
    simp
def const8To (i : Nat) : Nat → BitVec 64
  | 0 => 0
  | j + 1 => if (reg8 (7 * i + j)).1 then const8To i j ||| (1 <<< (2 ^ j - 1)) else const8To i j
theorem const8_eq (i : Nat) : ∀ j, const8To i j = constTo i j
  | 0 => rfl
  | j + 1 => by simp only [const8To, constTo, reg8_eq, const8_eq i j]
theorem const_rc8 : ∀ i, i < 24 → const8To i 7 = rc i := by decide +kernel
theorem const_rc (i : Nat) (hi : i < 24) : constTo i 7 = rc i := by rw [← const8_eq]; exact const_rc8 i hi
theorem uv_lt : ∀ t, (uv t).1 < 5 ∧ (uv t).2 < 5
  | 0 => by decide
  | t + 1 => ⟨(uv_lt t).2, Nat.mod_lt _ (by decide)⟩
theorem uv_off : ∀ x, x < 5 → ∀ y, y < 5 → ∀ t, t < 24 → uv t = (x, y) → (t + 1) * (t + 2) / 2 % 64 = off x y := by decide +kernel
theorem uv_none : ∀ x, x < 5 → ∀ y, y < 5 → (∀ t, t < 24 → uv t ≠ (x, y)) → off x y = 0 := by decide +kernel
end Go.Proofs.Ygcsah.K
