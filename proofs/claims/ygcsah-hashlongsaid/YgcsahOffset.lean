/-
  Offset: the rotation offsets run from the walk.
-/
import Derived.Test.YgcsahLeaf
import Derived.Test.YgcsahTail
namespace Go.Proofs.Ygcsah
open Go.RowKit
set_option maxHeartbeats 1000000

set_option maxRecDepth 100000 in
theorem offset_any (x y : Nat) (hx : x < 5) (hy : y < 5) (w : World) :
    Calls Sahg.prog 22 #[.int .u8 x, .int .u8 y] w fun e w' => e = .returned (.int .u8 (K.off x y : Nat)) ∧ w' = w := by
  have hx' : decide ((5 : Int) ≤ (x : Int)) = false := decide_eq_false (by omega)
  have hy' : decide ((5 : Int) ≤ (y : Int)) = false := decide_eq_false (by omega)
  go_enter Sahg.func22, Sahg.ntmps22
  go_wp2
  go_loop [5, 6, 7] (fun a b t => ∃ k : Nat, k ≤ 24 ∧ t = .int .i64 k ∧ a = .int .i64 ((K.uv k).1 : Nat) ∧ b = .int .i64 ((K.uv k).2 : Nat) ∧ ∀ s, s < k → K.uv s ≠ (x, y)) (fun _ _ t => 24 - (intOf t).toNat)
  case atStart => exact ⟨0, by omega, rfl, rfl, rfl, fun s hs => by omega⟩
  case round =>
    obtain ⟨k, hk, rfl, rfl, rfl, hno⟩ := hrel
    have hlt := K.uv_lt k
    have Hno : Hid (∀ s, s < k → K.uv s ≠ (x, y)) := hno
    have Hs : Hid (K.uv (k + 1) = ((K.uv k).2, (2 * (K.uv k).1 + 3 * (K.uv k).2) % 5)) := rfl
    have He : Hid (K.uv k = ((K.uv k).1, (K.uv k).2)) := rfl
    clear hno
    generalize hp : (K.uv k).1 = p at *
    generalize hq : (K.uv k).2 = q at *
    clear hp hq
    obtain ⟨hp5, hq5⟩ := hlt
    by_cases h24 : k < 24
    · by_cases h1 : p = x
      · subst h1
        by_cases h2 : q = y
        · subst h2
          have hv := K.uv_off p hx q hy k h24 He.out
          have hm1 : ((k : Int) + 1) * ((k : Int) + 2) ≤ 600 := by
            have : (k + 1) * (k + 2) ≤ 24 * 25 := Nat.mul_le_mul (by omega) (by omega)
            have e : (((k + 1) * (k + 2) : Nat) : Int) = ((k : Int) + 1) * ((k : Int) + 2) := by push_cast; rfl
            omega
          have hm0 : 0 ≤ ((k : Int) + 1) * ((k : Int) + 2) := Int.mul_nonneg (by omega) (by omega)
          have Hv : Hid ((k + 1) * (k + 2) / 2 % 64 = K.off p q) := hv
          clear hv
          go_wp2
          go_ret
          exact ⟨ret_int (by rw [← Hv.out]; push_cast; rfl), rfl⟩
        · have h2' : ((q : Int) == (y : Int)) = false := by rw [beq_eq_false_iff_ne]; omega
          go_wp2
          go_round
          case rel =>
            refine ⟨k + 1, by omega, by go_num, by rw [Hs.out], by rw [Hs.out]; exact congrArg (Value.int .i64) (by omega), fun s hs => ?_⟩
            by_cases e : s = k
            · rw [e, He.out]; intro h; exact h2 (congrArg Prod.snd h)
            · exact Hno.out s (by omega)
          case measure => simp [intOf]; omega
      · have h1' : ((p : Int) == (x : Int)) = false := by rw [beq_eq_false_iff_ne]; omega
        go_wp2
        go_round
        case rel =>
          refine ⟨k + 1, by omega, by go_num, by rw [Hs.out], by rw [Hs.out]; exact congrArg (Value.int .i64) (by omega), fun s hs => ?_⟩
          by_cases e : s = k
          · rw [e, He.out]; intro h; exact h1 (congrArg Prod.fst h)
          · exact Hno.out s (by omega)
        case measure => simp [intOf]; omega
    · obtain rfl : k = 24 := by omega
      go_wp2
      go_ret
      exact ⟨ret_int (by rw [K.uv_none x hx y hy Hno.out]; rfl), rfl⟩
end Go.Proofs.Ygcsah
