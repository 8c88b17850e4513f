/-
  The register's turn, Const (the round constants run from the register), Offset (the rotation offsets run from the walk).
-/
import Derived.Test.YgcsahLeaf
import Derived.Test.YgcsahTail
namespace Go.Proofs.Ygcsah
open Go.RowKit Go.BigFrame
set_option maxHeartbeats 1000000

/-- A row of Bools. -/
def brow (n : Nat) (g : Nat → Bool) : Array Value := rowF n fun i => .bool (g i)
theorem brow_cell {w : World} {b T n : Nat} {g : Nat → Bool} (h : Row w b T (brow n g)) {o : Nat} (ho : o < n) : w.cell? ⟨b, o, none⟩ = some (.bool (g o)) := h.cellF (f := fun i => .bool (g i)) ho
theorem brow_set {w : World} {b T n : Nat} {g g' : Nat → Bool} (h : Row w b T (brow n g)) (o : Nat) (v : Bool) (e : ∀ i, i < n → (if i = o then v else g i) = g' i) : Row (w.setCell ⟨b, o, none⟩ (.bool v)) b T (brow n g') := by
  refine h.setF (f := fun i => .bool (g i)) o _ ?_
  intro i hi
  rw [← e i hi]
  unfold upd
  split <;> rfl
theorem brow_put {w : World} {b T n : Nat} {g : Nat → Bool} (h : Row w b T (brow n g)) (o : Nat) (v : Bool) : Row (w.setCell ⟨b, o, none⟩ (.bool v)) b T (brow n fun i => if i = o then v else g i) :=
  brow_set h o v fun _ _ => rfl
theorem brow_congr {w : World} {b T n : Nat} {g g' : Nat → Bool} (h : Row w b T (brow n g)) (e : ∀ i, i < n → g i = g' i) : Row w b T (brow n g') :=
  h.congr (f := fun i => .bool (g i)) fun i hi => by rw [e i hi]

section
attribute [local go_sem] cell?_At frozen?_At heap_At
theorem turn_any (b T : Nat) (r : Nat → Bool) (w : World) (hr : Row w b T (brow 8 r)) :
    Calls Sahg.prog 26 #[.pointer (some ⟨b, 0, none⟩)] w fun e w' => e = .returned (.tuple #[]) ∧ Row w' b T (brow 8 (K.turnR r)) ∧ Fr (blk b) w w' := by
  have c7 : w.cell? ⟨b, 7, none⟩ = some (.bool (r 7)) := brow_cell hr (by omega)
  go_enter Sahg.func26, Sahg.ntmps26
  go_wp2
  go_loopw [3] (fun i w' => ∃ k : Nat, k ≤ 7 ∧ i = .int .i64 k ∧ Row w' b T (brow 8 fun j => if k < j then r (j - 1) else r j) ∧ Fr (blk b) w w') (fun i _ => (intOf i).toNat)
  case atStart => exact ⟨7, by omega, rfl, brow_congr hr (fun i hi => by rw [if_neg (by omega)]), Fr.refl _ _⟩
  case round =>
    obtain ⟨k, hk, rfl, hrk, hfr⟩ := hrel
    by_cases hlt : 0 < k
    · obtain ⟨m, rfl⟩ : ∃ m, k = m + 1 := ⟨k - 1, by omega⟩
      have hc : wr.cell? ⟨b, m, none⟩ = some (.bool (r m)) := by have := brow_cell hrk (show m < 8 by omega); rw [if_neg (by omega)] at this; exact this
      have hc1 : wr.cell? ⟨b, m + 1, none⟩ = some (.bool (r (m + 1))) := by have := brow_cell hrk (show m + 1 < 8 by omega); rw [if_neg (by omega)] at this; exact this
      have hfz := hrk.frozen (m + 1)
      go_wp2
      refine region_tail 10 (by kernel_rfl) (by kernel_rfl) ?_
      simp only [List.take_succ_cons, List.take_zero, List.drop_succ_cons, List.drop_zero]
      repeat (go_big_quiet_step (fail))
      refine wpQuiet_nil ?_
      go_wp2
      refine ⟨⟨m, by omega, rfl, ?_, ?_⟩, by simp [intOf]⟩
      · refine Row.drew (brow_set hrk (m + 1) _ ?_)
        intro i hi
        by_cases h1 : i = m + 1
        · subst h1; simp
        · by_cases h2 : m + 1 < i
          · rw [if_neg h1, if_pos h2, if_pos (by omega)]
          · rw [if_neg h1, if_neg h2, if_neg (by omega)]
      · exact Fr.drew (Fr.set1 hfr _)
    · obtain rfl : k = 0 := by omega
      have c0 : wr.cell? ⟨b, 0, none⟩ = some (.bool (r 0)) := brow_cell hrk (by omega)
      have c4 : wr.cell? ⟨b, 4, none⟩ = some (.bool (r 3)) := brow_cell hrk (by omega)
      have c5 : wr.cell? ⟨b, 5, none⟩ = some (.bool (r 4)) := brow_cell hrk (by omega)
      have c6 : wr.cell? ⟨b, 6, none⟩ = some (.bool (r 5)) := brow_cell hrk (by omega)
      have hfz := hrk.frozen
      go_wp2
      refine region_tail 9 (by kernel_rfl) (by kernel_rfl) ?_
      simp only [List.take_succ_cons, List.take_zero, List.drop_succ_cons, List.drop_zero]
      repeat (go_big_quiet_step (fail))
      refine wpQuiet_nil ?_
      go_wp2
      refine region_tail 9 (by kernel_rfl) (by kernel_rfl) ?_
      simp only [List.take_succ_cons, List.take_zero, List.drop_succ_cons, List.drop_zero]
      repeat (go_big_quiet_step (fail))
      refine wpQuiet_nil ?_
      go_wp2
      refine region_tail 9 (by kernel_rfl) (by kernel_rfl) ?_
      simp only [List.take_succ_cons, List.take_zero, List.drop_succ_cons, List.drop_zero]
      repeat (go_big_quiet_step (fail))
      refine wpQuiet_nil ?_
      go_wp2
      go_end0
      refine ⟨rfl, Row.drew (Row.drew (Row.drew ?_)), Fr.drew (Fr.drew (Fr.drew ?_))⟩
      · refine brow_congr (brow_put (brow_put (brow_put (brow_put hrk 0 _) 4 _) 5 _) 6 _) ?_
        intro i hi
        obtain rfl | rfl | rfl | rfl | rfl | rfl | rfl | rfl : i = 0 ∨ i = 1 ∨ i = 2 ∨ i = 3 ∨ i = 4 ∨ i = 5 ∨ i = 6 ∨ i = 7 := by omega
        all_goals rfl
      · exact Fr.set1 (Fr.set1 (Fr.set1 (Fr.set1 hfr _) _) _) _

theorem or_c0 (c : BitVec 64) : bits .or .u64 (u c) 1 = u (if true = true then c ||| (1 <<< (2 ^ 0 - 1)) else c) := bits_or_u c (1 <<< (2 ^ 0 - 1))
theorem or_c1 (c : BitVec 64) : bits .or .u64 (u c) 2 = u (if true = true then c ||| (1 <<< (2 ^ 1 - 1)) else c) := bits_or_u c (1 <<< (2 ^ 1 - 1))
theorem or_c2 (c : BitVec 64) : bits .or .u64 (u c) 8 = u (if true = true then c ||| (1 <<< (2 ^ 2 - 1)) else c) := bits_or_u c (1 <<< (2 ^ 2 - 1))
theorem or_c3 (c : BitVec 64) : bits .or .u64 (u c) 128 = u (if true = true then c ||| (1 <<< (2 ^ 3 - 1)) else c) := bits_or_u c (1 <<< (2 ^ 3 - 1))
theorem or_c4 (c : BitVec 64) : bits .or .u64 (u c) 32768 = u (if true = true then c ||| (1 <<< (2 ^ 4 - 1)) else c) := bits_or_u c (1 <<< (2 ^ 4 - 1))
theorem or_c5 (c : BitVec 64) : bits .or .u64 (u c) 2147483648 = u (if true = true then c ||| (1 <<< (2 ^ 5 - 1)) else c) := bits_or_u c (1 <<< (2 ^ 5 - 1))
theorem or_c6 (c : BitVec 64) : bits .or .u64 (u c) 9223372036854775808 = u (if true = true then c ||| (1 <<< (2 ^ 6 - 1)) else c) := bits_or_u c (1 <<< (2 ^ 6 - 1))
set_option maxRecDepth 100000 in
set_option maxHeartbeats 4000000 in
theorem const_any (i : Nat) (hi : i < 24) (w : World) :
    Calls Sahg.prog 24 #[.int .u8 i] w fun e w' => e = .returned (.int .u64 (u (K.rc i))) ∧ Fr nob w w' := by
  rw [← K.const_rc i hi]
  have hl : ¬ (24 : Int) ≤ (i : Int) := by omega
  have hi7 : 7 * (i : Int) ≤ 161 := by omega
  go_enter Sahg.func24, Sahg.ntmps24
  go_wp2
  go_loopw [4] (fun t w' => ∃ k : Nat, k ≤ 7 * i ∧ t = .int .i64 k ∧ Row w' w.heap.size 62 (brow 8 (K.regAt k)) ∧ Fr nob w w') (fun t _ => (7 * i - (intOf t).toNat))
  case atStart => exact ⟨0, by omega, rfl, Row.new w 62 _, (Fr.refl _ _).alloc _ _⟩
  case round =>
    obtain ⟨k, hk, rfl, hrk, hfr⟩ := hrel
    by_cases hlt : k < 7 * i
    · have hlt' : (k : Int) < 7 * (i : Int) := by omega
      go_wp2_with (go_at_call 26; refine (turn_any _ _ _ _ hrk).mono ?_; rintro e w2 ⟨rfl, hr2, hf2⟩)
      refine ⟨⟨k + 1, by omega, by go_num, hr2, hfr.trans hf2 (fun x hx h => ?_)⟩, by simp [intOf]; omega⟩
      exact absurd h (by unfold blk; omega)
    · obtain rfl : k = 7 * i := by omega
      have hlt' : ¬ (7 * (i : Int)) < 7 * (i : Int) := by omega
      clear hlt
      go_wp2
      go_loopw [5, 6] (fun c t w' => ∃ k : Nat, k ≤ 7 ∧ t = .int .i64 k ∧ c = .int .u64 (u (K.constTo i k)) ∧ Row w' w.heap.size 62 (brow 8 (K.regAt (7 * i + k))) ∧ Fr nob w w') (fun _ t _ => (7 - (intOf t).toNat))
      case atStart => exact ⟨0, by omega, rfl, rfl, hrk, hfr⟩
      case round =>
        obtain ⟨k, hk, rfl, rfl, hrk2, hfr2⟩ := hrel
        have hc0 : wr.cell? ⟨w.heap.size, 0, none⟩ = some (.bool (K.regAt (7 * i + k) 0)) := brow_cell hrk2 (by omega)
        by_cases hlt : k < 7
        · have hs : K.constTo i (k + 1) = if K.regAt (7 * i + k) 0 then K.constTo i k ||| (1 <<< (2 ^ k - 1)) else K.constTo i k := rfl
          have H : Hid (K.constTo i (k + 1) = if K.regAt (7 * i + k) 0 then K.constTo i k ||| (1 <<< (2 ^ k - 1)) else K.constTo i k) := hs
          clear hs
          generalize K.constTo i k = ck at *
          generalize hrb : K.regAt (7 * i + k) 0 = rb at *
          cases rb
          · obtain rfl | rfl | rfl | rfl | rfl | rfl | rfl : k = 0 ∨ k = 1 ∨ k = 2 ∨ k = 3 ∨ k = 4 ∨ k = 5 ∨ k = 6 := by omega
            · go_wp2_with (go_at_call 26; refine (turn_any _ _ _ _ hrk2).mono ?_; rintro e w2 ⟨rfl, hr2, hf2⟩)
              refine ⟨⟨1, by omega, rfl, ?_, hr2, hfr2.trans hf2 (fun x hx h => absurd h (by unfold blk; omega))⟩, by simp [intOf]⟩
              rw [H.out]
              rfl
            · go_wp2_with (go_at_call 26; refine (turn_any _ _ _ _ hrk2).mono ?_; rintro e w2 ⟨rfl, hr2, hf2⟩)
              refine ⟨⟨2, by omega, rfl, ?_, hr2, hfr2.trans hf2 (fun x hx h => absurd h (by unfold blk; omega))⟩, by simp [intOf]⟩
              rw [H.out]
              rfl
            · go_wp2_with (go_at_call 26; refine (turn_any _ _ _ _ hrk2).mono ?_; rintro e w2 ⟨rfl, hr2, hf2⟩)
              refine ⟨⟨3, by omega, rfl, ?_, hr2, hfr2.trans hf2 (fun x hx h => absurd h (by unfold blk; omega))⟩, by simp [intOf]⟩
              rw [H.out]
              rfl
            · go_wp2_with (go_at_call 26; refine (turn_any _ _ _ _ hrk2).mono ?_; rintro e w2 ⟨rfl, hr2, hf2⟩)
              refine ⟨⟨4, by omega, rfl, ?_, hr2, hfr2.trans hf2 (fun x hx h => absurd h (by unfold blk; omega))⟩, by simp [intOf]⟩
              rw [H.out]
              rfl
            · go_wp2_with (go_at_call 26; refine (turn_any _ _ _ _ hrk2).mono ?_; rintro e w2 ⟨rfl, hr2, hf2⟩)
              refine ⟨⟨5, by omega, rfl, ?_, hr2, hfr2.trans hf2 (fun x hx h => absurd h (by unfold blk; omega))⟩, by simp [intOf]⟩
              rw [H.out]
              rfl
            · go_wp2_with (go_at_call 26; refine (turn_any _ _ _ _ hrk2).mono ?_; rintro e w2 ⟨rfl, hr2, hf2⟩)
              refine ⟨⟨6, by omega, rfl, ?_, hr2, hfr2.trans hf2 (fun x hx h => absurd h (by unfold blk; omega))⟩, by simp [intOf]⟩
              rw [H.out]
              rfl
            · go_wp2_with (go_at_call 26; refine (turn_any _ _ _ _ hrk2).mono ?_; rintro e w2 ⟨rfl, hr2, hf2⟩)
              refine ⟨⟨7, by omega, rfl, ?_, hr2, hfr2.trans hf2 (fun x hx h => absurd h (by unfold blk; omega))⟩, by simp [intOf]⟩
              rw [H.out]
              rfl
          · obtain rfl | rfl | rfl | rfl | rfl | rfl | rfl : k = 0 ∨ k = 1 ∨ k = 2 ∨ k = 3 ∨ k = 4 ∨ k = 5 ∨ k = 6 := by omega
            · go_wp2_with (go_at_call 26; refine (turn_any _ _ _ _ hrk2).mono ?_; rintro e w2 ⟨rfl, hr2, hf2⟩)
              refine ⟨⟨1, by omega, rfl, ?_, hr2, hfr2.trans hf2 (fun x hx h => absurd h (by unfold blk; omega))⟩, by simp [intOf]⟩
              rw [H.out]
              exact congrArg (Value.int .u64) (or_c0 ck)
            · go_wp2_with (go_at_call 26; refine (turn_any _ _ _ _ hrk2).mono ?_; rintro e w2 ⟨rfl, hr2, hf2⟩)
              refine ⟨⟨2, by omega, rfl, ?_, hr2, hfr2.trans hf2 (fun x hx h => absurd h (by unfold blk; omega))⟩, by simp [intOf]⟩
              rw [H.out]
              exact congrArg (Value.int .u64) (or_c1 ck)
            · go_wp2_with (go_at_call 26; refine (turn_any _ _ _ _ hrk2).mono ?_; rintro e w2 ⟨rfl, hr2, hf2⟩)
              refine ⟨⟨3, by omega, rfl, ?_, hr2, hfr2.trans hf2 (fun x hx h => absurd h (by unfold blk; omega))⟩, by simp [intOf]⟩
              rw [H.out]
              exact congrArg (Value.int .u64) (or_c2 ck)
            · go_wp2_with (go_at_call 26; refine (turn_any _ _ _ _ hrk2).mono ?_; rintro e w2 ⟨rfl, hr2, hf2⟩)
              refine ⟨⟨4, by omega, rfl, ?_, hr2, hfr2.trans hf2 (fun x hx h => absurd h (by unfold blk; omega))⟩, by simp [intOf]⟩
              rw [H.out]
              exact congrArg (Value.int .u64) (or_c3 ck)
            · go_wp2_with (go_at_call 26; refine (turn_any _ _ _ _ hrk2).mono ?_; rintro e w2 ⟨rfl, hr2, hf2⟩)
              refine ⟨⟨5, by omega, rfl, ?_, hr2, hfr2.trans hf2 (fun x hx h => absurd h (by unfold blk; omega))⟩, by simp [intOf]⟩
              rw [H.out]
              exact congrArg (Value.int .u64) (or_c4 ck)
            · go_wp2_with (go_at_call 26; refine (turn_any _ _ _ _ hrk2).mono ?_; rintro e w2 ⟨rfl, hr2, hf2⟩)
              refine ⟨⟨6, by omega, rfl, ?_, hr2, hfr2.trans hf2 (fun x hx h => absurd h (by unfold blk; omega))⟩, by simp [intOf]⟩
              rw [H.out]
              exact congrArg (Value.int .u64) (or_c5 ck)
            · go_wp2_with (go_at_call 26; refine (turn_any _ _ _ _ hrk2).mono ?_; rintro e w2 ⟨rfl, hr2, hf2⟩)
              refine ⟨⟨7, by omega, rfl, ?_, hr2, hfr2.trans hf2 (fun x hx h => absurd h (by unfold blk; omega))⟩, by simp [intOf]⟩
              rw [H.out]
              exact congrArg (Value.int .u64) (or_c6 ck)
        · obtain rfl : k = 7 := by omega
          go_wp2
          go_ret
          exact ⟨rfl, hfr2⟩
end
end Go.Proofs.Ygcsah
