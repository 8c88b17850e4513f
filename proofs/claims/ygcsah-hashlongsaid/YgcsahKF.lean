/-
  kmodel.F: the permutation on single bits.
-/
import Derived.Test.YgcsahTheta
import Derived.Test.YgcsahPi
import Derived.Test.YgcsahChi
import Derived.Test.YgcsahIota
namespace Go.Proofs.Ygcsah
open Go.RowKit Go.BigFrame
set_option maxHeartbeats 4000000
set_option maxRecDepth 100000

/-- The first I bits of s laid into the model's layout. -/
def fg (s : Nat → Bool) (I j : Nat) : Bool := if 64 * (5 * (j / 64 % 5) + j / 320) + j % 64 < I then K.toM s j else false
theorem fg_step (s : Nat → Bool) (I A B C i : Nat) (hI : I < 1600) (hi : i < 1600) (hA : A = I / 64 % 5) (hB : B = I / 320) (hC : C = I % 64) : (if i = A * 320 + B * 64 + C then s I else fg s I i) = fg s (I + 1) i := by
  subst hA; subst hB; subst hC
  unfold fg
  by_cases h : i = I / 64 % 5 * 320 + I / 320 * 64 + I % 64
  · have e1 : i / 320 = I / 64 % 5 := by omega
    have e2 : i / 64 % 5 = I / 320 := by omega
    have e3 : i % 64 = I % 64 := by omega
    rw [if_pos h, if_pos (by rw [e1, e2, e3]; omega)]
    simp only [K.toM]
    rw [e1, e2, e3]
    congr 1; omega
  · rw [if_neg h]
    by_cases h1 : 64 * (5 * (i / 64 % 5) + i / 320) + i % 64 < I
    · rw [if_pos h1, if_pos (by omega)]
    · rw [if_neg h1, if_neg]
      intro h2
      have e0 : I = 64 * (5 * (i / 64 % 5) + i / 320) + i % 64 := by omega
      have e1 : I / 64 = 5 * (i / 64 % 5) + i / 320 := by omega
      have e2 : I / 64 % 5 = i / 320 := by omega
      have e3 : I / 320 = i / 64 % 5 := by omega
      have e4 : I % 64 = i % 64 := by omega
      exact h (by rw [e2, e3, e4]; omega)
def bg (s G : Nat → Bool) (I i : Nat) : Bool := if i < I then K.ofM G i else s i
theorem bg_step (s G : Nat → Bool) (I A B C i : Nat) (hA : A = I / 64 % 5) (hB : B = I / 320) (hC : C = I % 64) : (if i = I then G (A * 320 + B * 64 + C) else bg s G I i) = bg s G (I + 1) i := by
  unfold bg
  by_cases h : i = I
  · rw [if_pos h, if_pos (by omega), h]
    simp only [K.ofM]
    rw [← hA, ← hB, ← hC, Nat.mul_comm 320 A, Nat.mul_comm 64 B]
  · by_cases h1 : i < I
    · rw [if_neg h, if_pos h1, if_pos (by omega)]
    · rw [if_neg h, if_neg h1, if_neg (by omega)]

/-- 'x := f()' at an array's type: a variable is made and the value laid into it. -/
theorem wpList_new {P : Program} {ops : Array Oper} {rest : List Oper} {o1 o2 : Oper} {a : Act} {w : World} {Q : Exit → Act → World → Prop} (hg1 : o1.guard = none) (hg2 : o2.guard = none) (ty : TypeId) (ho1 : o1.op = .alloc ty) (x y : Operand)
    (ho2 : o2.op = .store ty x y) (cells Z : Array Value) (hx : (a.put o1.dst (.pointer (some ⟨w.heap.size, 0, none⟩))).eval x = .pointer (some ⟨w.heap.size, 0, none⟩)) (hy : (a.put o1.dst (.pointer (some ⟨w.heap.size, 0, none⟩))).eval y = .agg cells)
    (hz : (zeroValue ty).run P w = .ok (.agg Z) w) (hi : (P.info? ty).map (·.size) = some cells.size) (hold : Z.size = cells.size) (h1 : cells.all (·.oneCell') = true)
    (h : wpList P ops Q rest ((a.put o1.dst (.pointer (some ⟨w.heap.size, 0, none⟩))).put o2.dst undef) (w.alloc (.cells cells ty))) : wpList P ops Q (o1 :: o2 :: rest) a w := by
  refine wpList_alloc_row hg1 ty ho1 Z hz (wpList_store_row hg2 ty x y ho2 w.heap.size cells hx hy ty Z (Row.new w ty Z) hi hold h1 ?_)
  rw [World.setRow_alloc_new]
  exact h

section
attribute [local go_sem] cell?_At frozen?_At heap_At
theorem kf_any (b T : Nat) (s : Nat → Bool) (w : World) (hr : Row w b T (brow 1600 s)) :
    Calls Sahg.prog 11 #[.pointer (some ⟨b, 0, none⟩)] w fun e w' => e = .returned (.tuple #[]) ∧ Row w' b T (brow 1600 (K.kF s)) ∧ Fr (blk b) w w' := by
  have hbs := hr.lt
  go_enter Sahg.func11, Sahg.ntmps11
  go_wp2_with (refine wpList_alloc_row rfl 49 rfl _ (zero49 _) ?_)
  go_loopw [12] (fun i w' => ∃ I : Nat, I ≤ 1600 ∧ i = .int .i64 I ∧ Row w' w.heap.size 49 (brow 1600 (fg s I)) ∧ Fr nob w w') (fun i _ => 1600 - (intOf i).toNat)
  case atStart => exact ⟨0, by omega, rfl, brow_congr (Row.new w 49 _) (fun i _ => by unfold fg; rw [if_neg (by omega)]), (Fr.refl _ _).alloc _ _⟩
  case round =>
    obtain ⟨I, hI, rfl, hA, hF⟩ := hrel
    by_cases hlt : I < 1600
    · obtain ⟨A, eA'⟩ : ∃ A, A = I / 64 % 5 := ⟨_, rfl⟩
      obtain ⟨B, eB'⟩ : ∃ B, B = I / 320 := ⟨_, rfl⟩
      obtain ⟨C, eC'⟩ : ∃ C, C = I % 64 := ⟨_, rfl⟩
      have eA : (I : Int) / 64 % 5 = (A : Int) := by omega
      have eB : (I : Int) / 320 = (B : Int) := by omega
      have eC : (I : Int) % 64 = (C : Int) := by omega
      have hA5 : A < 5 := by omega
      have hB5 : B < 5 := by omega
      have hC64 : C < 64 := by omega
      have HA : Hid (A = I / 64 % 5) := eA'
      have HB : Hid (B = I / 320) := eB'
      have HC : Hid (C = I % 64) := eC'
      clear eA' eB' eC'
      have c1 : wr.cell? ⟨b, I, none⟩ = some (.bool (s I)) := brow_cell (hF.row hr (fun h => h)) hlt
      have c2 : ∃ v, wr.cell? ⟨w.heap.size, A * 320 + B * 64 + C, none⟩ = some (.bool v) := ⟨_, brow_cell hA (by omega)⟩
      obtain ⟨v2, c2⟩ := c2
      have hfz := hA.frozen (A * 320 + B * 64 + C)
      go_wp2
      go_quiet (fail)
      go_wp2
      refine ⟨⟨I + 1, by omega, by go_num, ?_, ?_⟩, by simp [intOf]; omega⟩
      · exact brow_set (hA.drewN _) _ _ (fun i hi => fg_step s I A B C i hlt hi HA.out HB.out HC.out)
      · exact Fr.setNew (hF.drewN _) (Nat.le_refl _) _
    · obtain rfl : I = 1600 := by omega
      have hA0 : Row wr w.heap.size 49 (brow 1600 (K.permB (K.toM s) 0)) := brow_congr hA (fun j hj => by unfold fg; rw [if_pos (by omega)]; rfl)
      clear hA hI hlt
      go_wp2
      go_loopw [5] (fun i w' => ∃ k : Nat, k ≤ 24 ∧ i = .int .u8 k ∧ Row w' w.heap.size 49 (brow 1600 (K.permB (K.toM s) k)) ∧ Fr nob w w') (fun i _ => 24 - (intOf i).toNat)
      case atStart => exact ⟨0, by omega, rfl, hA0, hF⟩
      case round =>
        clear hA0 hF
        obtain ⟨k, hk, rfl, hA, hF⟩ := hrel
        by_cases hltk : k < 24
        · go_wp2_with fail
          refine (theta_any _ _ _ _ hA).mono ?_
          rintro e w1 ⟨rfl, hA1, hF1⟩
          go_wp2_with fail
          refine (rho_any _ _ _ _ hA1).mono ?_
          rintro e w2 ⟨rfl, hF2⟩
          have hA2 := hF2.row hA1 (fun h => h)
          go_wp2_with (refine wpList_new rfl rfl 49 rfl _ _ rfl (brow 1600 (K.rhoB (K.thetaB (K.permB (K.toM s) k)))) (brow 1600 fun _ => false) (by rfl) (by rfl) (zero49 _) (by rw [brow_size]; exact size49) (by rw [brow_size, brow_size]) (brow_one _ _) ?_; simp only [Act.put, List.setIfInBounds_toArray, List.set_cons_succ, List.set_cons_zero])
          have hA3 := hA2.alloc (.cells (brow 1600 (K.rhoB (K.thetaB (K.permB (K.toM s) k)))) 49)
          refine (pi_any _ _ _ _ (Row.new w2 49 (brow 1600 (K.rhoB (K.thetaB (K.permB (K.toM s) k)))))).mono ?_
          rintro e w3 ⟨rfl, hF3⟩
          have hA4 := (hF3.row hA3 (fun h => h)).alloc (.cells (brow 1600 (K.piB (K.rhoB (K.thetaB (K.permB (K.toM s) k))))) 49)
          go_wp2_with (refine wpList_new rfl rfl 49 rfl _ _ rfl (brow 1600 (K.piB (K.rhoB (K.thetaB (K.permB (K.toM s) k))))) (brow 1600 fun _ => false) (by rfl) (by rfl) (zero49 _) (by rw [brow_size]; exact size49) (by rw [brow_size, brow_size]) (brow_one _ _) ?_; simp only [Act.put, List.setIfInBounds_toArray, List.set_cons_succ, List.set_cons_zero])
          refine (chi_any _ _ _ _ (Row.new w3 49 (brow 1600 (K.piB (K.rhoB (K.thetaB (K.permB (K.toM s) k))))))).mono ?_
          rintro e w4 ⟨rfl, hF4⟩
          have hA5 := hF4.row hA4 (fun h => h)
          go_wp2_with (refine wpList_store_row rfl 49 _ _ rfl w.heap.size (brow 1600 (K.chiB (K.piB (K.rhoB (K.thetaB (K.permB (K.toM s) k)))))) (by rfl) (by rfl) 49 (brow 1600 (K.thetaB (K.permB (K.toM s) k))) hA5 (by rw [brow_size]; exact size49) (by rw [brow_size, brow_size]) (brow_one _ _) ?_; simp only [Act.put])
          refine (iota_any _ _ _ k hltk _ (hA5.setRow (brow 1600 (K.chiB (K.piB (K.rhoB (K.thetaB (K.permB (K.toM s) k)))))))).mono ?_
          rintro e w5 ⟨rfl, hA6, hF5⟩
          have hno : ∀ j, j < w.heap.size → blk w.heap.size j → nob j := fun j hj h => absurd h (not_blk (by omega))
          have hF6 := (((((hF.trans hF1 hno).trans hF2 (fun _ _ h => h)).alloc (brow 1600 (K.rhoB (K.thetaB (K.permB (K.toM s) k)))) 49).trans hF3 (fun _ _ h => h)).alloc (brow 1600 (K.piB (K.rhoB (K.thetaB (K.permB (K.toM s) k))))) 49).trans hF4 (fun _ _ h => h)
          have hF7 := (hF6.setRow (.inl (Nat.le_refl _)) (brow 1600 (K.chiB (K.piB (K.rhoB (K.thetaB (K.permB (K.toM s) k))))))).trans hF5 hno
          clear hA hA1 hA2 hA3 hA4 hA5 hF hF1 hF2 hF3 hF4 hF5 hF6
          go_wp2
          go_roundw
          case rel => first | exact ⟨k + 1, by omega, by go_num, hA6, hF7⟩ | ((repeat apply Exists.intro); exact ⟨⟨k + 1, by omega, by go_num, hA6, hF7⟩, rfl⟩)
          case measure => simp [intOf]; omega
        · obtain rfl : k = 24 := by omega
          have hS := hF.row hr (fun h => h)
          go_wp2
          go_loopw [40] (fun i w' => ∃ I : Nat, I ≤ 1600 ∧ i = .int .i64 I ∧ Row w' b T (brow 1600 (bg s (K.permB (K.toM s) 24) I)) ∧ Row w' w.heap.size 49 (brow 1600 (K.permB (K.toM s) 24)) ∧ Fr (blk b) w w') (fun i _ => 1600 - (intOf i).toNat)
          case atStart => exact ⟨0, by omega, rfl, brow_congr hS (fun i _ => by unfold bg; rw [if_neg (by omega)]), hA, hF.any⟩
          case round =>
            clear hA hF hS
            obtain ⟨I, hI, rfl, hS, hA, hF⟩ := hrel
            by_cases hlt : I < 1600
            · obtain ⟨A, eA'⟩ : ∃ A, A = I / 64 % 5 := ⟨_, rfl⟩
              obtain ⟨B, eB'⟩ : ∃ B, B = I / 320 := ⟨_, rfl⟩
              obtain ⟨C, eC'⟩ : ∃ C, C = I % 64 := ⟨_, rfl⟩
              have eA : (I : Int) / 64 % 5 = (A : Int) := by omega
              have eB : (I : Int) / 320 = (B : Int) := by omega
              have eC : (I : Int) % 64 = (C : Int) := by omega
              have hA5 : A < 5 := by omega
              have hB5 : B < 5 := by omega
              have hC64 : C < 64 := by omega
              have HA : Hid (A = I / 64 % 5) := eA'
              have HB : Hid (B = I / 320) := eB'
              have HC : Hid (C = I % 64) := eC'
              clear eA' eB' eC'
              have c1 : wr.cell? ⟨w.heap.size, A * 320 + B * 64 + C, none⟩ = some (.bool (K.permB (K.toM s) 24 (A * 320 + B * 64 + C))) := brow_cell hA (by omega)
              have c2 : ∃ v, wr.cell? ⟨b, I, none⟩ = some (.bool v) := ⟨_, brow_cell hS (by omega)⟩
              obtain ⟨v2, c2⟩ := c2
              have hfz := hS.frozen I
              generalize K.permB (K.toM s) 24 = G at *
              go_wp2
              refine region_tail 15 (by kernel_rfl) (by kernel_rfl) ?_
              simp only [List.take_succ_cons, List.take_zero, List.drop_succ_cons, List.drop_zero]
              repeat (go_big_quiet_step (fail))
              refine wpQuiet_nil ?_
              go_wp2
              go_roundw
              case rel =>
                refine ⟨I + 1, by omega, by go_num, ?_, ?_, ?_⟩
                · exact Row.drew (brow_set hS _ _ (fun i _ => bg_step s G I A B C i HA.out HB.out HC.out))
                · exact Row.drew (hA.other (show w.heap.size ≠ b by omega) _)
                · exact Fr.drew (Fr.set1 hF _)
              case measure => simp [intOf]; omega
            · obtain rfl : I = 1600 := by omega
              go_wp2
              go_end0
              refine ⟨rfl, brow_congr hS (fun i hi => ?_), hF⟩
              unfold bg
              rw [if_pos hi]
              rfl
end
end Go.Proofs.Ygcsah
