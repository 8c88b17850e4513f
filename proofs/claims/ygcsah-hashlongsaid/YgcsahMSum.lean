/-
  kmodel.Sum.
-/
import Derived.Test.YgcsahPush
import Derived.Test.YgcsahKF
namespace Go.Proofs.Ygcsah
open Go.RowKit Go.BigFrame
set_option maxHeartbeats 4000000
set_option maxRecDepth 100000

theorem absTo_step (s m : Nat → Bool) (k R i : Nat) : (if i = R then (!(s R == m (1088 * k + R))) else K.absTo s m k R i) = K.absTo s m k (R + 1) i := by
  unfold K.absTo
  by_cases h1 : i = R
  · subst h1; rw [if_pos rfl, if_pos (by omega)]; rfl
  · by_cases h2 : i < R
    · rw [if_neg h1, if_pos h2, if_pos (by omega)]
    · rw [if_neg h1, if_neg h2, if_neg (by omega)]

section
attribute [local go_sem] cell?_At frozen?_At heap_At bits_or_u8
theorem msum_any (bd n : Nat) (D : Nat → BitVec 8) (w : World) (hn : n < 600) (hd : Row w bd 5 (byrow n D)) :
    Calls Sahg.prog 6 #[.slice (some ⟨bd, 0, none⟩) n n] w fun e w' => e = .returned (.agg (byrow 32 (K.digest n D))) ∧ Fr nob w w' := by
  have hbs := hd.lt
  obtain ⟨C, hC⟩ : ∃ C, C = 8 * n + 2176 := ⟨_, rfl⟩
  have eC : 8 * (n : Int) + 2176 = (C : Int) := by omega
  have hCb : C ≤ 10000 := by omega
  have HC : Hid (C = 8 * n + 2176) := hC
  clear hC
  have hS1 := (Row.new w 25 (byrow 32 fun _ => 0)).alloc (.cells (brow C fun _ => false) 4)
  have hB1 := Row.new (w.alloc (.cells (byrow 32 fun _ => 0) 25)) 4 (brow C fun _ => false)
  rw [World.size_alloc] at hB1
  have hF1 := ((Fr.refl nob w).alloc (byrow 32 fun _ => 0) 25).alloc (brow C fun _ => false) 4
  have HG : Hid (K.digest n D = fun j => K.pb (K.spo (K.mbit n D) (n / 136 + 1)) j 8) := rfl
  have Hm1 : Hid (∀ I k, I < n → k < 8 → K.mbit n D (8 * I + k) = (D I).getLsbD k) := mbit_data n D
  have Hm2 : Hid (K.mbit n D (8 * n) = true) := mbit_one n D
  have Hm3 : Hid (∀ t, 8 * n < t → t < 1088 * (n / 136) + 1087 → K.mbit n D t = false) := mbit_zero n D
  have Hm4 : Hid (K.mbit n D (1088 * (n / 136) + 1087) = true) := mbit_last n D
  go_enter Sahg.func6, Sahg.ntmps6
  go_wp2_with (first | (refine wpList_alloc_row rfl 25 rfl _ (zero25 _) ?_; simp only [Act.put, List.setIfInBounds_toArray, List.set_cons_succ, List.set_cons_zero]) | (refine wpList_make rfl 36 4 _ _ rfl .i64 .i64 0 C (by rfl) (by rfl) Sahg.underlying36 (.bool false) info4 rfl (Nat.zero_le _) (by omega) ?_; simp only [Act.put, List.setIfInBounds_toArray, List.set_cons_succ, List.set_cons_zero]; simp only [World.size_alloc]))
  generalize K.mbit n D = mb at *
  generalize hdg : K.digest n D = dgs at *
  have HD : Hid (K.digest n D = dgs) := hdg
  clear hdg
  go_loopw [3, 19] (fun bs i w' => ∃ I : Nat, I ≤ n ∧ i = .int .i64 I ∧ bs = .slice (some ⟨w.heap.size + 1, 0, none⟩) (8 * I) C ∧ Row w' (w.heap.size + 1) 4 (brow C (lg mb (8 * I))) ∧ Row w' w.heap.size 25 (byrow 32 fun _ => 0) ∧ Fr nob w w') (fun _ i _ => n - (intOf i).toNat)
  case atStart => exact ⟨0, by omega, rfl, rfl, brow_congr (g := fun _ => false) hB1 (fun i _ => by unfold lg; rw [if_neg (by omega)]), hS1, hF1⟩
  case round =>
    clear hB1 hS1 hF1
    obtain ⟨I, hI, rfl, rfl, hB, hS, hF⟩ := hrel
    by_cases hltI : I < n
    · have hIn : decide ((I : Int) < (n : Int)) = true := decide_eq_true (by omega)
      have cd : wr.cell? ⟨bd, I, none⟩ = some (.int .u8 (byt (D I))) := byrow_cell (hF.row hd (fun h => h)) hltI
      go_wp2
      go_loopw [3, 6] (fun bs i w' => ∃ k l : Nat, k ≤ 8 ∧ l = 8 * I + k ∧ i = .int .i64 k ∧ bs = .slice (some ⟨w.heap.size + 1, 0, none⟩) l C ∧ Row w' (w.heap.size + 1) 4 (brow C (lg mb l)) ∧ Row w' w.heap.size 25 (byrow 32 fun _ => 0) ∧ Fr nob w w') (fun _ i _ => 8 - (intOf i).toNat)
      case atStart => exact ⟨0, 8 * I, by omega, by omega, rfl, rfl, hB, hS, hF⟩
      case round =>
        clear hB hS hF
        obtain ⟨k, l, hk, hl, rfl, rfl, hB, hS, hF⟩ := hrel
        by_cases hltk : k < 8
        · have hk8 : decide ((k : Int) < 8) = true := decide_eq_true (by omega)
          have hmin : min k 8 = k := by omega
          have hbit := bit8_of (D I) k
          have hmv : mb l = (D I).getLsbD k := by rw [hl]; exact Hm1.out I k hltI hltk
          rw [← hmv] at hbit
          have hlC : l + 1 ≤ C := by have := HC.out; omega
          have Hl : Hid (l = 8 * I + k) := hl
          clear hmv hl
          go_wp2_with (refine wpList_push rfl rfl _ _ _ rfl rfl (mb l) (by rfl) (w.heap.size + 1) 4 C l (lg mb l) (by rfl) (by rfl) hB hlC ?_; intro w2 hB2 hF2; simp only [Act.put, List.setIfInBounds_toArray, List.set_cons_succ, List.set_cons_zero])
          have hS2 := hF2.row hS (not_blk (by omega))
          have hF3 := hF.trans hF2 (fun j hj h => absurd h (not_blk (by omega)))
          have hB3 := brow_congr hB2 (fun i _ => lg_step mb l i (mb l) rfl)
          go_roundw
          case rel => first | exact ⟨k + 1, l + 1, by omega, by have := Hl.out; omega, by go_num, rfl, hB3, hS2, hF3⟩ | ((repeat apply Exists.intro); exact ⟨⟨k + 1, l + 1, by omega, by have := Hl.out; omega, by go_num, rfl, hB3, hS2, hF3⟩, rfl⟩)
          case measure => simp [intOf]; omega
        · obtain rfl : k = 8 := by omega
          subst hl
          go_wp2
          go_roundw
          case rel => first | exact ⟨I + 1, by omega, by go_num, rfl, hB, hS, hF⟩ | ((repeat apply Exists.intro); exact ⟨⟨I + 1, by omega, by go_num, rfl, hB, hS, hF⟩, rfl⟩)
          case measure => simp [intOf]; omega
    · obtain rfl : I = n := by omega
      clear hI hltI
      have hlC : 8 * I + 1 ≤ C := by have := HC.out; omega
      go_wp2_with (refine wpList_push rfl rfl _ _ _ rfl rfl true (by rfl) (w.heap.size + 1) 4 C (8 * I) (lg mb (8 * I)) (by rfl) (by rfl) hB hlC ?_; intro w2 hB2 hF2; simp only [Act.put, List.setIfInBounds_toArray, List.set_cons_succ, List.set_cons_zero])
      have hS2 := hF2.row hS (not_blk (by omega))
      have hF3 := hF.trans hF2 (fun j hj h => absurd h (not_blk (by omega)))
      have hB3 := brow_congr hB2 (fun i _ => lg_step mb (8 * I) i true Hm2.out.symm)
      clear hB hS hF hB2 hF2 hlC
      go_loopw [3] (fun bs w' => ∃ l : Nat, 8 * I + 1 ≤ l ∧ l ≤ 1088 * (I / 136) + 1087 ∧ bs = .slice (some ⟨w.heap.size + 1, 0, none⟩) l C ∧ Row w' (w.heap.size + 1) 4 (brow C (lg mb l)) ∧ Row w' w.heap.size 25 (byrow 32 fun _ => 0) ∧ Fr nob w w') (fun bs _ => 10000 - slen bs)
      case atStart => exact ⟨8 * I + 1, by omega, by omega, rfl, hB3, hS2, hF3⟩
      case round =>
        clear hB3 hS2 hF3
        obtain ⟨l, hl1, hl2, rfl, hB, hS, hF⟩ := hrel
        have hlC : l + 1 ≤ C := by have := HC.out; omega
        by_cases hlt : l < 1088 * (I / 136) + 1087
        · have hq : ((l : Int) % 1088 != 1087) = true := by rw [bne_iff_ne]; omega
          go_wp2_with (refine wpList_push rfl rfl _ _ _ rfl rfl false (by rfl) (w.heap.size + 1) 4 C l (lg mb l) (by rfl) (by rfl) hB hlC ?_; intro w2 hB2 hF2; simp only [Act.put, List.setIfInBounds_toArray, List.set_cons_succ, List.set_cons_zero])
          have hS2 := hF2.row hS (not_blk (by omega))
          have hF3 := hF.trans hF2 (fun j hj h => absurd h (not_blk (by omega)))
          have hB3 := brow_congr hB2 (fun i _ => lg_step mb l i false (Hm3.out l (by omega) hlt).symm)
          go_roundw
          case rel => first | exact ⟨l + 1, by omega, by omega, rfl, hB3, hS2, hF3⟩ | ((repeat apply Exists.intro); exact ⟨⟨l + 1, by omega, by omega, rfl, hB3, hS2, hF3⟩, rfl⟩)
          case measure => simp [slen]; omega
        · have hle : l = 1088 * (I / 136) + 1087 := by omega
          have hq : ((l : Int) % 1088 != 1087) = false := by rw [bne_eq_false_iff_eq]; omega
          have hml : mb l = true := by rw [hle]; exact Hm4.out
          have Hml : Hid (mb l = true) := hml
          have Hle : Hid (l = 1088 * (I / 136) + 1087) := hle
          clear hle hml hlt
          go_wp2_with (first | (refine wpList_push rfl rfl _ _ _ rfl rfl true (by rfl) (w.heap.size + 1) 4 C l (lg mb l) (by rfl) (by rfl) hB hlC ?_; intro w5 hB2 hF2; simp only [Act.put, List.setIfInBounds_toArray, List.set_cons_succ, List.set_cons_zero]) | (refine wpList_alloc_row rfl 37 rfl _ (zero37 _) ?_; simp only [Act.put, List.setIfInBounds_toArray, List.set_cons_succ, List.set_cons_zero]))
          have hb5 : w.heap.size + 1 < w5.heap.size := hB2.lt
          have hS2 := (hF2.row hS (not_blk (by omega))).alloc (.cells (brow 1600 fun _ => false) 37)
          have hF3 := (hF.trans hF2 (fun j hj h => absurd h (not_blk (by omega)))).alloc (brow 1600 fun _ => false) 37
          have hB3 := (brow_congr hB2 (fun i _ => lg_step mb l i true Hml.out.symm)).alloc (.cells (brow 1600 fun _ => false) 37)
          have hT3 : Row (w5.alloc (.cells (brow 1600 fun _ => false) 37)) w5.heap.size 37 (brow 1600 (K.spo mb 0)) := Row.new w5 37 _
          clear hB hS hF hB2 hF2
          obtain ⟨LL, hLL⟩ : ∃ LL, LL = l + 1 := ⟨_, rfl⟩
          have hLC : LL ≤ C := by omega
          have HLL : Hid (LL = 1088 * (I / 136 + 1)) := by have := Hle.out; show LL = _; omega
          have hLL2 : ((l : Int) + 1) = (LL : Int) := by omega
          rw [← hLL] at hB3 ⊢
          simp only [hLL2]
          clear hLL hlC hl1 hl2 hq hLL2
          go_loopw [51] (fun i w' => ∃ t : Nat, t ≤ LL ∧ i = .int .i64 t ∧ Row w' w5.heap.size 37 (brow 1600 (K.absTo (K.spo mb (t / 1088)) mb (t / 1088) (t % 1088))) ∧ Row w' (w.heap.size + 1) 4 (brow C (lg mb LL)) ∧ Row w' w.heap.size 25 (byrow 32 fun _ => 0) ∧ Fr nob w w') (fun i _ => 10000 - (intOf i).toNat)
          case atStart => exact ⟨0, by omega, rfl, brow_congr hT3 (fun i _ => by unfold K.absTo; rw [if_neg (by omega)]), hB3, hS2, hF3⟩
          case round =>
            clear hT3 hB3 hS2 hF3
            obtain ⟨t, ht, rfl, hT, hB, hS, hF⟩ := hrel
            by_cases hlt : t < LL
            · obtain ⟨R, hR⟩ : ∃ R, R = t % 1088 := ⟨_, rfl⟩
              obtain ⟨kq, hkq⟩ : ∃ kq, kq = t / 1088 := ⟨_, rfl⟩
              have eR : (t : Int) % 1088 = (R : Int) := by omega
              have hR1088 : R < 1088 := by omega
              have Ht : Hid (t = 1088 * kq + R) := by show t = _; omega
              rw [← hR, ← hkq] at hT
              have cb : wr.cell? ⟨w.heap.size + 1, t, none⟩ = some (.bool (mb t)) := by rw [brow_cell hB (by omega)]; unfold lg; rw [if_pos hlt]
              have cs : wr.cell? ⟨w5.heap.size, R, none⟩ = some (.bool (K.spo mb kq R)) := by
                rw [brow_cell hT (by omega)]; unfold K.absTo; rw [if_neg (by omega)]
              have hfz := hT.frozen R
              have hstep : ∀ i, (if i = R then (!(K.spo mb kq R == mb t)) else K.absTo (K.spo mb kq) mb kq R i) = K.absTo (K.spo mb kq) mb kq (R + 1) i := fun i => by
                rw [show mb t = mb (1088 * kq + R) by rw [← Ht.out]]; exact absTo_step _ _ _ _ _
              have Hstep : Hid (∀ i, (if i = R then (!(K.spo mb kq R == mb t)) else K.absTo (K.spo mb kq) mb kq R i) = K.absTo (K.spo mb kq) mb kq (R + 1) i) := hstep
              clear hR hkq hstep
              have htC : (t : Int) < (LL : Int) := by omega
              by_cases hend : R = 1087
              · subst hend
                go_wp2_with fail
                have hT2 := brow_set hT 1087 (!(K.spo mb kq 1087 == mb t)) (fun i _ => Hstep.out i)
                refine (kf_any w5.heap.size 37 _ _ hT2).mono ?_
                rintro e w6 ⟨rfl, hT4, hF4⟩
                have hB4 := hF4.row (hB.other (show w.heap.size + 1 ≠ w5.heap.size by omega) _) (not_blk (show w.heap.size + 1 ≠ w5.heap.size by omega))
                have hS4 := hF4.row (hS.other (show w.heap.size ≠ w5.heap.size by omega) _) (not_blk (show w.heap.size ≠ w5.heap.size by omega))
                have hF5 := (Fr.setNew hF (by omega) _).trans hF4 (fun j hj h => absurd h (not_blk (by omega)))
                have hT5 : Row w6 w5.heap.size 37 (brow 1600 (K.absTo (K.spo mb ((t + 1) / 1088)) mb ((t + 1) / 1088) ((t + 1) % 1088))) := by
                  have := Ht.out
                  rw [show (t + 1) / 1088 = kq + 1 by omega, show (t + 1) % 1088 = 0 by omega]
                  exact brow_congr hT4 (fun i _ => by unfold K.absTo; rw [if_neg (by omega)]; rfl)
                clear hT hT2 hT4 hF4 hB hS hF Hstep
                go_wp2
                go_roundw
                case rel => first | exact ⟨t + 1, by omega, by go_num, hT5, hB4, hS4, hF5⟩ | ((repeat apply Exists.intro); exact ⟨⟨t + 1, by omega, by go_num, hT5, hB4, hS4, hF5⟩, rfl⟩)
                case measure => simp [intOf]; omega
              · have hend' : ((R : Int) == 1087) = false := by rw [beq_eq_false_iff_ne]; omega
                go_wp2
                go_roundw
                case rel =>
                  have hx := Ht.out
                  refine ⟨t + 1, by omega, by go_num, ?_, ?_, ?_, ?_⟩
                  · rw [show (t + 1) / 1088 = kq by omega, show (t + 1) % 1088 = R + 1 by omega]
                    exact brow_set hT _ _ (fun i _ => Hstep.out i)
                  · exact hB.other (show w.heap.size + 1 ≠ w5.heap.size by omega) _
                  · exact hS.other (show w.heap.size ≠ w5.heap.size by omega) _
                  · exact Fr.setNew hF (by omega) _
                case measure => simp [intOf]; omega
            · obtain rfl : t = LL := by omega
              have hT2 : Row wr w5.heap.size 37 (brow 1600 (K.spo mb (I / 136 + 1))) := by
                have := HLL.out
                rw [show t / 1088 = I / 136 + 1 by omega, show t % 1088 = 0 by omega] at hT
                exact brow_congr hT (fun i _ => by unfold K.absTo; rw [if_neg (by omega)])
              have hb6 : w5.heap.size < wr.heap.size := hT2.lt
              obtain ⟨w7, hw7⟩ : ∃ x, x = wr := ⟨_, rfl⟩
              subst hw7
              have hT8 := hT2.alloc (.cells (byrow 32 fun _ => 0) 25)
              have hS8 := hS.alloc (.cells (byrow 32 fun _ => 0) 25)
              have hF8 := hF.alloc (byrow 32 fun _ => 0) 25
              generalize hss : K.spo mb (I / 136 + 1) = ss at *
              clear hss hT hT2 hB hS hF
              go_wp2_with (refine wpList_alloc_row rfl 25 rfl _ (zero25 _) ?_; simp only [Act.put, List.setIfInBounds_toArray, List.set_cons_succ, List.set_cons_zero])
              go_loopw [11] (fun i w' => ∃ I1 : Nat, I1 ≤ 256 ∧ i = .int .i64 I1 ∧ Row w' w7.heap.size 25 (byrow 32 (og ss I1)) ∧ Row w' w5.heap.size 37 (brow 1600 ss) ∧ Row w' w.heap.size 25 (byrow 32 fun _ => 0) ∧ Fr nob w w') (fun i _ => 256 - (intOf i).toNat)
              case atStart => exact ⟨0, by omega, rfl, byrow_congr (g := fun _ => 0) (Row.new w7 25 (byrow 32 fun _ => 0)) (fun i _ => (og_start ss i).symm), hT8, hS8, hF8⟩
              case round =>
                clear hT8 hS8 hF8
                obtain ⟨I1, hI, rfl, hO, hT, hS, hF⟩ := hrel
                by_cases hltI : I1 < 256
                · have hI256 : decide ((I1 : Int) < 256) = true := decide_eq_true (by omega)
                  obtain ⟨J, hJ⟩ : ∃ J, J = I1 / 8 := ⟨_, rfl⟩
                  obtain ⟨Z, hZ⟩ : ∃ Z, Z = I1 % 8 := ⟨_, rfl⟩
                  have eJ : (I1 : Int) / 8 = (J : Int) := by omega
                  have eZ : (I1 : Int) % 8 = (Z : Int) := by omega
                  have hJ32 : J < 32 := by omega
                  have hZ8 : Z < 8 := by omega
                  have hmin : min Z 8 = Z := by omega
                  have hsh := shl_one Z
                  have co : wr.cell? ⟨w7.heap.size, J, none⟩ = some (.int .u8 (byt (K.pb ss J Z))) := by
                    rw [byrow_cell hO hJ32, hJ, og_at, ← hJ, ← hZ]
                  have hfz := hO.frozen J
                  have cs : wr.cell? ⟨w5.heap.size, I1, none⟩ = some (.bool (ss I1)) := brow_cell hT (by omega)
                  have HJ : Hid (J = I1 / 8) := hJ
                  have HZ : Hid (Z = I1 % 8) := hZ
                  clear hJ hZ
                  cases hb : ss I1
                  · have hO2 := byrow_congr hO (fun i _ => og_no ss I1 i hb)
                    rw [hb] at cs
                    clear hb
                    go_wp2
                    go_roundw
                    case rel => exact ⟨I1 + 1, by omega, by go_num, hO2, hT, hS, hF⟩
                    case measure => simp [intOf]; omega
                  · have hO2 := fun i => og_yes ss I1 i J Z hb HJ.out HZ.out
                    have HO2 : Hid (∀ i, (if i = J then K.pb ss J Z ||| (1#8 <<< Z) else og ss I1 i) = og ss (I1 + 1) i) := hO2
                    rw [hb] at cs
                    clear hb hO2
                    go_wp2
                    refine region_tail 9 (by kernel_rfl) (by kernel_rfl) ?_
                    simp only [List.take_succ_cons, List.take_zero, List.drop_succ_cons, List.drop_zero]
                    repeat (go_big_quiet_step (fail))
                    refine wpQuiet_nil ?_
                    go_wp2
                    go_roundw
                    case rel =>
                      refine ⟨I1 + 1, by omega, by go_num, ?_, ?_, ?_, ?_⟩
                      · exact Row.drew (byrow_set hO _ _ (fun i _ => HO2.out i))
                      · exact Row.drew (hT.other (show w5.heap.size ≠ w7.heap.size by omega) _)
                      · exact Row.drew (hS.other (show w.heap.size ≠ w7.heap.size by omega) _)
                      · exact Fr.drew (Fr.setNew hF (by omega) _)
                    case measure => simp [intOf]; omega
                · obtain rfl : I1 = 256 := by omega
                  have hO2 : Row wr w7.heap.size 25 (byrow 32 dgs) := byrow_congr hO (fun i hi => by rw [HG.out]; exact og_end ss i hi)
                  go_wp2_with (first | (refine wpList_load_row rfl 25 _ rfl w7.heap.size rfl 25 (byrow 32 dgs) (0, 0) _ hO2 Sahg.underlying25 rfl (by rw [byrow_size]; exact size25) ?_) | (refine wpList_store_row rfl 25 _ _ rfl w.heap.size (byrow 32 dgs) (by rfl) (by rfl) 25 (byrow 32 fun _ => 0) hS (by rw [byrow_size]; exact size25) (by rw [byrow_size, byrow_size]) (byrow_one _ _) ?_))
                  exact bodyPost_ret (v := .agg (byrow 32 dgs)) (ret_row25 Sahg.results6 _ w.heap.size 25 _ rfl (hS.setRow _)) rfl ⟨by rw [HD.out], hF.setRow (.inl (Nat.le_refl _)) _⟩
end
end Go.Proofs.Ygcsah
