/-
  law.spongeOnBits.
-/
import Derived.Test.YgcsahOut
import Derived.Test.YgcsahKF
namespace Go.Proofs.Ygcsah
open Go.RowKit Go.BigFrame
set_option maxHeartbeats 4000000
set_option maxRecDepth 100000

/-- The message, padded: out of the three writes. -/
theorem pad_row {w : World} {bm T : Nat} (n L L1 : Nat) (D : Nat → BitVec 8) (q : BitVec 8) (hL : L = n / 136 * 136 + 136) (hL1 : L1 + 1 = L) (hq : q = if L1 = n then 1#8 else 0#8)
    (h : Row w bm T (rowF L (upd (upd (fun i => if 0 ≤ i ∧ i < 0 + n then Value.int .u8 (byt (D (i - 0))) else .int .u8 0) n (.int .u8 (byt (0#8 ||| 1#8)))) L1 (.int .u8 (byt (q ||| 128#8)))))) :
    Row w bm T (byrow L (K.padB n D)) := by
  refine h.congr fun i hi => ?_
  simp only [upd, K.padB]
  by_cases h1 : i = L1
  · rw [if_pos h1, hq, if_pos (show i = n / 136 * 136 + 135 by omega)]
    by_cases e : L1 = n
    · rw [if_pos e, if_neg (by omega), if_pos (by omega)]
    · rw [if_neg e, if_neg (by omega), if_neg (by omega)]
  · rw [if_neg h1, if_neg (show ¬ i = n / 136 * 136 + 135 by omega), BitVec.or_zero]
    by_cases h2 : i = n
    · rw [if_pos h2, if_neg (by omega), if_pos h2]; rfl
    · rw [if_neg h2]
      by_cases h3 : i < n
      · rw [if_pos (by omega), if_pos h3]; rfl
      · rw [if_neg (by omega), if_neg h3, if_neg h2]; rfl
theorem pad_zero {w : World} {bm T : Nat} (n L : Nat) (D : Nat → BitVec 8) (hL : n < L)
    (h : Row w bm T (rowF L (fun i => if 0 ≤ i ∧ i < 0 + n then Value.int .u8 (byt (D (i - 0))) else .int .u8 0))) : w.cell? ⟨bm, n, none⟩ = some (.int .u8 (byt 0#8)) := by
  rw [h.cellF hL, if_neg (by omega)]; rfl
theorem pad_cell {w : World} {bm T : Nat} (n L L1 : Nat) (D : Nat → BitVec 8) (hL : L = n / 136 * 136 + 136) (hL1 : L1 + 1 = L)
    (h : Row w bm T (rowF L (upd (fun i => if 0 ≤ i ∧ i < 0 + n then Value.int .u8 (byt (D (i - 0))) else .int .u8 0) n (.int .u8 (byt (0#8 ||| 1#8)))))) :
    ∃ q : BitVec 8, Hid (q = if L1 = n then 1#8 else 0#8) ∧ w.cell? ⟨bm, L1, none⟩ = some (.int .u8 (byt q)) := by
  refine ⟨if L1 = n then 1#8 else 0#8, rfl, ?_⟩
  rw [h.cellF (by omega)]
  simp only [upd]
  by_cases e : L1 = n
  · rw [if_pos e, if_pos e]; rfl
  · rw [if_neg e, if_neg e, if_neg (by omega)]; rfl

section
attribute [local go_sem] or128 or_byte1 cell?_At frozen?_At heap_At bits_or_u8
theorem bsum_any (bd n : Nat) (D : Nat → BitVec 8) (w : World) (hn : n < 600) (hd : Row w bd 5 (byrow n D)) :
    Calls Sahg.prog 7 #[.slice (some ⟨bd, 0, none⟩) n n] w fun e w' => e = .returned (.agg (byrow 32 (K.digest n D))) ∧ Fr nob w w' := by
  have hbs := hd.lt
  obtain ⟨L, hL⟩ : ∃ L, L = n / 136 * 136 + 136 := ⟨_, rfl⟩
  obtain ⟨L1, hL1⟩ : ∃ L1, L1 + 1 = L := ⟨L - 1, by omega⟩
  have eL : (n : Int) / 136 * 136 + 136 = (L : Int) := by omega
  have eL1 : (L : Int) - 1 = (L1 : Int) := by omega
  have hnL : n < L := by omega
  have hL1L : L1 < L := by omega
  have hLb : L ≤ 1000 := by omega
  have HL : Hid (L = n / 136 * 136 + 136) := hL
  have HL1 : Hid (L1 + 1 = L) := hL1
  clear hL hL1
  have hS1 := (Row.new w 25 (byrow 32 fun _ => 0)).alloc (.cells (rowF L fun _ => .int .u8 0) 5)
  have hM1 := Row.new (w.alloc (.cells (byrow 32 fun _ => 0) 25)) 5 (rowF L fun _ => .int .u8 0)
  rw [World.size_alloc] at hM1
  have hF1 := ((Fr.refl nob w).alloc (byrow 32 fun _ => 0) 25).alloc (rowF L fun _ => .int .u8 0) 5
  have hd1 := hF1.row hd (fun h => h)
  go_enter Sahg.func7, Sahg.ntmps7
  go_wp2_with (first | (refine wpList_alloc_row rfl 25 rfl _ (zero25 _) ?_; simp only [Act.put, List.setIfInBounds_toArray, List.set_cons_succ, List.set_cons_zero]) | (refine wpList_make rfl 23 5 _ _ rfl .i64 .i64 L L (by rfl) (by rfl) Sahg.underlying23 (.int .u8 0) info5 rfl (Nat.le_refl _) (by omega) ?_; simp only [Act.put, List.setIfInBounds_toArray, List.set_cons_succ, List.set_cons_zero]; simp only [World.size_alloc]) | (refine wpList_copy rfl 23 23 _ _ rfl 5 Sahg.underlying23 size5 (w.heap.size + 1) 5 L (fun _ => .int .u8 0) 0 L L (by rfl) bd 0 n n (by rfl) n (by show _ = min _ _; omega) (fun j => .int .u8 (byt (D j))) (fun j hj => by rw [Nat.zero_add]; exact byrow_cell hd1 hj) (fun _ => rfl) hM1 (by omega) ?_; intro w3 hM3 hF3; have cn := pad_zero n L D hnL hM3; simp only [Act.put, List.setIfInBounds_toArray, List.set_cons_succ, List.set_cons_zero]) | (refine wpList_store1 rfl 5 _ _ rfl (w.heap.size + 1) 5 L _ n hnL .u8 (byt (0#8 ||| 1#8)) (by rfl) (by rfl) hM3 size5 ?_; intro w4 hM4 hF4; obtain ⟨q, HQ, cq⟩ := pad_cell n L L1 D HL.out HL1.out hM4; simp only [Act.put]) | (refine wpList_store1 rfl 5 _ _ rfl (w.heap.size + 1) 5 L _ L1 hL1L .u8 (byt (q ||| 128#8)) (by rfl) (by rfl) hM4 size5 ?_; intro w5 hM5 hF5; simp only [Act.put]) | (refine wpList_alloc_row rfl 37 rfl _ (zero37 _) ?_; simp only [Act.put, List.setIfInBounds_toArray, List.set_cons_succ, List.set_cons_zero]))
  have hM6 := pad_row n L L1 D q HL.out HL1.out HQ.out hM5
  have nS : ¬ blk (w.heap.size + 1) w.heap.size := not_blk (by omega)
  have hno : ∀ j, j < w.heap.size → blk (w.heap.size + 1) j → nob j := fun j hj h => absurd h (not_blk (by omega))
  have hS6 := (hF5.row (hF4.row (hF3.row hS1 nS) nS) nS).alloc (.cells (brow 1600 fun _ => false) 37)
  have hF6 := (((hF1.trans hF3 hno).trans hF4 hno).trans hF5 hno).alloc (brow 1600 fun _ => false) 37
  have hM7 := hM6.alloc (.cells (brow 1600 fun _ => false) 37)
  have hT7 : Row (w5.alloc (.cells (brow 1600 fun _ => false) 37)) w5.heap.size 37 (brow 1600 (K.spo (K.mbit n D) 0)) := Row.new w5 37 _
  have hb5 : w.heap.size + 1 < w5.heap.size := hM6.lt
  have HM : Hid (∀ t, K.mbit n D t = (K.padB n D (t / 8)).getLsbD (t % 8)) := fun _ => rfl
  have HG : Hid (K.digest n D = fun j => K.pb (K.spo (K.mbit n D) (n / 136 + 1)) j 8) := rfl
  clear hS1 hM1 hF1 hd1 hM3 hF3 cn hM4 hF4 HQ cq hM5 hF5 hM6 nS hno eL eL1
  generalize K.mbit n D = mb at *
  generalize K.padB n D = pd at *
  generalize hdg : K.digest n D = dgs at *
  have HD : Hid (K.digest n D = dgs) := hdg
  clear hdg
  go_loopw [5] (fun t w' => ∃ k tt : Nat, tt = 136 * k ∧ k ≤ n / 136 + 1 ∧ t = .int .i64 tt ∧ Row w' w5.heap.size 37 (brow 1600 (K.spo mb k)) ∧ Row w' (w.heap.size + 1) 5 (byrow L pd) ∧ Row w' w.heap.size 25 (byrow 32 fun _ => 0) ∧ Fr nob w w') (fun t _ => 1000 - (intOf t).toNat)
  case atStart => exact ⟨0, 0, rfl, by omega, rfl, hT7, hM7, hS6, hF6⟩
  case round =>
    clear hT7 hM7 hS6 hF6
    obtain ⟨k, tt, htt, hk, rfl, hT, hM, hS, hF⟩ := hrel
    by_cases hlt : k < n / 136 + 1
    · have htL : tt + 136 ≤ L := by have := HL.out; omega
      have htL' : decide ((tt : Int) < (L : Int)) = true := decide_eq_true (by omega)
      have Ht : Hid (tt = 136 * k) := htt
      clear htt
      go_wp2
      go_loopw [6] (fun i w' => ∃ I : Nat, I ≤ 1088 ∧ i = .int .i64 I ∧ Row w' w5.heap.size 37 (brow 1600 (K.absTo (K.spo mb k) mb k I)) ∧ Row w' (w.heap.size + 1) 5 (byrow L pd) ∧ Row w' w.heap.size 25 (byrow 32 fun _ => 0) ∧ Fr nob w w') (fun i _ => 1088 - (intOf i).toNat)
      case atStart => exact ⟨0, by omega, rfl, brow_congr hT (fun i _ => by unfold K.absTo; rw [if_neg (by omega)]), hM, hS, hF⟩
      case round =>
        clear hT hM hS hF
        obtain ⟨I, hI, rfl, hT, hM, hS, hF⟩ := hrel
        by_cases hltI : I < 1088
        · obtain ⟨J, hJ⟩ : ∃ J, J = tt + I / 8 := ⟨_, rfl⟩
          obtain ⟨Z, hZ⟩ : ∃ Z, Z = I % 8 := ⟨_, rfl⟩
          have eJ : (tt : Int) + (I : Int) / 8 = (J : Int) := by omega
          have eZ : (I : Int) % 8 = (Z : Int) := by omega
          have hJL : J < L := by omega
          have hZ8 : Z < 8 := by omega
          have hmin : min Z 8 = Z := by omega
          have cm : wr.cell? ⟨w.heap.size + 1, J, none⟩ = some (.int .u8 (byt (pd J))) := byrow_cell hM hJL
          have cs : wr.cell? ⟨w5.heap.size, I, none⟩ = some (.bool (K.spo mb k I)) := by
            rw [brow_cell hT (by omega)]; unfold K.absTo; rw [if_neg (by omega)]
          have hfz := hT.frozen I
          have hbit := bit8_of (pd J) Z
          have hv : mb (1088 * k + I) = (pd J).getLsbD Z := by
            rw [HM.out]; have := Ht.out; rw [show (1088 * k + I) / 8 = J by omega, show (1088 * k + I) % 8 = Z by omega]
          rw [← hv] at hbit
          clear hv hJ hZ
          go_wp2
          refine region_tail 18 (by kernel_rfl) (by kernel_rfl) ?_
          simp only [List.take_succ_cons, List.take_zero, List.drop_succ_cons, List.drop_zero]
          repeat (go_big_quiet_step (fail))
          refine wpQuiet_nil ?_
          go_wp2
          go_roundw
          case rel =>
            refine ⟨I + 1, by omega, by go_num, ?_, ?_, ?_, ?_⟩
            · refine Row.drew (brow_set hT _ _ (fun i _ => ?_))
              unfold K.absTo
              by_cases h1 : i = I
              · subst h1; rw [if_pos rfl, if_pos (by omega)]; rfl
              · by_cases h2 : i < I
                · rw [if_neg h1, if_pos h2, if_pos (by omega)]
                · rw [if_neg h1, if_neg h2, if_neg (by omega)]
            · exact Row.drew (hM.other (show w.heap.size + 1 ≠ w5.heap.size by omega) _)
            · exact Row.drew (hS.other (show w.heap.size ≠ w5.heap.size by omega) _)
            · exact Fr.drew (Fr.setNew hF (by omega) _)
          case measure => simp [intOf]; omega
        · obtain rfl : I = 1088 := by omega
          go_wp2_with (go_at_call 11; refine (kf_any w5.heap.size 37 _ _ hT).mono ?_; rintro e w6 ⟨rfl, hT2, hF2⟩)
          have hM2 := hF2.row hM (not_blk (show w.heap.size + 1 ≠ w5.heap.size by omega))
          have hS2 := hF2.row hS (not_blk (show w.heap.size ≠ w5.heap.size by omega))
          have hF3 := hF.trans hF2 (fun j hj h => absurd h (not_blk (by omega)))
          go_roundw
          case rel => first | exact ⟨k + 1, tt + 136, by have := Ht.out; omega, by omega, by go_num, hT2, hM2, hS2, hF3⟩ | ((repeat apply Exists.intro); exact ⟨⟨k + 1, tt + 136, by have := Ht.out; omega, by omega, by go_num, hT2, hM2, hS2, hF3⟩, rfl⟩)
          case measure => simp [intOf]; omega
    · obtain rfl : k = n / 136 + 1 := by omega
      have htL : tt = L := by have := HL.out; omega
      subst htL
      clear htt hk hlt
      have hb6 : w5.heap.size < wr.heap.size := hT.lt
      obtain ⟨w7, hw7⟩ : ∃ x, x = wr := ⟨_, rfl⟩
      subst hw7
      have hT8 := hT.alloc (.cells (byrow 32 fun _ => 0) 25)
      have hS8 := hS.alloc (.cells (byrow 32 fun _ => 0) 25)
      have hF8 := hF.alloc (byrow 32 fun _ => 0) 25
      generalize hss : K.spo mb (n / 136 + 1) = ss at *
      clear hss hT hM hS hF
      go_wp2_with (refine wpList_alloc_row rfl 25 rfl _ (zero25 _) ?_; simp only [Act.put, List.setIfInBounds_toArray, List.set_cons_succ, List.set_cons_zero])
      go_loopw [8] (fun i w' => ∃ I : Nat, I ≤ 256 ∧ i = .int .i64 I ∧ Row w' w7.heap.size 25 (byrow 32 (og ss I)) ∧ Row w' w5.heap.size 37 (brow 1600 ss) ∧ Row w' w.heap.size 25 (byrow 32 fun _ => 0) ∧ Fr nob w w') (fun i _ => 256 - (intOf i).toNat)
      case atStart => exact ⟨0, by omega, rfl, byrow_congr (g := fun _ => 0) (Row.new w7 25 (byrow 32 fun _ => 0)) (fun i _ => (og_start ss i).symm), hT8, hS8, hF8⟩
      case round =>
        clear hT8 hS8 hF8
        obtain ⟨I, hI, rfl, hO, hT, hS, hF⟩ := hrel
        by_cases hltI : I < 256
        · have hI256 : decide ((I : Int) < 256) = true := decide_eq_true (by omega)
          obtain ⟨J, hJ⟩ : ∃ J, J = I / 8 := ⟨_, rfl⟩
          obtain ⟨Z, hZ⟩ : ∃ Z, Z = I % 8 := ⟨_, rfl⟩
          have eJ : (I : Int) / 8 = (J : Int) := by omega
          have eZ : (I : Int) % 8 = (Z : Int) := by omega
          have hJ32 : J < 32 := by omega
          have hZ8 : Z < 8 := by omega
          have hmin : min Z 8 = Z := by omega
          have hsh := shl_one Z
          have co : wr.cell? ⟨w7.heap.size, J, none⟩ = some (.int .u8 (byt (K.pb ss J Z))) := by
            rw [byrow_cell hO hJ32, hJ, og_at, ← hJ, ← hZ]
          have hfz := hO.frozen J
          have cs : wr.cell? ⟨w5.heap.size, I, none⟩ = some (.bool (ss I)) := brow_cell hT (by omega)
          have HJ : Hid (J = I / 8) := hJ
          have HZ : Hid (Z = I % 8) := hZ
          clear hJ hZ
          cases hb : ss I
          · have hO2 := byrow_congr hO (fun i _ => og_no ss I i hb)
            rw [hb] at cs
            clear hb
            go_wp2
            go_roundw
            case rel => exact ⟨I + 1, by omega, by go_num, hO2, hT, hS, hF⟩
            case measure => simp [intOf]; omega
          · have hO2 := fun i => og_yes ss I i J Z hb HJ.out HZ.out
            have HO2 : Hid (∀ i, (if i = J then K.pb ss J Z ||| (1#8 <<< Z) else og ss I i) = og ss (I + 1) i) := hO2
            rw [hb] at cs
            clear hb hO2
            go_wp2
            refine region_tail 9 (by kernel_rfl) (by kernel_rfl) ?_
            simp only [List.take_succ_cons, List.take_zero, List.drop_succ_cons, List.drop_zero]
            repeat (go_big_quiet_step (fail))
            refine wpQuiet_nil ?_
            go_wp2
            go_roundw
            case rel =>
              refine ⟨I + 1, by omega, by go_num, ?_, ?_, ?_, ?_⟩
              · exact Row.drew (byrow_set hO _ _ (fun i _ => HO2.out i))
              · exact Row.drew (hT.other (show w5.heap.size ≠ w7.heap.size by omega) _)
              · exact Row.drew (hS.other (show w.heap.size ≠ w7.heap.size by omega) _)
              · exact Fr.drew (Fr.setNew hF (by omega) _)
            case measure => simp [intOf]; omega
        · obtain rfl : I = 256 := by omega
          have hO2 : Row wr w7.heap.size 25 (byrow 32 dgs) := byrow_congr hO (fun i hi => by rw [HG.out]; exact og_end ss i hi)
          go_wp2_with (first | (refine wpList_load_row rfl 25 _ rfl w7.heap.size rfl 25 (byrow 32 dgs) (0, 0) _ hO2 Sahg.underlying25 rfl (by rw [byrow_size]; exact size25) ?_) | (refine wpList_store_row rfl 25 _ _ rfl w.heap.size (byrow 32 dgs) (by rfl) (by rfl) 25 (byrow 32 fun _ => 0) hS (by rw [byrow_size]; exact size25) (by rw [byrow_size, byrow_size]) (byrow_one _ _) ?_))
          exact bodyPost_ret (v := .agg (byrow 32 dgs)) (ret_row25 Sahg.results7 _ w.heap.size 25 _ rfl (hS.setRow _)) rfl ⟨by rw [HD.out], hF.setRow (.inl (Nat.le_refl _)) _⟩
end
end Go.Proofs.Ygcsah
