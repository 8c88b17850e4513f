/-
  keccak.Sum.
-/
import Derived.Test.YgcsahSponge
import Derived.Test.YgcsahCopy
namespace Go.Proofs.Ygcsah
open Go.RowKit Go.BigFrame
set_option maxHeartbeats 4000000
set_option maxRecDepth 100000

theorem arrayAt33 (a : Option Addr) (c : Nat) (w : World) : (Instr.arrayAt 33 (.slice a 136 c)).run Sahg.prog w = .ok (.pointer a) w := by
  simp [Instr.arrayAt, run_underlying Sahg.underlying33]
theorem size5 : (Sahg.prog.info? 5).map (·.size) = some 1 := by kernel_rfl
theorem byrow_cell {w : World} {b T n : Nat} {D : Nat → BitVec 8} (h : Row w b T (byrow n D)) {o : Nat} (ho : o < n) : w.cell? ⟨b, o, none⟩ = some (.int .u8 (byt (D o))) := h.cellF (f := fun i => .int .u8 (byt (D i))) ho
theorem byrow_set {w : World} {b T n : Nat} {g g' : Nat → BitVec 8} (h : Row w b T (byrow n g)) (o : Nat) (v : BitVec 8) (e : ∀ i, i < n → (if i = o then v else g i) = g' i) : Row (w.setCell ⟨b, o, none⟩ (.int .u8 (byt v))) b T (byrow n g') := by
  refine h.setF (f := fun i => .int .u8 (byt (g i))) o _ ?_
  intro i hi
  rw [← e i hi]
  unfold upd
  split <;> rfl
theorem byrow_congr {w : World} {b T n : Nat} {g g' : Nat → BitVec 8} (h : Row w b T (byrow n g)) (e : ∀ i, i < n → g i = g' i) : Row w b T (byrow n g') :=
  h.congr (f := fun i => .int .u8 (byt (g i))) fun i hi => by rw [e i hi]
theorem byrow_eq {n : Nat} {g g' : Nat → BitVec 8} (h : ∀ i, i < n → g i = g' i) : byrow n g = byrow n g' := rowF_congr fun i hi => by rw [h i hi]
theorem ret_row25 {fn : Func} {w : World} {p : Tmp} (h : fn.results = #[.cell p 25]) (tmps : Array Value) (g T : Nat) (H : Nat → BitVec 8) (hp : tmps.getD p undef = .pointer (some ⟨g, 0, none⟩)) (hr : Row w g T (byrow 32 H)) :
    (results fn tmps).run Sahg.prog w = .ok (.agg (byrow 32 H)) w :=
  results_cell_row h tmps w g T _ (0, 0) _ hp hr Sahg.underlying25 rfl (by rw [byrow_size]; exact size25)

/-- The lanes behind k blocks. -/
def laneAt (n : Nat) (D : Nat → BitVec 8) : Nat → (Nat → BitVec 64)
  | 0 => fun _ => 0
  | k + 1 => K.permL (absL (laneAt n D k) (fun j => K.padB n D (136 * k + j)) 17) 24
theorem laneAt_bits (n : Nat) (D : Nat → BitVec 8) : ∀ k, ∀ i, i < 1600 → K.bitsL (laneAt n D k) i = K.spo (K.mbit n D) k i
  | 0 => fun i _ => by simp [laneAt, K.spo, K.bitsL]
  | k + 1 => fun i hi => by
    simp only [laneAt, K.spo]
    rw [← K.kF_bitsL _ i hi]
    refine K.kF_congr (absL_bits _ _ _ _ k (laneAt_bits n D k) fun j hj z hz => ?_) i hi
    unfold K.mbit
    rw [show (1088 * k + (8 * j + z)) / 8 = 136 * k + j by omega, show (1088 * k + (8 * j + z)) % 8 = z by omega]

def slen : Value → Nat
  | .slice _ n _ => n
  | _ => 0
theorem or128 (x : BitVec 8) : bits .or .u8 (byt x) 128 = byt (x ||| 128#8) := bits_or_u8 x 128#8
theorem or1_128 : bits .or .u8 1 128 = byt (1#8 ||| 128#8) := bits_or_u8 1#8 128#8
theorem put_int (b T m n cap : Nat) (off : Int) (o : Nat) (e : off = (o : Int)) (f : Nat → Value) (x : BitVec 64) (w : World) (hn : n ≤ cap) (h1 : o + 8 ≤ n) (h2 : n ≤ 1000000) (hm : n ≤ m) (hr : Row w b T (rowF m f)) :
    Calls Sahg.prog 9 #[.slice (some ⟨b, 0, none⟩) n cap, .int .i64 off, .int .u64 (u x)] w fun e w' => e = .returned (.bool true) ∧
      Row w' b T (rowF m fun i => if o ≤ i ∧ i < o + 8 then .int .u8 (byt (byteOf x (i - o))) else f i) ∧ Fr (blk b) w w' := by
  subst e; exact put_any b T m n cap o f x w hn h1 h2 hm hr
theorem padB_in (n : Nat) (D : Nat → BitVec 8) (j : Nat) (h : j < n) : K.padB n D j = D j := by
  unfold K.padB
  rw [if_pos h, if_neg (by omega)]
  simp
/-- The last block. -/
theorem padB_last (n k m : Nat) (D : Nat → BitVec 8) (hn : 136 * k + m = n) (hm : m < 136) (i : Nat) :
    K.padB n D (136 * k + i) = (if i = 135 then ((if i = m then 1#8 else if i < m then D (136 * k + i) else 0#8) ||| 128#8) else (if i = m then 1#8 else if i < m then D (136 * k + i) else 0#8)) := by
  have hk : n / 136 = k := by omega
  unfold K.padB
  rw [hk]
  by_cases h1 : i = 135
  · rw [if_pos h1, if_pos (show 136 * k + i = k * 136 + 135 by omega)]
    congr 1
    by_cases h2 : i = m
    · rw [if_pos h2, if_neg (by omega), if_pos (by omega)]
    · rw [if_neg h2]
      by_cases h3 : i < m
      · rw [if_pos h3, if_pos (by omega)]
      · rw [if_neg h3, if_neg (by omega), if_neg (by omega)]
  · rw [if_neg h1, if_neg (show ¬ 136 * k + i = k * 136 + 135 by omega), BitVec.or_zero]
    by_cases h2 : i = m
    · rw [if_pos h2, if_neg (by omega), if_pos (by omega)]
    · rw [if_neg h2]
      by_cases h3 : i < m
      · rw [if_pos h3, if_pos (by omega)]
      · rw [if_neg h3, if_neg (by omega), if_neg (by omega)]

theorem wpList_store1 {P : Program} {ops : Array Oper} {rest : List Oper} {o : Oper} {a : Act} {w : World} {Q : Exit → Act → World → Prop} (hgd : o.guard = none) (ty : TypeId) (x y : Operand) (ho : o.op = .store ty x y)
    (b T n : Nat) (f : Nat → Value) (i : Nat) (hi : i < n) (k : IntKind) (z : Int) (hx : a.eval x = .pointer (some ⟨b, i, none⟩)) (hy : a.eval y = .int k z) (hr : Row w b T (rowF n f)) (hs : (P.info? ty).map (·.size) = some 1)
    (h : ∀ w', Row w' b T (rowF n (upd f i (.int k z))) → Fr (blk b) w w' → wpList P ops Q rest (a.put o.dst undef) w') : wpList P ops Q (o :: rest) a w := by
  refine wpList_plain hgd fun K hK => ?_
  have hst : (storeVar ty ⟨b, i, none⟩ (.int k z)).run P w = .ok () (w.setCell ⟨b, i, none⟩ (.int k z)) := by
    have hc := hr.cellF hi
    have hf := hr.frozen i
    cases hq : P.info? ty with
    | none => simp [hq] at hs
    | some t =>
      have ht : t.size = 1 := by simpa [hq] using hs
      simp [storeVar, sizeOf, typeInfo, hq, Value.cells, ht, storeCells, Addr.add, run_store_int, stored, hc, hf]
  unfold Oper.wp execOp
  simp only [ho, hx, hy, Instr.storeAt, Instr.sureAddr, Sem.run_bind, Sem.run_pure, Result.andThen_ok, hst]
  exact hK _ _ (h _ (hr.setF i _ fun _ _ => rfl) (Fr.set1 (Fr.refl _ _) _))

theorem last_cell {w : World} {bl T : Nat} (m : Nat) (D : Nat → BitVec 8) (a : Nat) (hm : m < 136)
    (h : Row w bl T (rowF 136 (upd (fun i => if 0 ≤ i ∧ i < 0 + m then Value.int .u8 (byt (D (a + (i - 0)))) else .int .u8 (byt 0)) m (.int .u8 1)))) :
    ∃ q : BitVec 8, Hid (q = if 135 = m then 1#8 else 0#8) ∧ w.cell? ⟨bl, 135, none⟩ = some (.int .u8 (byt q)) := by
  refine ⟨if 135 = m then 1#8 else 0#8, rfl, ?_⟩
  rw [h.cellF (by omega)]
  simp only [upd]
  by_cases e : 135 = m
  · rw [if_pos e, if_pos e]; rfl
  · rw [if_neg e, if_neg e, if_neg (by omega)]; rfl
theorem last_row {w : World} {bl T : Nat} (n m k : Nat) (D : Nat → BitVec 8) (hn : 136 * k + m = n) (hm : m < 136) (q : BitVec 8) (hq : q = if 135 = m then 1#8 else 0#8)
    (h : Row w bl T (rowF 136 (upd (upd (fun i => if 0 ≤ i ∧ i < 0 + m then Value.int .u8 (byt (D (136 * k + (i - 0)))) else .int .u8 (byt 0)) m (.int .u8 1)) 135 (.int .u8 (byt (q ||| 128#8)))))) :
    Row w bl T (byrow 136 fun i => K.padB n D (136 * k + i)) := by
  refine h.congr fun i hi => ?_
  show _ = Value.int .u8 (byt (K.padB n D (136 * k + i)))
  rw [padB_last n k m D hn hm i]
  simp only [upd]
  by_cases h1 : i = 135
  · rw [if_pos h1, if_pos h1, hq]
    by_cases e : 135 = m
    · rw [if_pos e, if_pos (by omega)]
    · rw [if_neg e, if_neg (by omega), if_neg (by omega)]
  · rw [if_neg h1, if_neg h1]
    by_cases h2 : i = m
    · rw [if_pos h2, if_pos h2]; rfl
    · rw [if_neg h2, if_neg h2]
      by_cases h3 : i < m
      · rw [if_pos (by omega), if_pos h3]; rfl
      · rw [if_neg (by omega), if_neg h3]; rfl

section
attribute [local go_sem] or128 arrayAt33 cell?_At frozen?_At heap_At bits_or_u8
theorem ksum_any (bd n : Nat) (D : Nat → BitVec 8) (w : World) (_hn : n < 600) (hd : Row w bd 5 (byrow n D)) :
    Calls Sahg.prog 5 #[.slice (some ⟨bd, 0, none⟩) n n] w fun e w' => e = .returned (.agg (byrow 32 (K.digest n D))) ∧ Fr nob w w' := by
  have hbs := hd.lt
  go_enter Sahg.func5, Sahg.ntmps5
  go_wp2_with (first | (refine wpList_alloc_row rfl 25 rfl _ (zero25 _) ?_; simp only [Act.put, List.setIfInBounds_toArray, List.set_cons_succ, List.set_cons_zero]) | (refine wpList_alloc_row rfl 29 rfl _ (zero29 _) ?_; simp only [Act.put, List.setIfInBounds_toArray, List.set_cons_succ, List.set_cons_zero]))
  simp only [World.size_alloc]
  have hS0 := (Row.new w 25 (byrow 32 fun _ => 0)).alloc (.cells (rowF 25 fun _ => .int .u64 (u 0)) 29)
  have hA0 := Row.new (w.alloc (.cells (byrow 32 fun _ => 0) 25)) 29 (rowF 25 fun _ => .int .u64 (u 0))
  rw [World.size_alloc] at hA0
  have hF0 := ((Fr.refl nob w).alloc (byrow 32 fun _ => 0) 25).alloc (rowF 25 fun _ => .int .u64 (u 0)) 29
  go_loopw [0] (fun d w' => ∃ k m o : Nat, 136 * k + m = n ∧ d = .slice (some ⟨bd, o, none⟩) m m ∧ (0 < m → o = 136 * k) ∧ Row w' (w.heap.size + 1) 29 (lanes (laneAt n D k)) ∧ Row w' w.heap.size 25 (byrow 32 fun _ => 0) ∧ Fr nob w w') (fun d _ => slen d)
  case atStart => exact ⟨0, n, 0, by omega, rfl, fun _ => rfl, hA0, hS0, hF0⟩
  case round =>
    clear hS0 hA0 hF0
    obtain ⟨k, m, o, hkm, rfl, ho, hA, hS, hF⟩ := hrel
    have hd1 := hF.row hd (fun h => h)
    by_cases hlt : 136 ≤ m
    · have ho' : o = 136 * k := ho (by omega)
      have hB : ∀ j, j < 136 → wr.cell? ⟨bd, o + j, none⟩ = some (.int .u8 (byt (K.padB n D (136 * k + j)))) := fun j hj => by
        rw [ho', byrow_cell hd1 (by omega), padB_in n D _ (by omega)]
      have HK : Hid (136 * k + m = n) := hkm
      have HO : Hid (o = 136 * k) := ho'
      clear hkm ho' ho
      by_cases heq : m = 136
      · subst heq
        go_wp2_with (go_at_call 8; refine (absorb_any (w.heap.size + 1) 29 (laneAt n D k) bd o (fun j => K.padB n D (136 * k + j)) _ hA (by omega) hB).mono ?_; rintro e w2 ⟨rfl, hA2, hF2⟩)
        have hS2 := hF2.row hS (not_blk (by omega))
        have hF3 := hF.trans hF2 (fun j hj h => absurd h (not_blk (by omega)))
        go_roundw
        case rel => exact ⟨k + 1, 0, o, by have := HK.out; omega, rfl, fun h => by omega, hA2, hS2, hF3⟩
        case measure => simp [slen]
      · go_wp2_with (go_at_call 8; refine (absorb_any (w.heap.size + 1) 29 (laneAt n D k) bd o (fun j => K.padB n D (136 * k + j)) _ hA (by omega) hB).mono ?_; rintro e w2 ⟨rfl, hA2, hF2⟩)
        have hS2 := hF2.row hS (not_blk (by omega))
        have hF3 := hF.trans hF2 (fun j hj h => absurd h (not_blk (by omega)))
        go_roundw
        case rel => exact ⟨k + 1, m - 136, o + 136, by have := HK.out; omega, rfl, fun h => by have := HO.out; omega, hA2, hS2, hF3⟩
        case measure => simp [slen]; omega
    · have hm : m < 136 := by omega
      clear hlt
      have hsrc : ∀ j, j < m → (wr.alloc (.cells (byrow 136 fun _ => 0) 33)).cell? ⟨bd, o + j, none⟩ = some (.int .u8 (byt (D (136 * k + j)))) := fun j hj => by
        rw [ho (by omega)]; exact byrow_cell (hd1.alloc _) (by omega)
      have HK : Hid (136 * k + m = n) := hkm
      have hbl : w.heap.size + 1 < wr.heap.size := hA.lt
      have hA1 := hA.alloc (.cells (byrow 136 fun _ => 0) 33)
      have hS1 := hS.alloc (.cells (byrow 136 fun _ => 0) 33)
      have hF1 := hF.alloc (byrow 136 fun _ => 0) 33
      have hL1 := Row.new wr 33 (byrow 136 fun _ => 0)
      have Hsrc : Hid (∀ j, j < m → (wr.alloc (.cells (byrow 136 fun _ => 0) 33)).cell? ⟨bd, o + j, none⟩ = some (.int .u8 (byt (D (136 * k + j))))) := hsrc
      clear hkm ho hsrc
      go_wp2_with (first | (refine wpList_alloc_row rfl 33 rfl _ (zero33 _) ?_; simp only [Act.put, List.setIfInBounds_toArray, List.set_cons_succ, List.set_cons_zero]) | (refine wpList_copy rfl 23 23 _ _ rfl 5 Sahg.underlying23 size5 wr.heap.size 33 136 (fun _ => .int .u8 (byt 0)) 0 136 136 (by rfl) bd o m m (by rfl) m (by show _ = min _ _; omega) (fun j => .int .u8 (byt (D (136 * k + j)))) Hsrc.out (fun _ => rfl) hL1 (by omega) ?_; intro w3 hL3 hF3; simp only [Act.put, List.setIfInBounds_toArray, List.set_cons_succ, List.set_cons_zero]) | (refine wpList_store1 rfl 5 _ _ rfl wr.heap.size 33 136 _ m hm .u8 1 (by rfl) (by rfl) hL3 size5 ?_; intro w4 hL4 hF4; obtain ⟨q, HQ, c135⟩ := last_cell m D (136 * k) hm hL4; simp only [Act.put]) | (refine wpList_store1 rfl 5 _ _ rfl wr.heap.size 33 136 _ 135 (by omega) .u8 (byt (q ||| 128#8)) (by rfl) (by rfl) hL4 size5 ?_; intro w5 hL5 hF5; simp only [Act.put]))
      have hL6 := last_row n m k D HK.out hm q HQ.out hL5
      have nA : ¬ blk wr.heap.size (w.heap.size + 1) := not_blk (by omega)
      have nS : ¬ blk wr.heap.size w.heap.size := not_blk (by omega)
      have hA6 := hF5.row (hF4.row (hF3.row hA1 nA) nA) nA
      have hS6 := hF5.row (hF4.row (hF3.row hS1 nS) nS) nS
      have hno : ∀ j, j < w.heap.size → blk wr.heap.size j → nob j := fun j hj h => absurd h (not_blk (by omega))
      have hF6 := ((hF1.trans hF3 hno).trans hF4 hno).trans hF5 hno
      refine (absorb_any (w.heap.size + 1) 29 (laneAt n D k) wr.heap.size 0 (fun j => K.padB n D (136 * k + j)) w5 hA6 (by omega) (fun j hj => by rw [Nat.zero_add]; exact byrow_cell hL6 hj)).mono ?_
      rintro e w6 ⟨rfl, hA7, hF7⟩
      have hS7 := hF7.row hS6 (not_blk (by omega))
      have hF8 := hF6.trans hF7 (fun j hj h => absurd h (not_blk (by omega)))
      have hb6 : w.heap.size + 1 < w6.heap.size := hA7.lt
      have hA8 := hA7.alloc (.cells (byrow 32 fun _ => 0) 25)
      have hS8 := hS7.alloc (.cells (byrow 32 fun _ => 0) 25)
      have hF9 := hF8.alloc (byrow 32 fun _ => 0) 25
      have hk : k = n / 136 := by have := HK.out; omega
      have hbits : ∀ i, i < 1600 → K.bitsL (laneAt n D (k + 1)) i = K.spo (K.mbit n D) (n / 136 + 1) i := by
        rw [← hk]; exact laneAt_bits n D (k + 1)
      have Hb : Hid (∀ i, i < 1600 → K.bitsL (laneAt n D (k + 1)) i = K.spo (K.mbit n D) (n / 136 + 1) i) := hbits
      have hA9 : Row (w6.alloc (.cells (byrow 32 fun _ => 0) 25)) (w.heap.size + 1) 29 (lanes (laneAt n D (k + 1))) := hA8
      clear hbits hk hA hS hF hA1 hS1 hF1 hL1 hL3 hF3 hL4 hF4 hL5 hF5 hL6 hA6 hS6 hF6 hA7 hS7 hF7 hF8 hA8 c135 HQ hno
      go_wp2_with (refine wpList_alloc_row rfl 25 rfl _ (zero25 _) ?_; simp only [Act.put, List.setIfInBounds_toArray, List.set_cons_succ, List.set_cons_zero])
      generalize laneAt n D (k + 1) = AA at *
      go_loopw [6] (fun i w' => ∃ I : Nat, I ≤ 4 ∧ i = .int .i64 I ∧ Row w' w6.heap.size 25 (byrow 32 fun j => if j < 8 * I then K.pb (K.bitsL AA) j 8 else 0) ∧ Row w' (w.heap.size + 1) 29 (lanes AA) ∧ Row w' w.heap.size 25 (byrow 32 fun _ => 0) ∧ Fr nob w w') (fun i _ => 4 - (intOf i).toNat)
      case atStart => exact ⟨0, by omega, rfl, byrow_congr (Row.new w6 25 _) (fun i _ => by rw [if_neg (by omega)]), hA9, hS8, hF9⟩
      case round =>
        clear hA9 hS8 hF9
        obtain ⟨I, hI, rfl, hO, hA, hS, hF⟩ := hrel
        by_cases hlt : I < 4
        · have hc : wr.cell? ⟨w.heap.size + 1, I, none⟩ = some (.int .u64 (u (AA I))) := hA.cellF (by omega)
          go_wp2
          refine region_tail 7 (by kernel_rfl) (by kernel_rfl) ?_
          simp only [List.take_succ_cons, List.take_zero, List.drop_succ_cons, List.drop_zero]
          repeat (go_big_quiet_step ((go_at_call 10; exact Calls.at_of_same (turned_any _ _))))
          refine wpQuiet_nil ?_
          go_wp2_with fail
          refine (put_int w6.heap.size 25 32 32 32 _ (8 * I) (by omega) _ (turned (AA I)) _ (by omega) (by omega) (by omega) (by omega) hO.drew).mono ?_
          rintro e w7 ⟨rfl, hO2, hF2⟩
          have hA2 := hF2.row hA.drew (not_blk (by omega))
          have hS2 := hF2.row hS.drew (not_blk (by omega))
          have hF3 := hF.drew.trans hF2 (fun j hj h => absurd h (not_blk (by omega)))
          have hO3 : Row w7 w6.heap.size 25 (byrow 32 fun j => if j < 8 * (I + 1) then K.pb (K.bitsL AA) j 8 else 0) := by
            refine hO2.congr fun i _ => ?_
            simp only []
            by_cases c : 8 * I ≤ i ∧ i < 8 * I + 8
            · rw [if_pos c, out_byte AA I (i - 8 * I) (by omega), show 8 * I + (i - 8 * I) = i by omega, if_pos (by omega)]
            · rw [if_neg c]
              by_cases c2 : i < 8 * I
              · rw [if_pos c2, if_pos (by omega)]
              · rw [if_neg c2, if_neg (by omega)]
          clear hO hA hS hF hO2 hF2 hc
          go_wp2
          go_roundw
          case rel => exact ⟨I + 1, by omega, by go_num, hO3, hA2, hS2, hF3⟩
          case measure => simp [intOf]; omega
        · obtain rfl : I = 4 := by omega
          have hO2 : Row wr w6.heap.size 25 (byrow 32 (K.digest n D)) := byrow_congr hO (fun i hi => by
            rw [if_pos (by omega)]; unfold K.digest; exact K.pb_congr i Hb.out hi 8 (by omega))
          go_wp2_with (first | (refine wpList_load_row rfl 25 _ rfl w6.heap.size rfl 25 (byrow 32 (K.digest n D)) (0, 0) _ hO2 Sahg.underlying25 rfl (by rw [byrow_size]; exact size25) ?_) | (refine wpList_store_row rfl 25 _ _ rfl w.heap.size (byrow 32 (K.digest n D)) (by rfl) (by rfl) 25 (byrow 32 fun _ => 0) hS (by rw [byrow_size]; exact size25) (by rw [byrow_size, byrow_size]) (byrow_one _ _) ?_))
          exact bodyPost_ret (v := .agg (byrow 32 (K.digest n D))) (ret_row25 Sahg.results5 _ w.heap.size 25 _ rfl (hS.setRow _)) rfl ⟨rfl, hF.setRow (.inl (Nat.le_refl _)) _⟩
end
end Go.Proofs.Ygcsah
