/-
  WORLDS: 'Row w b T vs' (block b is exactly these cells), 'Fr S w w'' (what a call leaves alone); rows told by a function; words as bit vectors.
-/
import Derived.Test.YgcsahRows
import Derived.Test.YgcsahPlain
import Derived.WalkKit
import Derived.WalkSpells
import Derived.RowKit3
import Derived.Deep.MidRow
import Derived.Deep.QuietTactic
import Derived.BigQuiet
import Derived.StillTailTactics
namespace Go.Proofs.Ygcsah
open Go.RowKit

/-! ### Rows told by a function -/
def rowF (n : Nat) (f : Nat → Value) : Array Value := Array.ofFn (n := n) fun i => f i.val
def upd (f : Nat → Value) (i : Nat) (v : Value) (j : Nat) : Value := if j = i then v else f j
theorem rowF_size (n : Nat) (f : Nat → Value) : (rowF n f).size = n := by simp [rowF]
theorem rowF_get {n i : Nat} (f : Nat → Value) (h : i < n) : (rowF n f)[i]? = some (f i) := by simp [rowF, h]
theorem rowF_congr {n : Nat} {f g : Nat → Value} (h : ∀ i, i < n → f i = g i) : rowF n f = rowF n g := by
  unfold rowF; congr 1; funext i; exact h i.val i.isLt
theorem rowF_set (n : Nat) (f : Nat → Value) (i : Nat) (v : Value) : (rowF n f).setIfInBounds i v = rowF n (upd f i v) := by
  apply Array.ext
  · simp [rowF]
  · intro j h1 h2
    simp only [rowF, Array.size_setIfInBounds, Array.size_ofFn] at h1
    rw [Array.getElem_setIfInBounds (by simpa [rowF] using h1)]
    simp only [rowF, Array.getElem_ofFn, upd]
    by_cases e : i = j
    · simp [e]
    · simp [e, Ne.symm e]

/-! ### A block that is known whole -/
def Row (w : World) (b : Nat) (T : TypeId) (vs : Array Value) : Prop := w.heap[b]? = some (.cells vs T (0, 0))
theorem Row.lt {w : World} {b T : Nat} {vs : Array Value} (h : Row w b T vs) : b < w.heap.size := by
  unfold Row at h
  rcases Nat.lt_or_ge b w.heap.size with h' | h'
  · exact h'
  · rw [Array.getElem?_eq_none h'] at h; cases h
theorem Row.cell {w : World} {b T : Nat} {vs : Array Value} (h : Row w b T vs) (o : Nat) : w.cell? ⟨b, o, none⟩ = vs[o]? := by
  unfold Row at h; simp [World.cell?, h]
theorem Row.cellF {w : World} {b T n : Nat} {f : Nat → Value} (h : Row w b T (rowF n f)) {o : Nat} (ho : o < n) : w.cell? ⟨b, o, none⟩ = some (f o) := by
  rw [h.cell, rowF_get f ho]
theorem Row.frozen {w : World} {b T : Nat} {vs : Array Value} (h : Row w b T vs) (o : Nat) : w.frozen? ⟨b, o, none⟩ = false := by
  unfold Row at h; simp [World.frozen?, h]
theorem Row.set {w : World} {b T : Nat} {vs : Array Value} (h : Row w b T vs) (o : Nat) (v : Value) : Row (w.setCell ⟨b, o, none⟩ v) b T (vs.setIfInBounds o v) := by
  unfold Row at *
  simp [World.setCell, Array.getElem?_modify, h]
theorem Row.setF {w : World} {b T n : Nat} {f g : Nat → Value} (h : Row w b T (rowF n f)) (o : Nat) (v : Value) (e : ∀ i, i < n → upd f o v i = g i) : Row (w.setCell ⟨b, o, none⟩ v) b T (rowF n g) := by
  have := h.set o v
  rw [rowF_set, rowF_congr e] at this
  exact this
theorem Row.other {w : World} {b T : Nat} {vs : Array Value} (h : Row w b T vs) {a : Addr} (ne : b ≠ a.block) (v : Value) : Row (w.setCell a v) b T vs := by
  unfold Row at *
  rw [Below.heap_setCell w a v b ne, h]
theorem Row.alloc {w : World} {b T : Nat} {vs : Array Value} (h : Row w b T vs) (o : Obj) : Row (w.alloc o) b T vs := by
  have := h.lt
  unfold Row at *
  rw [Below.heap_alloc w o b this, h]
theorem Row.new (w : World) (T : TypeId) (vs : Array Value) : Row (w.alloc (.cells vs T)) w.heap.size T vs := heap_alloc_new w _
theorem Row.drewN {w : World} {b T : Nat} {vs : Array Value} (h : Row w b T vs) (n : Nat) : Row (w.drewN n) b T vs := h
theorem Row.undrewN {w : World} {b T n : Nat} {vs : Array Value} (h : Row (w.drewN n) b T vs) : Row w b T vs := h
theorem Row.drew {w : World} {b T : Nat} {vs : Array Value} (h : Row w b T vs) : Row w.drew b T vs := h
theorem Row.congr {w : World} {b T n : Nat} {f g : Nat → Value} (h : Row w b T (rowF n f)) (e : ∀ i, i < n → f i = g i) : Row w b T (rowF n g) := by
  rw [← rowF_congr e]; exact h

/-! ### What a call leaves alone -/
structure Fr (S : Nat → Prop) (w w' : World) : Prop where
  os : w'.os = w.os
  tape : w'.tape = w.tape
  output : w'.output = w.output
  size : w.heap.size ≤ w'.heap.size
  frz : ∀ a, w'.frozen? a = w.frozen? a
  block : ∀ k, k < w.heap.size → ¬ S k → w'.heap[k]? = w.heap[k]?
def nob : Nat → Prop := fun _ => False
/-- The one block b. -/
def blk (b : Nat) : Nat → Prop := fun k => k = b
theorem not_blk {a b : Nat} (h : a ≠ b) : ¬ blk b a := h
theorem Fr.refl (S : Nat → Prop) (w : World) : Fr S w w := ⟨rfl, rfl, rfl, Nat.le_refl _, fun _ => rfl, fun _ _ _ => rfl⟩
theorem Fr.mono {S S' : Nat → Prop} {w w' : World} (h : Fr S w w') (hS : ∀ k, k < w.heap.size → S k → S' k) : Fr S' w w' :=
  ⟨h.os, h.tape, h.output, h.size, h.frz, fun k hk hn => h.block k hk (fun hs => hn (hS k hk hs))⟩
theorem Fr.any {S : Nat → Prop} {w w' : World} (h : Fr nob w w') : Fr S w w' := h.mono fun _ _ f => f.elim
theorem Fr.trans {S S' : Nat → Prop} {a b c : World} (h : Fr S a b) (k : Fr S' b c) (hS : ∀ k, k < a.heap.size → S' k → S k) : Fr S a c :=
  ⟨k.os.trans h.os, k.tape.trans h.tape, k.output.trans h.output, Nat.le_trans h.size k.size, fun x => (k.frz x).trans (h.frz x),
    fun i hi hn => (k.block i (Nat.lt_of_lt_of_le hi h.size) (fun hs => hn (hS i hi hs))).trans (h.block i hi hn)⟩
theorem Fr.setCell {S : Nat → Prop} {a w : World} (h : Fr S a w) {p : Addr} (hp : a.heap.size ≤ p.block ∨ S p.block) (u : Value) : Fr S a (w.setCell p u) :=
  ⟨h.os, h.tape, h.output, by rw [World.size_setCell]; exact h.size, fun x => (World.frozen?_setCell _ _ _ _).trans (h.frz x), fun k hk hn => by
    rw [Below.heap_setCell w p u k (fun e => by subst e; rcases hp with hp | hp; omega; exact hn hp)]; exact h.block k hk hn⟩
theorem Fr.set1 {b o : Nat} {a w : World} (h : Fr (blk b) a w) (v : Value) : Fr (blk b) a (w.setCell ⟨b, o, none⟩ v) := h.setCell (p := ⟨b, o, none⟩) (.inr (show b = b from rfl)) v
theorem Fr.setNew {S : Nat → Prop} {b o : Nat} {a w : World} (h : Fr S a w) (hb : a.heap.size ≤ b) (v : Value) : Fr S a (w.setCell ⟨b, o, none⟩ v) := h.setCell (p := ⟨b, o, none⟩) (.inl hb) v
theorem Fr.alloc {S : Nat → Prop} {a w : World} (h : Fr S a w) (vs : Array Value) (T : TypeId) : Fr S a (w.alloc (.cells vs T)) :=
  ⟨h.os, h.tape, h.output, by rw [World.size_alloc]; exact Nat.le_succ_of_le h.size, fun x => (frozen?_alloc_cells _ _ _ _).trans (h.frz x), fun k hk hn => by
    rw [Below.heap_alloc w _ k (Nat.lt_of_lt_of_le hk h.size)]; exact h.block k hk hn⟩
theorem Fr.drewN {S : Nat → Prop} {a w : World} (h : Fr S a w) (n : Nat) : Fr S a (w.drewN n) := ⟨h.os, h.tape, h.output, h.size, h.frz, h.block⟩
theorem Fr.drew {S : Nat → Prop} {a w : World} (h : Fr S a w) : Fr S a w.drew := ⟨h.os, h.tape, h.output, h.size, h.frz, h.block⟩
theorem Fr.row {S : Nat → Prop} {w w' : World} (h : Fr S w w') {b T : Nat} {vs : Array Value} (r : Row w b T vs) (hn : ¬ S b) : Row w' b T vs := by
  have := r.lt
  unfold Row at *
  rw [h.block b this hn, r]
theorem Fr.cell {S : Nat → Prop} {w w' : World} (h : Fr S w w') {a : Addr} {v : Value} (hc : w.cell? a = some v) (hn : ¬ S a.block) : w'.cell? a = some v := by
  have hb : a.block < w.heap.size := World.block_lt_of_cell? w a hc
  rw [World.cell?_of_block (w := w) (h.block a.block hb hn)]; exact hc
theorem Fr.grown {w w' : World} (h : Fr nob w w') : Grown w w' := by
  refine ⟨?_, h.frz, h.size⟩
  have hb : Below w.heap.size w w' := ⟨h.os, h.tape, h.output, h.size, fun k hk => h.block k hk (fun f => f.elim)⟩
  exact hb.frame _

/-! ### Words as bit vectors -/
/-- A uint64, a byte. -/
def u (x : BitVec 64) : Int := (x.toNat : Int)
def byt (x : BitVec 8) : Int := (x.toNat : Int)
theorem u_nonneg (x : BitVec 64) : 0 ≤ u x := by unfold u; omega
theorem u_lt (x : BitVec 64) : u x < 18446744073709551616 := by unfold u; have := x.isLt; omega
theorem u8_nonneg (x : BitVec 8) : 0 ≤ byt x := by unfold byt; omega
theorem u8_lt (x : BitVec 8) : byt x < 256 := by unfold byt; have := x.isLt; omega
theorem bits_xor_u (x y : BitVec 64) : bits .xor .u64 (u x) (u y) = u (x ^^^ y) := by
  unfold u; rw [u64_xor_nat _ _ (by have := x.isLt; omega) (by have := y.isLt; omega), BitVec.toNat_xor]
theorem bits_and_u (x y : BitVec 64) : bits .and .u64 (u x) (u y) = u (x &&& y) := by
  unfold u; rw [u64_and_nat _ _ (by have := x.isLt; omega) (by have := y.isLt; omega), BitVec.toNat_and]
theorem bits_or_u (x y : BitVec 64) : bits .or .u64 (u x) (u y) = u (x ||| y) := by
  unfold u; rw [u64_or_nat _ _ (by have := x.isLt; omega) (by have := y.isLt; omega), BitVec.toNat_or]
theorem bits_or_u8 (x y : BitVec 8) : bits .or .u8 (byt x) (byt y) = byt (x ||| y) := by
  unfold byt; rw [u8_or_nat _ _ (by have := x.isLt; omega) (by have := y.isLt; omega), BitVec.toNat_or]
theorem shr_u (x : BitVec 64) (k : Nat) : u x / (2 ^ k : Int) = u (x >>> k) := by
  unfold u; rw [BitVec.toNat_ushiftRight, Nat.shiftRight_eq_div_pow]; push_cast; rfl
theorem shl_u (x : BitVec 64) (k : Nat) : IntKind.u64.wrap (u x * (2 ^ k : Int)) = u (x <<< k) := by
  unfold u; rw [IntKind.wrap_u64, BitVec.toNat_shiftLeft, Nat.shiftLeft_eq, Int.natCast_emod, Int.natCast_mul, Int.natCast_pow]; rfl
end Go.Proofs.Ygcsah
