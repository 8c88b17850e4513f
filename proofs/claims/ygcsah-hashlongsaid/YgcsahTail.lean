/-
  A REGION THAT DRAWS ITS ORDER AND ENDS IN ONE STORE (OR CALL) THAT WAITS FOR ALL ELSE: the head is walked once, in the text's order, by the cheap step; then the tail.
-/
import Derived.Test.YgcsahBase
namespace Go.Proofs.Ygcsah
open Go.RowKit

/-- The world W; the number is idle. -/
def At (W : World) (_ : Nat) : World := W
theorem cell?_At (W : World) (n : Nat) (a : Addr) : (At W n).cell? a = W.cell? a := rfl
theorem frozen?_At (W : World) (n : Nat) (a : Addr) : (At W n).frozen? a = W.frozen? a := rfl
theorem heap_At (W : World) (n : Nat) : (At W n).heap = W.heap := rfl

theorem wpStill_of_quiet {P : Program} {ops : Array Oper} {W : World} {Q : Act → Prop} :
    ∀ (l : List Oper) (a : Act), wpQuiet P ops (fun w' => ∃ n, w' = At W n) Q l a → wpStill P ops W Q l a
  | [], _, h => h
  | o :: l, a, h => by
    unfold wpQuiet at h
    unfold wpStill
    split
    · rename_i hw
      rw [if_pos hw] at h
      obtain ⟨v, h1, h2⟩ := h
      have h3 := h1 W ⟨0, rfl⟩
      unfold Oper.quietAt at h3
      unfold Oper.still
      generalize (execOp a.eval o).run P W = r at *
      cases r with
      | ok n w' =>
        cases n <;> simp only [Oper.quietUpon] at h3 <;> simp only [Oper.stillUpon]
        case value x => obtain ⟨e1, e2⟩ := h3; subst e2; exact ⟨e1, wpStill_of_quiet l _ h2⟩
        case skip => obtain ⟨e1, e2⟩ := h3; subst e2; exact ⟨e1, wpStill_of_quiet l _ h2⟩
        case enter f args =>
          obtain ⟨e1, hc⟩ := h3
          exact ⟨e1, v, hc.mono (fun e w'' ⟨he, _, hw''⟩ => ⟨he, hw''⟩), wpStill_of_quiet l _ h2⟩
      | halt x w' => simp only [Oper.quietUpon] at h3
    · rename_i hw
      rw [if_neg hw] at h
      exact wpStill_of_quiet l _ h

theorem region_tail {P : Program} {id : Nat} {Q : Exit → Act → World → Prop} {a : Act} {w : World} {l : List Oper} (n : Nat) (hm : P.follows .mixedOrders = true) (hB : Region.lexTailB .any l.toArray n = true)
    (h : wpQuiet P l.toArray (fun w' => ∃ n, w' = At w.drew n) (fun a' => wpList P l.toArray Q (l.drop n) a' w.drew) (l.take n) a) : (Code.region id l.toArray true).wp P Q a w :=
  wp_region_still_tail n hm hB (wpStill_of_quiet _ _ h)

/-- A callee that leaves the world as it is, at a call inside the head. -/
theorem Calls.at_of_same {P : Program} {f : FuncId} {args : Array Value} {W : World} {n : Nat} {v : Value}
    (h : Calls P f args (At W n) fun e w' => e = .returned v ∧ w' = At W n) : Calls P f args (At W n) fun e w'' => e = .returned v ∧ ∃ m, w'' = At W m :=
  h.mono fun _ _ ⟨he, hm⟩ => ⟨he, n, hm⟩
end Go.Proofs.Ygcsah
