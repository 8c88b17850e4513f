/-
  copy(dst, src) into a row that is known whole.
-/
import Derived.Test.YgcsahWhole
namespace Go.Proofs.Ygcsah
open Go.RowKit

theorem Row.setCells {b T m : Nat} : ∀ (vs : List Value) (o : Nat) (w : World) (f : Nat → Value), Row w b T (rowF m f) →
    Row (w.setCells b o vs) b T (rowF m fun i => if o ≤ i ∧ i < o + vs.length then vs.getD (i - o) undef else f i)
  | [], o, w, f, h => h.congr fun i _ => by rw [if_neg (by simp)]
  | v :: r, o, w, f, h => by
    have h1 := Row.setCells r (o + 1) (w.setCell ⟨b, o, none⟩ v) (upd f o v) (h.setF o v fun _ _ => rfl)
    refine h1.congr fun i _ => ?_
    by_cases e : i = o
    · subst e
      rw [if_neg (by omega), if_pos (by simp)]
      simp [upd]
    · by_cases c : o + 1 ≤ i ∧ i < o + 1 + r.length
      · rw [if_pos c, if_pos (by simp; omega), show i - o = (i - (o + 1)) + 1 by omega]
        rfl
      · rw [if_neg c, if_neg (by simp; omega)]
        simp [upd, e]
theorem Fr.setCells {b : Nat} {a : World} : ∀ (vs : List Value) (o : Nat) (w : World), Fr (blk b) a w → Fr (blk b) a (w.setCells b o vs)
  | [], _, _, h => h
  | v :: r, o, _, h => Fr.setCells r (o + 1) _ (Fr.set1 h v)
theorem range_getD (n j : Nat) (v : Nat → Value) (h : j < n) : ((List.range n).map v).getD j undef = v j := by
  simp [List.getD_eq_getElem?_getD, h]

theorem run_copy_rowF {P : Program} (w : World) (dT sT ty elem : TypeId) (hu : P.underlying dT = some (.slice elem)) (hs : (P.info? elem).map (·.size) = some 1)
    (b T m : Nat) (f : Nat → Value) (od dLen dCap : Nat) (bs os sLen sCap n : Nat) (hn : n = Nat.min sLen dLen) (src : Nat → Value)
    (hsrc : ∀ j, j < n → w.cell? ⟨bs, os + j, none⟩ = some (src j)) (h1 : ∀ j, (src j).oneCell' = true) (hr : Row w b T (rowF m f)) (hfit : od + n ≤ m) :
    (Builtin.copy_ #[dT, sT] ty #[.slice (some ⟨b, od, none⟩) dLen dCap, .slice (some ⟨bs, os, none⟩) sLen sCap]).run P w = .ok (goInt n) (w.setCells b od ((List.range n).map src)) := by
  have := run_copy_cells (P := P) w dT sT ty elem b od dLen dCap ⟨bs, os, none⟩ sLen sCap ((List.range n).map src) hu hs (by simpa using hn)
    (fun j v hv => by
      rw [Addr.add_mid]
      have hj : j < n := by have := (List.getElem?_eq_some_iff.1 hv).1; simpa using this
      rw [hsrc j hj, ← hv]; simp [hj])
    (fun j hj => by rw [hr.cellF (by simp at hj; omega)]; rfl) (fun j _ => hr.frozen _)
    (fun v hv => by obtain ⟨j, _, rfl⟩ := List.mem_map.1 hv; exact h1 j)
  simpa using this

theorem wpList_copy {P : Program} {ops : Array Oper} {rest : List Oper} {o : Oper} {a : Act} {w : World} {Q : Exit → Act → World → Prop} (hgd : o.guard = none) (dT sT : TypeId) (x y : Operand)
    (ho : o.op = .call { callee := .builtin .copy, args := #[x, y], argTypes := #[dT, sT] }) (elem : TypeId) (hu : P.underlying dT = some (.slice elem)) (hs : (P.info? elem).map (·.size) = some 1)
    (b T m : Nat) (f : Nat → Value) (od dLen dCap : Nat) (hx : a.eval x = .slice (some ⟨b, od, none⟩) dLen dCap)
    (bs os sLen sCap : Nat) (hy : a.eval y = .slice (some ⟨bs, os, none⟩) sLen sCap) (n : Nat) (hn : n = Nat.min sLen dLen) (src : Nat → Value)
    (hsrc : ∀ j, j < n → w.cell? ⟨bs, os + j, none⟩ = some (src j)) (h1 : ∀ j, (src j).oneCell' = true) (hr : Row w b T (rowF m f)) (hfit : od + n ≤ m)
    (h : ∀ w', Row w' b T (rowF m fun i => if od ≤ i ∧ i < od + n then src (i - od) else f i) → Fr (blk b) w w' → wpList P ops Q rest (a.put o.dst (.int .i64 n)) w') : wpList P ops Q (o :: rest) a w := by
  refine wpList_plain hgd fun K hK => ?_
  unfold Oper.wp execOp
  have hrun := run_copy_rowF (P := P) w dT sT o.type elem hu hs b T m f od dLen dCap bs os sLen sCap n hn src hsrc h1 hr hfit
  simp only [ho, resolve, Sem.run_bind, Sem.run_pure, Result.andThen_ok, invoke, builtin, List.map_toArray, List.map_cons, List.map_nil, hx, hy, hrun]
  have h' := h (w.setCells b od ((List.range n).map src)) ((Row.setCells _ _ _ _ hr).congr fun i _ => ?_) (Fr.setCells _ _ _ (Fr.refl _ _))
  · exact hK _ _ h'
  · simp only [List.length_map, List.length_range]
    by_cases c : od ≤ i ∧ i < od + n
    · rw [if_pos c, if_pos c, range_getD n _ src (by omega)]
    · rw [if_neg c, if_neg c]
end Go.Proofs.Ygcsah
