/-
  'Rows.HashLongSaid': the row out of the walk (YgcsahLaw.lean). The frame is the guide's template, written by its tool for this function.
-/
import Derived.Test.YgcsahLaw
import Derived.WalkKit
import Derived.ProofKit
import Derived.OpenShut
import Derived.ShutString
namespace Go.Proofs.Ygcsah.hashLong
open Go.ChangeShapes Go.WideShapes Go.ChangeAt Go.RowKit
open Go.ChangeMaps (open_string shut_string)
set_option linter.unusedVariables false

theorem own : ownKnob Sahg.prog.godebug = none := by kernel_rfl

/-! ### THE WALK: the Go text returns true; the world has at most new blocks -/
theorem walk (a0 : Int) (a1 : Int) (w0 : (Lit.int .u16 a0).wf = true) (w1 : (Lit.int .u8 a1).wf = true) (w : World) :
    Calls Sahg.prog 3 #[.int .u16 a0, .int .u8 a1] w fun e w' => e = .returned (.bool true) ∧ Grown w w' := by
  exact hash_walk a0 a1 w0 w

/-! ### THE ROW's STEP -/
set_option maxRecDepth 100000 in
theorem lifted (os : Os) (started : os.Started) (H : Type) (enc : TypeId × Value → H) :
    ReturnsInHanded {} Sahg.checked os 3 .any (Rows.hashLongSpec.pre6 enc Sahg.prog Sahg.f3 Rows.hashLongRow.domain false) (Rows.hashLongSpec.post enc Sahg.prog Sahg.f3 false true false false) := by
  refine returnsInHanded_of_change (C := Sahg.checked) own started (by kernel_rfl) Sahg.func3
    (ChangeSpec.witness6 (enc := enc) (C := Sahg.checked) false ⟨#[], #[.int .u16 0, .int .u8 0], []⟩ 8 (by kernel_rfl) (by kernel_rfl) (by kernel_rfl) (by kernel_rfl)) ?_
  intro W base args ds gs before hval0 hW hcnd _
  have hval : ∀ (j : Nat) t v, Sahg.f3.params[j]? = some t → args[j]? = some v → Value.okWide Sahg.prog W .any base t v := hval0
  have hW' := hW
  obtain ⟨p, q, hA0, hV, rfl, hfz, hnd⟩ := hW
  have hA : DataW.TrodAll enc Sahg.prog W 0 (fun _ => true) true Sahg.f3.params.toList args.toList ds p := hA0
  rw [Sahg.params3] at hA hval
  obtain ⟨v0, vs0, d0, ds0, p0, q0, hargs, rfl, rfl, h0, r0⟩ := trodAll_cons hA
  obtain ⟨v1, vs1, d1, ds1, p1, q1, rfl, rfl, rfl, h1, r1⟩ := trodAll_cons r0
  obtain ⟨rfl, rfl, rfl⟩ := trodAll_nil r1
  obtain rfl : args = #[v0, v1] := by cases args; simp_all
  obtain ⟨rfl, rfl⟩ := trodVars_none hV
  obtain ⟨a0, rfl, rfl, rfl, w0⟩ := open_int Sahg.underlying22 (hval 0 22 v0 rfl rfl) h0
  obtain ⟨a1, rfl, rfl, rfl, w1⟩ := open_int Sahg.underlying5 (hval 1 5 v1 rfl rfl) h1
  clear hA0 hval0
  simp only [List.append_nil] at hW'
  refine (walk a0 a1 w0 w1 W).mono fun e W' ⟨he, hg⟩ => ?_
  subst he
  exact ⟨_, rfl, post_of_same (pa := []) (pv := []) hW' (fun _ _ _ => (trodAll_cons_mk (shut_bool Sahg.underlying4 _) trodAll_mk0)) (fun sp _ => (trodAll_cons_mk (shut_int Sahg.underlying22 w0) (trodAll_cons_mk (shut_int Sahg.underlying5 w1) trodAll_mk0))) (fun _ _ => rfl) rfl
    (hg.frame _) hg.2.1 (ok_one (by kernel_rfl) rfl (okWide_bool_mk Sahg.underlying4 _))⟩

theorem over : Rows.hashLongRow.holds Sahg.pinned (OpenSpec.ofChange Rows.hashLongSpec) :=
  OpenClaim.holds_of_wide 3 Sahg.f3 rfl rfl rfl rfl rfl rfl rfl ⟨rfl, rfl, rfl, rfl, rfl⟩ rfl rfl rfl rfl rfl (by kernel_rfl) Sahg.func3 (by kernel_rfl)
    (of_decide_eq_true (by kernel_rfl)) (by unfold Func.isWrapper; first | (rw [if_pos (by decide +kernel)]; kernel_rfl) | (rw [if_neg (by decide +kernel)]; exact ⟨rfl, rfl⟩))
    (fun os started H enc _ => lifted os started H enc)

/-- THE STATEMENT -/
theorem proved : Rows.HashLongSaid :=
  over
#print axioms proved
end Go.Proofs.Ygcsah.hashLong
