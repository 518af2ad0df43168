/- RollBounds: whatever two numbers come in, the call returns true, and they read as before. No condition beyond the row's own. -/
import Derived.Test.YtkahniffcehicaaRows
import Derived.Test.YtkahniffcehicaaT5
import Derived.Test.YtkahniffcehicaaOpen
import Derived.WalkKit
import Derived.ProofKit
import Derived.OpenShut
import Derived.Below
namespace Go.Proofs.Ytkahniffcehicaa.rollBounds
open Go Go.RowKit Go.Eng Go.Sy Go.ChangeShapes Go.WideShapes Go.ChangeAt
set_option linter.unusedVariables false
theorem own : ownKnob Try.prog.godebug = none := by kernel_rfl
theorem walk (a0 a1 : Int) (w : World) : Calls Try.prog 3 #[.int .i64 a0, .int .i64 a1] w (Ret (GS.of w) [] fun _ v => v = .bool true) := by
  let K : AV → T → Nat → Bool := fun v _ _ => prB (v = .bool true ∨ ∃ q : Prop, q ∧ v = .sy (.bool q))
  have hE : EOk ⟨fun _ => .bool true, (GS.of w).M⟩ := fun i => rfl
  refine Try.na_bounds [.sy (.int 0 a0), .sy (.int 0 a1)] [.int .i64 a0, .int .i64 a1] ⟨fun _ => .bool true, (GS.of w).M⟩ (fun _ => none) (GS.of w) [] .leaf 0 w K _ hE (Sim.start rfl (Holds.start w)) rfl ?_ ?_
  · refine exB_mk ⟨a0, a1⟩ (mustP rfl ?_)
    refine must_mk (prB_true.2 (.inl rfl)) (allB_mk fun r => ifP (fun hq => prB_true.2 (.inr ⟨r.q, hq, rfl⟩)) (fun _ => rfl))
  · intro v M' nx' E' ρ' w' z hk h1 h2 h3 h4 h5
    obtain ⟨G', g1, g2, g3⟩ := h4.holds
    refine ⟨z, G', rfl, g1, g2, ?_⟩
    rcases prB_true.1 hk with rfl | ⟨q, hq, rfl⟩
    · simpa [den] using h5.symm
    · simp only [den, denS, Option.some.injEq] at h5
      rw [← h5, prB_true.2 hq]
set_option maxRecDepth 100000 in
theorem lifted (os : Os) (started : os.Started) (H : Type) (enc : TypeId × Value → H) :
    ReturnsInHanded {} Try.checked os 3 .any (Rows.rollBoundsSpec.pre6 enc Try.prog Try.f3 Rows.rollBoundsRow.domain false) (Rows.rollBoundsSpec.post enc Try.prog Try.f3 false true false false) := by
  refine returnsInHanded_of_change (C := Try.checked) own started (by kernel_rfl) Try.func3
    (ChangeSpec.witness6 (enc := enc) (C := Try.checked) false ⟨#[], #[.int .i64 0, .int .i64 0], []⟩ 8 (by kernel_rfl) (by kernel_rfl) (by kernel_rfl) (by kernel_rfl)) ?_
  intro W base args ds gs before hval0 hW hcnd _
  have hval : ∀ (j : Nat) t v, Try.f3.params[j]? = some t → args[j]? = some v → Value.okWide Try.prog W .any base t v := hval0
  have hW' := hW
  obtain ⟨p, q, hA0, hV, rfl, hfz, hnd⟩ := hW
  have hA : DataW.TrodAll enc Try.prog W 0 (fun _ => true) true Try.f3.params.toList args.toList ds p := hA0
  rw [Try.params3] at hA hval
  obtain ⟨v0, vs0, d0, ds0, p0, q0, hargs, rfl, rfl, h0, r0⟩ := trodAll_cons hA
  obtain ⟨v1, vs1, d1, ds1, p1, q1, rfl, rfl, rfl, h1, r1⟩ := trodAll_cons r0
  obtain ⟨rfl, rfl, rfl⟩ := trodAll_nil r1
  obtain rfl : args = #[v0, v1] := by cases args; simp_all
  obtain ⟨rfl, rfl⟩ := trodVars_none hV
  obtain ⟨a0, rfl, rfl, rfl, w0⟩ := open_int Try.underlying3 (hval 0 3 v0 rfl rfl) h0
  obtain ⟨a1, rfl, rfl, rfl, w1⟩ := open_int Try.underlying3 (hval 1 3 v1 rfl rfl) h1
  clear hA0 hval0
  simp only [List.append_nil] at hW'
  refine (walk a0 a1 W).mono fun e W2 ⟨v, G2, he, hG, hh, hv⟩ => ?_
  subst he; subst hv
  have bel : Below W.heap.size W W2 := Holds.below hG hh
  exact ⟨_, rfl, _, _, _, [], _, [], hW', trodAll_mk1 (shut_bool Try.underlying4 _), (trodAll_cons_mk (shut_int Try.underlying3 w0) (trodAll_cons_mk (shut_int Try.underlying3 w1) trodAll_mk0)), rfl, bel.frame _, fun h => by cases h⟩
theorem over : Rows.rollBoundsRow.holds Try.pinned (OpenSpec.ofChange Rows.rollBoundsSpec) :=
  OpenClaim.holds_of_wide 3 Try.f3 rfl rfl rfl rfl rfl rfl rfl ⟨rfl, rfl, rfl, rfl, rfl⟩ rfl rfl rfl rfl rfl (by kernel_rfl) Try.func3 (by kernel_rfl)
    (of_decide_eq_true (by kernel_rfl)) (by unfold Func.isWrapper; first | (rw [if_pos (by decide +kernel)]; kernel_rfl) | (rw [if_neg (by decide +kernel)]; exact ⟨rfl, rfl⟩))
    (fun os started H enc _ => lifted os started H enc)
theorem holds : Rows.RollBoundsSaid := over
#print axioms holds
end Go.Proofs.Ytkahniffcehicaa.rollBounds
