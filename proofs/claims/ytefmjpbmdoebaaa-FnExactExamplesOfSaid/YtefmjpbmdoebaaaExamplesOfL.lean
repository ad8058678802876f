/- The row FnExactExamplesOf, out of its body's walk. -/
import Derived.Test.YtefmjpbmdoebaaaRows
import Derived.Test.YtefmjpbmdoebaaaAm17
import Derived.Test.YtefmjpbmdoebaaaExamplesOfC
import Derived.WalkKit
import Derived.ProofKit
import Derived.OpenShut
import Derived.ChangeOld
import Derived.Below
import Derived.SizedLaws
namespace Go.Proofs.Ytefmjpbmdoebaaa.LawFnExactExamplesOf
open Go.ChangeShapes Go.WideShapes Go.ChangeAt Go.RowKit
set_option linter.unusedVariables false
theorem own : ownKnob Try.prog.godebug = none := by kernel_rfl
theorem laidOut : laidOutB Try.prog = true := by kernel_rfl
set_option maxRecDepth 100000 in
theorem lifted (os : Os) (started : os.Started) (H : Type) (enc : TypeId × Value → H) :
    ReturnsInHanded {} Try.checked os 10 .any (Rows.fnExactExamplesOfSpec.pre6 enc Try.prog Try.f10 Rows.fnExactExamplesOfRow.domain false) (Rows.fnExactExamplesOfSpec.post enc Try.prog Try.f10 false true false false) := by
  refine returnsInHanded_of_change_sized (C := Try.checked) own started (by kernel_rfl) Try.func10
    (ChangeSpec.witness6 (enc := enc) (C := Try.checked) false ⟨#[], #[.agg #[.int .i64 0, .slice none 0 0, .slice none 0 0]], []⟩ 8 (by kernel_rfl) (by kernel_rfl) (by kernel_rfl) (by kernel_rfl)) ?_
  intro W base args ds gs before hval0 hW hcnd hsz0 _
  have hval : ∀ (j : Nat) t v, Try.f10.params[j]? = some t → args[j]? = some v → Value.okWide Try.prog W .any base t v := hval0
  have hW' := hW
  obtain ⟨p, q, hA0, hV, rfl, hfz, hnd⟩ := hW
  have hA : DataW.TrodAll enc Try.prog W 0 (fun _ => true) true Try.f10.params.toList args.toList ds p := hA0
  rw [Try.params10] at hA hval
  obtain ⟨v0, vs0, d0, ds0, p0, q0, hargs, rfl, rfl, h0, r0⟩ := trodAll_cons hA
  obtain ⟨rfl, rfl, rfl⟩ := trodAll_nil r0
  obtain rfl : args = #[v0] := by cases args; simp_all
  obtain ⟨rfl, rfl⟩ := trodVars_none hV
  have k0 := h0
  have lt0 : ∀ x ∈ p0, x.block < W.heap.size := by obtain ⟨m, hm⟩ := k0; exact DataW.trod_lt m _ _ _ hm
  obtain ⟨fuel0, hf0⟩ := h0
  obtain ⟨l0, w0, s0⟩ := (show Opens Try.prog cOS 41 _ from opens_os Try.underlying41 (by kernel_rfl) (by kernel_rfl) (opens_int Try.underlying3) (opens_slice Try.underlying24 (by kernel_rfl) (opens_int Try.underlying3)) (opens_slice Try.underlying28 (by kernel_rfl) (opens_slice Try.underlying24 (by kernel_rfl) (opens_int Try.underlying3)))) _ enc W 0 (fun _ => true) true fuel0 _ _ hf0
  obtain ⟨b0, rfl, hs0, _⟩ := okWide_struct_ Try.underlying41 (hval 0 41 v0 rfl rfl)
  have s0 : cOS.ok (Hp.of W) (cellsOf (.agg (b0.map (canonC W.heap.size)))) l0 := by show cOS.ok (Hp.of W) ((b0.map (canonC W.heap.size)).toList) l0; rw [Array.toList_map]; exact s0
  clear hA0 hval0 hsz0
  have body := lawExamplesOf_at s0 w0
  refine (law_mem (w := W) (vs := [.agg b0]) body).mono fun e W' ⟨he, bel⟩ => ?_
  subst he
  exact ⟨_, rfl, _, _, _, [], _, [], hW', trodAll_mk1 (shut_bool Try.underlying4 _), (trodAll_cons_mk (Below.trod laidOut (by kernel_rfl) (of_decide_eq_true (by kernel_rfl)) k0 bel lt0) trodAll_mk0), rfl, bel.frame _, fun h => by cases h⟩
theorem over : Rows.fnExactExamplesOfRow.holds Try.pinned (OpenSpec.ofChange Rows.fnExactExamplesOfSpec) :=
  OpenClaim.holds_of_wide 10 Try.f10 rfl rfl rfl rfl rfl rfl rfl ⟨rfl, rfl, rfl, rfl, rfl⟩ rfl rfl rfl rfl rfl (by kernel_rfl) Try.func10 (by kernel_rfl)
    (of_decide_eq_true (by kernel_rfl)) (by unfold Func.isWrapper; first | (rw [if_pos (by decide +kernel)]; kernel_rfl) | (rw [if_neg (by decide +kernel)]; exact ⟨rfl, rfl⟩))
    (fun os started H enc _ => lifted os started H enc)
theorem proved : Rows.FnExactExamplesOfSaid := over
end Go.Proofs.Ytefmjpbmdoebaaa.LawFnExactExamplesOf
namespace Go.Proofs.Ytefmjpbmdoebaaa
/-- The row, under a short name, for the claim. -/
theorem fnExactExamplesOf_holds : Rows.FnExactExamplesOfSaid := LawFnExactExamplesOf.proved
#print axioms fnExactExamplesOf_holds
end Go.Proofs.Ytefmjpbmdoebaaa
