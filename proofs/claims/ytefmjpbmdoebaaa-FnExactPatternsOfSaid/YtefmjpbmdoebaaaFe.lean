/- From an abstract call at an empty memory to the world's. -/
import Derived.Test.YtefmjpbmdoebaaaFd
set_option linter.unusedVariables false
namespace Go.Proofs.Ytefmjpbmdoebaaa
open Go Go.RowKit

/-- No memory. -/
def Hp.none : Hp := ⟨fun _ => .none, fun _ => false, fun i => i, 0, fun _ _ => rfl, fun i h => by omega, fun i j h => by omega⟩

theorem HR.none (w : World) : HR w.heap.size (fun _ => .none) Hp.none w :=
  ⟨fun _ _ => rfl, fun _ _ _ h => (by cases h), fun _ _ _ _ h => (by cases h), fun _ _ _ _ _ h => (by cases h), fun _ _ _ _ h => (by cases h), fun _ _ _ _ _ _ _ h => (by cases h), Nat.le_refl _⟩

/-- A law that asks for numbers and truth values. -/
theorem law_plain {P : Program} {f : FuncId} {vs : List Value} (h : CallK P f vs Hp.none (fun r _ => r = .bool true)) (hs : vs.all Value.still = true) (w : World) : Calls P f vs.toArray w fun e w' => e = .returned (.bool true) ∧ Below w.heap.size w w' := by
  obtain ⟨r, H', h1, rfl⟩ := h.out
  refine (h1.2 w.heap.size _ w vs.toArray ⟨by simp, fun j v hj => ⟨v, by simpa using hj, known_list hs j _ v hj⟩⟩ (HR.none w)).mono ?_
  rintro e w' ⟨β', v, rfl, hv, hr, hf⟩
  exact ⟨by rw [VR.still_eq rfl hv], hf.below⟩

end Go.Proofs.Ytefmjpbmdoebaaa
