/- The abstract machine, part 18: calls of function values, parts of results; propositions as truth values. -/
import Derived.Test.YtefmjpbmdoebaaaAm17
set_option linter.unusedVariables false
set_option linter.unusedSimpArgs false
namespace Go.Proofs.Ytefmjpbmdoebaaa
open Go Go.RowKit

/-- Does it hold? -/
noncomputable def dec (p : Prop) : Bool := @decide p (Classical.propDecidable p)
theorem dec_t {p : Prop} (h : p) : dec p = true := by unfold dec; simp [h]
theorem dec_f {p : Prop} (h : ¬ p) : dec p = false := by unfold dec; simp [h]
theorem of_dec_t {p : Prop} (h : dec p = true) : p := by unfold dec at h; simpa using h
theorem of_dec_f {p : Prop} (h : dec p = false) : ¬ p := by unfold dec at h; simpa using h

section
variable {P : Program} {fl : Bool} {all : Array Oper} {rest : List Oper} {n : Nat} {T : Nat → Value} {H H' : Hp} {K : St → Prop} {d : Nat} {ty : TypeId} {ps : String} {af : Array Edge} {v : Value} {x : Operand}

theorem Ops.callV {f : Operand} {g : FuncId} {first caps : Array Value} {xs : Array Operand} {ts : Array TypeId} {K' : Value → Hp → Prop} (hf : rd T f = .func (.func g) first caps) (h : CallK P g (first.toList ++ xs.toList.map (rd T) ++ caps.toList) H K') (hg : ∀ r H', K' r H' → fl = true → GE H H')
    (k : ∀ r H', K' r H' → Ops P fl all rest ⟨n, up T d r, H'⟩ K) :
    Ops P fl all (⟨some d, .call { callee := .value f, args := xs, argTypes := ts }, ty, ps, af, none⟩ :: rest) ⟨n, T, H⟩ K := by
  obtain ⟨r, H', h1, h2⟩ := h.out
  exact .chain rfl (aev_call rfl hf h1) (hg r H' h2) (k r H' h2)

/-- A call of a function value whose result is a truth value: both ways. -/
theorem Ops.callVB {f : Operand} {g : FuncId} {first caps : Array Value} {xs : Array Operand} {ts : Array TypeId} {b : Bool} (hf : rd T f = .func (.func g) first caps) (h : acall P g (first.toList ++ xs.toList.map (rd T) ++ caps.toList) H (.bool b) H)
    (k1 : b = true → Ops P fl all rest ⟨n, up T d (.bool true), H⟩ K) (k2 : b = false → Ops P fl all rest ⟨n, up T d (.bool false), H⟩ K) :
    Ops P fl all (⟨some d, .call { callee := .value f, args := xs, argTypes := ts }, ty, ps, af, none⟩ :: rest) ⟨n, T, H⟩ K := by
  cases b
  · exact .chain rfl (aev_call rfl hf h) (fun _ => GE.refl' H) (k2 rfl)
  · exact .chain rfl (aev_call rfl hf h) (fun _ => GE.refl' H) (k1 rfl)

/-- Two truth values that are the same. -/
theorem Ops.bne_same {t u : TypeId} {y : Operand} {b : Bool} (hx : rd T x = .bool b) (hy : rd T y = .bool b) (ht : P.underlying t = some .bool) (k : Ops P fl all rest ⟨n, up T d (.bool false), H⟩ K) :
    Ops P fl all (⟨some d, .binOp .neq t x y u, ty, ps, af, none⟩ :: rest) ⟨n, T, H⟩ K :=
  .go rfl (fun H => by have := aev_bne (P := P) (o := ⟨some d, .binOp .neq t x y u, ty, ps, af, none⟩) (ρ := rd T) (H := H) rfl hx hy ht; simpa using this) k

theorem Ops.extract {j : Nat} {vs : Array Value} (hx : rd T x = .tuple vs) (hv : vs[j]? = some v) (k : Ops P fl all rest ⟨n, up T d v, H⟩ K) :
    Ops P fl all (⟨some d, .extract x j, ty, ps, af, none⟩ :: rest) ⟨n, T, H⟩ K := .go rfl (fun _ => aev_extract rfl hx hv) k

end
end Go.Proofs.Ytefmjpbmdoebaaa
