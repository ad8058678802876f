/- Sets of orbits: their data, in cells and in a law's argument. -/
import Derived.Test.YtefmjpbmdoebaaaFi
import Derived.Test.YtefmjpbmdoebaaaAm19
set_option linter.unusedVariables false
namespace Go.Proofs.Ytefmjpbmdoebaaa
open Go Go.RowKit

/-- A set of orbits: width, constants, patterns. -/
structure OS where
  width : Int
  consts : List Int
  pats : List (List Int)

def cOS : Cd OS where
  sz := 3
  ok := fun H cs s => ∃ v1 v2, cs = [.int .i64 s.width, v1, v2] ∧ Sl cI H v1 s.consts ∧ Sl (cL cI) H v2 s.pats
  pos := by omega
  len := fun ⟨v1, v2, h, _⟩ => by rw [h]; rfl
  one := fun ⟨v1, v2, h, h1, h2⟩ => by rw [h, List.all_cons, List.all_cons, List.all_cons, sl_one h1, sl_one h2]; rfl
  calm := fun hc ⟨v1, v2, h, h1, h2⟩ => ⟨v1, v2, h, h1.calm hc, h2.calm hc⟩

theorem opens_os {P : Program} {t ti ts tss : TypeId} {fs : Array Field} (ht : P.underlying t = some (.struct fs)) (hf : fs.toList.map (fun f => (f.type, f.offset, P.cellsOf f.type)) = [(ti, 0, 1), (ts, 1, 1), (tss, 2, 1)]) (hc : P.cellsOf t = 3)
    (h1 : Opens P cI ti InR) (h2 : Opens P (cL cI) ts (fun l => ∀ x ∈ l, InR x)) (h3 : Opens P (cL (cL cI)) tss (fun l => ∀ x ∈ l, ∀ y ∈ x, InR y)) :
    Opens P cOS t (fun s => InR s.width ∧ (∀ x ∈ s.consts, InR x) ∧ ∀ x ∈ s.pats, ∀ y ∈ x, InR y) := by
  intro X enc w base spare held fuel cs x h
  cases fuel with
  | zero => cases h
  | succ fuel =>
    obtain ⟨hl, hg⟩ := opens_struct ht hf h
    rw [hc] at hl
    match cs, hl with
    | [c0, c1, c2], _ =>
      obtain ⟨y0, g0⟩ := hg 0 (ti, 0, 1) rfl
      obtain ⟨y1, g1⟩ := hg 1 (ts, 1, 1) rfl
      obtain ⟨y2, g2⟩ := hg 2 (tss, 2, 1) rfl
      obtain ⟨a, q0, k0⟩ := h1 X enc w base spare held fuel _ _ g0
      obtain ⟨l, q1, k1⟩ := h2 X enc w base spare held fuel _ _ g1
      obtain ⟨m, q2, k2⟩ := h3 X enc w base spare held fuel _ _ g2
      refine ⟨⟨a, l, m⟩, ⟨q0, q1, q2⟩, canonC w.heap.size c1, canonC w.heap.size c2, ?_, cL_at k1, cL_at k2⟩
      have e0 : canonC w.heap.size c0 = .int .i64 a := by
        have : [canonC w.heap.size c0] = [Value.int .i64 a] := k0
        simpa using this
      simp [e0]

end Go.Proofs.Ytefmjpbmdoebaaa
