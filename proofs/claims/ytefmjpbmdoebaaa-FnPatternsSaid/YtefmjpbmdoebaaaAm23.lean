/- The abstract machine, part 23: parts of slices, whatever they are. -/
import Derived.Test.YtefmjpbmdoebaaaAm22
set_option linter.unusedVariables false
set_option linter.unusedSimpArgs false
namespace Go.Proofs.Ytefmjpbmdoebaaa
open Go Go.RowKit

/-- A part of an empty slice. -/
def emptyS (p : Option Addr) : Value := match p with | none => .slice none 0 0 | some _ => .slice (some void) 0 0

theorem Sl.emptyS {α : Type} {c : Cd α} {H : Hp} (p : Option Addr) : Sl c H (emptyS p) [] := by
  cases p with
  | none => exact .inl ⟨rfl, none, rfl, fun a h _ => by cases h⟩
  | some a => exact .inl ⟨rfl, some void, rfl, fun a h hs => by cases h; cases hs⟩

theorem VR.empty {β : Bm} {p : Option Addr} {u : Value} (h : VR β (.slice p 0 0) u) : (p = none ∧ u = .slice none 0 0) ∨ (∃ a a' c, p = some a ∧ c ≤ maxLen ∧ u = .slice (some a') 0 c) := by
  cases h with
  | nilslice => exact .inl ⟨rfl, rfl⟩
  | slice hb ho hl hm hk => exact .inr ⟨_, _, _, rfl, hm, rfl⟩
  | emp a c hm => exact .inr ⟨_, _, _, rfl, hm, rfl⟩

section
variable {P : Program} {o : Oper} {ρ : Operand → Value} {H : Hp} {x y : Operand} {t e : TypeId} {i : TypeInfo} {p : Option Addr} {k : IntKind}

theorem aev_slice_h0 (ho : o.op = .slice t x none (some y) none) (ht : P.underlying t = some (.slice e)) (hi : P.info? e = some i) (hx : ρ x = .slice p 0 0) (hy : ρ y = .int k 0) : aev P o ρ H (emptyS p) H :=
  aev_pure fun β a hxs => by
    have g1 := hxs x (by rw [ho]; simp [Op.operands])
    have g2 := hxs y (by rw [ho]; simp [Op.operands])
    rw [hx] at g1
    rw [hy] at g2
    have e2 := VR.still_eq rfl g2
    have hel : P.elem t = e := by simp [Program.elem, ht]
    have hu : P.underlying t = some (.slice (P.elem t)) := by rw [hel]; exact ht
    rcases g1.empty with ⟨rfl, hv⟩ | ⟨q, q', c, rfl, hc, hv⟩
    · refine ⟨.slice none 0 0, .nilslice, fun w => ?_⟩
      simp [execOp, ho, hv, e2, run_sliceAt_slice _ t _ _ _ _ hu, run_slice_h w t none 0 0 hu k 0 (by omega) (by omega), hel, sizeOf, typeInfo, hi, sliced]
    · refine ⟨sliced (some q') 0 0 c i.size, ?_, fun w => ?_⟩
      · unfold sliced
        split
        · exact .emp _ _ (by omega)
        · exact .emp _ _ (by omega)
      · simp [execOp, ho, hv, e2, run_sliceAt_slice _ t _ _ _ _ hu, run_slice_h w t (some q') 0 c hu k 0 (by omega) (by omega), hel, sizeOf, typeInfo, hi]

theorem aev_slice_l0 (ho : o.op = .slice t x (some y) none none) (ht : P.underlying t = some (.slice e)) (hi : P.info? e = some i) (hx : ρ x = .slice p 0 0) (hy : ρ y = .int k 0) : aev P o ρ H (emptyS p) H :=
  aev_pure fun β a hxs => by
    have g1 := hxs x (by rw [ho]; simp [Op.operands])
    have g2 := hxs y (by rw [ho]; simp [Op.operands])
    rw [hx] at g1
    rw [hy] at g2
    have e2 := VR.still_eq rfl g2
    have hel : P.elem t = e := by simp [Program.elem, ht]
    have hu : P.underlying t = some (.slice (P.elem t)) := by rw [hel]; exact ht
    rcases g1.empty with ⟨rfl, hv⟩ | ⟨q, q', c, rfl, hc, hv⟩
    · refine ⟨.slice none 0 0, .nilslice, fun w => ?_⟩
      simp [execOp, ho, hv, e2, run_sliceAt_slice _ t _ _ _ _ hu, run_slice_l w t none 0 0 hu k 0 (by omega) (by omega), hel, sizeOf, typeInfo, hi, sliced]
    · refine ⟨sliced (some q') 0 0 c i.size, ?_, fun w => ?_⟩
      · unfold sliced
        split
        · exact .emp _ _ (by omega)
        · exact .emp _ _ (by omega)
      · simp [execOp, ho, hv, e2, run_sliceAt_slice _ t _ _ _ _ hu, run_slice_l w t (some q') 0 c hu k 0 (by omega) (by omega), hel, sizeOf, typeInfo, hi]

end

section
variable {P : Program} {fl : Bool} {all : Array Oper} {rest : List Oper} {n : Nat} {T : Nat → Value} {H H' : Hp} {K : St → Prop} {d : Nat} {ty : TypeId} {ps : String} {af : Array Edge} {x y : Operand} {α : Type} {c : Cd α} {l : List α}

/-- x[:h] -/
theorem Ops.sliceHS {t : TypeId} {ki : IntKind} {h : Int} (hx : Sl c H (rd T x) l) (hy : rd T y = .int ki h) (h0 : 0 ≤ h) (hh : h.toNat ≤ l.length) (ht : slA P t c.sz = true)
    (kk : ∀ v', Sl c H v' (l.take h.toNat) → Ops P false all rest ⟨n, up T d v', H⟩ K) : Ops P false all (⟨some d, .slice t x none (some y) none, ty, ps, af, none⟩ :: rest) ⟨n, T, H⟩ K := by
  by_cases hl : l = []
  · subst hl
    obtain ⟨p, hp⟩ := hx.val
    obtain ⟨i, z, h1, h2, _⟩ := slA_at ht
    have : h = 0 := by simp at hh; omega
    subst this
    exact .plain (aev_slice_h0 rfl h1 h2 hp hy) (kk _ (by simpa using Sl.emptyS p))
  · exact Ops.sliceH hx hl hy h0 hh ht fun v' h1 _ => kk v' h1

/-- x[l:] -/
theorem Ops.sliceLS {t : TypeId} {ki : IntKind} {h : Int} (hx : Sl c H (rd T x) l) (hy : rd T y = .int ki h) (h0 : 0 ≤ h) (hh : h.toNat ≤ l.length) (ht : slA P t c.sz = true)
    (kk : ∀ v', Sl c H v' (l.drop h.toNat) → Ops P false all rest ⟨n, up T d v', H⟩ K) : Ops P false all (⟨some d, .slice t x (some y) none none, ty, ps, af, none⟩ :: rest) ⟨n, T, H⟩ K := by
  obtain ⟨i, z, h1, h2, h3, _⟩ := slA_at ht
  by_cases hl : l = []
  · subst hl
    obtain ⟨p, hp⟩ := hx.val
    have : h = 0 := by simp at hh; omega
    subst this
    exact .plain (aev_slice_l0 rfl h1 h2 hp hy) (kk _ (by simpa using Sl.emptyS p))
  · rcases hx with ⟨e, _⟩ | ⟨id, off, ob, e1, e2, e3, e4, e5⟩
    · exact absurd e hl
    · refine .plain (aev_slice_l rfl h1 h2 e1 hy e2 (by rw [h3]; exact e3) h0 (by omega)) (kk _ ?_)
      have hlen : (l.drop h.toNat).length = l.length - h.toNat := List.length_drop
      by_cases hz : l.length - h.toNat = 0
      · have e6 : l.drop h.toNat = [] := List.length_eq_zero_iff.1 (by rw [hlen, hz])
        rw [e6, hz]
        exact .inl ⟨rfl, _, rfl, fun a ha hs => by cases ha; exact Hp.lt e2⟩
      · refine .inr ⟨id, off + h.toNat * i.size, ob, by rw [hlen], e2, e3, by rw [hlen]; omega, fun q a hq => ?_⟩
        rw [List.getElem?_drop] at hq
        have := e5 _ a hq
        rw [h3, Nat.add_assoc, ← Nat.add_mul]; exact this

end
end Go.Proofs.Ytefmjpbmdoebaaa
