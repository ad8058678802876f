/- The abstract machine, part 20: closures, boxed values, parts of slices. -/
import Derived.Test.YtefmjpbmdoebaaaAm19
set_option linter.unusedVariables false
set_option linter.unusedSimpArgs false
namespace Go.Proofs.Ytefmjpbmdoebaaa
open Go Go.RowKit

section
variable {P : Program} {fl : Bool} {all : Array Oper} {rest : List Oper} {n : Nat} {T : Nat → Value} {H H' : Hp} {K : St → Prop} {d d1 d2 : Nat} {ty ty1 ty2 : TypeId} {ps ps1 ps2 : String} {af af1 af2 : Array Edge} {v u : Value} {x y z : Operand} {cs : List Value} {α : Type} {c : Cd α} {l : List α} {k r : Nat}

/-- A closure over one variable. -/
theorem Ops.fn1 {f : Fn} (hy : rd T y = u) (kk : Ops P fl all rest ⟨n, up T d (.func f #[] #[u]), H⟩ K) : Ops P fl all (⟨some d, .makeFunc f #[] #[y], ty, ps, af, none⟩ :: rest) ⟨n, T, H⟩ K :=
  .go rfl (fun H => by have := aev_makeFunc (P := P) (o := ⟨some d, .makeFunc f #[] #[y], ty, ps, af, none⟩) (ρ := rd T) (H := H) rfl; simpa [hy] using this) kk

/-- A closure over two variables. -/
theorem Ops.fn2 {f : Fn} {w : Value} (hy : rd T y = u) (hz : rd T z = w) (kk : Ops P fl all rest ⟨n, up T d (.func f #[] #[u, w]), H⟩ K) : Ops P fl all (⟨some d, .makeFunc f #[] #[y, z], ty, ps, af, none⟩ :: rest) ⟨n, T, H⟩ K :=
  .go rfl (fun H => by have := aev_makeFunc (P := P) (o := ⟨some d, .makeFunc f #[] #[y, z], ty, ps, af, none⟩) (ρ := rd T) (H := H) rfl; simpa [hy, hz] using this) kk

/-- A function without captured variables. -/
theorem Ops.fn0 {f : Fn} (kk : Ops P fl all rest ⟨n, up T d (.func f #[] #[]), H⟩ K) : Ops P fl all (⟨some d, .makeFunc f #[] #[], ty, ps, af, none⟩ :: rest) ⟨n, T, H⟩ K :=
  .go rfl (fun H => by have := aev_makeFunc (P := P) (o := ⟨some d, .makeFunc f #[] #[], ty, ps, af, none⟩) (ρ := rd T) (H := H) rfl; simpa using this) kk

/-- What lies in a variable of one cell. -/
theorem Ops.load1 {te : TypeId} (h : Pt H (rd T x) cs) (hte : agT P te false = true) (hv : cs[0]? = some v) (kk : Ops P fl all rest ⟨n, up T d v, H⟩ K) : Ops P fl all (⟨some d, .load te x, ty, ps, af, none⟩ :: rest) ⟨n, T, H⟩ K := by
  obtain ⟨dd, h6, h7⟩ := agT_at hte
  obtain ⟨id, ob, e1, e2, e3⟩ := h
  exact .get rfl e2 (mention (by simp [Op.operands]) e1) (fun _ hg => aev_load rfl h6 h7 e1 hg (by rw [e3]; exact hv)) kk

/-- x[:h], nothing of it read before. -/
theorem Ops.sliceH {t : TypeId} {ki : IntKind} {h : Int} (hx : Sl c H (rd T x) l) (hl : l ≠ []) (hy : rd T y = .int ki h) (h0 : 0 ≤ h) (hh : h.toNat ≤ l.length) (ht : slA P t c.sz = true)
    (kk : ∀ v', Sl c H v' (l.take h.toNat) → idOf v' = idOf (rd T x) → Ops P fl all rest ⟨n, up T d v', H⟩ K) : Ops P fl all (⟨some d, .slice t x none (some y) none, ty, ps, af, none⟩ :: rest) ⟨n, T, H⟩ K := by
  obtain ⟨i, z, h1, h2, h3, _⟩ := slA_at ht
  rcases hx with ⟨e, _⟩ | ⟨id, off, ob, e1, e2, e3, e4, e5⟩
  · exact absurd e hl
  · have hm : ∀ (β : Bm) (ev : Operand → Value), (∀ x' ∈ (Op.slice t x none (some y) none).operands, VR β (rd T x') (ev x')) → ∃ p, β id = some p := fun β ev h => by
      have h1 := h x (by simp [Op.operands])
      rw [e1] at h1
      generalize ev x = u at h1
      cases h1 with
      | slice hb => exact ⟨_, hb⟩
    refine .get (v := .slice (some ⟨id, off, none⟩) h.toNat h.toNat) rfl e2 hm (fun _ hg => aev_slice_h rfl h1 h2 e1 hy hg (by rw [h3]; exact e3) h0 (by omega)) ?_
    refine kk _ ?_ (by rw [e1]; rfl)
    by_cases hz : h.toNat = 0
    · rw [hz]
      exact .inl ⟨by simp, some ⟨id, off, none⟩, by simp, fun a ha hs => by cases ha; exact Hp.lt e2⟩
    · have hlen : (l.take h.toNat).length = h.toNat := by rw [List.length_take]; omega
      refine .inr ⟨id, off, ob, by rw [hlen], e2, e3, by rw [hlen]; omega, fun q a hq => e5 q a ?_⟩
      rw [List.getElem?_take] at hq
      split at hq
      · exact hq
      · cases hq

end
end Go.Proofs.Ytefmjpbmdoebaaa
