/- The abstract machine, part 15: lists of lists; what a result owns. -/
import Derived.Test.YtefmjpbmdoebaaaAm14
set_option linter.unusedVariables false
set_option linter.unusedSimpArgs false
namespace Go.Proofs.Ytefmjpbmdoebaaa
open Go Go.RowKit

theorem sl_one {α : Type} {c : Cd α} {H : Hp} {v : Value} {l : List α} (h : Sl c H v l) : Value.one v = true := by
  obtain ⟨p, hp⟩ := h.val
  rw [hp]; rfl

/-- Lists, only to be read. -/
def cL {α : Type} (c : Cd α) : Cd (List α) where
  sz := 1
  ok := fun H cs l => ∃ v, cs = [v] ∧ Sl c H v l
  pos := by omega
  len := fun ⟨v, h, _⟩ => by rw [h]; rfl
  one := fun ⟨v, h, h'⟩ => by rw [h]; simp [sl_one h']
  calm := fun hc ⟨v, h, h'⟩ => ⟨v, h, h'.calm hc⟩

theorem rdL {α : Type} {c : Cd α} (h : Rd c) : Rd (cL c) := ⟨fun hk ⟨v, h1, h2⟩ => ⟨v, h1, h2.kp h hk⟩⟩

theorem cL_at {α : Type} {c : Cd α} {H : Hp} {v : Value} {l : List α} (h : (cL c).ok H [v] l) : Sl c H v l := by
  obtain ⟨u, h1, h2⟩ := h
  cases h1; exact h2
theorem cL_of {α : Type} {c : Cd α} {H : Hp} {v : Value} {l : List α} (h : Sl c H v l) : (cL c).ok H (cellsOf v) l := by
  obtain ⟨p, hp⟩ := h.val
  refine ⟨v, ?_, h⟩
  rw [hp]; rfl

/-- A slice that is a whole row: the list, and the row's number, if there is an element. -/
def Rw {α : Type} (c : Cd α) (e : Nat) (H : Hp) (v : Value) (l : List α) (F : List Nat) : Prop :=
  Sl c H v l ∧ ((l = [] ∧ F = []) ∨ ∃ id ob, l ≠ [] ∧ F = [id] ∧ v = .slice (some ⟨id, 0, none⟩) l.length l.length ∧ H.get id = some ob ∧ ob.e = e ∧ ob.sz = c.sz ∧ ob.cs.length = l.length * c.sz)

/-- The numbers are those of the call's own rows, made since k. -/
def Own (k : Nat) (H : Hp) (F : List Nat) : Prop := ∀ id ∈ F, id < H.nxt ∧ H.own id = true ∧ k ≤ H.root id

section
variable {α : Type} {c : Cd α} {H H' : Hp} {v u : Value} {l : List α} {e k r : Nat} {F G : List Nat}

theorem Rw.calm (h : Rw c e H v l F) (hc : Calm H H') : Rw c e H' v l F := by
  refine ⟨h.1.calm hc, ?_⟩
  rcases h.2 with h1 | ⟨id, ob, h1, h2, h3, h4, h5⟩
  · exact .inl h1
  · exact .inr ⟨id, ob, h1, h2, h3, (hc.2 id (Hp.lt h4)).1.trans h4, h5⟩

theorem Rw.kp (hr : Rd c) (h : Rw c e H v l F) (hc : Kp H u H') : Rw c e H' v l F := by
  refine ⟨h.1.kp hr hc, ?_⟩
  rcases h.2 with h1 | ⟨id, ob, h1, h2, h3, h4, h5⟩
  · exact .inl h1
  · exact .inr ⟨id, ob, h1, h2, h3, (hc.2 id (Hp.lt h4)).1.trans h4, h5⟩

theorem Own.calm (h : Own k H F) (hc : Calm H H') : Own k H' F := fun id hi => by
  obtain ⟨h1, h2, h3⟩ := h id hi
  obtain ⟨e1, e2, e3⟩ := hc.2 id h1
  exact ⟨Nat.lt_of_lt_of_le h1 hc.1, e2.trans h2, by rw [e3]; exact h3⟩

theorem Own.mod (h : Own k H F) (hm : Mod r H H') : Own k H' F := fun id hi => by
  obtain ⟨h1, h2, h3⟩ := h id hi
  exact ⟨by rw [hm.nxt]; exact h1, (hm.own id h1).1.trans h2, by rw [(hm.own id h1).2]; exact h3⟩

theorem Own.kp (h : Own k H F) (hk : Kp H v H') (hv : ∀ id, idOf v = some id → id ∉ F) : Own k H' F := fun id hi => by
  obtain ⟨h1, h2, h3⟩ := h id hi
  obtain ⟨e1, e2, e3⟩ := hk.2 id h1
  exact ⟨Nat.lt_of_lt_of_le h1 hk.1, (e3 (fun e => hv id e hi)).trans h2, by rw [e2]; exact h3⟩

theorem Own.append (h : Own k H F) (h' : Own k H G) : Own k H (F ++ G) := fun id hi => by
  rcases List.mem_append.1 hi with h1 | h1
  · exact h id h1
  · exact h' id h1

theorem Own.older {k' : Nat} (h : Own k H F) (hk : k' ≤ k) : Own k' H F := fun id hi => let ⟨h1, h2, h3⟩ := h id hi; ⟨h1, h2, Nat.le_trans hk h3⟩
theorem Own.nil : Own k H [] := fun id hi => by cases hi

theorem Ac.rw_ (h : Ac c e k H v l) : ∃ F, Rw c e H v l F ∧ Own k H F ∧ F.Nodup ∧ (∀ id, id ∈ F → idOf v = some id) := by
  rcases h with ⟨h1, h2⟩ | ⟨id, ob, h1, h2, h3, h4, h5, h6, h7, h8, h9⟩
  · subst h1 h2
    exact ⟨[], ⟨Sl.nil, .inl ⟨rfl, rfl⟩⟩, Own.nil, List.nodup_nil, fun id h => by cases h⟩
  · have hs : Ac c e k H v l := .inr ⟨id, ob, h1, h2, h3, h4, h5, h6, h7, h8, h9⟩
    by_cases hl : l = []
    · exact ⟨[], ⟨hs.sl, .inl ⟨hl, rfl⟩⟩, Own.nil, List.nodup_nil, fun id h => by cases h⟩
    · exact ⟨[id], ⟨hs.sl, .inr ⟨id, ob, hl, rfl, h1, h2, h5, h6, h8⟩⟩, fun i hi => by
        obtain rfl := List.mem_singleton.1 hi
        exact ⟨Hp.lt h2, h3, h4⟩, by simp, fun i hi => by
        obtain rfl := List.mem_singleton.1 hi
        rw [h1]; rfl⟩

/-- The call's own slice, again. -/
theorem Rw.ac (h : Rw c e H v l F) (ho : Own k H F) (hl : l ≠ []) : Ac c e k H v l := by
  rcases h.2 with ⟨h1, _⟩ | ⟨id, ob, h1, h2, h3, h4, h5, hsz, h6⟩
  · exact absurd h1 hl
  · subst h2
    obtain ⟨g1, g2, g3⟩ := ho id (by simp)
    rcases h.1 with ⟨h, _⟩ | ⟨id', off, ob', e1, e2, e3, e4, e5⟩
    · exact absurd h hl
    · rw [h3] at e1
      cases e1
      rw [h4] at e2; cases e2
      exact .inr ⟨id, ob, h3, h4, g2, g3, h5, hsz, e4, h6, fun i a hi => by have := e5 i a hi; rwa [Nat.zero_add] at this⟩

end

/-- Lists that are whole rows, with their numbers. -/
def cF {α : Type} (c : Cd α) (e : Nat) : Cd (List α × List Nat) where
  sz := 1
  ok := fun H cs a => ∃ v, cs = [v] ∧ Rw c e H v a.1 a.2
  pos := by omega
  len := fun ⟨v, h, _⟩ => by rw [h]; rfl
  one := fun ⟨v, h, h'⟩ => by rw [h]; simp [sl_one h'.1]
  calm := fun hc ⟨v, h, h'⟩ => ⟨v, h, h'.calm hc⟩

theorem rdF {α : Type} {c : Cd α} {e : Nat} (h : Rd c) : Rd (cF c e) := ⟨fun hk ⟨v, h1, h2⟩ => ⟨v, h1, h2.kp h hk⟩⟩

section
variable {α β : Type} {c : Cd α} {c' : Cd β} {H H' : Hp} {v : Value} {e k : Nat}

theorem cF_at {a : List α × List Nat} (h : (cF c e).ok H [v] a) : Rw c e H v a.1 a.2 := by
  obtain ⟨u, h1, h2⟩ := h
  cases h1; exact h2
theorem cF_of {a : List α × List Nat} (h : Rw c e H v a.1 a.2) : (cF c e).ok H (cellsOf v) a := by
  obtain ⟨p, hp⟩ := h.1.val
  refine ⟨v, ?_, h⟩
  rw [hp]; rfl

/-- What is known of the elements otherwise. -/
theorem Sl.map {l : List α} {f : α → β} (h : Sl c H v l) (hs : c'.sz = c.sz) (hf : ∀ cs a, c.ok H cs a → c'.ok H cs (f a)) : Sl c' H v (l.map f) := by
  rcases h with ⟨h1, h2⟩ | ⟨id, off, ob, h1, h2, h3, h4, h5⟩
  · subst h1; exact .inl ⟨rfl, h2⟩
  · refine .inr ⟨id, off, ob, by simpa using h1, h2, by rw [hs]; exact h3, by simpa using h4, fun i b hi => ?_⟩
    rw [List.getElem?_map] at hi
    obtain ⟨a, ha, rfl⟩ := Option.map_eq_some_iff.1 hi
    rw [hs]; exact hf _ a (h5 i a ha)

theorem Sl.forget {l : List (List α × List Nat)} (h : Sl (cF c e) H v l) : Sl (cL c) H v (l.map (·.1)) := h.map rfl fun cs a ⟨u, h1, h2⟩ => ⟨u, h1, h2.1⟩

end
end Go.Proofs.Ytefmjpbmdoebaaa
