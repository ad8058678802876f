/- The abstract machine, part 16: results that own their rows; what writing them changes. -/
import Derived.Test.YtefmjpbmdoebaaaAm15
set_option linter.unusedVariables false
set_option linter.unusedSimpArgs false
namespace Go.Proofs.Ytefmjpbmdoebaaa
open Go Go.RowKit

/-- The rows that are owned. -/
def fps {α : Type} (ls : List (α × List Nat)) : List Nat := ls.flatMap (·.2)

theorem fps_append {α : Type} (ls ms : List (α × List Nat)) : fps (ls ++ ms) = fps ls ++ fps ms := by simp [fps]
theorem fps_one {α : Type} (a : α) (F : List Nat) : fps [(a, F)] = F := by simp [fps]

/-- Lists that own their rows, gathered in a slice of the call's own. -/
structure OAc {α : Type} (c : Cd α) (e e' k : Nat) (H : Hp) (v : Value) (ls : List (List α × List Nat)) : Prop where
  ac : Ac (cF c e) e' k H v ls
  own : Own k H (fps ls)
  nd : (fps ls).Nodup
  ni : ∀ id, idOf v = some id → id ∉ fps ls

/-- A list of lists that own their rows. -/
structure OL {α : Type} (c : Cd α) (e k : Nat) (H : Hp) (v : Value) (ls : List (List α × List Nat)) : Prop where
  sl : Sl (cF c e) H v ls
  own : Own k H (fps ls)
  nd : (fps ls).Nodup
  out : ∀ id, idOf v = some id → ls ≠ [] → ∀ f ∈ fps ls, H.root id ≠ H.root f

/-- Only rows that have the root of one of F have been written. -/
structure ModS (F : List Nat) (H H' : Hp) : Prop where
  nxt : H'.nxt = H.nxt
  own : ∀ id, id < H.nxt → H'.own id = H.own id ∧ H'.root id = H.root id
  get : ∀ id, id < H.nxt → (∀ f ∈ F, H.root id ≠ H.root f) → H'.get id = H.get id

section
variable {α : Type} {c : Cd α} {H H' H'' H0 : Hp} {v v' u : Value} {l : List α} {ls ms : List (List α × List Nat)} {e e' k r : Nat} {F G : List Nat}

theorem OAc.nil : OAc c e e' k H nilS [] := ⟨Ac.nil, Own.nil, List.nodup_nil, fun _ h => by cases h⟩

theorem OAc.calm (h : OAc c e e' k H v ls) (hc : Calm H H') : OAc c e e' k H' v ls := ⟨h.ac.calm hc, h.own.calm hc, h.nd, h.ni⟩

theorem OAc.ol (h : OAc c e e' k H v ls) : OL c e k H v ls := by
  refine ⟨h.ac.sl, h.own, h.nd, fun id hid hne f hf hr => ?_⟩
  rcases h.ac with ⟨h1, _⟩ | ⟨id', ob, h1, h2, h3, _⟩
  · rw [h1] at hid; cases hid
  · rw [h1] at hid
    injection hid with hid
    have hid' : id' = id := hid
    subst hid'
    obtain ⟨g1, g2, g3⟩ := h.own f hf
    have := H.ou id' f (Hp.lt h2) g1 h3 g2 hr
    subst this
    exact h.ni id' (by rw [h1]; rfl) hf

theorem OL.calm (h : OL c e k H v ls) (hc : Calm H H') : OL c e k H' v ls := by
  refine ⟨h.sl.calm hc, h.own.calm hc, h.nd, fun id hid hne f hf => ?_⟩
  have h1 := h.sl.live id hid
  rw [(hc.2 id h1).2.2, (hc.2 f (h.own f hf).1).2.2]
  exact h.out id hid hne f hf

theorem OL.older {k' : Nat} (h : OL c e k H v ls) (hk : k' ≤ k) : OL c e k' H v ls := ⟨h.sl, h.own.older hk, h.nd, h.out⟩

theorem OL.nil : OL c e k H nilS [] := ⟨Sl.nil, Own.nil, List.nodup_nil, fun id h => by cases h⟩

/-- More has been appended. -/
theorem OAc.grow (h : OAc c e e' k H v ls) (ha : Ac (cF c e) e' k H' v' (ls ++ ms)) (hg : Grew k H v H' v') (hF : Own k H (fps ms)) (hn : (fps ms).Nodup) (hd : ∀ f ∈ fps ms, f ∉ fps ls) (hv : ∀ id, idOf v = some id → id ∉ fps ms) : OAc c e e' k H' v' (ls ++ ms) := by
  have hall : ∀ id, idOf v = some id → id ∉ fps (ls ++ ms) := fun id hid hf => by
    rw [fps_append] at hf
    rcases List.mem_append.1 hf with h1 | h1
    · exact h.ni id hid h1
    · exact hv id hid h1
  have hown := h.own.append hF
  rw [← fps_append] at hown
  refine ⟨ha, hown.kp hg.kp hall, ?_, fun id hid hf => ?_⟩
  · rw [fps_append, List.nodup_append]
    exact ⟨h.nd, hn, fun a ha b hb e => hd b hb (e ▸ ha)⟩
  · have h1 := hown id hf
    refine hg.ap (.slice (some ⟨id, 0, none⟩) 0 0) (fun i hi => ?_) (fun i hi hi' => ?_) id rfl hid
    · injection hi with hi
      have hi' : id = i := hi
      subst hi'; exact h1.1
    · injection hi with hi
      have hi'' : id = i := hi
      subst hi''
      exact hall id hi' hf

/-- What has been made since is none of what was. -/
theorem fresh_not {k' : Nat} (h : Own k H0 F) (hk : H0.nxt ≤ k') (h' : Own k' H G) : ∀ f ∈ G, f ∉ F := fun f hf hf' => by
  obtain ⟨h1, _, h3⟩ := h' f hf
  have := H.rt f h1
  have := (h f hf').1
  omega
theorem fresh_ne {k' : Nat} (h : Live H0 v) (hk : H0.nxt ≤ k') (h' : Own k' H G) : ∀ id, idOf v = some id → id ∉ G := fun id hid hf => by
  obtain ⟨h1, _, h3⟩ := h' id hf
  have := H.rt id h1
  have := h id hid
  omega

theorem ModS.refl : ModS F H H := ⟨rfl, fun _ _ => ⟨rfl, rfl⟩, fun _ _ _ => rfl⟩
theorem ModS.trans (h : ModS F H H') (h' : ModS G H' H'') (hG : ∀ g ∈ G, g < H.nxt) : ModS (F ++ G) H H'' :=
  ⟨h'.nxt.trans h.nxt, fun id hi => by
    have hi' : id < H'.nxt := by rw [h.nxt]; exact hi
    exact ⟨(h'.own id hi').1.trans (h.own id hi).1, (h'.own id hi').2.trans (h.own id hi).2⟩, fun id hi hr => by
    have hi' : id < H'.nxt := by rw [h.nxt]; exact hi
    exact (h'.get id hi' (fun g hg => by
      rw [(h.own id hi).2, (h.own g (hG g hg)).2]; exact hr g (by simp [hg]))).trans (h.get id hi fun f hf => hr f (by simp [hf]))⟩

theorem ModS.calm (h : ModS F H H') (hc : Calm H0 H) (hr : ∀ f ∈ F, H0.nxt ≤ H.root f) : Calm H0 H' :=
  ⟨by rw [h.nxt]; exact hc.1, fun id hi => by
    obtain ⟨e1, e2, e3⟩ := hc.2 id hi
    have hlt : id < H.nxt := Nat.lt_of_lt_of_le hi hc.1
    have := H.rt id hlt
    exact ⟨(h.get id hlt (fun f hf => by have := hr f hf; omega)).trans e1, (h.own id hlt).1.trans e2, (h.own id hlt).2.trans e3⟩⟩

theorem Mod.toS {f : Nat} (h : Mod (H.root f) H H') : ModS [f] H H' := ⟨h.nxt, h.own, fun id hi hr => h.get id hi (hr f (by simp))⟩

theorem Own.modS (h : Own k H F) (hm : ModS G H H') : Own k H' F := fun id hi => by
  obtain ⟨h1, h2, h3⟩ := h id hi
  exact ⟨by rw [hm.nxt]; exact h1, (hm.own id h1).1.trans h2, by rw [(hm.own id h1).2]; exact h3⟩

/-- Own rows have roots of their own. -/
theorem own_root {f g : Nat} (hf : Own k H F) (h1 : f ∈ F) {k' : Nat} (hg : Own k' H G) (h2 : g ∈ G) (hne : f ≠ g) : H.root f ≠ H.root g := fun e =>
  hne (H.ou f g (hf f h1).1 (hg g h2).1 (hf f h1).2.1 (hg g h2).2.1 e)

theorem Rw.modS {k' : Nat} (hc : ∀ cs a, a ∈ l → c.ok H cs a → c.ok H' cs a) (h : Rw c e H v l F) (ho : Own k H F) (hG : Own k' H G) (hd : ∀ f ∈ F, f ∉ G) (hm : ModS G H H') : Rw c e H' v l F := by
  rcases h.2 with ⟨h1, h1'⟩ | ⟨id, ob, hl, h2, h3, h4, h5, h6⟩
  · refine ⟨?_, .inl ⟨h1, h1'⟩⟩
    subst h1
    obtain ⟨p, hp⟩ := h.1.val
    have hlv := h.1.live
    exact .inl ⟨rfl, p, hp, fun a ha hs => by obtain ⟨b, o, s⟩ := a; dsimp only at hs; subst hs ha hp; rw [hm.nxt]; exact hlv _ rfl⟩
  · have hlt := Hp.lt h4
    subst h2
    have hget : H'.get id = some ob := (hm.get id hlt fun g hg => own_root ho (by simp) hG hg (fun e => hd id (by simp) (e ▸ hg))).trans h4
    refine ⟨?_, .inr ⟨id, ob, hl, rfl, h3, hget, h5, h6⟩⟩
    rcases h.1 with ⟨h, _⟩ | ⟨id', off, ob', e1, e2, e3, e4, e5⟩
    · exact absurd h hl
    · rw [h3] at e1; cases e1
      rw [h4] at e2; cases e2
      exact .inr ⟨id, 0, ob, h3, hget, e3, e4, fun i a hi => hc _ a (List.mem_of_getElem? hi) (e5 i a hi)⟩

end
end Go.Proofs.Ytefmjpbmdoebaaa
