/- The abstract machine, part 5: stores, append, slices, make, literals. -/
import Derived.Test.YtefmjpbmdoebaaaAm4
import Derived.Laws.CopyRow
set_option linter.unusedVariables false
set_option linter.unusedSimpArgs false
namespace Go.Proofs.Ytefmjpbmdoebaaa
open Go Go.RowKit

/-- A row of the call's own has been written in place. -/
theorem HR.upd {B : Nat} {β : Bm} {H : Hp} {w w' : World} (hr : HR B β H w) {id b : Nat} {k : Option (Nat × Nat)} {ob ob' : Ob} (hg : H.get id = some ob) (hb : β id = some (b, k)) (ho : H.own id = true) (hid : id < H.nxt)
    (he : ob'.e = ob.e) (hz : ob'.sz = ob.sz) (hl : ob'.cs.length = ob.cs.length)
    (hos : w'.os = w.os) (htp : w'.tape = w.tape) (hou : w'.output = w.output) (hsz : w'.heap.size = w.heap.size) (hother : ∀ j, j ≠ b → w'.heap[j]? = w.heap[j]?)
    {cur : Array Value} (hcur : w'.heap[b]? = some (.cells cur ob.e (0, 0))) (hK : ∀ K sz, k = some (K, sz) → K ≤ cur.size) (hv : ∀ (i : Nat) (v : Value), ob'.cs[i]? = some v → ∃ u, cur[i]? = some u ∧ VR β v u) :
    HR B β (H.upd id ob' hid) w' ∧ Fr B β H w β (H.upd id ob' hid) w' := by
  obtain ⟨hB, K0, cur0, hk0, hc0, hK0, hl0⟩ := hr.own id ob b k hg hb ho
  have far : ∀ i ob1 b1 k1, i ≠ id → (H.upd id ob' hid).get i = some ob1 → β i = some (b1, k1) → H.get i = some ob1 ∧ b1 ≠ b := by
    intro i ob1 b1 k1 hne hg1 hb1
    obtain ⟨h1, h2⟩ := Hp.upd_live hg1 hne
    refine ⟨h2, fun e => ?_⟩
    subst e
    rcases hr.inj id i ob ob1 b1 k k1 hg h2 hb hb1 ho with h3 | ⟨h3, _⟩
    · exact hne h3
    · exact h1 h3
  have notmap : ∀ i l, i = id → (H.upd id ob' hid).get i ≠ some (mapOb l) := by
    intro i l e h
    subst e
    rw [Hp.upd_get] at h
    have h5 : ob' = mapOb l := Option.some.inj h
    subst hk0
    have := (hr.siz i ob b K0 ob.sz hg hb).2
    rw [← hz, h5] at this
    exact absurd this (by show ¬ 0 < 0; omega)
  refine ⟨⟨hr.dom, fun i b' k' h => by rw [hsz]; exact hr.blk i b' k' h, ?_, ?_, ?_, ?_, by rw [hsz]; exact hr.base, ?_, ?_⟩, ?_⟩
  · intro i ob1 b1 k1 hg1 hb1 j v hj
    by_cases e : i = id
    · subst e
      rw [Hp.upd_get] at hg1; cases hg1
      rw [hb] at hb1; cases hb1
      obtain ⟨u, h1, h2⟩ := hv j v hj
      exact ⟨u, by unfold World.cell?; rw [hcur]; exact h1, h2⟩
    · obtain ⟨h1, hne⟩ := far i ob1 b1 k1 e hg1 hb1
      obtain ⟨u, h1, h2⟩ := hr.cell i ob1 b1 k1 h1 hb1 j v hj
      exact ⟨u, by rw [World.cell?_of_block (w := w) (hother b1 hne)]; exact h1, h2⟩
  · intro i ob1 b1 K1 s1 hg1 hb1
    by_cases e : i = id
    · subst e
      rw [Hp.upd_get] at hg1; cases hg1
      rw [hz]; exact hr.siz i ob b1 K1 s1 hg hb1
    · exact hr.siz i ob1 b1 K1 s1 (far i ob1 b1 _ e hg1 hb1).1 hb1
  · intro i ob1 b1 k1 hg1 hb1 hi
    by_cases e : i = id
    · subst e
      rw [Hp.upd_get] at hg1; cases hg1
      rw [hb] at hb1; cases hb1
      refine ⟨hB, K0, cur, ?_, ?_, hK K0 ob.sz hk0, by rw [hl]; exact hl0⟩
      · rw [hz]; exact hk0
      · rw [he]; exact hcur
    · obtain ⟨h0, hne⟩ := far i ob1 b1 k1 e hg1 hb1
      obtain ⟨h1, K1, cur1, h2, h3, h4⟩ := hr.own i ob1 b1 k1 h0 hb1 hi
      exact ⟨h1, K1, cur1, h2, by rw [hother b1 hne]; exact h3, h4⟩
  · intro i i' ob1 ob2 b1 k1 k2 hg1 hg2 hb1 hb2 hi
    by_cases e : i = id <;> by_cases e' : i' = id
    · exact .inl (by rw [e, e'])
    · exfalso
      subst e
      rw [hb] at hb1; cases hb1
      exact (far i' ob2 _ _ e' hg2 hb2).2 rfl
    · exfalso
      subst e'
      rw [hb] at hb2; cases hb2
      exact (far i ob1 _ _ e hg1 hb1).2 rfl
    · exact hr.inj i i' ob1 ob2 b1 k1 k2 (far i ob1 _ _ e hg1 hb1).1 (far i' ob2 _ _ e' hg2 hb2).1 hb1 hb2 hi
  · intro i b1 k1 l hg1 hb1
    by_cases e : i = id
    · exact absurd hg1 (fun h => notmap i l e h)
    · obtain ⟨h1, hne⟩ := far i _ b1 k1 e hg1 hb1
      rw [hother b1 hne]
      exact hr.mp i b1 k1 l h1 hb1
  · intro i i' b1 k1 k2 l l' hg1 hg2 hb1 hb2
    by_cases e : i = id
    · exact absurd hg1 (fun h => notmap i l e h)
    · by_cases e' : i' = id
      · exact absurd hg2 (fun h => notmap i' l' e' h)
      · exact hr.mpi i i' b1 k1 k2 l l' (far i _ b1 k1 e hg1 hb1).1 (far i' _ b1 k2 e' hg2 hb2).1 hb1 hb2
  · exact ⟨fun _ _ => rfl, ⟨hos, htp, hou, Nat.le_of_eq hsz.symm, fun j hj => hother j (by omega)⟩, Nat.le_refl _⟩

/-- A row of the call's own has been made longer: in its own block, or in a new one. -/
theorem HR.app {B : Nat} {β : Bm} {H : Hp} {w w' : World} (hr : HR B β H w) {id b g K : Nat} {k : Option (Nat × Nat)} {ob ob' : Ob} (hg : H.get id = some ob) (hb : β id = some (b, k)) (ho : H.own id = true)
    (hgr : w.grownBy w' (some b)) (hat : (g = b ∧ ob.cs.length ≤ ob'.cs.length) ∨ (w.heap.size ≤ g ∧ g < w'.heap.size)) {cur : Array Value} (hcur : w'.heap[g]? = some (.cells cur ob'.e (0, 0))) (hK : K ≤ cur.size) (hl : ob'.cs.length ≤ K)
    (hv : ∀ (i : Nat) (v : Value), ob'.cs[i]? = some v → ∃ u, cur[i]? = some u ∧ VR β v u) (hkeep : ∀ i, i < ob.cs.length → w'.cell? ⟨b, i, none⟩ = w.cell? ⟨b, i, none⟩) (h0 : 0 < ob'.sz) :
    HR B (Bm.set β H.nxt (g, some (K, ob'.sz))) (H.app id ob' (Hp.lt hg) ho) w' ∧ Fr B β H w (Bm.set β H.nxt (g, some (K, ob'.sz))) (H.app id ob' (Hp.lt hg) ho) w' := by
  have hmono := hr.bump (p := (g, some (K, ob'.sz)))
  obtain ⟨hB, K0, cur0, hk0, hc0, hK0, hl0⟩ := hr.own id ob b k hg hb ho
  have hbs := hr.blk id b k hb
  have hidlt := hr.lt hb
  have hg2 : g < w'.heap.size := (Array.getElem?_eq_some_iff.1 hcur).1
  have hBg : B ≤ g := by
    have := hr.base
    rcases hat with ⟨rfl, _⟩ | h
    · exact hB
    · omega
  have hold : ∀ j, j < w.heap.size → j ≠ b → w'.heap[j]? = w.heap[j]? := fun j hj hn => hgr.block j hj (fun e => hn (by injection e))
  -- what shares the block with the row
  have near : ∀ i ob1 k1, H.get i = some ob1 → β i = some (b, k1) → i = id ∨ (H.root i = H.root id ∧ ob1.cs.length ≤ ob.cs.length ∧ H.own i = false) := fun i ob1 k1 h1 h2 => hr.inj id i ob ob1 b k k1 hg h1 hb h2 ho
  have hmb : ∀ i b1 k1 l, H.get i = some (mapOb l) → β i = some (b1, k1) → b1 ≠ b := by
    intro i b1 k1 l h1 h2 e
    subst e
    obtain ⟨_, es, cl, h3, _⟩ := hr.mp i b1 k1 l h1 h2
    rw [hc0] at h3; cases h3
  refine ⟨⟨?_, ?_, ?_, ?_, ?_, ?_, ?_, ?_, ?_⟩, ?_⟩
  · intro i hi
    have hi' : H.nxt + 1 ≤ i := hi
    rw [Bm.set_ne _ _ (by omega)]
    exact hr.dom i (by omega)
  · intro i b' k' h
    by_cases e : i = H.nxt
    · subst e; rw [Bm.set_at] at h; cases h; exact hg2
    · rw [Bm.set_ne _ _ e] at h
      exact Nat.lt_of_lt_of_le (hr.blk i b' k' h) hgr.size
  · intro i ob1 b1 k1 hg1 hb1 j v hj
    by_cases e : i = H.nxt
    · subst e
      rw [Bm.set_at] at hb1; cases hb1
      rw [Hp.app_get] at hg1; cases hg1
      obtain ⟨u, h1, h2⟩ := hv j v hj
      exact ⟨u, by unfold World.cell?; rw [hcur]; exact h1, h2.mono hmono⟩
    · rw [Bm.set_ne _ _ e] at hb1
      rw [Hp.app_lt (hr.lt hb1)] at hg1
      obtain ⟨u, h1, h2⟩ := hr.cell i ob1 b1 k1 hg1 hb1 j v hj
      refine ⟨u, ?_, h2.mono hmono⟩
      by_cases e2 : b1 = b
      · subst e2
        have hlt := (List.getElem?_eq_some_iff.1 hj).1
        rw [hkeep j ?_]
        · exact h1
        · rcases near i ob1 k1 hg1 hb1 with e3 | ⟨_, h3, _⟩
          · subst e3; rw [hg] at hg1; cases hg1; exact hlt
          · omega
      · rw [World.cell?_of_block (w := w) (hold b1 (hr.blk i b1 k1 hb1) e2)]; exact h1
  · intro i ob1 b1 K1 s1 hg1 hb1
    by_cases e : i = H.nxt
    · subst e
      rw [Bm.set_at] at hb1; cases hb1
      rw [Hp.app_get] at hg1; cases hg1; exact ⟨rfl, h0⟩
    · rw [Bm.set_ne _ _ e] at hb1
      rw [Hp.app_lt (hr.lt hb1)] at hg1
      exact hr.siz i ob1 b1 K1 s1 hg1 hb1
  · intro i ob1 b1 k1 hg1 hb1 hi
    by_cases e : i = H.nxt
    · subst e
      rw [Bm.set_at] at hb1; cases hb1
      rw [Hp.app_get] at hg1; cases hg1
      exact ⟨hBg, K, cur, rfl, hcur, hK, hl⟩
    · rw [Bm.set_ne _ _ e] at hb1
      rw [Hp.app_lt (hr.lt hb1)] at hg1
      by_cases e2 : i = id
      · subst e2; rw [Hp.app_own_old] at hi; cases hi
      · rw [Hp.app_own_lt (hr.lt hb1) e2] at hi
        obtain ⟨h1, K1, cur1, h2, h3, h4⟩ := hr.own i ob1 b1 k1 hg1 hb1 hi
        have hne : b1 ≠ b := by
          intro e3
          subst e3
          rcases near i ob1 k1 hg1 hb1 with e4 | ⟨_, _, h5⟩
          · exact e2 e4
          · rw [hi] at h5; cases h5
        exact ⟨h1, K1, cur1, h2, by rw [hold b1 (hr.blk i b1 k1 hb1) hne]; exact h3, h4⟩
  · intro i i' ob1 ob2 b1 k1 k2 hg1 hg2' hb1 hb2 hi
    by_cases e : i = H.nxt <;> by_cases e' : i' = H.nxt
    · exact .inl (by rw [e, e'])
    · subst e
      rw [Bm.set_at] at hb1; cases hb1
      rw [Hp.app_get] at hg1; cases hg1
      rw [Bm.set_ne _ _ e'] at hb2
      have hlt := hr.lt hb2
      rw [Hp.app_lt hlt] at hg2'
      rw [Hp.app_root, Hp.app_root_lt hlt]
      rcases hat with ⟨rfl, hle⟩ | h6
      · refine .inr ?_
        rcases near i' ob2 k2 hg2' hb2 with e4 | ⟨h5, h6, h7⟩
        · subst e4; rw [hg] at hg2'; cases hg2'
          exact ⟨rfl, hle, Hp.app_own_old⟩
        · refine ⟨h5, by omega, ?_⟩
          by_cases e5 : i' = id
          · subst e5; exact Hp.app_own_old
          · rw [Hp.app_own_lt hlt e5]; exact h7
      · have := hr.blk i' _ _ hb2; omega
    · exfalso
      subst e'
      rw [Bm.set_at] at hb2; cases hb2
      rw [Bm.set_ne _ _ e] at hb1
      have hlt := hr.lt hb1
      rw [Hp.app_lt hlt] at hg1
      rcases hat with ⟨rfl, hle⟩ | h6
      · by_cases e5 : i = id
        · subst e5; rw [Hp.app_own_old] at hi; cases hi
        · rw [Hp.app_own_lt hlt e5] at hi
          rcases near i ob1 k1 hg1 hb1 with e4 | ⟨h5, h6, h7⟩
          · exact e5 e4
          · rw [hi] at h7; cases h7
      · have := hr.blk i _ _ hb1; omega
    · rw [Bm.set_ne _ _ e] at hb1
      rw [Bm.set_ne _ _ e'] at hb2
      have hlt := hr.lt hb1
      have hlt' := hr.lt hb2
      rw [Hp.app_lt hlt] at hg1
      rw [Hp.app_lt hlt'] at hg2'
      by_cases e5 : i = id
      · subst e5; rw [Hp.app_own_old] at hi; cases hi
      · rw [Hp.app_own_lt hlt e5] at hi
        rw [Hp.app_root_lt hlt, Hp.app_root_lt hlt']
        rcases hr.inj i i' ob1 ob2 b1 k1 k2 hg1 hg2' hb1 hb2 hi with h | ⟨h1, h2, h3⟩
        · exact .inl h
        · refine .inr ⟨h1, h2, ?_⟩
          by_cases e6 : i' = id
          · subst e6; exact Hp.app_own_old
          · rw [Hp.app_own_lt hlt' e6]; exact h3
  · exact Nat.le_trans hr.base hgr.size
  · intro i b1 k1 l hg1 hb1
    by_cases e : i = H.nxt
    · subst e
      rw [Hp.app_get] at hg1
      have h5 : ob' = mapOb l := Option.some.inj hg1
      rw [h5] at h0
      exact absurd h0 (by show ¬ 0 < 0; omega)
    · rw [Bm.set_ne _ _ e] at hb1
      rw [Hp.app_lt (hr.lt hb1)] at hg1
      rw [hold b1 (hr.blk i b1 k1 hb1) (hmb i b1 k1 l hg1 hb1)]
      exact hr.mp i b1 k1 l hg1 hb1
  · intro i i' b1 k1 k2 l l' hg1 hg2' hb1 hb2
    have nm : ∀ j l, j = H.nxt → (H.app id ob' (Hp.lt hg) ho).get j ≠ some (mapOb l) := by
      intro j l e h
      subst e
      rw [Hp.app_get] at h
      have h5 : ob' = mapOb l := Option.some.inj h
      rw [h5] at h0
      exact absurd h0 (by show ¬ 0 < 0; omega)
    by_cases e : i = H.nxt
    · exact absurd hg1 (nm i l e)
    · by_cases e' : i' = H.nxt
      · exact absurd hg2' (nm i' l' e')
      · rw [Bm.set_ne _ _ e] at hb1
        rw [Bm.set_ne _ _ e'] at hb2
        rw [Hp.app_lt (hr.lt hb1)] at hg1
        rw [Hp.app_lt (hr.lt hb2)] at hg2'
        exact hr.mpi i i' b1 k1 k2 l l' hg1 hg2' hb1 hb2
  · exact ⟨fun i hi => Bm.set_ne _ _ (by omega), ⟨hgr.os, hgr.tape, hgr.output, hgr.size, fun j hj => hold j (by have := hr.base; omega) (by omega)⟩, Nat.le_succ _⟩

/-- A row that has been made is given its place. -/
theorem HR.place {B : Nat} {β : Bm} {H : Hp} {w w' : World} (hr : HR B β H w) (ob : Ob) (h0 : 0 < ob.sz) {N g K : Nat} (hN : N < H.nxt) (hβ : β N = none) (hob : ∀ ob', H.get N = some ob' → ob' = ob) (hgr : w.grownBy w' none) (hat : w.heap.size ≤ g)
    {cur : Array Value} (hcur : w'.heap[g]? = some (.cells cur ob.e (0, 0))) (hK : K ≤ cur.size) (hl : ob.cs.length ≤ K) (hv : ∀ (i : Nat) (v : Value), ob.cs[i]? = some v → ∃ u, cur[i]? = some u ∧ VR β v u) :
    HR B (Bm.set β N (g, some (K, ob.sz))) H w' ∧ ∀ id p, β id = some p → (Bm.set β N (g, some (K, ob.sz))) id = some p := by
  have hmono : ∀ id p, β id = some p → (Bm.set β N (g, some (K, ob.sz))) id = some p := fun id p h => by
    rw [Bm.set_ne _ _ (fun e => by rw [e, hβ] at h; cases h)]; exact h
  have hg2 : g < w'.heap.size := (Array.getElem?_eq_some_iff.1 hcur).1
  have hold : ∀ j, j < w.heap.size → w'.heap[j]? = w.heap[j]? := fun j hj => hgr.block j hj (by simp)
  have nm : ∀ l, H.get N ≠ some (mapOb l) := by
    intro l h
    have h5 := hob _ h
    rw [← h5] at h0
    exact absurd h0 (by show ¬ 0 < 0; omega)
  refine ⟨⟨?_, ?_, ?_, ?_, ?_, ?_, ?_, ?_, ?_⟩, hmono⟩
  · intro id hi
    rw [Bm.set_ne _ _ (by omega)]
    exact hr.dom id hi
  · intro id b k hb
    by_cases e : id = N
    · subst e; rw [Bm.set_at] at hb; cases hb; exact hg2
    · rw [Bm.set_ne _ _ e] at hb
      exact Nat.lt_of_lt_of_le (hr.blk id b k hb) hgr.size
  · intro id ob' b k hg hb i v hi
    by_cases e : id = N
    · subst e
      rw [Bm.set_at] at hb; cases hb
      obtain rfl := hob ob' hg
      obtain ⟨u, h1, h2⟩ := hv i v hi
      exact ⟨u, by unfold World.cell?; rw [hcur]; exact h1, h2.mono hmono⟩
    · rw [Bm.set_ne _ _ e] at hb
      obtain ⟨u, h1, h2⟩ := hr.cell id ob' b k hg hb i v hi
      exact ⟨u, by rw [World.cell?_of_block (w := w) (hold b (hr.blk id b k hb))]; exact h1, h2.mono hmono⟩
  · intro id ob' b K1 s1 hg hb
    by_cases e : id = N
    · subst e
      rw [Bm.set_at] at hb; cases hb
      rw [hob ob' hg]; exact ⟨rfl, h0⟩
    · rw [Bm.set_ne _ _ e] at hb
      exact hr.siz id ob' b K1 s1 hg hb
  · intro id ob' b k hg hb hlo'
    by_cases e : id = N
    · subst e
      rw [Bm.set_at] at hb; cases hb
      obtain rfl := hob ob' hg
      exact ⟨Nat.le_trans hr.base hat, K, cur, rfl, hcur, hK, hl⟩
    · rw [Bm.set_ne _ _ e] at hb
      obtain ⟨h1, K1, cur1, h2, h3, h4⟩ := hr.own id ob' b k hg hb hlo'
      exact ⟨h1, K1, cur1, h2, by rw [hold b (hr.blk id b k hb)]; exact h3, h4⟩
  · intro id id' ob1 ob2 b k k' hg hg' hb hb' hlo'
    by_cases e : id = N <;> by_cases e' : id' = N
    · exact .inl (by rw [e, e'])
    · exfalso
      subst e
      rw [Bm.set_at] at hb; cases hb
      rw [Bm.set_ne _ _ e'] at hb'
      have := hr.blk id' _ _ hb'; omega
    · exfalso
      subst e'
      rw [Bm.set_at] at hb'; cases hb'
      rw [Bm.set_ne _ _ e] at hb
      have := hr.blk id _ _ hb; omega
    · rw [Bm.set_ne _ _ e] at hb
      rw [Bm.set_ne _ _ e'] at hb'
      exact hr.inj id id' ob1 ob2 b k k' hg hg' hb hb' hlo'
  · exact Nat.le_trans hr.base hgr.size
  · intro id b k l hg hb
    by_cases e : id = N
    · subst e; exact absurd hg (nm l)
    · rw [Bm.set_ne _ _ e] at hb
      rw [hold b (hr.blk id b k hb)]
      exact hr.mp id b k l hg hb
  · intro id id' b k k' l l' hg hg' hb hb'
    by_cases e : id = N
    · subst e; exact absurd hg (nm l)
    · by_cases e' : id' = N
      · subst e'; exact absurd hg' (nm l')
      · rw [Bm.set_ne _ _ e] at hb
        rw [Bm.set_ne _ _ e'] at hb'
        exact hr.mpi id id' b k k' l l' hg hg' hb hb'

/-- What is old is as it was. -/
def Calm (H H' : Hp) : Prop := H.nxt ≤ H'.nxt ∧ ∀ id, id < H.nxt → H'.get id = H.get id ∧ H'.own id = H.own id ∧ H'.root id = H.root id

theorem Calm.refl (H : Hp) : Calm H H := ⟨Nat.le_refl _, fun _ _ => ⟨rfl, rfl, rfl⟩⟩
theorem Calm.trans {H H1 H2 : Hp} (h : Calm H H1) (k : Calm H1 H2) : Calm H H2 := ⟨Nat.le_trans h.1 k.1, fun id hi => by
  obtain ⟨h1, h2, h3⟩ := h.2 id hi
  obtain ⟨k1, k2, k3⟩ := k.2 id (Nat.lt_of_lt_of_le hi h.1)
  exact ⟨k1.trans h1, k2.trans h2, k3.trans h3⟩⟩
theorem Calm.new (H : Hp) (ob : Ob) : Calm H (H.new ob) := ⟨Nat.le_succ _, fun id hi => ⟨Hp.new_lt hi, Hp.new_own_lt hi, Hp.new_root_lt hi⟩⟩

theorem HR.more {B : Nat} {β : Bm} {H H2 : Hp} {w : World} (hr : HR B β H w) (hc : Calm H H2) : HR B β H2 w := by
  refine ⟨fun id hi => hr.dom id (by have := hc.1; omega), hr.blk, fun id ob b k h1 h2 => ?_, fun id ob b K s h1 h2 => ?_, fun id ob b k h1 h2 h3 => ?_, fun id id' ob ob' b k k' h1 h2 h3 h4 h5 => ?_, hr.base, fun id b k l h1 h2 => ?_, fun id id' b k k' l l' h1 h2 h3 h4 => ?_⟩
  · rw [(hc.2 id (hr.lt h2)).1] at h1; exact hr.cell id ob b k h1 h2
  · rw [(hc.2 id (hr.lt h2)).1] at h1; exact hr.siz id ob b K s h1 h2
  · obtain ⟨e1, e2, e3⟩ := hc.2 id (hr.lt h2)
    rw [e1] at h1; rw [e2] at h3
    exact hr.own id ob b k h1 h2 h3
  · obtain ⟨e1, e2, e3⟩ := hc.2 id (hr.lt h3)
    obtain ⟨f1, f2, f3⟩ := hc.2 id' (hr.lt h4)
    rw [e1] at h1; rw [f1] at h2; rw [e2] at h5
    rw [e3, f3, f2]
    exact hr.inj id id' ob ob' b k k' h1 h2 h3 h4 h5
  · rw [(hc.2 id (hr.lt h2)).1] at h1; exact hr.mp id b k l h1 h2
  · rw [(hc.2 id (hr.lt h3)).1] at h1
    rw [(hc.2 id' (hr.lt h4)).1] at h2
    exact hr.mpi id id' b k k' l l' h1 h2 h3 h4

theorem Fr.more {B : Nat} {β0 β : Bm} {H0 H H2 : Hp} {w0 w : World} (h : Fr B β0 H0 w0 β H w) (hc : Calm H H2) : Fr B β0 H0 w0 β H2 w :=
  ⟨h.old, h.below, Nat.le_trans h.nxt hc.1⟩

/-- The place of a made row changes nothing else. -/
theorem Fr.place {B : Nat} {β0 β : Bm} {H0 H : Hp} {w0 w w' : World} (h : Fr B β0 H0 w0 β H w) (hB : B ≤ w.heap.size) {N : Nat} {g : Nat} {k : Option (Nat × Nat)} (hN : H0.nxt ≤ N) (hgr : w.grownBy w' none) : Fr B β0 H0 w0 (Bm.set β N (g, k)) H w' :=
  ⟨fun id hi => (Bm.set_ne _ _ (by omega)).trans (h.old id hi), h.below.trans ⟨hgr.os, hgr.tape, hgr.output, hgr.size, fun j hj => hgr.block j (by omega) (by simp)⟩, h.nxt⟩

/-- A new row, by a world of which its cells are known. -/
theorem HR.new_of {B : Nat} {β : Bm} {H : Hp} {w w' : World} (hr : HR B β H w) (ob : Ob) (h0 : 0 < ob.sz) {g K : Nat} (hgr : w.grownBy w' none) (hat : w.heap.size ≤ g) {cur : Array Value} (hcur : w'.heap[g]? = some (.cells cur ob.e (0, 0))) (hK : K ≤ cur.size) (hl : ob.cs.length ≤ K)
    (hv : ∀ (i : Nat) (v : Value), ob.cs[i]? = some v → ∃ u, cur[i]? = some u ∧ VR β v u) :
    HR B (Bm.set β H.nxt (g, some (K, ob.sz))) (H.new ob) w' ∧ Fr B β H w (Bm.set β H.nxt (g, some (K, ob.sz))) (H.new ob) w' := by
  have h1 := hr.more (Calm.new H ob)
  obtain ⟨h2, _⟩ := h1.place ob h0 (N := H.nxt) (Nat.lt_succ_self _) (hr.dom _ (Nat.le_refl _)) (fun ob' h => by rw [Hp.new_get] at h; cases h; rfl) hgr hat hcur hK hl hv
  exact ⟨h2, ((Fr.refl hr).more (Calm.new H ob)).place hr.base (Nat.le_refl _) hgr⟩

/-- An operation that makes a new row and asks no memory: the row, and the result as a function of its number. -/
def anew (P : Program) (o : Oper) (ρ : Operand → Value) (ob : Ob) (f : Nat → Value) : Prop :=
  0 < ob.sz ∧ ∀ (β : Bm) (a : Act) (w : World), (∀ x ∈ o.op.operands, VR β (ρ x) (a.eval x)) →
    ∃ (u : Value) (w' : World) (g K : Nat) (cur : Array Value), (execOp a.eval o).run P w = .ok (.value u) w' ∧ w.grownBy w' none ∧ w.heap.size ≤ g ∧ w'.heap[g]? = some (.cells cur ob.e (0, 0)) ∧ K ≤ cur.size ∧ ob.cs.length ≤ K ∧
      (∀ (i : Nat) (v : Value), ob.cs[i]? = some v → ∃ u, cur[i]? = some u ∧ VR β v u) ∧ ∀ (β' : Bm) (id : Nat), β' id = some (g, some (K, ob.sz)) → VR β' (f id) u

theorem anew.aev {P : Program} {o : Oper} {ρ : Operand → Value} {ob : Ob} {f : Nat → Value} (h : anew P o ρ ob f) (H : Hp) : aev P o ρ H (f H.nxt) (H.new ob) :=
  aev_intro fun B β a w hxs hr => by
    obtain ⟨u, w', g, K, cur, h1, h2, h3, h4, h5, h6, h7, h8⟩ := h.2 β a w hxs
    obtain ⟨h9, h10⟩ := hr.new_of ob h.1 h2 h3 h4 h5 h6 h7
    exact ⟨_, u, w', h1, h8 _ _ (Bm.set_at _ _ _), h9, h10⟩

theorem grown_alloc (w : World) (o : Obj) : w.grownBy (w.alloc o) none := ⟨rfl, rfl, rfl, (by show w.heap.size ≤ (w.heap.push _).size; simp), fun j hj _ => Below.heap_alloc w o j hj⟩
theorem alloc_at (w : World) (o : Obj) : (w.alloc o).heap[w.heap.size]? = some o := by show (w.heap.push _)[_]? = _; simp

section
variable {P : Program} {o : Oper} {ρ : Operand → Value} {H H' : Hp} {r : Value}

theorem cur_rel {β : Bm} {us : Array Value} {l : List Value} (hl : l.length = us.size) (h : ∀ (i : Nat) (x : Value), l[i]? = some x → VR β x (us.getD i junk)) : ∀ (i : Nat) (x : Value), l[i]? = some x → ∃ u, us[i]? = some u ∧ VR β x u := by
  intro i x hi
  have hlt : i < us.size := by rw [← hl]; exact (List.getElem?_eq_some_iff.1 hi).1
  exact ⟨us[i], by simp [hlt], by have := h i x hi; simpa [Array.getD_eq_getD_getElem?, hlt] using this⟩

theorem anew_box {t : TypeId} {x : Operand} (ho : o.op = .box t x) (hk : Value.known (ρ x) = true) (h0 : 0 < (cellsOf (ρ x)).length) :
    anew P o ρ ⟨t, (cellsOf (ρ x)).length, cellsOf (ρ x)⟩ (fun id => .pointer (some ⟨id, 0, none⟩)) := by
  refine ⟨h0, ?_⟩
  intro β a w hxs
  have h1 := hxs x (by rw [ho]; simp [Op.operands])
  obtain ⟨h2, h3⟩ := h1.cells hk
  refine ⟨.pointer (some ⟨w.heap.size, 0, none⟩), w.alloc (.cells (a.eval x).cells t), w.heap.size, (a.eval x).cells.size, (a.eval x).cells, ?_, grown_alloc _ _, Nat.le_refl _, alloc_at _ _, Nat.le_refl _, Nat.le_of_eq h2, cur_rel h2 h3, fun β' id h => .ptr h⟩
  simp [execOp, ho, Instr.box, newVar, newRow]

theorem anew_alloc {t : TypeId} {i : TypeInfo} {z : Value} (ho : o.op = .alloc t) (hi : P.info? t = some i) (hz : i.zero = some z) (hst : (cellsOf z).all Value.still = true) (h0 : 0 < (cellsOf z).length) :
    anew P o ρ ⟨t, (cellsOf z).length, cellsOf z⟩ (fun id => .pointer (some ⟨id, 0, none⟩)) := by
  refine ⟨h0, ?_⟩
  intro β a w hxs
  have hs : (cellsOf z).length = z.cells.size := by rw [← cells_eq]; simp
  have hv : ∀ (j : Nat) (v : Value), (cellsOf z)[j]? = some v → VR β v (z.cells.getD j junk) := by
    intro j v hj
    have h := known_list hst j β v hj
    rw [← cells_eq] at hj
    have hj' : z.cells[j]? = some v := by simpa using hj
    simpa [Array.getD_eq_getD_getElem?, hj'] using h
  refine ⟨.pointer (some ⟨w.heap.size, 0, none⟩), w.alloc (.cells z.cells t), w.heap.size, z.cells.size, z.cells, ?_, grown_alloc _ _, Nat.le_refl _, alloc_at _ _, Nat.le_refl _, Nat.le_of_eq hs, cur_rel hs hv, fun β' id h => .ptr h⟩
  simp [execOp, ho, Instr.alloc, newVar, newRow, zeroValue, typeInfo, hi, hz]

end
end Go.Proofs.Ytefmjpbmdoebaaa
