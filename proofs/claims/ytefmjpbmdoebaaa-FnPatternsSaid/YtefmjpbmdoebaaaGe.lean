/- Sets of orbits: copies of them. -/
import Derived.Test.YtefmjpbmdoebaaaGd
set_option linter.unusedVariables false
namespace Go.Proofs.Ytefmjpbmdoebaaa
open Go Go.RowKit

/-- A set of orbits that owns its rows. -/
def OO (k : Nat) (H : Hp) (r : Value) (s : OS) (ms : List (List Int × List Nat)) : Prop :=
  ∃ u1 u2, r = .agg #[.int .i64 s.width, u1, u2] ∧ Ac cI 3 k H u1 s.consts ∧ OAc cI 3 24 k H u2 ms ∧ ms.map (·.1) = s.pats ∧ Ap u1 u2 ∧ ∀ id, idOf u1 = some id → id ∉ fps ms

theorem OO.os {k : Nat} {H : Hp} {r : Value} {s : OS} {ms : List (List Int × List Nat)} (h : OO k H r s ms) : cOS.ok H (cellsOf r) s := by
  obtain ⟨u1, u2, rfl, h1, h2, h3, _⟩ := h
  refine ⟨u1, u2, rfl, h1.sl, ?_⟩
  rw [← h3]
  exact h2.ac.sl.forget

theorem OO.calm {k : Nat} {H H' : Hp} {r : Value} {s : OS} {ms : List (List Int × List Nat)} (h : OO k H r s ms) (hc : Calm H H') : OO k H' r s ms := by
  obtain ⟨u1, u2, h0, h1, h2, h3⟩ := h
  exact ⟨u1, u2, h0, h1.calm hc, h2.calm hc, h3⟩

/-- How big a set of orbits may be. -/
def osOK (s : OS) : Prop := s.consts.length ≤ 1048576 ∧ s.pats.length ≤ 1048576 ∧ (∀ l ∈ s.pats, l.length ≤ 1048576) ∧ tot s.pats ≤ 1048576

theorem OAc.older {α : Type} {c : Cd α} {e e' k k' : Nat} {H : Hp} {v : Value} {ls : List (List α × List Nat)} (h : OAc c e e' k H v ls) (hk : k' ≤ k) : OAc c e e' k' H v ls := ⟨h.ac.older hk, h.own.older hk, h.nd, h.ni⟩

theorem Ac.cells1 {α : Type} {c : Cd α} {e k : Nat} {H : Hp} {v : Value} {l : List α} (h : Ac c e k H v l) : cellsOf v = [v] ∧ Value.one v = true := by
  obtain ⟨p, hp⟩ := h.sl.val
  rw [hp]; exact ⟨rfl, rfl⟩

theorem Po.live {k : Nat} {H : Hp} {v : Value} {cs : List Value} (h : Po k H v cs) : Live H v := h.pt.live

theorem OAc.modS' {α : Type} {c : Cd α} {e e' k r : Nat} {H H' : Hp} {v u : Value} {ls : List (List α × List Nat)} (hc : ∀ {H H' : Hp} {cs : List Value} {a : α}, c.ok H cs a → c.ok H' cs a) (h : OAc c e e' k H v ls) (hr : Rt H u r) (hm : Mod r H H') (hp : Ap v u) (hn : ∀ id, idOf u = some id → id ∉ fps ls) : OAc c e e' k H' v ls := by
  obtain ⟨idu, g1, g2, g3, g4⟩ := hr
  refine ⟨h.ac.mod ⟨idu, g1, g2, g3, g4⟩ hp hm ?_, h.own.mod hm, h.nd, h.ni⟩
  rintro cs ⟨l, F⟩ ha ⟨z, hz, hw⟩
  refine ⟨z, hz, Rw.modS (H := H) (H' := H') (k := k) (k' := 0) (fun _ _ _ h => hc h) hw (fun f hf => h.own f (List.mem_flatMap.2 ⟨_, ha, hf⟩)) (G := [idu]) (fun f hf => ?_) (fun f hf h5 => ?_) ?_⟩
  · obtain rfl := List.mem_singleton.1 hf
    exact ⟨g2, g3, Nat.zero_le _⟩
  · obtain rfl := List.mem_singleton.1 h5
    exact hn f g1 (List.mem_flatMap.2 ⟨_, ha, hf⟩)
  · rw [← g4] at hm; exact hm.toS

theorem Po.mod {k r : Nat} {H H' : Hp} {v u : Value} {cs : List Value} (h : Po k H v cs) (hr : Rt H u r) (hp : Ap v u) (hm : Mod r H H') : Po k H' v cs := by
  obtain ⟨id, ob, h1, h2, h3, h4, h5⟩ := h
  obtain ⟨idu, g1, g2, g3, g4⟩ := hr
  have hlt := Hp.lt h2
  refine ⟨id, ob, h1, (hm.get id hlt fun e => ?_).trans h2, h3, (hm.own id hlt).1.trans h4, by rw [(hm.own id hlt).2]; exact h5⟩
  have := H.ou id idu hlt g2 h4 g3 (by rw [e, g4])
  subst this
  exact hp id (by rw [h1]; rfl) g1

theorem toOrbitSet_ok {H : Hp} {v : Value} {s : OS} (h : cOS.ok H (cellsOf v) s) (hs : osOK s) :
    CallK Try.prog 33 [v] H (fun r H' => Calm H H' ∧ ∃ ms, OO H.nxt H' r s ms) := by
  have hone := cOS.one h
  obtain ⟨v1, v2, hcs, s1, s2⟩ := h
  refine (CallK.enter Try.func33 rfl rfl Try.ntmps33 Try.results33 rfl ?_)
  repeat' (first | refine Run.seq ?_ | refine Run.region (by kernel_rfl) ?_ | refine Ops.nil ?_ | refine Ops.move (by conv => lhs; whnf) ?_ | refine Ops.assign (by conv => lhs; whnf) ?_ | refine Run.cond_t rfl rfl ?_ | refine Run.cond_f rfl rfl ?_ | refine Run.skip ?_ | refine Run.exit ?_ | refine Run.block ?_ | refine Ops.len (by assumption) (by kernel_rfl) ?_ | refine Ops.len (Ac.sl (by assumption)) (by kernel_rfl) ?_ | refine Ops.add rfl rfl (by omega) (by omega) ?_ | refine Ops.sub rfl rfl (by omega) (by omega) ?_ | refine Ops.not_t rfl ?_ | refine Ops.not_f rfl ?_ | refine Ops.pick_t rfl (by conv => lhs; whnf) ?_ | refine Ops.pick_f rfl (by conv => lhs; whnf) ?_ | refine Ops.extract rfl rfl ?_ | refine Ops.un rfl rfl ?_ | refine Ops.no rfl rfl rfl ?_ | refine Ops.no_u rfl rfl ?_)
  refine Ops.box H.nxt (Nat.le_refl _) (one_known hone) hcs (by simp) fun p1 H1 o1 c1 ap1 => ?_
  refine Ops.alloc H.nxt c1.1 (z0 := .agg #[.int .i64 0, nilS, nilS]) (by kernel_rfl) (by rfl) (by decide) fun p2 H2 o2 c2 ap2 => ?_
  repeat' (first | refine Run.seq ?_ | refine Run.region (by kernel_rfl) ?_ | refine Ops.nil ?_ | refine Ops.move (by conv => lhs; whnf) ?_ | refine Ops.assign (by conv => lhs; whnf) ?_ | refine Run.cond_t rfl rfl ?_ | refine Run.cond_f rfl rfl ?_ | refine Run.skip ?_ | refine Run.exit ?_ | refine Run.block ?_ | refine Ops.len (by assumption) (by kernel_rfl) ?_ | refine Ops.len (Ac.sl (by assumption)) (by kernel_rfl) ?_ | refine Ops.add rfl rfl (by omega) (by omega) ?_ | refine Ops.sub rfl rfl (by omega) (by omega) ?_ | refine Ops.not_t rfl ?_ | refine Ops.not_f rfl ?_ | refine Ops.pick_t rfl (by conv => lhs; whnf) ?_ | refine Ops.pick_f rfl (by conv => lhs; whnf) ?_ | refine Ops.extract rfl rfl ?_ | refine Ops.un rfl rfl ?_ | refine Ops.no rfl rfl rfl ?_ | refine Ops.no_u rfl rfl ?_)
  have c12 := c1.trans c2
  refine Ops.alloc H.nxt c12.1 (z0 := .agg #[.int .i64 0, nilS, nilS]) (by kernel_rfl) (by rfl) (by decide) fun p3 H3 o3 c3 ap3 => ?_
  repeat' (first | refine Run.seq ?_ | refine Run.region (by kernel_rfl) ?_ | refine Ops.nil ?_ | refine Ops.move (by conv => lhs; whnf) ?_ | refine Ops.assign (by conv => lhs; whnf) ?_ | refine Run.cond_t rfl rfl ?_ | refine Run.cond_f rfl rfl ?_ | refine Run.skip ?_ | refine Run.exit ?_ | refine Run.block ?_ | refine Ops.len (by assumption) (by kernel_rfl) ?_ | refine Ops.len (Ac.sl (by assumption)) (by kernel_rfl) ?_ | refine Ops.add rfl rfl (by omega) (by omega) ?_ | refine Ops.sub rfl rfl (by omega) (by omega) ?_ | refine Ops.not_t rfl ?_ | refine Ops.not_f rfl ?_ | refine Ops.pick_t rfl (by conv => lhs; whnf) ?_ | refine Ops.pick_f rfl (by conv => lhs; whnf) ?_ | refine Ops.extract rfl rfl ?_ | refine Ops.un rfl rfl ?_ | refine Ops.no rfl rfl rfl ?_ | refine Ops.no_u rfl rfl ?_)
  have c13 := c12.trans c3
  have q12 : Ap p1 p2 := ap2 p1 o1.live
  have q13 : Ap p1 p3 := ap3 p1 (o1.calm c2).live
  have q23 : Ap p2 p3 := ap3 p2 o2.live
  have o1 := (o1.calm c2).calm c3
  have o2 := o2.calm c3
  have l1 := s1.calm c13
  have l2 := s2.calm c13
  obtain ⟨r3, hr3, t3⟩ := o3.rt
  obtain ⟨r2, hr2, t2⟩ := o2.rt
  refine Ops.fld 0 o1.pt (by kernel_rfl) (by kernel_rfl) rfl fun pz => ?_
  refine Ops.setf 0 o3 t3 (by kernel_rfl) (by kernel_rfl) rfl (by simp) rfl rfl (by simp [cellsOf]) fun pz H4 m4 o3 => ?_
  repeat' (first | refine Run.seq ?_ | refine Run.region (by kernel_rfl) ?_ | refine Ops.nil ?_ | refine Ops.move (by conv => lhs; whnf) ?_ | refine Ops.assign (by conv => lhs; whnf) ?_ | refine Run.cond_t rfl rfl ?_ | refine Run.cond_f rfl rfl ?_ | refine Run.skip ?_ | refine Run.exit ?_ | refine Run.block ?_ | refine Ops.len (by assumption) (by kernel_rfl) ?_ | refine Ops.len (Ac.sl (by assumption)) (by kernel_rfl) ?_ | refine Ops.add rfl rfl (by omega) (by omega) ?_ | refine Ops.sub rfl rfl (by omega) (by omega) ?_ | refine Ops.not_t rfl ?_ | refine Ops.not_f rfl ?_ | refine Ops.pick_t rfl (by conv => lhs; whnf) ?_ | refine Ops.pick_f rfl (by conv => lhs; whnf) ?_ | refine Ops.extract rfl rfl ?_ | refine Ops.un rfl rfl ?_ | refine Ops.no rfl rfl rfl ?_ | refine Ops.no_u rfl rfl ?_)
  have c4 := m4.calm c13 hr3
  have o1 := o1.mod t3 q13 m4
  have o2 := o2.mod t3 q23 m4
  have t2 := t2.mod m4
  have t3 := t3.mod m4
  refine Ops.fld 1 o1.pt (by kernel_rfl) (by kernel_rfl) rfl fun pz => ?_
  refine Ops.call (toIntS_ok (s1.calm c4) hs.1) (fun _ _ h _ => h.1.ge') fun u1 H5 => ?_
  rintro ⟨c5, a1⟩
  have pu3 : Ap u1 p3 := (a1.ap (Nat.le_refl _) o3.live).symm
  have pu2 : Ap u1 p2 := (a1.ap (Nat.le_refl _) o2.live).symm
  have a1 := a1.older (k' := H.nxt) c4.1
  have c5' := c4.trans c5
  have o1 := o1.calm c5
  have o2 := o2.calm c5
  have o3 := o3.calm c5
  have t2 := t2.calm c5
  have t3 := t3.calm c5
  refine Ops.setf 1 o3 t3 (by kernel_rfl) (by kernel_rfl) rfl (by simp) a1.cells1.1 a1.cells1.2 (by simp [cellsOf]) fun pz H6 m6 o3 => ?_
  repeat' (first | refine Run.seq ?_ | refine Run.region (by kernel_rfl) ?_ | refine Ops.nil ?_ | refine Ops.move (by conv => lhs; whnf) ?_ | refine Ops.assign (by conv => lhs; whnf) ?_ | refine Run.cond_t rfl rfl ?_ | refine Run.cond_f rfl rfl ?_ | refine Run.skip ?_ | refine Run.exit ?_ | refine Run.block ?_ | refine Ops.len (by assumption) (by kernel_rfl) ?_ | refine Ops.len (Ac.sl (by assumption)) (by kernel_rfl) ?_ | refine Ops.add rfl rfl (by omega) (by omega) ?_ | refine Ops.sub rfl rfl (by omega) (by omega) ?_ | refine Ops.not_t rfl ?_ | refine Ops.not_f rfl ?_ | refine Ops.pick_t rfl (by conv => lhs; whnf) ?_ | refine Ops.pick_f rfl (by conv => lhs; whnf) ?_ | refine Ops.extract rfl rfl ?_ | refine Ops.un rfl rfl ?_ | refine Ops.no rfl rfl rfl ?_ | refine Ops.no_u rfl rfl ?_)
  have c6 := m6.calm c5' hr3
  have o1 := o1.mod t3 q13 m6
  have o2 := o2.mod t3 q23 m6
  have a1 := a1.mod t3 pu3 m6 (fun _ _ _ h => h)
  have t2 := t2.mod m6
  have t3 := t3.mod m6
  refine Ops.fld 2 o1.pt (by kernel_rfl) (by kernel_rfl) rfl fun pz => ?_
  refine Ops.call (toIntSS_ok (s2.calm c6) hs.2.1 hs.2.2.1) (fun _ _ h _ => h.1.ge') fun u2 H7 => ?_
  rintro ⟨c7, ms, a2, hms⟩
  have pv3 : Ap u2 p3 := (a2.ac.ap (Nat.le_refl _) o3.live).symm
  have pv2 : Ap u2 p2 := (a2.ac.ap (Nat.le_refl _) o2.live).symm
  have pv1 : Ap u1 u2 := a2.ac.ap (Nat.le_refl _) a1.live
  have f3 : ∀ id, idOf p3 = some id → id ∉ fps ms := fresh_ne o3.live (Nat.le_refl _) a2.own
  have f2 : ∀ id, idOf p2 = some id → id ∉ fps ms := fresh_ne o2.live (Nat.le_refl _) a2.own
  have f1 : ∀ id, idOf u1 = some id → id ∉ fps ms := fresh_ne a1.live (Nat.le_refl _) a2.own
  have c7' := c6.trans c7
  have a1 := a1.calm c7
  have a2 := a2.older c6.1
  have o2 := o2.calm c7
  have o3 := o3.calm c7
  have t2 := t2.calm c7
  have t3 := t3.calm c7
  refine Ops.setf 2 o3 t3 (by kernel_rfl) (by kernel_rfl) rfl (by simp) a2.ac.cells1.1 a2.ac.cells1.2 (by simp [cellsOf]) fun pz H8 m8 o3 => ?_
  repeat' (first | refine Run.seq ?_ | refine Run.region (by kernel_rfl) ?_ | refine Ops.nil ?_ | refine Ops.move (by conv => lhs; whnf) ?_ | refine Ops.assign (by conv => lhs; whnf) ?_ | refine Run.cond_t rfl rfl ?_ | refine Run.cond_f rfl rfl ?_ | refine Run.skip ?_ | refine Run.exit ?_ | refine Run.block ?_ | refine Ops.len (by assumption) (by kernel_rfl) ?_ | refine Ops.len (Ac.sl (by assumption)) (by kernel_rfl) ?_ | refine Ops.add rfl rfl (by omega) (by omega) ?_ | refine Ops.sub rfl rfl (by omega) (by omega) ?_ | refine Ops.not_t rfl ?_ | refine Ops.not_f rfl ?_ | refine Ops.pick_t rfl (by conv => lhs; whnf) ?_ | refine Ops.pick_f rfl (by conv => lhs; whnf) ?_ | refine Ops.extract rfl rfl ?_ | refine Ops.un rfl rfl ?_ | refine Ops.no rfl rfl rfl ?_ | refine Ops.no_u rfl rfl ?_)
  have c8 := m8.calm c7' hr3
  have o2 := o2.mod t3 q23 m8
  have a1 := a1.mod t3 pu3 m8 (fun _ _ _ h => h)
  have a2 := a2.modS' (fun h => h) t3 m8 pv3 f3
  have t2 := t2.mod m8
  refine Ops.loadS o3.pt (by kernel_rfl) (by kernel_rfl) ?_
  refine Ops.storeS (ds := [.int .i64 s.width, u1, u2]) o2 t2 rfl (by kernel_rfl) rfl (by rw [List.all_cons, List.all_cons, List.all_cons, a1.cells1.2, a2.ac.cells1.2]; rfl) fun H9 m9 o2 => ?_
  repeat' (first | refine Run.seq ?_ | refine Run.region (by kernel_rfl) ?_ | refine Ops.nil ?_ | refine Ops.move (by conv => lhs; whnf) ?_ | refine Ops.assign (by conv => lhs; whnf) ?_ | refine Run.cond_t rfl rfl ?_ | refine Run.cond_f rfl rfl ?_ | refine Run.skip ?_ | refine Run.exit ?_ | refine Run.block ?_ | refine Ops.len (by assumption) (by kernel_rfl) ?_ | refine Ops.len (Ac.sl (by assumption)) (by kernel_rfl) ?_ | refine Ops.add rfl rfl (by omega) (by omega) ?_ | refine Ops.sub rfl rfl (by omega) (by omega) ?_ | refine Ops.not_t rfl ?_ | refine Ops.not_f rfl ?_ | refine Ops.pick_t rfl (by conv => lhs; whnf) ?_ | refine Ops.pick_f rfl (by conv => lhs; whnf) ?_ | refine Ops.extract rfl rfl ?_ | refine Ops.un rfl rfl ?_ | refine Ops.no rfl rfl rfl ?_ | refine Ops.no_u rfl rfl ?_)
  have c9 := m9.calm c8 hr2
  have a1 := a1.mod t2 pu2 m9 (fun _ _ _ h => h)
  have a2 := a2.modS' (fun h => h) t2 m9 pv2 f2
  refine Run.ret ⟨.inl rfl, ResK.cells rfl o2.pt (by kernel_rfl) (by kernel_rfl) (ResK.nil ?_)⟩
  exact ⟨c9, ms, u1, u2, rfl, a1, a2, hms, pv1, f1⟩

end Go.Proofs.Ytefmjpbmdoebaaa
