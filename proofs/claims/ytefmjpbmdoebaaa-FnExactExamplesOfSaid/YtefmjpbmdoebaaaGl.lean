/- Sets of orbits: marks in them; what marks leave alone. -/
import Derived.Test.YtefmjpbmdoebaaaGk
set_option linter.unusedVariables false
namespace Go.Proofs.Ytefmjpbmdoebaaa
open Go Go.RowKit

theorem Ac.modS {e k k' : Nat} {H H' : Hp} {v : Value} {l : List Int} {F : List Nat} (h : Ac cI e k H v l) (hF : Own k' H F) (hv : ∀ id, idOf v = some id → id ∉ F) (hm : ModS F H H') : Ac cI e k H' v l := by
  rcases h with h | ⟨id, ob, h1, h2, h3, h4, h5, h6, h7, h8, h9⟩
  · exact .inl h
  · have hlt := Hp.lt h2
    have hnf : id ∉ F := hv id (by rw [h1]; rfl)
    have hget : H'.get id = some ob := (hm.get id hlt fun f hf e => hnf (by
      have := H.ou id f hlt (hF f hf).1 h3 (hF f hf).2.1 e
      subst this; exact hf)).trans h2
    exact .inr ⟨id, ob, h1, hget, (hm.own id hlt).1.trans h3, by rw [(hm.own id hlt).2]; exact h4, h5, h6, h7, h8, fun i a hi => h9 i a hi⟩

theorem OAc.modS {e e' k k' : Nat} {H H' : Hp} {v : Value} {ls : List (List Int × List Nat)} {F : List Nat} (h : OAc cI e e' k H v ls) (hF : Own k' H F) (hd : ∀ f ∈ fps ls, f ∉ F) (hv : ∀ id, idOf v = some id → id ∉ F) (hm : ModS F H H') : OAc cI e e' k H' v ls := by
  refine ⟨?_, h.own.modS hm, h.nd, h.ni⟩
  rcases h.ac with ha | ⟨id, ob, h1, h2, h3, h4, h5, h6, h7, h8, h9⟩
  · exact .inl ha
  · have hlt := Hp.lt h2
    have hnf : id ∉ F := hv id (by rw [h1]; rfl)
    have hget : H'.get id = some ob := (hm.get id hlt fun f hf e => hnf (by
      have := H.ou id f hlt (hF f hf).1 h3 (hF f hf).2.1 e
      subst this; exact hf)).trans h2
    refine .inr ⟨id, ob, h1, hget, (hm.own id hlt).1.trans h3, by rw [(hm.own id hlt).2]; exact h4, h5, h6, h7, h8, fun i a hi => ?_⟩
    obtain ⟨z, hz, hrw⟩ := h9 i a hi
    exact ⟨z, hz, Rw.modS (H := H) (H' := H') (fun _ _ _ h => h) hrw (fun f hf => h.own f (fps_mem hi hf)) hF (fun f hf => hd f (fps_mem hi hf)) hm⟩

/-- The rows of a set of orbits. -/
def foot (r : Value) (ms : List (List Int × List Nat)) (f : Nat) : Prop := (∃ w u1 u2, r = .agg #[w, u1, u2] ∧ idOf u1 = some f) ∨ f ∈ fps ms

theorem OO.foot_lt {k : Nat} {H : Hp} {r : Value} {s : OS} {ms : List (List Int × List Nat)} (h : OO k H r s ms) : ∀ f, foot r ms f → f < H.nxt := by
  obtain ⟨u1, u2, rfl, h1, h2, h3, h4, h5⟩ := h
  rintro f (⟨w, x1, x2, e, hf⟩ | hf)
  · injection e with e
    have e1 : u1 = x1 := by have := congrArg (fun a : Array Value => a[1]?) e; simpa using this
    subst e1; exact h1.live f hf
  · exact (h2.own f hf).1

theorem fresh_far {N k : Nat} {H : Hp} {G : List Nat} {p : Nat → Prop} (hp : ∀ f, p f → f < N) (hk : N ≤ k) (h : Own k H G) {F : List Nat} (hF : ∀ f ∈ F, p f) : ∀ g ∈ G, g ∉ F := fun g hg hf => by
  obtain ⟨h1, _, h3⟩ := h g hg
  have := H.rt g h1
  have := hp g (hF g hf)
  omega
theorem fresh_farI {N k e : Nat} {H : Hp} {α : Type} {c : Cd α} {v : Value} {l : List α} {p : Nat → Prop} (hp : ∀ f, p f → f < N) (hk : N ≤ k) (h : Ac c e k H v l) {F : List Nat} (hF : ∀ f ∈ F, p f) : ∀ id, idOf v = some id → id ∉ F := fun id hid hf => by
  rcases h with ⟨h, _⟩ | ⟨id', ob, h1, h2, h3, h4, _⟩
  · rw [h] at hid; cases hid
  · rw [h1] at hid
    injection hid with hid
    have hid' : id' = id := hid
    subst hid'
    have := H.rt id' (Hp.lt h2)
    have := hp id' (hF id' hf)
    omega

/-- A set of orbits that is marked from q on. -/
def OM (H : Hp) (r : Value) (q : Int) (s : OS) (ms : List (List Int × List Nat)) : Prop :=
  ∃ u1 u2, r = .agg #[.int .i64 s.width, u1, u2] ∧ Sl cI H u1 (marks q s.consts.length) ∧ Sl (cF cI 3) H u2 (markSS (q + s.consts.length) ms)

theorem OM.calm {H H' : Hp} {r : Value} {q : Int} {s : OS} {ms : List (List Int × List Nat)} (h : OM H r q s ms) (hc : Calm H H') : OM H' r q s ms := let ⟨u1, u2, h0, h1, h2⟩ := h; ⟨u1, u2, h0, h1.calm hc, h2.calm hc⟩

theorem markOrbitSet_ok {H : Hp} {r : Value} {q : Int} {s : OS} {k : Nat} {ms : List (List Int × List Nat)} (h : OO k H r s ms) (h0 : 0 ≤ q) (hn : q + s.consts.length + total ms ≤ 4611686018427387904) :
    CallK Try.prog 42 [r, .int .i64 q] H (fun r' H' => r' = .int .i64 (q + s.consts.length + total ms) ∧ OM H' r q s ms ∧ (∀ H0, H0.nxt ≤ k → Calm H0 H → Calm H0 H') ∧
      ∀ N, (∀ f, foot r ms f → f < N) → (∀ e k' v l, N ≤ k' → Ac cI e k' H v l → Ac cI e k' H' v l) ∧ (∀ e e' k' v ls, N ≤ k' → OAc cI e e' k' H v ls → OAc cI e e' k' H' v ls)) := by
  have hone := cOS.one h.os
  obtain ⟨u1, u2, rfl, a1, a2, hms, p12, n12⟩ := h
  refine (CallK.enter Try.func42 rfl rfl Try.ntmps42 Try.results42 rfl ?_)
  repeat' (first | refine Run.seq ?_ | refine Run.region (by kernel_rfl) ?_ | refine Ops.nil ?_ | refine Ops.move (by conv => lhs; whnf) ?_ | refine Ops.assign (by conv => lhs; whnf) ?_ | refine Run.cond_t rfl rfl ?_ | refine Run.cond_f rfl rfl ?_ | refine Run.skip ?_ | refine Run.exit ?_ | refine Run.block ?_ | refine Ops.len (by assumption) (by kernel_rfl) ?_ | refine Ops.len (Ac.sl (by assumption)) (by kernel_rfl) ?_ | refine Ops.add rfl rfl (by omega) (by omega) ?_ | refine Ops.sub rfl rfl (by omega) (by omega) ?_ | refine Ops.not_t rfl ?_ | refine Ops.not_f rfl ?_ | refine Ops.pick_t rfl (by conv => lhs; whnf) ?_ | refine Ops.pick_f rfl (by conv => lhs; whnf) ?_ | refine Ops.extract rfl rfl ?_ | refine Ops.un rfl rfl ?_ | refine Ops.no rfl rfl rfl ?_ | refine Ops.no_u rfl rfl ?_)
  refine Ops.box H.nxt (Nat.le_refl _) (one_known hone) (cs := [.int .i64 s.width, u1, u2]) rfl (by simp) fun p1 H1 o1 c1 ap1 => ?_
  have pp1 : Ap u1 p1 := ap1 u1 a1.live
  have pp2 : Ap u2 p1 := ap1 u2 a2.ac.live
  have pf : ∀ id, idOf p1 = some id → id ∉ fps ms := fun id hid hf => by
    obtain ⟨id', ob, e1, e2, e3, e4, e5⟩ := o1
    rw [e1] at hid
    injection hid with hid
    have hid' : id' = id := hid
    subst hid'
    have := H1.rt id' (Hp.lt e2)
    have := (a2.own id' hf).1
    omega
  have b1 := a1.calm c1
  have b2 := a2.calm c1
  obtain ⟨F, f1, f2, f3, f4⟩ := b1.rw_
  have o1' : Pt H1 p1 _ := o1.pt
  repeat' (first | refine Run.seq ?_ | refine Run.region (by kernel_rfl) ?_ | refine Ops.nil ?_ | refine Ops.move (by conv => lhs; whnf) ?_ | refine Ops.assign (by conv => lhs; whnf) ?_ | refine Run.cond_t rfl rfl ?_ | refine Run.cond_f rfl rfl ?_ | refine Run.skip ?_ | refine Run.exit ?_ | refine Run.block ?_ | refine Ops.len (by assumption) (by kernel_rfl) ?_ | refine Ops.len (Ac.sl (by assumption)) (by kernel_rfl) ?_ | refine Ops.add rfl rfl (by omega) (by omega) ?_ | refine Ops.sub rfl rfl (by omega) (by omega) ?_ | refine Ops.not_t rfl ?_ | refine Ops.not_f rfl ?_ | refine Ops.pick_t rfl (by conv => lhs; whnf) ?_ | refine Ops.pick_f rfl (by conv => lhs; whnf) ?_ | refine Ops.extract rfl rfl ?_ | refine Ops.un rfl rfl ?_ | refine Ops.no rfl rfl rfl ?_ | refine Ops.no_u rfl rfl ?_)
  refine Ops.fld 1 o1.pt (by kernel_rfl) (by kernel_rfl) rfl fun pz => ?_
  repeat' (first | refine Run.seq ?_ | refine Run.region (by kernel_rfl) ?_ | refine Ops.nil ?_ | refine Ops.move (by conv => lhs; whnf) ?_ | refine Ops.assign (by conv => lhs; whnf) ?_ | refine Run.cond_t rfl rfl ?_ | refine Run.cond_f rfl rfl ?_ | refine Run.skip ?_ | refine Run.exit ?_ | refine Run.block ?_ | refine Ops.len (by assumption) (by kernel_rfl) ?_ | refine Ops.len (Ac.sl (by assumption)) (by kernel_rfl) ?_ | refine Ops.add rfl rfl (by omega) (by omega) ?_ | refine Ops.sub rfl rfl (by omega) (by omega) ?_ | refine Ops.not_t rfl ?_ | refine Ops.not_f rfl ?_ | refine Ops.pick_t rfl (by conv => lhs; whnf) ?_ | refine Ops.pick_f rfl (by conv => lhs; whnf) ?_ | refine Ops.extract rfl rfl ?_ | refine Ops.un rfl rfl ?_ | refine Ops.no rfl rfl rfl ?_ | refine Ops.no_u rfl rfl ?_)
  refine Ops.call (markIntS_rw f1 f2 h0 (by omega)) (fun _ _ _ hf => by cases hf) fun r2 H2 => ?_
  rintro ⟨rfl, g1, m1⟩
  have hvF : ∀ id, idOf u2 = some id → id ∉ F := fun id hid hf => p12 id (f4 id hf) hid
  have hdF : ∀ f ∈ fps ms, f ∉ F := fun f hf hf2 => n12 f (f4 f hf2) hf
  have b2 := b2.modS f2 hdF hvF m1
  -- the box stands
  have keepP : ∀ {G : List Nat} {Ha Hb : Hp}, Po H.nxt Ha p1 [.int .i64 s.width, u1, u2] → Own k Ha G → (∀ id, idOf p1 = some id → id ∉ G) → ModS G Ha Hb → Po H.nxt Hb p1 [.int .i64 s.width, u1, u2] := by
    rintro G Ha Hb ⟨id, ob, e1, e2, e3, e4, e5⟩ hG hn hm
    have hlt := Hp.lt e2
    refine ⟨id, ob, e1, (hm.get id hlt fun g hg e => ?_).trans e2, e3, (hm.own id hlt).1.trans e4, by rw [(hm.own id hlt).2]; exact e5⟩
    have := Ha.ou id g hlt (hG g hg).1 e4 (hG g hg).2.1 e
    subst this
    exact hn id (by rw [e1]; rfl) hg
  have o2 := keepP o1 f2 (fun id hid hf => pp1 id (f4 id hf) hid) m1
  repeat' (first | refine Run.seq ?_ | refine Run.region (by kernel_rfl) ?_ | refine Ops.nil ?_ | refine Ops.move (by conv => lhs; whnf) ?_ | refine Ops.assign (by conv => lhs; whnf) ?_ | refine Run.cond_t rfl rfl ?_ | refine Run.cond_f rfl rfl ?_ | refine Run.skip ?_ | refine Run.exit ?_ | refine Run.block ?_ | refine Ops.len (by assumption) (by kernel_rfl) ?_ | refine Ops.len (Ac.sl (by assumption)) (by kernel_rfl) ?_ | refine Ops.add rfl rfl (by omega) (by omega) ?_ | refine Ops.sub rfl rfl (by omega) (by omega) ?_ | refine Ops.not_t rfl ?_ | refine Ops.not_f rfl ?_ | refine Ops.pick_t rfl (by conv => lhs; whnf) ?_ | refine Ops.pick_f rfl (by conv => lhs; whnf) ?_ | refine Ops.extract rfl rfl ?_ | refine Ops.un rfl rfl ?_ | refine Ops.no rfl rfl rfl ?_ | refine Ops.no_u rfl rfl ?_)
  refine Ops.fld 2 o2.pt (by kernel_rfl) (by kernel_rfl) rfl fun pz => ?_
  repeat' (first | refine Run.seq ?_ | refine Run.region (by kernel_rfl) ?_ | refine Ops.nil ?_ | refine Ops.move (by conv => lhs; whnf) ?_ | refine Ops.assign (by conv => lhs; whnf) ?_ | refine Run.cond_t rfl rfl ?_ | refine Run.cond_f rfl rfl ?_ | refine Run.skip ?_ | refine Run.exit ?_ | refine Run.block ?_ | refine Ops.len (by assumption) (by kernel_rfl) ?_ | refine Ops.len (Ac.sl (by assumption)) (by kernel_rfl) ?_ | refine Ops.add rfl rfl (by omega) (by omega) ?_ | refine Ops.sub rfl rfl (by omega) (by omega) ?_ | refine Ops.not_t rfl ?_ | refine Ops.not_f rfl ?_ | refine Ops.pick_t rfl (by conv => lhs; whnf) ?_ | refine Ops.pick_f rfl (by conv => lhs; whnf) ?_ | refine Ops.extract rfl rfl ?_ | refine Ops.un rfl rfl ?_ | refine Ops.no rfl rfl rfl ?_ | refine Ops.no_u rfl rfl ?_)
  refine Ops.call (markIntSS_ok b2.ol (by omega) (by omega)) (fun _ _ _ hf => by cases hf) fun r3 H3 => ?_
  rintro ⟨rfl, g2, m2⟩
  repeat' (first | refine Run.seq ?_ | refine Run.region (by kernel_rfl) ?_ | refine Ops.nil ?_ | refine Ops.move (by conv => lhs; whnf) ?_ | refine Ops.assign (by conv => lhs; whnf) ?_ | refine Run.cond_t rfl rfl ?_ | refine Run.cond_f rfl rfl ?_ | refine Run.skip ?_ | refine Run.exit ?_ | refine Run.block ?_ | refine Ops.len (by assumption) (by kernel_rfl) ?_ | refine Ops.len (Ac.sl (by assumption)) (by kernel_rfl) ?_ | refine Ops.add rfl rfl (by omega) (by omega) ?_ | refine Ops.sub rfl rfl (by omega) (by omega) ?_ | refine Ops.not_t rfl ?_ | refine Ops.not_f rfl ?_ | refine Ops.pick_t rfl (by conv => lhs; whnf) ?_ | refine Ops.pick_f rfl (by conv => lhs; whnf) ?_ | refine Ops.extract rfl rfl ?_ | refine Ops.un rfl rfl ?_ | refine Ops.no rfl rfl rfl ?_ | refine Ops.no_u rfl rfl ?_)
  refine Run.ret ⟨.inl rfl, ResK.tmp rfl (by conv => lhs; whnf) (ResK.nil ?_)⟩
  have f2' : Own k H2 F := f2.modS m1
  have g1 : Rw cI 3 H2 u1 (marks q s.consts.length) F := g1
  have g1' : Rw cI 3 H3 u1 (marks q s.consts.length) F := Rw.modS (H := H2) (H' := H3) (fun _ _ _ h => h) g1 f2' b2.own (fun f hf hf2 => hdF f hf2 hf) m2
  refine ⟨rfl, ⟨u1, u2, rfl, g1'.1, g2.sl⟩, fun H0 hk hc => ?_, fun N hN => ⟨fun e k' v l hk ha => ?_, fun e e' k' v ls hk ha => ?_⟩⟩
  · have h5 := m1.calm (hc.trans c1) fun f hf => Nat.le_trans hk (f2 f hf).2.2
    exact m2.calm h5 fun f hf => Nat.le_trans hk (b2.own f hf).2.2
  · have hF : ∀ f ∈ F, foot (.agg #[.int .i64 s.width, u1, u2]) ms f := fun f hf => .inl ⟨_, _, _, rfl, f4 f hf⟩
    have h5 := (ha.calm c1).modS f2 (fresh_farI hN hk (ha.calm c1) hF) m1
    exact h5.modS b2.own (fresh_farI hN hk h5 fun f hf => .inr hf) m2
  · have hF : ∀ f ∈ F, foot (.agg #[.int .i64 s.width, u1, u2]) ms f := fun f hf => .inl ⟨_, _, _, rfl, f4 f hf⟩
    have ha1 := ha.calm c1
    have h5 := ha1.modS f2 (fresh_far hN hk ha1.own hF) (fresh_farI hN hk ha1.ac hF) m1
    exact h5.modS b2.own (fresh_far hN hk h5.own fun f hf => .inr hf) (fresh_farI hN hk h5.ac fun f hf => .inr hf) m2

theorem heldOrbitSet_ok {H : Hp} {r : Value} {q : Int} {s : OS} {ms : List (List Int × List Nat)} (h : OM H r q s ms) (h0 : 0 ≤ q) (hn : q + s.consts.length + total ms ≤ 4611686018427387904) :
    CallK Try.prog 47 [r, .int .i64 q] H (fun r' H' => Calm H H' ∧ r' = .int .i64 (q + s.consts.length + total ms)) := by
  obtain ⟨u1, u2, rfl, s1, s2⟩ := h
  have hone : [Value.int .i64 s.width, u1, u2].all Value.one = true := by rw [List.all_cons, List.all_cons, List.all_cons, sl_one s1, sl_one s2]; rfl
  refine (CallK.enter Try.func47 rfl rfl Try.ntmps47 Try.results47 rfl ?_)
  repeat' (first | refine Run.seq ?_ | refine Run.region (by kernel_rfl) ?_ | refine Ops.nil ?_ | refine Ops.move (by conv => lhs; whnf) ?_ | refine Ops.assign (by conv => lhs; whnf) ?_ | refine Run.cond_t rfl rfl ?_ | refine Run.cond_f rfl rfl ?_ | refine Run.skip ?_ | refine Run.exit ?_ | refine Run.block ?_ | refine Ops.len (by assumption) (by kernel_rfl) ?_ | refine Ops.len (Ac.sl (by assumption)) (by kernel_rfl) ?_ | refine Ops.add rfl rfl (by omega) (by omega) ?_ | refine Ops.sub rfl rfl (by omega) (by omega) ?_ | refine Ops.not_t rfl ?_ | refine Ops.not_f rfl ?_ | refine Ops.pick_t rfl (by conv => lhs; whnf) ?_ | refine Ops.pick_f rfl (by conv => lhs; whnf) ?_ | refine Ops.extract rfl rfl ?_ | refine Ops.un rfl rfl ?_ | refine Ops.no rfl rfl rfl ?_ | refine Ops.no_u rfl rfl ?_)
  refine Ops.box H.nxt (Nat.le_refl _) (one_known hone) (cs := [.int .i64 s.width, u1, u2]) rfl (by simp) fun p1 H1 o1 c1 ap1 => ?_
  repeat' (first | refine Run.seq ?_ | refine Run.region (by kernel_rfl) ?_ | refine Ops.nil ?_ | refine Ops.move (by conv => lhs; whnf) ?_ | refine Ops.assign (by conv => lhs; whnf) ?_ | refine Run.cond_t rfl rfl ?_ | refine Run.cond_f rfl rfl ?_ | refine Run.skip ?_ | refine Run.exit ?_ | refine Run.block ?_ | refine Ops.len (by assumption) (by kernel_rfl) ?_ | refine Ops.len (Ac.sl (by assumption)) (by kernel_rfl) ?_ | refine Ops.add rfl rfl (by omega) (by omega) ?_ | refine Ops.sub rfl rfl (by omega) (by omega) ?_ | refine Ops.not_t rfl ?_ | refine Ops.not_f rfl ?_ | refine Ops.pick_t rfl (by conv => lhs; whnf) ?_ | refine Ops.pick_f rfl (by conv => lhs; whnf) ?_ | refine Ops.extract rfl rfl ?_ | refine Ops.un rfl rfl ?_ | refine Ops.no rfl rfl rfl ?_ | refine Ops.no_u rfl rfl ?_)
  refine Ops.fld 1 o1.pt (by kernel_rfl) (by kernel_rfl) rfl fun pz => ?_
  repeat' (first | refine Run.seq ?_ | refine Run.region (by kernel_rfl) ?_ | refine Ops.nil ?_ | refine Ops.move (by conv => lhs; whnf) ?_ | refine Ops.assign (by conv => lhs; whnf) ?_ | refine Run.cond_t rfl rfl ?_ | refine Run.cond_f rfl rfl ?_ | refine Run.skip ?_ | refine Run.exit ?_ | refine Run.block ?_ | refine Ops.len (by assumption) (by kernel_rfl) ?_ | refine Ops.len (Ac.sl (by assumption)) (by kernel_rfl) ?_ | refine Ops.add rfl rfl (by omega) (by omega) ?_ | refine Ops.sub rfl rfl (by omega) (by omega) ?_ | refine Ops.not_t rfl ?_ | refine Ops.not_f rfl ?_ | refine Ops.pick_t rfl (by conv => lhs; whnf) ?_ | refine Ops.pick_f rfl (by conv => lhs; whnf) ?_ | refine Ops.extract rfl rfl ?_ | refine Ops.un rfl rfl ?_ | refine Ops.no rfl rfl rfl ?_ | refine Ops.no_u rfl rfl ?_)
  refine Ops.callE (heldIntS_ok (s1.calm c1) h0 (by omega)) ?_
  repeat' (first | refine Run.seq ?_ | refine Run.region (by kernel_rfl) ?_ | refine Ops.nil ?_ | refine Ops.move (by conv => lhs; whnf) ?_ | refine Ops.assign (by conv => lhs; whnf) ?_ | refine Run.cond_t rfl rfl ?_ | refine Run.cond_f rfl rfl ?_ | refine Run.skip ?_ | refine Run.exit ?_ | refine Run.block ?_ | refine Ops.len (by assumption) (by kernel_rfl) ?_ | refine Ops.len (Ac.sl (by assumption)) (by kernel_rfl) ?_ | refine Ops.add rfl rfl (by omega) (by omega) ?_ | refine Ops.sub rfl rfl (by omega) (by omega) ?_ | refine Ops.not_t rfl ?_ | refine Ops.not_f rfl ?_ | refine Ops.pick_t rfl (by conv => lhs; whnf) ?_ | refine Ops.pick_f rfl (by conv => lhs; whnf) ?_ | refine Ops.extract rfl rfl ?_ | refine Ops.un rfl rfl ?_ | refine Ops.no rfl rfl rfl ?_ | refine Ops.no_u rfl rfl ?_)
  refine Ops.cmp rfl rfl rfl (fun hc => ?_) (fun hc => ?_)
  · omega
  · repeat' (first | refine Run.seq ?_ | refine Run.region (by kernel_rfl) ?_ | refine Ops.nil ?_ | refine Ops.move (by conv => lhs; whnf) ?_ | refine Ops.assign (by conv => lhs; whnf) ?_ | refine Run.cond_t rfl rfl ?_ | refine Run.cond_f rfl rfl ?_ | refine Run.skip ?_ | refine Run.exit ?_ | refine Run.block ?_ | refine Ops.len (by assumption) (by kernel_rfl) ?_ | refine Ops.len (Ac.sl (by assumption)) (by kernel_rfl) ?_ | refine Ops.add rfl rfl (by omega) (by omega) ?_ | refine Ops.sub rfl rfl (by omega) (by omega) ?_ | refine Ops.not_t rfl ?_ | refine Ops.not_f rfl ?_ | refine Ops.pick_t rfl (by conv => lhs; whnf) ?_ | refine Ops.pick_f rfl (by conv => lhs; whnf) ?_ | refine Ops.extract rfl rfl ?_ | refine Ops.un rfl rfl ?_ | refine Ops.no rfl rfl rfl ?_ | refine Ops.no_u rfl rfl ?_)
    refine Ops.fld 2 o1.pt (by kernel_rfl) (by kernel_rfl) rfl fun pz => ?_
    repeat' (first | refine Run.seq ?_ | refine Run.region (by kernel_rfl) ?_ | refine Ops.nil ?_ | refine Ops.move (by conv => lhs; whnf) ?_ | refine Ops.assign (by conv => lhs; whnf) ?_ | refine Run.cond_t rfl rfl ?_ | refine Run.cond_f rfl rfl ?_ | refine Run.skip ?_ | refine Run.exit ?_ | refine Run.block ?_ | refine Ops.len (by assumption) (by kernel_rfl) ?_ | refine Ops.len (Ac.sl (by assumption)) (by kernel_rfl) ?_ | refine Ops.add rfl rfl (by omega) (by omega) ?_ | refine Ops.sub rfl rfl (by omega) (by omega) ?_ | refine Ops.not_t rfl ?_ | refine Ops.not_f rfl ?_ | refine Ops.pick_t rfl (by conv => lhs; whnf) ?_ | refine Ops.pick_f rfl (by conv => lhs; whnf) ?_ | refine Ops.extract rfl rfl ?_ | refine Ops.un rfl rfl ?_ | refine Ops.no rfl rfl rfl ?_ | refine Ops.no_u rfl rfl ?_)
    refine Ops.callE (heldIntSS_ok (s2.calm c1) (by omega) (by omega)) ?_
    repeat' (first | refine Run.seq ?_ | refine Run.region (by kernel_rfl) ?_ | refine Ops.nil ?_ | refine Ops.move (by conv => lhs; whnf) ?_ | refine Ops.assign (by conv => lhs; whnf) ?_ | refine Run.cond_t rfl rfl ?_ | refine Run.cond_f rfl rfl ?_ | refine Run.skip ?_ | refine Run.exit ?_ | refine Run.block ?_ | refine Ops.len (by assumption) (by kernel_rfl) ?_ | refine Ops.len (Ac.sl (by assumption)) (by kernel_rfl) ?_ | refine Ops.add rfl rfl (by omega) (by omega) ?_ | refine Ops.sub rfl rfl (by omega) (by omega) ?_ | refine Ops.not_t rfl ?_ | refine Ops.not_f rfl ?_ | refine Ops.pick_t rfl (by conv => lhs; whnf) ?_ | refine Ops.pick_f rfl (by conv => lhs; whnf) ?_ | refine Ops.extract rfl rfl ?_ | refine Ops.un rfl rfl ?_ | refine Ops.no rfl rfl rfl ?_ | refine Ops.no_u rfl rfl ?_)
    refine Ops.cmp rfl rfl rfl (fun hc2 => ?_) (fun hc2 => ?_)
    · omega
    · repeat' (first | refine Run.seq ?_ | refine Run.region (by kernel_rfl) ?_ | refine Ops.nil ?_ | refine Ops.move (by conv => lhs; whnf) ?_ | refine Ops.assign (by conv => lhs; whnf) ?_ | refine Run.cond_t rfl rfl ?_ | refine Run.cond_f rfl rfl ?_ | refine Run.skip ?_ | refine Run.exit ?_ | refine Run.block ?_ | refine Ops.len (by assumption) (by kernel_rfl) ?_ | refine Ops.len (Ac.sl (by assumption)) (by kernel_rfl) ?_ | refine Ops.add rfl rfl (by omega) (by omega) ?_ | refine Ops.sub rfl rfl (by omega) (by omega) ?_ | refine Ops.not_t rfl ?_ | refine Ops.not_f rfl ?_ | refine Ops.pick_t rfl (by conv => lhs; whnf) ?_ | refine Ops.pick_f rfl (by conv => lhs; whnf) ?_ | refine Ops.extract rfl rfl ?_ | refine Ops.un rfl rfl ?_ | refine Ops.no rfl rfl rfl ?_ | refine Ops.no_u rfl rfl ?_)
      refine Run.ret ⟨.inl rfl, ResK.tmp rfl (by conv => lhs; whnf) (ResK.nil ?_)⟩
      exact ⟨c1, rfl⟩

end Go.Proofs.Ytefmjpbmdoebaaa
