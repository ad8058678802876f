/- A pattern's example, by the program and by the reference. -/
import Derived.Test.YtefmjpbmdoebaaaGj
set_option linter.unusedVariables false
namespace Go.Proofs.Ytefmjpbmdoebaaa
open Go Go.RowKit

/-- Atoms, and more and more of the least ones. -/
def exts (cs : List Int) : Nat → List Int
  | 0 => cs
  | n + 1 => exts cs n ++ [least (exts cs n)]
theorem exts_length (cs : List Int) : ∀ n, (exts cs n).length = cs.length + n
  | 0 => rfl
  | n + 1 => by rw [exts, List.length_append, exts_length cs n]; rfl
/-- The example of a pattern. -/
def exampleL (cs p : List Int) : List Int := p.map fun n => (exts cs p.length).getD n.toNat 0
theorem exampleL_length (cs p : List Int) : (exampleL cs p).length = p.length := by simp [exampleL]
theorem map_snoc {α β : Type} {f : α → β} {l : List α} {i : Nat} {a : α} (h : l[i]? = some a) : (l.take (i + 1)).map f = (l.take i).map f ++ [f a] := by rw [take_snoc h]; simp

theorem isPat_bound {k : Int} (hk : 0 ≤ k) {p : List Int} (h : isPat k p) : ∀ n ∈ p, 0 ≤ n ∧ n < k + p.length := fun n hn => by
  have := (pats_mem hk ((pats_iff hk).2 ⟨rfl, h⟩)).2 n hn
  omega

theorem specExample_ok {H : Hp} {v w : Value} {cs p : List Int} (h : Sl cI H v cs) (h2 : Sl cI H w p) (hp : ∀ n ∈ p, 0 ≤ n ∧ n < cs.length + p.length) (hl : cs.length + p.length ≤ 4194304) :
    CallK Try.prog 76 [v, w] H (fun r H' => Calm H H' ∧ Ac cI 3 H.nxt H' r (exampleL cs p)) := by
  refine (CallK.enter Try.func76 rfl rfl Try.ntmps76 Try.results76 rfl ?_)
  repeat' (first | refine Run.seq ?_ | refine Run.region (by kernel_rfl) ?_ | refine Ops.nil ?_ | refine Ops.move (by conv => lhs; whnf) ?_ | refine Ops.assign (by conv => lhs; whnf) ?_ | refine Run.cond_t rfl rfl ?_ | refine Run.cond_f rfl rfl ?_ | refine Run.skip ?_ | refine Run.exit ?_ | refine Run.block ?_ | refine Ops.len (by assumption) (by kernel_rfl) ?_ | refine Ops.len (Ac.sl (by assumption)) (by kernel_rfl) ?_ | refine Ops.add rfl rfl (by omega) (by omega) ?_ | refine Ops.sub rfl rfl (by omega) (by omega) ?_ | refine Ops.not_t rfl ?_ | refine Ops.not_f rfl ?_ | refine Ops.pick_t rfl (by conv => lhs; whnf) ?_ | refine Ops.pick_f rfl (by conv => lhs; whnf) ?_ | refine Ops.extract rfl rfl ?_ | refine Ops.un rfl rfl ?_ | refine Ops.no rfl rfl rfl ?_ | refine Ops.no_u rfl rfl ?_)
  refine Ops.call (l1Copy_ok h (by omega)) (fun _ _ h _ => h.1.ge') fun u H1 => ?_
  rintro ⟨c1, a1⟩
  repeat' (first | refine Run.seq ?_ | refine Run.region (by kernel_rfl) ?_ | refine Ops.nil ?_ | refine Ops.move (by conv => lhs; whnf) ?_ | refine Ops.assign (by conv => lhs; whnf) ?_ | refine Run.cond_t rfl rfl ?_ | refine Run.cond_f rfl rfl ?_ | refine Run.skip ?_ | refine Run.exit ?_ | refine Run.block ?_ | refine Ops.len (by assumption) (by kernel_rfl) ?_ | refine Ops.len (Ac.sl (by assumption)) (by kernel_rfl) ?_ | refine Ops.add rfl rfl (by omega) (by omega) ?_ | refine Ops.sub rfl rfl (by omega) (by omega) ?_ | refine Ops.not_t rfl ?_ | refine Ops.not_f rfl ?_ | refine Ops.pick_t rfl (by conv => lhs; whnf) ?_ | refine Ops.pick_f rfl (by conv => lhs; whnf) ?_ | refine Ops.extract rfl rfl ?_ | refine Ops.un rfl rfl ?_ | refine Ops.no rfl rfl rfl ?_ | refine Ops.no_u rfl rfl ?_)
  refine Run.loopW (fun (a : Nat × Value × Hp) => p.length - a.1) (fun a => up (up (up jk 0 v) 1 w) 5 a.2.1) (fun a => a.2.2)
    (fun a => a.1 ≤ p.length ∧ Calm H a.2.2 ∧ Ac cI 3 H.nxt a.2.2 a.2.1 (exts cs a.1)) (0, u, H1) rfl (by repeat (first | exact Wk.jk | refine Wk.up rfl ?_)) ⟨by dsimp only; omega, c1, a1⟩ ?_
  rintro ⟨i, v5, H2⟩ ⟨hi, c2, a2⟩
  dsimp only at hi c2 a2
  dsimp only
  have s1 := h.calm c2
  have s2 := h2.calm c2
  have hlen := exts_length cs i
  repeat' (first | refine Run.seq ?_ | refine Run.region (by kernel_rfl) ?_ | refine Ops.nil ?_ | refine Ops.move (by conv => lhs; whnf) ?_ | refine Ops.assign (by conv => lhs; whnf) ?_ | refine Run.cond_t rfl rfl ?_ | refine Run.cond_f rfl rfl ?_ | refine Run.skip ?_ | refine Run.exit ?_ | refine Run.block ?_ | refine Ops.len (by assumption) (by kernel_rfl) ?_ | refine Ops.len (Ac.sl (by assumption)) (by kernel_rfl) ?_ | refine Ops.add rfl rfl (by omega) (by omega) ?_ | refine Ops.sub rfl rfl (by omega) (by omega) ?_ | refine Ops.not_t rfl ?_ | refine Ops.not_f rfl ?_ | refine Ops.pick_t rfl (by conv => lhs; whnf) ?_ | refine Ops.pick_f rfl (by conv => lhs; whnf) ?_ | refine Ops.extract rfl rfl ?_ | refine Ops.un rfl rfl ?_ | refine Ops.no rfl rfl rfl ?_ | refine Ops.no_u rfl rfl ?_)
  refine Ops.cmp rfl rfl rfl (fun hc => ?_) (fun hc => ?_)
  · repeat' (first | refine Run.seq ?_ | refine Run.region (by kernel_rfl) ?_ | refine Ops.nil ?_ | refine Ops.move (by conv => lhs; whnf) ?_ | refine Ops.assign (by conv => lhs; whnf) ?_ | refine Run.cond_t rfl rfl ?_ | refine Run.cond_f rfl rfl ?_ | refine Run.skip ?_ | refine Run.exit ?_ | refine Run.block ?_ | refine Ops.len (by assumption) (by kernel_rfl) ?_ | refine Ops.len (Ac.sl (by assumption)) (by kernel_rfl) ?_ | refine Ops.add rfl rfl (by omega) (by omega) ?_ | refine Ops.sub rfl rfl (by omega) (by omega) ?_ | refine Ops.not_t rfl ?_ | refine Ops.not_f rfl ?_ | refine Ops.pick_t rfl (by conv => lhs; whnf) ?_ | refine Ops.pick_f rfl (by conv => lhs; whnf) ?_ | refine Ops.extract rfl rfl ?_ | refine Ops.un rfl rfl ?_ | refine Ops.no rfl rfl rfl ?_ | refine Ops.no_u rfl rfl ?_)
    refine Ops.callE (specLeastFresh_ok a2.sl) ?_
    refine Ops.push (a := least (exts cs i)) rdI a2 rfl (by simp) c2.1 (by kernel_rfl) (by kernel_rfl) (by kernel_rfl) (by omega) (by decide) fun pz v5' H3 a3 g3 => ?_
    repeat' (first | refine Run.seq ?_ | refine Run.region (by kernel_rfl) ?_ | refine Ops.nil ?_ | refine Ops.move (by conv => lhs; whnf) ?_ | refine Ops.assign (by conv => lhs; whnf) ?_ | refine Run.cond_t rfl rfl ?_ | refine Run.cond_f rfl rfl ?_ | refine Run.skip ?_ | refine Run.exit ?_ | refine Run.block ?_ | refine Ops.len (by assumption) (by kernel_rfl) ?_ | refine Ops.len (Ac.sl (by assumption)) (by kernel_rfl) ?_ | refine Ops.add rfl rfl (by omega) (by omega) ?_ | refine Ops.sub rfl rfl (by omega) (by omega) ?_ | refine Ops.not_t rfl ?_ | refine Ops.not_f rfl ?_ | refine Ops.pick_t rfl (by conv => lhs; whnf) ?_ | refine Ops.pick_f rfl (by conv => lhs; whnf) ?_ | refine Ops.extract rfl rfl ?_ | refine Ops.un rfl rfl ?_ | refine Ops.no rfl rfl rfl ?_ | refine Ops.no_u rfl rfl ?_)
    refine ⟨(i + 1, v5', H3), by dsimp only; omega, rfl, rfl, by dsimp only; exact (by repeat (first | exact Wk.jk | refine Wk.up rfl ?_)), ?_⟩
    exact ⟨by dsimp only; omega, g3.calm H (Nat.le_refl _) c2, a3⟩
  · have hip : i = p.length := by omega
    subst hip
    repeat' (first | refine Run.seq ?_ | refine Run.region (by kernel_rfl) ?_ | refine Ops.nil ?_ | refine Ops.move (by conv => lhs; whnf) ?_ | refine Ops.assign (by conv => lhs; whnf) ?_ | refine Run.cond_t rfl rfl ?_ | refine Run.cond_f rfl rfl ?_ | refine Run.skip ?_ | refine Run.exit ?_ | refine Run.block ?_ | refine Ops.len (by assumption) (by kernel_rfl) ?_ | refine Ops.len (Ac.sl (by assumption)) (by kernel_rfl) ?_ | refine Ops.add rfl rfl (by omega) (by omega) ?_ | refine Ops.sub rfl rfl (by omega) (by omega) ?_ | refine Ops.not_t rfl ?_ | refine Ops.not_f rfl ?_ | refine Ops.pick_t rfl (by conv => lhs; whnf) ?_ | refine Ops.pick_f rfl (by conv => lhs; whnf) ?_ | refine Ops.extract rfl rfl ?_ | refine Ops.un rfl rfl ?_ | refine Ops.no rfl rfl rfl ?_ | refine Ops.no_u rfl rfl ?_)
    refine Ops.lit0 cI 3 H.nxt (by kernel_rfl) (by kernel_rfl) c2.1 fun v6 H3 a6 c3 p3 => ?_
    have a5 := a2.calm c3
    have p56 := p3 v5 a2.live
    have c3 := c2.trans c3
    have s2 := h2.calm c3
    repeat' (first | refine Run.seq ?_ | refine Run.region (by kernel_rfl) ?_ | refine Ops.nil ?_ | refine Ops.move (by conv => lhs; whnf) ?_ | refine Ops.assign (by conv => lhs; whnf) ?_ | refine Run.cond_t rfl rfl ?_ | refine Run.cond_f rfl rfl ?_ | refine Run.skip ?_ | refine Run.exit ?_ | refine Run.block ?_ | refine Ops.len (by assumption) (by kernel_rfl) ?_ | refine Ops.len (Ac.sl (by assumption)) (by kernel_rfl) ?_ | refine Ops.add rfl rfl (by omega) (by omega) ?_ | refine Ops.sub rfl rfl (by omega) (by omega) ?_ | refine Ops.not_t rfl ?_ | refine Ops.not_f rfl ?_ | refine Ops.pick_t rfl (by conv => lhs; whnf) ?_ | refine Ops.pick_f rfl (by conv => lhs; whnf) ?_ | refine Ops.extract rfl rfl ?_ | refine Ops.un rfl rfl ?_ | refine Ops.no rfl rfl rfl ?_ | refine Ops.no_u rfl rfl ?_)
    refine Run.loopW (fun (a : Nat × Value × Hp) => p.length - a.1) (fun a => up (up (up (up (up (up (up jk 0 v) 1 w) 5 v5) 6 a.2.1) 25 w) 26 (.int .i64 p.length)) 27 (.int .i64 (a.1 : Int))) (fun a => a.2.2)
      (fun a => a.1 ≤ p.length ∧ Calm H a.2.2 ∧ Ac cI 3 H.nxt a.2.2 v5 (exts cs p.length) ∧ Ac cI 3 H.nxt a.2.2 a.2.1 ((p.take a.1).map fun n => (exts cs p.length).getD n.toNat 0) ∧ Ap v5 a.2.1) (0, v6, H3) rfl (by repeat (first | exact Wk.jk | refine Wk.up rfl ?_)) ⟨by dsimp only; omega, c3, a5, by simpa using a6, p56⟩ ?_
    rintro ⟨j, w6, H4⟩ ⟨hj, c4, b5, b6, q56⟩
    dsimp only at hj c4 b5 b6 q56
    dsimp only
    have s2 := h2.calm c4
    repeat' (first | refine Run.seq ?_ | refine Run.region (by kernel_rfl) ?_ | refine Ops.nil ?_ | refine Ops.move (by conv => lhs; whnf) ?_ | refine Ops.assign (by conv => lhs; whnf) ?_ | refine Run.cond_t rfl rfl ?_ | refine Run.cond_f rfl rfl ?_ | refine Run.skip ?_ | refine Run.exit ?_ | refine Run.block ?_ | refine Ops.len (by assumption) (by kernel_rfl) ?_ | refine Ops.len (Ac.sl (by assumption)) (by kernel_rfl) ?_ | refine Ops.add rfl rfl (by omega) (by omega) ?_ | refine Ops.sub rfl rfl (by omega) (by omega) ?_ | refine Ops.not_t rfl ?_ | refine Ops.not_f rfl ?_ | refine Ops.pick_t rfl (by conv => lhs; whnf) ?_ | refine Ops.pick_f rfl (by conv => lhs; whnf) ?_ | refine Ops.extract rfl rfl ?_ | refine Ops.un rfl rfl ?_ | refine Ops.no rfl rfl rfl ?_ | refine Ops.no_u rfl rfl ?_)
    refine Ops.cmp rfl rfl rfl (fun hc2 => ?_) (fun hc2 => ?_)
    · repeat' (first | refine Run.seq ?_ | refine Run.region (by kernel_rfl) ?_ | refine Ops.nil ?_ | refine Ops.move (by conv => lhs; whnf) ?_ | refine Ops.assign (by conv => lhs; whnf) ?_ | refine Run.cond_t rfl rfl ?_ | refine Run.cond_f rfl rfl ?_ | refine Run.skip ?_ | refine Run.exit ?_ | refine Run.block ?_ | refine Ops.len (by assumption) (by kernel_rfl) ?_ | refine Ops.len (Ac.sl (by assumption)) (by kernel_rfl) ?_ | refine Ops.add rfl rfl (by omega) (by omega) ?_ | refine Ops.sub rfl rfl (by omega) (by omega) ?_ | refine Ops.not_t rfl ?_ | refine Ops.not_f rfl ?_ | refine Ops.pick_t rfl (by conv => lhs; whnf) ?_ | refine Ops.pick_f rfl (by conv => lhs; whnf) ?_ | refine Ops.extract rfl rfl ?_ | refine Ops.un rfl rfl ?_ | refine Ops.no rfl rfl rfl ?_ | refine Ops.no_u rfl rfl ?_)
      refine Ops.idxI s2 rfl (by omega) (by omega) (by kernel_rfl) (by kernel_rfl) fun pz a ha => ?_
      have ha' : p[j]? = some a := ha
      have hb := hp a (List.mem_of_getElem? ha')
      repeat' (first | refine Run.seq ?_ | refine Run.region (by kernel_rfl) ?_ | refine Ops.nil ?_ | refine Ops.move (by conv => lhs; whnf) ?_ | refine Ops.assign (by conv => lhs; whnf) ?_ | refine Run.cond_t rfl rfl ?_ | refine Run.cond_f rfl rfl ?_ | refine Run.skip ?_ | refine Run.exit ?_ | refine Run.block ?_ | refine Ops.len (by assumption) (by kernel_rfl) ?_ | refine Ops.len (Ac.sl (by assumption)) (by kernel_rfl) ?_ | refine Ops.add rfl rfl (by omega) (by omega) ?_ | refine Ops.sub rfl rfl (by omega) (by omega) ?_ | refine Ops.not_t rfl ?_ | refine Ops.not_f rfl ?_ | refine Ops.pick_t rfl (by conv => lhs; whnf) ?_ | refine Ops.pick_f rfl (by conv => lhs; whnf) ?_ | refine Ops.extract rfl rfl ?_ | refine Ops.un rfl rfl ?_ | refine Ops.no rfl rfl rfl ?_ | refine Ops.no_u rfl rfl ?_)
      refine Ops.idxI b5.sl rfl (by omega) (by omega) (by kernel_rfl) (by kernel_rfl) fun pz b hb2 => ?_
      refine Ops.push (a := b) rdI b6 rfl (by simp) c4.1 (by kernel_rfl) (by kernel_rfl) (by kernel_rfl) (by simp; omega) (by decide) fun pz w6' H5 a3 g3 => ?_
      obtain ⟨b5', q5'⟩ := g3.two rdI b5 q56
      repeat' (first | refine Run.seq ?_ | refine Run.region (by kernel_rfl) ?_ | refine Ops.nil ?_ | refine Ops.move (by conv => lhs; whnf) ?_ | refine Ops.assign (by conv => lhs; whnf) ?_ | refine Run.cond_t rfl rfl ?_ | refine Run.cond_f rfl rfl ?_ | refine Run.skip ?_ | refine Run.exit ?_ | refine Run.block ?_ | refine Ops.len (by assumption) (by kernel_rfl) ?_ | refine Ops.len (Ac.sl (by assumption)) (by kernel_rfl) ?_ | refine Ops.add rfl rfl (by omega) (by omega) ?_ | refine Ops.sub rfl rfl (by omega) (by omega) ?_ | refine Ops.not_t rfl ?_ | refine Ops.not_f rfl ?_ | refine Ops.pick_t rfl (by conv => lhs; whnf) ?_ | refine Ops.pick_f rfl (by conv => lhs; whnf) ?_ | refine Ops.extract rfl rfl ?_ | refine Ops.un rfl rfl ?_ | refine Ops.no rfl rfl rfl ?_ | refine Ops.no_u rfl rfl ?_)
      refine ⟨(j + 1, w6', H5), by dsimp only; omega, rfl, rfl, by dsimp only; exact (by repeat (first | exact Wk.jk | refine Wk.up rfl ?_)), ?_⟩
      refine ⟨by dsimp only; omega, g3.calm H (Nat.le_refl _) c4, b5', ?_, q5'⟩
      dsimp only
      rw [map_snoc ha']
      have e : (exts cs p.length).getD a.toNat 0 = b := by rw [List.getD_eq_getElem?_getD, hb2]; rfl
      rw [e]; exact a3
    · repeat' (first | refine Run.seq ?_ | refine Run.region (by kernel_rfl) ?_ | refine Ops.nil ?_ | refine Ops.move (by conv => lhs; whnf) ?_ | refine Ops.assign (by conv => lhs; whnf) ?_ | refine Run.cond_t rfl rfl ?_ | refine Run.cond_f rfl rfl ?_ | refine Run.skip ?_ | refine Run.exit ?_ | refine Run.block ?_ | refine Ops.len (by assumption) (by kernel_rfl) ?_ | refine Ops.len (Ac.sl (by assumption)) (by kernel_rfl) ?_ | refine Ops.add rfl rfl (by omega) (by omega) ?_ | refine Ops.sub rfl rfl (by omega) (by omega) ?_ | refine Ops.not_t rfl ?_ | refine Ops.not_f rfl ?_ | refine Ops.pick_t rfl (by conv => lhs; whnf) ?_ | refine Ops.pick_f rfl (by conv => lhs; whnf) ?_ | refine Ops.extract rfl rfl ?_ | refine Ops.un rfl rfl ?_ | refine Ops.no rfl rfl rfl ?_ | refine Ops.no_u rfl rfl ?_)
      refine Run.ret ⟨.inl rfl, ResK.tmp rfl (by conv => lhs; whnf) (ResK.nil ?_)⟩
      rw [take_end (by omega)] at b6
      exact ⟨c4, b6⟩

theorem example_ok {H : Hp} {v w : Value} {cs p : List Int} (h : Sl cI H v cs) (h2 : Sl cI H w p) (hp : ∀ n ∈ p, 0 ≤ n ∧ n < cs.length + p.length) (hl : cs.length + p.length ≤ 4194304) :
    CallK Try.prog 77 [v, w] H (fun r H' => Calm H H' ∧ Ac cI 3 H.nxt H' r (exampleL cs p)) := by
  refine (CallK.enter Try.func77 rfl rfl Try.ntmps77 Try.results77 rfl ?_)
  repeat' (first | refine Run.seq ?_ | refine Run.region (by kernel_rfl) ?_ | refine Ops.nil ?_ | refine Ops.move (by conv => lhs; whnf) ?_ | refine Ops.assign (by conv => lhs; whnf) ?_ | refine Run.cond_t rfl rfl ?_ | refine Run.cond_f rfl rfl ?_ | refine Run.skip ?_ | refine Run.exit ?_ | refine Run.block ?_ | refine Ops.len (by assumption) (by kernel_rfl) ?_ | refine Ops.len (Ac.sl (by assumption)) (by kernel_rfl) ?_ | refine Ops.add rfl rfl (by omega) (by omega) ?_ | refine Ops.sub rfl rfl (by omega) (by omega) ?_ | refine Ops.not_t rfl ?_ | refine Ops.not_f rfl ?_ | refine Ops.pick_t rfl (by conv => lhs; whnf) ?_ | refine Ops.pick_f rfl (by conv => lhs; whnf) ?_ | refine Ops.extract rfl rfl ?_ | refine Ops.un rfl rfl ?_ | refine Ops.no rfl rfl rfl ?_ | refine Ops.no_u rfl rfl ?_)
  refine Ops.call (clone_ok h (by omega)) (fun _ _ h _ => h.1.ge') fun u H1 => ?_
  rintro ⟨c1, a1⟩
  have s2 := h2.calm c1
  repeat' (first | refine Run.seq ?_ | refine Run.region (by kernel_rfl) ?_ | refine Ops.nil ?_ | refine Ops.move (by conv => lhs; whnf) ?_ | refine Ops.assign (by conv => lhs; whnf) ?_ | refine Run.cond_t rfl rfl ?_ | refine Run.cond_f rfl rfl ?_ | refine Run.skip ?_ | refine Run.exit ?_ | refine Run.block ?_ | refine Ops.len (by assumption) (by kernel_rfl) ?_ | refine Ops.len (Ac.sl (by assumption)) (by kernel_rfl) ?_ | refine Ops.add rfl rfl (by omega) (by omega) ?_ | refine Ops.sub rfl rfl (by omega) (by omega) ?_ | refine Ops.not_t rfl ?_ | refine Ops.not_f rfl ?_ | refine Ops.pick_t rfl (by conv => lhs; whnf) ?_ | refine Ops.pick_f rfl (by conv => lhs; whnf) ?_ | refine Ops.extract rfl rfl ?_ | refine Ops.un rfl rfl ?_ | refine Ops.no rfl rfl rfl ?_ | refine Ops.no_u rfl rfl ?_)
  refine Run.loopW (fun (a : Nat × Value × Hp) => p.length - a.1) (fun a => up (up (up (up jk 1 w) 5 a.2.1) 12 (.int .i64 p.length)) 13 (.int .i64 (a.1 : Int))) (fun a => a.2.2)
    (fun a => a.1 ≤ p.length ∧ Calm H a.2.2 ∧ Ac cI 3 H.nxt a.2.2 a.2.1 (exts cs a.1)) (0, u, H1) rfl (by repeat (first | exact Wk.jk | refine Wk.up rfl ?_)) ⟨by dsimp only; omega, c1, a1⟩ ?_
  rintro ⟨i, v5, H2⟩ ⟨hi, c2, a2⟩
  dsimp only at hi c2 a2
  dsimp only
  have s2 := h2.calm c2
  have hlen := exts_length cs i
  repeat' (first | refine Run.seq ?_ | refine Run.region (by kernel_rfl) ?_ | refine Ops.nil ?_ | refine Ops.move (by conv => lhs; whnf) ?_ | refine Ops.assign (by conv => lhs; whnf) ?_ | refine Run.cond_t rfl rfl ?_ | refine Run.cond_f rfl rfl ?_ | refine Run.skip ?_ | refine Run.exit ?_ | refine Run.block ?_ | refine Ops.len (by assumption) (by kernel_rfl) ?_ | refine Ops.len (Ac.sl (by assumption)) (by kernel_rfl) ?_ | refine Ops.add rfl rfl (by omega) (by omega) ?_ | refine Ops.sub rfl rfl (by omega) (by omega) ?_ | refine Ops.not_t rfl ?_ | refine Ops.not_f rfl ?_ | refine Ops.pick_t rfl (by conv => lhs; whnf) ?_ | refine Ops.pick_f rfl (by conv => lhs; whnf) ?_ | refine Ops.extract rfl rfl ?_ | refine Ops.un rfl rfl ?_ | refine Ops.no rfl rfl rfl ?_ | refine Ops.no_u rfl rfl ?_)
  refine Ops.cmp rfl rfl rfl (fun hc => ?_) (fun hc => ?_)
  · repeat' (first | refine Run.seq ?_ | refine Run.region (by kernel_rfl) ?_ | refine Ops.nil ?_ | refine Ops.move (by conv => lhs; whnf) ?_ | refine Ops.assign (by conv => lhs; whnf) ?_ | refine Run.cond_t rfl rfl ?_ | refine Run.cond_f rfl rfl ?_ | refine Run.skip ?_ | refine Run.exit ?_ | refine Run.block ?_ | refine Ops.len (by assumption) (by kernel_rfl) ?_ | refine Ops.len (Ac.sl (by assumption)) (by kernel_rfl) ?_ | refine Ops.add rfl rfl (by omega) (by omega) ?_ | refine Ops.sub rfl rfl (by omega) (by omega) ?_ | refine Ops.not_t rfl ?_ | refine Ops.not_f rfl ?_ | refine Ops.pick_t rfl (by conv => lhs; whnf) ?_ | refine Ops.pick_f rfl (by conv => lhs; whnf) ?_ | refine Ops.extract rfl rfl ?_ | refine Ops.un rfl rfl ?_ | refine Ops.no rfl rfl rfl ?_ | refine Ops.no_u rfl rfl ?_)
    refine Ops.call (LeastFresh_ok a2.sl) (fun _ _ h _ => h.1.ge') fun r3 H3 => ?_
    rintro ⟨c3, rfl⟩
    have a2 := a2.calm c3
    have c3 := c2.trans c3
    refine Ops.push (a := least (exts cs i)) rdI a2 rfl (by simp) c3.1 (by kernel_rfl) (by kernel_rfl) (by kernel_rfl) (by omega) (by decide) fun pz v5' H4 a3 g3 => ?_
    repeat' (first | refine Run.seq ?_ | refine Run.region (by kernel_rfl) ?_ | refine Ops.nil ?_ | refine Ops.move (by conv => lhs; whnf) ?_ | refine Ops.assign (by conv => lhs; whnf) ?_ | refine Run.cond_t rfl rfl ?_ | refine Run.cond_f rfl rfl ?_ | refine Run.skip ?_ | refine Run.exit ?_ | refine Run.block ?_ | refine Ops.len (by assumption) (by kernel_rfl) ?_ | refine Ops.len (Ac.sl (by assumption)) (by kernel_rfl) ?_ | refine Ops.add rfl rfl (by omega) (by omega) ?_ | refine Ops.sub rfl rfl (by omega) (by omega) ?_ | refine Ops.not_t rfl ?_ | refine Ops.not_f rfl ?_ | refine Ops.pick_t rfl (by conv => lhs; whnf) ?_ | refine Ops.pick_f rfl (by conv => lhs; whnf) ?_ | refine Ops.extract rfl rfl ?_ | refine Ops.un rfl rfl ?_ | refine Ops.no rfl rfl rfl ?_ | refine Ops.no_u rfl rfl ?_)
    refine ⟨(i + 1, v5', H4), by dsimp only; omega, rfl, rfl, by dsimp only; exact (by repeat (first | exact Wk.jk | refine Wk.up rfl ?_)), ?_⟩
    exact ⟨by dsimp only; omega, g3.calm H (Nat.le_refl _) c3, a3⟩
  · have hip : i = p.length := by omega
    subst hip
    repeat' (first | refine Run.seq ?_ | refine Run.region (by kernel_rfl) ?_ | refine Ops.nil ?_ | refine Ops.move (by conv => lhs; whnf) ?_ | refine Ops.assign (by conv => lhs; whnf) ?_ | refine Run.cond_t rfl rfl ?_ | refine Run.cond_f rfl rfl ?_ | refine Run.skip ?_ | refine Run.exit ?_ | refine Run.block ?_ | refine Ops.len (by assumption) (by kernel_rfl) ?_ | refine Ops.len (Ac.sl (by assumption)) (by kernel_rfl) ?_ | refine Ops.add rfl rfl (by omega) (by omega) ?_ | refine Ops.sub rfl rfl (by omega) (by omega) ?_ | refine Ops.not_t rfl ?_ | refine Ops.not_f rfl ?_ | refine Ops.pick_t rfl (by conv => lhs; whnf) ?_ | refine Ops.pick_f rfl (by conv => lhs; whnf) ?_ | refine Ops.extract rfl rfl ?_ | refine Ops.un rfl rfl ?_ | refine Ops.no rfl rfl rfl ?_ | refine Ops.no_u rfl rfl ?_)
    refine Run.loopW (fun (a : Nat × Value × Hp) => p.length - a.1) (fun a => up (up (up (up (up (up jk 1 w) 5 v5) 6 a.2.1) 21 w) 22 (.int .i64 p.length)) 23 (.int .i64 (a.1 : Int))) (fun a => a.2.2)
      (fun a => a.1 ≤ p.length ∧ Calm H a.2.2 ∧ Ac cI 3 H.nxt a.2.2 v5 (exts cs p.length) ∧ Ac cI 3 H.nxt a.2.2 a.2.1 ((p.take a.1).map fun n => (exts cs p.length).getD n.toNat 0) ∧ Ap v5 a.2.1) (0, nilS, H2) rfl (by repeat (first | exact Wk.jk | refine Wk.up rfl ?_)) ⟨by dsimp only; omega, c2, a2, by simpa using Ac.nil, Ap.nil_r⟩ ?_
    rintro ⟨j, w6, H4⟩ ⟨hj, c4, b5, b6, q56⟩
    dsimp only at hj c4 b5 b6 q56
    dsimp only
    have s2 := h2.calm c4
    repeat' (first | refine Run.seq ?_ | refine Run.region (by kernel_rfl) ?_ | refine Ops.nil ?_ | refine Ops.move (by conv => lhs; whnf) ?_ | refine Ops.assign (by conv => lhs; whnf) ?_ | refine Run.cond_t rfl rfl ?_ | refine Run.cond_f rfl rfl ?_ | refine Run.skip ?_ | refine Run.exit ?_ | refine Run.block ?_ | refine Ops.len (by assumption) (by kernel_rfl) ?_ | refine Ops.len (Ac.sl (by assumption)) (by kernel_rfl) ?_ | refine Ops.add rfl rfl (by omega) (by omega) ?_ | refine Ops.sub rfl rfl (by omega) (by omega) ?_ | refine Ops.not_t rfl ?_ | refine Ops.not_f rfl ?_ | refine Ops.pick_t rfl (by conv => lhs; whnf) ?_ | refine Ops.pick_f rfl (by conv => lhs; whnf) ?_ | refine Ops.extract rfl rfl ?_ | refine Ops.un rfl rfl ?_ | refine Ops.no rfl rfl rfl ?_ | refine Ops.no_u rfl rfl ?_)
    refine Ops.cmp rfl rfl rfl (fun hc2 => ?_) (fun hc2 => ?_)
    · repeat' (first | refine Run.seq ?_ | refine Run.region (by kernel_rfl) ?_ | refine Ops.nil ?_ | refine Ops.move (by conv => lhs; whnf) ?_ | refine Ops.assign (by conv => lhs; whnf) ?_ | refine Run.cond_t rfl rfl ?_ | refine Run.cond_f rfl rfl ?_ | refine Run.skip ?_ | refine Run.exit ?_ | refine Run.block ?_ | refine Ops.len (by assumption) (by kernel_rfl) ?_ | refine Ops.len (Ac.sl (by assumption)) (by kernel_rfl) ?_ | refine Ops.add rfl rfl (by omega) (by omega) ?_ | refine Ops.sub rfl rfl (by omega) (by omega) ?_ | refine Ops.not_t rfl ?_ | refine Ops.not_f rfl ?_ | refine Ops.pick_t rfl (by conv => lhs; whnf) ?_ | refine Ops.pick_f rfl (by conv => lhs; whnf) ?_ | refine Ops.extract rfl rfl ?_ | refine Ops.un rfl rfl ?_ | refine Ops.no rfl rfl rfl ?_ | refine Ops.no_u rfl rfl ?_)
      refine Ops.idxI s2 rfl (by omega) (by omega) (by kernel_rfl) (by kernel_rfl) fun pz a ha => ?_
      have ha' : p[j]? = some a := ha
      have hb := hp a (List.mem_of_getElem? ha')
      repeat' (first | refine Run.seq ?_ | refine Run.region (by kernel_rfl) ?_ | refine Ops.nil ?_ | refine Ops.move (by conv => lhs; whnf) ?_ | refine Ops.assign (by conv => lhs; whnf) ?_ | refine Run.cond_t rfl rfl ?_ | refine Run.cond_f rfl rfl ?_ | refine Run.skip ?_ | refine Run.exit ?_ | refine Run.block ?_ | refine Ops.len (by assumption) (by kernel_rfl) ?_ | refine Ops.len (Ac.sl (by assumption)) (by kernel_rfl) ?_ | refine Ops.add rfl rfl (by omega) (by omega) ?_ | refine Ops.sub rfl rfl (by omega) (by omega) ?_ | refine Ops.not_t rfl ?_ | refine Ops.not_f rfl ?_ | refine Ops.pick_t rfl (by conv => lhs; whnf) ?_ | refine Ops.pick_f rfl (by conv => lhs; whnf) ?_ | refine Ops.extract rfl rfl ?_ | refine Ops.un rfl rfl ?_ | refine Ops.no rfl rfl rfl ?_ | refine Ops.no_u rfl rfl ?_)
      refine Ops.idxI b5.sl rfl (by omega) (by omega) (by kernel_rfl) (by kernel_rfl) fun pz b hb2 => ?_
      refine Ops.push (a := b) rdI b6 rfl (by simp) c4.1 (by kernel_rfl) (by kernel_rfl) (by kernel_rfl) (by simp; omega) (by decide) fun pz w6' H5 a3 g3 => ?_
      obtain ⟨b5', q5'⟩ := g3.two rdI b5 q56
      repeat' (first | refine Run.seq ?_ | refine Run.region (by kernel_rfl) ?_ | refine Ops.nil ?_ | refine Ops.move (by conv => lhs; whnf) ?_ | refine Ops.assign (by conv => lhs; whnf) ?_ | refine Run.cond_t rfl rfl ?_ | refine Run.cond_f rfl rfl ?_ | refine Run.skip ?_ | refine Run.exit ?_ | refine Run.block ?_ | refine Ops.len (by assumption) (by kernel_rfl) ?_ | refine Ops.len (Ac.sl (by assumption)) (by kernel_rfl) ?_ | refine Ops.add rfl rfl (by omega) (by omega) ?_ | refine Ops.sub rfl rfl (by omega) (by omega) ?_ | refine Ops.not_t rfl ?_ | refine Ops.not_f rfl ?_ | refine Ops.pick_t rfl (by conv => lhs; whnf) ?_ | refine Ops.pick_f rfl (by conv => lhs; whnf) ?_ | refine Ops.extract rfl rfl ?_ | refine Ops.un rfl rfl ?_ | refine Ops.no rfl rfl rfl ?_ | refine Ops.no_u rfl rfl ?_)
      refine ⟨(j + 1, w6', H5), by dsimp only; omega, rfl, rfl, by dsimp only; exact (by repeat (first | exact Wk.jk | refine Wk.up rfl ?_)), ?_⟩
      refine ⟨by dsimp only; omega, g3.calm H (Nat.le_refl _) c4, b5', ?_, q5'⟩
      dsimp only
      rw [map_snoc ha']
      have e : (exts cs p.length).getD a.toNat 0 = b := by rw [List.getD_eq_getElem?_getD, hb2]; rfl
      rw [e]; exact a3
    · repeat' (first | refine Run.seq ?_ | refine Run.region (by kernel_rfl) ?_ | refine Ops.nil ?_ | refine Ops.move (by conv => lhs; whnf) ?_ | refine Ops.assign (by conv => lhs; whnf) ?_ | refine Run.cond_t rfl rfl ?_ | refine Run.cond_f rfl rfl ?_ | refine Run.skip ?_ | refine Run.exit ?_ | refine Run.block ?_ | refine Ops.len (by assumption) (by kernel_rfl) ?_ | refine Ops.len (Ac.sl (by assumption)) (by kernel_rfl) ?_ | refine Ops.add rfl rfl (by omega) (by omega) ?_ | refine Ops.sub rfl rfl (by omega) (by omega) ?_ | refine Ops.not_t rfl ?_ | refine Ops.not_f rfl ?_ | refine Ops.pick_t rfl (by conv => lhs; whnf) ?_ | refine Ops.pick_f rfl (by conv => lhs; whnf) ?_ | refine Ops.extract rfl rfl ?_ | refine Ops.un rfl rfl ?_ | refine Ops.no rfl rfl rfl ?_ | refine Ops.no_u rfl rfl ?_)
      refine Run.ret ⟨.inl rfl, ResK.tmp rfl (by conv => lhs; whnf) (ResK.nil ?_)⟩
      rw [take_end (by omega)] at b6
      exact ⟨c4, b6⟩

end Go.Proofs.Ytefmjpbmdoebaaa
