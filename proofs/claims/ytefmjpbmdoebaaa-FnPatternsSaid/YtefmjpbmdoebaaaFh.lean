/- Patterns of a tuple: by the reference and by the program. -/
import Derived.Test.YtefmjpbmdoebaaaFg
set_option linter.unusedVariables false
namespace Go.Proofs.Ytefmjpbmdoebaaa
open Go Go.RowKit

def lastIdx (a : Int) (l : List Int) : Int := (l.zipIdx).foldl (fun r p => if p.1 = a then (p.2 : Int) else r) (-1)
theorem lastIdx_snoc (a b : Int) (l : List Int) : lastIdx a (l ++ [b]) = if b = a then (l.length : Int) else lastIdx a l := by
  unfold lastIdx; simp [List.zipIdx_append]
def patStep (s : List Int × List Int) (a : Int) : List Int × List Int :=
  if lastIdx a s.1 < 0 then (s.1 ++ [a], s.2 ++ [(s.1.length : Int)]) else (s.1, s.2 ++ [lastIdx a s.1])
def patSt (cs tup : List Int) : List Int × List Int := tup.foldl patStep (cs, [])

theorem patSt_snoc (cs tup : List Int) (a : Int) : patSt cs (tup ++ [a]) = patStep (patSt cs tup) a := by simp [patSt]
theorem patStep_len (s : List Int × List Int) (a : Int) : (patStep s a).1.length ≤ s.1.length + 1 ∧ (patStep s a).2.length = s.2.length + 1 := by
  unfold patStep; split <;> simp
theorem patSt_len (cs : List Int) : ∀ tup : List Int, (patSt cs tup).1.length ≤ cs.length + tup.length ∧ (patSt cs tup).2.length = tup.length := by
  intro tup
  have key : ∀ (tup : List Int) (s : List Int × List Int), (tup.foldl patStep s).1.length ≤ s.1.length + tup.length ∧ (tup.foldl patStep s).2.length = s.2.length + tup.length := by
    intro tup
    induction tup with
    | nil => intro s; simp
    | cons a l ih =>
      intro s
      have h1 := ih (patStep s a)
      have h2 := patStep_len s a
      simp only [List.foldl_cons, List.length_cons]; omega
  have := key tup (cs, [])
  simpa [patSt] using this

theorem l6Pattern_ok {H : Hp} {v w : Value} {cs tup : List Int} (h : Sl cI H v cs) (h2 : Sl cI H w tup) (hl : cs.length + tup.length ≤ 4194304) :
    CallK Try.prog 63 [v, w] H (fun r H' => Calm H H' ∧ Ac cI 3 H.nxt H' r (patSt cs tup).2) := by
  have hmx := h.max
  have hmx2 := h2.max
  simp only [maxLen] at hmx hmx2
  refine (CallK.enter Try.func63 rfl rfl Try.ntmps63 Try.results63 rfl ?_)
  repeat' (first | refine Run.seq ?_ | refine Run.region (by kernel_rfl) ?_ | refine Ops.nil ?_ | refine Ops.move (by conv => lhs; whnf) ?_ | refine Ops.assign (by conv => lhs; whnf) ?_ | refine Run.cond_t rfl rfl ?_ | refine Run.cond_f rfl rfl ?_ | refine Run.skip ?_ | refine Run.exit ?_ | refine Run.block ?_ | refine Ops.len (by assumption) (by kernel_rfl) ?_ | refine Ops.len (Ac.sl (by assumption)) (by kernel_rfl) ?_ | refine Ops.add rfl rfl (by omega) (by omega) ?_ | refine Ops.sub rfl rfl (by omega) (by omega) ?_ | refine Ops.not_t rfl ?_ | refine Ops.not_f rfl ?_ | refine Ops.pick_t rfl (by conv => lhs; whnf) ?_ | refine Ops.pick_f rfl (by conv => lhs; whnf) ?_ | refine Ops.extract rfl rfl ?_ | refine Ops.un rfl rfl ?_ | refine Ops.no rfl rfl rfl ?_ | refine Ops.no_u rfl rfl ?_)
  refine Ops.lit0 cI 3 H.nxt (by kernel_rfl) (by kernel_rfl) (Nat.le_refl _) fun v5 H1 a5 c1 p1 => ?_
  repeat' (first | refine Run.seq ?_ | refine Run.region (by kernel_rfl) ?_ | refine Ops.nil ?_ | refine Ops.move (by conv => lhs; whnf) ?_ | refine Ops.assign (by conv => lhs; whnf) ?_ | refine Run.cond_t rfl rfl ?_ | refine Run.cond_f rfl rfl ?_ | refine Run.skip ?_ | refine Run.exit ?_ | refine Run.block ?_ | refine Ops.len (by assumption) (by kernel_rfl) ?_ | refine Ops.len (Ac.sl (by assumption)) (by kernel_rfl) ?_ | refine Ops.add rfl rfl (by omega) (by omega) ?_ | refine Ops.sub rfl rfl (by omega) (by omega) ?_ | refine Ops.not_t rfl ?_ | refine Ops.not_f rfl ?_ | refine Ops.pick_t rfl (by conv => lhs; whnf) ?_ | refine Ops.pick_f rfl (by conv => lhs; whnf) ?_ | refine Ops.extract rfl rfl ?_ | refine Ops.un rfl rfl ?_ | refine Ops.no rfl rfl rfl ?_ | refine Ops.no_u rfl rfl ?_)
  refine Ops.lit0 cI 3 H.nxt (by kernel_rfl) (by kernel_rfl) c1.1 fun v6 H2 a6 c2 p2 => ?_
  have p65 := p2 v5 a5.live
  have a5 := a5.calm c2
  repeat' (first | refine Run.seq ?_ | refine Run.region (by kernel_rfl) ?_ | refine Ops.nil ?_ | refine Ops.move (by conv => lhs; whnf) ?_ | refine Ops.assign (by conv => lhs; whnf) ?_ | refine Run.cond_t rfl rfl ?_ | refine Run.cond_f rfl rfl ?_ | refine Run.skip ?_ | refine Run.exit ?_ | refine Run.block ?_ | refine Ops.len (by assumption) (by kernel_rfl) ?_ | refine Ops.len (Ac.sl (by assumption)) (by kernel_rfl) ?_ | refine Ops.add rfl rfl (by omega) (by omega) ?_ | refine Ops.sub rfl rfl (by omega) (by omega) ?_ | refine Ops.not_t rfl ?_ | refine Ops.not_f rfl ?_ | refine Ops.pick_t rfl (by conv => lhs; whnf) ?_ | refine Ops.pick_f rfl (by conv => lhs; whnf) ?_ | refine Ops.extract rfl rfl ?_ | refine Ops.un rfl rfl ?_ | refine Ops.no rfl rfl rfl ?_ | refine Ops.no_u rfl rfl ?_)
  refine Ops.cat rfl rdI a6 ((h.calm c1).calm c2) (Nat.le_trans c1.1 c2.1) (by kernel_rfl) (by kernel_rfl) (by simp; omega) fun v6 H3 a6 g3 => ?_
  obtain ⟨a5, p56⟩ := g3.two rdI a5 p65
  have c3 := g3.calm H (Nat.le_refl _) (c1.trans c2)
  have s2 := h2.calm c3
  repeat' (first | refine Run.seq ?_ | refine Run.region (by kernel_rfl) ?_ | refine Ops.nil ?_ | refine Ops.move (by conv => lhs; whnf) ?_ | refine Ops.assign (by conv => lhs; whnf) ?_ | refine Run.cond_t rfl rfl ?_ | refine Run.cond_f rfl rfl ?_ | refine Run.skip ?_ | refine Run.exit ?_ | refine Run.block ?_ | refine Ops.len (by assumption) (by kernel_rfl) ?_ | refine Ops.len (Ac.sl (by assumption)) (by kernel_rfl) ?_ | refine Ops.add rfl rfl (by omega) (by omega) ?_ | refine Ops.sub rfl rfl (by omega) (by omega) ?_ | refine Ops.not_t rfl ?_ | refine Ops.not_f rfl ?_ | refine Ops.pick_t rfl (by conv => lhs; whnf) ?_ | refine Ops.pick_f rfl (by conv => lhs; whnf) ?_ | refine Ops.extract rfl rfl ?_ | refine Ops.un rfl rfl ?_ | refine Ops.no rfl rfl rfl ?_ | refine Ops.no_u rfl rfl ?_)
  refine Run.loopW (fun (a : Nat × Value × Value × Hp) => tup.length - a.1) (fun a => up (up (up (up (up jk 5 a.2.1) 6 a.2.2.1) 16 w) 17 (.int .i64 tup.length)) 18 (.int .i64 (a.1 : Int))) (fun a => a.2.2.2)
    (fun a => a.1 ≤ tup.length ∧ Calm H a.2.2.2 ∧ Ac cI 3 H.nxt a.2.2.2 a.2.1 (patSt cs (tup.take a.1)).2 ∧ Ac cI 3 H.nxt a.2.2.2 a.2.2.1 (patSt cs (tup.take a.1)).1 ∧ Ap a.2.1 a.2.2.1) (0, v5, v6, H3) rfl (by repeat (first | exact Wk.jk | refine Wk.up rfl ?_)) ⟨by omega, c3, by simpa [patSt] using a5, by simpa [patSt] using a6, p56⟩ ?_
  clear a5 a6 p56 g3 c1 p1 p2 p65 c2 c3 s2
  rintro ⟨i, v5, v6, H1⟩ ⟨hi, c1, a5, a6, p56⟩
  dsimp only at hi c1 a5 a6 p56
  dsimp only
  have s2 := h2.calm c1
  have len := patSt_len cs (tup.take i)
  rw [List.length_take] at len
  repeat' (first | refine Run.seq ?_ | refine Run.region (by kernel_rfl) ?_ | refine Ops.nil ?_ | refine Ops.move (by conv => lhs; whnf) ?_ | refine Ops.assign (by conv => lhs; whnf) ?_ | refine Run.cond_t rfl rfl ?_ | refine Run.cond_f rfl rfl ?_ | refine Run.skip ?_ | refine Run.exit ?_ | refine Run.block ?_ | refine Ops.len (by assumption) (by kernel_rfl) ?_ | refine Ops.len (Ac.sl (by assumption)) (by kernel_rfl) ?_ | refine Ops.add rfl rfl (by omega) (by omega) ?_ | refine Ops.sub rfl rfl (by omega) (by omega) ?_ | refine Ops.not_t rfl ?_ | refine Ops.not_f rfl ?_ | refine Ops.pick_t rfl (by conv => lhs; whnf) ?_ | refine Ops.pick_f rfl (by conv => lhs; whnf) ?_ | refine Ops.extract rfl rfl ?_ | refine Ops.un rfl rfl ?_ | refine Ops.no rfl rfl rfl ?_ | refine Ops.no_u rfl rfl ?_)
  refine Ops.cmp rfl rfl rfl (fun hc => ?_) (fun hc => ?_)
  · repeat' (first | refine Run.seq ?_ | refine Run.region (by kernel_rfl) ?_ | refine Ops.nil ?_ | refine Ops.move (by conv => lhs; whnf) ?_ | refine Ops.assign (by conv => lhs; whnf) ?_ | refine Run.cond_t rfl rfl ?_ | refine Run.cond_f rfl rfl ?_ | refine Run.skip ?_ | refine Run.exit ?_ | refine Run.block ?_ | refine Ops.len (by assumption) (by kernel_rfl) ?_ | refine Ops.len (Ac.sl (by assumption)) (by kernel_rfl) ?_ | refine Ops.add rfl rfl (by omega) (by omega) ?_ | refine Ops.sub rfl rfl (by omega) (by omega) ?_ | refine Ops.not_t rfl ?_ | refine Ops.not_f rfl ?_ | refine Ops.pick_t rfl (by conv => lhs; whnf) ?_ | refine Ops.pick_f rfl (by conv => lhs; whnf) ?_ | refine Ops.extract rfl rfl ?_ | refine Ops.un rfl rfl ?_ | refine Ops.no rfl rfl rfl ?_ | refine Ops.no_u rfl rfl ?_)
    refine Ops.idxI s2 rfl (by omega) (by omega) (by kernel_rfl) (by kernel_rfl) fun pz a ha => ?_
    have ha' : tup[i]? = some a := by simpa using ha
    repeat' (first | refine Run.seq ?_ | refine Run.region (by kernel_rfl) ?_ | refine Ops.nil ?_ | refine Ops.move (by conv => lhs; whnf) ?_ | refine Ops.assign (by conv => lhs; whnf) ?_ | refine Run.cond_t rfl rfl ?_ | refine Run.cond_f rfl rfl ?_ | refine Run.skip ?_ | refine Run.exit ?_ | refine Run.block ?_ | refine Ops.len (by assumption) (by kernel_rfl) ?_ | refine Ops.len (Ac.sl (by assumption)) (by kernel_rfl) ?_ | refine Ops.add rfl rfl (by omega) (by omega) ?_ | refine Ops.sub rfl rfl (by omega) (by omega) ?_ | refine Ops.not_t rfl ?_ | refine Ops.not_f rfl ?_ | refine Ops.pick_t rfl (by conv => lhs; whnf) ?_ | refine Ops.pick_f rfl (by conv => lhs; whnf) ?_ | refine Ops.extract rfl rfl ?_ | refine Ops.un rfl rfl ?_ | refine Ops.no rfl rfl rfl ?_ | refine Ops.no_u rfl rfl ?_)
    generalize hseen : (patSt cs (tup.take i)).1 = seen at a6 len
    have hml := a6.sl.max
    simp only [maxLen] at hml
    refine Run.loopW (fun (j : Nat) => seen.length - j) (fun j => up (up (up (up (up (up (up (up (up (up jk 5 v5) 6 v6) 16 w) 17 (.int .i64 tup.length)) 18 (.int .i64 (i : Int))) 8 (.int .i64 a)) 9 (.int .i64 (lastIdx a (seen.take j)))) 22 v6) 23 (.int .i64 seen.length)) 24 (.int .i64 (j : Int))) (fun _ => H1)
      (fun j => j ≤ seen.length) 0 rfl (by repeat (first | exact Wk.jk | refine Wk.up rfl ?_)) (by omega) ?_
    intro j hj
    repeat' (first | refine Run.seq ?_ | refine Run.region (by kernel_rfl) ?_ | refine Ops.nil ?_ | refine Ops.move (by conv => lhs; whnf) ?_ | refine Ops.assign (by conv => lhs; whnf) ?_ | refine Run.cond_t rfl rfl ?_ | refine Run.cond_f rfl rfl ?_ | refine Run.skip ?_ | refine Run.exit ?_ | refine Run.block ?_ | refine Ops.len (by assumption) (by kernel_rfl) ?_ | refine Ops.len (Ac.sl (by assumption)) (by kernel_rfl) ?_ | refine Ops.add rfl rfl (by omega) (by omega) ?_ | refine Ops.sub rfl rfl (by omega) (by omega) ?_ | refine Ops.not_t rfl ?_ | refine Ops.not_f rfl ?_ | refine Ops.pick_t rfl (by conv => lhs; whnf) ?_ | refine Ops.pick_f rfl (by conv => lhs; whnf) ?_ | refine Ops.extract rfl rfl ?_ | refine Ops.un rfl rfl ?_ | refine Ops.no rfl rfl rfl ?_ | refine Ops.no_u rfl rfl ?_)
    refine Ops.cmp rfl rfl rfl (fun hc2 => ?_) (fun hc2 => ?_)
    · repeat' (first | refine Run.seq ?_ | refine Run.region (by kernel_rfl) ?_ | refine Ops.nil ?_ | refine Ops.move (by conv => lhs; whnf) ?_ | refine Ops.assign (by conv => lhs; whnf) ?_ | refine Run.cond_t rfl rfl ?_ | refine Run.cond_f rfl rfl ?_ | refine Run.skip ?_ | refine Run.exit ?_ | refine Run.block ?_ | refine Ops.len (by assumption) (by kernel_rfl) ?_ | refine Ops.len (Ac.sl (by assumption)) (by kernel_rfl) ?_ | refine Ops.add rfl rfl (by omega) (by omega) ?_ | refine Ops.sub rfl rfl (by omega) (by omega) ?_ | refine Ops.not_t rfl ?_ | refine Ops.not_f rfl ?_ | refine Ops.pick_t rfl (by conv => lhs; whnf) ?_ | refine Ops.pick_f rfl (by conv => lhs; whnf) ?_ | refine Ops.extract rfl rfl ?_ | refine Ops.un rfl rfl ?_ | refine Ops.no rfl rfl rfl ?_ | refine Ops.no_u rfl rfl ?_)
      refine Ops.idxI a6.sl rfl (by omega) (by omega) (by kernel_rfl) (by kernel_rfl) fun pz b hb => ?_
      have hb' : seen[j]? = some b := by simpa using hb
      have hl1 := lastIdx_snoc a b (seen.take j)
      rw [← take_snoc hb'] at hl1
      repeat' (first | refine Run.seq ?_ | refine Run.region (by kernel_rfl) ?_ | refine Ops.nil ?_ | refine Ops.move (by conv => lhs; whnf) ?_ | refine Ops.assign (by conv => lhs; whnf) ?_ | refine Run.cond_t rfl rfl ?_ | refine Run.cond_f rfl rfl ?_ | refine Run.skip ?_ | refine Run.exit ?_ | refine Run.block ?_ | refine Ops.len (by assumption) (by kernel_rfl) ?_ | refine Ops.len (Ac.sl (by assumption)) (by kernel_rfl) ?_ | refine Ops.add rfl rfl (by omega) (by omega) ?_ | refine Ops.sub rfl rfl (by omega) (by omega) ?_ | refine Ops.not_t rfl ?_ | refine Ops.not_f rfl ?_ | refine Ops.pick_t rfl (by conv => lhs; whnf) ?_ | refine Ops.pick_f rfl (by conv => lhs; whnf) ?_ | refine Ops.extract rfl rfl ?_ | refine Ops.un rfl rfl ?_ | refine Ops.no rfl rfl rfl ?_ | refine Ops.no_u rfl rfl ?_)
      refine Ops.cmp rfl rfl rfl (fun hc3 => ?_) (fun hc3 => ?_)
      · repeat' (first | refine Run.seq ?_ | refine Run.region (by kernel_rfl) ?_ | refine Ops.nil ?_ | refine Ops.move (by conv => lhs; whnf) ?_ | refine Ops.assign (by conv => lhs; whnf) ?_ | refine Run.cond_t rfl rfl ?_ | refine Run.cond_f rfl rfl ?_ | refine Run.skip ?_ | refine Run.exit ?_ | refine Run.block ?_ | refine Ops.len (by assumption) (by kernel_rfl) ?_ | refine Ops.len (Ac.sl (by assumption)) (by kernel_rfl) ?_ | refine Ops.add rfl rfl (by omega) (by omega) ?_ | refine Ops.sub rfl rfl (by omega) (by omega) ?_ | refine Ops.not_t rfl ?_ | refine Ops.not_f rfl ?_ | refine Ops.pick_t rfl (by conv => lhs; whnf) ?_ | refine Ops.pick_f rfl (by conv => lhs; whnf) ?_ | refine Ops.extract rfl rfl ?_ | refine Ops.un rfl rfl ?_ | refine Ops.no rfl rfl rfl ?_ | refine Ops.no_u rfl rfl ?_)
        rw [if_pos hc3, List.length_take, Nat.min_eq_left hj] at hl1
        refine ⟨j + 1, by dsimp only; omega, rfl, rfl, by dsimp only; rw [hl1]; exact (by repeat (first | exact Wk.jk | refine Wk.up rfl ?_)), ?_⟩
        omega
      · repeat' (first | refine Run.seq ?_ | refine Run.region (by kernel_rfl) ?_ | refine Ops.nil ?_ | refine Ops.move (by conv => lhs; whnf) ?_ | refine Ops.assign (by conv => lhs; whnf) ?_ | refine Run.cond_t rfl rfl ?_ | refine Run.cond_f rfl rfl ?_ | refine Run.skip ?_ | refine Run.exit ?_ | refine Run.block ?_ | refine Ops.len (by assumption) (by kernel_rfl) ?_ | refine Ops.len (Ac.sl (by assumption)) (by kernel_rfl) ?_ | refine Ops.add rfl rfl (by omega) (by omega) ?_ | refine Ops.sub rfl rfl (by omega) (by omega) ?_ | refine Ops.not_t rfl ?_ | refine Ops.not_f rfl ?_ | refine Ops.pick_t rfl (by conv => lhs; whnf) ?_ | refine Ops.pick_f rfl (by conv => lhs; whnf) ?_ | refine Ops.extract rfl rfl ?_ | refine Ops.un rfl rfl ?_ | refine Ops.no rfl rfl rfl ?_ | refine Ops.no_u rfl rfl ?_)
        rw [if_neg hc3] at hl1
        refine ⟨j + 1, by dsimp only; omega, rfl, rfl, by dsimp only; rw [hl1]; exact (by repeat (first | exact Wk.jk | refine Wk.up rfl ?_)), ?_⟩
        omega
    · repeat' (first | refine Run.seq ?_ | refine Run.region (by kernel_rfl) ?_ | refine Ops.nil ?_ | refine Ops.move (by conv => lhs; whnf) ?_ | refine Ops.assign (by conv => lhs; whnf) ?_ | refine Run.cond_t rfl rfl ?_ | refine Run.cond_f rfl rfl ?_ | refine Run.skip ?_ | refine Run.exit ?_ | refine Run.block ?_ | refine Ops.len (by assumption) (by kernel_rfl) ?_ | refine Ops.len (Ac.sl (by assumption)) (by kernel_rfl) ?_ | refine Ops.add rfl rfl (by omega) (by omega) ?_ | refine Ops.sub rfl rfl (by omega) (by omega) ?_ | refine Ops.not_t rfl ?_ | refine Ops.not_f rfl ?_ | refine Ops.pick_t rfl (by conv => lhs; whnf) ?_ | refine Ops.pick_f rfl (by conv => lhs; whnf) ?_ | refine Ops.extract rfl rfl ?_ | refine Ops.un rfl rfl ?_ | refine Ops.no rfl rfl rfl ?_ | refine Ops.no_u rfl rfl ?_)
      have : seen.take j = seen := List.take_of_length_le (by omega)
      rw [this]
      have hstep : patSt cs (tup.take (i + 1)) = patStep (patSt cs (tup.take i)) a := by rw [take_snoc ha', patSt_snoc]
      have hs1 : (patSt cs (tup.take i)).1 = seen := hseen
      unfold patStep at hstep
      rw [hs1] at hstep
      refine Ops.cmp rfl rfl rfl (fun hc3 => ?_) (fun hc3 => ?_)
      · repeat' (first | refine Run.seq ?_ | refine Run.region (by kernel_rfl) ?_ | refine Ops.nil ?_ | refine Ops.move (by conv => lhs; whnf) ?_ | refine Ops.assign (by conv => lhs; whnf) ?_ | refine Run.cond_t rfl rfl ?_ | refine Run.cond_f rfl rfl ?_ | refine Run.skip ?_ | refine Run.exit ?_ | refine Run.block ?_ | refine Ops.len (by assumption) (by kernel_rfl) ?_ | refine Ops.len (Ac.sl (by assumption)) (by kernel_rfl) ?_ | refine Ops.add rfl rfl (by omega) (by omega) ?_ | refine Ops.sub rfl rfl (by omega) (by omega) ?_ | refine Ops.not_t rfl ?_ | refine Ops.not_f rfl ?_ | refine Ops.pick_t rfl (by conv => lhs; whnf) ?_ | refine Ops.pick_f rfl (by conv => lhs; whnf) ?_ | refine Ops.extract rfl rfl ?_ | refine Ops.un rfl rfl ?_ | refine Ops.no rfl rfl rfl ?_ | refine Ops.no_u rfl rfl ?_)
        rw [if_pos hc3] at hstep
        refine Ops.push rdI a6 rfl (by simp) c1.1 (by kernel_rfl) (by kernel_rfl) (by kernel_rfl) (by omega) (by decide) fun p v6' H2 a6 g2 => ?_
        obtain ⟨a5, p56⟩ := g2.two rdI a5 p56
        have c2 := g2.calm H (Nat.le_refl _) c1
        repeat' (first | refine Run.seq ?_ | refine Run.region (by kernel_rfl) ?_ | refine Ops.nil ?_ | refine Ops.move (by conv => lhs; whnf) ?_ | refine Ops.assign (by conv => lhs; whnf) ?_ | refine Run.cond_t rfl rfl ?_ | refine Run.cond_f rfl rfl ?_ | refine Run.skip ?_ | refine Run.exit ?_ | refine Run.block ?_ | refine Ops.len (by assumption) (by kernel_rfl) ?_ | refine Ops.len (Ac.sl (by assumption)) (by kernel_rfl) ?_ | refine Ops.add rfl rfl (by omega) (by omega) ?_ | refine Ops.sub rfl rfl (by omega) (by omega) ?_ | refine Ops.not_t rfl ?_ | refine Ops.not_f rfl ?_ | refine Ops.pick_t rfl (by conv => lhs; whnf) ?_ | refine Ops.pick_f rfl (by conv => lhs; whnf) ?_ | refine Ops.extract rfl rfl ?_ | refine Ops.un rfl rfl ?_ | refine Ops.no rfl rfl rfl ?_ | refine Ops.no_u rfl rfl ?_)
        refine Ops.push rdI a5 rfl (by simp) c2.1 (by kernel_rfl) (by kernel_rfl) (by kernel_rfl) (by omega) (by decide) fun p v5' H3 a5 g3 => ?_
        obtain ⟨a6, p65⟩ := g3.two rdI a6 p56.symm
        have c3 := g3.calm H (Nat.le_refl _) c2
        repeat' (first | refine Run.seq ?_ | refine Run.region (by kernel_rfl) ?_ | refine Ops.nil ?_ | refine Ops.move (by conv => lhs; whnf) ?_ | refine Ops.assign (by conv => lhs; whnf) ?_ | refine Run.cond_t rfl rfl ?_ | refine Run.cond_f rfl rfl ?_ | refine Run.skip ?_ | refine Run.exit ?_ | refine Run.block ?_ | refine Ops.len (by assumption) (by kernel_rfl) ?_ | refine Ops.len (Ac.sl (by assumption)) (by kernel_rfl) ?_ | refine Ops.add rfl rfl (by omega) (by omega) ?_ | refine Ops.sub rfl rfl (by omega) (by omega) ?_ | refine Ops.not_t rfl ?_ | refine Ops.not_f rfl ?_ | refine Ops.pick_t rfl (by conv => lhs; whnf) ?_ | refine Ops.pick_f rfl (by conv => lhs; whnf) ?_ | refine Ops.extract rfl rfl ?_ | refine Ops.un rfl rfl ?_ | refine Ops.no rfl rfl rfl ?_ | refine Ops.no_u rfl rfl ?_)
        refine ⟨(i + 1, v5', v6', H3), by dsimp only; omega, rfl, rfl, by dsimp only; exact (by repeat (first | exact Wk.jk | refine Wk.up rfl ?_)), ?_⟩
        refine ⟨by dsimp only; omega, c3, ?_, ?_, p65.symm⟩
        · show Ac _ _ _ _ _ (patSt cs (tup.take (i + 1))).2; rw [hstep]; exact a5
        · show Ac _ _ _ _ _ (patSt cs (tup.take (i + 1))).1; rw [hstep]; exact a6
      · repeat' (first | refine Run.seq ?_ | refine Run.region (by kernel_rfl) ?_ | refine Ops.nil ?_ | refine Ops.move (by conv => lhs; whnf) ?_ | refine Ops.assign (by conv => lhs; whnf) ?_ | refine Run.cond_t rfl rfl ?_ | refine Run.cond_f rfl rfl ?_ | refine Run.skip ?_ | refine Run.exit ?_ | refine Run.block ?_ | refine Ops.len (by assumption) (by kernel_rfl) ?_ | refine Ops.len (Ac.sl (by assumption)) (by kernel_rfl) ?_ | refine Ops.add rfl rfl (by omega) (by omega) ?_ | refine Ops.sub rfl rfl (by omega) (by omega) ?_ | refine Ops.not_t rfl ?_ | refine Ops.not_f rfl ?_ | refine Ops.pick_t rfl (by conv => lhs; whnf) ?_ | refine Ops.pick_f rfl (by conv => lhs; whnf) ?_ | refine Ops.extract rfl rfl ?_ | refine Ops.un rfl rfl ?_ | refine Ops.no rfl rfl rfl ?_ | refine Ops.no_u rfl rfl ?_)
        rw [if_neg hc3] at hstep
        refine Ops.push rdI a5 rfl (by simp) c1.1 (by kernel_rfl) (by kernel_rfl) (by kernel_rfl) (by omega) (by decide) fun p v5' H3 a5 g3 => ?_
        obtain ⟨a6, p65⟩ := g3.two rdI a6 p56.symm
        have c3 := g3.calm H (Nat.le_refl _) c1
        repeat' (first | refine Run.seq ?_ | refine Run.region (by kernel_rfl) ?_ | refine Ops.nil ?_ | refine Ops.move (by conv => lhs; whnf) ?_ | refine Ops.assign (by conv => lhs; whnf) ?_ | refine Run.cond_t rfl rfl ?_ | refine Run.cond_f rfl rfl ?_ | refine Run.skip ?_ | refine Run.exit ?_ | refine Run.block ?_ | refine Ops.len (by assumption) (by kernel_rfl) ?_ | refine Ops.len (Ac.sl (by assumption)) (by kernel_rfl) ?_ | refine Ops.add rfl rfl (by omega) (by omega) ?_ | refine Ops.sub rfl rfl (by omega) (by omega) ?_ | refine Ops.not_t rfl ?_ | refine Ops.not_f rfl ?_ | refine Ops.pick_t rfl (by conv => lhs; whnf) ?_ | refine Ops.pick_f rfl (by conv => lhs; whnf) ?_ | refine Ops.extract rfl rfl ?_ | refine Ops.un rfl rfl ?_ | refine Ops.no rfl rfl rfl ?_ | refine Ops.no_u rfl rfl ?_)
        refine ⟨(i + 1, v5', v6, H3), by dsimp only; omega, rfl, rfl, by dsimp only; exact (by repeat (first | exact Wk.jk | refine Wk.up rfl ?_)), ?_⟩
        refine ⟨by dsimp only; omega, c3, ?_, ?_, p65.symm⟩
        · show Ac _ _ _ _ _ (patSt cs (tup.take (i + 1))).2; rw [hstep]; exact a5
        · show Ac _ _ _ _ _ (patSt cs (tup.take (i + 1))).1; rw [hstep, ← hs1]; rw [hs1]; exact a6
  · repeat' (first | refine Run.seq ?_ | refine Run.region (by kernel_rfl) ?_ | refine Ops.nil ?_ | refine Ops.move (by conv => lhs; whnf) ?_ | refine Ops.assign (by conv => lhs; whnf) ?_ | refine Run.cond_t rfl rfl ?_ | refine Run.cond_f rfl rfl ?_ | refine Run.skip ?_ | refine Run.exit ?_ | refine Run.block ?_ | refine Ops.len (by assumption) (by kernel_rfl) ?_ | refine Ops.len (Ac.sl (by assumption)) (by kernel_rfl) ?_ | refine Ops.add rfl rfl (by omega) (by omega) ?_ | refine Ops.sub rfl rfl (by omega) (by omega) ?_ | refine Ops.not_t rfl ?_ | refine Ops.not_f rfl ?_ | refine Ops.pick_t rfl (by conv => lhs; whnf) ?_ | refine Ops.pick_f rfl (by conv => lhs; whnf) ?_ | refine Ops.extract rfl rfl ?_ | refine Ops.un rfl rfl ?_ | refine Ops.no rfl rfl rfl ?_ | refine Ops.no_u rfl rfl ?_)
    refine Run.ret ⟨.inl rfl, ResK.tmp rfl (by conv => lhs; whnf) (ResK.nil ?_)⟩
    have : tup.take i = tup := List.take_of_length_le (by omega)
    rw [this] at a5
    exact ⟨c1, a5⟩


theorem findI_snoc {α : Type} {p : α → Bool} (b : α) : ∀ (l : List α), findI p (l ++ [b]) = if 0 ≤ findI p l then findI p l else if p b = true then (l.length : Int) else -1
  | [] => by by_cases h : p b = true <;> simp [findI, h]
  | x :: t => by
    have ih := findI_snoc (p := p) b t
    have hge := findI_ge (p := p) (l := t)
    simp only [List.cons_append, findI, ih, List.length_cons]
    by_cases h : p x = true
    · simp [h]
    · rw [if_neg h, if_neg h]
      by_cases h2 : 0 ≤ findI p t
      · rw [if_pos h2, if_neg (by omega), if_pos (by omega)]
      · rw [if_neg h2, if_pos (show findI p t < 0 by omega), if_neg (show ¬ (0 : Int) ≤ -1 by omega)]
        by_cases h3 : p b = true
        · rw [if_pos h3, if_neg (by omega), if_pos h3]; omega
        · rw [if_neg h3, if_pos (by omega), if_neg h3]

theorem findI_append {α : Type} {p : α → Bool} (m : List α) : ∀ (l : List α), findI p (l ++ m) = if 0 ≤ findI p l then findI p l else if findI p m < 0 then -1 else (l.length : Int) + findI p m
  | [] => by
    have := findI_ge (p := p) (l := m)
    simp only [List.nil_append, findI, List.length_nil]
    rw [if_neg (by omega)]
    split <;> omega
  | x :: t => by
    have ih := findI_append (p := p) m t
    have hge := findI_ge (p := p) (l := t)
    simp only [List.cons_append, findI, ih, List.length_cons]
    by_cases h : p x = true
    · simp [h]
    · rw [if_neg h, if_neg h]
      by_cases h2 : 0 ≤ findI p t
      · rw [if_pos h2, if_neg (by omega), if_pos (by omega)]
      · rw [if_neg h2, if_pos (show findI p t < 0 by omega), if_neg (show ¬ (0 : Int) ≤ -1 by omega)]
        by_cases h3 : findI p m < 0
        · rw [if_pos h3, if_pos (by omega), if_pos h3]
        · rw [if_neg h3, if_neg (by omega), if_neg h3]; omega

theorem lastIdx_findI {a : Int} {l : List Int} (h : l.Nodup) : lastIdx a l = findI (fun y => a == y) l := by
  have key : ∀ i, i ≤ l.length → lastIdx a (l.take i) = findI (fun y => a == y) (l.take i) := by
    intro i
    induction i with
    | zero => intro _; simp [lastIdx, findI]
    | succ i ih =>
      intro hi
      have hb : l[i]? = some l[i] := List.getElem?_eq_getElem (by omega)
      rw [take_snoc hb, lastIdx_snoc, findI_snoc, ih (by omega)]
      have hge := findI_ge (p := fun y => a == y) (l := l.take i)
      by_cases e : l[i] = a
      · rw [if_pos e, if_neg, if_pos (by simp [e])]
        intro h2
        obtain ⟨b, hb1, hb2⟩ := findI_nonneg.1 h2
        have hba : b = a := by simpa using (beq_iff_eq.1 hb2).symm
        subst hba
        obtain ⟨j, hj, hj2⟩ := List.getElem_of_mem hb1
        rw [List.length_take] at hj
        rw [List.getElem_take] at hj2
        have := List.pairwise_iff_getElem.1 h j i (by omega) (by omega) (by omega)
        exact this (by rw [hj2, e])
      · rw [if_neg e]
        split
        · rfl
        · rw [if_neg (by simpa using fun h => e h.symm)]; omega
  have := key l.length (Nat.le_refl _)
  rwa [List.take_length] at this

theorem const_nodup {l : List Int} (h : isConst l) : l.Nodup := by
  have mono : ∀ (d i : Nat) (hi : i + d + 1 < l.length), l[i]'(by omega) < l[i + d + 1] := by
    intro d
    induction d with
    | zero => intro i hi; exact (h.2 (i + 1) _ (List.getElem?_eq_getElem hi)).2 _ (by omega) (List.getElem?_eq_getElem (by omega))
    | succ d ih =>
      intro i hi
      have h1 := ih i (by omega)
      have h2 := (h.2 (i + d + 1 + 1) _ (List.getElem?_eq_getElem (by omega))).2 (l[i + d + 1]'(by omega)) (by omega) (List.getElem?_eq_getElem (by omega))
      exact Int.lt_trans h1 h2
  refine List.pairwise_iff_getElem.2 fun i j hi hj hij he => ?_
  have := mono (j - i - 1) i (by omega)
  have e : i + (j - i - 1) + 1 = j := by omega
  simp only [e] at this; omega

end Go.Proofs.Ytefmjpbmdoebaaa
