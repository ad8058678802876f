/- The least atom that is not in a list, by the program and by the reference; a pattern's example. -/
import Derived.Test.YtefmjpbmdoebaaaGi
import Derived.Test.YtefmjpbmdoebaaaAm21
set_option linter.unusedVariables false
namespace Go.Proofs.Ytefmjpbmdoebaaa
open Go Go.RowKit

def leastN (l : List Int) : Nat → Nat → Int
  | 0, _ => -1
  | f + 1, a => if (a : Int) ∈ l then leastN l f (a + 1) else a
/-- The least atom that is not in a list, or -1. -/
def least (l : List Int) : Int := leastN l 1000 0

theorem leastN_yes {l : List Int} {f a : Nat} (h : (a : Int) ∈ l) : leastN l (f + 1) a = leastN l f (a + 1) := if_pos h
theorem leastN_no {l : List Int} {f a : Nat} (h : (a : Int) ∉ l) : leastN l (f + 1) a = a := if_neg h
theorem leastN_range {l : List Int} : ∀ {f a : Nat}, leastN l f a = -1 ∨ (0 ≤ leastN l f a ∧ leastN l f a < a + f)
  | 0, a => .inl rfl
  | f + 1, a => by
    by_cases h : (a : Int) ∈ l
    · rw [leastN_yes h]
      rcases leastN_range (l := l) (f := f) (a := a + 1) with h1 | h1
      · exact .inl h1
      · exact .inr ⟨h1.1, by omega⟩
    · rw [leastN_no h]; exact .inr ⟨by omega, by omega⟩
theorem least_range {l : List Int} : least l = -1 ∨ (0 ≤ least l ∧ least l ≤ 999) := by
  rcases leastN_range (l := l) (f := 1000) (a := 0) with h | h
  · exact .inl h
  · unfold least; exact .inr ⟨h.1, by omega⟩

theorem l1Has_ok {H : Hp} {v : Value} {l : List Int} {x : Int} (h : Sl cI H v l) : acall Try.prog 106 [v, .int .i64 x] H (.bool (decide (x ∈ l))) H := by
  have hmx := h.max
  simp only [maxLen] at hmx
  refine CallK.eq (CallK.enter Try.func106 rfl rfl Try.ntmps106 Try.results106 rfl ?_)
  repeat' (first | refine Run.seq ?_ | refine Run.region (by kernel_rfl) ?_ | refine Ops.nil ?_ | refine Ops.move (by conv => lhs; whnf) ?_ | refine Ops.assign (by conv => lhs; whnf) ?_ | refine Run.cond_t rfl rfl ?_ | refine Run.cond_f rfl rfl ?_ | refine Run.skip ?_ | refine Run.exit ?_ | refine Run.block ?_ | refine Ops.len (by assumption) (by kernel_rfl) ?_ | refine Ops.len (Ac.sl (by assumption)) (by kernel_rfl) ?_ | refine Ops.add rfl rfl (by omega) (by omega) ?_ | refine Ops.sub rfl rfl (by omega) (by omega) ?_ | refine Ops.not_t rfl ?_ | refine Ops.not_f rfl ?_ | refine Ops.pick_t rfl (by conv => lhs; whnf) ?_ | refine Ops.pick_f rfl (by conv => lhs; whnf) ?_ | refine Ops.extract rfl rfl ?_ | refine Ops.un rfl rfl ?_ | refine Ops.no rfl rfl rfl ?_ | refine Ops.no_u rfl rfl ?_)
  refine Run.loopW (fun i => l.length - i) (fun (i : Nat) => up (up (up jk 0 v) 1 (.int .i64 x)) 5 (.int .i64 (i : Int))) (fun _ => H) (fun i => i ≤ l.length ∧ x ∉ l.take i) 0 rfl (by repeat (first | exact Wk.jk | refine Wk.up rfl ?_)) ⟨by omega, by simp⟩ ?_
  rintro i ⟨hi, hx⟩
  repeat' (first | refine Run.seq ?_ | refine Run.region (by kernel_rfl) ?_ | refine Ops.nil ?_ | refine Ops.move (by conv => lhs; whnf) ?_ | refine Ops.assign (by conv => lhs; whnf) ?_ | refine Run.cond_t rfl rfl ?_ | refine Run.cond_f rfl rfl ?_ | refine Run.skip ?_ | refine Run.exit ?_ | refine Run.block ?_ | refine Ops.len (by assumption) (by kernel_rfl) ?_ | refine Ops.len (Ac.sl (by assumption)) (by kernel_rfl) ?_ | refine Ops.add rfl rfl (by omega) (by omega) ?_ | refine Ops.sub rfl rfl (by omega) (by omega) ?_ | refine Ops.not_t rfl ?_ | refine Ops.not_f rfl ?_ | refine Ops.pick_t rfl (by conv => lhs; whnf) ?_ | refine Ops.pick_f rfl (by conv => lhs; whnf) ?_ | refine Ops.extract rfl rfl ?_ | refine Ops.un rfl rfl ?_ | refine Ops.no rfl rfl rfl ?_ | refine Ops.no_u rfl rfl ?_)
  refine Ops.cmp rfl rfl rfl (fun hc => ?_) (fun hc => ?_)
  · repeat' (first | refine Run.seq ?_ | refine Run.region (by kernel_rfl) ?_ | refine Ops.nil ?_ | refine Ops.move (by conv => lhs; whnf) ?_ | refine Ops.assign (by conv => lhs; whnf) ?_ | refine Run.cond_t rfl rfl ?_ | refine Run.cond_f rfl rfl ?_ | refine Run.skip ?_ | refine Run.exit ?_ | refine Run.block ?_ | refine Ops.len (by assumption) (by kernel_rfl) ?_ | refine Ops.len (Ac.sl (by assumption)) (by kernel_rfl) ?_ | refine Ops.add rfl rfl (by omega) (by omega) ?_ | refine Ops.sub rfl rfl (by omega) (by omega) ?_ | refine Ops.not_t rfl ?_ | refine Ops.not_f rfl ?_ | refine Ops.pick_t rfl (by conv => lhs; whnf) ?_ | refine Ops.pick_f rfl (by conv => lhs; whnf) ?_ | refine Ops.extract rfl rfl ?_ | refine Ops.un rfl rfl ?_ | refine Ops.no rfl rfl rfl ?_ | refine Ops.no_u rfl rfl ?_)
    refine Ops.idxI h rfl (by omega) (by omega) (by kernel_rfl) (by kernel_rfl) fun pz a ha => ?_
    have ha' : l[i]? = some a := ha
    repeat' (first | refine Run.seq ?_ | refine Run.region (by kernel_rfl) ?_ | refine Ops.nil ?_ | refine Ops.move (by conv => lhs; whnf) ?_ | refine Ops.assign (by conv => lhs; whnf) ?_ | refine Run.cond_t rfl rfl ?_ | refine Run.cond_f rfl rfl ?_ | refine Run.skip ?_ | refine Run.exit ?_ | refine Run.block ?_ | refine Ops.len (by assumption) (by kernel_rfl) ?_ | refine Ops.len (Ac.sl (by assumption)) (by kernel_rfl) ?_ | refine Ops.add rfl rfl (by omega) (by omega) ?_ | refine Ops.sub rfl rfl (by omega) (by omega) ?_ | refine Ops.not_t rfl ?_ | refine Ops.not_f rfl ?_ | refine Ops.pick_t rfl (by conv => lhs; whnf) ?_ | refine Ops.pick_f rfl (by conv => lhs; whnf) ?_ | refine Ops.extract rfl rfl ?_ | refine Ops.un rfl rfl ?_ | refine Ops.no rfl rfl rfl ?_ | refine Ops.no_u rfl rfl ?_)
    refine Ops.cmp rfl rfl rfl (fun hc2 => ?_) (fun hc2 => ?_)
    · repeat' (first | refine Run.seq ?_ | refine Run.region (by kernel_rfl) ?_ | refine Ops.nil ?_ | refine Ops.move (by conv => lhs; whnf) ?_ | refine Ops.assign (by conv => lhs; whnf) ?_ | refine Run.cond_t rfl rfl ?_ | refine Run.cond_f rfl rfl ?_ | refine Run.skip ?_ | refine Run.exit ?_ | refine Run.block ?_ | refine Ops.len (by assumption) (by kernel_rfl) ?_ | refine Ops.len (Ac.sl (by assumption)) (by kernel_rfl) ?_ | refine Ops.add rfl rfl (by omega) (by omega) ?_ | refine Ops.sub rfl rfl (by omega) (by omega) ?_ | refine Ops.not_t rfl ?_ | refine Ops.not_f rfl ?_ | refine Ops.pick_t rfl (by conv => lhs; whnf) ?_ | refine Ops.pick_f rfl (by conv => lhs; whnf) ?_ | refine Ops.extract rfl rfl ?_ | refine Ops.un rfl rfl ?_ | refine Ops.no rfl rfl rfl ?_ | refine Ops.no_u rfl rfl ?_)
      refine Run.ret ⟨.inl rfl, ResK.tmp rfl (by conv => lhs; whnf) (ResK.nil ?_)⟩
      subst hc2
      exact ⟨by simp [resVal, List.mem_of_getElem? ha'], rfl⟩
    · repeat' (first | refine Run.seq ?_ | refine Run.region (by kernel_rfl) ?_ | refine Ops.nil ?_ | refine Ops.move (by conv => lhs; whnf) ?_ | refine Ops.assign (by conv => lhs; whnf) ?_ | refine Run.cond_t rfl rfl ?_ | refine Run.cond_f rfl rfl ?_ | refine Run.skip ?_ | refine Run.exit ?_ | refine Run.block ?_ | refine Ops.len (by assumption) (by kernel_rfl) ?_ | refine Ops.len (Ac.sl (by assumption)) (by kernel_rfl) ?_ | refine Ops.add rfl rfl (by omega) (by omega) ?_ | refine Ops.sub rfl rfl (by omega) (by omega) ?_ | refine Ops.not_t rfl ?_ | refine Ops.not_f rfl ?_ | refine Ops.pick_t rfl (by conv => lhs; whnf) ?_ | refine Ops.pick_f rfl (by conv => lhs; whnf) ?_ | refine Ops.extract rfl rfl ?_ | refine Ops.un rfl rfl ?_ | refine Ops.no rfl rfl rfl ?_ | refine Ops.no_u rfl rfl ?_)
      refine ⟨i + 1, by dsimp only; omega, rfl, rfl, by dsimp only; exact (by repeat (first | exact Wk.jk | refine Wk.up rfl ?_)), ?_⟩
      refine ⟨by omega, fun hm => ?_⟩
      rw [take_snoc ha'] at hm
      rcases List.mem_append.1 hm with h5 | h5
      · exact hx h5
      · exact hc2 (List.mem_singleton.1 h5).symm
  · repeat' (first | refine Run.seq ?_ | refine Run.region (by kernel_rfl) ?_ | refine Ops.nil ?_ | refine Ops.move (by conv => lhs; whnf) ?_ | refine Ops.assign (by conv => lhs; whnf) ?_ | refine Run.cond_t rfl rfl ?_ | refine Run.cond_f rfl rfl ?_ | refine Run.skip ?_ | refine Run.exit ?_ | refine Run.block ?_ | refine Ops.len (by assumption) (by kernel_rfl) ?_ | refine Ops.len (Ac.sl (by assumption)) (by kernel_rfl) ?_ | refine Ops.add rfl rfl (by omega) (by omega) ?_ | refine Ops.sub rfl rfl (by omega) (by omega) ?_ | refine Ops.not_t rfl ?_ | refine Ops.not_f rfl ?_ | refine Ops.pick_t rfl (by conv => lhs; whnf) ?_ | refine Ops.pick_f rfl (by conv => lhs; whnf) ?_ | refine Ops.extract rfl rfl ?_ | refine Ops.un rfl rfl ?_ | refine Ops.no rfl rfl rfl ?_ | refine Ops.no_u rfl rfl ?_)
    rw [take_end (by omega)] at hx
    refine Run.ret ⟨.inl rfl, ResK.tmp rfl (by conv => lhs; whnf) (ResK.nil ?_)⟩
    exact ⟨by simp [resVal, hx], rfl⟩

theorem specLeastFresh_ok {H : Hp} {v : Value} {l : List Int} (h : Sl cI H v l) : acall Try.prog 99 [v] H (.int .i64 (least l)) H := by
  refine CallK.eq (CallK.enter Try.func99 rfl rfl Try.ntmps99 Try.results99 rfl ?_)
  repeat' (first | refine Run.seq ?_ | refine Run.region (by kernel_rfl) ?_ | refine Ops.nil ?_ | refine Ops.move (by conv => lhs; whnf) ?_ | refine Ops.assign (by conv => lhs; whnf) ?_ | refine Run.cond_t rfl rfl ?_ | refine Run.cond_f rfl rfl ?_ | refine Run.skip ?_ | refine Run.exit ?_ | refine Run.block ?_ | refine Ops.len (by assumption) (by kernel_rfl) ?_ | refine Ops.len (Ac.sl (by assumption)) (by kernel_rfl) ?_ | refine Ops.add rfl rfl (by omega) (by omega) ?_ | refine Ops.sub rfl rfl (by omega) (by omega) ?_ | refine Ops.not_t rfl ?_ | refine Ops.not_f rfl ?_ | refine Ops.pick_t rfl (by conv => lhs; whnf) ?_ | refine Ops.pick_f rfl (by conv => lhs; whnf) ?_ | refine Ops.extract rfl rfl ?_ | refine Ops.un rfl rfl ?_ | refine Ops.no rfl rfl rfl ?_ | refine Ops.no_u rfl rfl ?_)
  refine Run.loopW (fun i => 1000 - i) (fun (i : Nat) => up (up jk 0 v) 3 (.int .i64 (i : Int))) (fun _ => H) (fun i => i ≤ 1000 ∧ least l = leastN l (1000 - i) i) 0 rfl (by repeat (first | exact Wk.jk | refine Wk.up rfl ?_)) ⟨by omega, rfl⟩ ?_
  rintro i ⟨hi, hx⟩
  repeat' (first | refine Run.seq ?_ | refine Run.region (by kernel_rfl) ?_ | refine Ops.nil ?_ | refine Ops.move (by conv => lhs; whnf) ?_ | refine Ops.assign (by conv => lhs; whnf) ?_ | refine Run.cond_t rfl rfl ?_ | refine Run.cond_f rfl rfl ?_ | refine Run.skip ?_ | refine Run.exit ?_ | refine Run.block ?_ | refine Ops.len (by assumption) (by kernel_rfl) ?_ | refine Ops.len (Ac.sl (by assumption)) (by kernel_rfl) ?_ | refine Ops.add rfl rfl (by omega) (by omega) ?_ | refine Ops.sub rfl rfl (by omega) (by omega) ?_ | refine Ops.not_t rfl ?_ | refine Ops.not_f rfl ?_ | refine Ops.pick_t rfl (by conv => lhs; whnf) ?_ | refine Ops.pick_f rfl (by conv => lhs; whnf) ?_ | refine Ops.extract rfl rfl ?_ | refine Ops.un rfl rfl ?_ | refine Ops.no rfl rfl rfl ?_ | refine Ops.no_u rfl rfl ?_)
  refine Ops.cmp rfl rfl rfl (fun hc => ?_) (fun hc => ?_)
  · repeat' (first | refine Run.seq ?_ | refine Run.region (by kernel_rfl) ?_ | refine Ops.nil ?_ | refine Ops.move (by conv => lhs; whnf) ?_ | refine Ops.assign (by conv => lhs; whnf) ?_ | refine Run.cond_t rfl rfl ?_ | refine Run.cond_f rfl rfl ?_ | refine Run.skip ?_ | refine Run.exit ?_ | refine Run.block ?_ | refine Ops.len (by assumption) (by kernel_rfl) ?_ | refine Ops.len (Ac.sl (by assumption)) (by kernel_rfl) ?_ | refine Ops.add rfl rfl (by omega) (by omega) ?_ | refine Ops.sub rfl rfl (by omega) (by omega) ?_ | refine Ops.not_t rfl ?_ | refine Ops.not_f rfl ?_ | refine Ops.pick_t rfl (by conv => lhs; whnf) ?_ | refine Ops.pick_f rfl (by conv => lhs; whnf) ?_ | refine Ops.extract rfl rfl ?_ | refine Ops.un rfl rfl ?_ | refine Ops.no rfl rfl rfl ?_ | refine Ops.no_u rfl rfl ?_)
    obtain ⟨f, hf⟩ : ∃ f, 1000 - i = f + 1 := ⟨999 - i, by omega⟩
    rw [hf] at hx
    refine Ops.callB (l1Has_ok h) (fun hc2 => ?_) (fun hc2 => ?_)
    · rw [leastN_yes (by simpa using hc2)] at hx
      repeat' (first | refine Run.seq ?_ | refine Run.region (by kernel_rfl) ?_ | refine Ops.nil ?_ | refine Ops.move (by conv => lhs; whnf) ?_ | refine Ops.assign (by conv => lhs; whnf) ?_ | refine Run.cond_t rfl rfl ?_ | refine Run.cond_f rfl rfl ?_ | refine Run.skip ?_ | refine Run.exit ?_ | refine Run.block ?_ | refine Ops.len (by assumption) (by kernel_rfl) ?_ | refine Ops.len (Ac.sl (by assumption)) (by kernel_rfl) ?_ | refine Ops.add rfl rfl (by omega) (by omega) ?_ | refine Ops.sub rfl rfl (by omega) (by omega) ?_ | refine Ops.not_t rfl ?_ | refine Ops.not_f rfl ?_ | refine Ops.pick_t rfl (by conv => lhs; whnf) ?_ | refine Ops.pick_f rfl (by conv => lhs; whnf) ?_ | refine Ops.extract rfl rfl ?_ | refine Ops.un rfl rfl ?_ | refine Ops.no rfl rfl rfl ?_ | refine Ops.no_u rfl rfl ?_)
      refine ⟨i + 1, by dsimp only; omega, rfl, rfl, by dsimp only; exact (by repeat (first | exact Wk.jk | refine Wk.up rfl ?_)), ?_⟩
      exact ⟨by omega, by rw [hx]; congr 1; omega⟩
    · rw [leastN_no (by simpa using hc2)] at hx
      repeat' (first | refine Run.seq ?_ | refine Run.region (by kernel_rfl) ?_ | refine Ops.nil ?_ | refine Ops.move (by conv => lhs; whnf) ?_ | refine Ops.assign (by conv => lhs; whnf) ?_ | refine Run.cond_t rfl rfl ?_ | refine Run.cond_f rfl rfl ?_ | refine Run.skip ?_ | refine Run.exit ?_ | refine Run.block ?_ | refine Ops.len (by assumption) (by kernel_rfl) ?_ | refine Ops.len (Ac.sl (by assumption)) (by kernel_rfl) ?_ | refine Ops.add rfl rfl (by omega) (by omega) ?_ | refine Ops.sub rfl rfl (by omega) (by omega) ?_ | refine Ops.not_t rfl ?_ | refine Ops.not_f rfl ?_ | refine Ops.pick_t rfl (by conv => lhs; whnf) ?_ | refine Ops.pick_f rfl (by conv => lhs; whnf) ?_ | refine Ops.extract rfl rfl ?_ | refine Ops.un rfl rfl ?_ | refine Ops.no rfl rfl rfl ?_ | refine Ops.no_u rfl rfl ?_)
      refine Run.ret ⟨.inl rfl, ResK.tmp rfl (by conv => lhs; whnf) (ResK.nil ?_)⟩
      exact ⟨by rw [hx]; rfl, rfl⟩
  · repeat' (first | refine Run.seq ?_ | refine Run.region (by kernel_rfl) ?_ | refine Ops.nil ?_ | refine Ops.move (by conv => lhs; whnf) ?_ | refine Ops.assign (by conv => lhs; whnf) ?_ | refine Run.cond_t rfl rfl ?_ | refine Run.cond_f rfl rfl ?_ | refine Run.skip ?_ | refine Run.exit ?_ | refine Run.block ?_ | refine Ops.len (by assumption) (by kernel_rfl) ?_ | refine Ops.len (Ac.sl (by assumption)) (by kernel_rfl) ?_ | refine Ops.add rfl rfl (by omega) (by omega) ?_ | refine Ops.sub rfl rfl (by omega) (by omega) ?_ | refine Ops.not_t rfl ?_ | refine Ops.not_f rfl ?_ | refine Ops.pick_t rfl (by conv => lhs; whnf) ?_ | refine Ops.pick_f rfl (by conv => lhs; whnf) ?_ | refine Ops.extract rfl rfl ?_ | refine Ops.un rfl rfl ?_ | refine Ops.no rfl rfl rfl ?_ | refine Ops.no_u rfl rfl ?_)
    have : 1000 - i = 0 := by omega
    rw [this] at hx
    refine Run.ret ⟨.inl rfl, ResK.tmp rfl (by conv => lhs; whnf) (ResK.nil ?_)⟩
    exact ⟨by rw [hx]; rfl, rfl⟩

theorem LeastFresh_ok {H : Hp} {v : Value} {l : List Int} (h : Sl cI H v l) : CallK Try.prog 17 [v] H (fun r H' => Calm H H' ∧ r = .int .i64 (least l)) := by
  have hmx := h.max
  simp only [maxLen] at hmx
  refine (CallK.enter Try.func17 rfl rfl Try.ntmps17 Try.results17 rfl ?_)
  repeat' (first | refine Run.seq ?_ | refine Run.region (by kernel_rfl) ?_ | refine Ops.nil ?_ | refine Ops.move (by conv => lhs; whnf) ?_ | refine Ops.assign (by conv => lhs; whnf) ?_ | refine Run.cond_t rfl rfl ?_ | refine Run.cond_f rfl rfl ?_ | refine Run.skip ?_ | refine Run.exit ?_ | refine Run.block ?_ | refine Ops.len (by assumption) (by kernel_rfl) ?_ | refine Ops.len (Ac.sl (by assumption)) (by kernel_rfl) ?_ | refine Ops.add rfl rfl (by omega) (by omega) ?_ | refine Ops.sub rfl rfl (by omega) (by omega) ?_ | refine Ops.not_t rfl ?_ | refine Ops.not_f rfl ?_ | refine Ops.pick_t rfl (by conv => lhs; whnf) ?_ | refine Ops.pick_f rfl (by conv => lhs; whnf) ?_ | refine Ops.extract rfl rfl ?_ | refine Ops.un rfl rfl ?_ | refine Ops.no rfl rfl rfl ?_ | refine Ops.no_u rfl rfl ?_)
  refine Ops.makeMap fun u H1 m1 c1 => ?_
  have s1 := h.calm c1
  repeat' (first | refine Run.seq ?_ | refine Run.region (by kernel_rfl) ?_ | refine Ops.nil ?_ | refine Ops.move (by conv => lhs; whnf) ?_ | refine Ops.assign (by conv => lhs; whnf) ?_ | refine Run.cond_t rfl rfl ?_ | refine Run.cond_f rfl rfl ?_ | refine Run.skip ?_ | refine Run.exit ?_ | refine Run.block ?_ | refine Ops.len (by assumption) (by kernel_rfl) ?_ | refine Ops.len (Ac.sl (by assumption)) (by kernel_rfl) ?_ | refine Ops.add rfl rfl (by omega) (by omega) ?_ | refine Ops.sub rfl rfl (by omega) (by omega) ?_ | refine Ops.not_t rfl ?_ | refine Ops.not_f rfl ?_ | refine Ops.pick_t rfl (by conv => lhs; whnf) ?_ | refine Ops.pick_f rfl (by conv => lhs; whnf) ?_ | refine Ops.extract rfl rfl ?_ | refine Ops.un rfl rfl ?_ | refine Ops.no rfl rfl rfl ?_ | refine Ops.no_u rfl rfl ?_)
  refine Run.loopW (fun (a : Nat × Hp × List Int) => l.length - a.1) (fun a => up (up (up (up jk 3 u) 8 v) 9 (.int .i64 l.length)) 10 (.int .i64 (a.1 : Int))) (fun a => a.2.1)
    (fun a => a.1 ≤ l.length ∧ Calm H a.2.1 ∧ Mp H.nxt a.2.1 u a.2.2 ∧ ∀ x, x ∈ a.2.2 ↔ x ∈ l.take a.1) (0, H1, []) rfl (by repeat (first | exact Wk.jk | refine Wk.up rfl ?_)) ⟨by dsimp only; omega, c1, m1, by simp⟩ ?_
  rintro ⟨i, H2, ks⟩ ⟨hi, c2, m2, hk⟩
  dsimp only at hi c2 m2 hk
  dsimp only
  have s2 := h.calm c2
  repeat' (first | refine Run.seq ?_ | refine Run.region (by kernel_rfl) ?_ | refine Ops.nil ?_ | refine Ops.move (by conv => lhs; whnf) ?_ | refine Ops.assign (by conv => lhs; whnf) ?_ | refine Run.cond_t rfl rfl ?_ | refine Run.cond_f rfl rfl ?_ | refine Run.skip ?_ | refine Run.exit ?_ | refine Run.block ?_ | refine Ops.len (by assumption) (by kernel_rfl) ?_ | refine Ops.len (Ac.sl (by assumption)) (by kernel_rfl) ?_ | refine Ops.add rfl rfl (by omega) (by omega) ?_ | refine Ops.sub rfl rfl (by omega) (by omega) ?_ | refine Ops.not_t rfl ?_ | refine Ops.not_f rfl ?_ | refine Ops.pick_t rfl (by conv => lhs; whnf) ?_ | refine Ops.pick_f rfl (by conv => lhs; whnf) ?_ | refine Ops.extract rfl rfl ?_ | refine Ops.un rfl rfl ?_ | refine Ops.no rfl rfl rfl ?_ | refine Ops.no_u rfl rfl ?_)
  refine Ops.cmp rfl rfl rfl (fun hc => ?_) (fun hc => ?_)
  · repeat' (first | refine Run.seq ?_ | refine Run.region (by kernel_rfl) ?_ | refine Ops.nil ?_ | refine Ops.move (by conv => lhs; whnf) ?_ | refine Ops.assign (by conv => lhs; whnf) ?_ | refine Run.cond_t rfl rfl ?_ | refine Run.cond_f rfl rfl ?_ | refine Run.skip ?_ | refine Run.exit ?_ | refine Run.block ?_ | refine Ops.len (by assumption) (by kernel_rfl) ?_ | refine Ops.len (Ac.sl (by assumption)) (by kernel_rfl) ?_ | refine Ops.add rfl rfl (by omega) (by omega) ?_ | refine Ops.sub rfl rfl (by omega) (by omega) ?_ | refine Ops.not_t rfl ?_ | refine Ops.not_f rfl ?_ | refine Ops.pick_t rfl (by conv => lhs; whnf) ?_ | refine Ops.pick_f rfl (by conv => lhs; whnf) ?_ | refine Ops.extract rfl rfl ?_ | refine Ops.un rfl rfl ?_ | refine Ops.no rfl rfl rfl ?_ | refine Ops.no_u rfl rfl ?_)
    refine Ops.idxI s2 rfl (by omega) (by omega) (by kernel_rfl) (by kernel_rfl) fun pz a ha => ?_
    have ha' : l[i]? = some a := ha
    repeat' (first | refine Run.seq ?_ | refine Run.region (by kernel_rfl) ?_ | refine Ops.nil ?_ | refine Ops.move (by conv => lhs; whnf) ?_ | refine Ops.assign (by conv => lhs; whnf) ?_ | refine Run.cond_t rfl rfl ?_ | refine Run.cond_f rfl rfl ?_ | refine Run.skip ?_ | refine Run.exit ?_ | refine Run.block ?_ | refine Ops.len (by assumption) (by kernel_rfl) ?_ | refine Ops.len (Ac.sl (by assumption)) (by kernel_rfl) ?_ | refine Ops.add rfl rfl (by omega) (by omega) ?_ | refine Ops.sub rfl rfl (by omega) (by omega) ?_ | refine Ops.not_t rfl ?_ | refine Ops.not_f rfl ?_ | refine Ops.pick_t rfl (by conv => lhs; whnf) ?_ | refine Ops.pick_f rfl (by conv => lhs; whnf) ?_ | refine Ops.extract rfl rfl ?_ | refine Ops.un rfl rfl ?_ | refine Ops.no rfl rfl rfl ?_ | refine Ops.no_u rfl rfl ?_)
    refine Ops.mapUpdate m2 (by kernel_rfl) rfl fun H3 m3 c3 => ?_
    repeat' (first | refine Run.seq ?_ | refine Run.region (by kernel_rfl) ?_ | refine Ops.nil ?_ | refine Ops.move (by conv => lhs; whnf) ?_ | refine Ops.assign (by conv => lhs; whnf) ?_ | refine Run.cond_t rfl rfl ?_ | refine Run.cond_f rfl rfl ?_ | refine Run.skip ?_ | refine Run.exit ?_ | refine Run.block ?_ | refine Ops.len (by assumption) (by kernel_rfl) ?_ | refine Ops.len (Ac.sl (by assumption)) (by kernel_rfl) ?_ | refine Ops.add rfl rfl (by omega) (by omega) ?_ | refine Ops.sub rfl rfl (by omega) (by omega) ?_ | refine Ops.not_t rfl ?_ | refine Ops.not_f rfl ?_ | refine Ops.pick_t rfl (by conv => lhs; whnf) ?_ | refine Ops.pick_f rfl (by conv => lhs; whnf) ?_ | refine Ops.extract rfl rfl ?_ | refine Ops.un rfl rfl ?_ | refine Ops.no rfl rfl rfl ?_ | refine Ops.no_u rfl rfl ?_)
    refine ⟨(i + 1, H3, keyIn ks a), by dsimp only; omega, rfl, rfl, by dsimp only; exact (by repeat (first | exact Wk.jk | refine Wk.up rfl ?_)), ?_⟩
    refine ⟨by dsimp only; omega, c3 H (Nat.le_refl _) c2, m3, fun x => ?_⟩
    dsimp only
    rw [keyIn_mem, hk, take_snoc ha']; simp
  · repeat' (first | refine Run.seq ?_ | refine Run.region (by kernel_rfl) ?_ | refine Ops.nil ?_ | refine Ops.move (by conv => lhs; whnf) ?_ | refine Ops.assign (by conv => lhs; whnf) ?_ | refine Run.cond_t rfl rfl ?_ | refine Run.cond_f rfl rfl ?_ | refine Run.skip ?_ | refine Run.exit ?_ | refine Run.block ?_ | refine Ops.len (by assumption) (by kernel_rfl) ?_ | refine Ops.len (Ac.sl (by assumption)) (by kernel_rfl) ?_ | refine Ops.add rfl rfl (by omega) (by omega) ?_ | refine Ops.sub rfl rfl (by omega) (by omega) ?_ | refine Ops.not_t rfl ?_ | refine Ops.not_f rfl ?_ | refine Ops.pick_t rfl (by conv => lhs; whnf) ?_ | refine Ops.pick_f rfl (by conv => lhs; whnf) ?_ | refine Ops.extract rfl rfl ?_ | refine Ops.un rfl rfl ?_ | refine Ops.no rfl rfl rfl ?_ | refine Ops.no_u rfl rfl ?_)
    rw [take_end (by omega)] at hk
    refine Run.loopW (fun i => 1000 - i) (fun (i : Nat) => up (up jk 3 u) 17 (.int .i64 (i : Int))) (fun _ => H2) (fun i => i ≤ 1000 ∧ least l = leastN l (1000 - i) i) 0 rfl (by repeat (first | exact Wk.jk | refine Wk.up rfl ?_)) ⟨by omega, rfl⟩ ?_
    rintro j ⟨hj, hx⟩
    repeat' (first | refine Run.seq ?_ | refine Run.region (by kernel_rfl) ?_ | refine Ops.nil ?_ | refine Ops.move (by conv => lhs; whnf) ?_ | refine Ops.assign (by conv => lhs; whnf) ?_ | refine Run.cond_t rfl rfl ?_ | refine Run.cond_f rfl rfl ?_ | refine Run.skip ?_ | refine Run.exit ?_ | refine Run.block ?_ | refine Ops.len (by assumption) (by kernel_rfl) ?_ | refine Ops.len (Ac.sl (by assumption)) (by kernel_rfl) ?_ | refine Ops.add rfl rfl (by omega) (by omega) ?_ | refine Ops.sub rfl rfl (by omega) (by omega) ?_ | refine Ops.not_t rfl ?_ | refine Ops.not_f rfl ?_ | refine Ops.pick_t rfl (by conv => lhs; whnf) ?_ | refine Ops.pick_f rfl (by conv => lhs; whnf) ?_ | refine Ops.extract rfl rfl ?_ | refine Ops.un rfl rfl ?_ | refine Ops.no rfl rfl rfl ?_ | refine Ops.no_u rfl rfl ?_)
    refine Ops.cmp rfl rfl rfl (fun hc2 => ?_) (fun hc2 => ?_)
    · repeat' (first | refine Run.seq ?_ | refine Run.region (by kernel_rfl) ?_ | refine Ops.nil ?_ | refine Ops.move (by conv => lhs; whnf) ?_ | refine Ops.assign (by conv => lhs; whnf) ?_ | refine Run.cond_t rfl rfl ?_ | refine Run.cond_f rfl rfl ?_ | refine Run.skip ?_ | refine Run.exit ?_ | refine Run.block ?_ | refine Ops.len (by assumption) (by kernel_rfl) ?_ | refine Ops.len (Ac.sl (by assumption)) (by kernel_rfl) ?_ | refine Ops.add rfl rfl (by omega) (by omega) ?_ | refine Ops.sub rfl rfl (by omega) (by omega) ?_ | refine Ops.not_t rfl ?_ | refine Ops.not_f rfl ?_ | refine Ops.pick_t rfl (by conv => lhs; whnf) ?_ | refine Ops.pick_f rfl (by conv => lhs; whnf) ?_ | refine Ops.extract rfl rfl ?_ | refine Ops.un rfl rfl ?_ | refine Ops.no rfl rfl rfl ?_ | refine Ops.no_u rfl rfl ?_)
      obtain ⟨f, hf⟩ : ∃ f, 1000 - j = f + 1 := ⟨999 - j, by omega⟩
      rw [hf] at hx
      refine Ops.lookup m2 (by kernel_rfl) rfl ?_
      by_cases hm : (j : Int) ∈ ks
      · rw [decide_eq_true hm]
        rw [leastN_yes ((hk _).1 hm)] at hx
        repeat' (first | refine Run.seq ?_ | refine Run.region (by kernel_rfl) ?_ | refine Ops.nil ?_ | refine Ops.move (by conv => lhs; whnf) ?_ | refine Ops.assign (by conv => lhs; whnf) ?_ | refine Run.cond_t rfl rfl ?_ | refine Run.cond_f rfl rfl ?_ | refine Run.skip ?_ | refine Run.exit ?_ | refine Run.block ?_ | refine Ops.len (by assumption) (by kernel_rfl) ?_ | refine Ops.len (Ac.sl (by assumption)) (by kernel_rfl) ?_ | refine Ops.add rfl rfl (by omega) (by omega) ?_ | refine Ops.sub rfl rfl (by omega) (by omega) ?_ | refine Ops.not_t rfl ?_ | refine Ops.not_f rfl ?_ | refine Ops.pick_t rfl (by conv => lhs; whnf) ?_ | refine Ops.pick_f rfl (by conv => lhs; whnf) ?_ | refine Ops.extract rfl rfl ?_ | refine Ops.un rfl rfl ?_ | refine Ops.no rfl rfl rfl ?_ | refine Ops.no_u rfl rfl ?_)
        refine ⟨j + 1, by dsimp only; omega, rfl, rfl, by dsimp only; exact (by repeat (first | exact Wk.jk | refine Wk.up rfl ?_)), ?_⟩
        exact ⟨by omega, by rw [hx]; congr 1; omega⟩
      · rw [decide_eq_false hm]
        rw [leastN_no (fun h => hm ((hk _).2 h))] at hx
        repeat' (first | refine Run.seq ?_ | refine Run.region (by kernel_rfl) ?_ | refine Ops.nil ?_ | refine Ops.move (by conv => lhs; whnf) ?_ | refine Ops.assign (by conv => lhs; whnf) ?_ | refine Run.cond_t rfl rfl ?_ | refine Run.cond_f rfl rfl ?_ | refine Run.skip ?_ | refine Run.exit ?_ | refine Run.block ?_ | refine Ops.len (by assumption) (by kernel_rfl) ?_ | refine Ops.len (Ac.sl (by assumption)) (by kernel_rfl) ?_ | refine Ops.add rfl rfl (by omega) (by omega) ?_ | refine Ops.sub rfl rfl (by omega) (by omega) ?_ | refine Ops.not_t rfl ?_ | refine Ops.not_f rfl ?_ | refine Ops.pick_t rfl (by conv => lhs; whnf) ?_ | refine Ops.pick_f rfl (by conv => lhs; whnf) ?_ | refine Ops.extract rfl rfl ?_ | refine Ops.un rfl rfl ?_ | refine Ops.no rfl rfl rfl ?_ | refine Ops.no_u rfl rfl ?_)
        refine Run.ret ⟨.inl rfl, ResK.tmp rfl (by conv => lhs; whnf) (ResK.nil ?_)⟩
        exact ⟨c2, by rw [hx]; rfl⟩
    · repeat' (first | refine Run.seq ?_ | refine Run.region (by kernel_rfl) ?_ | refine Ops.nil ?_ | refine Ops.move (by conv => lhs; whnf) ?_ | refine Ops.assign (by conv => lhs; whnf) ?_ | refine Run.cond_t rfl rfl ?_ | refine Run.cond_f rfl rfl ?_ | refine Run.skip ?_ | refine Run.exit ?_ | refine Run.block ?_ | refine Ops.len (by assumption) (by kernel_rfl) ?_ | refine Ops.len (Ac.sl (by assumption)) (by kernel_rfl) ?_ | refine Ops.add rfl rfl (by omega) (by omega) ?_ | refine Ops.sub rfl rfl (by omega) (by omega) ?_ | refine Ops.not_t rfl ?_ | refine Ops.not_f rfl ?_ | refine Ops.pick_t rfl (by conv => lhs; whnf) ?_ | refine Ops.pick_f rfl (by conv => lhs; whnf) ?_ | refine Ops.extract rfl rfl ?_ | refine Ops.un rfl rfl ?_ | refine Ops.no rfl rfl rfl ?_ | refine Ops.no_u rfl rfl ?_)
      have : 1000 - j = 0 := by omega
      rw [this] at hx
      refine Run.ret ⟨.inl rfl, ResK.tmp rfl (by conv => lhs; whnf) (ResK.nil ?_)⟩
      exact ⟨c2, by rw [hx]; rfl⟩

end Go.Proofs.Ytefmjpbmdoebaaa
