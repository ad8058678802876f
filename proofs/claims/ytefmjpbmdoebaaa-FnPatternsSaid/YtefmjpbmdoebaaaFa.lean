/- The laws' own small functions on lists of numbers: what they compute. -/
import Derived.Test.YtefmjpbmdoebaaaAm16
import Derived.Test.YtefmjpbmdoebaaaProg
import Derived.Test.YtefmjpbmdoebaaaChecked
set_option linter.unusedVariables false
namespace Go.Proofs.Ytefmjpbmdoebaaa
open Go Go.RowKit

theorem take_snoc {α : Type} {l : List α} {i : Nat} {a : α} (h : l[i]? = some a) : l.take (i + 1) = l.take i ++ [a] := by
  rw [List.take_add_one, h]; rfl
theorem take_end {α : Type} {l : List α} {i : Nat} (h : l.length ≤ i) : l.take i = l := List.take_of_length_le h

theorem has_ok {H : Hp} {v : Value} {l : List Int} {x : Int} (h : Sl cI H v l) : acall Try.prog 18 [v, .int .i64 x] H (.bool (decide (x ∈ l))) H := by
  have hmx := h.max
  simp only [maxLen] at hmx
  refine CallK.eq (CallK.enter Try.func18 rfl rfl Try.ntmps18 Try.results18 rfl ?_)
  repeat' (first | refine Run.seq ?_ | refine Run.region (by kernel_rfl) ?_ | refine Ops.nil ?_ | refine Ops.move (by conv => lhs; whnf) ?_ | refine Ops.assign (by conv => lhs; whnf) ?_ | refine Run.cond_t rfl rfl ?_ | refine Run.cond_f rfl rfl ?_ | refine Run.skip ?_ | refine Run.exit ?_ | refine Run.block ?_ | refine Ops.len (by assumption) (by kernel_rfl) ?_ | refine Ops.len (Ac.sl (by assumption)) (by kernel_rfl) ?_ | refine Ops.add rfl rfl (by omega) (by omega) ?_ | refine Ops.sub rfl rfl (by omega) (by omega) ?_ | refine Ops.not_t rfl ?_ | refine Ops.not_f rfl ?_ | refine Ops.pick_t rfl (by conv => lhs; whnf) ?_ | refine Ops.pick_f rfl (by conv => lhs; whnf) ?_ | refine Ops.extract rfl rfl ?_ | refine Ops.un rfl rfl ?_ | refine Ops.no rfl rfl rfl ?_ | refine Ops.no_u rfl rfl ?_)
  refine Run.loopW (fun i => l.length - i) (fun (i : Nat) => up (up (up jk 0 v) 1 (.int .i64 x)) 5 (.int .i64 (i : Int))) (fun _ => H) (fun i => i ≤ l.length ∧ x ∉ l.take i) 0 rfl (by repeat (first | exact Wk.jk | refine Wk.up rfl ?_)) ⟨by omega, by simp⟩ ?_
  rintro i ⟨hi, hx⟩
  repeat' (first | refine Run.seq ?_ | refine Run.region (by kernel_rfl) ?_ | refine Ops.nil ?_ | refine Ops.move (by conv => lhs; whnf) ?_ | refine Ops.assign (by conv => lhs; whnf) ?_ | refine Run.cond_t rfl rfl ?_ | refine Run.cond_f rfl rfl ?_ | refine Run.skip ?_ | refine Run.exit ?_ | refine Run.block ?_ | refine Ops.len (by assumption) (by kernel_rfl) ?_ | refine Ops.len (Ac.sl (by assumption)) (by kernel_rfl) ?_ | refine Ops.add rfl rfl (by omega) (by omega) ?_ | refine Ops.sub rfl rfl (by omega) (by omega) ?_ | refine Ops.not_t rfl ?_ | refine Ops.not_f rfl ?_ | refine Ops.pick_t rfl (by conv => lhs; whnf) ?_ | refine Ops.pick_f rfl (by conv => lhs; whnf) ?_ | refine Ops.extract rfl rfl ?_ | refine Ops.un rfl rfl ?_ | refine Ops.no rfl rfl rfl ?_ | refine Ops.no_u rfl rfl ?_)
  refine Ops.cmp rfl rfl rfl (fun hc => ?_) (fun hc => ?_)
  · repeat' (first | refine Run.seq ?_ | refine Run.region (by kernel_rfl) ?_ | refine Ops.nil ?_ | refine Ops.move (by conv => lhs; whnf) ?_ | refine Ops.assign (by conv => lhs; whnf) ?_ | refine Run.cond_t rfl rfl ?_ | refine Run.cond_f rfl rfl ?_ | refine Run.skip ?_ | refine Run.exit ?_ | refine Run.block ?_ | refine Ops.len (by assumption) (by kernel_rfl) ?_ | refine Ops.len (Ac.sl (by assumption)) (by kernel_rfl) ?_ | refine Ops.add rfl rfl (by omega) (by omega) ?_ | refine Ops.sub rfl rfl (by omega) (by omega) ?_ | refine Ops.not_t rfl ?_ | refine Ops.not_f rfl ?_ | refine Ops.pick_t rfl (by conv => lhs; whnf) ?_ | refine Ops.pick_f rfl (by conv => lhs; whnf) ?_ | refine Ops.extract rfl rfl ?_ | refine Ops.un rfl rfl ?_ | refine Ops.no rfl rfl rfl ?_ | refine Ops.no_u rfl rfl ?_)
    refine Ops.idxI h rfl (by omega) (by omega) (by kernel_rfl) (by kernel_rfl) fun pz a ha => ?_
    repeat' (first | refine Run.seq ?_ | refine Run.region (by kernel_rfl) ?_ | refine Ops.nil ?_ | refine Ops.move (by conv => lhs; whnf) ?_ | refine Ops.assign (by conv => lhs; whnf) ?_ | refine Run.cond_t rfl rfl ?_ | refine Run.cond_f rfl rfl ?_ | refine Run.skip ?_ | refine Run.exit ?_ | refine Run.block ?_ | refine Ops.len (by assumption) (by kernel_rfl) ?_ | refine Ops.len (Ac.sl (by assumption)) (by kernel_rfl) ?_ | refine Ops.add rfl rfl (by omega) (by omega) ?_ | refine Ops.sub rfl rfl (by omega) (by omega) ?_ | refine Ops.not_t rfl ?_ | refine Ops.not_f rfl ?_ | refine Ops.pick_t rfl (by conv => lhs; whnf) ?_ | refine Ops.pick_f rfl (by conv => lhs; whnf) ?_ | refine Ops.extract rfl rfl ?_ | refine Ops.un rfl rfl ?_ | refine Ops.no rfl rfl rfl ?_ | refine Ops.no_u rfl rfl ?_)
    have ha' : l[i]? = some a := ha
    refine Ops.cmp rfl rfl rfl (fun hc => ?_) (fun hc => ?_)
    · repeat' (first | refine Run.seq ?_ | refine Run.region (by kernel_rfl) ?_ | refine Ops.nil ?_ | refine Ops.move (by conv => lhs; whnf) ?_ | refine Ops.assign (by conv => lhs; whnf) ?_ | refine Run.cond_t rfl rfl ?_ | refine Run.cond_f rfl rfl ?_ | refine Run.skip ?_ | refine Run.exit ?_ | refine Run.block ?_ | refine Ops.len (by assumption) (by kernel_rfl) ?_ | refine Ops.len (Ac.sl (by assumption)) (by kernel_rfl) ?_ | refine Ops.add rfl rfl (by omega) (by omega) ?_ | refine Ops.sub rfl rfl (by omega) (by omega) ?_ | refine Ops.not_t rfl ?_ | refine Ops.not_f rfl ?_ | refine Ops.pick_t rfl (by conv => lhs; whnf) ?_ | refine Ops.pick_f rfl (by conv => lhs; whnf) ?_ | refine Ops.extract rfl rfl ?_ | refine Ops.un rfl rfl ?_ | refine Ops.no rfl rfl rfl ?_ | refine Ops.no_u rfl rfl ?_)
      refine Run.ret ⟨.inl rfl, ResK.tmp rfl (by conv => lhs; whnf) (ResK.nil ?_)⟩
      refine ⟨?_, rfl⟩
      have : x ∈ l := by rw [← hc]; exact List.mem_of_getElem? ha'
      simp [this, resVal]
    · repeat' (first | refine Run.seq ?_ | refine Run.region (by kernel_rfl) ?_ | refine Ops.nil ?_ | refine Ops.move (by conv => lhs; whnf) ?_ | refine Ops.assign (by conv => lhs; whnf) ?_ | refine Run.cond_t rfl rfl ?_ | refine Run.cond_f rfl rfl ?_ | refine Run.skip ?_ | refine Run.exit ?_ | refine Run.block ?_ | refine Ops.len (by assumption) (by kernel_rfl) ?_ | refine Ops.len (Ac.sl (by assumption)) (by kernel_rfl) ?_ | refine Ops.add rfl rfl (by omega) (by omega) ?_ | refine Ops.sub rfl rfl (by omega) (by omega) ?_ | refine Ops.not_t rfl ?_ | refine Ops.not_f rfl ?_ | refine Ops.pick_t rfl (by conv => lhs; whnf) ?_ | refine Ops.pick_f rfl (by conv => lhs; whnf) ?_ | refine Ops.extract rfl rfl ?_ | refine Ops.un rfl rfl ?_ | refine Ops.no rfl rfl rfl ?_ | refine Ops.no_u rfl rfl ?_)
      refine ⟨i + 1, by dsimp only; omega, rfl, rfl, by dsimp only; exact (by repeat (first | exact Wk.jk | refine Wk.up rfl ?_)), ?_⟩
      refine ⟨by omega, ?_⟩
      rw [take_snoc ha']
      simp only [List.mem_append, List.mem_singleton, not_or]
      exact ⟨hx, fun e => hc e.symm⟩
  · repeat' (first | refine Run.seq ?_ | refine Run.region (by kernel_rfl) ?_ | refine Ops.nil ?_ | refine Ops.move (by conv => lhs; whnf) ?_ | refine Ops.assign (by conv => lhs; whnf) ?_ | refine Run.cond_t rfl rfl ?_ | refine Run.cond_f rfl rfl ?_ | refine Run.skip ?_ | refine Run.exit ?_ | refine Run.block ?_ | refine Ops.len (by assumption) (by kernel_rfl) ?_ | refine Ops.len (Ac.sl (by assumption)) (by kernel_rfl) ?_ | refine Ops.add rfl rfl (by omega) (by omega) ?_ | refine Ops.sub rfl rfl (by omega) (by omega) ?_ | refine Ops.not_t rfl ?_ | refine Ops.not_f rfl ?_ | refine Ops.pick_t rfl (by conv => lhs; whnf) ?_ | refine Ops.pick_f rfl (by conv => lhs; whnf) ?_ | refine Ops.extract rfl rfl ?_ | refine Ops.un rfl rfl ?_ | refine Ops.no rfl rfl rfl ?_ | refine Ops.no_u rfl rfl ?_)
    refine Run.ret ⟨.inl rfl, ResK.tmp rfl (by conv => lhs; whnf) (ResK.nil ?_)⟩
    rw [take_end (by omega)] at hx
    exact ⟨by simp [hx, resVal], rfl⟩

theorem list_eq_of {α : Type} {l m : List α} (hl : l.length = m.length) (h : l.take l.length = m.take l.length) : l = m := by
  rw [List.take_length, hl, List.take_length] at h; exact h

theorem eqIntS_ok {H : Hp} {v w : Value} {l m : List Int} (h1 : Sl cI H v l) (h2 : Sl cI H w m) : acall Try.prog 27 [v, w] H (.bool (decide (l = m))) H := by
  have hm1 := h1.max
  have hm2 := h2.max
  simp only [maxLen] at hm1 hm2
  refine CallK.eq (CallK.enter Try.func27 rfl rfl Try.ntmps27 Try.results27 rfl ?_)
  repeat' (first | refine Run.seq ?_ | refine Run.region (by kernel_rfl) ?_ | refine Ops.nil ?_ | refine Ops.move (by conv => lhs; whnf) ?_ | refine Ops.assign (by conv => lhs; whnf) ?_ | refine Run.cond_t rfl rfl ?_ | refine Run.cond_f rfl rfl ?_ | refine Run.skip ?_ | refine Run.exit ?_ | refine Run.block ?_ | refine Ops.len (by assumption) (by kernel_rfl) ?_ | refine Ops.len (Ac.sl (by assumption)) (by kernel_rfl) ?_ | refine Ops.add rfl rfl (by omega) (by omega) ?_ | refine Ops.sub rfl rfl (by omega) (by omega) ?_ | refine Ops.not_t rfl ?_ | refine Ops.not_f rfl ?_ | refine Ops.pick_t rfl (by conv => lhs; whnf) ?_ | refine Ops.pick_f rfl (by conv => lhs; whnf) ?_ | refine Ops.extract rfl rfl ?_ | refine Ops.un rfl rfl ?_ | refine Ops.no rfl rfl rfl ?_ | refine Ops.no_u rfl rfl ?_)
  refine Ops.cmpn rfl rfl (fun hc => ?_) (fun hc => ?_)
  · repeat' (first | refine Run.seq ?_ | refine Run.region (by kernel_rfl) ?_ | refine Ops.nil ?_ | refine Ops.move (by conv => lhs; whnf) ?_ | refine Ops.assign (by conv => lhs; whnf) ?_ | refine Run.cond_t rfl rfl ?_ | refine Run.cond_f rfl rfl ?_ | refine Run.skip ?_ | refine Run.exit ?_ | refine Run.block ?_ | refine Ops.len (by assumption) (by kernel_rfl) ?_ | refine Ops.len (Ac.sl (by assumption)) (by kernel_rfl) ?_ | refine Ops.add rfl rfl (by omega) (by omega) ?_ | refine Ops.sub rfl rfl (by omega) (by omega) ?_ | refine Ops.not_t rfl ?_ | refine Ops.not_f rfl ?_ | refine Ops.pick_t rfl (by conv => lhs; whnf) ?_ | refine Ops.pick_f rfl (by conv => lhs; whnf) ?_ | refine Ops.extract rfl rfl ?_ | refine Ops.un rfl rfl ?_ | refine Ops.no rfl rfl rfl ?_ | refine Ops.no_u rfl rfl ?_)
    refine Run.ret ⟨.inl rfl, ResK.tmp rfl (by conv => lhs; whnf) (ResK.nil ?_)⟩
    refine ⟨?_, rfl⟩
    have : l ≠ m := fun e => hc (by rw [e])
    simp [this, resVal]
  · repeat' (first | refine Run.seq ?_ | refine Run.region (by kernel_rfl) ?_ | refine Ops.nil ?_ | refine Ops.move (by conv => lhs; whnf) ?_ | refine Ops.assign (by conv => lhs; whnf) ?_ | refine Run.cond_t rfl rfl ?_ | refine Run.cond_f rfl rfl ?_ | refine Run.skip ?_ | refine Run.exit ?_ | refine Run.block ?_ | refine Ops.len (by assumption) (by kernel_rfl) ?_ | refine Ops.len (Ac.sl (by assumption)) (by kernel_rfl) ?_ | refine Ops.add rfl rfl (by omega) (by omega) ?_ | refine Ops.sub rfl rfl (by omega) (by omega) ?_ | refine Ops.not_t rfl ?_ | refine Ops.not_f rfl ?_ | refine Ops.pick_t rfl (by conv => lhs; whnf) ?_ | refine Ops.pick_f rfl (by conv => lhs; whnf) ?_ | refine Ops.extract rfl rfl ?_ | refine Ops.un rfl rfl ?_ | refine Ops.no rfl rfl rfl ?_ | refine Ops.no_u rfl rfl ?_)
    refine Run.loopW (fun i => l.length - i) (fun (i : Nat) => up (up (up jk 0 v) 1 w) 5 (.int .i64 (i : Int))) (fun _ => H) (fun i => i ≤ l.length ∧ l.take i = m.take i) 0 rfl (by repeat (first | exact Wk.jk | refine Wk.up rfl ?_)) ⟨by omega, by simp⟩ ?_
    rintro i ⟨hi, hx⟩
    repeat' (first | refine Run.seq ?_ | refine Run.region (by kernel_rfl) ?_ | refine Ops.nil ?_ | refine Ops.move (by conv => lhs; whnf) ?_ | refine Ops.assign (by conv => lhs; whnf) ?_ | refine Run.cond_t rfl rfl ?_ | refine Run.cond_f rfl rfl ?_ | refine Run.skip ?_ | refine Run.exit ?_ | refine Run.block ?_ | refine Ops.len (by assumption) (by kernel_rfl) ?_ | refine Ops.len (Ac.sl (by assumption)) (by kernel_rfl) ?_ | refine Ops.add rfl rfl (by omega) (by omega) ?_ | refine Ops.sub rfl rfl (by omega) (by omega) ?_ | refine Ops.not_t rfl ?_ | refine Ops.not_f rfl ?_ | refine Ops.pick_t rfl (by conv => lhs; whnf) ?_ | refine Ops.pick_f rfl (by conv => lhs; whnf) ?_ | refine Ops.extract rfl rfl ?_ | refine Ops.un rfl rfl ?_ | refine Ops.no rfl rfl rfl ?_ | refine Ops.no_u rfl rfl ?_)
    refine Ops.cmp rfl rfl rfl (fun hc => ?_) (fun hc => ?_)
    · repeat' (first | refine Run.seq ?_ | refine Run.region (by kernel_rfl) ?_ | refine Ops.nil ?_ | refine Ops.move (by conv => lhs; whnf) ?_ | refine Ops.assign (by conv => lhs; whnf) ?_ | refine Run.cond_t rfl rfl ?_ | refine Run.cond_f rfl rfl ?_ | refine Run.skip ?_ | refine Run.exit ?_ | refine Run.block ?_ | refine Ops.len (by assumption) (by kernel_rfl) ?_ | refine Ops.len (Ac.sl (by assumption)) (by kernel_rfl) ?_ | refine Ops.add rfl rfl (by omega) (by omega) ?_ | refine Ops.sub rfl rfl (by omega) (by omega) ?_ | refine Ops.not_t rfl ?_ | refine Ops.not_f rfl ?_ | refine Ops.pick_t rfl (by conv => lhs; whnf) ?_ | refine Ops.pick_f rfl (by conv => lhs; whnf) ?_ | refine Ops.extract rfl rfl ?_ | refine Ops.un rfl rfl ?_ | refine Ops.no rfl rfl rfl ?_ | refine Ops.no_u rfl rfl ?_)
      refine Run.draw (List.range 9) Try.checked.mixed (by kernel_rfl) ?_
      repeat' (first | refine Run.seq ?_ | refine Run.region (by kernel_rfl) ?_ | refine Ops.nil ?_ | refine Ops.move (by conv => lhs; whnf) ?_ | refine Ops.assign (by conv => lhs; whnf) ?_ | refine Run.cond_t rfl rfl ?_ | refine Run.cond_f rfl rfl ?_ | refine Run.skip ?_ | refine Run.exit ?_ | refine Run.block ?_ | refine Ops.len (by assumption) (by kernel_rfl) ?_ | refine Ops.len (Ac.sl (by assumption)) (by kernel_rfl) ?_ | refine Ops.add rfl rfl (by omega) (by omega) ?_ | refine Ops.sub rfl rfl (by omega) (by omega) ?_ | refine Ops.not_t rfl ?_ | refine Ops.not_f rfl ?_ | refine Ops.pick_t rfl (by conv => lhs; whnf) ?_ | refine Ops.pick_f rfl (by conv => lhs; whnf) ?_ | refine Ops.extract rfl rfl ?_ | refine Ops.un rfl rfl ?_ | refine Ops.no rfl rfl rfl ?_ | refine Ops.no_u rfl rfl ?_)
      refine Ops.idxI h1 rfl (by omega) (by omega) (by kernel_rfl) (by kernel_rfl) fun pz a ha => ?_
      repeat' (first | refine Run.seq ?_ | refine Run.region (by kernel_rfl) ?_ | refine Ops.nil ?_ | refine Ops.move (by conv => lhs; whnf) ?_ | refine Ops.assign (by conv => lhs; whnf) ?_ | refine Run.cond_t rfl rfl ?_ | refine Run.cond_f rfl rfl ?_ | refine Run.skip ?_ | refine Run.exit ?_ | refine Run.block ?_ | refine Ops.len (by assumption) (by kernel_rfl) ?_ | refine Ops.len (Ac.sl (by assumption)) (by kernel_rfl) ?_ | refine Ops.add rfl rfl (by omega) (by omega) ?_ | refine Ops.sub rfl rfl (by omega) (by omega) ?_ | refine Ops.not_t rfl ?_ | refine Ops.not_f rfl ?_ | refine Ops.pick_t rfl (by conv => lhs; whnf) ?_ | refine Ops.pick_f rfl (by conv => lhs; whnf) ?_ | refine Ops.extract rfl rfl ?_ | refine Ops.un rfl rfl ?_ | refine Ops.no rfl rfl rfl ?_ | refine Ops.no_u rfl rfl ?_)
      refine Ops.idxI h2 rfl (by omega) (by omega) (by kernel_rfl) (by kernel_rfl) fun p' b hb => ?_
      have ha' : l[i]? = some a := ha
      have hb' : m[i]? = some b := hb
      refine Ops.cmpn rfl rfl (fun hc2 => ?_) (fun hc2 => ?_)
      · repeat' (first | refine Run.seq ?_ | refine Run.region (by kernel_rfl) ?_ | refine Ops.nil ?_ | refine Ops.move (by conv => lhs; whnf) ?_ | refine Ops.assign (by conv => lhs; whnf) ?_ | refine Run.cond_t rfl rfl ?_ | refine Run.cond_f rfl rfl ?_ | refine Run.skip ?_ | refine Run.exit ?_ | refine Run.block ?_ | refine Ops.len (by assumption) (by kernel_rfl) ?_ | refine Ops.len (Ac.sl (by assumption)) (by kernel_rfl) ?_ | refine Ops.add rfl rfl (by omega) (by omega) ?_ | refine Ops.sub rfl rfl (by omega) (by omega) ?_ | refine Ops.not_t rfl ?_ | refine Ops.not_f rfl ?_ | refine Ops.pick_t rfl (by conv => lhs; whnf) ?_ | refine Ops.pick_f rfl (by conv => lhs; whnf) ?_ | refine Ops.extract rfl rfl ?_ | refine Ops.un rfl rfl ?_ | refine Ops.no rfl rfl rfl ?_ | refine Ops.no_u rfl rfl ?_)
        refine Run.ret ⟨.inl rfl, ResK.tmp rfl (by conv => lhs; whnf) (ResK.nil ?_)⟩
        refine ⟨?_, rfl⟩
        have : l ≠ m := fun e => by
          subst e; rw [ha'] at hb'; injection hb' with hb'; exact hc2 hb'
        simp [this, resVal]
      · repeat' (first | refine Run.seq ?_ | refine Run.region (by kernel_rfl) ?_ | refine Ops.nil ?_ | refine Ops.move (by conv => lhs; whnf) ?_ | refine Ops.assign (by conv => lhs; whnf) ?_ | refine Run.cond_t rfl rfl ?_ | refine Run.cond_f rfl rfl ?_ | refine Run.skip ?_ | refine Run.exit ?_ | refine Run.block ?_ | refine Ops.len (by assumption) (by kernel_rfl) ?_ | refine Ops.len (Ac.sl (by assumption)) (by kernel_rfl) ?_ | refine Ops.add rfl rfl (by omega) (by omega) ?_ | refine Ops.sub rfl rfl (by omega) (by omega) ?_ | refine Ops.not_t rfl ?_ | refine Ops.not_f rfl ?_ | refine Ops.pick_t rfl (by conv => lhs; whnf) ?_ | refine Ops.pick_f rfl (by conv => lhs; whnf) ?_ | refine Ops.extract rfl rfl ?_ | refine Ops.un rfl rfl ?_ | refine Ops.no rfl rfl rfl ?_ | refine Ops.no_u rfl rfl ?_)
        refine ⟨i + 1, by dsimp only; omega, rfl, rfl, by dsimp only; exact (by repeat (first | exact Wk.jk | refine Wk.up rfl ?_)), ?_⟩
        exact ⟨by omega, by rw [take_snoc ha', take_snoc hb', hx, hc2]⟩
    · repeat' (first | refine Run.seq ?_ | refine Run.region (by kernel_rfl) ?_ | refine Ops.nil ?_ | refine Ops.move (by conv => lhs; whnf) ?_ | refine Ops.assign (by conv => lhs; whnf) ?_ | refine Run.cond_t rfl rfl ?_ | refine Run.cond_f rfl rfl ?_ | refine Run.skip ?_ | refine Run.exit ?_ | refine Run.block ?_ | refine Ops.len (by assumption) (by kernel_rfl) ?_ | refine Ops.len (Ac.sl (by assumption)) (by kernel_rfl) ?_ | refine Ops.add rfl rfl (by omega) (by omega) ?_ | refine Ops.sub rfl rfl (by omega) (by omega) ?_ | refine Ops.not_t rfl ?_ | refine Ops.not_f rfl ?_ | refine Ops.pick_t rfl (by conv => lhs; whnf) ?_ | refine Ops.pick_f rfl (by conv => lhs; whnf) ?_ | refine Ops.extract rfl rfl ?_ | refine Ops.un rfl rfl ?_ | refine Ops.no rfl rfl rfl ?_ | refine Ops.no_u rfl rfl ?_)
      refine Run.ret ⟨.inl rfl, ResK.tmp rfl (by conv => lhs; whnf) (ResK.nil ?_)⟩
      have : i = l.length := by omega
      subst this
      exact ⟨by simp [list_eq_of (by omega) hx, resVal], rfl⟩

theorem eqIntSS_ok {H : Hp} {v w : Value} {l m : List (List Int)} (h1 : Sl (cL cI) H v l) (h2 : Sl (cL cI) H w m) : acall Try.prog 21 [v, w] H (.bool (decide (l = m))) H := by
  have hm1 := h1.max
  have hm2 := h2.max
  simp only [maxLen] at hm1 hm2
  refine CallK.eq (CallK.enter Try.func21 rfl rfl Try.ntmps21 Try.results21 rfl ?_)
  repeat' (first | refine Run.seq ?_ | refine Run.region (by kernel_rfl) ?_ | refine Ops.nil ?_ | refine Ops.move (by conv => lhs; whnf) ?_ | refine Ops.assign (by conv => lhs; whnf) ?_ | refine Run.cond_t rfl rfl ?_ | refine Run.cond_f rfl rfl ?_ | refine Run.skip ?_ | refine Run.exit ?_ | refine Run.block ?_ | refine Ops.len (by assumption) (by kernel_rfl) ?_ | refine Ops.len (Ac.sl (by assumption)) (by kernel_rfl) ?_ | refine Ops.add rfl rfl (by omega) (by omega) ?_ | refine Ops.sub rfl rfl (by omega) (by omega) ?_ | refine Ops.not_t rfl ?_ | refine Ops.not_f rfl ?_ | refine Ops.pick_t rfl (by conv => lhs; whnf) ?_ | refine Ops.pick_f rfl (by conv => lhs; whnf) ?_ | refine Ops.extract rfl rfl ?_ | refine Ops.un rfl rfl ?_ | refine Ops.no rfl rfl rfl ?_ | refine Ops.no_u rfl rfl ?_)
  refine Ops.cmpn rfl rfl (fun hc => ?_) (fun hc => ?_)
  · repeat' (first | refine Run.seq ?_ | refine Run.region (by kernel_rfl) ?_ | refine Ops.nil ?_ | refine Ops.move (by conv => lhs; whnf) ?_ | refine Ops.assign (by conv => lhs; whnf) ?_ | refine Run.cond_t rfl rfl ?_ | refine Run.cond_f rfl rfl ?_ | refine Run.skip ?_ | refine Run.exit ?_ | refine Run.block ?_ | refine Ops.len (by assumption) (by kernel_rfl) ?_ | refine Ops.len (Ac.sl (by assumption)) (by kernel_rfl) ?_ | refine Ops.add rfl rfl (by omega) (by omega) ?_ | refine Ops.sub rfl rfl (by omega) (by omega) ?_ | refine Ops.not_t rfl ?_ | refine Ops.not_f rfl ?_ | refine Ops.pick_t rfl (by conv => lhs; whnf) ?_ | refine Ops.pick_f rfl (by conv => lhs; whnf) ?_ | refine Ops.extract rfl rfl ?_ | refine Ops.un rfl rfl ?_ | refine Ops.no rfl rfl rfl ?_ | refine Ops.no_u rfl rfl ?_)
    refine Run.ret ⟨.inl rfl, ResK.tmp rfl (by conv => lhs; whnf) (ResK.nil ?_)⟩
    refine ⟨?_, rfl⟩
    have : l ≠ m := fun e => hc (by rw [e])
    simp [this, resVal]
  · repeat' (first | refine Run.seq ?_ | refine Run.region (by kernel_rfl) ?_ | refine Ops.nil ?_ | refine Ops.move (by conv => lhs; whnf) ?_ | refine Ops.assign (by conv => lhs; whnf) ?_ | refine Run.cond_t rfl rfl ?_ | refine Run.cond_f rfl rfl ?_ | refine Run.skip ?_ | refine Run.exit ?_ | refine Run.block ?_ | refine Ops.len (by assumption) (by kernel_rfl) ?_ | refine Ops.len (Ac.sl (by assumption)) (by kernel_rfl) ?_ | refine Ops.add rfl rfl (by omega) (by omega) ?_ | refine Ops.sub rfl rfl (by omega) (by omega) ?_ | refine Ops.not_t rfl ?_ | refine Ops.not_f rfl ?_ | refine Ops.pick_t rfl (by conv => lhs; whnf) ?_ | refine Ops.pick_f rfl (by conv => lhs; whnf) ?_ | refine Ops.extract rfl rfl ?_ | refine Ops.un rfl rfl ?_ | refine Ops.no rfl rfl rfl ?_ | refine Ops.no_u rfl rfl ?_)
    refine Run.loopW (fun i => l.length - i) (fun (i : Nat) => up (up (up jk 0 v) 1 w) 5 (.int .i64 (i : Int))) (fun _ => H) (fun i => i ≤ l.length ∧ l.take i = m.take i) 0 rfl (by repeat (first | exact Wk.jk | refine Wk.up rfl ?_)) ⟨by omega, by simp⟩ ?_
    rintro i ⟨hi, hx⟩
    repeat' (first | refine Run.seq ?_ | refine Run.region (by kernel_rfl) ?_ | refine Ops.nil ?_ | refine Ops.move (by conv => lhs; whnf) ?_ | refine Ops.assign (by conv => lhs; whnf) ?_ | refine Run.cond_t rfl rfl ?_ | refine Run.cond_f rfl rfl ?_ | refine Run.skip ?_ | refine Run.exit ?_ | refine Run.block ?_ | refine Ops.len (by assumption) (by kernel_rfl) ?_ | refine Ops.len (Ac.sl (by assumption)) (by kernel_rfl) ?_ | refine Ops.add rfl rfl (by omega) (by omega) ?_ | refine Ops.sub rfl rfl (by omega) (by omega) ?_ | refine Ops.not_t rfl ?_ | refine Ops.not_f rfl ?_ | refine Ops.pick_t rfl (by conv => lhs; whnf) ?_ | refine Ops.pick_f rfl (by conv => lhs; whnf) ?_ | refine Ops.extract rfl rfl ?_ | refine Ops.un rfl rfl ?_ | refine Ops.no rfl rfl rfl ?_ | refine Ops.no_u rfl rfl ?_)
    refine Ops.cmp rfl rfl rfl (fun hc => ?_) (fun hc => ?_)
    · repeat' (first | refine Run.seq ?_ | refine Run.region (by kernel_rfl) ?_ | refine Ops.nil ?_ | refine Ops.move (by conv => lhs; whnf) ?_ | refine Ops.assign (by conv => lhs; whnf) ?_ | refine Run.cond_t rfl rfl ?_ | refine Run.cond_f rfl rfl ?_ | refine Run.skip ?_ | refine Run.exit ?_ | refine Run.block ?_ | refine Ops.len (by assumption) (by kernel_rfl) ?_ | refine Ops.len (Ac.sl (by assumption)) (by kernel_rfl) ?_ | refine Ops.add rfl rfl (by omega) (by omega) ?_ | refine Ops.sub rfl rfl (by omega) (by omega) ?_ | refine Ops.not_t rfl ?_ | refine Ops.not_f rfl ?_ | refine Ops.pick_t rfl (by conv => lhs; whnf) ?_ | refine Ops.pick_f rfl (by conv => lhs; whnf) ?_ | refine Ops.extract rfl rfl ?_ | refine Ops.un rfl rfl ?_ | refine Ops.no rfl rfl rfl ?_ | refine Ops.no_u rfl rfl ?_)
      refine Run.draw (List.range 10) Try.checked.mixed (by kernel_rfl) ?_
      repeat' (first | refine Run.seq ?_ | refine Run.region (by kernel_rfl) ?_ | refine Ops.nil ?_ | refine Ops.move (by conv => lhs; whnf) ?_ | refine Ops.assign (by conv => lhs; whnf) ?_ | refine Run.cond_t rfl rfl ?_ | refine Run.cond_f rfl rfl ?_ | refine Run.skip ?_ | refine Run.exit ?_ | refine Run.block ?_ | refine Ops.len (by assumption) (by kernel_rfl) ?_ | refine Ops.len (Ac.sl (by assumption)) (by kernel_rfl) ?_ | refine Ops.add rfl rfl (by omega) (by omega) ?_ | refine Ops.sub rfl rfl (by omega) (by omega) ?_ | refine Ops.not_t rfl ?_ | refine Ops.not_f rfl ?_ | refine Ops.pick_t rfl (by conv => lhs; whnf) ?_ | refine Ops.pick_f rfl (by conv => lhs; whnf) ?_ | refine Ops.extract rfl rfl ?_ | refine Ops.un rfl rfl ?_ | refine Ops.no rfl rfl rfl ?_ | refine Ops.no_u rfl rfl ?_)
      refine Ops.idx h1 rfl rfl (by omega) (by omega) (by kernel_rfl) (by kernel_rfl) fun pz u a ha hu => ?_
      repeat' (first | refine Run.seq ?_ | refine Run.region (by kernel_rfl) ?_ | refine Ops.nil ?_ | refine Ops.move (by conv => lhs; whnf) ?_ | refine Ops.assign (by conv => lhs; whnf) ?_ | refine Run.cond_t rfl rfl ?_ | refine Run.cond_f rfl rfl ?_ | refine Run.skip ?_ | refine Run.exit ?_ | refine Run.block ?_ | refine Ops.len (by assumption) (by kernel_rfl) ?_ | refine Ops.len (Ac.sl (by assumption)) (by kernel_rfl) ?_ | refine Ops.add rfl rfl (by omega) (by omega) ?_ | refine Ops.sub rfl rfl (by omega) (by omega) ?_ | refine Ops.not_t rfl ?_ | refine Ops.not_f rfl ?_ | refine Ops.pick_t rfl (by conv => lhs; whnf) ?_ | refine Ops.pick_f rfl (by conv => lhs; whnf) ?_ | refine Ops.extract rfl rfl ?_ | refine Ops.un rfl rfl ?_ | refine Ops.no rfl rfl rfl ?_ | refine Ops.no_u rfl rfl ?_)
      refine Ops.idx h2 rfl rfl (by omega) (by omega) (by kernel_rfl) (by kernel_rfl) fun p' u' b hb hu' => ?_
      have ha' : l[i]? = some a := ha
      have hb' : m[i]? = some b := hb
      refine Ops.callB (eqIntS_ok (cL_at hu) (cL_at hu')) (fun hc2 => ?_) (fun hc2 => ?_)
      · repeat' (first | refine Run.seq ?_ | refine Run.region (by kernel_rfl) ?_ | refine Ops.nil ?_ | refine Ops.move (by conv => lhs; whnf) ?_ | refine Ops.assign (by conv => lhs; whnf) ?_ | refine Run.cond_t rfl rfl ?_ | refine Run.cond_f rfl rfl ?_ | refine Run.skip ?_ | refine Run.exit ?_ | refine Run.block ?_ | refine Ops.len (by assumption) (by kernel_rfl) ?_ | refine Ops.len (Ac.sl (by assumption)) (by kernel_rfl) ?_ | refine Ops.add rfl rfl (by omega) (by omega) ?_ | refine Ops.sub rfl rfl (by omega) (by omega) ?_ | refine Ops.not_t rfl ?_ | refine Ops.not_f rfl ?_ | refine Ops.pick_t rfl (by conv => lhs; whnf) ?_ | refine Ops.pick_f rfl (by conv => lhs; whnf) ?_ | refine Ops.extract rfl rfl ?_ | refine Ops.un rfl rfl ?_ | refine Ops.no rfl rfl rfl ?_ | refine Ops.no_u rfl rfl ?_)
        refine ⟨i + 1, by dsimp only; omega, rfl, rfl, by dsimp only; exact (by repeat (first | exact Wk.jk | refine Wk.up rfl ?_)), ?_⟩
        exact ⟨by omega, by rw [take_snoc ha', take_snoc hb', hx, of_decide_eq_true hc2]⟩
      · repeat' (first | refine Run.seq ?_ | refine Run.region (by kernel_rfl) ?_ | refine Ops.nil ?_ | refine Ops.move (by conv => lhs; whnf) ?_ | refine Ops.assign (by conv => lhs; whnf) ?_ | refine Run.cond_t rfl rfl ?_ | refine Run.cond_f rfl rfl ?_ | refine Run.skip ?_ | refine Run.exit ?_ | refine Run.block ?_ | refine Ops.len (by assumption) (by kernel_rfl) ?_ | refine Ops.len (Ac.sl (by assumption)) (by kernel_rfl) ?_ | refine Ops.add rfl rfl (by omega) (by omega) ?_ | refine Ops.sub rfl rfl (by omega) (by omega) ?_ | refine Ops.not_t rfl ?_ | refine Ops.not_f rfl ?_ | refine Ops.pick_t rfl (by conv => lhs; whnf) ?_ | refine Ops.pick_f rfl (by conv => lhs; whnf) ?_ | refine Ops.extract rfl rfl ?_ | refine Ops.un rfl rfl ?_ | refine Ops.no rfl rfl rfl ?_ | refine Ops.no_u rfl rfl ?_)
        refine Run.ret ⟨.inl rfl, ResK.tmp rfl (by conv => lhs; whnf) (ResK.nil ?_)⟩
        refine ⟨?_, rfl⟩
        have : l ≠ m := fun e => by
          subst e; rw [ha'] at hb'; injection hb' with hb'; exact of_decide_eq_false hc2 hb'
        simp [this, resVal]
    · repeat' (first | refine Run.seq ?_ | refine Run.region (by kernel_rfl) ?_ | refine Ops.nil ?_ | refine Ops.move (by conv => lhs; whnf) ?_ | refine Ops.assign (by conv => lhs; whnf) ?_ | refine Run.cond_t rfl rfl ?_ | refine Run.cond_f rfl rfl ?_ | refine Run.skip ?_ | refine Run.exit ?_ | refine Run.block ?_ | refine Ops.len (by assumption) (by kernel_rfl) ?_ | refine Ops.len (Ac.sl (by assumption)) (by kernel_rfl) ?_ | refine Ops.add rfl rfl (by omega) (by omega) ?_ | refine Ops.sub rfl rfl (by omega) (by omega) ?_ | refine Ops.not_t rfl ?_ | refine Ops.not_f rfl ?_ | refine Ops.pick_t rfl (by conv => lhs; whnf) ?_ | refine Ops.pick_f rfl (by conv => lhs; whnf) ?_ | refine Ops.extract rfl rfl ?_ | refine Ops.un rfl rfl ?_ | refine Ops.no rfl rfl rfl ?_ | refine Ops.no_u rfl rfl ?_)
      refine Run.ret ⟨.inl rfl, ResK.tmp rfl (by conv => lhs; whnf) (ResK.nil ?_)⟩
      have : i = l.length := by omega
      subst this
      exact ⟨by simp [list_eq_of (by omega) hx, resVal], rfl⟩

/-- n numbers from k on. -/
def marks (k : Int) (n : Nat) : List Int := (List.range n).map fun (i : Nat) => k + (i : Int)
theorem marks_length (k : Int) (n : Nat) : (marks k n).length = n := by simp [marks]
theorem marks_get {k : Int} {n i : Nat} (h : i < n) : (marks k n)[i]? = some (k + i) := by simp [marks, h]

theorem heldIntS_ok {H : Hp} {v : Value} {k : Int} {n : Nat} (h : Sl cI H v (marks k n)) (h0 : 0 ≤ k) (hn : k + n ≤ 4611686018427387904) : acall Try.prog 29 [v, .int .i64 k] H (.int .i64 (k + n)) H := by
  have hl := marks_length k n
  refine CallK.eq (CallK.enter Try.func29 rfl rfl Try.ntmps29 Try.results29 rfl ?_)
  repeat' (first | refine Run.seq ?_ | refine Run.region (by kernel_rfl) ?_ | refine Ops.nil ?_ | refine Ops.move (by conv => lhs; whnf) ?_ | refine Ops.assign (by conv => lhs; whnf) ?_ | refine Run.cond_t rfl rfl ?_ | refine Run.cond_f rfl rfl ?_ | refine Run.skip ?_ | refine Run.exit ?_ | refine Run.block ?_ | refine Ops.len (by assumption) (by kernel_rfl) ?_ | refine Ops.len (Ac.sl (by assumption)) (by kernel_rfl) ?_ | refine Ops.add rfl rfl (by omega) (by omega) ?_ | refine Ops.sub rfl rfl (by omega) (by omega) ?_ | refine Ops.not_t rfl ?_ | refine Ops.not_f rfl ?_ | refine Ops.pick_t rfl (by conv => lhs; whnf) ?_ | refine Ops.pick_f rfl (by conv => lhs; whnf) ?_ | refine Ops.extract rfl rfl ?_ | refine Ops.un rfl rfl ?_ | refine Ops.no rfl rfl rfl ?_ | refine Ops.no_u rfl rfl ?_)
  refine Run.loopW (fun i => n - i) (fun (i : Nat) => up (up (up jk 0 v) 1 (.int .i64 (k + i))) 5 (.int .i64 (i : Int))) (fun _ => H) (fun i => i ≤ n) 0 rfl (by rw [show k + ((0 : Nat) : Int) = k by omega]; exact (by repeat (first | exact Wk.jk | refine Wk.up rfl ?_))) (by omega) ?_
  rintro i hi
  repeat' (first | refine Run.seq ?_ | refine Run.region (by kernel_rfl) ?_ | refine Ops.nil ?_ | refine Ops.move (by conv => lhs; whnf) ?_ | refine Ops.assign (by conv => lhs; whnf) ?_ | refine Run.cond_t rfl rfl ?_ | refine Run.cond_f rfl rfl ?_ | refine Run.skip ?_ | refine Run.exit ?_ | refine Run.block ?_ | refine Ops.len (by assumption) (by kernel_rfl) ?_ | refine Ops.len (Ac.sl (by assumption)) (by kernel_rfl) ?_ | refine Ops.add rfl rfl (by omega) (by omega) ?_ | refine Ops.sub rfl rfl (by omega) (by omega) ?_ | refine Ops.not_t rfl ?_ | refine Ops.not_f rfl ?_ | refine Ops.pick_t rfl (by conv => lhs; whnf) ?_ | refine Ops.pick_f rfl (by conv => lhs; whnf) ?_ | refine Ops.extract rfl rfl ?_ | refine Ops.un rfl rfl ?_ | refine Ops.no rfl rfl rfl ?_ | refine Ops.no_u rfl rfl ?_)
  refine Ops.cmp rfl rfl rfl (fun hc => ?_) (fun hc => ?_)
  · repeat' (first | refine Run.seq ?_ | refine Run.region (by kernel_rfl) ?_ | refine Ops.nil ?_ | refine Ops.move (by conv => lhs; whnf) ?_ | refine Ops.assign (by conv => lhs; whnf) ?_ | refine Run.cond_t rfl rfl ?_ | refine Run.cond_f rfl rfl ?_ | refine Run.skip ?_ | refine Run.exit ?_ | refine Run.block ?_ | refine Ops.len (by assumption) (by kernel_rfl) ?_ | refine Ops.len (Ac.sl (by assumption)) (by kernel_rfl) ?_ | refine Ops.add rfl rfl (by omega) (by omega) ?_ | refine Ops.sub rfl rfl (by omega) (by omega) ?_ | refine Ops.not_t rfl ?_ | refine Ops.not_f rfl ?_ | refine Ops.pick_t rfl (by conv => lhs; whnf) ?_ | refine Ops.pick_f rfl (by conv => lhs; whnf) ?_ | refine Ops.extract rfl rfl ?_ | refine Ops.un rfl rfl ?_ | refine Ops.no rfl rfl rfl ?_ | refine Ops.no_u rfl rfl ?_)
    refine Ops.idxI h rfl (by omega) (by omega) (by kernel_rfl) (by kernel_rfl) fun pz a ha => ?_
    have ha' : (marks k n)[i]? = some a := ha
    rw [marks_get (by omega)] at ha'
    injection ha' with ha'
    subst ha'
    repeat' (first | refine Run.seq ?_ | refine Run.region (by kernel_rfl) ?_ | refine Ops.nil ?_ | refine Ops.move (by conv => lhs; whnf) ?_ | refine Ops.assign (by conv => lhs; whnf) ?_ | refine Run.cond_t rfl rfl ?_ | refine Run.cond_f rfl rfl ?_ | refine Run.skip ?_ | refine Run.exit ?_ | refine Run.block ?_ | refine Ops.len (by assumption) (by kernel_rfl) ?_ | refine Ops.len (Ac.sl (by assumption)) (by kernel_rfl) ?_ | refine Ops.add rfl rfl (by omega) (by omega) ?_ | refine Ops.sub rfl rfl (by omega) (by omega) ?_ | refine Ops.not_t rfl ?_ | refine Ops.not_f rfl ?_ | refine Ops.pick_t rfl (by conv => lhs; whnf) ?_ | refine Ops.pick_f rfl (by conv => lhs; whnf) ?_ | refine Ops.extract rfl rfl ?_ | refine Ops.un rfl rfl ?_ | refine Ops.no rfl rfl rfl ?_ | refine Ops.no_u rfl rfl ?_)
    refine Ops.cmpn rfl rfl (fun hc => ?_) (fun hc => ?_)
    · contradiction
    · repeat' (first | refine Run.seq ?_ | refine Run.region (by kernel_rfl) ?_ | refine Ops.nil ?_ | refine Ops.move (by conv => lhs; whnf) ?_ | refine Ops.assign (by conv => lhs; whnf) ?_ | refine Run.cond_t rfl rfl ?_ | refine Run.cond_f rfl rfl ?_ | refine Run.skip ?_ | refine Run.exit ?_ | refine Run.block ?_ | refine Ops.len (by assumption) (by kernel_rfl) ?_ | refine Ops.len (Ac.sl (by assumption)) (by kernel_rfl) ?_ | refine Ops.add rfl rfl (by omega) (by omega) ?_ | refine Ops.sub rfl rfl (by omega) (by omega) ?_ | refine Ops.not_t rfl ?_ | refine Ops.not_f rfl ?_ | refine Ops.pick_t rfl (by conv => lhs; whnf) ?_ | refine Ops.pick_f rfl (by conv => lhs; whnf) ?_ | refine Ops.extract rfl rfl ?_ | refine Ops.un rfl rfl ?_ | refine Ops.no rfl rfl rfl ?_ | refine Ops.no_u rfl rfl ?_)
      refine ⟨i + 1, by dsimp only; omega, rfl, rfl, by dsimp only; rw [show k + ((i + 1 : Nat) : Int) = k + i + 1 by omega]; exact (by repeat (first | exact Wk.jk | refine Wk.up rfl ?_)), by omega⟩
  · repeat' (first | refine Run.seq ?_ | refine Run.region (by kernel_rfl) ?_ | refine Ops.nil ?_ | refine Ops.move (by conv => lhs; whnf) ?_ | refine Ops.assign (by conv => lhs; whnf) ?_ | refine Run.cond_t rfl rfl ?_ | refine Run.cond_f rfl rfl ?_ | refine Run.skip ?_ | refine Run.exit ?_ | refine Run.block ?_ | refine Ops.len (by assumption) (by kernel_rfl) ?_ | refine Ops.len (Ac.sl (by assumption)) (by kernel_rfl) ?_ | refine Ops.add rfl rfl (by omega) (by omega) ?_ | refine Ops.sub rfl rfl (by omega) (by omega) ?_ | refine Ops.not_t rfl ?_ | refine Ops.not_f rfl ?_ | refine Ops.pick_t rfl (by conv => lhs; whnf) ?_ | refine Ops.pick_f rfl (by conv => lhs; whnf) ?_ | refine Ops.extract rfl rfl ?_ | refine Ops.un rfl rfl ?_ | refine Ops.no rfl rfl rfl ?_ | refine Ops.no_u rfl rfl ?_)
    refine Run.ret ⟨.inl rfl, ResK.tmp rfl (by conv => lhs; whnf) (ResK.nil ?_)⟩
    have : i = n := by omega
    subst this
    exact ⟨rfl, rfl⟩

theorem set_take {α : Type} {l : List α} {i : Nat} {a : α} (hi : i < l.length) : (l.set i a).take (i + 1) = l.take i ++ [a] := by
  rw [take_snoc (a := a) (by rw [List.getElem?_set_self hi]), List.take_set_of_le (Nat.le_refl _)]

/-- A slice that may be written, if there is anything to write. -/
def SA {α : Type} (c : Cd α) (e k : Nat) (H : Hp) (v : Value) (l : List α) : Prop := Sl c H v l ∧ (l ≠ [] → Ac c e k H v l)

theorem markIntS_ok {H : Hp} {v : Value} {k : Int} {l : List Int} {q : Nat} (h : SA cI 3 q H v l) (h0 : 0 ≤ k) (hn : k + l.length ≤ 4611686018427387904) :
    CallK Try.prog 28 [v, .int .i64 k] H (fun r H' => r = .int .i64 (k + l.length) ∧ SA cI 3 q H' v (marks k l.length) ∧ ((l = [] ∧ H' = H) ∨ (l ≠ [] ∧ ∃ r, q ≤ r ∧ Rt H v r ∧ Mod r H H'))) := by
  have hmx := h.1.max
  simp only [maxLen] at hmx
  refine (CallK.enter Try.func28 rfl rfl Try.ntmps28 Try.results28 rfl ?_)
  repeat' (first | refine Run.seq ?_ | refine Run.region (by kernel_rfl) ?_ | refine Ops.nil ?_ | refine Ops.move (by conv => lhs; whnf) ?_ | refine Ops.assign (by conv => lhs; whnf) ?_ | refine Run.cond_t rfl rfl ?_ | refine Run.cond_f rfl rfl ?_ | refine Run.skip ?_ | refine Run.exit ?_ | refine Run.block ?_ | refine Ops.len (by assumption) (by kernel_rfl) ?_ | refine Ops.len (Ac.sl (by assumption)) (by kernel_rfl) ?_ | refine Ops.add rfl rfl (by omega) (by omega) ?_ | refine Ops.sub rfl rfl (by omega) (by omega) ?_ | refine Ops.not_t rfl ?_ | refine Ops.not_f rfl ?_ | refine Ops.pick_t rfl (by conv => lhs; whnf) ?_ | refine Ops.pick_f rfl (by conv => lhs; whnf) ?_ | refine Ops.extract rfl rfl ?_ | refine Ops.un rfl rfl ?_ | refine Ops.no rfl rfl rfl ?_ | refine Ops.no_u rfl rfl ?_)
  refine Run.loopW (fun (a : Nat × Hp × List Int) => l.length - a.1) (fun a => up (up (up jk 0 v) 1 (.int .i64 (k + a.1))) 5 (.int .i64 (a.1 : Int))) (fun a => a.2.1) (fun a => a.1 ≤ l.length ∧ SA cI 3 q a.2.1 v a.2.2 ∧ a.2.2.length = l.length ∧ a.2.2.take a.1 = marks k a.1 ∧ ((a.1 = 0 ∧ a.2.1 = H) ∨ (l ≠ [] ∧ ∃ r, q ≤ r ∧ Rt H v r ∧ Mod r H a.2.1))) (0, H, l) rfl
    (by dsimp only; rw [show k + ((0 : Nat) : Int) = k by omega]; exact (by repeat (first | exact Wk.jk | refine Wk.up rfl ?_))) ⟨by dsimp only; omega, h, rfl, by simp [marks], .inl ⟨rfl, rfl⟩⟩ ?_
  rintro ⟨i, H1, m⟩ ⟨hi, hac, hl, hm, hmod⟩
  dsimp only at hi hac hl hm hmod
  dsimp only
  have hsl := hac.1
  repeat' (first | refine Run.seq ?_ | refine Run.region (by kernel_rfl) ?_ | refine Ops.nil ?_ | refine Ops.move (by conv => lhs; whnf) ?_ | refine Ops.assign (by conv => lhs; whnf) ?_ | refine Run.cond_t rfl rfl ?_ | refine Run.cond_f rfl rfl ?_ | refine Run.skip ?_ | refine Run.exit ?_ | refine Run.block ?_ | refine Ops.len (by assumption) (by kernel_rfl) ?_ | refine Ops.len (Ac.sl (by assumption)) (by kernel_rfl) ?_ | refine Ops.add rfl rfl (by omega) (by omega) ?_ | refine Ops.sub rfl rfl (by omega) (by omega) ?_ | refine Ops.not_t rfl ?_ | refine Ops.not_f rfl ?_ | refine Ops.pick_t rfl (by conv => lhs; whnf) ?_ | refine Ops.pick_f rfl (by conv => lhs; whnf) ?_ | refine Ops.extract rfl rfl ?_ | refine Ops.un rfl rfl ?_ | refine Ops.no rfl rfl rfl ?_ | refine Ops.no_u rfl rfl ?_)
  refine Ops.cmp rfl rfl rfl (fun hc => ?_) (fun hc => ?_)
  · repeat' (first | refine Run.seq ?_ | refine Run.region (by kernel_rfl) ?_ | refine Ops.nil ?_ | refine Ops.move (by conv => lhs; whnf) ?_ | refine Ops.assign (by conv => lhs; whnf) ?_ | refine Run.cond_t rfl rfl ?_ | refine Run.cond_f rfl rfl ?_ | refine Run.skip ?_ | refine Run.exit ?_ | refine Run.block ?_ | refine Ops.len (by assumption) (by kernel_rfl) ?_ | refine Ops.len (Ac.sl (by assumption)) (by kernel_rfl) ?_ | refine Ops.add rfl rfl (by omega) (by omega) ?_ | refine Ops.sub rfl rfl (by omega) (by omega) ?_ | refine Ops.not_t rfl ?_ | refine Ops.not_f rfl ?_ | refine Ops.pick_t rfl (by conv => lhs; whnf) ?_ | refine Ops.pick_f rfl (by conv => lhs; whnf) ?_ | refine Ops.extract rfl rfl ?_ | refine Ops.un rfl rfl ?_ | refine Ops.no rfl rfl rfl ?_ | refine Ops.no_u rfl rfl ?_)
    have hne : m ≠ [] := fun e => by have h5 : m.length = 0 := (by rw [e]; rfl); omega
    obtain ⟨r, hqr, hr⟩ := (hac.2 hne).rt hne
    refine Ops.set (r := r) (a := k + i) (hac.2 hne) hr rfl (by omega) (by omega) rfl (by simp) (by kernel_rfl) (by kernel_rfl) (fun _ _ _ _ _ h => h) fun p H2 hm2 hac2 => ?_
    repeat' (first | refine Run.seq ?_ | refine Run.region (by kernel_rfl) ?_ | refine Ops.nil ?_ | refine Ops.move (by conv => lhs; whnf) ?_ | refine Ops.assign (by conv => lhs; whnf) ?_ | refine Run.cond_t rfl rfl ?_ | refine Run.cond_f rfl rfl ?_ | refine Run.skip ?_ | refine Run.exit ?_ | refine Run.block ?_ | refine Ops.len (by assumption) (by kernel_rfl) ?_ | refine Ops.len (Ac.sl (by assumption)) (by kernel_rfl) ?_ | refine Ops.add rfl rfl (by omega) (by omega) ?_ | refine Ops.sub rfl rfl (by omega) (by omega) ?_ | refine Ops.not_t rfl ?_ | refine Ops.not_f rfl ?_ | refine Ops.pick_t rfl (by conv => lhs; whnf) ?_ | refine Ops.pick_f rfl (by conv => lhs; whnf) ?_ | refine Ops.extract rfl rfl ?_ | refine Ops.un rfl rfl ?_ | refine Ops.no rfl rfl rfl ?_ | refine Ops.no_u rfl rfl ?_)
    refine ⟨(i + 1, H2, m.set i (k + i)), by dsimp only; omega, rfl, rfl, by dsimp only; rw [show k + ((i + 1 : Nat) : Int) = k + i + 1 by omega]; exact (by repeat (first | exact Wk.jk | refine Wk.up rfl ?_)), ?_⟩
    refine ⟨by dsimp only; omega, ⟨hac2.sl, fun _ => hac2⟩, by simp [hl], ?_, .inr ⟨fun e => by have h5 : l.length = 0 := (by rw [e]; rfl); omega, ?_⟩⟩
    · show (m.set i (k + i)).take (i + 1) = _
      rw [set_take (by omega), hm]; simp [marks, List.range_succ]
    · rcases hmod with ⟨_, h1⟩ | ⟨_, r0, h1, h2, h3⟩
      · dsimp only at *
        subst h1; exact ⟨r, hqr, hr, hm2⟩
      · have : r = r0 := by
          obtain ⟨id, g1, g2, g3, g4⟩ := hr
          obtain ⟨id', k1, k2, k3, k4⟩ := h2
          rw [k1] at g1; injection g1 with g1; subst g1
          rw [← g4, (h3.own id' k2).2, k4]
        subst this
        exact ⟨r, h1, h2, h3.trans hm2⟩
  · repeat' (first | refine Run.seq ?_ | refine Run.region (by kernel_rfl) ?_ | refine Ops.nil ?_ | refine Ops.move (by conv => lhs; whnf) ?_ | refine Ops.assign (by conv => lhs; whnf) ?_ | refine Run.cond_t rfl rfl ?_ | refine Run.cond_f rfl rfl ?_ | refine Run.skip ?_ | refine Run.exit ?_ | refine Run.block ?_ | refine Ops.len (by assumption) (by kernel_rfl) ?_ | refine Ops.len (Ac.sl (by assumption)) (by kernel_rfl) ?_ | refine Ops.add rfl rfl (by omega) (by omega) ?_ | refine Ops.sub rfl rfl (by omega) (by omega) ?_ | refine Ops.not_t rfl ?_ | refine Ops.not_f rfl ?_ | refine Ops.pick_t rfl (by conv => lhs; whnf) ?_ | refine Ops.pick_f rfl (by conv => lhs; whnf) ?_ | refine Ops.extract rfl rfl ?_ | refine Ops.un rfl rfl ?_ | refine Ops.no rfl rfl rfl ?_ | refine Ops.no_u rfl rfl ?_)
    refine Run.ret ⟨.inl rfl, ResK.tmp rfl (by conv => lhs; whnf) (ResK.nil ?_)⟩
    have hil : i = l.length := by omega
    subst hil
    rw [take_end (by omega)] at hm
    subst hm
    refine ⟨rfl, hac, ?_⟩
    rcases hmod with ⟨h1, h2⟩ | h1
    · exact .inl ⟨List.length_eq_zero_iff.1 h1, h2⟩
    · exact .inr h1

/-- The same, by the rows that are owned. -/
theorem markIntS_rw {H : Hp} {v : Value} {k : Int} {l : List Int} {q : Nat} {F : List Nat} (h : Rw cI 3 H v l F) (ho : Own q H F) (h0 : 0 ≤ k) (hn : k + l.length ≤ 4611686018427387904) :
    CallK Try.prog 28 [v, .int .i64 k] H (fun r H' => r = .int .i64 (k + l.length) ∧ Rw cI 3 H' v (marks k l.length) F ∧ ModS F H H') := by
  refine (markIntS_ok (q := q) ⟨h.1, fun hl => h.ac ho hl⟩ h0 hn).mono ?_
  rintro r H' ⟨h1, h2, h3⟩
  refine ⟨h1, ?_⟩
  rcases h.2 with ⟨g1, g2⟩ | ⟨id, ob, g1, g2, g3, g4, g5, g6⟩
  · subst g1 g2
    rcases h3 with ⟨_, rfl⟩ | ⟨h4, _⟩
    · exact ⟨⟨h2.1, .inl ⟨rfl, rfl⟩⟩, ModS.refl⟩
    · exact absurd rfl h4
  · subst g2
    have hne : marks k l.length ≠ [] := fun e => g1 (List.length_eq_zero_iff.1 (by rw [← marks_length k l.length, e]; rfl))
    rcases h3 with ⟨e, _⟩ | ⟨_, r, _, ⟨id', k1, k2, k3, k4⟩, hm⟩
    · exact absurd e g1
    · rw [g3] at k1
      injection k1 with k1
      have k1' : id = id' := k1
      subst k1'
      refine ⟨⟨h2.1, .inr ?_⟩, by rw [← k4] at hm; exact hm.toS⟩
      rcases h2.2 hne with ⟨e, _⟩ | ⟨id2, ob2, e1, e2, e3, e4, e5, e6, e7, e8, e9⟩
      · rw [g3] at e; cases e
      · have e1' := e1
        rw [g3] at e1'
        injection e1' with e1'
        injection e1' with e1'
        injection e1' with e1'
        subst e1'
        exact ⟨id, ob2, hne, rfl, e1, e2, e5, e6, e8⟩

/-- Lists marked one after the other. -/
def markSS : Int → List (List Int × List Nat) → List (List Int × List Nat)
  | _, [] => []
  | k, (l, F) :: t => (marks k l.length, F) :: markSS (k + l.length) t
def total : List (List Int × List Nat) → Nat
  | [] => 0
  | (l, _) :: t => l.length + total t

theorem total_append (a b : List (List Int × List Nat)) : total (a ++ b) = total a + total b := by
  induction a with
  | nil => simp [total]
  | cons x t ih => obtain ⟨l, F⟩ := x; simp only [List.cons_append, total, ih]; omega
theorem markSS_append (k : Int) (a b : List (List Int × List Nat)) : markSS k (a ++ b) = markSS k a ++ markSS (k + total a) b := by
  induction a generalizing k with
  | nil => simp [markSS, total]
  | cons x t ih =>
    obtain ⟨l, F⟩ := x
    simp only [List.cons_append, markSS, total, ih]
    rw [show k + (l.length : Int) + (total t : Int) = k + ((l.length + total t : Nat) : Int) by omega]
theorem markSS_length (k : Int) (a : List (List Int × List Nat)) : (markSS k a).length = a.length := by
  induction a generalizing k with
  | nil => rfl
  | cons x t ih => obtain ⟨l, F⟩ := x; simp [markSS, ih]
theorem markSS_fps (k : Int) (a : List (List Int × List Nat)) : fps (markSS k a) = fps a := by
  induction a generalizing k with
  | nil => rfl
  | cons x t ih => obtain ⟨l, F⟩ := x; simpa [markSS, fps] using ih (k + l.length)
theorem markSS_take (k : Int) (a : List (List Int × List Nat)) (i : Nat) : (markSS k a).take i = markSS k (a.take i) := by
  have h := congrArg (List.take i) (markSS_append k (a.take i) (a.drop i))
  rw [List.take_append_drop] at h
  rw [h]
  rcases Nat.le_total i a.length with hi | hi
  · rw [List.take_left' (by rw [markSS_length, List.length_take]; omega)]
  · rw [List.drop_of_length_le hi]
    simp only [markSS, List.append_nil]
    rw [List.take_of_length_le (by rw [markSS_length, List.length_take]; omega)]
theorem markSS_get {k : Int} {a : List (List Int × List Nat)} {i : Nat} {l : List Int} {F : List Nat} (h : a[i]? = some (l, F)) : (markSS k a)[i]? = some (marks (k + total (a.take i)) l.length, F) := by
  have hi := (List.getElem?_eq_some_iff.1 h).1
  have h1 := markSS_append k (a.take i) (a.drop i)
  rw [List.take_append_drop] at h1
  rw [h1, List.getElem?_append_right (by rw [markSS_length, List.length_take]; omega), markSS_length, List.length_take, Nat.min_eq_left (by omega), Nat.sub_self]
  have h2 : a.drop i = (l, F) :: a.drop (i + 1) := by
    rw [List.drop_eq_getElem_cons hi]
    congr 1
    rw [List.getElem?_eq_getElem hi] at h; injection h
  rw [h2]; rfl

theorem fps_mem {α : Type} {ls : List (α × List Nat)} {i : Nat} {a : α × List Nat} (h : ls[i]? = some a) {f : Nat} (hf : f ∈ a.2) : f ∈ fps ls :=
  List.mem_flatMap.2 ⟨a, List.mem_of_getElem? h, hf⟩

/-- The rows of two elements are different. -/
theorem fps_apart {α : Type} : ∀ {ls : List (α × List Nat)} {i j : Nat} {a b : α × List Nat}, (fps ls).Nodup → ls[i]? = some a → ls[j]? = some b → i ≠ j → ∀ f ∈ a.2, f ∉ b.2
  | [], i, j, a, b, _, h, _, _ => by simp at h
  | x :: t, i, j, a, b, hn, h1, h2, hne => by
    have hn' : (x.2 ++ fps t).Nodup := by simpa [fps] using hn
    rw [List.nodup_append] at hn'
    intro f hf hf'
    cases i with
    | zero =>
      simp at h1; subst h1
      cases j with
      | zero => exact hne rfl
      | succ j => exact hn'.2.2 f hf f (fps_mem (by simpa using h2) hf') rfl
    | succ i =>
      cases j with
      | zero =>
        simp at h2; subst h2
        exact hn'.2.2 f hf' f (fps_mem (by simpa using h1) hf) rfl
      | succ j => exact fps_apart hn'.2.1 (by simpa using h1) (by simpa using h2) (by omega) f hf hf'

theorem markIntSS_ok {H : Hp} {v : Value} {k : Int} {q : Nat} {ls : List (List Int × List Nat)} (h : OL cI 3 q H v ls) (h0 : 0 ≤ k) (hn : k + total ls ≤ 4611686018427387904) :
    CallK Try.prog 22 [v, .int .i64 k] H (fun r H' => r = .int .i64 (k + total ls) ∧ OL cI 3 q H' v (markSS k ls) ∧ ModS (fps ls) H H') := by
  have hmx := h.sl.max
  simp only [maxLen] at hmx
  refine (CallK.enter Try.func22 rfl rfl Try.ntmps22 Try.results22 rfl ?_)
  repeat' (first | refine Run.seq ?_ | refine Run.region (by kernel_rfl) ?_ | refine Ops.nil ?_ | refine Ops.move (by conv => lhs; whnf) ?_ | refine Ops.assign (by conv => lhs; whnf) ?_ | refine Run.cond_t rfl rfl ?_ | refine Run.cond_f rfl rfl ?_ | refine Run.skip ?_ | refine Run.exit ?_ | refine Run.block ?_ | refine Ops.len (by assumption) (by kernel_rfl) ?_ | refine Ops.len (Ac.sl (by assumption)) (by kernel_rfl) ?_ | refine Ops.add rfl rfl (by omega) (by omega) ?_ | refine Ops.sub rfl rfl (by omega) (by omega) ?_ | refine Ops.not_t rfl ?_ | refine Ops.not_f rfl ?_ | refine Ops.pick_t rfl (by conv => lhs; whnf) ?_ | refine Ops.pick_f rfl (by conv => lhs; whnf) ?_ | refine Ops.extract rfl rfl ?_ | refine Ops.un rfl rfl ?_ | refine Ops.no rfl rfl rfl ?_ | refine Ops.no_u rfl rfl ?_)
  refine Run.loopW (fun (a : Nat × Hp × List (List Int × List Nat)) => ls.length - a.1) (fun a => up (up (up jk 0 v) 1 (.int .i64 (k + total (ls.take a.1)))) 5 (.int .i64 (a.1 : Int))) (fun a => a.2.1)
    (fun a => a.1 ≤ ls.length ∧ Sl (cF cI 3) a.2.1 v a.2.2 ∧ a.2.2 = markSS k (ls.take a.1) ++ ls.drop a.1 ∧ ModS (fps (ls.take a.1)) H a.2.1) (0, H, ls) rfl
    (by dsimp only; rw [show k + (total (ls.take 0) : Int) = k by simp [total]]; exact (by repeat (first | exact Wk.jk | refine Wk.up rfl ?_))) ⟨by dsimp only; omega, h.sl, by simp [markSS], ModS.refl⟩ ?_
  rintro ⟨i, H1, ms⟩ ⟨hi, hsl, hms, hmod⟩
  dsimp only at hi hsl hms hmod
  dsimp only
  have hlen : ms.length = ls.length := by
    rw [hms, List.length_append, markSS_length, List.length_take, List.length_drop]; omega
  repeat' (first | refine Run.seq ?_ | refine Run.region (by kernel_rfl) ?_ | refine Ops.nil ?_ | refine Ops.move (by conv => lhs; whnf) ?_ | refine Ops.assign (by conv => lhs; whnf) ?_ | refine Run.cond_t rfl rfl ?_ | refine Run.cond_f rfl rfl ?_ | refine Run.skip ?_ | refine Run.exit ?_ | refine Run.block ?_ | refine Ops.len (by assumption) (by kernel_rfl) ?_ | refine Ops.len (Ac.sl (by assumption)) (by kernel_rfl) ?_ | refine Ops.add rfl rfl (by omega) (by omega) ?_ | refine Ops.sub rfl rfl (by omega) (by omega) ?_ | refine Ops.not_t rfl ?_ | refine Ops.not_f rfl ?_ | refine Ops.pick_t rfl (by conv => lhs; whnf) ?_ | refine Ops.pick_f rfl (by conv => lhs; whnf) ?_ | refine Ops.extract rfl rfl ?_ | refine Ops.un rfl rfl ?_ | refine Ops.no rfl rfl rfl ?_ | refine Ops.no_u rfl rfl ?_)
  refine Ops.cmp rfl rfl rfl (fun hc => ?_) (fun hc => ?_)
  · have hil : i < ls.length := by omega
    rcases hx : ls[i] with ⟨l, F⟩
    have hx' : ls[i]? = some (l, F) := by rw [List.getElem?_eq_getElem hil, hx]
    have hdrop : ls.drop i = (l, F) :: ls.drop (i + 1) := by rw [List.drop_eq_getElem_cons hil, hx]
    have htot : total (ls.take i) + l.length ≤ total ls := by
      have := total_append (ls.take i) (ls.drop i)
      rw [List.take_append_drop, hdrop] at this
      simp only [total] at this; omega
    repeat' (first | refine Run.seq ?_ | refine Run.region (by kernel_rfl) ?_ | refine Ops.nil ?_ | refine Ops.move (by conv => lhs; whnf) ?_ | refine Ops.assign (by conv => lhs; whnf) ?_ | refine Run.cond_t rfl rfl ?_ | refine Run.cond_f rfl rfl ?_ | refine Run.skip ?_ | refine Run.exit ?_ | refine Run.block ?_ | refine Ops.len (by assumption) (by kernel_rfl) ?_ | refine Ops.len (Ac.sl (by assumption)) (by kernel_rfl) ?_ | refine Ops.add rfl rfl (by omega) (by omega) ?_ | refine Ops.sub rfl rfl (by omega) (by omega) ?_ | refine Ops.not_t rfl ?_ | refine Ops.not_f rfl ?_ | refine Ops.pick_t rfl (by conv => lhs; whnf) ?_ | refine Ops.pick_f rfl (by conv => lhs; whnf) ?_ | refine Ops.extract rfl rfl ?_ | refine Ops.un rfl rfl ?_ | refine Ops.no rfl rfl rfl ?_ | refine Ops.no_u rfl rfl ?_)
    refine Ops.idxC hsl rfl rfl (by omega) (by omega) (by kernel_rfl) (by kernel_rfl) fun p u a ha hu hcu => ?_
    have ha' : ms[i]? = some a := ha
    have hmi : ms[i]? = some (l, F) := by
      rw [hms, List.getElem?_append_right (by rw [markSS_length, List.length_take]; omega), markSS_length, List.length_take, Nat.min_eq_left hi, Nat.sub_self, hdrop]; rfl
    rw [hmi] at ha'
    injection ha' with ha'
    subst ha'
    have hfm : fps ms = fps ls := by
      rw [hms, fps_append, markSS_fps, ← fps_append, List.take_append_drop]
    have hFin : ∀ f ∈ F, f ∈ fps ls := fun f hf => fps_mem hx' hf
    have hownF : Own q H F := fun f hf => h.own f (hFin f hf)
    repeat' (first | refine Run.seq ?_ | refine Run.region (by kernel_rfl) ?_ | refine Ops.nil ?_ | refine Ops.move (by conv => lhs; whnf) ?_ | refine Ops.assign (by conv => lhs; whnf) ?_ | refine Run.cond_t rfl rfl ?_ | refine Run.cond_f rfl rfl ?_ | refine Run.skip ?_ | refine Run.exit ?_ | refine Run.block ?_ | refine Ops.len (by assumption) (by kernel_rfl) ?_ | refine Ops.len (Ac.sl (by assumption)) (by kernel_rfl) ?_ | refine Ops.add rfl rfl (by omega) (by omega) ?_ | refine Ops.sub rfl rfl (by omega) (by omega) ?_ | refine Ops.not_t rfl ?_ | refine Ops.not_f rfl ?_ | refine Ops.pick_t rfl (by conv => lhs; whnf) ?_ | refine Ops.pick_f rfl (by conv => lhs; whnf) ?_ | refine Ops.extract rfl rfl ?_ | refine Ops.un rfl rfl ?_ | refine Ops.no rfl rfl rfl ?_ | refine Ops.no_u rfl rfl ?_)
    refine Ops.call (markIntS_rw (cF_at hu) (hownF.modS hmod) (by omega) (by dsimp only; omega)) (fun _ _ _ hf => by cases hf) fun r H2 => ?_
    rintro ⟨rfl, hrw, hm2⟩
    repeat' (first | refine Run.seq ?_ | refine Run.region (by kernel_rfl) ?_ | refine Ops.nil ?_ | refine Ops.move (by conv => lhs; whnf) ?_ | refine Ops.assign (by conv => lhs; whnf) ?_ | refine Run.cond_t rfl rfl ?_ | refine Run.cond_f rfl rfl ?_ | refine Run.skip ?_ | refine Run.exit ?_ | refine Run.block ?_ | refine Ops.len (by assumption) (by kernel_rfl) ?_ | refine Ops.len (Ac.sl (by assumption)) (by kernel_rfl) ?_ | refine Ops.add rfl rfl (by omega) (by omega) ?_ | refine Ops.sub rfl rfl (by omega) (by omega) ?_ | refine Ops.not_t rfl ?_ | refine Ops.not_f rfl ?_ | refine Ops.pick_t rfl (by conv => lhs; whnf) ?_ | refine Ops.pick_f rfl (by conv => lhs; whnf) ?_ | refine Ops.extract rfl rfl ?_ | refine Ops.un rfl rfl ?_ | refine Ops.no rfl rfl rfl ?_ | refine Ops.no_u rfl rfl ?_)
    have htk : ls.take (i + 1) = ls.take i ++ [(l, F)] := take_snoc hx'
    have hms2 : ms.set i (marks (k + total (ls.take i)) l.length, F) = markSS k (ls.take (i + 1)) ++ ls.drop (i + 1) := by
      rw [hms, hdrop, htk, markSS_append, List.set_append_right _ _ (by rw [markSS_length, List.length_take]; omega), markSS_length, List.length_take, Nat.min_eq_left hi, Nat.sub_self]
      simp [markSS]
    have htot2 : k + (total (ls.take (i + 1)) : Int) = k + (total (ls.take i) : Int) + (l.length : Int) := by
      rw [htk, total_append]; simp only [total]; omega
    refine ⟨(i + 1, H2, ms.set i (marks (k + total (ls.take i)) l.length, F)), by dsimp only; omega, rfl, rfl, by dsimp only; rw [htot2]; exact (by repeat (first | exact Wk.jk | refine Wk.up rfl ?_)), by dsimp only; omega, ?_, hms2, ?_⟩
    · dsimp only
      refine hsl.reset rfl (by rw [hm2.nxt]; exact Nat.le_refl _) (fun id hid hne => ?_) (by simp) fun j w a b hcw hj hok hb => ?_
      · have hid0 : id < H.nxt := h.sl.live id hid
        refine hm2.get id (hsl.live id hid) fun f hf => ?_
        rw [(hmod.own id hid0).2, (hmod.own f (hownF f hf).1).2]
        exact h.out id hid (fun e => by rw [e] at hil; simp at hil) f (hFin f hf)
      · by_cases e : j = i
        · subst e
          rw [List.getElem?_set_self (by omega)] at hb
          cases hb
          have : w = u := by
            obtain ⟨id1, o1, b1, n1, g1, g2, g3⟩ := hcw
            obtain ⟨id2, o2, b2, n2, k1, k2, k3⟩ := hcu
            have k1' : v = _ := k1
            rw [g1] at k1'; cases k1'
            rw [g2] at k2; cases k2
            have k3' : b1.cs[o1 + j]? = some u := k3
            rw [g3] at k3'; cases k3'; rfl
          subst this
          exact ⟨w, rfl, hrw⟩
        · rw [List.getElem?_set_ne (Ne.symm e)] at hb
          rw [hj] at hb; cases hb
          have hrj := cF_at hok
          exact ⟨w, rfl, Rw.modS (H := H1) (H' := H2) (k := q) (k' := q) (fun _ _ _ h => h) hrj (fun f hf => (h.own.modS hmod) f (by rw [← hfm]; exact fps_mem hj hf)) (hownF.modS hmod) (fps_apart (by rw [hfm]; exact h.nd) hj hmi e) hm2⟩
    · dsimp only
      rw [htk, fps_append, fps_one]
      exact hmod.trans hm2 fun f hf => (hownF f hf).1
  · repeat' (first | refine Run.seq ?_ | refine Run.region (by kernel_rfl) ?_ | refine Ops.nil ?_ | refine Ops.move (by conv => lhs; whnf) ?_ | refine Ops.assign (by conv => lhs; whnf) ?_ | refine Run.cond_t rfl rfl ?_ | refine Run.cond_f rfl rfl ?_ | refine Run.skip ?_ | refine Run.exit ?_ | refine Run.block ?_ | refine Ops.len (by assumption) (by kernel_rfl) ?_ | refine Ops.len (Ac.sl (by assumption)) (by kernel_rfl) ?_ | refine Ops.add rfl rfl (by omega) (by omega) ?_ | refine Ops.sub rfl rfl (by omega) (by omega) ?_ | refine Ops.not_t rfl ?_ | refine Ops.not_f rfl ?_ | refine Ops.pick_t rfl (by conv => lhs; whnf) ?_ | refine Ops.pick_f rfl (by conv => lhs; whnf) ?_ | refine Ops.extract rfl rfl ?_ | refine Ops.un rfl rfl ?_ | refine Ops.no rfl rfl rfl ?_ | refine Ops.no_u rfl rfl ?_)
    refine Run.ret ⟨.inl rfl, ResK.tmp rfl (by conv => lhs; whnf) (ResK.nil ?_)⟩
    have hil : i = ls.length := by omega
    subst hil
    rw [List.take_length] at hms hmod ⊢
    rw [List.drop_length, List.append_nil] at hms
    subst hms
    refine ⟨rfl, ⟨hsl, ?_, ?_, ?_⟩, hmod⟩
    · rw [markSS_fps]; exact h.own.modS hmod
    · rw [markSS_fps]; exact h.nd
    · intro id hid hne f hf
      rw [markSS_fps] at hf
      rw [(hmod.own id (h.sl.live id hid)).2, (hmod.own f (h.own f hf).1).2]
      exact h.out id hid (fun e => hne (by rw [e]; rfl)) f hf

end Go.Proofs.Ytefmjpbmdoebaaa
