/- The law FnExactPatternsOf: whatever the two numbers are, the law returns true; no condition. This text: the law's own body. -/
import Derived.Test.YtefmjpbmdoebaaaFe
set_option linter.unusedVariables false
namespace Go.Proofs.Ytefmjpbmdoebaaa
open Go Go.RowKit

theorem total_le {b c : Nat} : ∀ {ls : List (List Int × List Nat)}, ls.length ≤ b → (∀ x ∈ ls, x.1.length ≤ c) → total ls ≤ b * c := by
  intro ls
  induction ls generalizing b with
  | nil => intro _ _; simp [total]
  | cons x t ih =>
    intro h1 h2
    obtain ⟨l, F⟩ := x
    simp only [total]
    have h3 := ih (b := b - 1) (by simp at h1; omega) fun y hy => h2 y (by simp [hy])
    have h4 := h2 (l, F) (by simp)
    have h5 : b = (b - 1) + 1 := by simp at h1; omega
    rw [h5, Nat.add_mul]; simp only at h4; omega

theorem patsOf_small {w k : Int} {ls : List (List Int × List Nat)} (h : ls.map (·.1) = patsOf w k) : total ls ≤ 4096 * 4 := by
  unfold patsOf at h
  split at h
  · rename_i hc
    have hl := congrArg List.length h
    rw [List.length_map] at hl
    refine total_le ?_ fun x hx => ?_
    · rw [hl]
      exact Nat.le_trans (pats_length (by omega) (by omega) (by omega)) (Nat.le_trans (Nat.pow_le_pow_right (by omega) (show w.toNat ≤ 4 by omega)) (by decide))
    · have : x.1 ∈ pats k w.toNat := by rw [← h]; exact List.mem_map.2 ⟨x, hx, rfl⟩
      have := (pats_mem (by omega) this).1
      omega
  · have : ls = [] := by cases ls with
      | nil => rfl
      | cons _ _ => simp at h
    subst this; simp [total]

theorem lawPatternsOf_ok {H : Hp} {w k : Int} : CallK Try.prog 4 [.int .i64 w, .int .i64 k] H (fun r _ => r = .bool true) := by
  refine (CallK.enter Try.func4 rfl rfl Try.ntmps4 Try.results4 rfl ?_)
  repeat' (first | refine Run.seq ?_ | refine Run.region (by kernel_rfl) ?_ | refine Ops.nil ?_ | refine Ops.move (by conv => lhs; whnf) ?_ | refine Ops.assign (by conv => lhs; whnf) ?_ | refine Run.cond_t rfl rfl ?_ | refine Run.cond_f rfl rfl ?_ | refine Run.skip ?_ | refine Run.exit ?_ | refine Run.block ?_ | refine Ops.len (by assumption) (by kernel_rfl) ?_ | refine Ops.len (Ac.sl (by assumption)) (by kernel_rfl) ?_ | refine Ops.add rfl rfl (by omega) (by omega) ?_ | refine Ops.sub rfl rfl (by omega) (by omega) ?_ | refine Ops.not_t rfl ?_ | refine Ops.not_f rfl ?_ | refine Ops.pick_t rfl (by conv => lhs; whnf) ?_ | refine Ops.pick_f rfl (by conv => lhs; whnf) ?_ | refine Ops.un rfl rfl ?_ | refine Ops.no rfl rfl rfl ?_ | refine Ops.no_u rfl rfl ?_)
  refine Ops.call specPatternsOf_ok (fun _ _ h _ => h.1.ge') fun v5 H1 => ?_
  rintro ⟨c1, s5⟩
  repeat' (first | refine Run.seq ?_ | refine Run.region (by kernel_rfl) ?_ | refine Ops.nil ?_ | refine Ops.move (by conv => lhs; whnf) ?_ | refine Ops.assign (by conv => lhs; whnf) ?_ | refine Run.cond_t rfl rfl ?_ | refine Run.cond_f rfl rfl ?_ | refine Run.skip ?_ | refine Run.exit ?_ | refine Run.block ?_ | refine Ops.len (by assumption) (by kernel_rfl) ?_ | refine Ops.len (Ac.sl (by assumption)) (by kernel_rfl) ?_ | refine Ops.add rfl rfl (by omega) (by omega) ?_ | refine Ops.sub rfl rfl (by omega) (by omega) ?_ | refine Ops.not_t rfl ?_ | refine Ops.not_f rfl ?_ | refine Ops.pick_t rfl (by conv => lhs; whnf) ?_ | refine Ops.pick_f rfl (by conv => lhs; whnf) ?_ | refine Ops.un rfl rfl ?_ | refine Ops.no rfl rfl rfl ?_ | refine Ops.no_u rfl rfl ?_)
  refine Ops.call PatternsOf_ok (fun _ _ h _ => h.1.ge') fun v6 H2 => ?_
  rintro ⟨c2, ls, o6, hls⟩
  have s5' := s5
  have s5 := s5.calm c2
  have s6 := o6.sl.forget
  rw [hls] at s6
  have htot := patsOf_small hls
  repeat' (first | refine Run.seq ?_ | refine Run.region (by kernel_rfl) ?_ | refine Ops.nil ?_ | refine Ops.move (by conv => lhs; whnf) ?_ | refine Ops.assign (by conv => lhs; whnf) ?_ | refine Run.cond_t rfl rfl ?_ | refine Run.cond_f rfl rfl ?_ | refine Run.skip ?_ | refine Run.exit ?_ | refine Run.block ?_ | refine Ops.len (by assumption) (by kernel_rfl) ?_ | refine Ops.len (Ac.sl (by assumption)) (by kernel_rfl) ?_ | refine Ops.add rfl rfl (by omega) (by omega) ?_ | refine Ops.sub rfl rfl (by omega) (by omega) ?_ | refine Ops.not_t rfl ?_ | refine Ops.not_f rfl ?_ | refine Ops.pick_t rfl (by conv => lhs; whnf) ?_ | refine Ops.pick_f rfl (by conv => lhs; whnf) ?_ | refine Ops.un rfl rfl ?_ | refine Ops.no rfl rfl rfl ?_ | refine Ops.no_u rfl rfl ?_)
  refine Ops.callB (eqIntSS_ok s6 s5) (fun hc => ?_) (fun hc => ?_)
  · repeat' (first | refine Run.seq ?_ | refine Run.region (by kernel_rfl) ?_ | refine Ops.nil ?_ | refine Ops.move (by conv => lhs; whnf) ?_ | refine Ops.assign (by conv => lhs; whnf) ?_ | refine Run.cond_t rfl rfl ?_ | refine Run.cond_f rfl rfl ?_ | refine Run.skip ?_ | refine Run.exit ?_ | refine Run.block ?_ | refine Ops.len (by assumption) (by kernel_rfl) ?_ | refine Ops.len (Ac.sl (by assumption)) (by kernel_rfl) ?_ | refine Ops.add rfl rfl (by omega) (by omega) ?_ | refine Ops.sub rfl rfl (by omega) (by omega) ?_ | refine Ops.not_t rfl ?_ | refine Ops.not_f rfl ?_ | refine Ops.pick_t rfl (by conv => lhs; whnf) ?_ | refine Ops.pick_f rfl (by conv => lhs; whnf) ?_ | refine Ops.un rfl rfl ?_ | refine Ops.no rfl rfl rfl ?_ | refine Ops.no_u rfl rfl ?_)
    refine Ops.call (markIntSS_ok o6 (by omega) (by omega)) (fun _ _ _ hf => by cases hf) fun r H3 => ?_
    rintro ⟨rfl, o7, m7⟩
    have c3 : Calm H1 H3 := m7.calm c2 fun f hf => (o6.own f hf).2.2
    repeat' (first | refine Run.seq ?_ | refine Run.region (by kernel_rfl) ?_ | refine Ops.nil ?_ | refine Ops.move (by conv => lhs; whnf) ?_ | refine Ops.assign (by conv => lhs; whnf) ?_ | refine Run.cond_t rfl rfl ?_ | refine Run.cond_f rfl rfl ?_ | refine Run.skip ?_ | refine Run.exit ?_ | refine Run.block ?_ | refine Ops.len (by assumption) (by kernel_rfl) ?_ | refine Ops.len (Ac.sl (by assumption)) (by kernel_rfl) ?_ | refine Ops.add rfl rfl (by omega) (by omega) ?_ | refine Ops.sub rfl rfl (by omega) (by omega) ?_ | refine Ops.not_t rfl ?_ | refine Ops.not_f rfl ?_ | refine Ops.pick_t rfl (by conv => lhs; whnf) ?_ | refine Ops.pick_f rfl (by conv => lhs; whnf) ?_ | refine Ops.un rfl rfl ?_ | refine Ops.no rfl rfl rfl ?_ | refine Ops.no_u rfl rfl ?_)
    refine Ops.callE (heldIntSS_ok o7.sl (by omega) (by omega)) ?_
    repeat' (first | refine Run.seq ?_ | refine Run.region (by kernel_rfl) ?_ | refine Ops.nil ?_ | refine Ops.move (by conv => lhs; whnf) ?_ | refine Ops.assign (by conv => lhs; whnf) ?_ | refine Run.cond_t rfl rfl ?_ | refine Run.cond_f rfl rfl ?_ | refine Run.skip ?_ | refine Run.exit ?_ | refine Run.block ?_ | refine Ops.len (by assumption) (by kernel_rfl) ?_ | refine Ops.len (Ac.sl (by assumption)) (by kernel_rfl) ?_ | refine Ops.add rfl rfl (by omega) (by omega) ?_ | refine Ops.sub rfl rfl (by omega) (by omega) ?_ | refine Ops.not_t rfl ?_ | refine Ops.not_f rfl ?_ | refine Ops.pick_t rfl (by conv => lhs; whnf) ?_ | refine Ops.pick_f rfl (by conv => lhs; whnf) ?_ | refine Ops.un rfl rfl ?_ | refine Ops.no rfl rfl rfl ?_ | refine Ops.no_u rfl rfl ?_)
    refine Ops.cmp rfl rfl rfl (fun hc => ?_) (fun hc => ?_)
    · omega
    · repeat' (first | refine Run.seq ?_ | refine Run.region (by kernel_rfl) ?_ | refine Ops.nil ?_ | refine Ops.move (by conv => lhs; whnf) ?_ | refine Ops.assign (by conv => lhs; whnf) ?_ | refine Run.cond_t rfl rfl ?_ | refine Run.cond_f rfl rfl ?_ | refine Run.skip ?_ | refine Run.exit ?_ | refine Run.block ?_ | refine Ops.len (by assumption) (by kernel_rfl) ?_ | refine Ops.len (Ac.sl (by assumption)) (by kernel_rfl) ?_ | refine Ops.add rfl rfl (by omega) (by omega) ?_ | refine Ops.sub rfl rfl (by omega) (by omega) ?_ | refine Ops.not_t rfl ?_ | refine Ops.not_f rfl ?_ | refine Ops.pick_t rfl (by conv => lhs; whnf) ?_ | refine Ops.pick_f rfl (by conv => lhs; whnf) ?_ | refine Ops.un rfl rfl ?_ | refine Ops.no rfl rfl rfl ?_ | refine Ops.no_u rfl rfl ?_)
      refine Ops.cmpn rfl rfl (fun hc2 => ?_) (fun hc2 => ?_)
      · contradiction
      · repeat' (first | refine Run.seq ?_ | refine Run.region (by kernel_rfl) ?_ | refine Ops.nil ?_ | refine Ops.move (by conv => lhs; whnf) ?_ | refine Ops.assign (by conv => lhs; whnf) ?_ | refine Run.cond_t rfl rfl ?_ | refine Run.cond_f rfl rfl ?_ | refine Run.skip ?_ | refine Run.exit ?_ | refine Run.block ?_ | refine Ops.len (by assumption) (by kernel_rfl) ?_ | refine Ops.len (Ac.sl (by assumption)) (by kernel_rfl) ?_ | refine Ops.add rfl rfl (by omega) (by omega) ?_ | refine Ops.sub rfl rfl (by omega) (by omega) ?_ | refine Ops.not_t rfl ?_ | refine Ops.not_f rfl ?_ | refine Ops.pick_t rfl (by conv => lhs; whnf) ?_ | refine Ops.pick_f rfl (by conv => lhs; whnf) ?_ | refine Ops.un rfl rfl ?_ | refine Ops.no rfl rfl rfl ?_ | refine Ops.no_u rfl rfl ?_)
        refine Ops.call PatternsOf_ok (fun _ _ h _ => h.1.ge') fun v9 H4 => ?_
        rintro ⟨c4, ms, o9, hms⟩
        have s9 := o9.sl.forget
        rw [hms] at s9
        have s5' := s5'.calm (c3.trans c4)
        repeat' (first | refine Run.seq ?_ | refine Run.region (by kernel_rfl) ?_ | refine Ops.nil ?_ | refine Ops.move (by conv => lhs; whnf) ?_ | refine Ops.assign (by conv => lhs; whnf) ?_ | refine Run.cond_t rfl rfl ?_ | refine Run.cond_f rfl rfl ?_ | refine Run.skip ?_ | refine Run.exit ?_ | refine Run.block ?_ | refine Ops.len (by assumption) (by kernel_rfl) ?_ | refine Ops.len (Ac.sl (by assumption)) (by kernel_rfl) ?_ | refine Ops.add rfl rfl (by omega) (by omega) ?_ | refine Ops.sub rfl rfl (by omega) (by omega) ?_ | refine Ops.not_t rfl ?_ | refine Ops.not_f rfl ?_ | refine Ops.pick_t rfl (by conv => lhs; whnf) ?_ | refine Ops.pick_f rfl (by conv => lhs; whnf) ?_ | refine Ops.un rfl rfl ?_ | refine Ops.no rfl rfl rfl ?_ | refine Ops.no_u rfl rfl ?_)
        refine Ops.callB (eqIntSS_ok s9 s5') (fun hc3 => ?_) (fun hc3 => ?_)
        · repeat' (first | refine Run.seq ?_ | refine Run.region (by kernel_rfl) ?_ | refine Ops.nil ?_ | refine Ops.move (by conv => lhs; whnf) ?_ | refine Ops.assign (by conv => lhs; whnf) ?_ | refine Run.cond_t rfl rfl ?_ | refine Run.cond_f rfl rfl ?_ | refine Run.skip ?_ | refine Run.exit ?_ | refine Run.block ?_ | refine Ops.len (by assumption) (by kernel_rfl) ?_ | refine Ops.len (Ac.sl (by assumption)) (by kernel_rfl) ?_ | refine Ops.add rfl rfl (by omega) (by omega) ?_ | refine Ops.sub rfl rfl (by omega) (by omega) ?_ | refine Ops.not_t rfl ?_ | refine Ops.not_f rfl ?_ | refine Ops.pick_t rfl (by conv => lhs; whnf) ?_ | refine Ops.pick_f rfl (by conv => lhs; whnf) ?_ | refine Ops.un rfl rfl ?_ | refine Ops.no rfl rfl rfl ?_ | refine Ops.no_u rfl rfl ?_)
          refine Ops.callE (heldIntSS_ok (o7.sl.calm c4) (by omega) (by omega)) ?_
          repeat' (first | refine Run.seq ?_ | refine Run.region (by kernel_rfl) ?_ | refine Ops.nil ?_ | refine Ops.move (by conv => lhs; whnf) ?_ | refine Ops.assign (by conv => lhs; whnf) ?_ | refine Run.cond_t rfl rfl ?_ | refine Run.cond_f rfl rfl ?_ | refine Run.skip ?_ | refine Run.exit ?_ | refine Run.block ?_ | refine Ops.len (by assumption) (by kernel_rfl) ?_ | refine Ops.len (Ac.sl (by assumption)) (by kernel_rfl) ?_ | refine Ops.add rfl rfl (by omega) (by omega) ?_ | refine Ops.sub rfl rfl (by omega) (by omega) ?_ | refine Ops.not_t rfl ?_ | refine Ops.not_f rfl ?_ | refine Ops.pick_t rfl (by conv => lhs; whnf) ?_ | refine Ops.pick_f rfl (by conv => lhs; whnf) ?_ | refine Ops.un rfl rfl ?_ | refine Ops.no rfl rfl rfl ?_ | refine Ops.no_u rfl rfl ?_)
          refine Ops.cmp rfl rfl rfl (fun hc3 => ?_) (fun hc3 => ?_)
          · omega
          · repeat' (first | refine Run.seq ?_ | refine Run.region (by kernel_rfl) ?_ | refine Ops.nil ?_ | refine Ops.move (by conv => lhs; whnf) ?_ | refine Ops.assign (by conv => lhs; whnf) ?_ | refine Run.cond_t rfl rfl ?_ | refine Run.cond_f rfl rfl ?_ | refine Run.skip ?_ | refine Run.exit ?_ | refine Run.block ?_ | refine Ops.len (by assumption) (by kernel_rfl) ?_ | refine Ops.len (Ac.sl (by assumption)) (by kernel_rfl) ?_ | refine Ops.add rfl rfl (by omega) (by omega) ?_ | refine Ops.sub rfl rfl (by omega) (by omega) ?_ | refine Ops.not_t rfl ?_ | refine Ops.not_f rfl ?_ | refine Ops.pick_t rfl (by conv => lhs; whnf) ?_ | refine Ops.pick_f rfl (by conv => lhs; whnf) ?_ | refine Ops.un rfl rfl ?_ | refine Ops.no rfl rfl rfl ?_ | refine Ops.no_u rfl rfl ?_)
            refine Ops.cmpn rfl rfl (fun hc4 => ?_) (fun hc4 => ?_)
            · contradiction
            · repeat' (first | refine Run.seq ?_ | refine Run.region (by kernel_rfl) ?_ | refine Ops.nil ?_ | refine Ops.move (by conv => lhs; whnf) ?_ | refine Ops.assign (by conv => lhs; whnf) ?_ | refine Run.cond_t rfl rfl ?_ | refine Run.cond_f rfl rfl ?_ | refine Run.skip ?_ | refine Run.exit ?_ | refine Run.block ?_ | refine Ops.len (by assumption) (by kernel_rfl) ?_ | refine Ops.len (Ac.sl (by assumption)) (by kernel_rfl) ?_ | refine Ops.add rfl rfl (by omega) (by omega) ?_ | refine Ops.sub rfl rfl (by omega) (by omega) ?_ | refine Ops.not_t rfl ?_ | refine Ops.not_f rfl ?_ | refine Ops.pick_t rfl (by conv => lhs; whnf) ?_ | refine Ops.pick_f rfl (by conv => lhs; whnf) ?_ | refine Ops.un rfl rfl ?_ | refine Ops.no rfl rfl rfl ?_ | refine Ops.no_u rfl rfl ?_)
              refine Run.ret ⟨.inl rfl, ResK.tmp rfl (by conv => lhs; whnf) (ResK.nil ?_)⟩
              rfl
        · simp at hc3
  · simp at hc

end Go.Proofs.Ytefmjpbmdoebaaa
