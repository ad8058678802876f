/- Part 3 of the proof of a law; no condition. The last part has the theorem. -/
import Derived.Test.YtefmjpbmdoebaaaZFnExactWidenSet2
import Derived.MapKept

/- What is a set of orbits: the program's and the reference's functions. -/
set_option linter.unusedVariables false
namespace Go.Proofs.Ytefmjpbmdoebaaa
open Go Go.RowKit

theorem l1Same_ok {H : Hp} {v w : Value} {l m : List Int} (h1 : Sl cI H v l) (h2 : Sl cI H w m) : acall Try.prog 94 [v, w] H (.bool (dec (l = m))) H := by
  have hmx := h1.max
  simp only [maxLen] at hmx
  refine CallK.eq (CallK.enter Try.func94 rfl rfl Try.ntmps94 Try.results94 rfl ?_)
  repeat' (first|refine wA ?_|refine wB ?_|refine wH ?_|refine wI ?_|refine wJ ?_|refine wC ?_|refine wD ?_|refine wE ?_|refine wF ?_|refine wG ?_|refine wK ?_|refine wL ?_|refine wM ?_|refine wN ?_|refine wO ?_|refine wP ?_|refine wQ ?_|refine wR ?_|refine wS ?_|refine wT ?_|refine wU ?_|refine wV ?_|refine wW ?_|refine wX ?_)
  refine Ops.cmpn rfl rfl (fun hc => ?_) (fun hc => ?_)
  · repeat' (first|refine wA ?_|refine wB ?_|refine wH ?_|refine wI ?_|refine wJ ?_|refine wC ?_|refine wD ?_|refine wE ?_|refine wF ?_|refine wG ?_|refine wK ?_|refine wL ?_|refine wM ?_|refine wN ?_|refine wO ?_|refine wP ?_|refine wQ ?_|refine wR ?_|refine wS ?_|refine wT ?_|refine wU ?_|refine wV ?_|refine wW ?_|refine wX ?_)
    refine Run.ret ⟨.inl rfl, ResK.tmp rfl (by conv => lhs; whnf) (ResK.nil ?_)⟩
    exact ⟨by rw [dec_f (fun h => by subst h; contradiction)]; rfl, rfl⟩
  · repeat' (first|refine wA ?_|refine wB ?_|refine wH ?_|refine wI ?_|refine wJ ?_|refine wC ?_|refine wD ?_|refine wE ?_|refine wF ?_|refine wG ?_|refine wK ?_|refine wL ?_|refine wM ?_|refine wN ?_|refine wO ?_|refine wP ?_|refine wQ ?_|refine wR ?_|refine wS ?_|refine wT ?_|refine wU ?_|refine wV ?_|refine wW ?_|refine wX ?_)
    refine Run.loopW (fun i => l.length - i) (fun (i : Nat) => up (up (up jk 0 v) 1 w) 5 (.int .i64 (i : Int))) (fun _ => H) (fun i => i ≤ l.length ∧ l.take i = m.take i) 0 rfl (by repeat (first | exact Wk.jk | refine Wk.up rfl ?_)) ⟨by omega, by simp⟩ ?_
    rintro i ⟨hi, hx⟩
    repeat' (first|refine wA ?_|refine wB ?_|refine wH ?_|refine wI ?_|refine wJ ?_|refine wC ?_|refine wD ?_|refine wE ?_|refine wF ?_|refine wG ?_|refine wK ?_|refine wL ?_|refine wM ?_|refine wN ?_|refine wO ?_|refine wP ?_|refine wQ ?_|refine wR ?_|refine wS ?_|refine wT ?_|refine wU ?_|refine wV ?_|refine wW ?_|refine wX ?_)
    refine Ops.cmp rfl rfl rfl (fun hc2 => ?_) (fun hc2 => ?_)
    · repeat' (first|refine wA ?_|refine wB ?_|refine wH ?_|refine wI ?_|refine wJ ?_|refine wC ?_|refine wD ?_|refine wE ?_|refine wF ?_|refine wG ?_|refine wK ?_|refine wL ?_|refine wM ?_|refine wN ?_|refine wO ?_|refine wP ?_|refine wQ ?_|refine wR ?_|refine wS ?_|refine wT ?_|refine wU ?_|refine wV ?_|refine wW ?_|refine wX ?_)
      refine Run.draw [0, 1, 2, 3, 4, 5, 6, 7, 8] Try.checked.mixed (by kernel_rfl) ?_
      repeat' (first|refine wA ?_|refine wB ?_|refine wH ?_|refine wI ?_|refine wJ ?_|refine wC ?_|refine wD ?_|refine wE ?_|refine wF ?_|refine wG ?_|refine wK ?_|refine wL ?_|refine wM ?_|refine wN ?_|refine wO ?_|refine wP ?_|refine wQ ?_|refine wR ?_|refine wS ?_|refine wT ?_|refine wU ?_|refine wV ?_|refine wW ?_|refine wX ?_)
      refine Ops.idxI h1 rfl (by omega) (by omega) (by kernel_rfl) (by kernel_rfl) fun pz a ha => ?_
      have ha' : l[i]? = some a := ha
      repeat' (first|refine wA ?_|refine wB ?_|refine wH ?_|refine wI ?_|refine wJ ?_|refine wC ?_|refine wD ?_|refine wE ?_|refine wF ?_|refine wG ?_|refine wK ?_|refine wL ?_|refine wM ?_|refine wN ?_|refine wO ?_|refine wP ?_|refine wQ ?_|refine wR ?_|refine wS ?_|refine wT ?_|refine wU ?_|refine wV ?_|refine wW ?_|refine wX ?_)
      refine Ops.idxI h2 rfl (by omega) (by omega) (by kernel_rfl) (by kernel_rfl) fun pz b hb => ?_
      have hb' : m[i]? = some b := hb
      repeat' (first|refine wA ?_|refine wB ?_|refine wH ?_|refine wI ?_|refine wJ ?_|refine wC ?_|refine wD ?_|refine wE ?_|refine wF ?_|refine wG ?_|refine wK ?_|refine wL ?_|refine wM ?_|refine wN ?_|refine wO ?_|refine wP ?_|refine wQ ?_|refine wR ?_|refine wS ?_|refine wT ?_|refine wU ?_|refine wV ?_|refine wW ?_|refine wX ?_)
      refine Ops.cmpn rfl rfl (fun hc3 => ?_) (fun hc3 => ?_)
      · repeat' (first|refine wA ?_|refine wB ?_|refine wH ?_|refine wI ?_|refine wJ ?_|refine wC ?_|refine wD ?_|refine wE ?_|refine wF ?_|refine wG ?_|refine wK ?_|refine wL ?_|refine wM ?_|refine wN ?_|refine wO ?_|refine wP ?_|refine wQ ?_|refine wR ?_|refine wS ?_|refine wT ?_|refine wU ?_|refine wV ?_|refine wW ?_|refine wX ?_)
        refine Run.ret ⟨.inl rfl, ResK.tmp rfl (by conv => lhs; whnf) (ResK.nil ?_)⟩
        exact ⟨by rw [dec_f (fun h => by subst h; rw [ha'] at hb'; cases hb'; contradiction)]; rfl, rfl⟩
      · repeat' (first|refine wA ?_|refine wB ?_|refine wH ?_|refine wI ?_|refine wJ ?_|refine wC ?_|refine wD ?_|refine wE ?_|refine wF ?_|refine wG ?_|refine wK ?_|refine wL ?_|refine wM ?_|refine wN ?_|refine wO ?_|refine wP ?_|refine wQ ?_|refine wR ?_|refine wS ?_|refine wT ?_|refine wU ?_|refine wV ?_|refine wW ?_|refine wX ?_)
        refine ⟨i + 1, by dsimp only; omega, rfl, rfl, by dsimp only; exact (by repeat (first | exact Wk.jk | refine Wk.up rfl ?_)), ?_⟩
        refine ⟨by omega, ?_⟩
        rw [take_snoc ha', take_snoc hb', hx, hc3]
    · repeat' (first|refine wA ?_|refine wB ?_|refine wH ?_|refine wI ?_|refine wJ ?_|refine wC ?_|refine wD ?_|refine wE ?_|refine wF ?_|refine wG ?_|refine wK ?_|refine wL ?_|refine wM ?_|refine wN ?_|refine wO ?_|refine wP ?_|refine wQ ?_|refine wR ?_|refine wS ?_|refine wT ?_|refine wU ?_|refine wV ?_|refine wW ?_|refine wX ?_)
      refine Run.ret ⟨.inl rfl, ResK.tmp rfl (by conv => lhs; whnf) (ResK.nil ?_)⟩
      have hil : i = l.length := by omega
      subst hil
      rw [list_eq_of (l := l) (m := m) (by omega) hx]
      exact ⟨by rw [dec_t rfl]; rfl, rfl⟩

theorem l1Less_ok {H : Hp} {v w : Value} {l m : List Int} (h1 : Sl cI H v l) (h2 : Sl cI H w m) : acall Try.prog 72 [v, w] H (.bool (dec (cmpL l m < 0))) H := by
  have hmx := h1.max
  simp only [maxLen] at hmx
  refine CallK.eq (CallK.enter Try.func72 rfl rfl Try.ntmps72 Try.results72 rfl ?_)
  repeat' (first|refine wA ?_|refine wB ?_|refine wH ?_|refine wI ?_|refine wJ ?_|refine wC ?_|refine wD ?_|refine wE ?_|refine wF ?_|refine wG ?_|refine wK ?_|refine wL ?_|refine wM ?_|refine wN ?_|refine wO ?_|refine wP ?_|refine wQ ?_|refine wR ?_|refine wS ?_|refine wT ?_|refine wU ?_|refine wV ?_|refine wW ?_|refine wX ?_)
  refine Run.loopW (fun i => l.length - i) (fun (i : Nat) => up (up (up jk 0 v) 1 w) 5 (.int .i64 (i : Int))) (fun _ => H) (fun i => i ≤ l.length ∧ i ≤ m.length ∧ cmpL l m = cmpL (l.drop i) (m.drop i)) 0 rfl (by repeat (first | exact Wk.jk | refine Wk.up rfl ?_)) ⟨by omega, by omega, by simp⟩ ?_
  rintro i ⟨hi, hj, hx⟩
  have last : i = l.length ∨ i = m.length → (l.length < m.length ∧ dec (cmpL l m < 0) = true) ∨ (¬ l.length < m.length ∧ dec (cmpL l m < 0) = false) := fun ho => by
    rw [hx, cmpL_end ho hi hj]
    by_cases h5 : l.length < m.length
    · exact .inl ⟨h5, by rw [if_pos h5]; exact dec_t (by decide)⟩
    · refine .inr ⟨h5, ?_⟩
      rw [if_neg h5]
      split <;> exact dec_f (by decide)
  repeat' (first|refine wA ?_|refine wB ?_|refine wH ?_|refine wI ?_|refine wJ ?_|refine wC ?_|refine wD ?_|refine wE ?_|refine wF ?_|refine wG ?_|refine wK ?_|refine wL ?_|refine wM ?_|refine wN ?_|refine wO ?_|refine wP ?_|refine wQ ?_|refine wR ?_|refine wS ?_|refine wT ?_|refine wU ?_|refine wV ?_|refine wW ?_|refine wX ?_)
  refine Ops.cmp rfl rfl rfl (fun hc2 => ?_) (fun hc2 => ?_)
  · repeat' (first|refine wA ?_|refine wB ?_|refine wH ?_|refine wI ?_|refine wJ ?_|refine wC ?_|refine wD ?_|refine wE ?_|refine wF ?_|refine wG ?_|refine wK ?_|refine wL ?_|refine wM ?_|refine wN ?_|refine wO ?_|refine wP ?_|refine wQ ?_|refine wR ?_|refine wS ?_|refine wT ?_|refine wU ?_|refine wV ?_|refine wW ?_|refine wX ?_)
    refine Ops.cmp rfl rfl rfl (fun hc3 => ?_) (fun hc3 => ?_)
    · repeat' (first|refine wA ?_|refine wB ?_|refine wH ?_|refine wI ?_|refine wJ ?_|refine wC ?_|refine wD ?_|refine wE ?_|refine wF ?_|refine wG ?_|refine wK ?_|refine wL ?_|refine wM ?_|refine wN ?_|refine wO ?_|refine wP ?_|refine wQ ?_|refine wR ?_|refine wS ?_|refine wT ?_|refine wU ?_|refine wV ?_|refine wW ?_|refine wX ?_)
      refine Run.draw [0, 1, 2, 3, 4, 5, 6, 7, 8] Try.checked.mixed (by kernel_rfl) ?_
      repeat' (first|refine wA ?_|refine wB ?_|refine wH ?_|refine wI ?_|refine wJ ?_|refine wC ?_|refine wD ?_|refine wE ?_|refine wF ?_|refine wG ?_|refine wK ?_|refine wL ?_|refine wM ?_|refine wN ?_|refine wO ?_|refine wP ?_|refine wQ ?_|refine wR ?_|refine wS ?_|refine wT ?_|refine wU ?_|refine wV ?_|refine wW ?_|refine wX ?_)
      refine Ops.idxI h1 rfl (by omega) (by omega) (by kernel_rfl) (by kernel_rfl) fun pz a ha => ?_
      have ha' : l[i]? = some a := ha
      repeat' (first|refine wA ?_|refine wB ?_|refine wH ?_|refine wI ?_|refine wJ ?_|refine wC ?_|refine wD ?_|refine wE ?_|refine wF ?_|refine wG ?_|refine wK ?_|refine wL ?_|refine wM ?_|refine wN ?_|refine wO ?_|refine wP ?_|refine wQ ?_|refine wR ?_|refine wS ?_|refine wT ?_|refine wU ?_|refine wV ?_|refine wW ?_|refine wX ?_)
      refine Ops.idxI h2 rfl (by omega) (by omega) (by kernel_rfl) (by kernel_rfl) fun pz b hb => ?_
      have hb' : m[i]? = some b := hb
      have e := cmpL_step ha' hb'
      repeat' (first|refine wA ?_|refine wB ?_|refine wH ?_|refine wI ?_|refine wJ ?_|refine wC ?_|refine wD ?_|refine wE ?_|refine wF ?_|refine wG ?_|refine wK ?_|refine wL ?_|refine wM ?_|refine wN ?_|refine wO ?_|refine wP ?_|refine wQ ?_|refine wR ?_|refine wS ?_|refine wT ?_|refine wU ?_|refine wV ?_|refine wW ?_|refine wX ?_)
      refine Ops.cmpn rfl rfl (fun hc4 => ?_) (fun hc4 => ?_)
      · repeat' (first|refine wA ?_|refine wB ?_|refine wH ?_|refine wI ?_|refine wJ ?_|refine wC ?_|refine wD ?_|refine wE ?_|refine wF ?_|refine wG ?_|refine wK ?_|refine wL ?_|refine wM ?_|refine wN ?_|refine wO ?_|refine wP ?_|refine wQ ?_|refine wR ?_|refine wS ?_|refine wT ?_|refine wU ?_|refine wV ?_|refine wW ?_|refine wX ?_)
        refine Run.draw [0, 1, 2, 3, 4, 5, 6, 7, 8, 9] Try.checked.mixed (by kernel_rfl) ?_
        repeat' (first|refine wA ?_|refine wB ?_|refine wH ?_|refine wI ?_|refine wJ ?_|refine wC ?_|refine wD ?_|refine wE ?_|refine wF ?_|refine wG ?_|refine wK ?_|refine wL ?_|refine wM ?_|refine wN ?_|refine wO ?_|refine wP ?_|refine wQ ?_|refine wR ?_|refine wS ?_|refine wT ?_|refine wU ?_|refine wV ?_|refine wW ?_|refine wX ?_)
        refine Ops.idxI h1 rfl (by omega) (by omega) (by kernel_rfl) (by kernel_rfl) fun pz a2 ha2 => ?_
        have ha2' : l[i]? = some a2 := ha2
        rw [ha'] at ha2'
        obtain rfl := Option.some.inj ha2'
        repeat' (first|refine wA ?_|refine wB ?_|refine wH ?_|refine wI ?_|refine wJ ?_|refine wC ?_|refine wD ?_|refine wE ?_|refine wF ?_|refine wG ?_|refine wK ?_|refine wL ?_|refine wM ?_|refine wN ?_|refine wO ?_|refine wP ?_|refine wQ ?_|refine wR ?_|refine wS ?_|refine wT ?_|refine wU ?_|refine wV ?_|refine wW ?_|refine wX ?_)
        refine Ops.idxI h2 rfl (by omega) (by omega) (by kernel_rfl) (by kernel_rfl) fun pz b2 hb2 => ?_
        have hb2' : m[i]? = some b2 := hb2
        rw [hb'] at hb2'
        obtain rfl := Option.some.inj hb2'
        repeat' (first|refine wA ?_|refine wB ?_|refine wH ?_|refine wI ?_|refine wJ ?_|refine wC ?_|refine wD ?_|refine wE ?_|refine wF ?_|refine wG ?_|refine wK ?_|refine wL ?_|refine wM ?_|refine wN ?_|refine wO ?_|refine wP ?_|refine wQ ?_|refine wR ?_|refine wS ?_|refine wT ?_|refine wU ?_|refine wV ?_|refine wW ?_|refine wX ?_)
        refine Ops.cmp rfl rfl rfl (fun hc5 => ?_) (fun hc5 => ?_)
        · repeat' (first|refine wA ?_|refine wB ?_|refine wH ?_|refine wI ?_|refine wJ ?_|refine wC ?_|refine wD ?_|refine wE ?_|refine wF ?_|refine wG ?_|refine wK ?_|refine wL ?_|refine wM ?_|refine wN ?_|refine wO ?_|refine wP ?_|refine wQ ?_|refine wR ?_|refine wS ?_|refine wT ?_|refine wU ?_|refine wV ?_|refine wW ?_|refine wX ?_)
          refine Run.ret ⟨.inl rfl, ResK.tmp rfl (by conv => lhs; whnf) (ResK.nil ?_)⟩
          exact ⟨by rw [hx, e, if_pos hc5, dec_t (by decide)]; rfl, rfl⟩
        · repeat' (first|refine wA ?_|refine wB ?_|refine wH ?_|refine wI ?_|refine wJ ?_|refine wC ?_|refine wD ?_|refine wE ?_|refine wF ?_|refine wG ?_|refine wK ?_|refine wL ?_|refine wM ?_|refine wN ?_|refine wO ?_|refine wP ?_|refine wQ ?_|refine wR ?_|refine wS ?_|refine wT ?_|refine wU ?_|refine wV ?_|refine wW ?_|refine wX ?_)
          refine Run.ret ⟨.inl rfl, ResK.tmp rfl (by conv => lhs; whnf) (ResK.nil ?_)⟩
          exact ⟨by rw [hx, e, if_neg hc5, if_pos (by omega), dec_f (by decide)]; rfl, rfl⟩
      · repeat' (first|refine wA ?_|refine wB ?_|refine wH ?_|refine wI ?_|refine wJ ?_|refine wC ?_|refine wD ?_|refine wE ?_|refine wF ?_|refine wG ?_|refine wK ?_|refine wL ?_|refine wM ?_|refine wN ?_|refine wO ?_|refine wP ?_|refine wQ ?_|refine wR ?_|refine wS ?_|refine wT ?_|refine wU ?_|refine wV ?_|refine wW ?_|refine wX ?_)
        refine ⟨i + 1, by dsimp only; omega, rfl, rfl, by dsimp only; exact (by repeat (first | exact Wk.jk | refine Wk.up rfl ?_)), ?_⟩
        refine ⟨by omega, by omega, ?_⟩
        rw [hx, e, if_neg (by omega), if_neg (by omega)]
    · repeat' (first|refine wA ?_|refine wB ?_|refine wH ?_|refine wI ?_|refine wJ ?_|refine wC ?_|refine wD ?_|refine wE ?_|refine wF ?_|refine wG ?_|refine wK ?_|refine wL ?_|refine wM ?_|refine wN ?_|refine wO ?_|refine wP ?_|refine wQ ?_|refine wR ?_|refine wS ?_|refine wT ?_|refine wU ?_|refine wV ?_|refine wW ?_|refine wX ?_)
      have hl := last (.inr (by omega))
      refine Ops.cmp rfl rfl rfl (fun hc4 => ?_) (fun hc4 => ?_)
      · repeat' (first|refine wA ?_|refine wB ?_|refine wH ?_|refine wI ?_|refine wJ ?_|refine wC ?_|refine wD ?_|refine wE ?_|refine wF ?_|refine wG ?_|refine wK ?_|refine wL ?_|refine wM ?_|refine wN ?_|refine wO ?_|refine wP ?_|refine wQ ?_|refine wR ?_|refine wS ?_|refine wT ?_|refine wU ?_|refine wV ?_|refine wW ?_|refine wX ?_)
        refine Run.ret ⟨.inl rfl, ResK.tmp rfl (by conv => lhs; whnf) (ResK.nil ?_)⟩
        exact ⟨by rcases hl with h5 | h5; · rw [h5.2]; rfl
                  · omega, rfl⟩
      · repeat' (first|refine wA ?_|refine wB ?_|refine wH ?_|refine wI ?_|refine wJ ?_|refine wC ?_|refine wD ?_|refine wE ?_|refine wF ?_|refine wG ?_|refine wK ?_|refine wL ?_|refine wM ?_|refine wN ?_|refine wO ?_|refine wP ?_|refine wQ ?_|refine wR ?_|refine wS ?_|refine wT ?_|refine wU ?_|refine wV ?_|refine wW ?_|refine wX ?_)
        refine Run.ret ⟨.inl rfl, ResK.tmp rfl (by conv => lhs; whnf) (ResK.nil ?_)⟩
        exact ⟨by rcases hl with h5 | h5; · omega
                  · rw [h5.2]; rfl, rfl⟩
  · repeat' (first|refine wA ?_|refine wB ?_|refine wH ?_|refine wI ?_|refine wJ ?_|refine wC ?_|refine wD ?_|refine wE ?_|refine wF ?_|refine wG ?_|refine wK ?_|refine wL ?_|refine wM ?_|refine wN ?_|refine wO ?_|refine wP ?_|refine wQ ?_|refine wR ?_|refine wS ?_|refine wT ?_|refine wU ?_|refine wV ?_|refine wW ?_|refine wX ?_)
    have hl := last (.inl (by omega))
    refine Ops.cmp rfl rfl rfl (fun hc4 => ?_) (fun hc4 => ?_)
    · repeat' (first|refine wA ?_|refine wB ?_|refine wH ?_|refine wI ?_|refine wJ ?_|refine wC ?_|refine wD ?_|refine wE ?_|refine wF ?_|refine wG ?_|refine wK ?_|refine wL ?_|refine wM ?_|refine wN ?_|refine wO ?_|refine wP ?_|refine wQ ?_|refine wR ?_|refine wS ?_|refine wT ?_|refine wU ?_|refine wV ?_|refine wW ?_|refine wX ?_)
      refine Run.ret ⟨.inl rfl, ResK.tmp rfl (by conv => lhs; whnf) (ResK.nil ?_)⟩
      exact ⟨by rcases hl with h5 | h5; · rw [h5.2]; rfl
                · omega, rfl⟩
    · repeat' (first|refine wA ?_|refine wB ?_|refine wH ?_|refine wI ?_|refine wJ ?_|refine wC ?_|refine wD ?_|refine wE ?_|refine wF ?_|refine wG ?_|refine wK ?_|refine wL ?_|refine wM ?_|refine wN ?_|refine wO ?_|refine wP ?_|refine wQ ?_|refine wR ?_|refine wS ?_|refine wT ?_|refine wU ?_|refine wV ?_|refine wW ?_|refine wX ?_)
      refine Run.ret ⟨.inl rfl, ResK.tmp rfl (by conv => lhs; whnf) (ResK.nil ?_)⟩
      exact ⟨by rcases hl with h5 | h5; · omega
                · rw [h5.2]; rfl, rfl⟩

theorem l6There_ok {H : Hp} {v w : Value} {ls : List (List Int)} {p : List Int} (h : Sl (cL cI) H v ls) (h2 : Sl cI H w p) : acall Try.prog 71 [v, w] H (.bool (dec (p ∈ ls))) H := by
  have hmx := h.max
  simp only [maxLen] at hmx
  refine CallK.eq (CallK.enter Try.func71 rfl rfl Try.ntmps71 Try.results71 rfl ?_)
  repeat' (first|refine wA ?_|refine wB ?_|refine wH ?_|refine wI ?_|refine wJ ?_|refine wC ?_|refine wD ?_|refine wE ?_|refine wF ?_|refine wG ?_|refine wK ?_|refine wL ?_|refine wM ?_|refine wN ?_|refine wO ?_|refine wP ?_|refine wQ ?_|refine wR ?_|refine wS ?_|refine wT ?_|refine wU ?_|refine wV ?_|refine wW ?_|refine wX ?_)
  refine Run.loopW (fun i => ls.length - i) (fun (i : Nat) => up (up (up (up (up jk 0 v) 1 w) 7 v) 8 (.int .i64 ls.length)) 9 (.int .i64 (i : Int))) (fun _ => H) (fun i => i ≤ ls.length ∧ p ∉ ls.take i) 0 rfl (by repeat (first | exact Wk.jk | refine Wk.up rfl ?_)) ⟨by omega, by simp⟩ ?_
  rintro i ⟨hi, hx⟩
  repeat' (first|refine wA ?_|refine wB ?_|refine wH ?_|refine wI ?_|refine wJ ?_|refine wC ?_|refine wD ?_|refine wE ?_|refine wF ?_|refine wG ?_|refine wK ?_|refine wL ?_|refine wM ?_|refine wN ?_|refine wO ?_|refine wP ?_|refine wQ ?_|refine wR ?_|refine wS ?_|refine wT ?_|refine wU ?_|refine wV ?_|refine wW ?_|refine wX ?_)
  refine Ops.cmp rfl rfl rfl (fun hc => ?_) (fun hc => ?_)
  · repeat' (first|refine wA ?_|refine wB ?_|refine wH ?_|refine wI ?_|refine wJ ?_|refine wC ?_|refine wD ?_|refine wE ?_|refine wF ?_|refine wG ?_|refine wK ?_|refine wL ?_|refine wM ?_|refine wN ?_|refine wO ?_|refine wP ?_|refine wQ ?_|refine wR ?_|refine wS ?_|refine wT ?_|refine wU ?_|refine wV ?_|refine wW ?_|refine wX ?_)
    refine Ops.idx h rfl rfl (by omega) (by omega) (by kernel_rfl) (by kernel_rfl) fun pz u a ha hu => ?_
    have ha' : ls[i]? = some a := ha
    repeat' (first|refine wA ?_|refine wB ?_|refine wH ?_|refine wI ?_|refine wJ ?_|refine wC ?_|refine wD ?_|refine wE ?_|refine wF ?_|refine wG ?_|refine wK ?_|refine wL ?_|refine wM ?_|refine wN ?_|refine wO ?_|refine wP ?_|refine wQ ?_|refine wR ?_|refine wS ?_|refine wT ?_|refine wU ?_|refine wV ?_|refine wW ?_|refine wX ?_)
    refine Ops.callB (l1Same_ok (cL_at hu) h2) (fun hc2 => ?_) (fun hc2 => ?_)
    · repeat' (first|refine wA ?_|refine wB ?_|refine wH ?_|refine wI ?_|refine wJ ?_|refine wC ?_|refine wD ?_|refine wE ?_|refine wF ?_|refine wG ?_|refine wK ?_|refine wL ?_|refine wM ?_|refine wN ?_|refine wO ?_|refine wP ?_|refine wQ ?_|refine wR ?_|refine wS ?_|refine wT ?_|refine wU ?_|refine wV ?_|refine wW ?_|refine wX ?_)
      have := of_dec_t hc2
      subst this
      refine Run.ret ⟨.inl rfl, ResK.tmp rfl (by conv => lhs; whnf) (ResK.nil ?_)⟩
      exact ⟨by rw [dec_t (List.mem_of_getElem? ha')]; rfl, rfl⟩
    · repeat' (first|refine wA ?_|refine wB ?_|refine wH ?_|refine wI ?_|refine wJ ?_|refine wC ?_|refine wD ?_|refine wE ?_|refine wF ?_|refine wG ?_|refine wK ?_|refine wL ?_|refine wM ?_|refine wN ?_|refine wO ?_|refine wP ?_|refine wQ ?_|refine wR ?_|refine wS ?_|refine wT ?_|refine wU ?_|refine wV ?_|refine wW ?_|refine wX ?_)
      refine ⟨i + 1, by dsimp only; omega, rfl, rfl, by dsimp only; exact (by repeat (first | exact Wk.jk | refine Wk.up rfl ?_)), ?_⟩
      refine ⟨by omega, fun hm => ?_⟩
      rw [take_snoc ha'] at hm
      rcases List.mem_append.1 hm with h5 | h5
      · exact hx h5
      · exact of_dec_f hc2 (List.mem_singleton.1 h5).symm
  · repeat' (first|refine wA ?_|refine wB ?_|refine wH ?_|refine wI ?_|refine wJ ?_|refine wC ?_|refine wD ?_|refine wE ?_|refine wF ?_|refine wG ?_|refine wK ?_|refine wL ?_|refine wM ?_|refine wN ?_|refine wO ?_|refine wP ?_|refine wQ ?_|refine wR ?_|refine wS ?_|refine wT ?_|refine wU ?_|refine wV ?_|refine wW ?_|refine wX ?_)
    rw [take_end (by omega)] at hx
    refine Run.ret ⟨.inl rfl, ResK.tmp rfl (by conv => lhs; whnf) (ResK.nil ?_)⟩
    exact ⟨by rw [dec_f hx]; rfl, rfl⟩

/-- Is it a set of orbits? -/
def isOS (s : OS) : Prop := 0 ≤ s.width ∧ s.width ≤ 4 ∧ isConst s.consts ∧
  ∀ (i : Nat) (p : List Int), s.pats[i]? = some p → ((p.length : Int) = s.width ∧ isPat s.consts.length p) ∧ ∀ q, 0 < i → s.pats[i - 1]? = some q → cmpL q p < 0

theorem specIsOrbitSet_ok {H : Hp} {v : Value} {s : OS} (h : cOS.ok H (cellsOf v) s) :
    CallK Try.prog 32 [v] H (fun r H' => Calm H H' ∧ r = .bool (dec (isOS s))) := by
  have hone := cOS.one h
  obtain ⟨v1, v2, hcs, s1, s2⟩ := h
  have hmx := s2.max
  simp only [maxLen] at hmx
  refine (CallK.enter Try.func32 rfl rfl Try.ntmps32 Try.results32 rfl ?_)
  repeat' (first|refine wA ?_|refine wB ?_|refine wH ?_|refine wI ?_|refine wJ ?_|refine wC ?_|refine wD ?_|refine wE ?_|refine wF ?_|refine wG ?_|refine wK ?_|refine wL ?_|refine wM ?_|refine wN ?_|refine wO ?_|refine wP ?_|refine wQ ?_|refine wR ?_|refine wS ?_|refine wT ?_|refine wU ?_|refine wV ?_|refine wW ?_|refine wX ?_)
  refine Ops.box H.nxt (Nat.le_refl _) (one_known hone) hcs (by simp) fun p1 H1 o1 c1 ap1 => ?_
  repeat' (first|refine wA ?_|refine wB ?_|refine wH ?_|refine wI ?_|refine wJ ?_|refine wC ?_|refine wD ?_|refine wE ?_|refine wF ?_|refine wG ?_|refine wK ?_|refine wL ?_|refine wM ?_|refine wN ?_|refine wO ?_|refine wP ?_|refine wQ ?_|refine wR ?_|refine wS ?_|refine wT ?_|refine wU ?_|refine wV ?_|refine wW ?_|refine wX ?_)
  refine Ops.fld 0 o1.pt (by kernel_rfl) (by kernel_rfl) rfl fun pz => ?_
  refine Ops.callB l1In_ok (fun hc => ?_) (fun hc => ?_)
  · have hwd := of_decide_eq_true hc
    repeat' (first|refine wA ?_|refine wB ?_|refine wH ?_|refine wI ?_|refine wJ ?_|refine wC ?_|refine wD ?_|refine wE ?_|refine wF ?_|refine wG ?_|refine wK ?_|refine wL ?_|refine wM ?_|refine wN ?_|refine wO ?_|refine wP ?_|refine wQ ?_|refine wR ?_|refine wS ?_|refine wT ?_|refine wU ?_|refine wV ?_|refine wW ?_|refine wX ?_)
    refine Ops.unS rfl rfl rfl ?_
    refine Ops.fld 1 o1.pt (by kernel_rfl) (by kernel_rfl) rfl fun pz => ?_
    repeat' (first|refine wA ?_|refine wB ?_|refine wH ?_|refine wI ?_|refine wJ ?_|refine wC ?_|refine wD ?_|refine wE ?_|refine wF ?_|refine wG ?_|refine wK ?_|refine wL ?_|refine wM ?_|refine wN ?_|refine wO ?_|refine wP ?_|refine wQ ?_|refine wR ?_|refine wS ?_|refine wT ?_|refine wU ?_|refine wV ?_|refine wW ?_|refine wX ?_)
    refine Ops.callB (l6Constants_ok (s1.calm c1)) (fun hcc => ?_) (fun hcc => ?_)
    · have hcc := of_dec_t hcc
      repeat' (first|refine wA ?_|refine wB ?_|refine wH ?_|refine wI ?_|refine wJ ?_|refine wC ?_|refine wD ?_|refine wE ?_|refine wF ?_|refine wG ?_|refine wK ?_|refine wL ?_|refine wM ?_|refine wN ?_|refine wO ?_|refine wP ?_|refine wQ ?_|refine wR ?_|refine wS ?_|refine wT ?_|refine wU ?_|refine wV ?_|refine wW ?_|refine wX ?_)
      refine Ops.fld 2 o1.pt (by kernel_rfl) (by kernel_rfl) rfl fun pz => ?_
      have s2' := s2.calm c1
      repeat' (first|refine wA ?_|refine wB ?_|refine wH ?_|refine wI ?_|refine wJ ?_|refine wC ?_|refine wD ?_|refine wE ?_|refine wF ?_|refine wG ?_|refine wK ?_|refine wL ?_|refine wM ?_|refine wN ?_|refine wO ?_|refine wP ?_|refine wQ ?_|refine wR ?_|refine wS ?_|refine wT ?_|refine wU ?_|refine wV ?_|refine wW ?_|refine wX ?_)
      refine Run.loopW (fun (a : Nat × Hp) => s.pats.length - a.1) (fun a => up (up (up (up jk 1 p1) 17 v2) 18 (.int .i64 s.pats.length)) 19 (.int .i64 (a.1 : Int))) (fun a => a.2)
        (fun a => a.1 ≤ s.pats.length ∧ Calm H1 a.2 ∧ ∀ (j : Nat) (p : List Int), j < a.1 → s.pats[j]? = some p → ((p.length : Int) = s.width ∧ isPat s.consts.length p) ∧ ∀ q, 0 < j → s.pats[j - 1]? = some q → cmpL q p < 0) (0, H1) rfl (by repeat (first | exact Wk.jk | refine Wk.up rfl ?_)) ⟨by dsimp only; omega, Calm.refl _, fun j p hj => by dsimp only at hj; omega⟩ ?_
      rintro ⟨i, H2⟩ ⟨hi, c2, hx⟩
      dsimp only at hi c2 hx
      dsimp only
      have s2' := s2'.calm c2
      have o2 := o1.calm c2
      repeat' (first|refine wA ?_|refine wB ?_|refine wH ?_|refine wI ?_|refine wJ ?_|refine wC ?_|refine wD ?_|refine wE ?_|refine wF ?_|refine wG ?_|refine wK ?_|refine wL ?_|refine wM ?_|refine wN ?_|refine wO ?_|refine wP ?_|refine wQ ?_|refine wR ?_|refine wS ?_|refine wT ?_|refine wU ?_|refine wV ?_|refine wW ?_|refine wX ?_)
      refine Ops.cmp rfl rfl rfl (fun hc => ?_) (fun hc => ?_)
      · repeat' (first|refine wA ?_|refine wB ?_|refine wH ?_|refine wI ?_|refine wJ ?_|refine wC ?_|refine wD ?_|refine wE ?_|refine wF ?_|refine wG ?_|refine wK ?_|refine wL ?_|refine wM ?_|refine wN ?_|refine wO ?_|refine wP ?_|refine wQ ?_|refine wR ?_|refine wS ?_|refine wT ?_|refine wU ?_|refine wV ?_|refine wW ?_|refine wX ?_)
        refine Ops.idx s2' rfl rfl (by omega) (by omega) (by kernel_rfl) (by kernel_rfl) fun pz u a ha hu => ?_
        have ha' : s.pats[i]? = some a := ha
        have hu := cL_at hu
        repeat' (first|refine wA ?_|refine wB ?_|refine wH ?_|refine wI ?_|refine wJ ?_|refine wC ?_|refine wD ?_|refine wE ?_|refine wF ?_|refine wG ?_|refine wK ?_|refine wL ?_|refine wM ?_|refine wN ?_|refine wO ?_|refine wP ?_|refine wQ ?_|refine wR ?_|refine wS ?_|refine wT ?_|refine wU ?_|refine wV ?_|refine wW ?_|refine wX ?_)
        refine Ops.fld 0 o2.pt (by kernel_rfl) (by kernel_rfl) rfl fun pz => ?_
        repeat' (first|refine wA ?_|refine wB ?_|refine wH ?_|refine wI ?_|refine wJ ?_|refine wC ?_|refine wD ?_|refine wE ?_|refine wF ?_|refine wG ?_|refine wK ?_|refine wL ?_|refine wM ?_|refine wN ?_|refine wO ?_|refine wP ?_|refine wQ ?_|refine wR ?_|refine wS ?_|refine wT ?_|refine wU ?_|refine wV ?_|refine wW ?_|refine wX ?_)
        refine Ops.cmpn rfl rfl (fun hc2 => ?_) (fun hc2 => ?_)
        · repeat' (first|refine wA ?_|refine wB ?_|refine wH ?_|refine wI ?_|refine wJ ?_|refine wC ?_|refine wD ?_|refine wE ?_|refine wF ?_|refine wG ?_|refine wK ?_|refine wL ?_|refine wM ?_|refine wN ?_|refine wO ?_|refine wP ?_|refine wQ ?_|refine wR ?_|refine wS ?_|refine wT ?_|refine wU ?_|refine wV ?_|refine wW ?_|refine wX ?_)
          refine Run.ret ⟨.inl rfl, ResK.tmp rfl (by conv => lhs; whnf) (ResK.nil ?_)⟩
          exact ⟨c1.trans c2, by rw [dec_f (fun h => hc2 ((h.2.2.2 i a ha').1.1))]; rfl⟩
        · repeat' (first|refine wA ?_|refine wB ?_|refine wH ?_|refine wI ?_|refine wJ ?_|refine wC ?_|refine wD ?_|refine wE ?_|refine wF ?_|refine wG ?_|refine wK ?_|refine wL ?_|refine wM ?_|refine wN ?_|refine wO ?_|refine wP ?_|refine wQ ?_|refine wR ?_|refine wS ?_|refine wT ?_|refine wU ?_|refine wV ?_|refine wW ?_|refine wX ?_)
          refine Ops.unS rfl rfl rfl ?_
          refine Ops.fld 0 o2.pt (by kernel_rfl) (by kernel_rfl) rfl fun pz => ?_
          repeat' (first|refine wA ?_|refine wB ?_|refine wH ?_|refine wI ?_|refine wJ ?_|refine wC ?_|refine wD ?_|refine wE ?_|refine wF ?_|refine wG ?_|refine wK ?_|refine wL ?_|refine wM ?_|refine wN ?_|refine wO ?_|refine wP ?_|refine wQ ?_|refine wR ?_|refine wS ?_|refine wT ?_|refine wU ?_|refine wV ?_|refine wW ?_|refine wX ?_)
          refine Ops.unS rfl rfl rfl ?_
          refine Ops.fld 1 o2.pt (by kernel_rfl) (by kernel_rfl) rfl fun pz => ?_
          have hw : s.width = (s.width.toNat : Int) := by omega
          have s1' := (s1.calm c1).calm c2
          have hall := l6All_ok (k := (s.consts.length : Int)) (by omega) (by have := hcc.1; omega) s.width.toNat H2 (by omega)
          rw [← hw] at hall
          repeat' (first|refine wA ?_|refine wB ?_|refine wH ?_|refine wI ?_|refine wJ ?_|refine wC ?_|refine wD ?_|refine wE ?_|refine wF ?_|refine wG ?_|refine wK ?_|refine wL ?_|refine wM ?_|refine wN ?_|refine wO ?_|refine wP ?_|refine wQ ?_|refine wR ?_|refine wS ?_|refine wT ?_|refine wU ?_|refine wV ?_|refine wW ?_|refine wX ?_)
          refine Ops.call hall (fun _ _ h _ => h.1.ge') fun u3 H3 => ?_
          rintro ⟨c3, s3⟩
          have c23 := c2.trans c3
          repeat' (first|refine wA ?_|refine wB ?_|refine wH ?_|refine wI ?_|refine wJ ?_|refine wC ?_|refine wD ?_|refine wE ?_|refine wF ?_|refine wG ?_|refine wK ?_|refine wL ?_|refine wM ?_|refine wN ?_|refine wO ?_|refine wP ?_|refine wQ ?_|refine wR ?_|refine wS ?_|refine wT ?_|refine wU ?_|refine wV ?_|refine wW ?_|refine wX ?_)
          refine Ops.callB (l6There_ok s3 (hu.calm c3)) (fun hth => ?_) (fun hth => ?_)
          · have hth := (pats_iff (by omega)).1 (of_dec_t hth)
            repeat' (first|refine wA ?_|refine wB ?_|refine wH ?_|refine wI ?_|refine wJ ?_|refine wC ?_|refine wD ?_|refine wE ?_|refine wF ?_|refine wG ?_|refine wK ?_|refine wL ?_|refine wM ?_|refine wN ?_|refine wO ?_|refine wP ?_|refine wQ ?_|refine wR ?_|refine wS ?_|refine wT ?_|refine wU ?_|refine wV ?_|refine wW ?_|refine wX ?_)
            refine Ops.cmp rfl rfl rfl (fun hc3 => ?_) (fun hc3 => ?_)
            · repeat' (first|refine wA ?_|refine wB ?_|refine wH ?_|refine wI ?_|refine wJ ?_|refine wC ?_|refine wD ?_|refine wE ?_|refine wF ?_|refine wG ?_|refine wK ?_|refine wL ?_|refine wM ?_|refine wN ?_|refine wO ?_|refine wP ?_|refine wQ ?_|refine wR ?_|refine wS ?_|refine wT ?_|refine wU ?_|refine wV ?_|refine wW ?_|refine wX ?_)
              refine Ops.unS rfl rfl rfl ?_
              refine Ops.fld 2 (o2.calm c3).pt (by kernel_rfl) (by kernel_rfl) rfl fun pz => ?_
              repeat' (first|refine wA ?_|refine wB ?_|refine wH ?_|refine wI ?_|refine wJ ?_|refine wC ?_|refine wD ?_|refine wE ?_|refine wF ?_|refine wG ?_|refine wK ?_|refine wL ?_|refine wM ?_|refine wN ?_|refine wO ?_|refine wP ?_|refine wQ ?_|refine wR ?_|refine wS ?_|refine wT ?_|refine wU ?_|refine wV ?_|refine wW ?_|refine wX ?_)
              refine Ops.unS rfl rfl rfl ?_
              have s2'' := s2'.calm c3
              refine Ops.idx s2'' rfl rfl (by omega) (by omega) (by kernel_rfl) (by kernel_rfl) fun pz w b hb hw => ?_
              have hb' : s.pats[i - 1]? = some b := by rw [← hb]; congr 1; omega
              repeat' (first|refine wA ?_|refine wB ?_|refine wH ?_|refine wI ?_|refine wJ ?_|refine wC ?_|refine wD ?_|refine wE ?_|refine wF ?_|refine wG ?_|refine wK ?_|refine wL ?_|refine wM ?_|refine wN ?_|refine wO ?_|refine wP ?_|refine wQ ?_|refine wR ?_|refine wS ?_|refine wT ?_|refine wU ?_|refine wV ?_|refine wW ?_|refine wX ?_)
              refine Ops.callB (l1Less_ok (cL_at hw) (hu.calm c3)) (fun hle => ?_) (fun hle => ?_)
              · repeat' (first|refine wA ?_|refine wB ?_|refine wH ?_|refine wI ?_|refine wJ ?_|refine wC ?_|refine wD ?_|refine wE ?_|refine wF ?_|refine wG ?_|refine wK ?_|refine wL ?_|refine wM ?_|refine wN ?_|refine wO ?_|refine wP ?_|refine wQ ?_|refine wR ?_|refine wS ?_|refine wT ?_|refine wU ?_|refine wV ?_|refine wW ?_|refine wX ?_)
                refine ⟨(i + 1, H3), by dsimp only; omega, rfl, rfl, by dsimp only; exact (by repeat (first | exact Wk.jk | refine Wk.up rfl ?_)), ?_⟩
                refine ⟨by dsimp only; omega, c23, fun j p hj hp => ?_⟩
                by_cases e : j = i
                · subst e
                  rw [ha'] at hp
                  obtain rfl := Option.some.inj hp
                  refine ⟨⟨hc2, hth.2⟩, fun q _ hq => ?_⟩
                  rw [hb'] at hq
                  obtain rfl := Option.some.inj hq
                  exact of_dec_t hle
                · exact hx j p (by dsimp only at hj; omega) hp
              · repeat' (first|refine wA ?_|refine wB ?_|refine wH ?_|refine wI ?_|refine wJ ?_|refine wC ?_|refine wD ?_|refine wE ?_|refine wF ?_|refine wG ?_|refine wK ?_|refine wL ?_|refine wM ?_|refine wN ?_|refine wO ?_|refine wP ?_|refine wQ ?_|refine wR ?_|refine wS ?_|refine wT ?_|refine wU ?_|refine wV ?_|refine wW ?_|refine wX ?_)
                refine Run.ret ⟨.inl rfl, ResK.tmp rfl (by conv => lhs; whnf) (ResK.nil ?_)⟩
                exact ⟨c1.trans c23, by rw [dec_f (fun h => of_dec_f hle ((h.2.2.2 i a ha').2 b (by omega) hb'))]; rfl⟩
            · repeat' (first|refine wA ?_|refine wB ?_|refine wH ?_|refine wI ?_|refine wJ ?_|refine wC ?_|refine wD ?_|refine wE ?_|refine wF ?_|refine wG ?_|refine wK ?_|refine wL ?_|refine wM ?_|refine wN ?_|refine wO ?_|refine wP ?_|refine wQ ?_|refine wR ?_|refine wS ?_|refine wT ?_|refine wU ?_|refine wV ?_|refine wW ?_|refine wX ?_)
              refine ⟨(i + 1, H3), by dsimp only; omega, rfl, rfl, by dsimp only; exact (by repeat (first | exact Wk.jk | refine Wk.up rfl ?_)), ?_⟩
              refine ⟨by dsimp only; omega, c23, fun j p hj hp => ?_⟩
              by_cases e : j = i
              · subst e
                rw [ha'] at hp
                obtain rfl := Option.some.inj hp
                exact ⟨⟨hc2, hth.2⟩, fun q h0 hq => by omega⟩
              · exact hx j p (by dsimp only at hj; omega) hp
          · repeat' (first|refine wA ?_|refine wB ?_|refine wH ?_|refine wI ?_|refine wJ ?_|refine wC ?_|refine wD ?_|refine wE ?_|refine wF ?_|refine wG ?_|refine wK ?_|refine wL ?_|refine wM ?_|refine wN ?_|refine wO ?_|refine wP ?_|refine wQ ?_|refine wR ?_|refine wS ?_|refine wT ?_|refine wU ?_|refine wV ?_|refine wW ?_|refine wX ?_)
            refine Run.ret ⟨.inl rfl, ResK.tmp rfl (by conv => lhs; whnf) (ResK.nil ?_)⟩
            exact ⟨c1.trans c23, by rw [dec_f (fun h => of_dec_f hth ((pats_iff (by omega)).2 ⟨by omega, (h.2.2.2 i a ha').1.2⟩))]; rfl⟩
      · repeat' (first|refine wA ?_|refine wB ?_|refine wH ?_|refine wI ?_|refine wJ ?_|refine wC ?_|refine wD ?_|refine wE ?_|refine wF ?_|refine wG ?_|refine wK ?_|refine wL ?_|refine wM ?_|refine wN ?_|refine wO ?_|refine wP ?_|refine wQ ?_|refine wR ?_|refine wS ?_|refine wT ?_|refine wU ?_|refine wV ?_|refine wW ?_|refine wX ?_)
        refine Run.ret ⟨.inl rfl, ResK.tmp rfl (by conv => lhs; whnf) (ResK.nil ?_)⟩
        exact ⟨c1.trans c2, by rw [dec_t ⟨hwd.1, hwd.2, hcc, fun j p hp => hx j p (by have := (List.getElem?_eq_some_iff.1 hp).1; omega) hp⟩]; rfl⟩
    · repeat' (first|refine wA ?_|refine wB ?_|refine wH ?_|refine wI ?_|refine wJ ?_|refine wC ?_|refine wD ?_|refine wE ?_|refine wF ?_|refine wG ?_|refine wK ?_|refine wL ?_|refine wM ?_|refine wN ?_|refine wO ?_|refine wP ?_|refine wQ ?_|refine wR ?_|refine wS ?_|refine wT ?_|refine wU ?_|refine wV ?_|refine wW ?_|refine wX ?_)
      refine Run.ret ⟨.inl rfl, ResK.tmp rfl (by conv => lhs; whnf) (ResK.nil ?_)⟩
      exact ⟨c1, by rw [dec_f (fun h => of_dec_f hcc h.2.2.1)]; rfl⟩
  · have hc := of_decide_eq_false hc
    repeat' (first|refine wA ?_|refine wB ?_|refine wH ?_|refine wI ?_|refine wJ ?_|refine wC ?_|refine wD ?_|refine wE ?_|refine wF ?_|refine wG ?_|refine wK ?_|refine wL ?_|refine wM ?_|refine wN ?_|refine wO ?_|refine wP ?_|refine wQ ?_|refine wR ?_|refine wS ?_|refine wT ?_|refine wU ?_|refine wV ?_|refine wW ?_|refine wX ?_)
    refine Run.ret ⟨.inl rfl, ResK.tmp rfl (by conv => lhs; whnf) (ResK.nil ?_)⟩
    exact ⟨c1, by rw [dec_f (fun h => hc ⟨h.1, h.2.1⟩)]; rfl⟩

theorem IsOrbitSet_ok {H : Hp} {v : Value} {s : OS} (h : cOS.ok H (cellsOf v) s) :
    CallK Try.prog 34 [v] H (fun r H' => Calm H H' ∧ r = .bool (dec (isOS s))) := by
  have hone := cOS.one h
  obtain ⟨v1, v2, hcs, s1, s2⟩ := h
  have hmx := s2.max
  simp only [maxLen] at hmx
  refine (CallK.enter Try.func34 rfl rfl Try.ntmps34 Try.results34 rfl ?_)
  repeat' (first|refine wA ?_|refine wB ?_|refine wH ?_|refine wI ?_|refine wJ ?_|refine wC ?_|refine wD ?_|refine wE ?_|refine wF ?_|refine wG ?_|refine wK ?_|refine wL ?_|refine wM ?_|refine wN ?_|refine wO ?_|refine wP ?_|refine wQ ?_|refine wR ?_|refine wS ?_|refine wT ?_|refine wU ?_|refine wV ?_|refine wW ?_|refine wX ?_)
  refine Ops.box H.nxt (Nat.le_refl _) (one_known hone) hcs (by simp) fun p1 H1 o1 c1 ap1 => ?_
  repeat' (first|refine wA ?_|refine wB ?_|refine wH ?_|refine wI ?_|refine wJ ?_|refine wC ?_|refine wD ?_|refine wE ?_|refine wF ?_|refine wG ?_|refine wK ?_|refine wL ?_|refine wM ?_|refine wN ?_|refine wO ?_|refine wP ?_|refine wQ ?_|refine wR ?_|refine wS ?_|refine wT ?_|refine wU ?_|refine wV ?_|refine wW ?_|refine wX ?_)
  refine Ops.fld 0 o1.pt (by kernel_rfl) (by kernel_rfl) rfl fun pz => ?_
  refine Ops.cmp rfl rfl rfl (fun hw1 => ?_) (fun hw1 => ?_)
  · repeat' (first|refine wA ?_|refine wB ?_|refine wH ?_|refine wI ?_|refine wJ ?_|refine wC ?_|refine wD ?_|refine wE ?_|refine wF ?_|refine wG ?_|refine wK ?_|refine wL ?_|refine wM ?_|refine wN ?_|refine wO ?_|refine wP ?_|refine wQ ?_|refine wR ?_|refine wS ?_|refine wT ?_|refine wU ?_|refine wV ?_|refine wW ?_|refine wX ?_)
    refine Run.ret ⟨.inl rfl, ResK.tmp rfl (by conv => lhs; whnf) (ResK.nil ?_)⟩
    exact ⟨c1, by rw [dec_f (fun h => by have := h.1; omega)]; rfl⟩
  · repeat' (first|refine wA ?_|refine wB ?_|refine wH ?_|refine wI ?_|refine wJ ?_|refine wC ?_|refine wD ?_|refine wE ?_|refine wF ?_|refine wG ?_|refine wK ?_|refine wL ?_|refine wM ?_|refine wN ?_|refine wO ?_|refine wP ?_|refine wQ ?_|refine wR ?_|refine wS ?_|refine wT ?_|refine wU ?_|refine wV ?_|refine wW ?_|refine wX ?_)
    refine Ops.unS rfl rfl rfl ?_
    refine Ops.fld 0 o1.pt (by kernel_rfl) (by kernel_rfl) rfl fun pz => ?_
    repeat' (first|refine wA ?_|refine wB ?_|refine wH ?_|refine wI ?_|refine wJ ?_|refine wC ?_|refine wD ?_|refine wE ?_|refine wF ?_|refine wG ?_|refine wK ?_|refine wL ?_|refine wM ?_|refine wN ?_|refine wO ?_|refine wP ?_|refine wQ ?_|refine wR ?_|refine wS ?_|refine wT ?_|refine wU ?_|refine wV ?_|refine wW ?_|refine wX ?_)
    refine Ops.cmp rfl rfl rfl (fun hw2 => ?_) (fun hw2 => ?_)
    · repeat' (first|refine wA ?_|refine wB ?_|refine wH ?_|refine wI ?_|refine wJ ?_|refine wC ?_|refine wD ?_|refine wE ?_|refine wF ?_|refine wG ?_|refine wK ?_|refine wL ?_|refine wM ?_|refine wN ?_|refine wO ?_|refine wP ?_|refine wQ ?_|refine wR ?_|refine wS ?_|refine wT ?_|refine wU ?_|refine wV ?_|refine wW ?_|refine wX ?_)
      refine Run.ret ⟨.inl rfl, ResK.tmp rfl (by conv => lhs; whnf) (ResK.nil ?_)⟩
      exact ⟨c1, by rw [dec_f (fun h => by have := h.2.1; omega)]; rfl⟩
    · repeat' (first|refine wA ?_|refine wB ?_|refine wH ?_|refine wI ?_|refine wJ ?_|refine wC ?_|refine wD ?_|refine wE ?_|refine wF ?_|refine wG ?_|refine wK ?_|refine wL ?_|refine wM ?_|refine wN ?_|refine wO ?_|refine wP ?_|refine wQ ?_|refine wR ?_|refine wS ?_|refine wT ?_|refine wU ?_|refine wV ?_|refine wW ?_|refine wX ?_)
      refine Ops.unS rfl rfl rfl ?_
      refine Ops.fld 1 o1.pt (by kernel_rfl) (by kernel_rfl) rfl fun pz => ?_
      repeat' (first|refine wA ?_|refine wB ?_|refine wH ?_|refine wI ?_|refine wJ ?_|refine wC ?_|refine wD ?_|refine wE ?_|refine wF ?_|refine wG ?_|refine wK ?_|refine wL ?_|refine wM ?_|refine wN ?_|refine wO ?_|refine wP ?_|refine wQ ?_|refine wR ?_|refine wS ?_|refine wT ?_|refine wU ?_|refine wV ?_|refine wW ?_|refine wX ?_)
      refine Ops.callB (areConstants_ok (s1.calm c1)) (fun hcc => ?_) (fun hcc => ?_)
      · have hcc := of_dec_t hcc
        repeat' (first|refine wA ?_|refine wB ?_|refine wH ?_|refine wI ?_|refine wJ ?_|refine wC ?_|refine wD ?_|refine wE ?_|refine wF ?_|refine wG ?_|refine wK ?_|refine wL ?_|refine wM ?_|refine wN ?_|refine wO ?_|refine wP ?_|refine wQ ?_|refine wR ?_|refine wS ?_|refine wT ?_|refine wU ?_|refine wV ?_|refine wW ?_|refine wX ?_)
        refine Ops.fld 2 o1.pt (by kernel_rfl) (by kernel_rfl) rfl fun pz => ?_
        have s1' := s1.calm c1
        have s2' := s2.calm c1
        repeat' (first|refine wA ?_|refine wB ?_|refine wH ?_|refine wI ?_|refine wJ ?_|refine wC ?_|refine wD ?_|refine wE ?_|refine wF ?_|refine wG ?_|refine wK ?_|refine wL ?_|refine wM ?_|refine wN ?_|refine wO ?_|refine wP ?_|refine wQ ?_|refine wR ?_|refine wS ?_|refine wT ?_|refine wU ?_|refine wV ?_|refine wW ?_|refine wX ?_)
        refine Run.loopW (fun (a : Nat) => s.pats.length - a) (fun a => up (up (up (up jk 1 p1) 20 v2) 21 (.int .i64 s.pats.length)) 22 (.int .i64 (a : Int))) (fun a => H1)
          (fun a => a ≤ s.pats.length ∧ ∀ (j : Nat) (p : List Int), j < a → s.pats[j]? = some p → ((p.length : Int) = s.width ∧ isPat s.consts.length p) ∧ ∀ q, 0 < j → s.pats[j - 1]? = some q → cmpL q p < 0) 0 rfl (by repeat (first | exact Wk.jk | refine Wk.up rfl ?_)) ⟨by omega, fun j p hj => by omega⟩ ?_
        rintro i ⟨hi, hx⟩
        repeat' (first|refine wA ?_|refine wB ?_|refine wH ?_|refine wI ?_|refine wJ ?_|refine wC ?_|refine wD ?_|refine wE ?_|refine wF ?_|refine wG ?_|refine wK ?_|refine wL ?_|refine wM ?_|refine wN ?_|refine wO ?_|refine wP ?_|refine wQ ?_|refine wR ?_|refine wS ?_|refine wT ?_|refine wU ?_|refine wV ?_|refine wW ?_|refine wX ?_)
        refine Ops.cmp rfl rfl rfl (fun hc => ?_) (fun hc => ?_)
        · repeat' (first|refine wA ?_|refine wB ?_|refine wH ?_|refine wI ?_|refine wJ ?_|refine wC ?_|refine wD ?_|refine wE ?_|refine wF ?_|refine wG ?_|refine wK ?_|refine wL ?_|refine wM ?_|refine wN ?_|refine wO ?_|refine wP ?_|refine wQ ?_|refine wR ?_|refine wS ?_|refine wT ?_|refine wU ?_|refine wV ?_|refine wW ?_|refine wX ?_)
          refine Ops.idx s2' rfl rfl (by omega) (by omega) (by kernel_rfl) (by kernel_rfl) fun pz u a ha hu => ?_
          have ha' : s.pats[i]? = some a := ha
          have hu := cL_at hu
          repeat' (first|refine wA ?_|refine wB ?_|refine wH ?_|refine wI ?_|refine wJ ?_|refine wC ?_|refine wD ?_|refine wE ?_|refine wF ?_|refine wG ?_|refine wK ?_|refine wL ?_|refine wM ?_|refine wN ?_|refine wO ?_|refine wP ?_|refine wQ ?_|refine wR ?_|refine wS ?_|refine wT ?_|refine wU ?_|refine wV ?_|refine wW ?_|refine wX ?_)
          refine Ops.fld 0 o1.pt (by kernel_rfl) (by kernel_rfl) rfl fun pz => ?_
          repeat' (first|refine wA ?_|refine wB ?_|refine wH ?_|refine wI ?_|refine wJ ?_|refine wC ?_|refine wD ?_|refine wE ?_|refine wF ?_|refine wG ?_|refine wK ?_|refine wL ?_|refine wM ?_|refine wN ?_|refine wO ?_|refine wP ?_|refine wQ ?_|refine wR ?_|refine wS ?_|refine wT ?_|refine wU ?_|refine wV ?_|refine wW ?_|refine wX ?_)
          refine Ops.cmpn rfl rfl (fun hc2 => ?_) (fun hc2 => ?_)
          · repeat' (first|refine wA ?_|refine wB ?_|refine wH ?_|refine wI ?_|refine wJ ?_|refine wC ?_|refine wD ?_|refine wE ?_|refine wF ?_|refine wG ?_|refine wK ?_|refine wL ?_|refine wM ?_|refine wN ?_|refine wO ?_|refine wP ?_|refine wQ ?_|refine wR ?_|refine wS ?_|refine wT ?_|refine wU ?_|refine wV ?_|refine wW ?_|refine wX ?_)
            refine Run.ret ⟨.inl rfl, ResK.tmp rfl (by conv => lhs; whnf) (ResK.nil ?_)⟩
            exact ⟨c1, by rw [dec_f (fun h => hc2 ((h.2.2.2 i a ha').1.1))]; rfl⟩
          · repeat' (first|refine wA ?_|refine wB ?_|refine wH ?_|refine wI ?_|refine wJ ?_|refine wC ?_|refine wD ?_|refine wE ?_|refine wF ?_|refine wG ?_|refine wK ?_|refine wL ?_|refine wM ?_|refine wN ?_|refine wO ?_|refine wP ?_|refine wQ ?_|refine wR ?_|refine wS ?_|refine wT ?_|refine wU ?_|refine wV ?_|refine wW ?_|refine wX ?_)
            refine Ops.unS rfl rfl rfl ?_
            refine Ops.fld 1 o1.pt (by kernel_rfl) (by kernel_rfl) rfl fun pz => ?_
            repeat' (first|refine wA ?_|refine wB ?_|refine wH ?_|refine wI ?_|refine wJ ?_|refine wC ?_|refine wD ?_|refine wE ?_|refine wF ?_|refine wG ?_|refine wK ?_|refine wL ?_|refine wM ?_|refine wN ?_|refine wO ?_|refine wP ?_|refine wQ ?_|refine wR ?_|refine wS ?_|refine wT ?_|refine wU ?_|refine wV ?_|refine wW ?_|refine wX ?_)
            refine Ops.callB (isPattern_ok hu (by omega) (by have := hcc.1; omega) (by omega)) (fun hth => ?_) (fun hth => ?_)
            · have hth := of_dec_t hth
              repeat' (first|refine wA ?_|refine wB ?_|refine wH ?_|refine wI ?_|refine wJ ?_|refine wC ?_|refine wD ?_|refine wE ?_|refine wF ?_|refine wG ?_|refine wK ?_|refine wL ?_|refine wM ?_|refine wN ?_|refine wO ?_|refine wP ?_|refine wQ ?_|refine wR ?_|refine wS ?_|refine wT ?_|refine wU ?_|refine wV ?_|refine wW ?_|refine wX ?_)
              refine Ops.cmp rfl rfl rfl (fun hc3 => ?_) (fun hc3 => ?_)
              · repeat' (first|refine wA ?_|refine wB ?_|refine wH ?_|refine wI ?_|refine wJ ?_|refine wC ?_|refine wD ?_|refine wE ?_|refine wF ?_|refine wG ?_|refine wK ?_|refine wL ?_|refine wM ?_|refine wN ?_|refine wO ?_|refine wP ?_|refine wQ ?_|refine wR ?_|refine wS ?_|refine wT ?_|refine wU ?_|refine wV ?_|refine wW ?_|refine wX ?_)
                refine Ops.unS rfl rfl rfl ?_
                refine Ops.fld 2 o1.pt (by kernel_rfl) (by kernel_rfl) rfl fun pz => ?_
                repeat' (first|refine wA ?_|refine wB ?_|refine wH ?_|refine wI ?_|refine wJ ?_|refine wC ?_|refine wD ?_|refine wE ?_|refine wF ?_|refine wG ?_|refine wK ?_|refine wL ?_|refine wM ?_|refine wN ?_|refine wO ?_|refine wP ?_|refine wQ ?_|refine wR ?_|refine wS ?_|refine wT ?_|refine wU ?_|refine wV ?_|refine wW ?_|refine wX ?_)
                refine Ops.unS rfl rfl rfl ?_
                refine Ops.idx s2' rfl rfl (by omega) (by omega) (by kernel_rfl) (by kernel_rfl) fun pz w b hb hw => ?_
                have hb' : s.pats[i - 1]? = some b := by rw [← hb]; congr 1; omega
                repeat' (first|refine wA ?_|refine wB ?_|refine wH ?_|refine wI ?_|refine wJ ?_|refine wC ?_|refine wD ?_|refine wE ?_|refine wF ?_|refine wG ?_|refine wK ?_|refine wL ?_|refine wM ?_|refine wN ?_|refine wO ?_|refine wP ?_|refine wQ ?_|refine wR ?_|refine wS ?_|refine wT ?_|refine wU ?_|refine wV ?_|refine wW ?_|refine wX ?_)
                refine Ops.callE (Compare_ok (cL_at hw) hu) ?_
                repeat' (first|refine wA ?_|refine wB ?_|refine wH ?_|refine wI ?_|refine wJ ?_|refine wC ?_|refine wD ?_|refine wE ?_|refine wF ?_|refine wG ?_|refine wK ?_|refine wL ?_|refine wM ?_|refine wN ?_|refine wO ?_|refine wP ?_|refine wQ ?_|refine wR ?_|refine wS ?_|refine wT ?_|refine wU ?_|refine wV ?_|refine wW ?_|refine wX ?_)
                refine Ops.cmp rfl rfl rfl (fun hle => ?_) (fun hle => ?_)
                · repeat' (first|refine wA ?_|refine wB ?_|refine wH ?_|refine wI ?_|refine wJ ?_|refine wC ?_|refine wD ?_|refine wE ?_|refine wF ?_|refine wG ?_|refine wK ?_|refine wL ?_|refine wM ?_|refine wN ?_|refine wO ?_|refine wP ?_|refine wQ ?_|refine wR ?_|refine wS ?_|refine wT ?_|refine wU ?_|refine wV ?_|refine wW ?_|refine wX ?_)
                  refine Run.ret ⟨.inl rfl, ResK.tmp rfl (by conv => lhs; whnf) (ResK.nil ?_)⟩
                  exact ⟨c1, by rw [dec_f (fun h => by have := (h.2.2.2 i a ha').2 b (by omega) hb'; omega)]; rfl⟩
                · repeat' (first|refine wA ?_|refine wB ?_|refine wH ?_|refine wI ?_|refine wJ ?_|refine wC ?_|refine wD ?_|refine wE ?_|refine wF ?_|refine wG ?_|refine wK ?_|refine wL ?_|refine wM ?_|refine wN ?_|refine wO ?_|refine wP ?_|refine wQ ?_|refine wR ?_|refine wS ?_|refine wT ?_|refine wU ?_|refine wV ?_|refine wW ?_|refine wX ?_)
                  refine ⟨i + 1, by dsimp only; omega, rfl, rfl, by dsimp only; exact (by repeat (first | exact Wk.jk | refine Wk.up rfl ?_)), ?_⟩
                  refine ⟨by omega, fun j p hj hp => ?_⟩
                  by_cases e : j = i
                  · subst e
                    rw [ha'] at hp
                    obtain rfl := Option.some.inj hp
                    refine ⟨⟨hc2, hth⟩, fun q _ hq => ?_⟩
                    rw [hb'] at hq
                    obtain rfl := Option.some.inj hq
                    omega
                  · exact hx j p (by omega) hp
              · repeat' (first|refine wA ?_|refine wB ?_|refine wH ?_|refine wI ?_|refine wJ ?_|refine wC ?_|refine wD ?_|refine wE ?_|refine wF ?_|refine wG ?_|refine wK ?_|refine wL ?_|refine wM ?_|refine wN ?_|refine wO ?_|refine wP ?_|refine wQ ?_|refine wR ?_|refine wS ?_|refine wT ?_|refine wU ?_|refine wV ?_|refine wW ?_|refine wX ?_)
                refine ⟨i + 1, by dsimp only; omega, rfl, rfl, by dsimp only; exact (by repeat (first | exact Wk.jk | refine Wk.up rfl ?_)), ?_⟩
                refine ⟨by omega, fun j p hj hp => ?_⟩
                by_cases e : j = i
                · subst e
                  rw [ha'] at hp
                  obtain rfl := Option.some.inj hp
                  exact ⟨⟨hc2, hth⟩, fun q h0 hq => by omega⟩
                · exact hx j p (by omega) hp
            · repeat' (first|refine wA ?_|refine wB ?_|refine wH ?_|refine wI ?_|refine wJ ?_|refine wC ?_|refine wD ?_|refine wE ?_|refine wF ?_|refine wG ?_|refine wK ?_|refine wL ?_|refine wM ?_|refine wN ?_|refine wO ?_|refine wP ?_|refine wQ ?_|refine wR ?_|refine wS ?_|refine wT ?_|refine wU ?_|refine wV ?_|refine wW ?_|refine wX ?_)
              refine Run.ret ⟨.inl rfl, ResK.tmp rfl (by conv => lhs; whnf) (ResK.nil ?_)⟩
              exact ⟨c1, by rw [dec_f (fun h => of_dec_f hth (h.2.2.2 i a ha').1.2)]; rfl⟩
        · repeat' (first|refine wA ?_|refine wB ?_|refine wH ?_|refine wI ?_|refine wJ ?_|refine wC ?_|refine wD ?_|refine wE ?_|refine wF ?_|refine wG ?_|refine wK ?_|refine wL ?_|refine wM ?_|refine wN ?_|refine wO ?_|refine wP ?_|refine wQ ?_|refine wR ?_|refine wS ?_|refine wT ?_|refine wU ?_|refine wV ?_|refine wW ?_|refine wX ?_)
          refine Run.ret ⟨.inl rfl, ResK.tmp rfl (by conv => lhs; whnf) (ResK.nil ?_)⟩
          exact ⟨c1, by rw [dec_t ⟨by omega, by omega, hcc, fun j p hp => hx j p (by have := (List.getElem?_eq_some_iff.1 hp).1; omega) hp⟩]; rfl⟩
      · repeat' (first|refine wA ?_|refine wB ?_|refine wH ?_|refine wI ?_|refine wJ ?_|refine wC ?_|refine wD ?_|refine wE ?_|refine wF ?_|refine wG ?_|refine wK ?_|refine wL ?_|refine wM ?_|refine wN ?_|refine wO ?_|refine wP ?_|refine wQ ?_|refine wR ?_|refine wS ?_|refine wT ?_|refine wU ?_|refine wV ?_|refine wW ?_|refine wX ?_)
        refine Run.ret ⟨.inl rfl, ResK.tmp rfl (by conv => lhs; whnf) (ResK.nil ?_)⟩
        exact ⟨c1, by rw [dec_f (fun h => of_dec_f hcc h.2.2.1)]; rfl⟩

end Go.Proofs.Ytefmjpbmdoebaaa

/- The law FnExactIsOrbitSet: whatever the set's argument is, the law returns true; no condition. This text: the law's own body. -/
set_option linter.unusedVariables false
namespace Go.Proofs.Ytefmjpbmdoebaaa
open Go Go.RowKit

theorem tot_mem {ls : List (List Int)} {l : List Int} (h : l ∈ ls) : l.length ≤ tot ls := by
  induction ls with
  | nil => cases h
  | cons a t ih =>
    have e : tot (a :: t) = a.length + tot t := by simp [tot]
    rcases List.mem_cons.1 h with rfl | h
    · omega
    · have := ih h; omega

theorem osOK_of {s : OS} {x : Int} (h0 : 0 ≤ x) (h : x + s.consts.length + s.pats.length + tot s.pats = 1048576) : osOK s :=
  ⟨by omega, by omega, fun l hl => by have := tot_mem hl; omega, by omega⟩

theorem lawIsOrbitSet_ok {H : Hp} {a0 : Value} {s : OS} (h0 : cOS.ok H (cellsOf a0) s) : CallK Try.prog 7 [a0] H (fun r _ => r = .bool true) := by
  have hone := cOS.one h0
  have h0' := h0
  obtain ⟨v1, v2, hcs, s1, s2⟩ := h0'
  have hok : cOS.ok H (cellsOf (.agg #[.int .i64 s.width, v1, v2])) s := ⟨v1, v2, rfl, s1, s2⟩
  refine (CallK.enter Try.func7 rfl rfl Try.ntmps7 Try.results7 rfl ?_)
  repeat' (first|refine wA ?_|refine wB ?_|refine wH ?_|refine wI ?_|refine wJ ?_|refine wC ?_|refine wD ?_|refine wE ?_|refine wF ?_|refine wG ?_|refine wK ?_|refine wL ?_|refine wM ?_|refine wN ?_|refine wO ?_|refine wP ?_|refine wQ ?_|refine wR ?_|refine wS ?_|refine wT ?_|refine wU ?_|refine wV ?_|refine wW ?_|refine wX ?_)
  refine Ops.box H.nxt (Nat.le_refl _) (one_known hone) hcs (by simp) fun p1 H1 o1 c1 ap1 => ?_
  repeat' (first|refine wA ?_|refine wB ?_|refine wH ?_|refine wI ?_|refine wJ ?_|refine wC ?_|refine wD ?_|refine wE ?_|refine wF ?_|refine wG ?_|refine wK ?_|refine wL ?_|refine wM ?_|refine wN ?_|refine wO ?_|refine wP ?_|refine wQ ?_|refine wR ?_|refine wS ?_|refine wT ?_|refine wU ?_|refine wV ?_|refine wW ?_|refine wX ?_)
  refine Ops.loadS o1.pt (by kernel_rfl) (by kernel_rfl) ?_
  repeat' (first|refine wA ?_|refine wB ?_|refine wH ?_|refine wI ?_|refine wJ ?_|refine wC ?_|refine wD ?_|refine wE ?_|refine wF ?_|refine wG ?_|refine wK ?_|refine wL ?_|refine wM ?_|refine wN ?_|refine wO ?_|refine wP ?_|refine wQ ?_|refine wR ?_|refine wS ?_|refine wT ?_|refine wU ?_|refine wV ?_|refine wW ?_|refine wX ?_)
  refine Ops.call (szOrbitSet_ok (cOS.calm c1 hok) (by omega) (by omega)) (fun _ _ h _ => h.1.ge') fun r2 H2 => ?_
  rintro ⟨c2, x, rfl, hx⟩
  have o2 := o1.pt.calm c2
  have c2 := c1.trans c2
  repeat' (first|refine wA ?_|refine wB ?_|refine wH ?_|refine wI ?_|refine wJ ?_|refine wC ?_|refine wD ?_|refine wE ?_|refine wF ?_|refine wG ?_|refine wK ?_|refine wL ?_|refine wM ?_|refine wN ?_|refine wO ?_|refine wP ?_|refine wQ ?_|refine wR ?_|refine wS ?_|refine wT ?_|refine wU ?_|refine wV ?_|refine wW ?_|refine wX ?_)
  refine Ops.cmp rfl rfl rfl (fun hc => ?_) (fun hc => ?_)
  · repeat' (first|refine wA ?_|refine wB ?_|refine wH ?_|refine wI ?_|refine wJ ?_|refine wC ?_|refine wD ?_|refine wE ?_|refine wF ?_|refine wG ?_|refine wK ?_|refine wL ?_|refine wM ?_|refine wN ?_|refine wO ?_|refine wP ?_|refine wQ ?_|refine wR ?_|refine wS ?_|refine wT ?_|refine wU ?_|refine wV ?_|refine wW ?_|refine wX ?_)
    refine Run.ret ⟨.inl rfl, ResK.tmp rfl (by conv => lhs; whnf) (ResK.nil ?_)⟩
    rfl
  · have hsz : osOK s := by
      rcases hx with hx | ⟨hx, ht⟩
      · omega
      · exact osOK_of hx ht
    repeat' (first|refine wA ?_|refine wB ?_|refine wH ?_|refine wI ?_|refine wJ ?_|refine wC ?_|refine wD ?_|refine wE ?_|refine wF ?_|refine wG ?_|refine wK ?_|refine wL ?_|refine wM ?_|refine wN ?_|refine wO ?_|refine wP ?_|refine wQ ?_|refine wR ?_|refine wS ?_|refine wT ?_|refine wU ?_|refine wV ?_|refine wW ?_|refine wX ?_)
    refine Ops.loadS o2 (by kernel_rfl) (by kernel_rfl) ?_
    refine Ops.call (toOrbitSet_ok (cOS.calm c2 hok) hsz) (fun _ _ h _ => h.1.ge') fun w0 H3 => ?_
    rintro ⟨c3, ms3, t3⟩
    refine Ops.call (specIsOrbitSet_ok t3.os) (fun _ _ h _ => h.1.ge') fun r4 H4 => ?_
    rintro ⟨c4, rfl⟩
    have c34 := c3.trans c4
    have c4 := c2.trans c34
    have o4 := o2.calm c34
    repeat' (first|refine wA ?_|refine wB ?_|refine wH ?_|refine wI ?_|refine wJ ?_|refine wC ?_|refine wD ?_|refine wE ?_|refine wF ?_|refine wG ?_|refine wK ?_|refine wL ?_|refine wM ?_|refine wN ?_|refine wO ?_|refine wP ?_|refine wQ ?_|refine wR ?_|refine wS ?_|refine wT ?_|refine wU ?_|refine wV ?_|refine wW ?_|refine wX ?_)
    refine Ops.loadS o4 (by kernel_rfl) (by kernel_rfl) ?_
    refine Ops.call (toOrbitSet_ok (cOS.calm c4 hok) hsz) (fun _ _ h _ => h.1.ge') fun x0 H5 => ?_
    rintro ⟨c5, ms5, t5⟩
    have o5 := o4.calm c5
    have c5 := c4.trans c5
    obtain ⟨x1, x2, hx0, _⟩ := id t5
    subst hx0
    refine Ops.var H5.nxt (Nat.le_refl _) (z0 := .agg #[.int .i64 0, nilS, nilS]) (by kernel_rfl) (by rfl) (by decide) rfl (by simp) (by kernel_rfl) rfl (cOS.one t5.os) fun p5 H6 q5 c6 ap6 => ?_
    repeat' (first|refine wA ?_|refine wB ?_|refine wH ?_|refine wI ?_|refine wJ ?_|refine wC ?_|refine wD ?_|refine wE ?_|refine wF ?_|refine wG ?_|refine wK ?_|refine wL ?_|refine wM ?_|refine wN ?_|refine wO ?_|refine wP ?_|refine wQ ?_|refine wR ?_|refine wS ?_|refine wT ?_|refine wU ?_|refine wV ?_|refine wW ?_|refine wX ?_)
    have t6 := t5.calm c6
    have o6 := o5.calm c6
    have c6 := c5.trans c6
    refine Ops.loadS q5.pt (by kernel_rfl) (by kernel_rfl) ?_
    refine Ops.call (IsOrbitSet_ok t6.os) (fun _ _ h _ => h.1.ge') fun r7 H7 => ?_
    rintro ⟨c7, rfl⟩
    have o7 := o6.calm c7
    have q7 := q5.calm c7
    have t7 := t6.calm c7
    have c7 := c6.trans c7
    repeat' (first|refine wA ?_|refine wB ?_|refine wH ?_|refine wI ?_|refine wJ ?_|refine wC ?_|refine wD ?_|refine wE ?_|refine wF ?_|refine wG ?_|refine wK ?_|refine wL ?_|refine wM ?_|refine wN ?_|refine wO ?_|refine wP ?_|refine wQ ?_|refine wR ?_|refine wS ?_|refine wT ?_|refine wU ?_|refine wV ?_|refine wW ?_|refine wX ?_)
    refine Ops.bne_same rfl rfl (by kernel_rfl) ?_
    repeat' (first|refine wA ?_|refine wB ?_|refine wH ?_|refine wI ?_|refine wJ ?_|refine wC ?_|refine wD ?_|refine wE ?_|refine wF ?_|refine wG ?_|refine wK ?_|refine wL ?_|refine wM ?_|refine wN ?_|refine wO ?_|refine wP ?_|refine wQ ?_|refine wR ?_|refine wS ?_|refine wT ?_|refine wU ?_|refine wV ?_|refine wW ?_|refine wX ?_)
    refine Run.draw [1, 2, 0, 3, 4] Try.checked.mixed (by kernel_rfl) ?_
    refine Ops.loadS o7 (by kernel_rfl) (by kernel_rfl) ?_
    refine Ops.call (toOrbitSet_ok (cOS.calm c7 hok) hsz) (fun _ _ h _ => h.1.ge') fun w8 H8 => ?_
    rintro ⟨c8, ms8, t8⟩
    refine Ops.loadS (q7.calm c8).pt (by kernel_rfl) (by kernel_rfl) ?_
    refine Ops.call (eqOrbitSet_ok (t7.calm c8).os t8.os) (fun _ _ h _ => h.1.ge') fun r9 H9 => ?_
    rintro ⟨c9, rfl⟩
    repeat' (first|refine wA ?_|refine wB ?_|refine wH ?_|refine wI ?_|refine wJ ?_|refine wC ?_|refine wD ?_|refine wE ?_|refine wF ?_|refine wG ?_|refine wK ?_|refine wL ?_|refine wM ?_|refine wN ?_|refine wO ?_|refine wP ?_|refine wQ ?_|refine wR ?_|refine wS ?_|refine wT ?_|refine wU ?_|refine wV ?_|refine wW ?_|refine wX ?_)
    refine Run.ret ⟨.inl rfl, ResK.tmp rfl (by conv => lhs; whnf) (ResK.nil ?_)⟩
    rfl

/-- The body, as the row asks for it. -/
theorem lawIsOrbitSet_at {H : Hp} {a0 : Value} {s : OS} (h0 : cOS.ok H (cellsOf a0) s) (_ : InR s.width ∧ (∀ x ∈ s.consts, InR x) ∧ ∀ x ∈ s.pats, ∀ y ∈ x, InR y) : CallK Try.prog 7 [a0] H (fun r _ => r = .bool true) := lawIsOrbitSet_ok h0

end Go.Proofs.Ytefmjpbmdoebaaa

/- Counting tuples: the program's and the reference's functions. -/
set_option linter.unusedVariables false
namespace Go.Proofs.Ytefmjpbmdoebaaa
open Go Go.RowKit

/-- How many tuples a pattern has: the top so far, and the ways. -/
def wayStep (n : Int) (s : Int × Int) (x : Int) : Int × Int := if x = s.1 then (s.1 + 1, s.2 * (n - s.1)) else s
def ways (n k : Int) (p : List Int) : Int × Int := p.foldl (wayStep n) (k, 1)
theorem ways_snoc (n k : Int) (p : List Int) (x : Int) : ways n k (p ++ [x]) = wayStep n (ways n k p) x := by simp [ways]
theorem ways_le {n k : Int} (h0 : 0 ≤ k) (h1 : k ≤ n) (h2 : n ≤ 1000) : ∀ j (p : List Int), p.length = j → k ≤ (ways n k p).1 ∧ (ways n k p).1 ≤ k + j ∧ 0 ≤ (ways n k p).2 ∧ (ways n k p).2 ≤ 1000 ^ j ∧ ((ways n k p).2 = 0 ∨ (ways n k p).1 ≤ n) := by
  intro j
  induction j with
  | zero => intro p hp; rw [List.length_eq_zero_iff.1 hp]; simp [ways]; omega
  | succ j ih =>
    intro p hp
    rcases List.eq_nil_or_concat p with rfl | ⟨q, x, rfl⟩
    · simp at hp
    · rw [List.concat_eq_append] at hp ⊢
      obtain ⟨i1, i2, i3, i4, i5⟩ := ih q (by simpa using hp)
      have hpw : (1000 : Int) ^ j ≤ 1000 ^ (j + 1) := by rw [Int.pow_succ]; have : (0 : Int) ≤ 1000 ^ j := Int.le_trans i3 i4; omega
      rw [ways_snoc]
      unfold wayStep
      split
      · refine ⟨by dsimp only; omega, by dsimp only; omega, ?_, ?_, ?_⟩
        · rcases i5 with i5 | i5
          · rw [i5]; simp
          · exact Int.mul_nonneg i3 (by omega)
        · rcases i5 with i5 | i5
          · rw [i5]; simp; exact Int.le_trans (by omega) hpw
          · rw [Int.pow_succ]
            exact Int.mul_le_mul i4 (by omega) (by omega) (by omega)
        · rcases i5 with i5 | i5
          · left; rw [i5]; simp
          · by_cases e : (ways n k q).1 = n
            · left; dsimp only; rw [e, Int.sub_self, Int.mul_zero]
            · right; dsimp only; omega
      · exact ⟨i1, by omega, i3, by omega, i5⟩
theorem ways_max {n k : Int} (h0 : 0 ≤ k) (h1 : k ≤ n) (h2 : n ≤ 1000) (p : List Int) : (ways n k p).2 * (if 0 > n - (ways n k p).1 then 0 else n - (ways n k p).1) = (ways n k p).2 * (n - (ways n k p).1) := by
  obtain ⟨_, _, _, _, h⟩ := ways_le h0 h1 h2 _ p rfl
  rcases h with h | h
  · rw [h]; simp
  · rw [if_neg (by omega)]

def waySum (n k : Int) (ps : List (List Int)) : Int := (ps.map fun p => (ways n k p).2).sum
theorem waySum_snoc (n k : Int) (ps : List (List Int)) (p : List Int) : waySum n k (ps ++ [p]) = waySum n k ps + (ways n k p).2 := by simp [waySum]
theorem waySum_le {n k : Int} (h0 : 0 ≤ k) (h1 : k ≤ n) (h2 : n ≤ 1000) : ∀ {ps : List (List Int)}, (∀ p ∈ ps, p.length ≤ 4) → 0 ≤ waySum n k ps ∧ waySum n k ps ≤ ps.length * 1000000000000
  | [], _ => by simp [waySum]
  | p :: t, h => by
    have ih := waySum_le h0 h1 h2 (ps := t) fun q hq => h q (by simp [hq])
    have hp := h p (by simp)
    obtain ⟨_, _, h3, h4, _⟩ := ways_le h0 h1 h2 _ p rfl
    have : (1000 : Int) ^ p.length ≤ 1000000000000 := by
      have h5 : p.length = 0 ∨ p.length = 1 ∨ p.length = 2 ∨ p.length = 3 ∨ p.length = 4 := by omega
      rcases h5 with h5 | h5 | h5 | h5 | h5 <;> rw [h5] <;> decide
    have e : waySum n k (p :: t) = (ways n k p).2 + waySum n k t := by simp [waySum]
    rw [e, List.length_cons]
    omega

/-- What CountTuples hands back. -/
noncomputable def countOf (s : OS) (n : Int) : Int := if dec (isOS s ∧ s.consts.length ≤ n ∧ n ≤ 1000) = true then waySum n s.consts.length s.pats else -1

theorem os_widths {s : OS} (h : isOS s) : ∀ p ∈ s.pats, p.length ≤ 4 := fun p hp => by
  obtain ⟨i, hi, rfl⟩ := List.mem_iff_getElem.1 hp
  have := (h.2.2.2 i _ (List.getElem?_eq_getElem hi)).1.1
  have := h.2.1
  omega

theorem specCountTuples_ok {H : Hp} {v : Value} {s : OS} {n : Int} (h : cOS.ok H (cellsOf v) s) (hb : s.pats.length ≤ 1048576) (hn : InR n) :
    CallK Try.prog 36 [v, .int .i64 n] H (fun r H' => Calm H H' ∧ r = .int .i64 (countOf s n)) := by
  have hone := cOS.one h
  obtain ⟨v1, v2, hcs, s1, s2⟩ := h
  have hok : cOS.ok H (cellsOf (.agg #[.int .i64 s.width, v1, v2])) s := ⟨v1, v2, rfl, s1, s2⟩
  have no : ¬ (isOS s ∧ s.consts.length ≤ n ∧ n ≤ 1000) → countOf s n = -1 := fun hn => by unfold countOf; rw [dec_f hn]; rfl
  refine (CallK.enter Try.func36 rfl rfl Try.ntmps36 Try.results36 rfl ?_)
  repeat' (first|refine wA ?_|refine wB ?_|refine wH ?_|refine wI ?_|refine wJ ?_|refine wC ?_|refine wD ?_|refine wE ?_|refine wF ?_|refine wG ?_|refine wK ?_|refine wL ?_|refine wM ?_|refine wN ?_|refine wO ?_|refine wP ?_|refine wQ ?_|refine wR ?_|refine wS ?_|refine wT ?_|refine wU ?_|refine wV ?_|refine wW ?_|refine wX ?_)
  refine Ops.box H.nxt (Nat.le_refl _) (one_known hone) hcs (by simp) fun p1 H1 o1 c1 ap1 => ?_
  repeat' (first|refine wA ?_|refine wB ?_|refine wH ?_|refine wI ?_|refine wJ ?_|refine wC ?_|refine wD ?_|refine wE ?_|refine wF ?_|refine wG ?_|refine wK ?_|refine wL ?_|refine wM ?_|refine wN ?_|refine wO ?_|refine wP ?_|refine wQ ?_|refine wR ?_|refine wS ?_|refine wT ?_|refine wU ?_|refine wV ?_|refine wW ?_|refine wX ?_)
  refine Ops.fld 1 o1.pt (by kernel_rfl) (by kernel_rfl) rfl fun pz => ?_
  have s1' := s1.calm c1
  repeat' (first|refine wA ?_|refine wB ?_|refine wH ?_|refine wI ?_|refine wJ ?_|refine wC ?_|refine wD ?_|refine wE ?_|refine wF ?_|refine wG ?_|refine wK ?_|refine wL ?_|refine wM ?_|refine wN ?_|refine wO ?_|refine wP ?_|refine wQ ?_|refine wR ?_|refine wS ?_|refine wT ?_|refine wU ?_|refine wV ?_|refine wW ?_|refine wX ?_)
  refine Ops.loadS o1.pt (by kernel_rfl) (by kernel_rfl) ?_
  refine Ops.call (specIsOrbitSet_ok (cOS.calm c1 hok)) (fun _ _ h _ => h.1.ge') fun r2 H2 => ?_
  rintro ⟨c2, rfl⟩
  have o2 := o1.calm c2
  have c2 := c1.trans c2
  cases hd : dec (isOS s)
  · repeat' (first|refine wA ?_|refine wB ?_|refine wH ?_|refine wI ?_|refine wJ ?_|refine wC ?_|refine wD ?_|refine wE ?_|refine wF ?_|refine wG ?_|refine wK ?_|refine wL ?_|refine wM ?_|refine wN ?_|refine wO ?_|refine wP ?_|refine wQ ?_|refine wR ?_|refine wS ?_|refine wT ?_|refine wU ?_|refine wV ?_|refine wW ?_|refine wX ?_)
    refine Run.ret ⟨.inl rfl, ResK.tmp rfl (by conv => lhs; whnf) (ResK.nil ?_)⟩
    exact ⟨c2, by rw [no (fun h => of_dec_f hd h.1)]; rfl⟩
  · have hd := of_dec_t hd
    repeat' (first|refine wA ?_|refine wB ?_|refine wH ?_|refine wI ?_|refine wJ ?_|refine wC ?_|refine wD ?_|refine wE ?_|refine wF ?_|refine wG ?_|refine wK ?_|refine wL ?_|refine wM ?_|refine wN ?_|refine wO ?_|refine wP ?_|refine wQ ?_|refine wR ?_|refine wS ?_|refine wT ?_|refine wU ?_|refine wV ?_|refine wW ?_|refine wX ?_)
    refine Ops.cmp rfl rfl rfl (fun hc => ?_) (fun hc => ?_)
    · repeat' (first|refine wA ?_|refine wB ?_|refine wH ?_|refine wI ?_|refine wJ ?_|refine wC ?_|refine wD ?_|refine wE ?_|refine wF ?_|refine wG ?_|refine wK ?_|refine wL ?_|refine wM ?_|refine wN ?_|refine wO ?_|refine wP ?_|refine wQ ?_|refine wR ?_|refine wS ?_|refine wT ?_|refine wU ?_|refine wV ?_|refine wW ?_|refine wX ?_)
      refine Run.ret ⟨.inl rfl, ResK.tmp rfl (by conv => lhs; whnf) (ResK.nil ?_)⟩
      exact ⟨c2, by rw [no (fun h => by omega)]; rfl⟩
    · repeat' (first|refine wA ?_|refine wB ?_|refine wH ?_|refine wI ?_|refine wJ ?_|refine wC ?_|refine wD ?_|refine wE ?_|refine wF ?_|refine wG ?_|refine wK ?_|refine wL ?_|refine wM ?_|refine wN ?_|refine wO ?_|refine wP ?_|refine wQ ?_|refine wR ?_|refine wS ?_|refine wT ?_|refine wU ?_|refine wV ?_|refine wW ?_|refine wX ?_)
      refine Ops.cmp rfl rfl rfl (fun hc2 => ?_) (fun hc2 => ?_)
      · repeat' (first|refine wA ?_|refine wB ?_|refine wH ?_|refine wI ?_|refine wJ ?_|refine wC ?_|refine wD ?_|refine wE ?_|refine wF ?_|refine wG ?_|refine wK ?_|refine wL ?_|refine wM ?_|refine wN ?_|refine wO ?_|refine wP ?_|refine wQ ?_|refine wR ?_|refine wS ?_|refine wT ?_|refine wU ?_|refine wV ?_|refine wW ?_|refine wX ?_)
        refine Run.ret ⟨.inl rfl, ResK.tmp rfl (by conv => lhs; whnf) (ResK.nil ?_)⟩
        exact ⟨c2, by rw [no (fun h => by omega)]; rfl⟩
      · have hk1 : (s.consts.length : Int) ≤ n := by omega
        have hk2 : n ≤ 1000 := by omega
        have hwid := os_widths hd
        have hres : countOf s n = waySum n s.consts.length s.pats := by unfold countOf; rw [dec_t ⟨hd, hk1, hk2⟩]; rfl
        repeat' (first|refine wA ?_|refine wB ?_|refine wH ?_|refine wI ?_|refine wJ ?_|refine wC ?_|refine wD ?_|refine wE ?_|refine wF ?_|refine wG ?_|refine wK ?_|refine wL ?_|refine wM ?_|refine wN ?_|refine wO ?_|refine wP ?_|refine wQ ?_|refine wR ?_|refine wS ?_|refine wT ?_|refine wU ?_|refine wV ?_|refine wW ?_|refine wX ?_)
        refine Ops.fld 2 o2.pt (by kernel_rfl) (by kernel_rfl) rfl fun pz => ?_
        have s2' := s2.calm c2
        repeat' (first|refine wA ?_|refine wB ?_|refine wH ?_|refine wI ?_|refine wJ ?_|refine wC ?_|refine wD ?_|refine wE ?_|refine wF ?_|refine wG ?_|refine wK ?_|refine wL ?_|refine wM ?_|refine wN ?_|refine wO ?_|refine wP ?_|refine wQ ?_|refine wR ?_|refine wS ?_|refine wT ?_|refine wU ?_|refine wV ?_|refine wW ?_|refine wX ?_)
        refine Run.loopW (fun (a : Nat × Int) => s.pats.length - a.1) (fun a => up (up (up (up (up (up jk 1 (.int .i64 n)) 5 (.int .i64 s.consts.length)) 6 (.int .i64 a.2)) 29 v2) 30 (.int .i64 s.pats.length)) 31 (.int .i64 (a.1 : Int))) (fun _ => H2)
          (fun a => a.1 ≤ s.pats.length ∧ a.2 = waySum n s.consts.length (s.pats.take a.1)) (0, 0) rfl (by repeat (first | exact Wk.jk | refine Wk.up rfl ?_)) ⟨by dsimp only; omega, by simp [waySum]⟩ ?_
        rintro ⟨i, sum⟩ ⟨hi, hsum⟩
        dsimp only at hi hsum
        dsimp only
        have hsb := waySum_le (n := n) (k := s.consts.length) (by omega) hk1 hk2 (ps := s.pats.take i) (fun p hp => hwid p (List.mem_of_mem_take hp))
        rw [← hsum, List.length_take] at hsb
        repeat' (first|refine wA ?_|refine wB ?_|refine wH ?_|refine wI ?_|refine wJ ?_|refine wC ?_|refine wD ?_|refine wE ?_|refine wF ?_|refine wG ?_|refine wK ?_|refine wL ?_|refine wM ?_|refine wN ?_|refine wO ?_|refine wP ?_|refine wQ ?_|refine wR ?_|refine wS ?_|refine wT ?_|refine wU ?_|refine wV ?_|refine wW ?_|refine wX ?_)
        refine Ops.cmp rfl rfl rfl (fun hc3 => ?_) (fun hc3 => ?_)
        · repeat' (first|refine wA ?_|refine wB ?_|refine wH ?_|refine wI ?_|refine wJ ?_|refine wC ?_|refine wD ?_|refine wE ?_|refine wF ?_|refine wG ?_|refine wK ?_|refine wL ?_|refine wM ?_|refine wN ?_|refine wO ?_|refine wP ?_|refine wQ ?_|refine wR ?_|refine wS ?_|refine wT ?_|refine wU ?_|refine wV ?_|refine wW ?_|refine wX ?_)
          refine Ops.idx s2' rfl rfl (by omega) (by omega) (by kernel_rfl) (by kernel_rfl) fun pz u a ha hu => ?_
          have ha' : s.pats[i]? = some a := ha
          have hu := cL_at hu
          have hal := hwid a (List.mem_of_getElem? ha')
          repeat' (first|refine wA ?_|refine wB ?_|refine wH ?_|refine wI ?_|refine wJ ?_|refine wC ?_|refine wD ?_|refine wE ?_|refine wF ?_|refine wG ?_|refine wK ?_|refine wL ?_|refine wM ?_|refine wN ?_|refine wO ?_|refine wP ?_|refine wQ ?_|refine wR ?_|refine wS ?_|refine wT ?_|refine wU ?_|refine wV ?_|refine wW ?_|refine wX ?_)
          refine Run.loopW (fun (b : Nat) => a.length - b) (fun b => up (up (up (up (up (up (up (up (up (up (up jk 1 (.int .i64 n)) 5 (.int .i64 s.consts.length)) 6 (.int .i64 sum)) 9 (.int .i64 (ways n s.consts.length (a.take b)).1)) 10 (.int .i64 (ways n s.consts.length (a.take b)).2)) 29 v2) 30 (.int .i64 s.pats.length)) 31 (.int .i64 (i : Int))) 36 u) 37 (.int .i64 a.length)) 38 (.int .i64 (b : Int))) (fun _ => H2)
            (fun b => b ≤ a.length) 0 rfl (by repeat (first | exact Wk.jk | refine Wk.up rfl ?_)) (by omega) ?_
          rintro j hj
          obtain ⟨w1, w2, w3, w4, w5⟩ := ways_le (n := n) (k := s.consts.length) (by omega) hk1 hk2 _ (a.take j) rfl
          have hlt : (a.take j).length = j := by rw [List.length_take]; omega
          rw [hlt] at w2 w4
          have hpw : (1000 : Int) ^ j ≤ 1000000000000 := by
            have h5 : j = 0 ∨ j = 1 ∨ j = 2 ∨ j = 3 ∨ j = 4 := by omega
            rcases h5 with h5 | h5 | h5 | h5 | h5 <;> rw [h5] <;> decide
          repeat' (first|refine wA ?_|refine wB ?_|refine wH ?_|refine wI ?_|refine wJ ?_|refine wC ?_|refine wD ?_|refine wE ?_|refine wF ?_|refine wG ?_|refine wK ?_|refine wL ?_|refine wM ?_|refine wN ?_|refine wO ?_|refine wP ?_|refine wQ ?_|refine wR ?_|refine wS ?_|refine wT ?_|refine wU ?_|refine wV ?_|refine wW ?_|refine wX ?_)
          refine Ops.cmp rfl rfl rfl (fun hc4 => ?_) (fun hc4 => ?_)
          · repeat' (first|refine wA ?_|refine wB ?_|refine wH ?_|refine wI ?_|refine wJ ?_|refine wC ?_|refine wD ?_|refine wE ?_|refine wF ?_|refine wG ?_|refine wK ?_|refine wL ?_|refine wM ?_|refine wN ?_|refine wO ?_|refine wP ?_|refine wQ ?_|refine wR ?_|refine wS ?_|refine wT ?_|refine wU ?_|refine wV ?_|refine wW ?_|refine wX ?_)
            refine Ops.idxI hu rfl (by omega) (by omega) (by kernel_rfl) (by kernel_rfl) fun pz b hb => ?_
            have hb' : a[j]? = some b := hb
            have hs : ways n s.consts.length (a.take (j + 1)) = wayStep n (ways n s.consts.length (a.take j)) b := by rw [take_snoc hb', ways_snoc]
            unfold wayStep at hs
            obtain ⟨x1, x2, x3, x4, x5⟩ := ways_le (n := n) (k := s.consts.length) (by omega) hk1 hk2 _ (a.take (j + 1)) rfl
            have hlt2 : (a.take (j + 1)).length = j + 1 := by rw [List.length_take]; omega
            rw [hlt2] at x2 x4
            have hpw2 : (1000 : Int) ^ (j + 1) ≤ 1000000000000 := by
              have h5 : j = 0 ∨ j = 1 ∨ j = 2 ∨ j = 3 := by omega
              rcases h5 with h5 | h5 | h5 | h5 <;> rw [h5] <;> decide
            repeat' (first|refine wA ?_|refine wB ?_|refine wH ?_|refine wI ?_|refine wJ ?_|refine wC ?_|refine wD ?_|refine wE ?_|refine wF ?_|refine wG ?_|refine wK ?_|refine wL ?_|refine wM ?_|refine wN ?_|refine wO ?_|refine wP ?_|refine wQ ?_|refine wR ?_|refine wS ?_|refine wT ?_|refine wU ?_|refine wV ?_|refine wW ?_|refine wX ?_)
            refine Ops.cmp rfl rfl rfl (fun hc5 => ?_) (fun hc5 => ?_)
            · rw [if_pos hc5] at hs
              rw [hs] at x1 x2 x3 x4 x5
              dsimp only at x1 x2 x3 x4 x5
              repeat' (first|refine wA ?_|refine wB ?_|refine wH ?_|refine wI ?_|refine wJ ?_|refine wC ?_|refine wD ?_|refine wE ?_|refine wF ?_|refine wG ?_|refine wK ?_|refine wL ?_|refine wM ?_|refine wN ?_|refine wO ?_|refine wP ?_|refine wQ ?_|refine wR ?_|refine wS ?_|refine wT ?_|refine wU ?_|refine wV ?_|refine wW ?_|refine wX ?_)
              refine Ops.mul rfl rfl (by omega) (by omega) ?_
              repeat' (first|refine wA ?_|refine wB ?_|refine wH ?_|refine wI ?_|refine wJ ?_|refine wC ?_|refine wD ?_|refine wE ?_|refine wF ?_|refine wG ?_|refine wK ?_|refine wL ?_|refine wM ?_|refine wN ?_|refine wO ?_|refine wP ?_|refine wQ ?_|refine wR ?_|refine wS ?_|refine wT ?_|refine wU ?_|refine wV ?_|refine wW ?_|refine wX ?_)
              refine ⟨j + 1, by dsimp only; omega, rfl, rfl, by dsimp only; rw [hs]; exact (by repeat (first | exact Wk.jk | refine Wk.up rfl ?_)), ?_⟩
              omega
            · rw [if_neg hc5] at hs
              repeat' (first|refine wA ?_|refine wB ?_|refine wH ?_|refine wI ?_|refine wJ ?_|refine wC ?_|refine wD ?_|refine wE ?_|refine wF ?_|refine wG ?_|refine wK ?_|refine wL ?_|refine wM ?_|refine wN ?_|refine wO ?_|refine wP ?_|refine wQ ?_|refine wR ?_|refine wS ?_|refine wT ?_|refine wU ?_|refine wV ?_|refine wW ?_|refine wX ?_)
              refine ⟨j + 1, by dsimp only; omega, rfl, rfl, by dsimp only; rw [hs]; exact (by repeat (first | exact Wk.jk | refine Wk.up rfl ?_)), ?_⟩
              omega
          · rw [take_end (by omega)] at w3 w4 ⊢
            repeat' (first|refine wA ?_|refine wB ?_|refine wH ?_|refine wI ?_|refine wJ ?_|refine wC ?_|refine wD ?_|refine wE ?_|refine wF ?_|refine wG ?_|refine wK ?_|refine wL ?_|refine wM ?_|refine wN ?_|refine wO ?_|refine wP ?_|refine wQ ?_|refine wR ?_|refine wS ?_|refine wT ?_|refine wU ?_|refine wV ?_|refine wW ?_|refine wX ?_)
            have hs2 : waySum n s.consts.length (s.pats.take (i + 1)) = waySum n s.consts.length (s.pats.take i) + (ways n s.consts.length a).2 := by rw [take_snoc ha', waySum_snoc]
            refine ⟨(i + 1, sum + (ways n s.consts.length a).2), by dsimp only; omega, rfl, rfl, by dsimp only; exact (by repeat (first | exact Wk.jk | refine Wk.up rfl ?_)), ?_⟩
            exact ⟨by dsimp only; omega, by dsimp only; rw [hs2, hsum]⟩
        · repeat' (first|refine wA ?_|refine wB ?_|refine wH ?_|refine wI ?_|refine wJ ?_|refine wC ?_|refine wD ?_|refine wE ?_|refine wF ?_|refine wG ?_|refine wK ?_|refine wL ?_|refine wM ?_|refine wN ?_|refine wO ?_|refine wP ?_|refine wQ ?_|refine wR ?_|refine wS ?_|refine wT ?_|refine wU ?_|refine wV ?_|refine wW ?_|refine wX ?_)
          refine Run.ret ⟨.inl rfl, ResK.tmp rfl (by conv => lhs; whnf) (ResK.nil ?_)⟩
          rw [take_end (by omega)] at hsum
          exact ⟨c2, by rw [hres, hsum]; rfl⟩

theorem CountTuples_ok {H : Hp} {v : Value} {s : OS} {n : Int} (h : cOS.ok H (cellsOf v) s) (hb : s.pats.length ≤ 1048576) (hn : InR n) :
    CallK Try.prog 37 [v, .int .i64 n] H (fun r H' => Calm H H' ∧ r = .int .i64 (countOf s n)) := by
  have hone := cOS.one h
  obtain ⟨v1, v2, hcs, s1, s2⟩ := h
  have hok : cOS.ok H (cellsOf (.agg #[.int .i64 s.width, v1, v2])) s := ⟨v1, v2, rfl, s1, s2⟩
  have no : ¬ (isOS s ∧ s.consts.length ≤ n ∧ n ≤ 1000) → countOf s n = -1 := fun hn => by unfold countOf; rw [dec_f hn]; rfl
  refine (CallK.enter Try.func37 rfl rfl Try.ntmps37 Try.results37 rfl ?_)
  repeat' (first|refine wA ?_|refine wB ?_|refine wH ?_|refine wI ?_|refine wJ ?_|refine wC ?_|refine wD ?_|refine wE ?_|refine wF ?_|refine wG ?_|refine wK ?_|refine wL ?_|refine wM ?_|refine wN ?_|refine wO ?_|refine wP ?_|refine wQ ?_|refine wR ?_|refine wS ?_|refine wT ?_|refine wU ?_|refine wV ?_|refine wW ?_|refine wX ?_)
  refine Ops.box H.nxt (Nat.le_refl _) (one_known hone) hcs (by simp) fun p1 H1 o1 c1 ap1 => ?_
  repeat' (first|refine wA ?_|refine wB ?_|refine wH ?_|refine wI ?_|refine wJ ?_|refine wC ?_|refine wD ?_|refine wE ?_|refine wF ?_|refine wG ?_|refine wK ?_|refine wL ?_|refine wM ?_|refine wN ?_|refine wO ?_|refine wP ?_|refine wQ ?_|refine wR ?_|refine wS ?_|refine wT ?_|refine wU ?_|refine wV ?_|refine wW ?_|refine wX ?_)
  refine Ops.fld 1 o1.pt (by kernel_rfl) (by kernel_rfl) rfl fun pz => ?_
  have s1' := s1.calm c1
  repeat' (first|refine wA ?_|refine wB ?_|refine wH ?_|refine wI ?_|refine wJ ?_|refine wC ?_|refine wD ?_|refine wE ?_|refine wF ?_|refine wG ?_|refine wK ?_|refine wL ?_|refine wM ?_|refine wN ?_|refine wO ?_|refine wP ?_|refine wQ ?_|refine wR ?_|refine wS ?_|refine wT ?_|refine wU ?_|refine wV ?_|refine wW ?_|refine wX ?_)
  refine Ops.loadS o1.pt (by kernel_rfl) (by kernel_rfl) ?_
  refine Ops.call (IsOrbitSet_ok (cOS.calm c1 hok)) (fun _ _ h _ => h.1.ge') fun r2 H2 => ?_
  rintro ⟨c2, rfl⟩
  have o2 := o1.calm c2
  have c2 := c1.trans c2
  cases hd : dec (isOS s)
  · repeat' (first|refine wA ?_|refine wB ?_|refine wH ?_|refine wI ?_|refine wJ ?_|refine wC ?_|refine wD ?_|refine wE ?_|refine wF ?_|refine wG ?_|refine wK ?_|refine wL ?_|refine wM ?_|refine wN ?_|refine wO ?_|refine wP ?_|refine wQ ?_|refine wR ?_|refine wS ?_|refine wT ?_|refine wU ?_|refine wV ?_|refine wW ?_|refine wX ?_)
    refine Run.ret ⟨.inl rfl, ResK.tmp rfl (by conv => lhs; whnf) (ResK.nil ?_)⟩
    exact ⟨c2, by rw [no (fun h => of_dec_f hd h.1)]; rfl⟩
  · have hd := of_dec_t hd
    repeat' (first|refine wA ?_|refine wB ?_|refine wH ?_|refine wI ?_|refine wJ ?_|refine wC ?_|refine wD ?_|refine wE ?_|refine wF ?_|refine wG ?_|refine wK ?_|refine wL ?_|refine wM ?_|refine wN ?_|refine wO ?_|refine wP ?_|refine wQ ?_|refine wR ?_|refine wS ?_|refine wT ?_|refine wU ?_|refine wV ?_|refine wW ?_|refine wX ?_)
    refine Ops.cmp rfl rfl rfl (fun hc => ?_) (fun hc => ?_)
    · repeat' (first|refine wA ?_|refine wB ?_|refine wH ?_|refine wI ?_|refine wJ ?_|refine wC ?_|refine wD ?_|refine wE ?_|refine wF ?_|refine wG ?_|refine wK ?_|refine wL ?_|refine wM ?_|refine wN ?_|refine wO ?_|refine wP ?_|refine wQ ?_|refine wR ?_|refine wS ?_|refine wT ?_|refine wU ?_|refine wV ?_|refine wW ?_|refine wX ?_)
      refine Run.ret ⟨.inl rfl, ResK.tmp rfl (by conv => lhs; whnf) (ResK.nil ?_)⟩
      exact ⟨c2, by rw [no (fun h => by omega)]; rfl⟩
    · repeat' (first|refine wA ?_|refine wB ?_|refine wH ?_|refine wI ?_|refine wJ ?_|refine wC ?_|refine wD ?_|refine wE ?_|refine wF ?_|refine wG ?_|refine wK ?_|refine wL ?_|refine wM ?_|refine wN ?_|refine wO ?_|refine wP ?_|refine wQ ?_|refine wR ?_|refine wS ?_|refine wT ?_|refine wU ?_|refine wV ?_|refine wW ?_|refine wX ?_)
      refine Ops.cmp rfl rfl rfl (fun hc2 => ?_) (fun hc2 => ?_)
      · repeat' (first|refine wA ?_|refine wB ?_|refine wH ?_|refine wI ?_|refine wJ ?_|refine wC ?_|refine wD ?_|refine wE ?_|refine wF ?_|refine wG ?_|refine wK ?_|refine wL ?_|refine wM ?_|refine wN ?_|refine wO ?_|refine wP ?_|refine wQ ?_|refine wR ?_|refine wS ?_|refine wT ?_|refine wU ?_|refine wV ?_|refine wW ?_|refine wX ?_)
        refine Run.ret ⟨.inl rfl, ResK.tmp rfl (by conv => lhs; whnf) (ResK.nil ?_)⟩
        exact ⟨c2, by rw [no (fun h => by omega)]; rfl⟩
      · have hk1 : (s.consts.length : Int) ≤ n := by omega
        have hk2 : n ≤ 1000 := by omega
        have hwid := os_widths hd
        have hres : countOf s n = waySum n s.consts.length s.pats := by unfold countOf; rw [dec_t ⟨hd, hk1, hk2⟩]; rfl
        repeat' (first|refine wA ?_|refine wB ?_|refine wH ?_|refine wI ?_|refine wJ ?_|refine wC ?_|refine wD ?_|refine wE ?_|refine wF ?_|refine wG ?_|refine wK ?_|refine wL ?_|refine wM ?_|refine wN ?_|refine wO ?_|refine wP ?_|refine wQ ?_|refine wR ?_|refine wS ?_|refine wT ?_|refine wU ?_|refine wV ?_|refine wW ?_|refine wX ?_)
        refine Ops.fld 2 o2.pt (by kernel_rfl) (by kernel_rfl) rfl fun pz => ?_
        have s2' := s2.calm c2
        repeat' (first|refine wA ?_|refine wB ?_|refine wH ?_|refine wI ?_|refine wJ ?_|refine wC ?_|refine wD ?_|refine wE ?_|refine wF ?_|refine wG ?_|refine wK ?_|refine wL ?_|refine wM ?_|refine wN ?_|refine wO ?_|refine wP ?_|refine wQ ?_|refine wR ?_|refine wS ?_|refine wT ?_|refine wU ?_|refine wV ?_|refine wW ?_|refine wX ?_)
        refine Run.loopW (fun (a : Nat × Int) => s.pats.length - a.1) (fun a => up (up (up (up (up (up jk 1 (.int .i64 n)) 5 (.int .i64 s.consts.length)) 6 (.int .i64 a.2)) 29 v2) 30 (.int .i64 s.pats.length)) 31 (.int .i64 (a.1 : Int))) (fun _ => H2)
          (fun a => a.1 ≤ s.pats.length ∧ a.2 = waySum n s.consts.length (s.pats.take a.1)) (0, 0) rfl (by repeat (first | exact Wk.jk | refine Wk.up rfl ?_)) ⟨by dsimp only; omega, by simp [waySum]⟩ ?_
        rintro ⟨i, sum⟩ ⟨hi, hsum⟩
        dsimp only at hi hsum
        dsimp only
        have hsb := waySum_le (n := n) (k := s.consts.length) (by omega) hk1 hk2 (ps := s.pats.take i) (fun p hp => hwid p (List.mem_of_mem_take hp))
        rw [← hsum, List.length_take] at hsb
        repeat' (first|refine wA ?_|refine wB ?_|refine wH ?_|refine wI ?_|refine wJ ?_|refine wC ?_|refine wD ?_|refine wE ?_|refine wF ?_|refine wG ?_|refine wK ?_|refine wL ?_|refine wM ?_|refine wN ?_|refine wO ?_|refine wP ?_|refine wQ ?_|refine wR ?_|refine wS ?_|refine wT ?_|refine wU ?_|refine wV ?_|refine wW ?_|refine wX ?_)
        refine Ops.cmp rfl rfl rfl (fun hc3 => ?_) (fun hc3 => ?_)
        · repeat' (first|refine wA ?_|refine wB ?_|refine wH ?_|refine wI ?_|refine wJ ?_|refine wC ?_|refine wD ?_|refine wE ?_|refine wF ?_|refine wG ?_|refine wK ?_|refine wL ?_|refine wM ?_|refine wN ?_|refine wO ?_|refine wP ?_|refine wQ ?_|refine wR ?_|refine wS ?_|refine wT ?_|refine wU ?_|refine wV ?_|refine wW ?_|refine wX ?_)
          refine Ops.idx s2' rfl rfl (by omega) (by omega) (by kernel_rfl) (by kernel_rfl) fun pz u a ha hu => ?_
          have ha' : s.pats[i]? = some a := ha
          have hu := cL_at hu
          have hal := hwid a (List.mem_of_getElem? ha')
          repeat' (first|refine wA ?_|refine wB ?_|refine wH ?_|refine wI ?_|refine wJ ?_|refine wC ?_|refine wD ?_|refine wE ?_|refine wF ?_|refine wG ?_|refine wK ?_|refine wL ?_|refine wM ?_|refine wN ?_|refine wO ?_|refine wP ?_|refine wQ ?_|refine wR ?_|refine wS ?_|refine wT ?_|refine wU ?_|refine wV ?_|refine wW ?_|refine wX ?_)
          refine Run.loopW (fun (b : Nat) => a.length - b) (fun b => up (up (up (up (up (up (up (up (up (up (up jk 1 (.int .i64 n)) 5 (.int .i64 s.consts.length)) 6 (.int .i64 sum)) 9 (.int .i64 (ways n s.consts.length (a.take b)).1)) 10 (.int .i64 (ways n s.consts.length (a.take b)).2)) 29 v2) 30 (.int .i64 s.pats.length)) 31 (.int .i64 (i : Int))) 36 u) 37 (.int .i64 a.length)) 38 (.int .i64 (b : Int))) (fun _ => H2)
            (fun b => b ≤ a.length) 0 rfl (by repeat (first | exact Wk.jk | refine Wk.up rfl ?_)) (by omega) ?_
          rintro j hj
          obtain ⟨w1, w2, w3, w4, w5⟩ := ways_le (n := n) (k := s.consts.length) (by omega) hk1 hk2 _ (a.take j) rfl
          have hlt : (a.take j).length = j := by rw [List.length_take]; omega
          rw [hlt] at w2 w4
          have hpw : (1000 : Int) ^ j ≤ 1000000000000 := by
            have h5 : j = 0 ∨ j = 1 ∨ j = 2 ∨ j = 3 ∨ j = 4 := by omega
            rcases h5 with h5 | h5 | h5 | h5 | h5 <;> rw [h5] <;> decide
          repeat' (first|refine wA ?_|refine wB ?_|refine wH ?_|refine wI ?_|refine wJ ?_|refine wC ?_|refine wD ?_|refine wE ?_|refine wF ?_|refine wG ?_|refine wK ?_|refine wL ?_|refine wM ?_|refine wN ?_|refine wO ?_|refine wP ?_|refine wQ ?_|refine wR ?_|refine wS ?_|refine wT ?_|refine wU ?_|refine wV ?_|refine wW ?_|refine wX ?_)
          refine Ops.cmp rfl rfl rfl (fun hc4 => ?_) (fun hc4 => ?_)
          · repeat' (first|refine wA ?_|refine wB ?_|refine wH ?_|refine wI ?_|refine wJ ?_|refine wC ?_|refine wD ?_|refine wE ?_|refine wF ?_|refine wG ?_|refine wK ?_|refine wL ?_|refine wM ?_|refine wN ?_|refine wO ?_|refine wP ?_|refine wQ ?_|refine wR ?_|refine wS ?_|refine wT ?_|refine wU ?_|refine wV ?_|refine wW ?_|refine wX ?_)
            refine Ops.idxI hu rfl (by omega) (by omega) (by kernel_rfl) (by kernel_rfl) fun pz b hb => ?_
            have hb' : a[j]? = some b := hb
            have hs : ways n s.consts.length (a.take (j + 1)) = wayStep n (ways n s.consts.length (a.take j)) b := by rw [take_snoc hb', ways_snoc]
            unfold wayStep at hs
            obtain ⟨x1, x2, x3, x4, x5⟩ := ways_le (n := n) (k := s.consts.length) (by omega) hk1 hk2 _ (a.take (j + 1)) rfl
            have hlt2 : (a.take (j + 1)).length = j + 1 := by rw [List.length_take]; omega
            rw [hlt2] at x2 x4
            have hpw2 : (1000 : Int) ^ (j + 1) ≤ 1000000000000 := by
              have h5 : j = 0 ∨ j = 1 ∨ j = 2 ∨ j = 3 := by omega
              rcases h5 with h5 | h5 | h5 | h5 <;> rw [h5] <;> decide
            repeat' (first|refine wA ?_|refine wB ?_|refine wH ?_|refine wI ?_|refine wJ ?_|refine wC ?_|refine wD ?_|refine wE ?_|refine wF ?_|refine wG ?_|refine wK ?_|refine wL ?_|refine wM ?_|refine wN ?_|refine wO ?_|refine wP ?_|refine wQ ?_|refine wR ?_|refine wS ?_|refine wT ?_|refine wU ?_|refine wV ?_|refine wW ?_|refine wX ?_)
            refine Ops.cmp rfl rfl rfl (fun hc5 => ?_) (fun hc5 => ?_)
            · rw [if_pos hc5] at hs
              rw [hs] at x1 x2 x3 x4 x5
              dsimp only at x1 x2 x3 x4 x5
              repeat' (first|refine wA ?_|refine wB ?_|refine wH ?_|refine wI ?_|refine wJ ?_|refine wC ?_|refine wD ?_|refine wE ?_|refine wF ?_|refine wG ?_|refine wK ?_|refine wL ?_|refine wM ?_|refine wN ?_|refine wO ?_|refine wP ?_|refine wQ ?_|refine wR ?_|refine wS ?_|refine wT ?_|refine wU ?_|refine wV ?_|refine wW ?_|refine wX ?_)
              refine Ops.max rfl rfl ?_
              repeat' (first|refine wA ?_|refine wB ?_|refine wH ?_|refine wI ?_|refine wJ ?_|refine wC ?_|refine wD ?_|refine wE ?_|refine wF ?_|refine wG ?_|refine wK ?_|refine wL ?_|refine wM ?_|refine wN ?_|refine wO ?_|refine wP ?_|refine wQ ?_|refine wR ?_|refine wS ?_|refine wT ?_|refine wU ?_|refine wV ?_|refine wW ?_|refine wX ?_)
              refine Ops.mul rfl rfl (by rw [ways_max (by omega) hk1 hk2]; omega) (by rw [ways_max (by omega) hk1 hk2]; omega) ?_
              rw [ways_max (by omega) hk1 hk2]
              repeat' (first|refine wA ?_|refine wB ?_|refine wH ?_|refine wI ?_|refine wJ ?_|refine wC ?_|refine wD ?_|refine wE ?_|refine wF ?_|refine wG ?_|refine wK ?_|refine wL ?_|refine wM ?_|refine wN ?_|refine wO ?_|refine wP ?_|refine wQ ?_|refine wR ?_|refine wS ?_|refine wT ?_|refine wU ?_|refine wV ?_|refine wW ?_|refine wX ?_)
              refine ⟨j + 1, by dsimp only; omega, rfl, rfl, by dsimp only; rw [hs]; exact (by repeat (first | exact Wk.jk | refine Wk.up rfl ?_)), ?_⟩
              omega
            · rw [if_neg hc5] at hs
              repeat' (first|refine wA ?_|refine wB ?_|refine wH ?_|refine wI ?_|refine wJ ?_|refine wC ?_|refine wD ?_|refine wE ?_|refine wF ?_|refine wG ?_|refine wK ?_|refine wL ?_|refine wM ?_|refine wN ?_|refine wO ?_|refine wP ?_|refine wQ ?_|refine wR ?_|refine wS ?_|refine wT ?_|refine wU ?_|refine wV ?_|refine wW ?_|refine wX ?_)
              refine ⟨j + 1, by dsimp only; omega, rfl, rfl, by dsimp only; rw [hs]; exact (by repeat (first | exact Wk.jk | refine Wk.up rfl ?_)), ?_⟩
              omega
          · rw [take_end (by omega)] at w3 w4 ⊢
            repeat' (first|refine wA ?_|refine wB ?_|refine wH ?_|refine wI ?_|refine wJ ?_|refine wC ?_|refine wD ?_|refine wE ?_|refine wF ?_|refine wG ?_|refine wK ?_|refine wL ?_|refine wM ?_|refine wN ?_|refine wO ?_|refine wP ?_|refine wQ ?_|refine wR ?_|refine wS ?_|refine wT ?_|refine wU ?_|refine wV ?_|refine wW ?_|refine wX ?_)
            have hs2 : waySum n s.consts.length (s.pats.take (i + 1)) = waySum n s.consts.length (s.pats.take i) + (ways n s.consts.length a).2 := by rw [take_snoc ha', waySum_snoc]
            refine ⟨(i + 1, sum + (ways n s.consts.length a).2), by dsimp only; omega, rfl, rfl, by dsimp only; exact (by repeat (first | exact Wk.jk | refine Wk.up rfl ?_)), ?_⟩
            exact ⟨by dsimp only; omega, by dsimp only; rw [hs2, hsum]⟩
        · repeat' (first|refine wA ?_|refine wB ?_|refine wH ?_|refine wI ?_|refine wJ ?_|refine wC ?_|refine wD ?_|refine wE ?_|refine wF ?_|refine wG ?_|refine wK ?_|refine wL ?_|refine wM ?_|refine wN ?_|refine wO ?_|refine wP ?_|refine wQ ?_|refine wR ?_|refine wS ?_|refine wT ?_|refine wU ?_|refine wV ?_|refine wW ?_|refine wX ?_)
          refine Run.ret ⟨.inl rfl, ResK.tmp rfl (by conv => lhs; whnf) (ResK.nil ?_)⟩
          rw [take_end (by omega)] at hsum
          exact ⟨c2, by rw [hres, hsum]; rfl⟩

end Go.Proofs.Ytefmjpbmdoebaaa

/- The abstract machine, part 20: closures, boxed values, parts of slices. -/
set_option linter.unusedVariables false
set_option linter.unusedSimpArgs false
namespace Go.Proofs.Ytefmjpbmdoebaaa
open Go Go.RowKit

section
variable {P : Program} {fl : Bool} {all : Array Oper} {rest : List Oper} {n : Nat} {T : Nat → Value} {H H' : Hp} {K : St → Prop} {d d1 d2 : Nat} {ty ty1 ty2 : TypeId} {ps ps1 ps2 : String} {af af1 af2 : Array Edge} {v u : Value} {x y z : Operand} {cs : List Value} {α : Type} {c : Cd α} {l : List α} {k r : Nat}

/-- A closure over one variable. -/
theorem Ops.fn1 {f : Fn} (hy : rd T y = u) (kk : Ops P fl all rest ⟨n, up T d (.func f #[] #[u]), H⟩ K) : Ops P fl all (⟨some d, .makeFunc f #[] #[y], ty, ps, af, none⟩ :: rest) ⟨n, T, H⟩ K :=
  .go rfl (fun H => by have := aev_makeFunc (P := P) (o := ⟨some d, .makeFunc f #[] #[y], ty, ps, af, none⟩) (ρ := rd T) (H := H) rfl; simpa [hy] using this) kk

/-- A closure over two variables. -/
theorem Ops.fn2 {f : Fn} {w : Value} (hy : rd T y = u) (hz : rd T z = w) (kk : Ops P fl all rest ⟨n, up T d (.func f #[] #[u, w]), H⟩ K) : Ops P fl all (⟨some d, .makeFunc f #[] #[y, z], ty, ps, af, none⟩ :: rest) ⟨n, T, H⟩ K :=
  .go rfl (fun H => by have := aev_makeFunc (P := P) (o := ⟨some d, .makeFunc f #[] #[y, z], ty, ps, af, none⟩) (ρ := rd T) (H := H) rfl; simpa [hy, hz] using this) kk

/-- A function without captured variables. -/
theorem Ops.fn0 {f : Fn} (kk : Ops P fl all rest ⟨n, up T d (.func f #[] #[]), H⟩ K) : Ops P fl all (⟨some d, .makeFunc f #[] #[], ty, ps, af, none⟩ :: rest) ⟨n, T, H⟩ K :=
  .go rfl (fun H => by have := aev_makeFunc (P := P) (o := ⟨some d, .makeFunc f #[] #[], ty, ps, af, none⟩) (ρ := rd T) (H := H) rfl; simpa using this) kk

/-- What lies in a variable of one cell. -/
theorem Ops.load1 {te : TypeId} (h : Pt H (rd T x) cs) (hte : agT P te false = true) (hv : cs[0]? = some v) (kk : Ops P fl all rest ⟨n, up T d v, H⟩ K) : Ops P fl all (⟨some d, .load te x, ty, ps, af, none⟩ :: rest) ⟨n, T, H⟩ K := by
  obtain ⟨dd, h6, h7⟩ := agT_at hte
  obtain ⟨id, ob, e1, e2, e3⟩ := h
  exact .get rfl e2 (mention (by simp [Op.operands]) e1) (fun _ hg => aev_load rfl h6 h7 e1 hg (by rw [e3]; exact hv)) kk

/-- x[:h], nothing of it read before. -/
theorem Ops.sliceH {t : TypeId} {ki : IntKind} {h : Int} (hx : Sl c H (rd T x) l) (hl : l ≠ []) (hy : rd T y = .int ki h) (h0 : 0 ≤ h) (hh : h.toNat ≤ l.length) (ht : slA P t c.sz = true)
    (kk : ∀ v', Sl c H v' (l.take h.toNat) → idOf v' = idOf (rd T x) → Ops P fl all rest ⟨n, up T d v', H⟩ K) : Ops P fl all (⟨some d, .slice t x none (some y) none, ty, ps, af, none⟩ :: rest) ⟨n, T, H⟩ K := by
  obtain ⟨i, z, h1, h2, h3, _⟩ := slA_at ht
  rcases hx with ⟨e, _⟩ | ⟨id, off, ob, e1, e2, e3, e4, e5⟩
  · exact absurd e hl
  · have hm : ∀ (β : Bm) (ev : Operand → Value), (∀ x' ∈ (Op.slice t x none (some y) none).operands, VR β (rd T x') (ev x')) → ∃ p, β id = some p := fun β ev h => by
      have h1 := h x (by simp [Op.operands])
      rw [e1] at h1
      generalize ev x = u at h1
      cases h1 with
      | slice hb => exact ⟨_, hb⟩
    refine .get (v := .slice (some ⟨id, off, none⟩) h.toNat h.toNat) rfl e2 hm (fun _ hg => aev_slice_h rfl h1 h2 e1 hy hg (by rw [h3]; exact e3) h0 (by omega)) ?_
    refine kk _ ?_ (by rw [e1]; rfl)
    by_cases hz : h.toNat = 0
    · rw [hz]
      exact .inl ⟨by simp, some ⟨id, off, none⟩, by simp, fun a ha hs => by cases ha; exact Hp.lt e2⟩
    · have hlen : (l.take h.toNat).length = h.toNat := by rw [List.length_take]; omega
      refine .inr ⟨id, off, ob, by rw [hlen], e2, e3, by rw [hlen]; omega, fun q a hq => e5 q a ?_⟩
      rw [List.getElem?_take] at hq
      split at hq
      · exact hq
      · cases hq

end
end Go.Proofs.Ytefmjpbmdoebaaa

/- Finding in lists of lists; what a set has. -/
set_option linter.unusedVariables false
namespace Go.Proofs.Ytefmjpbmdoebaaa
open Go Go.RowKit

theorem EqualI_ok {H : Hp} {v w : Value} {l m : List Int} (h1 : Sl cI H v l) (h2 : Sl cI H w m) : acall Try.prog 98 [v, w] H (.bool (dec (l = m))) H := by
  have hmx := h1.max
  simp only [maxLen] at hmx
  refine CallK.eq (CallK.enter Try.func98 rfl rfl Try.ntmps98 Try.results98 rfl ?_)
  repeat' (first|refine wA ?_|refine wB ?_|refine wH ?_|refine wI ?_|refine wJ ?_|refine wC ?_|refine wD ?_|refine wE ?_|refine wF ?_|refine wG ?_|refine wK ?_|refine wL ?_|refine wM ?_|refine wN ?_|refine wO ?_|refine wP ?_|refine wQ ?_|refine wR ?_|refine wS ?_|refine wT ?_|refine wU ?_|refine wV ?_|refine wW ?_|refine wX ?_)
  refine Ops.cmpn rfl rfl (fun hc => ?_) (fun hc => ?_)
  · repeat' (first|refine wA ?_|refine wB ?_|refine wH ?_|refine wI ?_|refine wJ ?_|refine wC ?_|refine wD ?_|refine wE ?_|refine wF ?_|refine wG ?_|refine wK ?_|refine wL ?_|refine wM ?_|refine wN ?_|refine wO ?_|refine wP ?_|refine wQ ?_|refine wR ?_|refine wS ?_|refine wT ?_|refine wU ?_|refine wV ?_|refine wW ?_|refine wX ?_)
    refine Run.ret ⟨.inl rfl, ResK.tmp rfl (by conv => lhs; whnf) (ResK.nil ?_)⟩
    exact ⟨by rw [dec_f (fun h => by subst h; contradiction)]; rfl, rfl⟩
  · repeat' (first|refine wA ?_|refine wB ?_|refine wH ?_|refine wI ?_|refine wJ ?_|refine wC ?_|refine wD ?_|refine wE ?_|refine wF ?_|refine wG ?_|refine wK ?_|refine wL ?_|refine wM ?_|refine wN ?_|refine wO ?_|refine wP ?_|refine wQ ?_|refine wR ?_|refine wS ?_|refine wT ?_|refine wU ?_|refine wV ?_|refine wW ?_|refine wX ?_)
    refine Run.loopW (fun i => l.length - i) (fun (i : Nat) => up (up (up (up jk 0 v) 1 w) 12 (.int .i64 l.length)) 13 (.int .i64 (i : Int))) (fun _ => H) (fun i => i ≤ l.length ∧ l.take i = m.take i) 0 rfl (by repeat (first | exact Wk.jk | refine Wk.up rfl ?_)) ⟨by omega, by simp⟩ ?_
    rintro i ⟨hi, hx⟩
    repeat' (first|refine wA ?_|refine wB ?_|refine wH ?_|refine wI ?_|refine wJ ?_|refine wC ?_|refine wD ?_|refine wE ?_|refine wF ?_|refine wG ?_|refine wK ?_|refine wL ?_|refine wM ?_|refine wN ?_|refine wO ?_|refine wP ?_|refine wQ ?_|refine wR ?_|refine wS ?_|refine wT ?_|refine wU ?_|refine wV ?_|refine wW ?_|refine wX ?_)
    refine Ops.cmp rfl rfl rfl (fun hc2 => ?_) (fun hc2 => ?_)
    · repeat' (first|refine wA ?_|refine wB ?_|refine wH ?_|refine wI ?_|refine wJ ?_|refine wC ?_|refine wD ?_|refine wE ?_|refine wF ?_|refine wG ?_|refine wK ?_|refine wL ?_|refine wM ?_|refine wN ?_|refine wO ?_|refine wP ?_|refine wQ ?_|refine wR ?_|refine wS ?_|refine wT ?_|refine wU ?_|refine wV ?_|refine wW ?_|refine wX ?_)
      refine Run.draw [0, 1, 2, 3, 4, 5, 6, 7, 8] Try.checked.mixed (by kernel_rfl) ?_
      repeat' (first|refine wA ?_|refine wB ?_|refine wH ?_|refine wI ?_|refine wJ ?_|refine wC ?_|refine wD ?_|refine wE ?_|refine wF ?_|refine wG ?_|refine wK ?_|refine wL ?_|refine wM ?_|refine wN ?_|refine wO ?_|refine wP ?_|refine wQ ?_|refine wR ?_|refine wS ?_|refine wT ?_|refine wU ?_|refine wV ?_|refine wW ?_|refine wX ?_)
      refine Ops.idxI h1 rfl (by omega) (by omega) (by kernel_rfl) (by kernel_rfl) fun pz a ha => ?_
      have ha' : l[i]? = some a := ha
      repeat' (first|refine wA ?_|refine wB ?_|refine wH ?_|refine wI ?_|refine wJ ?_|refine wC ?_|refine wD ?_|refine wE ?_|refine wF ?_|refine wG ?_|refine wK ?_|refine wL ?_|refine wM ?_|refine wN ?_|refine wO ?_|refine wP ?_|refine wQ ?_|refine wR ?_|refine wS ?_|refine wT ?_|refine wU ?_|refine wV ?_|refine wW ?_|refine wX ?_)
      refine Ops.idxI h2 rfl (by omega) (by omega) (by kernel_rfl) (by kernel_rfl) fun pz b hb => ?_
      have hb' : m[i]? = some b := hb
      repeat' (first|refine wA ?_|refine wB ?_|refine wH ?_|refine wI ?_|refine wJ ?_|refine wC ?_|refine wD ?_|refine wE ?_|refine wF ?_|refine wG ?_|refine wK ?_|refine wL ?_|refine wM ?_|refine wN ?_|refine wO ?_|refine wP ?_|refine wQ ?_|refine wR ?_|refine wS ?_|refine wT ?_|refine wU ?_|refine wV ?_|refine wW ?_|refine wX ?_)
      refine Ops.cmpn rfl rfl (fun hc3 => ?_) (fun hc3 => ?_)
      · repeat' (first|refine wA ?_|refine wB ?_|refine wH ?_|refine wI ?_|refine wJ ?_|refine wC ?_|refine wD ?_|refine wE ?_|refine wF ?_|refine wG ?_|refine wK ?_|refine wL ?_|refine wM ?_|refine wN ?_|refine wO ?_|refine wP ?_|refine wQ ?_|refine wR ?_|refine wS ?_|refine wT ?_|refine wU ?_|refine wV ?_|refine wW ?_|refine wX ?_)
        refine Run.ret ⟨.inl rfl, ResK.tmp rfl (by conv => lhs; whnf) (ResK.nil ?_)⟩
        exact ⟨by rw [dec_f (fun h => by subst h; rw [ha'] at hb'; cases hb'; contradiction)]; rfl, rfl⟩
      · repeat' (first|refine wA ?_|refine wB ?_|refine wH ?_|refine wI ?_|refine wJ ?_|refine wC ?_|refine wD ?_|refine wE ?_|refine wF ?_|refine wG ?_|refine wK ?_|refine wL ?_|refine wM ?_|refine wN ?_|refine wO ?_|refine wP ?_|refine wQ ?_|refine wR ?_|refine wS ?_|refine wT ?_|refine wU ?_|refine wV ?_|refine wW ?_|refine wX ?_)
        refine ⟨i + 1, by dsimp only; omega, rfl, rfl, by dsimp only; exact (by repeat (first | exact Wk.jk | refine Wk.up rfl ?_)), ?_⟩
        refine ⟨by omega, ?_⟩
        rw [take_snoc ha', take_snoc hb', hx, hc3]
    · repeat' (first|refine wA ?_|refine wB ?_|refine wH ?_|refine wI ?_|refine wJ ?_|refine wC ?_|refine wD ?_|refine wE ?_|refine wF ?_|refine wG ?_|refine wK ?_|refine wL ?_|refine wM ?_|refine wN ?_|refine wO ?_|refine wP ?_|refine wQ ?_|refine wR ?_|refine wS ?_|refine wT ?_|refine wU ?_|refine wV ?_|refine wW ?_|refine wX ?_)
      refine Run.ret ⟨.inl rfl, ResK.tmp rfl (by conv => lhs; whnf) (ResK.nil ?_)⟩
      have hil : i = l.length := by omega
      subst hil
      rw [list_eq_of (l := l) (m := m) (by omega) hx]
      exact ⟨by rw [dec_t rfl]; rfl, rfl⟩

theorem IndexFuncL_ok {H : Hp} {v : Value} {l : List (List Int)} {g : FuncId} {first caps : Array Value} {p : List Int → Bool} (h : Sl (cL cI) H v l) (hf : ∀ x ∈ l, ∀ w, Sl cI H w x → acall Try.prog g (first.toList ++ [w] ++ caps.toList) H (.bool (p x)) H) :
    acall Try.prog 104 [v, .func (.func g) first caps] H (.int .i64 (findI p l)) H := by
  have hmx := h.max
  simp only [maxLen] at hmx
  refine CallK.eq (CallK.enter Try.func104 rfl rfl Try.ntmps104 Try.results104 rfl ?_)
  repeat' (first|refine wA ?_|refine wB ?_|refine wH ?_|refine wI ?_|refine wJ ?_|refine wC ?_|refine wD ?_|refine wE ?_|refine wF ?_|refine wG ?_|refine wK ?_|refine wL ?_|refine wM ?_|refine wN ?_|refine wO ?_|refine wP ?_|refine wQ ?_|refine wR ?_|refine wS ?_|refine wT ?_|refine wU ?_|refine wV ?_|refine wW ?_|refine wX ?_)
  refine Run.loopW (fun i => l.length - i) (fun (i : Nat) => up (up (up (up (up jk 0 v) 1 (.func (.func g) first caps)) 6 v) 7 (.int .i64 l.length)) 8 (.int .i64 (i : Int))) (fun _ => H) (fun i => i ≤ l.length ∧ ∀ b ∈ l.take i, p b = false) 0 rfl (by repeat (first | exact Wk.jk | refine Wk.up rfl ?_)) ⟨by omega, by simp⟩ ?_
  rintro i ⟨hi, hx⟩
  repeat' (first|refine wA ?_|refine wB ?_|refine wH ?_|refine wI ?_|refine wJ ?_|refine wC ?_|refine wD ?_|refine wE ?_|refine wF ?_|refine wG ?_|refine wK ?_|refine wL ?_|refine wM ?_|refine wN ?_|refine wO ?_|refine wP ?_|refine wQ ?_|refine wR ?_|refine wS ?_|refine wT ?_|refine wU ?_|refine wV ?_|refine wW ?_|refine wX ?_)
  refine Ops.cmp rfl rfl rfl (fun hc => ?_) (fun hc => ?_)
  · repeat' (first|refine wA ?_|refine wB ?_|refine wH ?_|refine wI ?_|refine wJ ?_|refine wC ?_|refine wD ?_|refine wE ?_|refine wF ?_|refine wG ?_|refine wK ?_|refine wL ?_|refine wM ?_|refine wN ?_|refine wO ?_|refine wP ?_|refine wQ ?_|refine wR ?_|refine wS ?_|refine wT ?_|refine wU ?_|refine wV ?_|refine wW ?_|refine wX ?_)
    refine Ops.idx h rfl rfl (by omega) (by omega) (by kernel_rfl) (by kernel_rfl) fun pz u a ha hu => ?_
    have ha' : l[i]? = some a := ha
    refine Ops.callVB rfl (hf a (List.mem_of_getElem? ha') u (cL_at hu)) (fun hc2 => ?_) (fun hc2 => ?_)
    · repeat' (first|refine wA ?_|refine wB ?_|refine wH ?_|refine wI ?_|refine wJ ?_|refine wC ?_|refine wD ?_|refine wE ?_|refine wF ?_|refine wG ?_|refine wK ?_|refine wL ?_|refine wM ?_|refine wN ?_|refine wO ?_|refine wP ?_|refine wQ ?_|refine wR ?_|refine wS ?_|refine wT ?_|refine wU ?_|refine wV ?_|refine wW ?_|refine wX ?_)
      refine Run.ret ⟨.inl rfl, ResK.tmp rfl (by conv => lhs; whnf) (ResK.nil ?_)⟩
      exact ⟨by rw [findI_hit ha' hc2 hx]; rfl, rfl⟩
    · repeat' (first|refine wA ?_|refine wB ?_|refine wH ?_|refine wI ?_|refine wJ ?_|refine wC ?_|refine wD ?_|refine wE ?_|refine wF ?_|refine wG ?_|refine wK ?_|refine wL ?_|refine wM ?_|refine wN ?_|refine wO ?_|refine wP ?_|refine wQ ?_|refine wR ?_|refine wS ?_|refine wT ?_|refine wU ?_|refine wV ?_|refine wW ?_|refine wX ?_)
      refine ⟨i + 1, by dsimp only; omega, rfl, rfl, by dsimp only; exact (by repeat (first | exact Wk.jk | refine Wk.up rfl ?_)), ?_⟩
      refine ⟨by omega, fun b hb => ?_⟩
      rw [take_snoc ha'] at hb
      rcases List.mem_append.1 hb with h1 | h1
      · exact hx b h1
      · obtain rfl := List.mem_singleton.1 h1
        exact hc2
  · repeat' (first|refine wA ?_|refine wB ?_|refine wH ?_|refine wI ?_|refine wJ ?_|refine wC ?_|refine wD ?_|refine wE ?_|refine wF ?_|refine wG ?_|refine wK ?_|refine wL ?_|refine wM ?_|refine wN ?_|refine wO ?_|refine wP ?_|refine wQ ?_|refine wR ?_|refine wS ?_|refine wT ?_|refine wU ?_|refine wV ?_|refine wW ?_|refine wX ?_)
    rw [take_end (by omega)] at hx
    refine Run.ret ⟨.inl rfl, ResK.tmp rfl (by conv => lhs; whnf) (ResK.nil ?_)⟩
    exact ⟨by rw [findI_miss hx]; rfl, rfl⟩

theorem ContainsFuncL_ok {H : Hp} {v : Value} {l : List (List Int)} {g : FuncId} {first caps : Array Value} {p : List Int → Bool} (h : Sl (cL cI) H v l) (hf : ∀ x ∈ l, ∀ w, Sl cI H w x → acall Try.prog g (first.toList ++ [w] ++ caps.toList) H (.bool (p x)) H) :
    acall Try.prog 96 [v, .func (.func g) first caps] H (.bool (l.any p)) H := by
  refine CallK.eq (CallK.enter Try.func96 rfl rfl Try.ntmps96 Try.results96 rfl ?_)
  repeat' (first|refine wA ?_|refine wB ?_|refine wH ?_|refine wI ?_|refine wJ ?_|refine wC ?_|refine wD ?_|refine wE ?_|refine wF ?_|refine wG ?_|refine wK ?_|refine wL ?_|refine wM ?_|refine wN ?_|refine wO ?_|refine wP ?_|refine wQ ?_|refine wR ?_|refine wS ?_|refine wT ?_|refine wU ?_|refine wV ?_|refine wW ?_|refine wX ?_)
  refine Ops.callE (IndexFuncL_ok h hf) ?_
  refine Ops.cmp rfl rfl rfl (fun hc => ?_) (fun hc => ?_)
  · repeat' (first|refine wA ?_|refine wB ?_|refine wH ?_|refine wI ?_|refine wJ ?_|refine wC ?_|refine wD ?_|refine wE ?_|refine wF ?_|refine wG ?_|refine wK ?_|refine wL ?_|refine wM ?_|refine wN ?_|refine wO ?_|refine wP ?_|refine wQ ?_|refine wR ?_|refine wS ?_|refine wT ?_|refine wU ?_|refine wV ?_|refine wW ?_|refine wX ?_)
    refine Run.ret ⟨.inl rfl, ResK.tmp rfl (by conv => lhs; whnf) (ResK.nil ?_)⟩
    exact ⟨by rw [List.any_eq_true.2 (findI_nonneg.1 hc)]; rfl, rfl⟩
  · repeat' (first|refine wA ?_|refine wB ?_|refine wH ?_|refine wI ?_|refine wJ ?_|refine wC ?_|refine wD ?_|refine wE ?_|refine wF ?_|refine wG ?_|refine wK ?_|refine wL ?_|refine wM ?_|refine wN ?_|refine wO ?_|refine wP ?_|refine wQ ?_|refine wR ?_|refine wS ?_|refine wT ?_|refine wU ?_|refine wV ?_|refine wW ?_|refine wX ?_)
    refine Run.ret ⟨.inl rfl, ResK.tmp rfl (by conv => lhs; whnf) (ResK.nil ?_)⟩
    have : l.any p = false := by
      rw [← Bool.not_eq_true, List.any_eq_true]
      exact fun h2 => hc (findI_nonneg.2 h2)
    exact ⟨by rw [this]; rfl, rfl⟩

theorem has1_ok {H : Hp} {v w : Value} {l m : List Int} (h : Pt H v [w]) (h1 : Sl cI H w l) {x : Value} (h2 : Sl cI H x m) : acall Try.prog 97 [x, v] H (.bool (dec (l = m))) H := by
  refine CallK.eq (CallK.enter Try.func97 rfl rfl Try.ntmps97 Try.results97 rfl ?_)
  repeat' (first|refine wA ?_|refine wB ?_|refine wH ?_|refine wI ?_|refine wJ ?_|refine wC ?_|refine wD ?_|refine wE ?_|refine wF ?_|refine wG ?_|refine wK ?_|refine wL ?_|refine wM ?_|refine wN ?_|refine wO ?_|refine wP ?_|refine wQ ?_|refine wR ?_|refine wS ?_|refine wT ?_|refine wU ?_|refine wV ?_|refine wW ?_|refine wX ?_)
  refine Ops.load1 h (by kernel_rfl) rfl ?_
  repeat' (first|refine wA ?_|refine wB ?_|refine wH ?_|refine wI ?_|refine wJ ?_|refine wC ?_|refine wD ?_|refine wE ?_|refine wF ?_|refine wG ?_|refine wK ?_|refine wL ?_|refine wM ?_|refine wN ?_|refine wO ?_|refine wP ?_|refine wQ ?_|refine wR ?_|refine wS ?_|refine wT ?_|refine wU ?_|refine wV ?_|refine wW ?_|refine wX ?_)
  refine Ops.callE (EqualI_ok h1 h2) ?_
  repeat' (first|refine wA ?_|refine wB ?_|refine wH ?_|refine wI ?_|refine wJ ?_|refine wC ?_|refine wD ?_|refine wE ?_|refine wF ?_|refine wG ?_|refine wK ?_|refine wL ?_|refine wM ?_|refine wN ?_|refine wO ?_|refine wP ?_|refine wQ ?_|refine wR ?_|refine wS ?_|refine wT ?_|refine wU ?_|refine wV ?_|refine wW ?_|refine wX ?_)
  refine Run.ret ⟨.inl rfl, ResK.tmp rfl (by conv => lhs; whnf) (ResK.nil ?_)⟩
  exact ⟨rfl, rfl⟩

theorem implhas_ok {H : Hp} {v w : Value} {ls : List (List Int)} {p : List Int} (h : Sl (cL cI) H v ls) (h2 : Sl cI H w p) : CallK Try.prog 75 [v, w] H (fun r H' => Calm H H' ∧ r = .bool (dec (p ∈ ls))) := by
  obtain ⟨q, hq⟩ := h2.val
  have hone := sl_one h2
  refine (CallK.enter Try.func75 rfl rfl Try.ntmps75 Try.results75 rfl ?_)
  repeat' (first|refine wA ?_|refine wB ?_|refine wH ?_|refine wI ?_|refine wJ ?_|refine wC ?_|refine wD ?_|refine wE ?_|refine wF ?_|refine wG ?_|refine wK ?_|refine wL ?_|refine wM ?_|refine wN ?_|refine wO ?_|refine wP ?_|refine wQ ?_|refine wR ?_|refine wS ?_|refine wT ?_|refine wU ?_|refine wV ?_|refine wW ?_|refine wX ?_)
  refine Ops.box H.nxt (Nat.le_refl _) (cs := [w]) (by show Value.known w = true; rw [hq]; rfl) (by show cellsOf w = [w]; rw [hq]; rfl) (by simp) fun p1 H1 o1 c1 ap1 => ?_
  repeat' (first|refine wA ?_|refine wB ?_|refine wH ?_|refine wI ?_|refine wJ ?_|refine wC ?_|refine wD ?_|refine wE ?_|refine wF ?_|refine wG ?_|refine wK ?_|refine wL ?_|refine wM ?_|refine wN ?_|refine wO ?_|refine wP ?_|refine wQ ?_|refine wR ?_|refine wS ?_|refine wT ?_|refine wU ?_|refine wV ?_|refine wW ?_|refine wX ?_)
  refine Ops.fn1 rfl ?_
  refine Ops.callE (ContainsFuncL_ok (first := #[]) (caps := #[p1]) (p := fun x => dec (p = x)) (h.calm c1) (fun x _ w hw => has1_ok o1.pt (h2.calm c1) hw)) ?_
  repeat' (first|refine wA ?_|refine wB ?_|refine wH ?_|refine wI ?_|refine wJ ?_|refine wC ?_|refine wD ?_|refine wE ?_|refine wF ?_|refine wG ?_|refine wK ?_|refine wL ?_|refine wM ?_|refine wN ?_|refine wO ?_|refine wP ?_|refine wQ ?_|refine wR ?_|refine wS ?_|refine wT ?_|refine wU ?_|refine wV ?_|refine wW ?_|refine wX ?_)
  refine Run.ret ⟨.inl rfl, ResK.tmp rfl (by conv => lhs; whnf) (ResK.nil ?_)⟩
  refine ⟨c1, ?_⟩
  have e : ls.any (fun x => dec (p = x)) = dec (p ∈ ls) := by
    by_cases hm : p ∈ ls
    · rw [dec_t hm, List.any_eq_true]; exact ⟨p, hm, dec_t rfl⟩
    · rw [dec_f hm, ← Bool.not_eq_true, List.any_eq_true]
      rintro ⟨x, hx, he⟩
      have := of_dec_t he
      subst this; exact hm hx
  rw [e]; rfl

/-- What HasTuple hands back. -/
def hasOf (s : OS) (t : List Int) : Prop := isOS s ∧ isTup t ∧ (patSt s.consts t).2 ∈ s.pats

theorem specHasTuple_ok {H : Hp} {v w : Value} {s : OS} {t : List Int} (h : cOS.ok H (cellsOf v) s) (ht : Sl cI H w t) :
    CallK Try.prog 38 [v, w] H (fun r H' => Calm H H' ∧ r = .bool (dec (hasOf s t))) := by
  have hone := cOS.one h
  obtain ⟨v1, v2, hcs, s1, s2⟩ := h
  have hok : cOS.ok H (cellsOf (.agg #[.int .i64 s.width, v1, v2])) s := ⟨v1, v2, rfl, s1, s2⟩
  refine (CallK.enter Try.func38 rfl rfl Try.ntmps38 Try.results38 rfl ?_)
  repeat' (first|refine wA ?_|refine wB ?_|refine wH ?_|refine wI ?_|refine wJ ?_|refine wC ?_|refine wD ?_|refine wE ?_|refine wF ?_|refine wG ?_|refine wK ?_|refine wL ?_|refine wM ?_|refine wN ?_|refine wO ?_|refine wP ?_|refine wQ ?_|refine wR ?_|refine wS ?_|refine wT ?_|refine wU ?_|refine wV ?_|refine wW ?_|refine wX ?_)
  refine Ops.box H.nxt (Nat.le_refl _) (one_known hone) hcs (by simp) fun p1 H1 o1 c1 ap1 => ?_
  repeat' (first|refine wA ?_|refine wB ?_|refine wH ?_|refine wI ?_|refine wJ ?_|refine wC ?_|refine wD ?_|refine wE ?_|refine wF ?_|refine wG ?_|refine wK ?_|refine wL ?_|refine wM ?_|refine wN ?_|refine wO ?_|refine wP ?_|refine wQ ?_|refine wR ?_|refine wS ?_|refine wT ?_|refine wU ?_|refine wV ?_|refine wW ?_|refine wX ?_)
  refine Run.draw [0, 1, 2, 3, 4, 5, 6, 9, 10, 11, 12, 7, 8, 13, 14, 15] Try.checked.mixed (by kernel_rfl) ?_
  refine Ops.loadS o1.pt (by kernel_rfl) (by kernel_rfl) ?_
  refine Ops.call (specIsOrbitSet_ok (cOS.calm c1 hok)) (fun _ _ h _ => h.1.ge') fun r2 H2 => ?_
  rintro ⟨c2, rfl⟩
  have o2 := o1.calm c2
  have c2 := c1.trans c2
  cases hd : dec (isOS s)
  · repeat' (first|refine wA ?_|refine wB ?_|refine wH ?_|refine wI ?_|refine wJ ?_|refine wC ?_|refine wD ?_|refine wE ?_|refine wF ?_|refine wG ?_|refine wK ?_|refine wL ?_|refine wM ?_|refine wN ?_|refine wO ?_|refine wP ?_|refine wQ ?_|refine wR ?_|refine wS ?_|refine wT ?_|refine wU ?_|refine wV ?_|refine wW ?_|refine wX ?_)
    refine Run.ret ⟨.inl rfl, ResK.tmp rfl (by conv => lhs; whnf) (ResK.nil ?_)⟩
    exact ⟨c2, by rw [dec_f (fun h => of_dec_f hd h.1)]; rfl⟩
  · have hd := of_dec_t hd
    repeat' (first|refine wA ?_|refine wB ?_|refine wH ?_|refine wI ?_|refine wJ ?_|refine wC ?_|refine wD ?_|refine wE ?_|refine wF ?_|refine wG ?_|refine wK ?_|refine wL ?_|refine wM ?_|refine wN ?_|refine wO ?_|refine wP ?_|refine wQ ?_|refine wR ?_|refine wS ?_|refine wT ?_|refine wU ?_|refine wV ?_|refine wW ?_|refine wX ?_)
    refine Ops.callB (l6Tuple_ok (ht.calm c2)) (fun h2 => ?_) (fun h2 => ?_)
    · have h2 := of_dec_t h2
      have := hd.2.2.1.1
      have := h2.1
      repeat' (first|refine wA ?_|refine wB ?_|refine wH ?_|refine wI ?_|refine wJ ?_|refine wC ?_|refine wD ?_|refine wE ?_|refine wF ?_|refine wG ?_|refine wK ?_|refine wL ?_|refine wM ?_|refine wN ?_|refine wO ?_|refine wP ?_|refine wQ ?_|refine wR ?_|refine wS ?_|refine wT ?_|refine wU ?_|refine wV ?_|refine wW ?_|refine wX ?_)
      refine Ops.unS rfl rfl rfl ?_
      refine Ops.fld 1 o2.pt (by kernel_rfl) (by kernel_rfl) rfl fun pz => ?_
      repeat' (first|refine wA ?_|refine wB ?_|refine wH ?_|refine wI ?_|refine wJ ?_|refine wC ?_|refine wD ?_|refine wE ?_|refine wF ?_|refine wG ?_|refine wK ?_|refine wL ?_|refine wM ?_|refine wN ?_|refine wO ?_|refine wP ?_|refine wQ ?_|refine wR ?_|refine wS ?_|refine wT ?_|refine wU ?_|refine wV ?_|refine wW ?_|refine wX ?_)
      refine Ops.call (l6Pattern_ok (s1.calm c2) (ht.calm c2) (by omega)) (fun _ _ h _ => h.1.ge') fun r3 H3 => ?_
      rintro ⟨c3, a3⟩
      have o3 := o2.calm c3
      have c3 := c2.trans c3
      repeat' (first|refine wA ?_|refine wB ?_|refine wH ?_|refine wI ?_|refine wJ ?_|refine wC ?_|refine wD ?_|refine wE ?_|refine wF ?_|refine wG ?_|refine wK ?_|refine wL ?_|refine wM ?_|refine wN ?_|refine wO ?_|refine wP ?_|refine wQ ?_|refine wR ?_|refine wS ?_|refine wT ?_|refine wU ?_|refine wV ?_|refine wW ?_|refine wX ?_)
      refine Ops.unS rfl rfl rfl ?_
      refine Ops.fld 2 o3.pt (by kernel_rfl) (by kernel_rfl) rfl fun pz => ?_
      repeat' (first|refine wA ?_|refine wB ?_|refine wH ?_|refine wI ?_|refine wJ ?_|refine wC ?_|refine wD ?_|refine wE ?_|refine wF ?_|refine wG ?_|refine wK ?_|refine wL ?_|refine wM ?_|refine wN ?_|refine wO ?_|refine wP ?_|refine wQ ?_|refine wR ?_|refine wS ?_|refine wT ?_|refine wU ?_|refine wV ?_|refine wW ?_|refine wX ?_)
      refine Ops.callE (l6There_ok (s2.calm c3) a3.sl) ?_
      cases h4 : dec ((patSt s.consts t).2 ∈ s.pats)
      · repeat' (first|refine wA ?_|refine wB ?_|refine wH ?_|refine wI ?_|refine wJ ?_|refine wC ?_|refine wD ?_|refine wE ?_|refine wF ?_|refine wG ?_|refine wK ?_|refine wL ?_|refine wM ?_|refine wN ?_|refine wO ?_|refine wP ?_|refine wQ ?_|refine wR ?_|refine wS ?_|refine wT ?_|refine wU ?_|refine wV ?_|refine wW ?_|refine wX ?_)
        refine Run.ret ⟨.inl rfl, ResK.tmp rfl (by conv => lhs; whnf) (ResK.nil ?_)⟩
        exact ⟨c3, by rw [dec_f (fun h => of_dec_f h4 h.2.2)]; rfl⟩
      · repeat' (first|refine wA ?_|refine wB ?_|refine wH ?_|refine wI ?_|refine wJ ?_|refine wC ?_|refine wD ?_|refine wE ?_|refine wF ?_|refine wG ?_|refine wK ?_|refine wL ?_|refine wM ?_|refine wN ?_|refine wO ?_|refine wP ?_|refine wQ ?_|refine wR ?_|refine wS ?_|refine wT ?_|refine wU ?_|refine wV ?_|refine wW ?_|refine wX ?_)
        refine Run.ret ⟨.inl rfl, ResK.tmp rfl (by conv => lhs; whnf) (ResK.nil ?_)⟩
        exact ⟨c3, by rw [dec_t ⟨hd, h2, of_dec_t h4⟩]; rfl⟩
    · repeat' (first|refine wA ?_|refine wB ?_|refine wH ?_|refine wI ?_|refine wJ ?_|refine wC ?_|refine wD ?_|refine wE ?_|refine wF ?_|refine wG ?_|refine wK ?_|refine wL ?_|refine wM ?_|refine wN ?_|refine wO ?_|refine wP ?_|refine wQ ?_|refine wR ?_|refine wS ?_|refine wT ?_|refine wU ?_|refine wV ?_|refine wW ?_|refine wX ?_)
      refine Run.ret ⟨.inl rfl, ResK.tmp rfl (by conv => lhs; whnf) (ResK.nil ?_)⟩
      exact ⟨c2, by rw [dec_f (fun h => of_dec_f h2 h.2.1)]; rfl⟩

theorem HasTuple_ok {H : Hp} {v w : Value} {s : OS} {t : List Int} (h : cOS.ok H (cellsOf v) s) (ht : Sl cI H w t) :
    CallK Try.prog 39 [v, w] H (fun r H' => Calm H H' ∧ r = .bool (dec (hasOf s t))) := by
  have hone := cOS.one h
  obtain ⟨v1, v2, hcs, s1, s2⟩ := h
  have hok : cOS.ok H (cellsOf (.agg #[.int .i64 s.width, v1, v2])) s := ⟨v1, v2, rfl, s1, s2⟩
  refine (CallK.enter Try.func39 rfl rfl Try.ntmps39 Try.results39 rfl ?_)
  repeat' (first|refine wA ?_|refine wB ?_|refine wH ?_|refine wI ?_|refine wJ ?_|refine wC ?_|refine wD ?_|refine wE ?_|refine wF ?_|refine wG ?_|refine wK ?_|refine wL ?_|refine wM ?_|refine wN ?_|refine wO ?_|refine wP ?_|refine wQ ?_|refine wR ?_|refine wS ?_|refine wT ?_|refine wU ?_|refine wV ?_|refine wW ?_|refine wX ?_)
  refine Ops.box H.nxt (Nat.le_refl _) (one_known hone) hcs (by simp) fun p1 H1 o1 c1 ap1 => ?_
  repeat' (first|refine wA ?_|refine wB ?_|refine wH ?_|refine wI ?_|refine wJ ?_|refine wC ?_|refine wD ?_|refine wE ?_|refine wF ?_|refine wG ?_|refine wK ?_|refine wL ?_|refine wM ?_|refine wN ?_|refine wO ?_|refine wP ?_|refine wQ ?_|refine wR ?_|refine wS ?_|refine wT ?_|refine wU ?_|refine wV ?_|refine wW ?_|refine wX ?_)
  refine Run.draw [0, 1, 2, 3, 4, 5, 6, 9, 10, 11, 12, 7, 8, 13, 14, 15] Try.checked.mixed (by kernel_rfl) ?_
  refine Ops.loadS o1.pt (by kernel_rfl) (by kernel_rfl) ?_
  refine Ops.call (IsOrbitSet_ok (cOS.calm c1 hok)) (fun _ _ h _ => h.1.ge') fun r2 H2 => ?_
  rintro ⟨c2, rfl⟩
  have o2 := o1.calm c2
  have c2 := c1.trans c2
  cases hd : dec (isOS s)
  · repeat' (first|refine wA ?_|refine wB ?_|refine wH ?_|refine wI ?_|refine wJ ?_|refine wC ?_|refine wD ?_|refine wE ?_|refine wF ?_|refine wG ?_|refine wK ?_|refine wL ?_|refine wM ?_|refine wN ?_|refine wO ?_|refine wP ?_|refine wQ ?_|refine wR ?_|refine wS ?_|refine wT ?_|refine wU ?_|refine wV ?_|refine wW ?_|refine wX ?_)
    refine Run.ret ⟨.inl rfl, ResK.tmp rfl (by conv => lhs; whnf) (ResK.nil ?_)⟩
    exact ⟨c2, by rw [dec_f (fun h => of_dec_f hd h.1)]; rfl⟩
  · have hd := of_dec_t hd
    repeat' (first|refine wA ?_|refine wB ?_|refine wH ?_|refine wI ?_|refine wJ ?_|refine wC ?_|refine wD ?_|refine wE ?_|refine wF ?_|refine wG ?_|refine wK ?_|refine wL ?_|refine wM ?_|refine wN ?_|refine wO ?_|refine wP ?_|refine wQ ?_|refine wR ?_|refine wS ?_|refine wT ?_|refine wU ?_|refine wV ?_|refine wW ?_|refine wX ?_)
    refine Ops.callB (isTuple_ok (ht.calm c2)) (fun h2 => ?_) (fun h2 => ?_)
    · have h2 := of_dec_t h2
      have := hd.2.2.1.1
      have := h2.1
      repeat' (first|refine wA ?_|refine wB ?_|refine wH ?_|refine wI ?_|refine wJ ?_|refine wC ?_|refine wD ?_|refine wE ?_|refine wF ?_|refine wG ?_|refine wK ?_|refine wL ?_|refine wM ?_|refine wN ?_|refine wO ?_|refine wP ?_|refine wQ ?_|refine wR ?_|refine wS ?_|refine wT ?_|refine wU ?_|refine wV ?_|refine wW ?_|refine wX ?_)
      refine Ops.unS rfl rfl rfl ?_
      refine Ops.fld 1 o2.pt (by kernel_rfl) (by kernel_rfl) rfl fun pz => ?_
      repeat' (first|refine wA ?_|refine wB ?_|refine wH ?_|refine wI ?_|refine wJ ?_|refine wC ?_|refine wD ?_|refine wE ?_|refine wF ?_|refine wG ?_|refine wK ?_|refine wL ?_|refine wM ?_|refine wN ?_|refine wO ?_|refine wP ?_|refine wQ ?_|refine wR ?_|refine wS ?_|refine wT ?_|refine wU ?_|refine wV ?_|refine wW ?_|refine wX ?_)
      refine Ops.call (pattern_ok (s1.calm c2) (ht.calm c2) (const_nodup hd.2.2.1) (by omega)) (fun _ _ h _ => h.1.ge') fun r3 H3 => ?_
      rintro ⟨c3, a3⟩
      have o3 := o2.calm c3
      have c3 := c2.trans c3
      repeat' (first|refine wA ?_|refine wB ?_|refine wH ?_|refine wI ?_|refine wJ ?_|refine wC ?_|refine wD ?_|refine wE ?_|refine wF ?_|refine wG ?_|refine wK ?_|refine wL ?_|refine wM ?_|refine wN ?_|refine wO ?_|refine wP ?_|refine wQ ?_|refine wR ?_|refine wS ?_|refine wT ?_|refine wU ?_|refine wV ?_|refine wW ?_|refine wX ?_)
      refine Ops.unS rfl rfl rfl ?_
      refine Ops.fld 2 o3.pt (by kernel_rfl) (by kernel_rfl) rfl fun pz => ?_
      repeat' (first|refine wA ?_|refine wB ?_|refine wH ?_|refine wI ?_|refine wJ ?_|refine wC ?_|refine wD ?_|refine wE ?_|refine wF ?_|refine wG ?_|refine wK ?_|refine wL ?_|refine wM ?_|refine wN ?_|refine wO ?_|refine wP ?_|refine wQ ?_|refine wR ?_|refine wS ?_|refine wT ?_|refine wU ?_|refine wV ?_|refine wW ?_|refine wX ?_)
      refine Ops.call (implhas_ok (s2.calm c3) a3.sl) (fun _ _ h _ => h.1.ge') fun r4 H4 => ?_
      rintro ⟨c4, rfl⟩
      have c3 := c3.trans c4
      cases h4 : dec ((patSt s.consts t).2 ∈ s.pats)
      · repeat' (first|refine wA ?_|refine wB ?_|refine wH ?_|refine wI ?_|refine wJ ?_|refine wC ?_|refine wD ?_|refine wE ?_|refine wF ?_|refine wG ?_|refine wK ?_|refine wL ?_|refine wM ?_|refine wN ?_|refine wO ?_|refine wP ?_|refine wQ ?_|refine wR ?_|refine wS ?_|refine wT ?_|refine wU ?_|refine wV ?_|refine wW ?_|refine wX ?_)
        refine Run.ret ⟨.inl rfl, ResK.tmp rfl (by conv => lhs; whnf) (ResK.nil ?_)⟩
        exact ⟨c3, by rw [dec_f (fun h => of_dec_f h4 h.2.2)]; rfl⟩
      · repeat' (first|refine wA ?_|refine wB ?_|refine wH ?_|refine wI ?_|refine wJ ?_|refine wC ?_|refine wD ?_|refine wE ?_|refine wF ?_|refine wG ?_|refine wK ?_|refine wL ?_|refine wM ?_|refine wN ?_|refine wO ?_|refine wP ?_|refine wQ ?_|refine wR ?_|refine wS ?_|refine wT ?_|refine wU ?_|refine wV ?_|refine wW ?_|refine wX ?_)
        refine Run.ret ⟨.inl rfl, ResK.tmp rfl (by conv => lhs; whnf) (ResK.nil ?_)⟩
        exact ⟨c3, by rw [dec_t ⟨hd, h2, of_dec_t h4⟩]; rfl⟩
    · repeat' (first|refine wA ?_|refine wB ?_|refine wH ?_|refine wI ?_|refine wJ ?_|refine wC ?_|refine wD ?_|refine wE ?_|refine wF ?_|refine wG ?_|refine wK ?_|refine wL ?_|refine wM ?_|refine wN ?_|refine wO ?_|refine wP ?_|refine wQ ?_|refine wR ?_|refine wS ?_|refine wT ?_|refine wU ?_|refine wV ?_|refine wW ?_|refine wX ?_)
      refine Run.ret ⟨.inl rfl, ResK.tmp rfl (by conv => lhs; whnf) (ResK.nil ?_)⟩
      exact ⟨c2, by rw [dec_f (fun h => of_dec_f h2 h.2.1)]; rfl⟩

end Go.Proofs.Ytefmjpbmdoebaaa

/- The abstract machine, part 21: maps from whole numbers to true. -/
set_option linter.unusedVariables false
set_option linter.unusedSimpArgs false
namespace Go.Proofs.Ytefmjpbmdoebaaa
open Go Go.RowKit

theorem pow_odd : ∀ {a b m n : Nat}, 2 ^ a * (2 * m + 1) = 2 ^ b * (2 * n + 1) → a = b ∧ m = n
  | 0, 0, m, n, h => by simp at h; exact ⟨rfl, by omega⟩
  | 0, b + 1, m, n, h => by
    rw [Nat.pow_succ, Nat.mul_comm (2 ^ b) 2, Nat.mul_assoc] at h
    generalize 2 ^ b * (2 * n + 1) = z at h
    omega
  | a + 1, 0, m, n, h => by
    rw [Nat.pow_succ, Nat.mul_comm (2 ^ a) 2, Nat.mul_assoc] at h
    generalize 2 ^ a * (2 * m + 1) = z at h
    omega
  | a + 1, b + 1, m, n, h => by
    rw [Nat.pow_succ, Nat.mul_comm (2 ^ a) 2, Nat.mul_assoc, Nat.pow_succ, Nat.mul_comm (2 ^ b) 2, Nat.mul_assoc] at h
    have := pow_odd (a := a) (b := b) (m := m) (n := n) (by omega)
    omega

theorem mcode_inj : ∀ {l m : List Int}, mcode l = mcode m → l = m
  | [], [], _ => rfl
  | [], x :: t, h => by
    have h1 : 0 < 2 ^ (if 0 ≤ x then 2 * x.toNat else 2 * (-x).toNat + 1) * (2 * mcode t + 1) := Nat.mul_pos (Nat.pow_pos (by omega)) (by omega)
    simp only [mcode] at h; omega
  | x :: t, [], h => by
    have h1 : 0 < 2 ^ (if 0 ≤ x then 2 * x.toNat else 2 * (-x).toNat + 1) * (2 * mcode t + 1) := Nat.mul_pos (Nat.pow_pos (by omega)) (by omega)
    simp only [mcode] at h; omega
  | x :: t, y :: u, h => by
    simp only [mcode] at h
    obtain ⟨h1, h2⟩ := pow_odd h
    rw [mcode_inj h2]
    congr 1
    split at h1 <;> split at h1 <;> omega

theorem mapOb_inj {l m : List Int} (h : mapOb l = mapOb m) : l = m := by
  have := congrArg Ob.e h
  change 1 + mcode l = 1 + mcode m at this
  exact mcode_inj (by omega)

/-- A new map. -/
def Hp.newM (H : Hp) (l : List Int) : Hp where
  get := fun i => if i = H.nxt then some (mapOb l) else H.get i
  own := fun i => if i = H.nxt then false else H.own i
  root := fun i => if i = H.nxt then H.nxt else H.root i
  nxt := H.nxt + 1
  wf := fun i hi => by rw [if_neg (by omega)]; exact H.wf i (by omega)
  rt := fun i hi => by
    by_cases e : i = H.nxt
    · rw [if_pos e]; omega
    · rw [if_neg e]; exact H.rt i (by omega)
  ou := fun i j hi hj h1 h2 h3 => by
    by_cases e : i = H.nxt
    · rw [if_pos e] at h1; cases h1
    · by_cases e' : j = H.nxt
      · rw [if_pos e'] at h2; cases h2
      · rw [if_neg e] at h1 h3
        rw [if_neg e'] at h2 h3
        exact H.ou i j (by omega) (by omega) h1 h2 h3

/-- Other contents for a map. -/
def Hp.setM (H : Hp) (id : Nat) (l : List Int) (h : id < H.nxt) : Hp where
  get := fun i => if i = id then some (mapOb l) else H.get i
  own := H.own
  root := H.root
  nxt := H.nxt
  wf := fun i hi => by rw [if_neg (by omega)]; exact H.wf i hi
  rt := H.rt
  ou := H.ou

theorem Calm.newM (H : Hp) (l : List Int) : Calm H (H.newM l) := ⟨Nat.le_succ _, fun id hi => ⟨if_neg (by omega), if_neg (by omega), if_neg (by omega)⟩⟩
theorem Calm.setM {H0 H : Hp} (hc : Calm H0 H) {id : Nat} {l : List Int} (h : id < H.nxt) (hid : H0.nxt ≤ id) : Calm H0 (H.setM id l h) := ⟨hc.1, fun i hi => by
  obtain ⟨e1, e2, e3⟩ := hc.2 i hi
  exact ⟨(if_neg (by omega)).trans e1, e2, e3⟩⟩

theorem HR.newM {B : Nat} {β : Bm} {H : Hp} {w : World} (hr : HR B β H w) : HR B (Bm.set β H.nxt (w.heap.size, none)) (H.newM []) (w.alloc (.map #[] 0)) ∧ Fr B β H w (Bm.set β H.nxt (w.heap.size, none)) (H.newM []) (w.alloc (.map #[] 0)) := by
  have hmono := hr.bump (p := (w.heap.size, none))
  have hgr := grown_alloc w (.map #[] 0)
  have hat := alloc_at w (.map #[] 0)
  have hold : ∀ j, j < w.heap.size → (w.alloc (.map #[] 0)).heap[j]? = w.heap[j]? := fun j hj => hgr.block j hj (by simp)
  have hbase := hr.base
  have gl : ∀ i, i ≠ H.nxt → (H.newM []).get i = H.get i := fun i e => if_neg e
  have ol : ∀ i, i ≠ H.nxt → (H.newM []).own i = H.own i := fun i e => if_neg e
  have rl : ∀ i, i ≠ H.nxt → (H.newM []).root i = H.root i := fun i e => if_neg e
  have gn : (H.newM []).get H.nxt = some (mapOb []) := if_pos rfl
  have on : (H.newM []).own H.nxt = false := if_pos rfl
  refine ⟨⟨?_, ?_, ?_, ?_, ?_, ?_, ?_, ?_, ?_⟩, ?_⟩
  · intro i hi
    have hi' : H.nxt + 1 ≤ i := hi
    rw [Bm.set_ne _ _ (by omega)]
    exact hr.dom i (by omega)
  · intro i b k h
    by_cases e : i = H.nxt
    · subst e; rw [Bm.set_at] at h; cases h
      exact (Array.getElem?_eq_some_iff.1 hat).1
    · rw [Bm.set_ne _ _ e] at h
      exact Nat.lt_of_lt_of_le (hr.blk i b k h) hgr.size
  · intro i ob b k hg hb j v hj
    by_cases e : i = H.nxt
    · subst e
      rw [gn] at hg; cases hg
      simp [mapOb] at hj
    · rw [Bm.set_ne _ _ e] at hb
      rw [gl i e] at hg
      obtain ⟨u, h1, h2⟩ := hr.cell i ob b k hg hb j v hj
      exact ⟨u, by rw [World.cell?_of_block (w := w) (hold b (hr.blk i b k hb))]; exact h1, h2.mono hmono⟩
  · intro i ob b K s hg hb
    by_cases e : i = H.nxt
    · subst e; rw [Bm.set_at] at hb; cases hb
    · rw [Bm.set_ne _ _ e] at hb
      rw [gl i e] at hg
      exact hr.siz i ob b K s hg hb
  · intro i ob b k hg hb ho
    by_cases e : i = H.nxt
    · subst e; rw [on] at ho; cases ho
    · rw [Bm.set_ne _ _ e] at hb
      rw [gl i e] at hg
      rw [ol i e] at ho
      obtain ⟨h1, K1, cur1, h2, h3, h4⟩ := hr.own i ob b k hg hb ho
      exact ⟨h1, K1, cur1, h2, by rw [hold b (hr.blk i b k hb)]; exact h3, h4⟩
  · intro i i' ob1 ob2 b k k' hg hg' hb hb' ho
    by_cases e : i = H.nxt
    · subst e; rw [on] at ho; cases ho
    · rw [Bm.set_ne _ _ e] at hb
      rw [gl i e] at hg
      rw [ol i e] at ho
      by_cases e' : i' = H.nxt
      · subst e'
        rw [Bm.set_at] at hb'; cases hb'
        have := hr.blk i _ _ hb; omega
      · rw [Bm.set_ne _ _ e'] at hb'
        rw [gl i' e'] at hg'
        rw [rl i e, rl i' e', ol i' e']
        exact hr.inj i i' ob1 ob2 b k k' hg hg' hb hb' ho
  · exact Nat.le_trans hr.base hgr.size
  · intro i b k l hg hb
    by_cases e : i = H.nxt
    · subst e
      rw [gn] at hg
      have := mapOb_inj (Option.some.inj hg)
      subst this
      rw [Bm.set_at] at hb; cases hb
      exact ⟨hbase, #[], 0, hat, rfl⟩
    · rw [Bm.set_ne _ _ e] at hb
      rw [gl i e] at hg
      rw [hold b (hr.blk i b k hb)]
      exact hr.mp i b k l hg hb
  · intro i i' b k k' l l' hg hg' hb hb'
    by_cases e : i = H.nxt <;> by_cases e' : i' = H.nxt
    · rw [e, e']
    · exfalso
      subst e
      rw [Bm.set_at] at hb; cases hb
      rw [Bm.set_ne _ _ e'] at hb'
      have := hr.blk i' _ _ hb'; omega
    · exfalso
      subst e'
      rw [Bm.set_at] at hb'; cases hb'
      rw [Bm.set_ne _ _ e] at hb
      have := hr.blk i _ _ hb; omega
    · rw [Bm.set_ne _ _ e] at hb
      rw [Bm.set_ne _ _ e'] at hb'
      rw [gl i e] at hg
      rw [gl i' e'] at hg'
      exact hr.mpi i i' b k k' l l' hg hg' hb hb'
  · exact ⟨fun i hi => Bm.set_ne _ _ (by omega), ⟨hgr.os, hgr.tape, hgr.output, hgr.size, fun j hj => hold j (by omega)⟩, Nat.le_succ _⟩

/-- A map's entries, turned. -/
theorem HR.setM {B : Nat} {β : Bm} {H : Hp} {w : World} (hr : HR B β H w) {id b : Nat} {k : Option (Nat × Nat)} {l l' : List Int} (hid : id < H.nxt) (hg : H.get id = some (mapOb l)) (ho : H.own id = false) (hb : β id = some (b, k)) {es : Array MapEntry} {clock : Nat} (hes : MapIs es l') :
    HR B β (H.setM id l' hid) { w with heap := w.heap.setIfInBounds b (.map es clock) } ∧ Fr B β H w β (H.setM id l' hid) { w with heap := w.heap.setIfInBounds b (.map es clock) } := by
  obtain ⟨hB, es0, clock0, hm, hes0⟩ := hr.mp id b k l hg hb
  have hlt : b < w.heap.size := (Array.getElem?_eq_some_iff.1 hm).1
  have hat : (w.heap.setIfInBounds b (.map es clock))[b]? = some (.map es clock) := by simp [hlt]
  have hold : ∀ j, j ≠ b → (w.heap.setIfInBounds b (.map es clock))[j]? = w.heap[j]? := fun j hj => by simp [Ne.symm hj]
  have gl : ∀ i, i ≠ id → (H.setM id l' hid).get i = H.get i := fun i e => if_neg e
  have gn : (H.setM id l' hid).get id = some (mapOb l') := if_pos rfl
  -- who lies in this block
  have cellNone : ∀ i, w.cell? ⟨b, i, none⟩ = none := fun i => by unfold World.cell?; rw [hm]
  refine ⟨⟨hr.dom, ?_, ?_, ?_, ?_, ?_, ?_, ?_, ?_⟩, ?_⟩
  · intro i b1 k1 h
    show b1 < (w.heap.setIfInBounds b _).size
    rw [Array.size_setIfInBounds]
    exact hr.blk i b1 k1 h
  · intro i ob b1 k1 hg1 hb1 j v hj
    by_cases e : i = id
    · subst e
      rw [gn] at hg1; cases hg1
      simp [mapOb] at hj
    · rw [gl i e] at hg1
      obtain ⟨u, h1, h2⟩ := hr.cell i ob b1 k1 hg1 hb1 j v hj
      have hne : b1 ≠ b := fun h => by rw [h, cellNone] at h1; cases h1
      exact ⟨u, by rw [World.cell?_of_block (w := w) (hold b1 hne)]; exact h1, h2⟩
  · intro i ob b1 K s hg1 hb1
    by_cases e : i = id
    · subst e
      rw [gn] at hg1; cases hg1
      have := hr.siz i (mapOb l) b1 K s hg hb1
      exact absurd (this.1 ▸ this.2) (by show ¬ 0 < 0; omega)
    · rw [gl i e] at hg1
      exact hr.siz i ob b1 K s hg1 hb1
  · intro i ob b1 k1 hg1 hb1 ho1
    by_cases e : i = id
    · subst e
      change H.own i = true at ho1
      rw [ho] at ho1; cases ho1
    · rw [gl i e] at hg1
      obtain ⟨h1, K1, cur1, h2, h3, h4⟩ := hr.own i ob b1 k1 hg1 hb1 ho1
      have hne : b1 ≠ b := fun h => by rw [h, hm] at h3; cases h3
      exact ⟨h1, K1, cur1, h2, by rw [hold b1 hne]; exact h3, h4⟩
  · intro i i' ob1 ob2 b1 k1 k2 hg1 hg2 hb1 hb2 ho1
    by_cases e : i = id
    · subst e
      change H.own i = true at ho1
      rw [ho] at ho1; cases ho1
    · rw [gl i e] at hg1
      by_cases e' : i' = id
      · subst e'
        obtain ⟨_, _, _, _, h3, _⟩ := hr.own i ob1 b1 k1 hg1 hb1 ho1
        rw [hb] at hb2; cases hb2
        rw [hm] at h3; cases h3
      · rw [gl i' e'] at hg2
        exact hr.inj i i' ob1 ob2 b1 k1 k2 hg1 hg2 hb1 hb2 ho1
  · show B ≤ (w.heap.setIfInBounds b _).size
    rw [Array.size_setIfInBounds]
    exact hr.base
  · intro i b1 k1 l1 hg1 hb1
    by_cases e : i = id
    · subst e
      rw [gn] at hg1
      have := mapOb_inj (Option.some.inj hg1)
      subst this
      rw [hb] at hb1; cases hb1
      exact ⟨hB, es, clock, hat, hes⟩
    · rw [gl i e] at hg1
      obtain ⟨h1, es1, c1, h2, h3⟩ := hr.mp i b1 k1 l1 hg1 hb1
      have hne : b1 ≠ b := fun h => by subst h; exact e (hr.mpi id i b1 k k1 l l1 hg hg1 hb hb1)
      exact ⟨h1, es1, c1, by rw [hold b1 hne]; exact h2, h3⟩
  · intro i i' b1 k1 k2 l1 l2 hg1 hg2 hb1 hb2
    have back : ∀ i l1, (H.setM id l' hid).get i = some (mapOb l1) → ∃ l2, H.get i = some (mapOb l2) := fun i l1 h => by
      by_cases e : i = id
      · subst e; exact ⟨l, hg⟩
      · rw [gl i e] at h; exact ⟨l1, h⟩
    obtain ⟨m1, g1⟩ := back i l1 hg1
    obtain ⟨m2, g2⟩ := back i' l2 hg2
    exact hr.mpi i i' b1 k1 k2 m1 m2 g1 g2 hb1 hb2
  · refine ⟨fun _ _ => rfl, ⟨rfl, rfl, rfl, ?_, fun j hj => hold j (by omega)⟩, Nat.le_refl _⟩
    show w.heap.size ≤ (w.heap.setIfInBounds b _).size
    rw [Array.size_setIfInBounds]
    exact Nat.le_refl _

/-- A type of maps from int to bool. -/
def mapT (P : Program) (t : Nat) : Bool :=
  match P.underlying t with
  | some (.map kt et) => (match P.underlying kt with | some (.int .i64) => true | _ => false) && (match P.info? et with | some i => (match i.zero with | some (.bool false) => true | _ => false) | none => false)
  | _ => false

theorem mapT_at {P : Program} {t : Nat} (h : mapT P t = true) : ∃ kt et i, P.underlying t = some (.map kt et) ∧ P.underlying kt = some (.int .i64) ∧ P.info? et = some i ∧ i.zero = some (.bool false) := by
  unfold mapT at h
  split at h
  · rename_i kt et hm
    rw [Bool.and_eq_true] at h
    obtain ⟨h1, h2⟩ := h
    split at h1
    · rename_i hk
      split at h2
      · rename_i i hi
        split at h2
        · rename_i hz
          exact ⟨kt, et, i, hm, hk, hi, hz⟩
        · cases h2
      · cases h2
    · cases h1
  · cases h

/-- A map of the call's own, made since k: its keys. -/
def Mp (k : Nat) (H : Hp) (v : Value) (l : List Int) : Prop := ∃ id, v = .map (some id) ∧ k ≤ id ∧ H.get id = some (mapOb l) ∧ H.own id = false

/-- What is found in a map. -/
theorem find_map : ∀ (es : List MapEntry) (l : List Int) (x : Int) (i : Nat), es.map (fun e => (e.key, e.val)) = (l.map fun x => (Value.int .i64 x, Value.bool true)) →
    (x ∉ l ∧ Instr.findNow (.int .i64) (.int .i64 x) es i = some none) ∨ (x ∈ l ∧ ∃ j e, Instr.findNow (.int .i64) (.int .i64 x) es i = some (some (i + j, .bool true)) ∧ es[j]? = some e ∧ e.key = .int .i64 x ∧ e.val = .bool true)
  | [], [], x, i, _ => .inl ⟨by simp, rfl⟩
  | [], _ :: _, x, i, h => by simp at h
  | _ :: _, [], x, i, h => by simp at h
  | e :: es, y :: l, x, i, h => by
    simp only [List.map_cons, List.cons.injEq, Prod.mk.injEq] at h
    obtain ⟨⟨h1, h2⟩, h3⟩ := h
    by_cases hxy : x = y
    · subst hxy
      exact .inr ⟨by simp, 0, e, by simp [Instr.findNow, h1, h2, Instr.sameNow], rfl, h1, h2⟩
    · have hs : Instr.sameNow (.int .i64) (.int .i64 x) e.key = some false := by rw [h1]; simp [Instr.sameNow, hxy]
      rcases find_map es l x (i + 1) h3 with ⟨g1, g2⟩ | ⟨g1, j, e', g2, g3, g4⟩
      · exact .inl ⟨by simp [hxy, g1], by simp only [Instr.findNow, hs]; exact g2⟩
      · refine .inr ⟨by simp [g1], j + 1, e', ?_, by simpa using g3, g4⟩
        simp only [Instr.findNow, hs]
        rw [g2]
        congr 3
        omega

section
variable {P : Program} {o : Oper} {ρ : Operand → Value} {H : Hp}

theorem aev_makeMap {t : TypeId} (ho : o.op = .makeMap t none) : aev P o ρ H (.map (some H.nxt)) (H.newM []) :=
  aev_intro fun B β a w hxs hr => by
    obtain ⟨h1, h2⟩ := hr.newM
    exact ⟨_, .map (some w.heap.size), _, by simp [execOp, ho, run_makeMap], .map (Bm.set_at _ _ _), h1, h2⟩

theorem aev_lookup {t : TypeId} {x y : Operand} {id : Nat} {l : List Int} {n : Int} (ho : o.op = .lookup t x y false) (ht : mapT P t = true) (hx : ρ x = .map (some id)) (hy : ρ y = .int .i64 n) (hg : H.get id = some (mapOb l)) : aev P o ρ H (.bool (decide (n ∈ l))) H :=
  aev_intro fun B β a w hxs hr => by
    obtain ⟨kt, et, i, m1, m2, m3, m4⟩ := mapT_at ht
    have g1 := hxs x (by rw [ho]; simp [Op.operands])
    have g2 := hxs y (by rw [ho]; simp [Op.operands])
    rw [hx] at g1
    rw [hy] at g2
    have e2 := VR.still_eq rfl g2
    generalize he : a.eval x = u at g1
    cases g1 with
    | map hb =>
      rename_i b k
      obtain ⟨_, es, clock, h3, h4⟩ := hr.mp id b k l hg hb
      refine ⟨β, .bool (decide (n ∈ l)), w, ?_, .bool _, hr, Fr.refl hr⟩
      have hk : MapKept.IsKey (.int .i64) (.int .i64 n) := rfl
      rcases find_map es.toList l n 0 h4 with ⟨g1, g2⟩ | ⟨g1, j, e', g2, g3, g4, g5⟩
      · simp [execOp, ho, he, e2, Instr.lookup, run_underlying m1, MapKept.run_getObj_map h3, MapKept.run_checkKey m2 hk, MapKept.run_findKey m2 g2, Result.andThen, zeroValue, typeInfo, m3, m4, g1]
      · simp [execOp, ho, he, e2, Instr.lookup, run_underlying m1, MapKept.run_getObj_map h3, MapKept.run_checkKey m2 hk, MapKept.run_findKey m2 g2, Result.andThen, g1]

/-- The keys behind a store. -/
def keyIn (l : List Int) (n : Int) : List Int := if n ∈ l then l else l ++ [n]

theorem aev_mapUpdate {t : TypeId} {x y z : Operand} {id : Nat} {l : List Int} {n : Int} (ho : o.op = .mapUpdate t x y z) (ht : mapT P t = true) (hx : ρ x = .map (some id)) (hy : ρ y = .int .i64 n) (hz : ρ z = .bool true) (hid : id < H.nxt) (hg : H.get id = some (mapOb l)) (hlo : H.own id = false) :
    aev P o ρ H undef (H.setM id (keyIn l n) hid) := by
  intro B β a w hxs hr next Q hnx
  obtain ⟨kt, et, i, m1, m2, m3, m4⟩ := mapT_at ht
  have g1 := hxs x (by rw [ho]; simp [Op.operands])
  have g2 := hxs y (by rw [ho]; simp [Op.operands])
  have g3 := hxs z (by rw [ho]; simp [Op.operands])
  rw [hx] at g1
  rw [hy] at g2
  rw [hz] at g3
  have e2 := VR.still_eq rfl g2
  have e3 := VR.still_eq rfl g3
  generalize he : a.eval x = u at g1
  cases g1 with
  | map hb =>
    rename_i b k
    obtain ⟨_, es, clock, h3, h4⟩ := hr.mp id b k l hg hb
    have hk : MapKept.IsKey (.int .i64) (.int .i64 n) := rfl
    have key : ∃ es' clock', (execOp a.eval o).run P w = .ok .skip { w with heap := w.heap.setIfInBounds b (.map es' clock') } ∧ MapIs es' (keyIn l n) := by
      rcases find_map es.toList l n 0 h4 with ⟨g1, g2⟩ | ⟨g1, j, e', g2, g3, g4, g5⟩
      · refine ⟨es.push ⟨.int .i64 n, .bool true, clock⟩, clock + 1, ?_, ?_⟩
        · simp [execOp, ho, he, e2, e3, Instr.mapUpdate, run_underlying m1, MapKept.run_getObj_map h3, MapKept.run_checkKey m2 hk, MapKept.run_findKey m2 g2, MapKept.run_setObj_map _ h3, Result.andThen]
        · unfold MapIs keyIn
          rw [if_neg g1, Array.toList_push, List.map_append, List.map_append]
          unfold MapIs at h4
          rw [h4]
          rfl
      · have hj : es[j]? = some e' := by simpa using g3
        refine ⟨es.modify j fun e => { e with key := .int .i64 n, val := .bool true }, clock, ?_, ?_⟩
        · simp [execOp, ho, he, e2, e3, Instr.mapUpdate, run_underlying m1, MapKept.run_getObj_map h3, MapKept.run_checkKey m2 hk, MapKept.run_findKey m2 g2, hj, g4, MapKept.run_keyThatStays hk, MapKept.run_setObj_map _ h3, Result.andThen]
        · unfold MapIs keyIn
          rw [if_pos g1, ← (show es.toList.map (fun e => (e.key, e.val)) = _ from h4)]
          apply List.ext_getElem?
          intro q
          simp only [List.getElem?_map, Array.getElem?_toList, Array.getElem?_modify]
          by_cases hq : j = q
          · subst hq
            rw [if_pos rfl, hj]
            simp [g4, g5]
          · rw [if_neg hq]
    obtain ⟨es', clock', hrun, hmis⟩ := key
    obtain ⟨h5, h6⟩ := hr.setM hid hg hlo hb (clock := clock') hmis
    unfold Oper.wp
    rw [hrun]
    exact hnx β undef _ VR.undef h5 h6

end

theorem Mp.calm {k : Nat} {H H' : Hp} {v : Value} {l : List Int} (h : Mp k H v l) (hc : Calm H H') : Mp k H' v l := by
  obtain ⟨id, h1, h2, h3, h4⟩ := h
  obtain ⟨e1, e2, _⟩ := hc.2 id (Hp.lt h3)
  exact ⟨id, h1, h2, e1.trans h3, e2.trans h4⟩
theorem Mp.older {k k' : Nat} {H : Hp} {v : Value} {l : List Int} (h : Mp k H v l) (hk : k' ≤ k) : Mp k' H v l := let ⟨id, h1, h2, h3⟩ := h; ⟨id, h1, Nat.le_trans hk h2, h3⟩
theorem keyIn_mem {l : List Int} {n x : Int} : x ∈ keyIn l n ↔ x ∈ l ∨ x = n := by
  unfold keyIn
  split
  · rename_i h; exact ⟨.inl, fun h2 => by rcases h2 with h2 | rfl; exact h2; exact h⟩
  · simp

section
variable {P : Program} {all : Array Oper} {rest : List Oper} {n : Nat} {T : Nat → Value} {H : Hp} {K : St → Prop} {d : Nat} {ty : TypeId} {ps : String} {af : Array Edge} {x y : Operand} {l : List Int} {m : Int} {k : Nat}

theorem Ops.makeMap {t : TypeId} (kk : ∀ v' H', Mp H.nxt H' v' [] → Calm H H' → Ops P false all rest ⟨n, up T d v', H'⟩ K) : Ops P false all (⟨some d, .makeMap t none, ty, ps, af, none⟩ :: rest) ⟨n, T, H⟩ K :=
  .plain (aev_makeMap rfl) (kk _ _ ⟨H.nxt, rfl, Nat.le_refl _, if_pos rfl, if_pos rfl⟩ (Calm.newM H []))

theorem Ops.lookup {t : TypeId} (h : Mp k H (rd T x) l) (ht : mapT P t = true) (hy : rd T y = .int .i64 m) (kk : Ops P false all rest ⟨n, up T d (.bool (decide (m ∈ l))), H⟩ K) : Ops P false all (⟨some d, .lookup t x y false, ty, ps, af, none⟩ :: rest) ⟨n, T, H⟩ K := by
  obtain ⟨id, h1, h2, h3, h4⟩ := h
  exact .plain (aev_lookup rfl ht h1 hy h3) kk

theorem Ops.mapUpdate {t : TypeId} (h : Mp k H (rd T x) l) (ht : mapT P t = true) (hy : rd T y = .int .i64 m) (kk : ∀ H', Mp k H' (rd T x) (keyIn l m) → (∀ H0, H0.nxt ≤ k → Calm H0 H → Calm H0 H') → Ops P false all rest ⟨n, T, H'⟩ K) : Ops P false all (⟨none, .mapUpdate t x y (.const (.bool true)), ty, ps, af, none⟩ :: rest) ⟨n, T, H⟩ K := by
  obtain ⟨id, h1, h2, h3, h4⟩ := h
  have hid := Hp.lt h3
  refine .step0 (StepF.plain (S := ⟨n, T, H⟩) (by rw [rho_eq]; exact aev_mapUpdate rfl ht h1 hy rfl hid h3 h4)) ?_
  exact kk _ ⟨id, h1, h2, if_pos rfl, h4⟩ fun H0 h5 h6 => h6.setM hid (Nat.le_trans h5 h2)

end
end Go.Proofs.Ytefmjpbmdoebaaa

/- The least atom that is not in a list, by the program and by the reference; a pattern's example. -/
set_option linter.unusedVariables false
namespace Go.Proofs.Ytefmjpbmdoebaaa
open Go Go.RowKit

def leastN (l : List Int) : Nat → Nat → Int
  | 0, _ => -1
  | f + 1, a => if (a : Int) ∈ l then leastN l f (a + 1) else a
/-- The least atom that is not in a list, or -1. -/
def least (l : List Int) : Int := leastN l 1000 0

theorem leastN_yes {l : List Int} {f a : Nat} (h : (a : Int) ∈ l) : leastN l (f + 1) a = leastN l f (a + 1) := if_pos h
theorem leastN_no {l : List Int} {f a : Nat} (h : (a : Int) ∉ l) : leastN l (f + 1) a = a := if_neg h
theorem leastN_range {l : List Int} : ∀ {f a : Nat}, leastN l f a = -1 ∨ (0 ≤ leastN l f a ∧ leastN l f a < a + f)
  | 0, a => .inl rfl
  | f + 1, a => by
    by_cases h : (a : Int) ∈ l
    · rw [leastN_yes h]
      rcases leastN_range (l := l) (f := f) (a := a + 1) with h1 | h1
      · exact .inl h1
      · exact .inr ⟨h1.1, by omega⟩
    · rw [leastN_no h]; exact .inr ⟨by omega, by omega⟩
theorem least_range {l : List Int} : least l = -1 ∨ (0 ≤ least l ∧ least l ≤ 999) := by
  rcases leastN_range (l := l) (f := 1000) (a := 0) with h | h
  · exact .inl h
  · unfold least; exact .inr ⟨h.1, by omega⟩

theorem l1Has_ok {H : Hp} {v : Value} {l : List Int} {x : Int} (h : Sl cI H v l) : acall Try.prog 106 [v, .int .i64 x] H (.bool (decide (x ∈ l))) H := by
  have hmx := h.max
  simp only [maxLen] at hmx
  refine CallK.eq (CallK.enter Try.func106 rfl rfl Try.ntmps106 Try.results106 rfl ?_)
  repeat' (first|refine wA ?_|refine wB ?_|refine wH ?_|refine wI ?_|refine wJ ?_|refine wC ?_|refine wD ?_|refine wE ?_|refine wF ?_|refine wG ?_|refine wK ?_|refine wL ?_|refine wM ?_|refine wN ?_|refine wO ?_|refine wP ?_|refine wQ ?_|refine wR ?_|refine wS ?_|refine wT ?_|refine wU ?_|refine wV ?_|refine wW ?_|refine wX ?_)
  refine Run.loopW (fun i => l.length - i) (fun (i : Nat) => up (up (up jk 0 v) 1 (.int .i64 x)) 5 (.int .i64 (i : Int))) (fun _ => H) (fun i => i ≤ l.length ∧ x ∉ l.take i) 0 rfl (by repeat (first | exact Wk.jk | refine Wk.up rfl ?_)) ⟨by omega, by simp⟩ ?_
  rintro i ⟨hi, hx⟩
  repeat' (first|refine wA ?_|refine wB ?_|refine wH ?_|refine wI ?_|refine wJ ?_|refine wC ?_|refine wD ?_|refine wE ?_|refine wF ?_|refine wG ?_|refine wK ?_|refine wL ?_|refine wM ?_|refine wN ?_|refine wO ?_|refine wP ?_|refine wQ ?_|refine wR ?_|refine wS ?_|refine wT ?_|refine wU ?_|refine wV ?_|refine wW ?_|refine wX ?_)
  refine Ops.cmp rfl rfl rfl (fun hc => ?_) (fun hc => ?_)
  · repeat' (first|refine wA ?_|refine wB ?_|refine wH ?_|refine wI ?_|refine wJ ?_|refine wC ?_|refine wD ?_|refine wE ?_|refine wF ?_|refine wG ?_|refine wK ?_|refine wL ?_|refine wM ?_|refine wN ?_|refine wO ?_|refine wP ?_|refine wQ ?_|refine wR ?_|refine wS ?_|refine wT ?_|refine wU ?_|refine wV ?_|refine wW ?_|refine wX ?_)
    refine Ops.idxI h rfl (by omega) (by omega) (by kernel_rfl) (by kernel_rfl) fun pz a ha => ?_
    have ha' : l[i]? = some a := ha
    repeat' (first|refine wA ?_|refine wB ?_|refine wH ?_|refine wI ?_|refine wJ ?_|refine wC ?_|refine wD ?_|refine wE ?_|refine wF ?_|refine wG ?_|refine wK ?_|refine wL ?_|refine wM ?_|refine wN ?_|refine wO ?_|refine wP ?_|refine wQ ?_|refine wR ?_|refine wS ?_|refine wT ?_|refine wU ?_|refine wV ?_|refine wW ?_|refine wX ?_)
    refine Ops.cmp rfl rfl rfl (fun hc2 => ?_) (fun hc2 => ?_)
    · repeat' (first|refine wA ?_|refine wB ?_|refine wH ?_|refine wI ?_|refine wJ ?_|refine wC ?_|refine wD ?_|refine wE ?_|refine wF ?_|refine wG ?_|refine wK ?_|refine wL ?_|refine wM ?_|refine wN ?_|refine wO ?_|refine wP ?_|refine wQ ?_|refine wR ?_|refine wS ?_|refine wT ?_|refine wU ?_|refine wV ?_|refine wW ?_|refine wX ?_)
      refine Run.ret ⟨.inl rfl, ResK.tmp rfl (by conv => lhs; whnf) (ResK.nil ?_)⟩
      subst hc2
      exact ⟨by simp [resVal, List.mem_of_getElem? ha'], rfl⟩
    · repeat' (first|refine wA ?_|refine wB ?_|refine wH ?_|refine wI ?_|refine wJ ?_|refine wC ?_|refine wD ?_|refine wE ?_|refine wF ?_|refine wG ?_|refine wK ?_|refine wL ?_|refine wM ?_|refine wN ?_|refine wO ?_|refine wP ?_|refine wQ ?_|refine wR ?_|refine wS ?_|refine wT ?_|refine wU ?_|refine wV ?_|refine wW ?_|refine wX ?_)
      refine ⟨i + 1, by dsimp only; omega, rfl, rfl, by dsimp only; exact (by repeat (first | exact Wk.jk | refine Wk.up rfl ?_)), ?_⟩
      refine ⟨by omega, fun hm => ?_⟩
      rw [take_snoc ha'] at hm
      rcases List.mem_append.1 hm with h5 | h5
      · exact hx h5
      · exact hc2 (List.mem_singleton.1 h5).symm
  · repeat' (first|refine wA ?_|refine wB ?_|refine wH ?_|refine wI ?_|refine wJ ?_|refine wC ?_|refine wD ?_|refine wE ?_|refine wF ?_|refine wG ?_|refine wK ?_|refine wL ?_|refine wM ?_|refine wN ?_|refine wO ?_|refine wP ?_|refine wQ ?_|refine wR ?_|refine wS ?_|refine wT ?_|refine wU ?_|refine wV ?_|refine wW ?_|refine wX ?_)
    rw [take_end (by omega)] at hx
    refine Run.ret ⟨.inl rfl, ResK.tmp rfl (by conv => lhs; whnf) (ResK.nil ?_)⟩
    exact ⟨by simp [resVal, hx], rfl⟩

theorem specLeastFresh_ok {H : Hp} {v : Value} {l : List Int} (h : Sl cI H v l) : acall Try.prog 99 [v] H (.int .i64 (least l)) H := by
  refine CallK.eq (CallK.enter Try.func99 rfl rfl Try.ntmps99 Try.results99 rfl ?_)
  repeat' (first|refine wA ?_|refine wB ?_|refine wH ?_|refine wI ?_|refine wJ ?_|refine wC ?_|refine wD ?_|refine wE ?_|refine wF ?_|refine wG ?_|refine wK ?_|refine wL ?_|refine wM ?_|refine wN ?_|refine wO ?_|refine wP ?_|refine wQ ?_|refine wR ?_|refine wS ?_|refine wT ?_|refine wU ?_|refine wV ?_|refine wW ?_|refine wX ?_)
  refine Run.loopW (fun i => 1000 - i) (fun (i : Nat) => up (up jk 0 v) 3 (.int .i64 (i : Int))) (fun _ => H) (fun i => i ≤ 1000 ∧ least l = leastN l (1000 - i) i) 0 rfl (by repeat (first | exact Wk.jk | refine Wk.up rfl ?_)) ⟨by omega, rfl⟩ ?_
  rintro i ⟨hi, hx⟩
  repeat' (first|refine wA ?_|refine wB ?_|refine wH ?_|refine wI ?_|refine wJ ?_|refine wC ?_|refine wD ?_|refine wE ?_|refine wF ?_|refine wG ?_|refine wK ?_|refine wL ?_|refine wM ?_|refine wN ?_|refine wO ?_|refine wP ?_|refine wQ ?_|refine wR ?_|refine wS ?_|refine wT ?_|refine wU ?_|refine wV ?_|refine wW ?_|refine wX ?_)
  refine Ops.cmp rfl rfl rfl (fun hc => ?_) (fun hc => ?_)
  · repeat' (first|refine wA ?_|refine wB ?_|refine wH ?_|refine wI ?_|refine wJ ?_|refine wC ?_|refine wD ?_|refine wE ?_|refine wF ?_|refine wG ?_|refine wK ?_|refine wL ?_|refine wM ?_|refine wN ?_|refine wO ?_|refine wP ?_|refine wQ ?_|refine wR ?_|refine wS ?_|refine wT ?_|refine wU ?_|refine wV ?_|refine wW ?_|refine wX ?_)
    obtain ⟨f, hf⟩ : ∃ f, 1000 - i = f + 1 := ⟨999 - i, by omega⟩
    rw [hf] at hx
    refine Ops.callB (l1Has_ok h) (fun hc2 => ?_) (fun hc2 => ?_)
    · rw [leastN_yes (by simpa using hc2)] at hx
      repeat' (first|refine wA ?_|refine wB ?_|refine wH ?_|refine wI ?_|refine wJ ?_|refine wC ?_|refine wD ?_|refine wE ?_|refine wF ?_|refine wG ?_|refine wK ?_|refine wL ?_|refine wM ?_|refine wN ?_|refine wO ?_|refine wP ?_|refine wQ ?_|refine wR ?_|refine wS ?_|refine wT ?_|refine wU ?_|refine wV ?_|refine wW ?_|refine wX ?_)
      refine ⟨i + 1, by dsimp only; omega, rfl, rfl, by dsimp only; exact (by repeat (first | exact Wk.jk | refine Wk.up rfl ?_)), ?_⟩
      exact ⟨by omega, by rw [hx]; congr 1; omega⟩
    · rw [leastN_no (by simpa using hc2)] at hx
      repeat' (first|refine wA ?_|refine wB ?_|refine wH ?_|refine wI ?_|refine wJ ?_|refine wC ?_|refine wD ?_|refine wE ?_|refine wF ?_|refine wG ?_|refine wK ?_|refine wL ?_|refine wM ?_|refine wN ?_|refine wO ?_|refine wP ?_|refine wQ ?_|refine wR ?_|refine wS ?_|refine wT ?_|refine wU ?_|refine wV ?_|refine wW ?_|refine wX ?_)
      refine Run.ret ⟨.inl rfl, ResK.tmp rfl (by conv => lhs; whnf) (ResK.nil ?_)⟩
      exact ⟨by rw [hx]; rfl, rfl⟩
  · repeat' (first|refine wA ?_|refine wB ?_|refine wH ?_|refine wI ?_|refine wJ ?_|refine wC ?_|refine wD ?_|refine wE ?_|refine wF ?_|refine wG ?_|refine wK ?_|refine wL ?_|refine wM ?_|refine wN ?_|refine wO ?_|refine wP ?_|refine wQ ?_|refine wR ?_|refine wS ?_|refine wT ?_|refine wU ?_|refine wV ?_|refine wW ?_|refine wX ?_)
    have : 1000 - i = 0 := by omega
    rw [this] at hx
    refine Run.ret ⟨.inl rfl, ResK.tmp rfl (by conv => lhs; whnf) (ResK.nil ?_)⟩
    exact ⟨by rw [hx]; rfl, rfl⟩

theorem LeastFresh_ok {H : Hp} {v : Value} {l : List Int} (h : Sl cI H v l) : CallK Try.prog 17 [v] H (fun r H' => Calm H H' ∧ r = .int .i64 (least l)) := by
  have hmx := h.max
  simp only [maxLen] at hmx
  refine (CallK.enter Try.func17 rfl rfl Try.ntmps17 Try.results17 rfl ?_)
  repeat' (first|refine wA ?_|refine wB ?_|refine wH ?_|refine wI ?_|refine wJ ?_|refine wC ?_|refine wD ?_|refine wE ?_|refine wF ?_|refine wG ?_|refine wK ?_|refine wL ?_|refine wM ?_|refine wN ?_|refine wO ?_|refine wP ?_|refine wQ ?_|refine wR ?_|refine wS ?_|refine wT ?_|refine wU ?_|refine wV ?_|refine wW ?_|refine wX ?_)
  refine Ops.makeMap fun u H1 m1 c1 => ?_
  have s1 := h.calm c1
  repeat' (first|refine wA ?_|refine wB ?_|refine wH ?_|refine wI ?_|refine wJ ?_|refine wC ?_|refine wD ?_|refine wE ?_|refine wF ?_|refine wG ?_|refine wK ?_|refine wL ?_|refine wM ?_|refine wN ?_|refine wO ?_|refine wP ?_|refine wQ ?_|refine wR ?_|refine wS ?_|refine wT ?_|refine wU ?_|refine wV ?_|refine wW ?_|refine wX ?_)
  refine Run.loopW (fun (a : Nat × Hp × List Int) => l.length - a.1) (fun a => up (up (up (up jk 3 u) 8 v) 9 (.int .i64 l.length)) 10 (.int .i64 (a.1 : Int))) (fun a => a.2.1)
    (fun a => a.1 ≤ l.length ∧ Calm H a.2.1 ∧ Mp H.nxt a.2.1 u a.2.2 ∧ ∀ x, x ∈ a.2.2 ↔ x ∈ l.take a.1) (0, H1, []) rfl (by repeat (first | exact Wk.jk | refine Wk.up rfl ?_)) ⟨by dsimp only; omega, c1, m1, by simp⟩ ?_
  rintro ⟨i, H2, ks⟩ ⟨hi, c2, m2, hk⟩
  dsimp only at hi c2 m2 hk
  dsimp only
  have s2 := h.calm c2
  repeat' (first|refine wA ?_|refine wB ?_|refine wH ?_|refine wI ?_|refine wJ ?_|refine wC ?_|refine wD ?_|refine wE ?_|refine wF ?_|refine wG ?_|refine wK ?_|refine wL ?_|refine wM ?_|refine wN ?_|refine wO ?_|refine wP ?_|refine wQ ?_|refine wR ?_|refine wS ?_|refine wT ?_|refine wU ?_|refine wV ?_|refine wW ?_|refine wX ?_)
  refine Ops.cmp rfl rfl rfl (fun hc => ?_) (fun hc => ?_)
  · repeat' (first|refine wA ?_|refine wB ?_|refine wH ?_|refine wI ?_|refine wJ ?_|refine wC ?_|refine wD ?_|refine wE ?_|refine wF ?_|refine wG ?_|refine wK ?_|refine wL ?_|refine wM ?_|refine wN ?_|refine wO ?_|refine wP ?_|refine wQ ?_|refine wR ?_|refine wS ?_|refine wT ?_|refine wU ?_|refine wV ?_|refine wW ?_|refine wX ?_)
    refine Ops.idxI s2 rfl (by omega) (by omega) (by kernel_rfl) (by kernel_rfl) fun pz a ha => ?_
    have ha' : l[i]? = some a := ha
    repeat' (first|refine wA ?_|refine wB ?_|refine wH ?_|refine wI ?_|refine wJ ?_|refine wC ?_|refine wD ?_|refine wE ?_|refine wF ?_|refine wG ?_|refine wK ?_|refine wL ?_|refine wM ?_|refine wN ?_|refine wO ?_|refine wP ?_|refine wQ ?_|refine wR ?_|refine wS ?_|refine wT ?_|refine wU ?_|refine wV ?_|refine wW ?_|refine wX ?_)
    refine Ops.mapUpdate m2 (by kernel_rfl) rfl fun H3 m3 c3 => ?_
    repeat' (first|refine wA ?_|refine wB ?_|refine wH ?_|refine wI ?_|refine wJ ?_|refine wC ?_|refine wD ?_|refine wE ?_|refine wF ?_|refine wG ?_|refine wK ?_|refine wL ?_|refine wM ?_|refine wN ?_|refine wO ?_|refine wP ?_|refine wQ ?_|refine wR ?_|refine wS ?_|refine wT ?_|refine wU ?_|refine wV ?_|refine wW ?_|refine wX ?_)
    refine ⟨(i + 1, H3, keyIn ks a), by dsimp only; omega, rfl, rfl, by dsimp only; exact (by repeat (first | exact Wk.jk | refine Wk.up rfl ?_)), ?_⟩
    refine ⟨by dsimp only; omega, c3 H (Nat.le_refl _) c2, m3, fun x => ?_⟩
    dsimp only
    rw [keyIn_mem, hk, take_snoc ha']; simp
  · repeat' (first|refine wA ?_|refine wB ?_|refine wH ?_|refine wI ?_|refine wJ ?_|refine wC ?_|refine wD ?_|refine wE ?_|refine wF ?_|refine wG ?_|refine wK ?_|refine wL ?_|refine wM ?_|refine wN ?_|refine wO ?_|refine wP ?_|refine wQ ?_|refine wR ?_|refine wS ?_|refine wT ?_|refine wU ?_|refine wV ?_|refine wW ?_|refine wX ?_)
    rw [take_end (by omega)] at hk
    refine Run.loopW (fun i => 1000 - i) (fun (i : Nat) => up (up jk 3 u) 17 (.int .i64 (i : Int))) (fun _ => H2) (fun i => i ≤ 1000 ∧ least l = leastN l (1000 - i) i) 0 rfl (by repeat (first | exact Wk.jk | refine Wk.up rfl ?_)) ⟨by omega, rfl⟩ ?_
    rintro j ⟨hj, hx⟩
    repeat' (first|refine wA ?_|refine wB ?_|refine wH ?_|refine wI ?_|refine wJ ?_|refine wC ?_|refine wD ?_|refine wE ?_|refine wF ?_|refine wG ?_|refine wK ?_|refine wL ?_|refine wM ?_|refine wN ?_|refine wO ?_|refine wP ?_|refine wQ ?_|refine wR ?_|refine wS ?_|refine wT ?_|refine wU ?_|refine wV ?_|refine wW ?_|refine wX ?_)
    refine Ops.cmp rfl rfl rfl (fun hc2 => ?_) (fun hc2 => ?_)
    · repeat' (first|refine wA ?_|refine wB ?_|refine wH ?_|refine wI ?_|refine wJ ?_|refine wC ?_|refine wD ?_|refine wE ?_|refine wF ?_|refine wG ?_|refine wK ?_|refine wL ?_|refine wM ?_|refine wN ?_|refine wO ?_|refine wP ?_|refine wQ ?_|refine wR ?_|refine wS ?_|refine wT ?_|refine wU ?_|refine wV ?_|refine wW ?_|refine wX ?_)
      obtain ⟨f, hf⟩ : ∃ f, 1000 - j = f + 1 := ⟨999 - j, by omega⟩
      rw [hf] at hx
      refine Ops.lookup m2 (by kernel_rfl) rfl ?_
      by_cases hm : (j : Int) ∈ ks
      · rw [decide_eq_true hm]
        rw [leastN_yes ((hk _).1 hm)] at hx
        repeat' (first|refine wA ?_|refine wB ?_|refine wH ?_|refine wI ?_|refine wJ ?_|refine wC ?_|refine wD ?_|refine wE ?_|refine wF ?_|refine wG ?_|refine wK ?_|refine wL ?_|refine wM ?_|refine wN ?_|refine wO ?_|refine wP ?_|refine wQ ?_|refine wR ?_|refine wS ?_|refine wT ?_|refine wU ?_|refine wV ?_|refine wW ?_|refine wX ?_)
        refine ⟨j + 1, by dsimp only; omega, rfl, rfl, by dsimp only; exact (by repeat (first | exact Wk.jk | refine Wk.up rfl ?_)), ?_⟩
        exact ⟨by omega, by rw [hx]; congr 1; omega⟩
      · rw [decide_eq_false hm]
        rw [leastN_no (fun h => hm ((hk _).2 h))] at hx
        repeat' (first|refine wA ?_|refine wB ?_|refine wH ?_|refine wI ?_|refine wJ ?_|refine wC ?_|refine wD ?_|refine wE ?_|refine wF ?_|refine wG ?_|refine wK ?_|refine wL ?_|refine wM ?_|refine wN ?_|refine wO ?_|refine wP ?_|refine wQ ?_|refine wR ?_|refine wS ?_|refine wT ?_|refine wU ?_|refine wV ?_|refine wW ?_|refine wX ?_)
        refine Run.ret ⟨.inl rfl, ResK.tmp rfl (by conv => lhs; whnf) (ResK.nil ?_)⟩
        exact ⟨c2, by rw [hx]; rfl⟩
    · repeat' (first|refine wA ?_|refine wB ?_|refine wH ?_|refine wI ?_|refine wJ ?_|refine wC ?_|refine wD ?_|refine wE ?_|refine wF ?_|refine wG ?_|refine wK ?_|refine wL ?_|refine wM ?_|refine wN ?_|refine wO ?_|refine wP ?_|refine wQ ?_|refine wR ?_|refine wS ?_|refine wT ?_|refine wU ?_|refine wV ?_|refine wW ?_|refine wX ?_)
      have : 1000 - j = 0 := by omega
      rw [this] at hx
      refine Run.ret ⟨.inl rfl, ResK.tmp rfl (by conv => lhs; whnf) (ResK.nil ?_)⟩
      exact ⟨c2, by rw [hx]; rfl⟩

end Go.Proofs.Ytefmjpbmdoebaaa

/- A pattern's example, by the program and by the reference. -/
set_option linter.unusedVariables false
namespace Go.Proofs.Ytefmjpbmdoebaaa
open Go Go.RowKit

/-- Atoms, and more and more of the least ones. -/
def exts (cs : List Int) : Nat → List Int
  | 0 => cs
  | n + 1 => exts cs n ++ [least (exts cs n)]
theorem exts_length (cs : List Int) : ∀ n, (exts cs n).length = cs.length + n
  | 0 => rfl
  | n + 1 => by rw [exts, List.length_append, exts_length cs n]; rfl
/-- The example of a pattern. -/
def exampleL (cs p : List Int) : List Int := p.map fun n => (exts cs p.length).getD n.toNat 0
theorem exampleL_length (cs p : List Int) : (exampleL cs p).length = p.length := by simp [exampleL]
theorem map_snoc {α β : Type} {f : α → β} {l : List α} {i : Nat} {a : α} (h : l[i]? = some a) : (l.take (i + 1)).map f = (l.take i).map f ++ [f a] := by rw [take_snoc h]; simp

theorem isPat_bound {k : Int} (hk : 0 ≤ k) {p : List Int} (h : isPat k p) : ∀ n ∈ p, 0 ≤ n ∧ n < k + p.length := fun n hn => by
  have := (pats_mem hk ((pats_iff hk).2 ⟨rfl, h⟩)).2 n hn
  omega

theorem specExample_ok {H : Hp} {v w : Value} {cs p : List Int} (h : Sl cI H v cs) (h2 : Sl cI H w p) (hp : ∀ n ∈ p, 0 ≤ n ∧ n < cs.length + p.length) (hl : cs.length + p.length ≤ 4194304) :
    CallK Try.prog 76 [v, w] H (fun r H' => Calm H H' ∧ Ac cI 3 H.nxt H' r (exampleL cs p)) := by
  refine (CallK.enter Try.func76 rfl rfl Try.ntmps76 Try.results76 rfl ?_)
  repeat' (first|refine wA ?_|refine wB ?_|refine wH ?_|refine wI ?_|refine wJ ?_|refine wC ?_|refine wD ?_|refine wE ?_|refine wF ?_|refine wG ?_|refine wK ?_|refine wL ?_|refine wM ?_|refine wN ?_|refine wO ?_|refine wP ?_|refine wQ ?_|refine wR ?_|refine wS ?_|refine wT ?_|refine wU ?_|refine wV ?_|refine wW ?_|refine wX ?_)
  refine Ops.call (l1Copy_ok h (by omega)) (fun _ _ h _ => h.1.ge') fun u H1 => ?_
  rintro ⟨c1, a1⟩
  repeat' (first|refine wA ?_|refine wB ?_|refine wH ?_|refine wI ?_|refine wJ ?_|refine wC ?_|refine wD ?_|refine wE ?_|refine wF ?_|refine wG ?_|refine wK ?_|refine wL ?_|refine wM ?_|refine wN ?_|refine wO ?_|refine wP ?_|refine wQ ?_|refine wR ?_|refine wS ?_|refine wT ?_|refine wU ?_|refine wV ?_|refine wW ?_|refine wX ?_)
  refine Run.loopW (fun (a : Nat × Value × Hp) => p.length - a.1) (fun a => up (up (up jk 0 v) 1 w) 5 a.2.1) (fun a => a.2.2)
    (fun a => a.1 ≤ p.length ∧ Calm H a.2.2 ∧ Ac cI 3 H.nxt a.2.2 a.2.1 (exts cs a.1)) (0, u, H1) rfl (by repeat (first | exact Wk.jk | refine Wk.up rfl ?_)) ⟨by dsimp only; omega, c1, a1⟩ ?_
  rintro ⟨i, v5, H2⟩ ⟨hi, c2, a2⟩
  dsimp only at hi c2 a2
  dsimp only
  have s1 := h.calm c2
  have s2 := h2.calm c2
  have hlen := exts_length cs i
  repeat' (first|refine wA ?_|refine wB ?_|refine wH ?_|refine wI ?_|refine wJ ?_|refine wC ?_|refine wD ?_|refine wE ?_|refine wF ?_|refine wG ?_|refine wK ?_|refine wL ?_|refine wM ?_|refine wN ?_|refine wO ?_|refine wP ?_|refine wQ ?_|refine wR ?_|refine wS ?_|refine wT ?_|refine wU ?_|refine wV ?_|refine wW ?_|refine wX ?_)
  refine Ops.cmp rfl rfl rfl (fun hc => ?_) (fun hc => ?_)
  · repeat' (first|refine wA ?_|refine wB ?_|refine wH ?_|refine wI ?_|refine wJ ?_|refine wC ?_|refine wD ?_|refine wE ?_|refine wF ?_|refine wG ?_|refine wK ?_|refine wL ?_|refine wM ?_|refine wN ?_|refine wO ?_|refine wP ?_|refine wQ ?_|refine wR ?_|refine wS ?_|refine wT ?_|refine wU ?_|refine wV ?_|refine wW ?_|refine wX ?_)
    refine Ops.callE (specLeastFresh_ok a2.sl) ?_
    refine Ops.push (a := least (exts cs i)) rdI a2 rfl (by simp) c2.1 (by kernel_rfl) (by kernel_rfl) (by kernel_rfl) (by omega) (by decide) fun pz v5' H3 a3 g3 => ?_
    repeat' (first|refine wA ?_|refine wB ?_|refine wH ?_|refine wI ?_|refine wJ ?_|refine wC ?_|refine wD ?_|refine wE ?_|refine wF ?_|refine wG ?_|refine wK ?_|refine wL ?_|refine wM ?_|refine wN ?_|refine wO ?_|refine wP ?_|refine wQ ?_|refine wR ?_|refine wS ?_|refine wT ?_|refine wU ?_|refine wV ?_|refine wW ?_|refine wX ?_)
    refine ⟨(i + 1, v5', H3), by dsimp only; omega, rfl, rfl, by dsimp only; exact (by repeat (first | exact Wk.jk | refine Wk.up rfl ?_)), ?_⟩
    exact ⟨by dsimp only; omega, g3.calm H (Nat.le_refl _) c2, a3⟩
  · have hip : i = p.length := by omega
    subst hip
    repeat' (first|refine wA ?_|refine wB ?_|refine wH ?_|refine wI ?_|refine wJ ?_|refine wC ?_|refine wD ?_|refine wE ?_|refine wF ?_|refine wG ?_|refine wK ?_|refine wL ?_|refine wM ?_|refine wN ?_|refine wO ?_|refine wP ?_|refine wQ ?_|refine wR ?_|refine wS ?_|refine wT ?_|refine wU ?_|refine wV ?_|refine wW ?_|refine wX ?_)
    refine Ops.lit0 cI 3 H.nxt (by kernel_rfl) (by kernel_rfl) c2.1 fun v6 H3 a6 c3 p3 => ?_
    have a5 := a2.calm c3
    have p56 := p3 v5 a2.live
    have c3 := c2.trans c3
    have s2 := h2.calm c3
    repeat' (first|refine wA ?_|refine wB ?_|refine wH ?_|refine wI ?_|refine wJ ?_|refine wC ?_|refine wD ?_|refine wE ?_|refine wF ?_|refine wG ?_|refine wK ?_|refine wL ?_|refine wM ?_|refine wN ?_|refine wO ?_|refine wP ?_|refine wQ ?_|refine wR ?_|refine wS ?_|refine wT ?_|refine wU ?_|refine wV ?_|refine wW ?_|refine wX ?_)
    refine Run.loopW (fun (a : Nat × Value × Hp) => p.length - a.1) (fun a => up (up (up (up (up (up (up jk 0 v) 1 w) 5 v5) 6 a.2.1) 25 w) 26 (.int .i64 p.length)) 27 (.int .i64 (a.1 : Int))) (fun a => a.2.2)
      (fun a => a.1 ≤ p.length ∧ Calm H a.2.2 ∧ Ac cI 3 H.nxt a.2.2 v5 (exts cs p.length) ∧ Ac cI 3 H.nxt a.2.2 a.2.1 ((p.take a.1).map fun n => (exts cs p.length).getD n.toNat 0) ∧ Ap v5 a.2.1) (0, v6, H3) rfl (by repeat (first | exact Wk.jk | refine Wk.up rfl ?_)) ⟨by dsimp only; omega, c3, a5, by simpa using a6, p56⟩ ?_
    rintro ⟨j, w6, H4⟩ ⟨hj, c4, b5, b6, q56⟩
    dsimp only at hj c4 b5 b6 q56
    dsimp only
    have s2 := h2.calm c4
    repeat' (first|refine wA ?_|refine wB ?_|refine wH ?_|refine wI ?_|refine wJ ?_|refine wC ?_|refine wD ?_|refine wE ?_|refine wF ?_|refine wG ?_|refine wK ?_|refine wL ?_|refine wM ?_|refine wN ?_|refine wO ?_|refine wP ?_|refine wQ ?_|refine wR ?_|refine wS ?_|refine wT ?_|refine wU ?_|refine wV ?_|refine wW ?_|refine wX ?_)
    refine Ops.cmp rfl rfl rfl (fun hc2 => ?_) (fun hc2 => ?_)
    · repeat' (first|refine wA ?_|refine wB ?_|refine wH ?_|refine wI ?_|refine wJ ?_|refine wC ?_|refine wD ?_|refine wE ?_|refine wF ?_|refine wG ?_|refine wK ?_|refine wL ?_|refine wM ?_|refine wN ?_|refine wO ?_|refine wP ?_|refine wQ ?_|refine wR ?_|refine wS ?_|refine wT ?_|refine wU ?_|refine wV ?_|refine wW ?_|refine wX ?_)
      refine Ops.idxI s2 rfl (by omega) (by omega) (by kernel_rfl) (by kernel_rfl) fun pz a ha => ?_
      have ha' : p[j]? = some a := ha
      have hb := hp a (List.mem_of_getElem? ha')
      repeat' (first|refine wA ?_|refine wB ?_|refine wH ?_|refine wI ?_|refine wJ ?_|refine wC ?_|refine wD ?_|refine wE ?_|refine wF ?_|refine wG ?_|refine wK ?_|refine wL ?_|refine wM ?_|refine wN ?_|refine wO ?_|refine wP ?_|refine wQ ?_|refine wR ?_|refine wS ?_|refine wT ?_|refine wU ?_|refine wV ?_|refine wW ?_|refine wX ?_)
      refine Ops.idxI b5.sl rfl (by omega) (by omega) (by kernel_rfl) (by kernel_rfl) fun pz b hb2 => ?_
      refine Ops.push (a := b) rdI b6 rfl (by simp) c4.1 (by kernel_rfl) (by kernel_rfl) (by kernel_rfl) (by simp; omega) (by decide) fun pz w6' H5 a3 g3 => ?_
      obtain ⟨b5', q5'⟩ := g3.two rdI b5 q56
      repeat' (first|refine wA ?_|refine wB ?_|refine wH ?_|refine wI ?_|refine wJ ?_|refine wC ?_|refine wD ?_|refine wE ?_|refine wF ?_|refine wG ?_|refine wK ?_|refine wL ?_|refine wM ?_|refine wN ?_|refine wO ?_|refine wP ?_|refine wQ ?_|refine wR ?_|refine wS ?_|refine wT ?_|refine wU ?_|refine wV ?_|refine wW ?_|refine wX ?_)
      refine ⟨(j + 1, w6', H5), by dsimp only; omega, rfl, rfl, by dsimp only; exact (by repeat (first | exact Wk.jk | refine Wk.up rfl ?_)), ?_⟩
      refine ⟨by dsimp only; omega, g3.calm H (Nat.le_refl _) c4, b5', ?_, q5'⟩
      dsimp only
      rw [map_snoc ha']
      have e : (exts cs p.length).getD a.toNat 0 = b := by rw [List.getD_eq_getElem?_getD, hb2]; rfl
      rw [e]; exact a3
    · repeat' (first|refine wA ?_|refine wB ?_|refine wH ?_|refine wI ?_|refine wJ ?_|refine wC ?_|refine wD ?_|refine wE ?_|refine wF ?_|refine wG ?_|refine wK ?_|refine wL ?_|refine wM ?_|refine wN ?_|refine wO ?_|refine wP ?_|refine wQ ?_|refine wR ?_|refine wS ?_|refine wT ?_|refine wU ?_|refine wV ?_|refine wW ?_|refine wX ?_)
      refine Run.ret ⟨.inl rfl, ResK.tmp rfl (by conv => lhs; whnf) (ResK.nil ?_)⟩
      rw [take_end (by omega)] at b6
      exact ⟨c4, b6⟩

theorem example_ok {H : Hp} {v w : Value} {cs p : List Int} (h : Sl cI H v cs) (h2 : Sl cI H w p) (hp : ∀ n ∈ p, 0 ≤ n ∧ n < cs.length + p.length) (hl : cs.length + p.length ≤ 4194304) :
    CallK Try.prog 77 [v, w] H (fun r H' => Calm H H' ∧ Ac cI 3 H.nxt H' r (exampleL cs p)) := by
  refine (CallK.enter Try.func77 rfl rfl Try.ntmps77 Try.results77 rfl ?_)
  repeat' (first|refine wA ?_|refine wB ?_|refine wH ?_|refine wI ?_|refine wJ ?_|refine wC ?_|refine wD ?_|refine wE ?_|refine wF ?_|refine wG ?_|refine wK ?_|refine wL ?_|refine wM ?_|refine wN ?_|refine wO ?_|refine wP ?_|refine wQ ?_|refine wR ?_|refine wS ?_|refine wT ?_|refine wU ?_|refine wV ?_|refine wW ?_|refine wX ?_)
  refine Ops.call (clone_ok h (by omega)) (fun _ _ h _ => h.1.ge') fun u H1 => ?_
  rintro ⟨c1, a1⟩
  have s2 := h2.calm c1
  repeat' (first|refine wA ?_|refine wB ?_|refine wH ?_|refine wI ?_|refine wJ ?_|refine wC ?_|refine wD ?_|refine wE ?_|refine wF ?_|refine wG ?_|refine wK ?_|refine wL ?_|refine wM ?_|refine wN ?_|refine wO ?_|refine wP ?_|refine wQ ?_|refine wR ?_|refine wS ?_|refine wT ?_|refine wU ?_|refine wV ?_|refine wW ?_|refine wX ?_)
  refine Run.loopW (fun (a : Nat × Value × Hp) => p.length - a.1) (fun a => up (up (up (up jk 1 w) 5 a.2.1) 12 (.int .i64 p.length)) 13 (.int .i64 (a.1 : Int))) (fun a => a.2.2)
    (fun a => a.1 ≤ p.length ∧ Calm H a.2.2 ∧ Ac cI 3 H.nxt a.2.2 a.2.1 (exts cs a.1)) (0, u, H1) rfl (by repeat (first | exact Wk.jk | refine Wk.up rfl ?_)) ⟨by dsimp only; omega, c1, a1⟩ ?_
  rintro ⟨i, v5, H2⟩ ⟨hi, c2, a2⟩
  dsimp only at hi c2 a2
  dsimp only
  have s2 := h2.calm c2
  have hlen := exts_length cs i
  repeat' (first|refine wA ?_|refine wB ?_|refine wH ?_|refine wI ?_|refine wJ ?_|refine wC ?_|refine wD ?_|refine wE ?_|refine wF ?_|refine wG ?_|refine wK ?_|refine wL ?_|refine wM ?_|refine wN ?_|refine wO ?_|refine wP ?_|refine wQ ?_|refine wR ?_|refine wS ?_|refine wT ?_|refine wU ?_|refine wV ?_|refine wW ?_|refine wX ?_)
  refine Ops.cmp rfl rfl rfl (fun hc => ?_) (fun hc => ?_)
  · repeat' (first|refine wA ?_|refine wB ?_|refine wH ?_|refine wI ?_|refine wJ ?_|refine wC ?_|refine wD ?_|refine wE ?_|refine wF ?_|refine wG ?_|refine wK ?_|refine wL ?_|refine wM ?_|refine wN ?_|refine wO ?_|refine wP ?_|refine wQ ?_|refine wR ?_|refine wS ?_|refine wT ?_|refine wU ?_|refine wV ?_|refine wW ?_|refine wX ?_)
    refine Ops.call (LeastFresh_ok a2.sl) (fun _ _ h _ => h.1.ge') fun r3 H3 => ?_
    rintro ⟨c3, rfl⟩
    have a2 := a2.calm c3
    have c3 := c2.trans c3
    refine Ops.push (a := least (exts cs i)) rdI a2 rfl (by simp) c3.1 (by kernel_rfl) (by kernel_rfl) (by kernel_rfl) (by omega) (by decide) fun pz v5' H4 a3 g3 => ?_
    repeat' (first|refine wA ?_|refine wB ?_|refine wH ?_|refine wI ?_|refine wJ ?_|refine wC ?_|refine wD ?_|refine wE ?_|refine wF ?_|refine wG ?_|refine wK ?_|refine wL ?_|refine wM ?_|refine wN ?_|refine wO ?_|refine wP ?_|refine wQ ?_|refine wR ?_|refine wS ?_|refine wT ?_|refine wU ?_|refine wV ?_|refine wW ?_|refine wX ?_)
    refine ⟨(i + 1, v5', H4), by dsimp only; omega, rfl, rfl, by dsimp only; exact (by repeat (first | exact Wk.jk | refine Wk.up rfl ?_)), ?_⟩
    exact ⟨by dsimp only; omega, g3.calm H (Nat.le_refl _) c3, a3⟩
  · have hip : i = p.length := by omega
    subst hip
    repeat' (first|refine wA ?_|refine wB ?_|refine wH ?_|refine wI ?_|refine wJ ?_|refine wC ?_|refine wD ?_|refine wE ?_|refine wF ?_|refine wG ?_|refine wK ?_|refine wL ?_|refine wM ?_|refine wN ?_|refine wO ?_|refine wP ?_|refine wQ ?_|refine wR ?_|refine wS ?_|refine wT ?_|refine wU ?_|refine wV ?_|refine wW ?_|refine wX ?_)
    refine Run.loopW (fun (a : Nat × Value × Hp) => p.length - a.1) (fun a => up (up (up (up (up (up jk 1 w) 5 v5) 6 a.2.1) 21 w) 22 (.int .i64 p.length)) 23 (.int .i64 (a.1 : Int))) (fun a => a.2.2)
      (fun a => a.1 ≤ p.length ∧ Calm H a.2.2 ∧ Ac cI 3 H.nxt a.2.2 v5 (exts cs p.length) ∧ Ac cI 3 H.nxt a.2.2 a.2.1 ((p.take a.1).map fun n => (exts cs p.length).getD n.toNat 0) ∧ Ap v5 a.2.1) (0, nilS, H2) rfl (by repeat (first | exact Wk.jk | refine Wk.up rfl ?_)) ⟨by dsimp only; omega, c2, a2, by simpa using Ac.nil, Ap.nil_r⟩ ?_
    rintro ⟨j, w6, H4⟩ ⟨hj, c4, b5, b6, q56⟩
    dsimp only at hj c4 b5 b6 q56
    dsimp only
    have s2 := h2.calm c4
    repeat' (first|refine wA ?_|refine wB ?_|refine wH ?_|refine wI ?_|refine wJ ?_|refine wC ?_|refine wD ?_|refine wE ?_|refine wF ?_|refine wG ?_|refine wK ?_|refine wL ?_|refine wM ?_|refine wN ?_|refine wO ?_|refine wP ?_|refine wQ ?_|refine wR ?_|refine wS ?_|refine wT ?_|refine wU ?_|refine wV ?_|refine wW ?_|refine wX ?_)
    refine Ops.cmp rfl rfl rfl (fun hc2 => ?_) (fun hc2 => ?_)
    · repeat' (first|refine wA ?_|refine wB ?_|refine wH ?_|refine wI ?_|refine wJ ?_|refine wC ?_|refine wD ?_|refine wE ?_|refine wF ?_|refine wG ?_|refine wK ?_|refine wL ?_|refine wM ?_|refine wN ?_|refine wO ?_|refine wP ?_|refine wQ ?_|refine wR ?_|refine wS ?_|refine wT ?_|refine wU ?_|refine wV ?_|refine wW ?_|refine wX ?_)
      refine Ops.idxI s2 rfl (by omega) (by omega) (by kernel_rfl) (by kernel_rfl) fun pz a ha => ?_
      have ha' : p[j]? = some a := ha
      have hb := hp a (List.mem_of_getElem? ha')
      repeat' (first|refine wA ?_|refine wB ?_|refine wH ?_|refine wI ?_|refine wJ ?_|refine wC ?_|refine wD ?_|refine wE ?_|refine wF ?_|refine wG ?_|refine wK ?_|refine wL ?_|refine wM ?_|refine wN ?_|refine wO ?_|refine wP ?_|refine wQ ?_|refine wR ?_|refine wS ?_|refine wT ?_|refine wU ?_|refine wV ?_|refine wW ?_|refine wX ?_)
      refine Ops.idxI b5.sl rfl (by omega) (by omega) (by kernel_rfl) (by kernel_rfl) fun pz b hb2 => ?_
      refine Ops.push (a := b) rdI b6 rfl (by simp) c4.1 (by kernel_rfl) (by kernel_rfl) (by kernel_rfl) (by simp; omega) (by decide) fun pz w6' H5 a3 g3 => ?_
      obtain ⟨b5', q5'⟩ := g3.two rdI b5 q56
      repeat' (first|refine wA ?_|refine wB ?_|refine wH ?_|refine wI ?_|refine wJ ?_|refine wC ?_|refine wD ?_|refine wE ?_|refine wF ?_|refine wG ?_|refine wK ?_|refine wL ?_|refine wM ?_|refine wN ?_|refine wO ?_|refine wP ?_|refine wQ ?_|refine wR ?_|refine wS ?_|refine wT ?_|refine wU ?_|refine wV ?_|refine wW ?_|refine wX ?_)
      refine ⟨(j + 1, w6', H5), by dsimp only; omega, rfl, rfl, by dsimp only; exact (by repeat (first | exact Wk.jk | refine Wk.up rfl ?_)), ?_⟩
      refine ⟨by dsimp only; omega, g3.calm H (Nat.le_refl _) c4, b5', ?_, q5'⟩
      dsimp only
      rw [map_snoc ha']
      have e : (exts cs p.length).getD a.toNat 0 = b := by rw [List.getD_eq_getElem?_getD, hb2]; rfl
      rw [e]; exact a3
    · repeat' (first|refine wA ?_|refine wB ?_|refine wH ?_|refine wI ?_|refine wJ ?_|refine wC ?_|refine wD ?_|refine wE ?_|refine wF ?_|refine wG ?_|refine wK ?_|refine wL ?_|refine wM ?_|refine wN ?_|refine wO ?_|refine wP ?_|refine wQ ?_|refine wR ?_|refine wS ?_|refine wT ?_|refine wU ?_|refine wV ?_|refine wW ?_|refine wX ?_)
      refine Run.ret ⟨.inl rfl, ResK.tmp rfl (by conv => lhs; whnf) (ResK.nil ?_)⟩
      rw [take_end (by omega)] at b6
      exact ⟨c4, b6⟩

end Go.Proofs.Ytefmjpbmdoebaaa

/- Sets of orbits: marks in them; what marks leave alone. -/
set_option linter.unusedVariables false
namespace Go.Proofs.Ytefmjpbmdoebaaa
open Go Go.RowKit

/-- What lies in the call's own rows of roots from n on has not been touched, nor whose they are. -/
def Far (n : Nat) (H H' : Hp) : Prop := H.nxt ≤ H'.nxt ∧ ∀ id, id < H.nxt → (n ≤ H.root id → H'.get id = H.get id) ∧ H'.own id = H.own id ∧ H'.root id = H.root id

theorem Far.calm {n : Nat} {H H' : Hp} (h : Calm H H') : Far n H H' := ⟨h.1, fun id hi => ⟨fun _ => (h.2 id hi).1, (h.2 id hi).2.1, (h.2 id hi).2.2⟩⟩
theorem Far.trans {n : Nat} {H H1 H2 : Hp} (h : Far n H H1) (k : Far n H1 H2) : Far n H H2 := ⟨Nat.le_trans h.1 k.1, fun id hi => by
  obtain ⟨a1, a2, a3⟩ := h.2 id hi
  obtain ⟨b1, b2, b3⟩ := k.2 id (Nat.lt_of_lt_of_le hi h.1)
  exact ⟨fun hn => (b1 (by rw [a3]; exact hn)).trans (a1 hn), b2.trans a2, b3.trans a3⟩⟩
theorem Far.up {n m : Nat} {H H' : Hp} (h : Far n H H') (hm : n ≤ m) : Far m H H' := ⟨h.1, fun id hi => ⟨fun hn => (h.2 id hi).1 (Nat.le_trans hm hn), (h.2 id hi).2⟩⟩
theorem Far.modS {n : Nat} {H H' : Hp} {F : List Nat} (h : ModS F H H') (hF : ∀ f ∈ F, f < n) (hF2 : ∀ f ∈ F, f < H.nxt) : Far n H H' :=
  ⟨by rw [h.nxt]; exact Nat.le_refl _, fun id hi => ⟨fun hn => h.get id hi fun f hf e => by have := H.rt f (hF2 f hf); have := hF f hf; omega, h.own id hi⟩⟩
theorem Far.mod {n r : Nat} {H H' : Hp} (h : Mod r H H') (hr : r < n) : Far n H H' :=
  ⟨by rw [h.nxt]; exact Nat.le_refl _, fun id hi => ⟨fun hn => h.get id hi (by omega), h.own id hi⟩⟩

theorem Ac.modS {e k k' : Nat} {H H' : Hp} {v : Value} {l : List Int} {F : List Nat} (h : Ac cI e k H v l) (hF : Own k' H F) (hv : ∀ id, idOf v = some id → id ∉ F) (hm : ModS F H H') : Ac cI e k H' v l := by
  rcases h with h | ⟨id, ob, h1, h2, h3, h4, h5, h6, h7, h8, h9⟩
  · exact .inl h
  · have hlt := Hp.lt h2
    have hnf : id ∉ F := hv id (by rw [h1]; rfl)
    have hget : H'.get id = some ob := (hm.get id hlt fun f hf e => hnf (by
      have := H.ou id f hlt (hF f hf).1 h3 (hF f hf).2.1 e
      subst this; exact hf)).trans h2
    exact .inr ⟨id, ob, h1, hget, (hm.own id hlt).1.trans h3, by rw [(hm.own id hlt).2]; exact h4, h5, h6, h7, h8, fun i a hi => h9 i a hi⟩

theorem OAc.modS {e e' k k' : Nat} {H H' : Hp} {v : Value} {ls : List (List Int × List Nat)} {F : List Nat} (h : OAc cI e e' k H v ls) (hF : Own k' H F) (hd : ∀ f ∈ fps ls, f ∉ F) (hv : ∀ id, idOf v = some id → id ∉ F) (hm : ModS F H H') : OAc cI e e' k H' v ls := by
  refine ⟨?_, h.own.modS hm, h.nd, h.ni⟩
  rcases h.ac with ha | ⟨id, ob, h1, h2, h3, h4, h5, h6, h7, h8, h9⟩
  · exact .inl ha
  · have hlt := Hp.lt h2
    have hnf : id ∉ F := hv id (by rw [h1]; rfl)
    have hget : H'.get id = some ob := (hm.get id hlt fun f hf e => hnf (by
      have := H.ou id f hlt (hF f hf).1 h3 (hF f hf).2.1 e
      subst this; exact hf)).trans h2
    refine .inr ⟨id, ob, h1, hget, (hm.own id hlt).1.trans h3, by rw [(hm.own id hlt).2]; exact h4, h5, h6, h7, h8, fun i a hi => ?_⟩
    obtain ⟨z, hz, hrw⟩ := h9 i a hi
    exact ⟨z, hz, Rw.modS (H := H) (H' := H') (fun _ _ _ h => h) hrw (fun f hf => h.own f (fps_mem hi hf)) hF (fun f hf => hd f (fps_mem hi hf)) hm⟩

/-- The rows of a set of orbits. -/
def foot (r : Value) (ms : List (List Int × List Nat)) (f : Nat) : Prop := (∃ w u1 u2, r = .agg #[w, u1, u2] ∧ idOf u1 = some f) ∨ f ∈ fps ms

theorem OO.foot_lt {k : Nat} {H : Hp} {r : Value} {s : OS} {ms : List (List Int × List Nat)} (h : OO k H r s ms) : ∀ f, foot r ms f → f < H.nxt := by
  obtain ⟨u1, u2, rfl, h1, h2, h3, h4, h5⟩ := h
  rintro f (⟨w, x1, x2, e, hf⟩ | hf)
  · injection e with e
    have e1 : u1 = x1 := by have := congrArg (fun a : Array Value => a[1]?) e; simpa using this
    subst e1; exact h1.live f hf
  · exact (h2.own f hf).1

theorem fresh_far {N k : Nat} {H : Hp} {G : List Nat} {p : Nat → Prop} (hp : ∀ f, p f → f < N) (hk : N ≤ k) (h : Own k H G) {F : List Nat} (hF : ∀ f ∈ F, p f) : ∀ g ∈ G, g ∉ F := fun g hg hf => by
  obtain ⟨h1, _, h3⟩ := h g hg
  have := H.rt g h1
  have := hp g (hF g hf)
  omega
theorem fresh_farI {N k e : Nat} {H : Hp} {α : Type} {c : Cd α} {v : Value} {l : List α} {p : Nat → Prop} (hp : ∀ f, p f → f < N) (hk : N ≤ k) (h : Ac c e k H v l) {F : List Nat} (hF : ∀ f ∈ F, p f) : ∀ id, idOf v = some id → id ∉ F := fun id hid hf => by
  rcases h with ⟨h, _⟩ | ⟨id', ob, h1, h2, h3, h4, _⟩
  · rw [h] at hid; cases hid
  · rw [h1] at hid
    injection hid with hid
    have hid' : id' = id := hid
    subst hid'
    have := H.rt id' (Hp.lt h2)
    have := hp id' (hF id' hf)
    omega

/-- A set of orbits that is marked from q on. -/
def OM (H : Hp) (r : Value) (q : Int) (s : OS) (ms : List (List Int × List Nat)) : Prop :=
  ∃ u1 u2, r = .agg #[.int .i64 s.width, u1, u2] ∧ Sl cI H u1 (marks q s.consts.length) ∧ Sl (cF cI 3) H u2 (markSS (q + s.consts.length) ms)

theorem OM.calm {H H' : Hp} {r : Value} {q : Int} {s : OS} {ms : List (List Int × List Nat)} (h : OM H r q s ms) (hc : Calm H H') : OM H' r q s ms := let ⟨u1, u2, h0, h1, h2⟩ := h; ⟨u1, u2, h0, h1.calm hc, h2.calm hc⟩

theorem markOrbitSet_ok {H : Hp} {r : Value} {q : Int} {s : OS} {k : Nat} {ms : List (List Int × List Nat)} (h : OO k H r s ms) (h0 : 0 ≤ q) (hn : q + s.consts.length + total ms ≤ 4611686018427387904) :
    CallK Try.prog 42 [r, .int .i64 q] H (fun r' H' => r' = .int .i64 (q + s.consts.length + total ms) ∧ OM H' r q s ms ∧ (∀ H0, H0.nxt ≤ k → Calm H0 H → Calm H0 H') ∧
      ∀ N, (∀ f, foot r ms f → f < N) → (∀ e k' v l, N ≤ k' → Ac cI e k' H v l → Ac cI e k' H' v l) ∧ (∀ e e' k' v ls, N ≤ k' → OAc cI e e' k' H v ls → OAc cI e e' k' H' v ls) ∧ Far N H H') := by
  have hone := cOS.one h.os
  obtain ⟨u1, u2, rfl, a1, a2, hms, p12, n12⟩ := h
  refine (CallK.enter Try.func42 rfl rfl Try.ntmps42 Try.results42 rfl ?_)
  repeat' (first|refine wA ?_|refine wB ?_|refine wH ?_|refine wI ?_|refine wJ ?_|refine wC ?_|refine wD ?_|refine wE ?_|refine wF ?_|refine wG ?_|refine wK ?_|refine wL ?_|refine wM ?_|refine wN ?_|refine wO ?_|refine wP ?_|refine wQ ?_|refine wR ?_|refine wS ?_|refine wT ?_|refine wU ?_|refine wV ?_|refine wW ?_|refine wX ?_)
  refine Ops.box H.nxt (Nat.le_refl _) (one_known hone) (cs := [.int .i64 s.width, u1, u2]) rfl (by simp) fun p1 H1 o1 c1 ap1 => ?_
  have pp1 : Ap u1 p1 := ap1 u1 a1.live
  have pp2 : Ap u2 p1 := ap1 u2 a2.ac.live
  have pf : ∀ id, idOf p1 = some id → id ∉ fps ms := fun id hid hf => by
    obtain ⟨id', ob, e1, e2, e3, e4, e5⟩ := o1
    rw [e1] at hid
    injection hid with hid
    have hid' : id' = id := hid
    subst hid'
    have := H1.rt id' (Hp.lt e2)
    have := (a2.own id' hf).1
    omega
  have b1 := a1.calm c1
  have b2 := a2.calm c1
  obtain ⟨F, f1, f2, f3, f4⟩ := b1.rw_
  have o1' : Pt H1 p1 _ := o1.pt
  repeat' (first|refine wA ?_|refine wB ?_|refine wH ?_|refine wI ?_|refine wJ ?_|refine wC ?_|refine wD ?_|refine wE ?_|refine wF ?_|refine wG ?_|refine wK ?_|refine wL ?_|refine wM ?_|refine wN ?_|refine wO ?_|refine wP ?_|refine wQ ?_|refine wR ?_|refine wS ?_|refine wT ?_|refine wU ?_|refine wV ?_|refine wW ?_|refine wX ?_)
  refine Ops.fld 1 o1.pt (by kernel_rfl) (by kernel_rfl) rfl fun pz => ?_
  repeat' (first|refine wA ?_|refine wB ?_|refine wH ?_|refine wI ?_|refine wJ ?_|refine wC ?_|refine wD ?_|refine wE ?_|refine wF ?_|refine wG ?_|refine wK ?_|refine wL ?_|refine wM ?_|refine wN ?_|refine wO ?_|refine wP ?_|refine wQ ?_|refine wR ?_|refine wS ?_|refine wT ?_|refine wU ?_|refine wV ?_|refine wW ?_|refine wX ?_)
  refine Ops.call (markIntS_rw f1 f2 h0 (by omega)) (fun _ _ _ hf => by cases hf) fun r2 H2 => ?_
  rintro ⟨rfl, g1, m1⟩
  have hvF : ∀ id, idOf u2 = some id → id ∉ F := fun id hid hf => p12 id (f4 id hf) hid
  have hdF : ∀ f ∈ fps ms, f ∉ F := fun f hf hf2 => n12 f (f4 f hf2) hf
  have b2 := b2.modS f2 hdF hvF m1
  -- the box stands
  have keepP : ∀ {G : List Nat} {Ha Hb : Hp}, Po H.nxt Ha p1 [.int .i64 s.width, u1, u2] → Own k Ha G → (∀ id, idOf p1 = some id → id ∉ G) → ModS G Ha Hb → Po H.nxt Hb p1 [.int .i64 s.width, u1, u2] := by
    rintro G Ha Hb ⟨id, ob, e1, e2, e3, e4, e5⟩ hG hn hm
    have hlt := Hp.lt e2
    refine ⟨id, ob, e1, (hm.get id hlt fun g hg e => ?_).trans e2, e3, (hm.own id hlt).1.trans e4, by rw [(hm.own id hlt).2]; exact e5⟩
    have := Ha.ou id g hlt (hG g hg).1 e4 (hG g hg).2.1 e
    subst this
    exact hn id (by rw [e1]; rfl) hg
  have o2 := keepP o1 f2 (fun id hid hf => pp1 id (f4 id hf) hid) m1
  repeat' (first|refine wA ?_|refine wB ?_|refine wH ?_|refine wI ?_|refine wJ ?_|refine wC ?_|refine wD ?_|refine wE ?_|refine wF ?_|refine wG ?_|refine wK ?_|refine wL ?_|refine wM ?_|refine wN ?_|refine wO ?_|refine wP ?_|refine wQ ?_|refine wR ?_|refine wS ?_|refine wT ?_|refine wU ?_|refine wV ?_|refine wW ?_|refine wX ?_)
  refine Ops.fld 2 o2.pt (by kernel_rfl) (by kernel_rfl) rfl fun pz => ?_
  repeat' (first|refine wA ?_|refine wB ?_|refine wH ?_|refine wI ?_|refine wJ ?_|refine wC ?_|refine wD ?_|refine wE ?_|refine wF ?_|refine wG ?_|refine wK ?_|refine wL ?_|refine wM ?_|refine wN ?_|refine wO ?_|refine wP ?_|refine wQ ?_|refine wR ?_|refine wS ?_|refine wT ?_|refine wU ?_|refine wV ?_|refine wW ?_|refine wX ?_)
  refine Ops.call (markIntSS_ok b2.ol (by omega) (by omega)) (fun _ _ _ hf => by cases hf) fun r3 H3 => ?_
  rintro ⟨rfl, g2, m2⟩
  repeat' (first|refine wA ?_|refine wB ?_|refine wH ?_|refine wI ?_|refine wJ ?_|refine wC ?_|refine wD ?_|refine wE ?_|refine wF ?_|refine wG ?_|refine wK ?_|refine wL ?_|refine wM ?_|refine wN ?_|refine wO ?_|refine wP ?_|refine wQ ?_|refine wR ?_|refine wS ?_|refine wT ?_|refine wU ?_|refine wV ?_|refine wW ?_|refine wX ?_)
  refine Run.ret ⟨.inl rfl, ResK.tmp rfl (by conv => lhs; whnf) (ResK.nil ?_)⟩
  have f2' : Own k H2 F := f2.modS m1
  have g1 : Rw cI 3 H2 u1 (marks q s.consts.length) F := g1
  have g1' : Rw cI 3 H3 u1 (marks q s.consts.length) F := Rw.modS (H := H2) (H' := H3) (fun _ _ _ h => h) g1 f2' b2.own (fun f hf hf2 => hdF f hf2 hf) m2
  refine ⟨rfl, ⟨u1, u2, rfl, g1'.1, g2.sl⟩, fun H0 hk hc => ?_, fun N hN => ⟨fun e k' v l hk ha => ?_, fun e e' k' v ls hk ha => ?_, ?_⟩⟩
  · have h5 := m1.calm (hc.trans c1) fun f hf => Nat.le_trans hk (f2 f hf).2.2
    exact m2.calm h5 fun f hf => Nat.le_trans hk (b2.own f hf).2.2
  · have hF : ∀ f ∈ F, foot (.agg #[.int .i64 s.width, u1, u2]) ms f := fun f hf => .inl ⟨_, _, _, rfl, f4 f hf⟩
    have h5 := (ha.calm c1).modS f2 (fresh_farI hN hk (ha.calm c1) hF) m1
    exact h5.modS b2.own (fresh_farI hN hk h5 fun f hf => .inr hf) m2
  · have hF : ∀ f ∈ F, foot (.agg #[.int .i64 s.width, u1, u2]) ms f := fun f hf => .inl ⟨_, _, _, rfl, f4 f hf⟩
    have ha1 := ha.calm c1
    have h5 := ha1.modS f2 (fresh_far hN hk ha1.own hF) (fresh_farI hN hk ha1.ac hF) m1
    exact h5.modS b2.own (fresh_far hN hk h5.own fun f hf => .inr hf) (fresh_farI hN hk h5.ac fun f hf => .inr hf) m2
  · refine ((Far.calm c1).trans (Far.modS m1 (fun f hf => hN f (.inl ⟨_, _, _, rfl, f4 f hf⟩)) fun f hf => (f2 f hf).1)).trans (Far.modS m2 (fun f hf => hN f (.inr hf)) fun f hf => (b2.own f hf).1)

theorem heldOrbitSet_ok {H : Hp} {r : Value} {q : Int} {s : OS} {ms : List (List Int × List Nat)} (h : OM H r q s ms) (h0 : 0 ≤ q) (hn : q + s.consts.length + total ms ≤ 4611686018427387904) :
    CallK Try.prog 47 [r, .int .i64 q] H (fun r' H' => Calm H H' ∧ r' = .int .i64 (q + s.consts.length + total ms)) := by
  obtain ⟨u1, u2, rfl, s1, s2⟩ := h
  have hone : [Value.int .i64 s.width, u1, u2].all Value.one = true := by rw [List.all_cons, List.all_cons, List.all_cons, sl_one s1, sl_one s2]; rfl
  refine (CallK.enter Try.func47 rfl rfl Try.ntmps47 Try.results47 rfl ?_)
  repeat' (first|refine wA ?_|refine wB ?_|refine wH ?_|refine wI ?_|refine wJ ?_|refine wC ?_|refine wD ?_|refine wE ?_|refine wF ?_|refine wG ?_|refine wK ?_|refine wL ?_|refine wM ?_|refine wN ?_|refine wO ?_|refine wP ?_|refine wQ ?_|refine wR ?_|refine wS ?_|refine wT ?_|refine wU ?_|refine wV ?_|refine wW ?_|refine wX ?_)
  refine Ops.box H.nxt (Nat.le_refl _) (one_known hone) (cs := [.int .i64 s.width, u1, u2]) rfl (by simp) fun p1 H1 o1 c1 ap1 => ?_
  repeat' (first|refine wA ?_|refine wB ?_|refine wH ?_|refine wI ?_|refine wJ ?_|refine wC ?_|refine wD ?_|refine wE ?_|refine wF ?_|refine wG ?_|refine wK ?_|refine wL ?_|refine wM ?_|refine wN ?_|refine wO ?_|refine wP ?_|refine wQ ?_|refine wR ?_|refine wS ?_|refine wT ?_|refine wU ?_|refine wV ?_|refine wW ?_|refine wX ?_)
  refine Ops.fld 1 o1.pt (by kernel_rfl) (by kernel_rfl) rfl fun pz => ?_
  repeat' (first|refine wA ?_|refine wB ?_|refine wH ?_|refine wI ?_|refine wJ ?_|refine wC ?_|refine wD ?_|refine wE ?_|refine wF ?_|refine wG ?_|refine wK ?_|refine wL ?_|refine wM ?_|refine wN ?_|refine wO ?_|refine wP ?_|refine wQ ?_|refine wR ?_|refine wS ?_|refine wT ?_|refine wU ?_|refine wV ?_|refine wW ?_|refine wX ?_)
  refine Ops.callE (heldIntS_ok (s1.calm c1) h0 (by omega)) ?_
  repeat' (first|refine wA ?_|refine wB ?_|refine wH ?_|refine wI ?_|refine wJ ?_|refine wC ?_|refine wD ?_|refine wE ?_|refine wF ?_|refine wG ?_|refine wK ?_|refine wL ?_|refine wM ?_|refine wN ?_|refine wO ?_|refine wP ?_|refine wQ ?_|refine wR ?_|refine wS ?_|refine wT ?_|refine wU ?_|refine wV ?_|refine wW ?_|refine wX ?_)
  refine Ops.cmp rfl rfl rfl (fun hc => ?_) (fun hc => ?_)
  · omega
  · repeat' (first|refine wA ?_|refine wB ?_|refine wH ?_|refine wI ?_|refine wJ ?_|refine wC ?_|refine wD ?_|refine wE ?_|refine wF ?_|refine wG ?_|refine wK ?_|refine wL ?_|refine wM ?_|refine wN ?_|refine wO ?_|refine wP ?_|refine wQ ?_|refine wR ?_|refine wS ?_|refine wT ?_|refine wU ?_|refine wV ?_|refine wW ?_|refine wX ?_)
    refine Ops.fld 2 o1.pt (by kernel_rfl) (by kernel_rfl) rfl fun pz => ?_
    repeat' (first|refine wA ?_|refine wB ?_|refine wH ?_|refine wI ?_|refine wJ ?_|refine wC ?_|refine wD ?_|refine wE ?_|refine wF ?_|refine wG ?_|refine wK ?_|refine wL ?_|refine wM ?_|refine wN ?_|refine wO ?_|refine wP ?_|refine wQ ?_|refine wR ?_|refine wS ?_|refine wT ?_|refine wU ?_|refine wV ?_|refine wW ?_|refine wX ?_)
    refine Ops.callE (heldIntSS_ok (s2.calm c1) (by omega) (by omega)) ?_
    repeat' (first|refine wA ?_|refine wB ?_|refine wH ?_|refine wI ?_|refine wJ ?_|refine wC ?_|refine wD ?_|refine wE ?_|refine wF ?_|refine wG ?_|refine wK ?_|refine wL ?_|refine wM ?_|refine wN ?_|refine wO ?_|refine wP ?_|refine wQ ?_|refine wR ?_|refine wS ?_|refine wT ?_|refine wU ?_|refine wV ?_|refine wW ?_|refine wX ?_)
    refine Ops.cmp rfl rfl rfl (fun hc2 => ?_) (fun hc2 => ?_)
    · omega
    · repeat' (first|refine wA ?_|refine wB ?_|refine wH ?_|refine wI ?_|refine wJ ?_|refine wC ?_|refine wD ?_|refine wE ?_|refine wF ?_|refine wG ?_|refine wK ?_|refine wL ?_|refine wM ?_|refine wN ?_|refine wO ?_|refine wP ?_|refine wQ ?_|refine wR ?_|refine wS ?_|refine wT ?_|refine wU ?_|refine wV ?_|refine wW ?_|refine wX ?_)
      refine Run.ret ⟨.inl rfl, ResK.tmp rfl (by conv => lhs; whnf) (ResK.nil ?_)⟩
      exact ⟨c1, rfl⟩

end Go.Proofs.Ytefmjpbmdoebaaa

/- Examples of a set's patterns, by the program and by the reference. -/
set_option linter.unusedVariables false
namespace Go.Proofs.Ytefmjpbmdoebaaa
open Go Go.RowKit

/-- What ExamplesOf hands back. -/
noncomputable def examplesOf (s : OS) : List (List Int) := if dec (isOS s) = true then s.pats.map (exampleL s.consts) else []
theorem examplesOf_no {s : OS} (h : ¬ isOS s) : examplesOf s = [] := by unfold examplesOf; rw [dec_f h]; rfl
theorem examplesOf_yes {s : OS} (h : isOS s) : examplesOf s = s.pats.map (exampleL s.consts) := by unfold examplesOf; rw [dec_t h]; rfl
theorem os_pat {s : OS} (h : isOS s) {i : Nat} {p : List Int} (hp : s.pats[i]? = some p) : (∀ n ∈ p, 0 ≤ n ∧ n < s.consts.length + p.length) ∧ p.length ≤ 4 ∧ s.consts.length ≤ 3 := by
  obtain ⟨⟨h1, h2⟩, _⟩ := h.2.2.2 i p hp
  exact ⟨isPat_bound (by omega) h2, by have := h.2.1; omega, h.2.2.1.1⟩

theorem specExamplesOf_ok {H : Hp} {v : Value} {s : OS} (h : cOS.ok H (cellsOf v) s) (hb : s.pats.length ≤ 1048576) :
    CallK Try.prog 40 [v] H (fun r H' => Calm H H' ∧ Sl (cL cI) H' r (examplesOf s)) := by
  have hone := cOS.one h
  obtain ⟨v1, v2, hcs, s1, s2⟩ := h
  have hok : cOS.ok H (cellsOf (.agg #[.int .i64 s.width, v1, v2])) s := ⟨v1, v2, rfl, s1, s2⟩
  refine (CallK.enter Try.func40 rfl rfl Try.ntmps40 Try.results40 rfl ?_)
  repeat' (first|refine wA ?_|refine wB ?_|refine wH ?_|refine wI ?_|refine wJ ?_|refine wC ?_|refine wD ?_|refine wE ?_|refine wF ?_|refine wG ?_|refine wK ?_|refine wL ?_|refine wM ?_|refine wN ?_|refine wO ?_|refine wP ?_|refine wQ ?_|refine wR ?_|refine wS ?_|refine wT ?_|refine wU ?_|refine wV ?_|refine wW ?_|refine wX ?_)
  refine Ops.box H.nxt (Nat.le_refl _) (one_known hone) hcs (by simp) fun p1 H1 o1 c1 ap1 => ?_
  repeat' (first|refine wA ?_|refine wB ?_|refine wH ?_|refine wI ?_|refine wJ ?_|refine wC ?_|refine wD ?_|refine wE ?_|refine wF ?_|refine wG ?_|refine wK ?_|refine wL ?_|refine wM ?_|refine wN ?_|refine wO ?_|refine wP ?_|refine wQ ?_|refine wR ?_|refine wS ?_|refine wT ?_|refine wU ?_|refine wV ?_|refine wW ?_|refine wX ?_)
  refine Ops.lit0 (cL cI) 24 H.nxt (by kernel_rfl) (by kernel_rfl) c1.1 fun v3 H2 a3 c2 p3 => ?_
  have o2 := o1.calm c2
  have c2 := c1.trans c2
  repeat' (first|refine wA ?_|refine wB ?_|refine wH ?_|refine wI ?_|refine wJ ?_|refine wC ?_|refine wD ?_|refine wE ?_|refine wF ?_|refine wG ?_|refine wK ?_|refine wL ?_|refine wM ?_|refine wN ?_|refine wO ?_|refine wP ?_|refine wQ ?_|refine wR ?_|refine wS ?_|refine wT ?_|refine wU ?_|refine wV ?_|refine wW ?_|refine wX ?_)
  refine Ops.loadS o2.pt (by kernel_rfl) (by kernel_rfl) ?_
  refine Ops.call (specIsOrbitSet_ok (cOS.calm c2 hok)) (fun _ _ h _ => h.1.ge') fun r2 H3 => ?_
  rintro ⟨c3, rfl⟩
  have o3 := o2.calm c3
  have a3 := a3.calm c3
  have c3 := c2.trans c3
  cases hd : dec (isOS s)
  · repeat' (first|refine wA ?_|refine wB ?_|refine wH ?_|refine wI ?_|refine wJ ?_|refine wC ?_|refine wD ?_|refine wE ?_|refine wF ?_|refine wG ?_|refine wK ?_|refine wL ?_|refine wM ?_|refine wN ?_|refine wO ?_|refine wP ?_|refine wQ ?_|refine wR ?_|refine wS ?_|refine wT ?_|refine wU ?_|refine wV ?_|refine wW ?_|refine wX ?_)
    refine Run.ret ⟨.inl rfl, ResK.tmp rfl (by conv => lhs; whnf) (ResK.nil ?_)⟩
    exact ⟨c3, by rw [examplesOf_no (of_dec_f hd)]; exact a3.sl⟩
  · have hd := of_dec_t hd
    repeat' (first|refine wA ?_|refine wB ?_|refine wH ?_|refine wI ?_|refine wJ ?_|refine wC ?_|refine wD ?_|refine wE ?_|refine wF ?_|refine wG ?_|refine wK ?_|refine wL ?_|refine wM ?_|refine wN ?_|refine wO ?_|refine wP ?_|refine wQ ?_|refine wR ?_|refine wS ?_|refine wT ?_|refine wU ?_|refine wV ?_|refine wW ?_|refine wX ?_)
    refine Ops.fld 2 o3.pt (by kernel_rfl) (by kernel_rfl) rfl fun pz => ?_
    have s2' := s2.calm c3
    repeat' (first|refine wA ?_|refine wB ?_|refine wH ?_|refine wI ?_|refine wJ ?_|refine wC ?_|refine wD ?_|refine wE ?_|refine wF ?_|refine wG ?_|refine wK ?_|refine wL ?_|refine wM ?_|refine wN ?_|refine wO ?_|refine wP ?_|refine wQ ?_|refine wR ?_|refine wS ?_|refine wT ?_|refine wU ?_|refine wV ?_|refine wW ?_|refine wX ?_)
    refine Run.loopW (fun (a : Nat × Value × Hp) => s.pats.length - a.1) (fun a => up (up (up (up (up jk 1 p1) 3 a.2.1) 12 v2) 13 (.int .i64 s.pats.length)) 14 (.int .i64 (a.1 : Int))) (fun a => a.2.2)
      (fun a => a.1 ≤ s.pats.length ∧ Calm H a.2.2 ∧ Pt a.2.2 p1 [.int .i64 s.width, v1, v2] ∧ Ac (cL cI) 24 H.nxt a.2.2 a.2.1 ((s.pats.take a.1).map (exampleL s.consts))) (0, v3, H3) rfl (by repeat (first | exact Wk.jk | refine Wk.up rfl ?_)) ⟨by dsimp only; omega, c3, o3.pt, by simpa using a3⟩ ?_
    rintro ⟨i, w3, H4⟩ ⟨hi, c4, o4, a4⟩
    dsimp only at hi c4 o4 a4
    dsimp only
    have s1' := s1.calm c4
    have s2' := s2.calm c4
    repeat' (first|refine wA ?_|refine wB ?_|refine wH ?_|refine wI ?_|refine wJ ?_|refine wC ?_|refine wD ?_|refine wE ?_|refine wF ?_|refine wG ?_|refine wK ?_|refine wL ?_|refine wM ?_|refine wN ?_|refine wO ?_|refine wP ?_|refine wQ ?_|refine wR ?_|refine wS ?_|refine wT ?_|refine wU ?_|refine wV ?_|refine wW ?_|refine wX ?_)
    refine Ops.cmp rfl rfl rfl (fun hc => ?_) (fun hc => ?_)
    · repeat' (first|refine wA ?_|refine wB ?_|refine wH ?_|refine wI ?_|refine wJ ?_|refine wC ?_|refine wD ?_|refine wE ?_|refine wF ?_|refine wG ?_|refine wK ?_|refine wL ?_|refine wM ?_|refine wN ?_|refine wO ?_|refine wP ?_|refine wQ ?_|refine wR ?_|refine wS ?_|refine wT ?_|refine wU ?_|refine wV ?_|refine wW ?_|refine wX ?_)
      refine Ops.idx s2' rfl rfl (by omega) (by omega) (by kernel_rfl) (by kernel_rfl) fun pz u a ha hu => ?_
      have ha' : s.pats[i]? = some a := ha
      obtain ⟨e1, e2, e3⟩ := os_pat hd ha'
      repeat' (first|refine wA ?_|refine wB ?_|refine wH ?_|refine wI ?_|refine wJ ?_|refine wC ?_|refine wD ?_|refine wE ?_|refine wF ?_|refine wG ?_|refine wK ?_|refine wL ?_|refine wM ?_|refine wN ?_|refine wO ?_|refine wP ?_|refine wQ ?_|refine wR ?_|refine wS ?_|refine wT ?_|refine wU ?_|refine wV ?_|refine wW ?_|refine wX ?_)
      refine Ops.fld 1 o4 (by kernel_rfl) (by kernel_rfl) rfl fun pz => ?_
      repeat' (first|refine wA ?_|refine wB ?_|refine wH ?_|refine wI ?_|refine wJ ?_|refine wC ?_|refine wD ?_|refine wE ?_|refine wF ?_|refine wG ?_|refine wK ?_|refine wL ?_|refine wM ?_|refine wN ?_|refine wO ?_|refine wP ?_|refine wQ ?_|refine wR ?_|refine wS ?_|refine wT ?_|refine wU ?_|refine wV ?_|refine wW ?_|refine wX ?_)
      refine Ops.call (specExample_ok s1' (cL_at hu) e1 (by omega)) (fun _ _ h _ => h.1.ge') fun r5 H5 => ?_
      rintro ⟨c5, a5⟩
      have o5 := o4.calm c5
      have a4 := a4.calm c5
      have c5 := c4.trans c5
      refine Ops.push (a := exampleL s.consts a) (rdL rdI) a4 (cL_of a5.sl) (by simp) c5.1 (by kernel_rfl) (by kernel_rfl) (by kernel_rfl) (by simp; omega) (by decide) fun pz w3' H6 a6 g6 => ?_
      repeat' (first|refine wA ?_|refine wB ?_|refine wH ?_|refine wI ?_|refine wJ ?_|refine wC ?_|refine wD ?_|refine wE ?_|refine wF ?_|refine wG ?_|refine wK ?_|refine wL ?_|refine wM ?_|refine wN ?_|refine wO ?_|refine wP ?_|refine wQ ?_|refine wR ?_|refine wS ?_|refine wT ?_|refine wU ?_|refine wV ?_|refine wW ?_|refine wX ?_)
      refine ⟨(i + 1, w3', H6), by dsimp only; omega, rfl, rfl, by dsimp only; exact (by repeat (first | exact Wk.jk | refine Wk.up rfl ?_)), ?_⟩
      refine ⟨by dsimp only; omega, g6.calm H (Nat.le_refl _) c5, o5.kp g6.kp, ?_⟩
      dsimp only
      rw [map_snoc ha']
      exact a6
    · repeat' (first|refine wA ?_|refine wB ?_|refine wH ?_|refine wI ?_|refine wJ ?_|refine wC ?_|refine wD ?_|refine wE ?_|refine wF ?_|refine wG ?_|refine wK ?_|refine wL ?_|refine wM ?_|refine wN ?_|refine wO ?_|refine wP ?_|refine wQ ?_|refine wR ?_|refine wS ?_|refine wT ?_|refine wU ?_|refine wV ?_|refine wW ?_|refine wX ?_)
      refine Run.ret ⟨.inl rfl, ResK.tmp rfl (by conv => lhs; whnf) (ResK.nil ?_)⟩
      rw [take_end (by omega)] at a4
      exact ⟨c4, by rw [examplesOf_yes hd]; exact a4.sl⟩

theorem ExamplesOf_ok {H : Hp} {v : Value} {s : OS} (h : cOS.ok H (cellsOf v) s) (hb : s.pats.length ≤ 1048576) :
    CallK Try.prog 41 [v] H (fun r H' => Calm H H' ∧ ∃ ls, OAc cI 3 24 H.nxt H' r ls ∧ ls.map (·.1) = examplesOf s) := by
  have hone := cOS.one h
  obtain ⟨v1, v2, hcs, s1, s2⟩ := h
  have hok : cOS.ok H (cellsOf (.agg #[.int .i64 s.width, v1, v2])) s := ⟨v1, v2, rfl, s1, s2⟩
  refine (CallK.enter Try.func41 rfl rfl Try.ntmps41 Try.results41 rfl ?_)
  repeat' (first|refine wA ?_|refine wB ?_|refine wH ?_|refine wI ?_|refine wJ ?_|refine wC ?_|refine wD ?_|refine wE ?_|refine wF ?_|refine wG ?_|refine wK ?_|refine wL ?_|refine wM ?_|refine wN ?_|refine wO ?_|refine wP ?_|refine wQ ?_|refine wR ?_|refine wS ?_|refine wT ?_|refine wU ?_|refine wV ?_|refine wW ?_|refine wX ?_)
  refine Ops.box H.nxt (Nat.le_refl _) (one_known hone) hcs (by simp) fun p1 H1 o1 c1 ap1 => ?_
  repeat' (first|refine wA ?_|refine wB ?_|refine wH ?_|refine wI ?_|refine wJ ?_|refine wC ?_|refine wD ?_|refine wE ?_|refine wF ?_|refine wG ?_|refine wK ?_|refine wL ?_|refine wM ?_|refine wN ?_|refine wO ?_|refine wP ?_|refine wQ ?_|refine wR ?_|refine wS ?_|refine wT ?_|refine wU ?_|refine wV ?_|refine wW ?_|refine wX ?_)
  refine Ops.loadS o1.pt (by kernel_rfl) (by kernel_rfl) ?_
  refine Ops.call (IsOrbitSet_ok (cOS.calm c1 hok)) (fun _ _ h _ => h.1.ge') fun r2 H3 => ?_
  rintro ⟨c3, rfl⟩
  have o3 := o1.calm c3
  have c3 := c1.trans c3
  cases hd : dec (isOS s)
  · repeat' (first|refine wA ?_|refine wB ?_|refine wH ?_|refine wI ?_|refine wJ ?_|refine wC ?_|refine wD ?_|refine wE ?_|refine wF ?_|refine wG ?_|refine wK ?_|refine wL ?_|refine wM ?_|refine wN ?_|refine wO ?_|refine wP ?_|refine wQ ?_|refine wR ?_|refine wS ?_|refine wT ?_|refine wU ?_|refine wV ?_|refine wW ?_|refine wX ?_)
    refine Run.ret ⟨.inl rfl, ResK.tmp rfl (by conv => lhs; whnf) (ResK.nil ?_)⟩
    exact ⟨c3, [], OAc.nil, by rw [examplesOf_no (of_dec_f hd)]; rfl⟩
  · have hd := of_dec_t hd
    repeat' (first|refine wA ?_|refine wB ?_|refine wH ?_|refine wI ?_|refine wJ ?_|refine wC ?_|refine wD ?_|refine wE ?_|refine wF ?_|refine wG ?_|refine wK ?_|refine wL ?_|refine wM ?_|refine wN ?_|refine wO ?_|refine wP ?_|refine wQ ?_|refine wR ?_|refine wS ?_|refine wT ?_|refine wU ?_|refine wV ?_|refine wW ?_|refine wX ?_)
    refine Ops.fld 2 o3.pt (by kernel_rfl) (by kernel_rfl) rfl fun pz => ?_
    have s2' := s2.calm c3
    repeat' (first|refine wA ?_|refine wB ?_|refine wH ?_|refine wI ?_|refine wJ ?_|refine wC ?_|refine wD ?_|refine wE ?_|refine wF ?_|refine wG ?_|refine wK ?_|refine wL ?_|refine wM ?_|refine wN ?_|refine wO ?_|refine wP ?_|refine wQ ?_|refine wR ?_|refine wS ?_|refine wT ?_|refine wU ?_|refine wV ?_|refine wW ?_|refine wX ?_)
    refine Run.loopW (fun (a : Nat × Value × Hp × List (List Int × List Nat)) => s.pats.length - a.1) (fun a => up (up (up (up (up jk 1 p1) 3 a.2.1) 10 v2) 11 (.int .i64 s.pats.length)) 12 (.int .i64 (a.1 : Int))) (fun a => a.2.2.1)
      (fun a => a.1 ≤ s.pats.length ∧ Calm H a.2.2.1 ∧ Pt a.2.2.1 p1 [.int .i64 s.width, v1, v2] ∧ OAc cI 3 24 H.nxt a.2.2.1 a.2.1 a.2.2.2 ∧ a.2.2.2.map (·.1) = (s.pats.take a.1).map (exampleL s.consts)) (0, nilS, H3, []) rfl (by repeat (first | exact Wk.jk | refine Wk.up rfl ?_)) ⟨by dsimp only; omega, c3, o3.pt, OAc.nil, by simp⟩ ?_
    rintro ⟨i, w3, H4, ls⟩ ⟨hi, c4, o4, a4, hls⟩
    dsimp only at hi c4 o4 a4 hls
    dsimp only
    have s1' := s1.calm c4
    have s2' := s2.calm c4
    have hlen : ls.length = i := by have := congrArg List.length hls; simp at this; omega
    repeat' (first|refine wA ?_|refine wB ?_|refine wH ?_|refine wI ?_|refine wJ ?_|refine wC ?_|refine wD ?_|refine wE ?_|refine wF ?_|refine wG ?_|refine wK ?_|refine wL ?_|refine wM ?_|refine wN ?_|refine wO ?_|refine wP ?_|refine wQ ?_|refine wR ?_|refine wS ?_|refine wT ?_|refine wU ?_|refine wV ?_|refine wW ?_|refine wX ?_)
    refine Ops.cmp rfl rfl rfl (fun hc => ?_) (fun hc => ?_)
    · repeat' (first|refine wA ?_|refine wB ?_|refine wH ?_|refine wI ?_|refine wJ ?_|refine wC ?_|refine wD ?_|refine wE ?_|refine wF ?_|refine wG ?_|refine wK ?_|refine wL ?_|refine wM ?_|refine wN ?_|refine wO ?_|refine wP ?_|refine wQ ?_|refine wR ?_|refine wS ?_|refine wT ?_|refine wU ?_|refine wV ?_|refine wW ?_|refine wX ?_)
      refine Ops.idx s2' rfl rfl (by omega) (by omega) (by kernel_rfl) (by kernel_rfl) fun pz u a ha hu => ?_
      have ha' : s.pats[i]? = some a := ha
      obtain ⟨e1, e2, e3⟩ := os_pat hd ha'
      repeat' (first|refine wA ?_|refine wB ?_|refine wH ?_|refine wI ?_|refine wJ ?_|refine wC ?_|refine wD ?_|refine wE ?_|refine wF ?_|refine wG ?_|refine wK ?_|refine wL ?_|refine wM ?_|refine wN ?_|refine wO ?_|refine wP ?_|refine wQ ?_|refine wR ?_|refine wS ?_|refine wT ?_|refine wU ?_|refine wV ?_|refine wW ?_|refine wX ?_)
      refine Ops.fld 1 o4 (by kernel_rfl) (by kernel_rfl) rfl fun pz => ?_
      repeat' (first|refine wA ?_|refine wB ?_|refine wH ?_|refine wI ?_|refine wJ ?_|refine wC ?_|refine wD ?_|refine wE ?_|refine wF ?_|refine wG ?_|refine wK ?_|refine wL ?_|refine wM ?_|refine wN ?_|refine wO ?_|refine wP ?_|refine wQ ?_|refine wR ?_|refine wS ?_|refine wT ?_|refine wU ?_|refine wV ?_|refine wW ?_|refine wX ?_)
      refine Ops.call (example_ok s1' (cL_at hu) e1 (by omega)) (fun _ _ h _ => h.1.ge') fun r5 H5 => ?_
      rintro ⟨c5, a5⟩
      obtain ⟨F, f1, f2, f3, f4⟩ := a5.rw_
      have o5 := o4.calm c5
      have a4' := a4.calm c5
      have c5' := c4.trans c5
      refine Ops.push (a := (exampleL s.consts a, F)) (rdF rdI) a4'.ac (cF_of f1) (by simp) c5'.1 (by kernel_rfl) (by kernel_rfl) (by kernel_rfl) (by omega) (by decide) fun pz w3' H6 a6 g6 => ?_
      have o6 : OAc cI 3 24 H.nxt H6 w3' (ls ++ [(exampleL s.consts a, F)]) := a4'.grow a6 g6 (by rw [fps_one]; exact f2.older c4.1) (by rw [fps_one]; exact f3) (by rw [fps_one]; exact fresh_not a4.own (Nat.le_refl _) f2) (by rw [fps_one]; exact fresh_ne a4.ac.live (Nat.le_refl _) f2)
      repeat' (first|refine wA ?_|refine wB ?_|refine wH ?_|refine wI ?_|refine wJ ?_|refine wC ?_|refine wD ?_|refine wE ?_|refine wF ?_|refine wG ?_|refine wK ?_|refine wL ?_|refine wM ?_|refine wN ?_|refine wO ?_|refine wP ?_|refine wQ ?_|refine wR ?_|refine wS ?_|refine wT ?_|refine wU ?_|refine wV ?_|refine wW ?_|refine wX ?_)
      refine ⟨(i + 1, w3', H6, ls ++ [(exampleL s.consts a, F)]), by dsimp only; omega, rfl, rfl, by dsimp only; exact (by repeat (first | exact Wk.jk | refine Wk.up rfl ?_)), ?_⟩
      refine ⟨by dsimp only; omega, g6.calm H (Nat.le_refl _) c5', o5.kp g6.kp, o6, ?_⟩
      dsimp only
      rw [map_snoc ha', List.map_append, hls]
      rfl
    · repeat' (first|refine wA ?_|refine wB ?_|refine wH ?_|refine wI ?_|refine wJ ?_|refine wC ?_|refine wD ?_|refine wE ?_|refine wF ?_|refine wG ?_|refine wK ?_|refine wL ?_|refine wM ?_|refine wN ?_|refine wO ?_|refine wP ?_|refine wQ ?_|refine wR ?_|refine wS ?_|refine wT ?_|refine wU ?_|refine wV ?_|refine wW ?_|refine wX ?_)
      refine Run.ret ⟨.inl rfl, ResK.tmp rfl (by conv => lhs; whnf) (ResK.nil ?_)⟩
      rw [take_end (by omega)] at hls
      exact ⟨c4, ls, a4, by rw [examplesOf_yes hd]; exact hls⟩

end Go.Proofs.Ytefmjpbmdoebaaa

/- The law FnExactExamplesOf: whatever the set's argument is, the law returns true; no condition. This text: the law's own body. -/
set_option linter.unusedVariables false
namespace Go.Proofs.Ytefmjpbmdoebaaa
open Go Go.RowKit

theorem total_tot {ls : List (List Int × List Nat)} : total ls = tot (ls.map (·.1)) := by
  induction ls with
  | nil => rfl
  | cons x t ih => obtain ⟨l, F⟩ := x; simp only [total, ih]; simp [tot]

theorem examples_tot {s : OS} (h : osOK s) : tot (examplesOf s) ≤ 1048576 := by
  unfold examplesOf
  split
  · have e : tot (s.pats.map (exampleL s.consts)) = tot s.pats := by
      unfold tot
      rw [List.map_map]
      congr 1
      apply List.map_congr_left
      intro p _
      exact exampleL_length _ _
    rw [e]; exact h.2.2.2
  · simp [tot]

theorem lawExamplesOf_ok {H : Hp} {a0 : Value} {s : OS} (h0 : cOS.ok H (cellsOf a0) s) : CallK Try.prog 10 [a0] H (fun r _ => r = .bool true) := by
  have hone := cOS.one h0
  have h0' := h0
  obtain ⟨v1, v2, hcs, s1, s2⟩ := h0'
  have hok : cOS.ok H (cellsOf (.agg #[.int .i64 s.width, v1, v2])) s := ⟨v1, v2, rfl, s1, s2⟩
  refine (CallK.enter Try.func10 rfl rfl Try.ntmps10 Try.results10 rfl ?_)
  repeat' (first|refine wA ?_|refine wB ?_|refine wH ?_|refine wI ?_|refine wJ ?_|refine wC ?_|refine wD ?_|refine wE ?_|refine wF ?_|refine wG ?_|refine wK ?_|refine wL ?_|refine wM ?_|refine wN ?_|refine wO ?_|refine wP ?_|refine wQ ?_|refine wR ?_|refine wS ?_|refine wT ?_|refine wU ?_|refine wV ?_|refine wW ?_|refine wX ?_)
  refine Ops.box H.nxt (Nat.le_refl _) (one_known hone) hcs (by simp) fun p1 H1 o1 c1 ap1 => ?_
  repeat' (first|refine wA ?_|refine wB ?_|refine wH ?_|refine wI ?_|refine wJ ?_|refine wC ?_|refine wD ?_|refine wE ?_|refine wF ?_|refine wG ?_|refine wK ?_|refine wL ?_|refine wM ?_|refine wN ?_|refine wO ?_|refine wP ?_|refine wQ ?_|refine wR ?_|refine wS ?_|refine wT ?_|refine wU ?_|refine wV ?_|refine wW ?_|refine wX ?_)
  refine Ops.loadS o1.pt (by kernel_rfl) (by kernel_rfl) ?_
  repeat' (first|refine wA ?_|refine wB ?_|refine wH ?_|refine wI ?_|refine wJ ?_|refine wC ?_|refine wD ?_|refine wE ?_|refine wF ?_|refine wG ?_|refine wK ?_|refine wL ?_|refine wM ?_|refine wN ?_|refine wO ?_|refine wP ?_|refine wQ ?_|refine wR ?_|refine wS ?_|refine wT ?_|refine wU ?_|refine wV ?_|refine wW ?_|refine wX ?_)
  refine Ops.call (szOrbitSet_ok (cOS.calm c1 hok) (by omega) (by omega)) (fun _ _ h _ => h.1.ge') fun r2 H2 => ?_
  rintro ⟨c2, x, rfl, hx⟩
  have o2 := o1.pt.calm c2
  have c2 := c1.trans c2
  repeat' (first|refine wA ?_|refine wB ?_|refine wH ?_|refine wI ?_|refine wJ ?_|refine wC ?_|refine wD ?_|refine wE ?_|refine wF ?_|refine wG ?_|refine wK ?_|refine wL ?_|refine wM ?_|refine wN ?_|refine wO ?_|refine wP ?_|refine wQ ?_|refine wR ?_|refine wS ?_|refine wT ?_|refine wU ?_|refine wV ?_|refine wW ?_|refine wX ?_)
  refine Ops.cmp rfl rfl rfl (fun hc => ?_) (fun hc => ?_)
  · repeat' (first|refine wA ?_|refine wB ?_|refine wH ?_|refine wI ?_|refine wJ ?_|refine wC ?_|refine wD ?_|refine wE ?_|refine wF ?_|refine wG ?_|refine wK ?_|refine wL ?_|refine wM ?_|refine wN ?_|refine wO ?_|refine wP ?_|refine wQ ?_|refine wR ?_|refine wS ?_|refine wT ?_|refine wU ?_|refine wV ?_|refine wW ?_|refine wX ?_)
    refine Run.ret ⟨.inl rfl, ResK.tmp rfl (by conv => lhs; whnf) (ResK.nil ?_)⟩
    rfl
  · have hsz : osOK s := by
      rcases hx with hx | ⟨hx, ht⟩
      · omega
      · exact osOK_of hx ht
    have htot := examples_tot hsz
    have htp := hsz.2.2.2
    have hcl := hsz.1
    repeat' (first|refine wA ?_|refine wB ?_|refine wH ?_|refine wI ?_|refine wJ ?_|refine wC ?_|refine wD ?_|refine wE ?_|refine wF ?_|refine wG ?_|refine wK ?_|refine wL ?_|refine wM ?_|refine wN ?_|refine wO ?_|refine wP ?_|refine wQ ?_|refine wR ?_|refine wS ?_|refine wT ?_|refine wU ?_|refine wV ?_|refine wW ?_|refine wX ?_)
    refine Ops.loadS o2 (by kernel_rfl) (by kernel_rfl) ?_
    refine Ops.call (toOrbitSet_ok (cOS.calm c2 hok) hsz) (fun _ _ h _ => h.1.ge') fun w0 H3 => ?_
    rintro ⟨c3, ms3, t3⟩
    refine Ops.call (specExamplesOf_ok t3.os hsz.2.1) (fun _ _ h _ => h.1.ge') fun w4 H4 => ?_
    rintro ⟨c4, w4s⟩
    have c34 := c3.trans c4
    have c4 := c2.trans c34
    have o4 := o2.calm c34
    repeat' (first|refine wA ?_|refine wB ?_|refine wH ?_|refine wI ?_|refine wJ ?_|refine wC ?_|refine wD ?_|refine wE ?_|refine wF ?_|refine wG ?_|refine wK ?_|refine wL ?_|refine wM ?_|refine wN ?_|refine wO ?_|refine wP ?_|refine wQ ?_|refine wR ?_|refine wS ?_|refine wT ?_|refine wU ?_|refine wV ?_|refine wW ?_|refine wX ?_)
    refine Ops.loadS o4 (by kernel_rfl) (by kernel_rfl) ?_
    refine Ops.call (toOrbitSet_ok (cOS.calm c4 hok) hsz) (fun _ _ h _ => h.1.ge') fun x0 H5 => ?_
    rintro ⟨c5, ms5, t5⟩
    obtain ⟨x1, x2, hx0, _, _, hms5, _⟩ := id t5
    subst hx0
    refine Ops.var H5.nxt (Nat.le_refl _) (z0 := .agg #[.int .i64 0, nilS, nilS]) (by kernel_rfl) (by rfl) (by decide) rfl (by simp) (by kernel_rfl) rfl (cOS.one t5.os) fun p5 H6 q5 c6 ap6 => ?_
    have far := t5.foot_lt
    repeat' (first|refine wA ?_|refine wB ?_|refine wH ?_|refine wI ?_|refine wJ ?_|refine wC ?_|refine wD ?_|refine wE ?_|refine wF ?_|refine wG ?_|refine wK ?_|refine wL ?_|refine wM ?_|refine wN ?_|refine wO ?_|refine wP ?_|refine wQ ?_|refine wR ?_|refine wS ?_|refine wT ?_|refine wU ?_|refine wV ?_|refine wW ?_|refine wX ?_)
    have t6 := t5.calm c6
    have c46 := c5.trans c6
    refine Ops.loadS q5.pt (by kernel_rfl) (by kernel_rfl) ?_
    refine Ops.call (ExamplesOf_ok t6.os hsz.2.1) (fun _ _ h _ => h.1.ge') fun g0 H7 => ?_
    rintro ⟨c7, ls, g7, hls⟩
    have hk7 : H5.nxt ≤ H6.nxt := c6.1
    have q7 := q5.calm c7
    have t7 := t6.calm c7
    have c47 := c46.trans c7
    have tl : total ls ≤ 1048576 := by rw [total_tot, hls]; exact htot
    have tm : total ms5 ≤ 1048576 := by rw [total_tot, hms5]; exact htp
    have s7 := g7.ac.sl.forget
    rw [hls] at s7
    repeat' (first|refine wA ?_|refine wB ?_|refine wH ?_|refine wI ?_|refine wJ ?_|refine wC ?_|refine wD ?_|refine wE ?_|refine wF ?_|refine wG ?_|refine wK ?_|refine wL ?_|refine wM ?_|refine wN ?_|refine wO ?_|refine wP ?_|refine wQ ?_|refine wR ?_|refine wS ?_|refine wT ?_|refine wU ?_|refine wV ?_|refine wW ?_|refine wX ?_)
    refine Ops.callB (eqIntSS_ok s7 (w4s.calm c47)) (fun hc2 => ?_) (fun hc2 => ?_)
    · repeat' (first|refine wA ?_|refine wB ?_|refine wH ?_|refine wI ?_|refine wJ ?_|refine wC ?_|refine wD ?_|refine wE ?_|refine wF ?_|refine wG ?_|refine wK ?_|refine wL ?_|refine wM ?_|refine wN ?_|refine wO ?_|refine wP ?_|refine wQ ?_|refine wR ?_|refine wS ?_|refine wT ?_|refine wU ?_|refine wV ?_|refine wW ?_|refine wX ?_)
      refine Run.draw [1, 2, 0, 3, 4] Try.checked.mixed (by kernel_rfl) ?_
      have o7 := o4.calm c47
      refine Ops.loadS o7 (by kernel_rfl) (by kernel_rfl) ?_
      refine Ops.call (toOrbitSet_ok (cOS.calm (c4.trans c47) hok) hsz) (fun _ _ h _ => h.1.ge') fun w8 H8 => ?_
      rintro ⟨c8, ms8, t8⟩
      refine Ops.loadS (q7.calm c8).pt (by kernel_rfl) (by kernel_rfl) ?_
      refine Ops.call (eqOrbitSet_ok (t7.calm c8).os t8.os) (fun _ _ h _ => h.1.ge') fun r9 H9 => ?_
      rintro ⟨c9, rfl⟩
      have c79 := c8.trans c9
      have t9 := t7.calm c79
      have q9 := q7.calm c79
      have g9 := g7.calm c79
      have c49 := c47.trans c79
      repeat' (first|refine wA ?_|refine wB ?_|refine wH ?_|refine wI ?_|refine wJ ?_|refine wC ?_|refine wD ?_|refine wE ?_|refine wF ?_|refine wG ?_|refine wK ?_|refine wL ?_|refine wM ?_|refine wN ?_|refine wO ?_|refine wP ?_|refine wQ ?_|refine wR ?_|refine wS ?_|refine wT ?_|refine wU ?_|refine wV ?_|refine wW ?_|refine wX ?_)
      refine Ops.loadS q9.pt (by kernel_rfl) (by kernel_rfl) ?_
      repeat' (first|refine wA ?_|refine wB ?_|refine wH ?_|refine wI ?_|refine wJ ?_|refine wC ?_|refine wD ?_|refine wE ?_|refine wF ?_|refine wG ?_|refine wK ?_|refine wL ?_|refine wM ?_|refine wN ?_|refine wO ?_|refine wP ?_|refine wQ ?_|refine wR ?_|refine wS ?_|refine wT ?_|refine wU ?_|refine wV ?_|refine wW ?_|refine wX ?_)
      refine Ops.call (markOrbitSet_ok t9 (by omega) (by omega)) (fun _ _ _ hf => by cases hf) fun r10 H10 => ?_
      rintro ⟨rfl, _, m10, k10⟩
      have g10 := (k10 _ far).2.1 _ _ _ _ _ hk7 g9
      have c410 := m10 H4 (Nat.le_refl _) c49
      repeat' (first|refine wA ?_|refine wB ?_|refine wH ?_|refine wI ?_|refine wJ ?_|refine wC ?_|refine wD ?_|refine wE ?_|refine wF ?_|refine wG ?_|refine wK ?_|refine wL ?_|refine wM ?_|refine wN ?_|refine wO ?_|refine wP ?_|refine wQ ?_|refine wR ?_|refine wS ?_|refine wT ?_|refine wU ?_|refine wV ?_|refine wW ?_|refine wX ?_)
      refine Ops.cmp rfl rfl rfl (fun hc3 => ?_) (fun hc3 => ?_)
      · omega
      · have s10 := g10.ac.sl.forget
        rw [hls] at s10
        repeat' (first|refine wA ?_|refine wB ?_|refine wH ?_|refine wI ?_|refine wJ ?_|refine wC ?_|refine wD ?_|refine wE ?_|refine wF ?_|refine wG ?_|refine wK ?_|refine wL ?_|refine wM ?_|refine wN ?_|refine wO ?_|refine wP ?_|refine wQ ?_|refine wR ?_|refine wS ?_|refine wT ?_|refine wU ?_|refine wV ?_|refine wW ?_|refine wX ?_)
        refine Ops.callB (eqIntSS_ok s10 (w4s.calm c410)) (fun hc4 => ?_) (fun hc4 => ?_)
        · repeat' (first|refine wA ?_|refine wB ?_|refine wH ?_|refine wI ?_|refine wJ ?_|refine wC ?_|refine wD ?_|refine wE ?_|refine wF ?_|refine wG ?_|refine wK ?_|refine wL ?_|refine wM ?_|refine wN ?_|refine wO ?_|refine wP ?_|refine wQ ?_|refine wR ?_|refine wS ?_|refine wT ?_|refine wU ?_|refine wV ?_|refine wW ?_|refine wX ?_)
          refine Ops.call (markIntSS_ok g10.ol (by omega) (by omega)) (fun _ _ _ hf => by cases hf) fun r11 H11 => ?_
          rintro ⟨rfl, o11, m11⟩
          have c411 : Calm H4 H11 := m11.calm c410 fun f hf => Nat.le_trans (Nat.le_trans c5.1 c6.1) (g10.own f hf).2.2
          repeat' (first|refine wA ?_|refine wB ?_|refine wH ?_|refine wI ?_|refine wJ ?_|refine wC ?_|refine wD ?_|refine wE ?_|refine wF ?_|refine wG ?_|refine wK ?_|refine wL ?_|refine wM ?_|refine wN ?_|refine wO ?_|refine wP ?_|refine wQ ?_|refine wR ?_|refine wS ?_|refine wT ?_|refine wU ?_|refine wV ?_|refine wW ?_|refine wX ?_)
          refine Ops.callE (heldIntSS_ok o11.sl (by omega) (by omega)) ?_
          repeat' (first|refine wA ?_|refine wB ?_|refine wH ?_|refine wI ?_|refine wJ ?_|refine wC ?_|refine wD ?_|refine wE ?_|refine wF ?_|refine wG ?_|refine wK ?_|refine wL ?_|refine wM ?_|refine wN ?_|refine wO ?_|refine wP ?_|refine wQ ?_|refine wR ?_|refine wS ?_|refine wT ?_|refine wU ?_|refine wV ?_|refine wW ?_|refine wX ?_)
          refine Ops.cmp rfl rfl rfl (fun hc5 => ?_) (fun hc5 => ?_)
          · omega
          · repeat' (first|refine wA ?_|refine wB ?_|refine wH ?_|refine wI ?_|refine wJ ?_|refine wC ?_|refine wD ?_|refine wE ?_|refine wF ?_|refine wG ?_|refine wK ?_|refine wL ?_|refine wM ?_|refine wN ?_|refine wO ?_|refine wP ?_|refine wQ ?_|refine wR ?_|refine wS ?_|refine wT ?_|refine wU ?_|refine wV ?_|refine wW ?_|refine wX ?_)
            refine Ops.cmpn rfl rfl (fun hc6 => ?_) (fun hc6 => ?_)
            · contradiction
            · repeat' (first|refine wA ?_|refine wB ?_|refine wH ?_|refine wI ?_|refine wJ ?_|refine wC ?_|refine wD ?_|refine wE ?_|refine wF ?_|refine wG ?_|refine wK ?_|refine wL ?_|refine wM ?_|refine wN ?_|refine wO ?_|refine wP ?_|refine wQ ?_|refine wR ?_|refine wS ?_|refine wT ?_|refine wU ?_|refine wV ?_|refine wW ?_|refine wX ?_)
              have o11' := o4.calm c411
              refine Ops.loadS o11' (by kernel_rfl) (by kernel_rfl) ?_
              refine Ops.call (toOrbitSet_ok (cOS.calm (c4.trans c411) hok) hsz) (fun _ _ h _ => h.1.ge') fun w12 H12 => ?_
              rintro ⟨c12, ms12, t12⟩
              refine Ops.call (ExamplesOf_ok t12.os hsz.2.1) (fun _ _ h _ => h.1.ge') fun g13 H13 => ?_
              rintro ⟨c13, ls13, g13o, hls13⟩
              have c1113 := c12.trans c13
              have s13 := g13o.ac.sl.forget
              rw [hls13] at s13
              repeat' (first|refine wA ?_|refine wB ?_|refine wH ?_|refine wI ?_|refine wJ ?_|refine wC ?_|refine wD ?_|refine wE ?_|refine wF ?_|refine wG ?_|refine wK ?_|refine wL ?_|refine wM ?_|refine wN ?_|refine wO ?_|refine wP ?_|refine wQ ?_|refine wR ?_|refine wS ?_|refine wT ?_|refine wU ?_|refine wV ?_|refine wW ?_|refine wX ?_)
              refine Ops.callB (eqIntSS_ok s13 (w4s.calm (c411.trans c1113))) (fun hc7 => ?_) (fun hc7 => ?_)
              · repeat' (first|refine wA ?_|refine wB ?_|refine wH ?_|refine wI ?_|refine wJ ?_|refine wC ?_|refine wD ?_|refine wE ?_|refine wF ?_|refine wG ?_|refine wK ?_|refine wL ?_|refine wM ?_|refine wN ?_|refine wO ?_|refine wP ?_|refine wQ ?_|refine wR ?_|refine wS ?_|refine wT ?_|refine wU ?_|refine wV ?_|refine wW ?_|refine wX ?_)
                refine Ops.callE (heldIntSS_ok (o11.sl.calm c1113) (by omega) (by omega)) ?_
                repeat' (first|refine wA ?_|refine wB ?_|refine wH ?_|refine wI ?_|refine wJ ?_|refine wC ?_|refine wD ?_|refine wE ?_|refine wF ?_|refine wG ?_|refine wK ?_|refine wL ?_|refine wM ?_|refine wN ?_|refine wO ?_|refine wP ?_|refine wQ ?_|refine wR ?_|refine wS ?_|refine wT ?_|refine wU ?_|refine wV ?_|refine wW ?_|refine wX ?_)
                refine Ops.cmp rfl rfl rfl (fun hc8 => ?_) (fun hc8 => ?_)
                · omega
                · repeat' (first|refine wA ?_|refine wB ?_|refine wH ?_|refine wI ?_|refine wJ ?_|refine wC ?_|refine wD ?_|refine wE ?_|refine wF ?_|refine wG ?_|refine wK ?_|refine wL ?_|refine wM ?_|refine wN ?_|refine wO ?_|refine wP ?_|refine wQ ?_|refine wR ?_|refine wS ?_|refine wT ?_|refine wU ?_|refine wV ?_|refine wW ?_|refine wX ?_)
                  refine Ops.cmpn rfl rfl (fun hc9 => ?_) (fun hc9 => ?_)
                  · contradiction
                  · repeat' (first|refine wA ?_|refine wB ?_|refine wH ?_|refine wI ?_|refine wJ ?_|refine wC ?_|refine wD ?_|refine wE ?_|refine wF ?_|refine wG ?_|refine wK ?_|refine wL ?_|refine wM ?_|refine wN ?_|refine wO ?_|refine wP ?_|refine wQ ?_|refine wR ?_|refine wS ?_|refine wT ?_|refine wU ?_|refine wV ?_|refine wW ?_|refine wX ?_)
                    refine Run.ret ⟨.inl rfl, ResK.tmp rfl (by conv => lhs; whnf) (ResK.nil ?_)⟩
                    rfl
              · simp at hc7
        · simp at hc4
    · simp at hc2

/-- The body, as the row asks for it. -/
theorem lawExamplesOf_at {H : Hp} {a0 : Value} {s : OS} (h0 : cOS.ok H (cellsOf a0) s) (_ : InR s.width ∧ (∀ x ∈ s.consts, InR x) ∧ ∀ x ∈ s.pats, ∀ y ∈ x, InR y) : CallK Try.prog 10 [a0] H (fun r _ => r = .bool true) := lawExamplesOf_ok h0

end Go.Proofs.Ytefmjpbmdoebaaa

/- The law FnExactPatternOf: whatever the two lists of numbers are, the law returns true; no condition. This text: the law's own body. -/
set_option linter.unusedVariables false
namespace Go.Proofs.Ytefmjpbmdoebaaa
open Go Go.RowKit

theorem Ac.sa {e k : Nat} {H : Hp} {v : Value} {l : List Int} (h : Ac cI e k H v l) : SA cI e k H v l := ⟨h.sl, fun _ => h⟩

theorem markIntS_k {H : Hp} {v : Value} {k : Int} {l : List Int} {q : Nat} (h : SA cI 3 q H v l) (h0 : 0 ≤ k) (hn : k + l.length ≤ 4611686018427387904) :
    CallK Try.prog 28 [v, .int .i64 k] H (fun r H' => r = .int .i64 (k + l.length) ∧ SA cI 3 q H' v (marks k l.length) ∧ (∀ H0, H0.nxt ≤ q → Calm H0 H → Calm H0 H') ∧ (∀ u k m, Ac cI 3 k H u m → Ap u v → Ac cI 3 k H' u m)) := by
  refine (markIntS_ok h h0 hn).mono ?_
  rintro r H' ⟨h1, h2, h3⟩
  refine ⟨h1, h2, ?_⟩
  rcases h3 with ⟨_, rfl⟩ | ⟨_, r, g1, g2, g3⟩
  · exact ⟨fun _ _ h => h, fun _ _ _ h _ => h⟩
  · exact ⟨fun H0 a b => g3.calm b (Nat.le_trans a g1), fun u k m a b => a.mod g2 b g3 (fun _ _ _ h => h)⟩

theorem patOf_len {cs tup : List Int} : (patOf cs tup).length ≤ tup.length := by
  unfold patOf
  split
  · have := patSt_len cs tup; omega
  · simp

theorem lawPatternOf_ok {H : Hp} {a0 a1 : Value} {l0 l1 : List Int} (h0 : Sl cI H a0 l0) (h1 : Sl cI H a1 l1) : CallK Try.prog 5 [a0, a1] H (fun r _ => r = .bool true) := by
  refine (CallK.enter Try.func5 rfl rfl Try.ntmps5 Try.results5 rfl ?_)
  repeat' (first|refine wA ?_|refine wB ?_|refine wH ?_|refine wI ?_|refine wJ ?_|refine wC ?_|refine wD ?_|refine wE ?_|refine wF ?_|refine wG ?_|refine wK ?_|refine wL ?_|refine wM ?_|refine wN ?_|refine wO ?_|refine wP ?_|refine wQ ?_|refine wR ?_|refine wS ?_|refine wT ?_|refine wU ?_|refine wV ?_|refine wW ?_|refine wX ?_)
  refine Ops.cmp rfl rfl rfl (fun hc => ?_) (fun hc => ?_)
  · repeat' (first|refine wA ?_|refine wB ?_|refine wH ?_|refine wI ?_|refine wJ ?_|refine wC ?_|refine wD ?_|refine wE ?_|refine wF ?_|refine wG ?_|refine wK ?_|refine wL ?_|refine wM ?_|refine wN ?_|refine wO ?_|refine wP ?_|refine wQ ?_|refine wR ?_|refine wS ?_|refine wT ?_|refine wU ?_|refine wV ?_|refine wW ?_|refine wX ?_)
    refine Run.ret ⟨.inl rfl, ResK.tmp rfl (by conv => lhs; whnf) (ResK.nil ?_)⟩
    rfl
  · repeat' (first|refine wA ?_|refine wB ?_|refine wH ?_|refine wI ?_|refine wJ ?_|refine wC ?_|refine wD ?_|refine wE ?_|refine wF ?_|refine wG ?_|refine wK ?_|refine wL ?_|refine wM ?_|refine wN ?_|refine wO ?_|refine wP ?_|refine wQ ?_|refine wR ?_|refine wS ?_|refine wT ?_|refine wU ?_|refine wV ?_|refine wW ?_|refine wX ?_)
    refine Ops.cmp rfl rfl rfl (fun hc2 => ?_) (fun hc2 => ?_)
    · repeat' (first|refine wA ?_|refine wB ?_|refine wH ?_|refine wI ?_|refine wJ ?_|refine wC ?_|refine wD ?_|refine wE ?_|refine wF ?_|refine wG ?_|refine wK ?_|refine wL ?_|refine wM ?_|refine wN ?_|refine wO ?_|refine wP ?_|refine wQ ?_|refine wR ?_|refine wS ?_|refine wT ?_|refine wU ?_|refine wV ?_|refine wW ?_|refine wX ?_)
      refine Run.ret ⟨.inl rfl, ResK.tmp rfl (by conv => lhs; whnf) (ResK.nil ?_)⟩
      rfl
    · repeat' (first|refine wA ?_|refine wB ?_|refine wH ?_|refine wI ?_|refine wJ ?_|refine wC ?_|refine wD ?_|refine wE ?_|refine wF ?_|refine wG ?_|refine wK ?_|refine wL ?_|refine wM ?_|refine wN ?_|refine wO ?_|refine wP ?_|refine wQ ?_|refine wR ?_|refine wS ?_|refine wT ?_|refine wU ?_|refine wV ?_|refine wW ?_|refine wX ?_)
      refine Ops.call (toIntS_ok h0 (by omega)) (fun _ _ h _ => h.1.ge') fun u0 H1 => ?_
      rintro ⟨c1, u0a⟩
      repeat' (first|refine wA ?_|refine wB ?_|refine wH ?_|refine wI ?_|refine wJ ?_|refine wC ?_|refine wD ?_|refine wE ?_|refine wF ?_|refine wG ?_|refine wK ?_|refine wL ?_|refine wM ?_|refine wN ?_|refine wO ?_|refine wP ?_|refine wQ ?_|refine wR ?_|refine wS ?_|refine wT ?_|refine wU ?_|refine wV ?_|refine wW ?_|refine wX ?_)
      refine Ops.call (toIntS_ok (h1.calm c1) (by omega)) (fun _ _ h _ => h.1.ge') fun u1 H2 => ?_
      rintro ⟨c2, u1a⟩
      refine Ops.call (specPatternOf_ok (u0a.sl.calm c2) u1a.sl) (fun _ _ h _ => h.1.ge') fun r3 H3 => ?_
      rintro ⟨c3, w0, rfl, w0s⟩
      have c3 := (c1.trans c2).trans c3
      repeat' (first|refine wA ?_|refine wB ?_|refine wH ?_|refine wI ?_|refine wJ ?_|refine wC ?_|refine wD ?_|refine wE ?_|refine wF ?_|refine wG ?_|refine wK ?_|refine wL ?_|refine wM ?_|refine wN ?_|refine wO ?_|refine wP ?_|refine wQ ?_|refine wR ?_|refine wS ?_|refine wT ?_|refine wU ?_|refine wV ?_|refine wW ?_|refine wX ?_)
      refine Ops.call (toIntS_ok (h0.calm c3) (by omega)) (fun _ _ h _ => h.1.ge') fun x0 H4 => ?_
      rintro ⟨c4, x0a⟩
      repeat' (first|refine wA ?_|refine wB ?_|refine wH ?_|refine wI ?_|refine wJ ?_|refine wC ?_|refine wD ?_|refine wE ?_|refine wF ?_|refine wG ?_|refine wK ?_|refine wL ?_|refine wM ?_|refine wN ?_|refine wO ?_|refine wP ?_|refine wQ ?_|refine wR ?_|refine wS ?_|refine wT ?_|refine wU ?_|refine wV ?_|refine wW ?_|refine wX ?_)
      refine Ops.call (toIntS_ok ((h1.calm c3).calm c4) (by omega)) (fun _ _ h _ => h.1.ge') fun x1 H5 => ?_
      rintro ⟨c5, x1a⟩
      have p10 : Ap x0 x1 := x1a.ap (Nat.le_refl _) x0a.live
      have x0a := x0a.calm c5
      repeat' (first|refine wA ?_|refine wB ?_|refine wH ?_|refine wI ?_|refine wJ ?_|refine wC ?_|refine wD ?_|refine wE ?_|refine wF ?_|refine wG ?_|refine wK ?_|refine wL ?_|refine wM ?_|refine wN ?_|refine wO ?_|refine wP ?_|refine wQ ?_|refine wR ?_|refine wS ?_|refine wT ?_|refine wU ?_|refine wV ?_|refine wW ?_|refine wX ?_)
      refine Ops.call (PatternOf_ok x0a.sl x1a.sl) (fun _ _ h _ => h.1.ge') fun r6 H6 => ?_
      rintro ⟨c6, g0, rfl, g0a⟩
      have pg0 : Ap x0 g0 := g0a.ap (Nat.le_refl _) x0a.live
      have pg1 : Ap x1 g0 := g0a.ap (Nat.le_refl _) x1a.live
      have x0a := x0a.calm c6
      have x1a := x1a.calm c6
      have c36 := (c4.trans c5).trans c6
      repeat' (first|refine wA ?_|refine wB ?_|refine wH ?_|refine wI ?_|refine wJ ?_|refine wC ?_|refine wD ?_|refine wE ?_|refine wF ?_|refine wG ?_|refine wK ?_|refine wL ?_|refine wM ?_|refine wN ?_|refine wO ?_|refine wP ?_|refine wQ ?_|refine wR ?_|refine wS ?_|refine wT ?_|refine wU ?_|refine wV ?_|refine wW ?_|refine wX ?_)
      refine Ops.callB (eqIntS_ok g0a.sl (w0s.calm c36)) (fun hc3 => ?_) (fun hc3 => ?_)
      · repeat' (first|refine wA ?_|refine wB ?_|refine wH ?_|refine wI ?_|refine wJ ?_|refine wC ?_|refine wD ?_|refine wE ?_|refine wF ?_|refine wG ?_|refine wK ?_|refine wL ?_|refine wM ?_|refine wN ?_|refine wO ?_|refine wP ?_|refine wQ ?_|refine wR ?_|refine wS ?_|refine wT ?_|refine wU ?_|refine wV ?_|refine wW ?_|refine wX ?_)
        refine Ops.bne_same rfl rfl (by kernel_rfl) ?_
        repeat' (first|refine wA ?_|refine wB ?_|refine wH ?_|refine wI ?_|refine wJ ?_|refine wC ?_|refine wD ?_|refine wE ?_|refine wF ?_|refine wG ?_|refine wK ?_|refine wL ?_|refine wM ?_|refine wN ?_|refine wO ?_|refine wP ?_|refine wQ ?_|refine wR ?_|refine wS ?_|refine wT ?_|refine wU ?_|refine wV ?_|refine wW ?_|refine wX ?_)
        refine Ops.call (toIntS_ok ((h0.calm c3).calm c36) (by omega)) (fun _ _ h _ => h.1.ge') fun y0 H7 => ?_
        rintro ⟨c7, y0a⟩
        refine Ops.callB (eqIntS_ok (x0a.calm c7).sl y0a.sl) (fun hc4 => ?_) (fun hc4 => ?_)
        · repeat' (first|refine wA ?_|refine wB ?_|refine wH ?_|refine wI ?_|refine wJ ?_|refine wC ?_|refine wD ?_|refine wE ?_|refine wF ?_|refine wG ?_|refine wK ?_|refine wL ?_|refine wM ?_|refine wN ?_|refine wO ?_|refine wP ?_|refine wQ ?_|refine wR ?_|refine wS ?_|refine wT ?_|refine wU ?_|refine wV ?_|refine wW ?_|refine wX ?_)
          have c37 := c36.trans c7
          refine Ops.call (toIntS_ok ((h1.calm c3).calm c37) (by omega)) (fun _ _ h _ => h.1.ge') fun y1 H8 => ?_
          rintro ⟨c8, y1a⟩
          have c68 := c7.trans c8
          refine Ops.callB (eqIntS_ok (x1a.calm c68).sl y1a.sl) (fun hc5 => ?_) (fun hc5 => ?_)
          · repeat' (first|refine wA ?_|refine wB ?_|refine wH ?_|refine wI ?_|refine wJ ?_|refine wC ?_|refine wD ?_|refine wE ?_|refine wF ?_|refine wG ?_|refine wK ?_|refine wL ?_|refine wM ?_|refine wN ?_|refine wO ?_|refine wP ?_|refine wQ ?_|refine wR ?_|refine wS ?_|refine wT ?_|refine wU ?_|refine wV ?_|refine wW ?_|refine wX ?_)
            have x0a := (x0a.calm c68).older (k' := H3.nxt) (Nat.le_refl _)
            have x1a := (x1a.calm c68).older (k' := H3.nxt) c4.1
            have g0a := (g0a.calm c68).older (k' := H3.nxt) (Nat.le_trans c4.1 c5.1)
            have c38 := c36.trans c68
            have hpl := patOf_len (cs := l0) (tup := l1)
            refine Ops.call (markIntS_k x0a.sa (by omega) (by omega)) (fun _ _ _ hf => by cases hf) fun r9 H9 => ?_
            rintro ⟨rfl, _, m9, k9⟩
            have c39 := m9 H3 (Nat.le_refl _) c38
            have x1a := k9 _ _ _ x1a p10.symm
            have g0a := k9 _ _ _ g0a pg0.symm
            repeat' (first|refine wA ?_|refine wB ?_|refine wH ?_|refine wI ?_|refine wJ ?_|refine wC ?_|refine wD ?_|refine wE ?_|refine wF ?_|refine wG ?_|refine wK ?_|refine wL ?_|refine wM ?_|refine wN ?_|refine wO ?_|refine wP ?_|refine wQ ?_|refine wR ?_|refine wS ?_|refine wT ?_|refine wU ?_|refine wV ?_|refine wW ?_|refine wX ?_)
            refine Ops.call (markIntS_k x1a.sa (by omega) (by omega)) (fun _ _ _ hf => by cases hf) fun r10 H10 => ?_
            rintro ⟨rfl, _, m10, k10⟩
            have c310 := m10 H3 (Nat.le_refl _) c39
            have g0a := k10 _ _ _ g0a pg1.symm
            repeat' (first|refine wA ?_|refine wB ?_|refine wH ?_|refine wI ?_|refine wJ ?_|refine wC ?_|refine wD ?_|refine wE ?_|refine wF ?_|refine wG ?_|refine wK ?_|refine wL ?_|refine wM ?_|refine wN ?_|refine wO ?_|refine wP ?_|refine wQ ?_|refine wR ?_|refine wS ?_|refine wT ?_|refine wU ?_|refine wV ?_|refine wW ?_|refine wX ?_)
            refine Ops.cmp rfl rfl rfl (fun hc6 => ?_) (fun hc6 => ?_)
            · omega
            · repeat' (first|refine wA ?_|refine wB ?_|refine wH ?_|refine wI ?_|refine wJ ?_|refine wC ?_|refine wD ?_|refine wE ?_|refine wF ?_|refine wG ?_|refine wK ?_|refine wL ?_|refine wM ?_|refine wN ?_|refine wO ?_|refine wP ?_|refine wQ ?_|refine wR ?_|refine wS ?_|refine wT ?_|refine wU ?_|refine wV ?_|refine wW ?_|refine wX ?_)
              refine Ops.callB (eqIntS_ok g0a.sl (w0s.calm c310)) (fun hc7 => ?_) (fun hc7 => ?_)
              · repeat' (first|refine wA ?_|refine wB ?_|refine wH ?_|refine wI ?_|refine wJ ?_|refine wC ?_|refine wD ?_|refine wE ?_|refine wF ?_|refine wG ?_|refine wK ?_|refine wL ?_|refine wM ?_|refine wN ?_|refine wO ?_|refine wP ?_|refine wQ ?_|refine wR ?_|refine wS ?_|refine wT ?_|refine wU ?_|refine wV ?_|refine wW ?_|refine wX ?_)
                refine Ops.bne_same rfl rfl (by kernel_rfl) ?_
                repeat' (first|refine wA ?_|refine wB ?_|refine wH ?_|refine wI ?_|refine wJ ?_|refine wC ?_|refine wD ?_|refine wE ?_|refine wF ?_|refine wG ?_|refine wK ?_|refine wL ?_|refine wM ?_|refine wN ?_|refine wO ?_|refine wP ?_|refine wQ ?_|refine wR ?_|refine wS ?_|refine wT ?_|refine wU ?_|refine wV ?_|refine wW ?_|refine wX ?_)
                refine Ops.call (markIntS_k g0a.sa (by omega) (by omega)) (fun _ _ _ hf => by cases hf) fun r11 H11 => ?_
                rintro ⟨rfl, g0m, m11, k11⟩
                have c311 := m11 H3 (Nat.le_refl _) c310
                repeat' (first|refine wA ?_|refine wB ?_|refine wH ?_|refine wI ?_|refine wJ ?_|refine wC ?_|refine wD ?_|refine wE ?_|refine wF ?_|refine wG ?_|refine wK ?_|refine wL ?_|refine wM ?_|refine wN ?_|refine wO ?_|refine wP ?_|refine wQ ?_|refine wR ?_|refine wS ?_|refine wT ?_|refine wU ?_|refine wV ?_|refine wW ?_|refine wX ?_)
                refine Ops.callE (heldIntS_ok g0m.1 (by omega) (by omega)) ?_
                repeat' (first|refine wA ?_|refine wB ?_|refine wH ?_|refine wI ?_|refine wJ ?_|refine wC ?_|refine wD ?_|refine wE ?_|refine wF ?_|refine wG ?_|refine wK ?_|refine wL ?_|refine wM ?_|refine wN ?_|refine wO ?_|refine wP ?_|refine wQ ?_|refine wR ?_|refine wS ?_|refine wT ?_|refine wU ?_|refine wV ?_|refine wW ?_|refine wX ?_)
                refine Ops.cmp rfl rfl rfl (fun hc8 => ?_) (fun hc8 => ?_)
                · omega
                · repeat' (first|refine wA ?_|refine wB ?_|refine wH ?_|refine wI ?_|refine wJ ?_|refine wC ?_|refine wD ?_|refine wE ?_|refine wF ?_|refine wG ?_|refine wK ?_|refine wL ?_|refine wM ?_|refine wN ?_|refine wO ?_|refine wP ?_|refine wQ ?_|refine wR ?_|refine wS ?_|refine wT ?_|refine wU ?_|refine wV ?_|refine wW ?_|refine wX ?_)
                  refine Ops.cmpn rfl rfl (fun hc9 => ?_) (fun hc9 => ?_)
                  · contradiction
                  · repeat' (first|refine wA ?_|refine wB ?_|refine wH ?_|refine wI ?_|refine wJ ?_|refine wC ?_|refine wD ?_|refine wE ?_|refine wF ?_|refine wG ?_|refine wK ?_|refine wL ?_|refine wM ?_|refine wN ?_|refine wO ?_|refine wP ?_|refine wQ ?_|refine wR ?_|refine wS ?_|refine wT ?_|refine wU ?_|refine wV ?_|refine wW ?_|refine wX ?_)
                    have c011 := c3.trans c311
                    refine Ops.call (toIntS_ok (h0.calm c011) (by omega)) (fun _ _ h _ => h.1.ge') fun z0 H12 => ?_
                    rintro ⟨c12, z0a⟩
                    repeat' (first|refine wA ?_|refine wB ?_|refine wH ?_|refine wI ?_|refine wJ ?_|refine wC ?_|refine wD ?_|refine wE ?_|refine wF ?_|refine wG ?_|refine wK ?_|refine wL ?_|refine wM ?_|refine wN ?_|refine wO ?_|refine wP ?_|refine wQ ?_|refine wR ?_|refine wS ?_|refine wT ?_|refine wU ?_|refine wV ?_|refine wW ?_|refine wX ?_)
                    refine Ops.call (toIntS_ok ((h1.calm c011).calm c12) (by omega)) (fun _ _ h _ => h.1.ge') fun z1 H13 => ?_
                    rintro ⟨c13, z1a⟩
                    refine Ops.call (PatternOf_ok (z0a.calm c13).sl z1a.sl) (fun _ _ h _ => h.1.ge') fun r14 H14 => ?_
                    rintro ⟨c14, q0, rfl, q0a⟩
                    have c1114 := (c12.trans c13).trans c14
                    repeat' (first|refine wA ?_|refine wB ?_|refine wH ?_|refine wI ?_|refine wJ ?_|refine wC ?_|refine wD ?_|refine wE ?_|refine wF ?_|refine wG ?_|refine wK ?_|refine wL ?_|refine wM ?_|refine wN ?_|refine wO ?_|refine wP ?_|refine wQ ?_|refine wR ?_|refine wS ?_|refine wT ?_|refine wU ?_|refine wV ?_|refine wW ?_|refine wX ?_)
                    refine Ops.callB (eqIntS_ok q0a.sl ((w0s.calm c311).calm c1114)) (fun hc10 => ?_) (fun hc10 => ?_)
                    · repeat' (first|refine wA ?_|refine wB ?_|refine wH ?_|refine wI ?_|refine wJ ?_|refine wC ?_|refine wD ?_|refine wE ?_|refine wF ?_|refine wG ?_|refine wK ?_|refine wL ?_|refine wM ?_|refine wN ?_|refine wO ?_|refine wP ?_|refine wQ ?_|refine wR ?_|refine wS ?_|refine wT ?_|refine wU ?_|refine wV ?_|refine wW ?_|refine wX ?_)
                      refine Ops.bne_same rfl rfl (by kernel_rfl) ?_
                      repeat' (first|refine wA ?_|refine wB ?_|refine wH ?_|refine wI ?_|refine wJ ?_|refine wC ?_|refine wD ?_|refine wE ?_|refine wF ?_|refine wG ?_|refine wK ?_|refine wL ?_|refine wM ?_|refine wN ?_|refine wO ?_|refine wP ?_|refine wQ ?_|refine wR ?_|refine wS ?_|refine wT ?_|refine wU ?_|refine wV ?_|refine wW ?_|refine wX ?_)
                      refine Ops.callE (heldIntS_ok (g0m.1.calm c1114) (by omega) (by omega)) ?_
                      repeat' (first|refine wA ?_|refine wB ?_|refine wH ?_|refine wI ?_|refine wJ ?_|refine wC ?_|refine wD ?_|refine wE ?_|refine wF ?_|refine wG ?_|refine wK ?_|refine wL ?_|refine wM ?_|refine wN ?_|refine wO ?_|refine wP ?_|refine wQ ?_|refine wR ?_|refine wS ?_|refine wT ?_|refine wU ?_|refine wV ?_|refine wW ?_|refine wX ?_)
                      refine Ops.cmp rfl rfl rfl (fun hc11 => ?_) (fun hc11 => ?_)
                      · omega
                      · repeat' (first|refine wA ?_|refine wB ?_|refine wH ?_|refine wI ?_|refine wJ ?_|refine wC ?_|refine wD ?_|refine wE ?_|refine wF ?_|refine wG ?_|refine wK ?_|refine wL ?_|refine wM ?_|refine wN ?_|refine wO ?_|refine wP ?_|refine wQ ?_|refine wR ?_|refine wS ?_|refine wT ?_|refine wU ?_|refine wV ?_|refine wW ?_|refine wX ?_)
                        refine Ops.cmpn rfl rfl (fun hc12 => ?_) (fun hc12 => ?_)
                        · contradiction
                        · repeat' (first|refine wA ?_|refine wB ?_|refine wH ?_|refine wI ?_|refine wJ ?_|refine wC ?_|refine wD ?_|refine wE ?_|refine wF ?_|refine wG ?_|refine wK ?_|refine wL ?_|refine wM ?_|refine wN ?_|refine wO ?_|refine wP ?_|refine wQ ?_|refine wR ?_|refine wS ?_|refine wT ?_|refine wU ?_|refine wV ?_|refine wW ?_|refine wX ?_)
                          refine Run.ret ⟨.inl rfl, ResK.tmp rfl (by conv => lhs; whnf) (ResK.nil ?_)⟩
                          rfl
                    · simp at hc10
              · simp at hc7
          · simp at hc5
        · simp at hc4
      · simp at hc3

/-- The body, as the row asks for it. -/
theorem lawPatternOf_at {H : Hp} {a0 a1 : Value} {l0 l1 : List Int} (h0 : Sl cI H a0 l0) (_ : ∀ x ∈ l0, InR x) (h1 : Sl cI H a1 l1) (_ : ∀ x ∈ l1, InR x) : CallK Try.prog 5 [a0, a1] H (fun r _ => r = .bool true) := lawPatternOf_ok h0 h1

end Go.Proofs.Ytefmjpbmdoebaaa

/- The law's own data, uniformly: copies, comparisons, marks. -/
set_option linter.unusedVariables false
namespace Go.Proofs.Ytefmjpbmdoebaaa
open Go Go.RowKit

theorem Own.far {k n : Nat} {H H' : Hp} {F : List Nat} (h : Own k H F) (hf : Far n H H') : Own k H' F := fun id hi => by
  obtain ⟨h1, h2, h3⟩ := h id hi
  obtain ⟨_, e2, e3⟩ := hf.2 id h1
  exact ⟨Nat.lt_of_lt_of_le h1 hf.1, e2.trans h2, by rw [e3]; exact h3⟩

theorem Ac.far {α : Type} {c : Cd α} {e k n : Nat} {H H' : Hp} {v : Value} {l : List α} (hc : ∀ cs a, a ∈ l → c.ok H cs a → c.ok H' cs a) (h : Ac c e k H v l) (hn : n ≤ k) (hf : Far n H H') : Ac c e k H' v l := by
  rcases h with h | ⟨id, ob, h1, h2, h3, h4, h5, h6, h7, h8, h9⟩
  · exact .inl h
  · have hlt := Hp.lt h2
    obtain ⟨e1, e2, e3⟩ := hf.2 id hlt
    exact .inr ⟨id, ob, h1, (e1 (Nat.le_trans hn h4)).trans h2, e2.trans h3, by rw [e3]; exact h4, h5, h6, h7, h8, fun i a hi => hc _ a (List.mem_of_getElem? hi) (h9 i a hi)⟩

theorem Rw.far {e k n : Nat} {H H' : Hp} {v : Value} {l : List Int} {F : List Nat} (h : Rw cI e H v l F) (ho : Own k H F) (hn : n ≤ k) (hf : Far n H H') : Rw cI e H' v l F := by
  rcases h.2 with ⟨h1, h2⟩ | ⟨id, ob, h0, h1, h2, h3, h4, h5, h6⟩
  · subst h1 h2
    refine ⟨?_, .inl ⟨rfl, rfl⟩⟩
    rcases h.1 with ⟨_, p, g1, g2⟩ | ⟨id, off, ob, g1, g2, g3, g4, g5⟩
    · exact .inl ⟨rfl, p, g1, fun a ha hs => Nat.lt_of_lt_of_le (g2 a ha hs) hf.1⟩
    · refine .inl ⟨rfl, _, g1, fun a ha hs => ?_⟩
      injection ha with ha
      subst ha
      exact Nat.lt_of_lt_of_le (Hp.lt g2) hf.1
  · have hown := ho id (by rw [h1]; simp)
    have hget := (hf.2 id hown.1).1 (Nat.le_trans hn hown.2.2)
    refine ⟨?_, .inr ⟨id, ob, h0, h1, h2, hget.trans h3, h4, h5, h6⟩⟩
    rcases h.1 with ⟨g0, _⟩ | ⟨id', off, ob', g1, g2, g3, g4, g5⟩
    · exact absurd g0 h0
    · rw [h2] at g1
      cases g1
      exact .inr ⟨id, 0, ob', h2, hget.trans g2, g3, g4, g5⟩

theorem OAc.far {e e' k n : Nat} {H H' : Hp} {v : Value} {ls : List (List Int × List Nat)} (h : OAc cI e e' k H v ls) (hn : n ≤ k) (hf : Far n H H') : OAc cI e e' k H' v ls :=
  ⟨h.ac.far (fun cs a ha hok => by
    obtain ⟨z, hz, hrw⟩ := hok
    obtain ⟨i, hi⟩ := List.mem_iff_getElem?.1 ha
    exact ⟨z, hz, hrw.far (fun f hf => h.own f (fps_mem hi hf)) hn hf⟩) hn hf, h.own.far hf, h.nd, h.ni⟩

theorem OO.far {k n : Nat} {H H' : Hp} {r : Value} {s : OS} {ms : List (List Int × List Nat)} (h : OO k H r s ms) (hn : n ≤ k) (hf : Far n H H') : OO k H' r s ms := by
  obtain ⟨u1, u2, h0, h1, h2, h3⟩ := h
  exact ⟨u1, u2, h0, Ac.far (H := H) (c := cI) (fun _ _ _ h => h) h1 hn hf, h2.far hn hf, h3⟩

def B_IS (l : List Int) : Prop := l.length ≤ 1048576
def B_ISS (l : List (List Int)) : Prop := l.length ≤ 1048576 ∧ (∀ x ∈ l, x.length ≤ 1048576) ∧ tot l ≤ 1048576
def B_OS (s : OS) : Prop := osOK s

/- Three kinds: lists of numbers, lists of lists, sets of orbits. S: to be read; O: the call's own, made from k on, before n; M: marked from q on. -/

/-- Lists of numbers. -/
def S_IS (H : Hp) (v : Value) (l : List Int) : Prop := Sl cI H v l
def O_IS (k n : Nat) (H : Hp) (v : Value) (l : List Int) : Prop := Ac cI 3 k H v l ∧ ∀ id, idOf v = some id → id < n
def M_IS (H : Hp) (v : Value) (q : Int) (l : List Int) : Prop := Sl cI H v (marks q l.length)
def z_IS (l : List Int) : Int := l.length
theorem O_IS.of {k : Nat} {H : Hp} {v : Value} {l : List Int} (h : Ac cI 3 k H v l) : O_IS k H.nxt H v l := ⟨h, fun id hi => h.live id hi⟩
theorem O_IS.s {k n : Nat} {H : Hp} {v : Value} {l : List Int} (h : O_IS k n H v l) : S_IS H v l := h.1.sl
theorem O_IS.calm {k n : Nat} {H H' : Hp} {v : Value} {l : List Int} (h : O_IS k n H v l) (hc : Calm H H') : O_IS k n H' v l := ⟨h.1.calm hc, h.2⟩
theorem O_IS.far {k n m : Nat} {H H' : Hp} {v : Value} {l : List Int} (h : O_IS k n H v l) (hn : m ≤ k) (hc : Far m H H') : O_IS k n H' v l := ⟨Ac.far (H := H) (c := cI) (fun _ _ _ h => h) h.1 hn hc, h.2⟩
theorem S_IS.calm {H H' : Hp} {v : Value} {l : List Int} (h : S_IS H v l) (hc : Calm H H') : S_IS H' v l := Sl.calm h hc
theorem M_IS.calm {H H' : Hp} {v : Value} {q : Int} {l : List Int} (h : M_IS H v q l) (hc : Calm H H') : M_IS H' v q l := Sl.calm h hc
theorem O_IS.one {k n : Nat} {H : Hp} {v : Value} {l : List Int} (h : O_IS k n H v l) : cellsOf v = [v] ∧ Value.one v = true := h.1.cells1
theorem to_IS {H : Hp} {v : Value} {l : List Int} (h : S_IS H v l) (hl : B_IS l) : CallK Try.prog 25 [v] H (fun r H' => Calm H H' ∧ O_IS H.nxt H'.nxt H' r l) :=
  (toIntS_ok h hl).mono fun _ _ h => ⟨h.1, .of h.2⟩
theorem eq_IS {H : Hp} {v w : Value} {l : List Int} (h : S_IS H v l) (h' : S_IS H w l) : CallK Try.prog 27 [v, w] H (fun r H' => Calm H H' ∧ r = .bool true) := by
  have := eqIntS_ok h h'
  rw [decide_eq_true rfl] at this
  exact CallK.intro this ⟨Calm.refl _, rfl⟩
theorem mark_IS {k n : Nat} {H : Hp} {v : Value} {q : Int} {l : List Int} (h : O_IS k n H v l) (h0 : 0 ≤ q) (hn : q + z_IS l ≤ 4611686018427387904) :
    CallK Try.prog 28 [v, .int .i64 q] H (fun r H' => r = .int .i64 (q + z_IS l) ∧ M_IS H' v q l ∧ (∀ H0, H0.nxt ≤ k → Calm H0 H → Calm H0 H') ∧ Far n H H') := by
  refine (markIntS_ok h.1.sa h0 hn).mono ?_
  rintro r H' ⟨h1, h2, h3⟩
  refine ⟨h1, h2.1, ?_⟩
  rcases h3 with ⟨_, rfl⟩ | ⟨_, r, g1, g2, g3⟩
  · exact ⟨fun _ _ h => h, Far.calm (Calm.refl _)⟩
  · refine ⟨fun H0 a b => g3.calm b (Nat.le_trans a g1), Far.mod g3 ?_⟩
    obtain ⟨id, e1, e2, e3, e4⟩ := g2
    have := h.2 id e1
    have := H.rt id e2
    omega
theorem held_IS {H : Hp} {v : Value} {q : Int} {l : List Int} (h : M_IS H v q l) (h0 : 0 ≤ q) (hn : q + z_IS l ≤ 4611686018427387904) :
    CallK Try.prog 29 [v, .int .i64 q] H (fun r H' => Calm H H' ∧ r = .int .i64 (q + z_IS l)) :=
  CallK.intro (heldIntS_ok h h0 hn) ⟨Calm.refl _, rfl⟩

/-- Lists of lists. -/
def S_ISS (H : Hp) (v : Value) (l : List (List Int)) : Prop := Sl (cL cI) H v l
def O_ISS (k n : Nat) (H : Hp) (v : Value) (l : List (List Int)) : Prop := ∃ ms, OAc cI 3 24 k H v ms ∧ ms.map (·.1) = l ∧ ∀ f ∈ fps ms, f < n
def M_ISS (H : Hp) (v : Value) (q : Int) (l : List (List Int)) : Prop := ∃ ms, Sl (cF cI 3) H v (markSS q ms) ∧ ms.map (·.1) = l
def z_ISS (l : List (List Int)) : Int := tot l
theorem O_ISS.of {k : Nat} {H : Hp} {v : Value} {ms : List (List Int × List Nat)} (h : OAc cI 3 24 k H v ms) : O_ISS k H.nxt H v (ms.map (·.1)) := ⟨ms, h, rfl, fun f hf => (h.own f hf).1⟩
theorem O_ISS.s {k n : Nat} {H : Hp} {v : Value} {l : List (List Int)} (h : O_ISS k n H v l) : S_ISS H v l := by
  obtain ⟨ms, h1, rfl, _⟩ := h
  exact h1.ac.sl.forget
theorem O_ISS.calm {k n : Nat} {H H' : Hp} {v : Value} {l : List (List Int)} (h : O_ISS k n H v l) (hc : Calm H H') : O_ISS k n H' v l := let ⟨ms, h1, h2, h3⟩ := h; ⟨ms, h1.calm hc, h2, h3⟩
theorem O_ISS.far {k n m : Nat} {H H' : Hp} {v : Value} {l : List (List Int)} (h : O_ISS k n H v l) (hn : m ≤ k) (hc : Far m H H') : O_ISS k n H' v l := let ⟨ms, h1, h2, h3⟩ := h; ⟨ms, h1.far hn hc, h2, h3⟩
theorem S_ISS.calm {H H' : Hp} {v : Value} {l : List (List Int)} (h : S_ISS H v l) (hc : Calm H H') : S_ISS H' v l := Sl.calm h hc
theorem M_ISS.calm {H H' : Hp} {v : Value} {q : Int} {l : List (List Int)} (h : M_ISS H v q l) (hc : Calm H H') : M_ISS H' v q l := let ⟨ms, h1, h2⟩ := h; ⟨ms, h1.calm hc, h2⟩
theorem to_ISS {H : Hp} {v : Value} {l : List (List Int)} (h : S_ISS H v l) (hl : B_ISS l) : CallK Try.prog 45 [v] H (fun r H' => Calm H H' ∧ O_ISS H.nxt H'.nxt H' r l) :=
  (toIntSS_ok h hl.1 hl.2.1).mono fun _ _ ⟨h1, ms, h2, h3⟩ => ⟨h1, h3 ▸ O_ISS.of h2⟩
theorem eq_ISS {H : Hp} {v w : Value} {l : List (List Int)} (h : S_ISS H v l) (h' : S_ISS H w l) : CallK Try.prog 21 [v, w] H (fun r H' => Calm H H' ∧ r = .bool true) := by
  have := eqIntSS_ok h h'
  rw [decide_eq_true rfl] at this
  exact CallK.intro this ⟨Calm.refl _, rfl⟩
theorem mark_ISS {k n : Nat} {H : Hp} {v : Value} {q : Int} {l : List (List Int)} (h : O_ISS k n H v l) (h0 : 0 ≤ q) (hn : q + z_ISS l ≤ 4611686018427387904) :
    CallK Try.prog 22 [v, .int .i64 q] H (fun r H' => r = .int .i64 (q + z_ISS l) ∧ M_ISS H' v q l ∧ (∀ H0, H0.nxt ≤ k → Calm H0 H → Calm H0 H') ∧ Far n H H') := by
  obtain ⟨ms, h1, rfl, h3⟩ := h
  have e : z_ISS (ms.map (·.1)) = total ms := by unfold z_ISS; rw [total_tot]
  rw [e] at hn ⊢
  refine (markIntSS_ok h1.ol h0 hn).mono ?_
  rintro r H' ⟨g1, g2, g3⟩
  exact ⟨g1, ⟨ms, g2.sl, rfl⟩, fun H0 a b => g3.calm b fun f hf => Nat.le_trans a (h1.own f hf).2.2, Far.modS g3 h3 fun f hf => (h1.own f hf).1⟩
theorem held_ISS {H : Hp} {v : Value} {q : Int} {l : List (List Int)} (h : M_ISS H v q l) (h0 : 0 ≤ q) (hn : q + z_ISS l ≤ 4611686018427387904) :
    CallK Try.prog 23 [v, .int .i64 q] H (fun r H' => Calm H H' ∧ r = .int .i64 (q + z_ISS l)) := by
  obtain ⟨ms, h1, rfl⟩ := h
  have e : z_ISS (ms.map (·.1)) = total ms := by unfold z_ISS; rw [total_tot]
  rw [e] at hn ⊢
  exact CallK.intro (heldIntSS_ok h1 h0 hn) ⟨Calm.refl _, rfl⟩

/-- Sets of orbits. -/
def S_OS (H : Hp) (v : Value) (s : OS) : Prop := cOS.ok H (cellsOf v) s
def O_OS (k n : Nat) (H : Hp) (v : Value) (s : OS) : Prop := ∃ ms, OO k H v s ms ∧ ∀ f, foot v ms f → f < n
def M_OS (H : Hp) (v : Value) (q : Int) (s : OS) : Prop := ∃ ms, OM H v q s ms ∧ ms.map (·.1) = s.pats
def z_OS (s : OS) : Int := s.consts.length + tot s.pats
theorem O_OS.of {k : Nat} {H : Hp} {v : Value} {s : OS} {ms : List (List Int × List Nat)} (h : OO k H v s ms) : O_OS k H.nxt H v s := ⟨ms, h, h.foot_lt⟩
theorem O_OS.s {k n : Nat} {H : Hp} {v : Value} {s : OS} (h : O_OS k n H v s) : S_OS H v s := let ⟨ms, h1, _⟩ := h; h1.os
theorem O_OS.calm {k n : Nat} {H H' : Hp} {v : Value} {s : OS} (h : O_OS k n H v s) (hc : Calm H H') : O_OS k n H' v s := let ⟨ms, h1, h2⟩ := h; ⟨ms, h1.calm hc, h2⟩
theorem O_OS.far {k n m : Nat} {H H' : Hp} {v : Value} {s : OS} (h : O_OS k n H v s) (hn : m ≤ k) (hc : Far m H H') : O_OS k n H' v s := let ⟨ms, h1, h2⟩ := h; ⟨ms, h1.far hn hc, h2⟩
theorem S_OS.calm {H H' : Hp} {v : Value} {s : OS} (h : S_OS H v s) (hc : Calm H H') : S_OS H' v s := cOS.calm hc h
theorem M_OS.calm {H H' : Hp} {v : Value} {q : Int} {s : OS} (h : M_OS H v q s) (hc : Calm H H') : M_OS H' v q s := let ⟨ms, h1, h2⟩ := h; ⟨ms, h1.calm hc, h2⟩
theorem S_OS.val {H : Hp} {v : Value} {s : OS} (h : S_OS H v s) : (cellsOf v).length = 3 ∧ (cellsOf v).all Value.one = true ∧ S_OS H (.agg (cellsOf v).toArray) s := by
  have h2 := cOS.one h
  obtain ⟨v1, v2, hcs, s1, s2⟩ := h
  refine ⟨by rw [hcs]; rfl, h2, ?_⟩
  have e : cellsOf (.agg (cellsOf v).toArray) = cellsOf v := by simp [cellsOf]
  unfold S_OS
  rw [e]
  exact ⟨v1, v2, hcs, s1, s2⟩
theorem O_OS.agg {k n : Nat} {H : Hp} {v : Value} {s : OS} (h : O_OS k n H v s) : ∃ a b c, v = .agg #[a, b, c] := let ⟨ms, ⟨u1, u2, e, _⟩, _⟩ := h; ⟨_, _, _, e⟩
theorem to_OS {H : Hp} {v : Value} {s : OS} (h : S_OS H v s) (hl : B_OS s) : CallK Try.prog 33 [v] H (fun r H' => Calm H H' ∧ O_OS H.nxt H'.nxt H' r s) :=
  (toOrbitSet_ok h hl).mono fun _ _ ⟨h1, ms, h2⟩ => ⟨h1, .of h2⟩
theorem eq_OS {H : Hp} {v w : Value} {s : OS} (h : S_OS H v s) (h' : S_OS H w s) : CallK Try.prog 35 [v, w] H (fun r H' => Calm H H' ∧ r = .bool true) := eqOrbitSet_ok h h'
theorem mark_OS {k n : Nat} {H : Hp} {v : Value} {q : Int} {s : OS} (h : O_OS k n H v s) (h0 : 0 ≤ q) (hn : q + z_OS s ≤ 4611686018427387904) :
    CallK Try.prog 42 [v, .int .i64 q] H (fun r H' => r = .int .i64 (q + z_OS s) ∧ M_OS H' v q s ∧ (∀ H0, H0.nxt ≤ k → Calm H0 H → Calm H0 H') ∧ Far n H H') := by
  obtain ⟨ms, h1, h2⟩ := h
  obtain ⟨_, _, _, _, _, hms, _⟩ := id h1
  have e : q + z_OS s = q + s.consts.length + total ms := by unfold z_OS; rw [total_tot, hms]; omega
  rw [e] at hn ⊢
  refine (markOrbitSet_ok h1 h0 hn).mono ?_
  rintro r H' ⟨g1, g2, g3, g4⟩
  exact ⟨g1, ⟨ms, g2, hms⟩, g3, (g4 n h2).2.2⟩
theorem held_OS {H : Hp} {v : Value} {q : Int} {s : OS} (h : M_OS H v q s) (h0 : 0 ≤ q) (hn : q + z_OS s ≤ 4611686018427387904) :
    CallK Try.prog 47 [v, .int .i64 q] H (fun r H' => Calm H H' ∧ r = .int .i64 (q + z_OS s)) := by
  obtain ⟨ms, h1, h2⟩ := h
  have e : q + z_OS s = q + s.consts.length + total ms := by unfold z_OS; rw [total_tot, h2]; omega
  rw [e] at hn ⊢
  exact heldOrbitSet_ok h1 h0 hn

/- Sizes. -/
theorem B_IS.z {l : List Int} (h : B_IS l) : 0 ≤ z_IS l ∧ z_IS l ≤ 4194304 := by unfold z_IS; unfold B_IS at h; omega
theorem B_ISS.z {l : List (List Int)} (h : B_ISS l) : 0 ≤ z_ISS l ∧ z_ISS l ≤ 4194304 := by unfold z_ISS; have := h.2.2; omega
theorem B_OS.z {s : OS} (h : B_OS s) : 0 ≤ z_OS s ∧ z_OS s ≤ 4194304 := by unfold z_OS; have := h.1; have := h.2.2.2; omega
theorem sz_ISS {H : Hp} {v : Value} {l : List (List Int)} {left : Int} (h : S_ISS H v l) (h0 : 0 ≤ left) (h1 : left ≤ 1048576) :
    CallK Try.prog 43 [v, .int .i64 left] H (fun r H' => Calm H H' ∧ ∃ x : Int, r = .int .i64 x ∧ (x = -1 ∨ (0 ≤ x ∧ x ≤ left ∧ B_ISS l))) :=
  (szIntSS_ok h h0 h1).mono fun r H' ⟨e, x, hr, hx⟩ => ⟨e ▸ Calm.refl _, x, hr, hx.imp id fun ⟨a, b⟩ => ⟨a, by omega, by omega, fun y hy => by have := tot_mem hy; omega, by omega⟩⟩
theorem sz_OS {H : Hp} {v : Value} {s : OS} {left : Int} (h : S_OS H v s) (h0 : 0 ≤ left) (h1 : left ≤ 1048576) :
    CallK Try.prog 31 [v, .int .i64 left] H (fun r H' => Calm H H' ∧ ∃ x : Int, r = .int .i64 x ∧ (x = -1 ∨ (0 ≤ x ∧ x ≤ left ∧ B_OS s))) :=
  (szOrbitSet_ok h h0 h1).mono fun r H' ⟨c, x, hr, hx⟩ => ⟨c, x, hr, hx.imp id fun ⟨a, b⟩ => ⟨a, by omega, by omega, by omega, fun y hy => by have := tot_mem hy; omega, by omega⟩⟩

theorem Po.far {k n : Nat} {H H' : Hp} {v : Value} {cs : List Value} (h : Po k H v cs) (hn : n ≤ k) (hf : Far n H H') : Po k H' v cs := by
  obtain ⟨id, ob, h1, h2, h3, h4, h5⟩ := h
  obtain ⟨e1, e2, e3⟩ := hf.2 id (Hp.lt h2)
  exact ⟨id, ob, h1, (e1 (Nat.le_trans hn h5)).trans h2, h3, e2.trans h4, by rw [e3]; exact h5⟩

end Go.Proofs.Ytefmjpbmdoebaaa

/- The abstract machine, part 22: more of arithmetic, nil checks, struct literals; what touches one row alone. -/
set_option linter.unusedVariables false
set_option linter.unusedSimpArgs false
namespace Go.Proofs.Ytefmjpbmdoebaaa
open Go Go.RowKit

section
variable {P : Program} {o : Oper} {ρ : Operand → Value} {H : Hp} {x y : Operand} {k : IntKind} {a b : Int} {t u : TypeId}

theorem aev_ints {op : BinOp} {v : Value} (ho : o.op = .binOp op t x y u) {k' : IntKind} (hx : ρ x = .int k a) (hy : ρ y = .int k' b) (hst : Value.still v = true) (hr : ∀ w, (binOp op t (.int k a) (.int k' b)).run P w = .ok v w) : aev P o ρ H v H :=
  aev_pure fun β ac hxs => by
    have h1 := hxs x (by rw [ho]; simp [Op.operands])
    have h2 := hxs y (by rw [ho]; simp [Op.operands])
    rw [hx] at h1
    rw [hy] at h2
    have e1 := VR.still_eq rfl h1
    have e2 := VR.still_eq rfl h2
    exact ⟨v, VR.still hst, fun w => by simp [execOp, ho, e1, e2, eqGuard_at_int, hr w]⟩

theorem run_shr (w : World) {k' : IntKind} (h : 0 ≤ b) : (binOp .shr t (.int k a) (.int k' b)).run P w = .ok (.int k (a.fdiv (2 ^ min b.toNat k.bits))) w := by
  simp [binOp, Op.shift, show ¬ b < 0 by omega]
theorem run_rem (w : World) (h : b ≠ 0) : (binOp .rem t (.int k a) (.int k b)).run P w = .ok (.int k (a.tmod b)) w := by
  simp [binOp, Op.intDiv, h]
theorem run_quo (w : World) (h : b ≠ 0) : (binOp .quo t (.int k a) (.int k b)).run P w = .ok (.int k (k.wrap (a.tdiv b))) w := by
  simp [binOp, Op.intDiv, h]
theorem run_and (w : World) : (binOp .and t (.int k a) (.int k b)).run P w = .ok (.int k (bits .and k a b)) w := by
  simp [binOp, intBits_and]
theorem run_xor (w : World) : (binOp .xor t (.int k a) (.int k b)).run P w = .ok (.int k (bits .xor k a b)) w := by
  simp [binOp, intBits_xor]

theorem and_range {m : Int} (h0 : 0 ≤ m) (h1 : m ≤ 9223372036854775807) (a : Int) : 0 ≤ bits .and .i64 a m ∧ bits .and .i64 a m ≤ m := by
  have e : (BitVec.ofInt 64 m).toNat = m.toNat := by
    rw [BitVec.toNat_ofInt]
    have : m % (2 ^ 64 : Nat) = m := Int.emod_eq_of_lt h0 (by omega)
    rw [this]
  have h2 : (BitVec.ofInt 64 a &&& BitVec.ofInt 64 m).toNat ≤ m.toNat := by
    rw [BitVec.toNat_and, e]; exact Nat.and_le_right
  have h3 : bits .and .i64 a m = IntKind.i64.wrap ((BitVec.ofInt 64 a &&& BitVec.ofInt 64 m).toNat : Int) := rfl
  rw [h3, wrap_in (by omega) (by omega)]
  omega

end

section
variable {P : Program} {fl : Bool} {all : Array Oper} {rest : List Oper} {n : Nat} {T : Nat → Value} {H H' : Hp} {K : St → Prop} {d : Nat} {ty : TypeId} {ps : String} {af : Array Edge} {x y : Operand} {a b : Int} {t u : TypeId}

/-- x & m -/
theorem Ops.and (hx : rd T x = .int .i64 a) (hy : rd T y = .int .i64 b) (h0 : 0 ≤ b) (h1 : b ≤ 9223372036854775807) (kk : ∀ r : Int, 0 ≤ r → r ≤ b → Ops P fl all rest ⟨n, up T d (.int .i64 r), H⟩ K) : Ops P fl all (⟨some d, .binOp .and t x y u, ty, ps, af, none⟩ :: rest) ⟨n, T, H⟩ K :=
  .go rfl (fun _ => aev_ints rfl hx hy rfl fun w => run_and w) (kk _ (and_range h0 h1 a).1 (and_range h0 h1 a).2)
theorem Ops.xor (hx : rd T x = .int .i64 a) (hy : rd T y = .int .i64 b) (kk : ∀ r : Int, Ops P fl all rest ⟨n, up T d (.int .i64 r), H⟩ K) : Ops P fl all (⟨some d, .binOp .xor t x y u, ty, ps, af, none⟩ :: rest) ⟨n, T, H⟩ K :=
  .go rfl (fun _ => aev_ints rfl hx hy rfl fun w => run_xor w) (kk _)
theorem Ops.shr {k' : IntKind} (hx : rd T x = .int .i64 a) (hy : rd T y = .int k' b) (h0 : 0 ≤ b) (kk : ∀ r : Int, Ops P fl all rest ⟨n, up T d (.int .i64 r), H⟩ K) : Ops P fl all (⟨some d, .binOp .shr t x y u, ty, ps, af, none⟩ :: rest) ⟨n, T, H⟩ K :=
  .go rfl (fun _ => aev_ints rfl hx hy rfl fun w => run_shr w h0) (kk _)
/-- x + y, x * y, wrapped or not -/
theorem Ops.addA (hx : rd T x = .int .i64 a) (hy : rd T y = .int .i64 b) (kk : ∀ r : Int, Ops P fl all rest ⟨n, up T d (.int .i64 r), H⟩ K) : Ops P fl all (⟨some d, .binOp .add t x y u, ty, ps, af, none⟩ :: rest) ⟨n, T, H⟩ K :=
  .go rfl (fun _ => aev_bin rfl hx hy rfl) (kk _)
theorem Ops.mulA (hx : rd T x = .int .i64 a) (hy : rd T y = .int .i64 b) (kk : ∀ r : Int, Ops P fl all rest ⟨n, up T d (.int .i64 r), H⟩ K) : Ops P fl all (⟨some d, .binOp .mul t x y u, ty, ps, af, none⟩ :: rest) ⟨n, T, H⟩ K :=
  .go rfl (fun _ => aev_bin rfl hx hy rfl) (kk _)
/-- x % y -/
theorem Ops.rem (hx : rd T x = .int .i64 a) (hy : rd T y = .int .i64 b) (h0 : 0 ≤ a) (h1 : 0 < b) (kk : Ops P fl all rest ⟨n, up T d (.int .i64 (a % b)), H⟩ K) : Ops P fl all (⟨some d, .binOp .rem t x y u, ty, ps, af, none⟩ :: rest) ⟨n, T, H⟩ K :=
  .go rfl (fun _ => aev_ints rfl hx hy rfl fun w => run_rem w (by omega)) (by rw [Int.tmod_eq_emod_of_nonneg h0]; exact kk)
/-- x / y -/
theorem Ops.quo (hx : rd T x = .int .i64 a) (hy : rd T y = .int .i64 b) (h0 : 0 ≤ a) (h1 : 0 < b) (h2 : a ≤ 9223372036854775807) (kk : Ops P fl all rest ⟨n, up T d (.int .i64 (a / b)), H⟩ K) : Ops P fl all (⟨some d, .binOp .quo t x y u, ty, ps, af, none⟩ :: rest) ⟨n, T, H⟩ K :=
  .go rfl (fun _ => aev_ints rfl hx hy rfl fun w => run_quo w (by omega)) (by
    have e1 : a.tdiv b = a / b := Int.tdiv_eq_ediv_of_nonneg h0
    have e2 : 0 ≤ a / b := Int.ediv_nonneg h0 (by omega)
    have e3 : a / b ≤ a := Int.ediv_le_self b h0
    rw [e1, wrap_in (by omega) (by omega)]; exact kk)

theorem Ops.nilc {v : Value} (hx : rd T x = v) (hv : ∃ id off, v = .pointer (some ⟨id, off, none⟩)) (kk : Ops P fl all rest ⟨n, up T d v, H⟩ K) : Ops P fl all (⟨some d, .nilCheck x, ty, ps, af, none⟩ :: rest) ⟨n, T, H⟩ K := by
  obtain ⟨id, off, rfl⟩ := hv
  exact .go rfl (fun _ => aev_nilCheck rfl hx) kk

/-- Is the type one of whole numbers? -/
def intT (P : Program) (t : Nat) (k : IntKind) : Bool := match P.underlying t with | some (.int k') => k' == k | _ => false
theorem intT_at {t : Nat} {k : IntKind} (h : intT P t k = true) : P.underlying t = some (.int k) := by
  unfold intT at h
  split at h
  · rename_i k' hk; rw [hk]; simpa using h
  · cases h

/-- int(x), x a byte -/
theorem Ops.byteInt {t1 t2 : TypeId} (hx : rd T x = .int .u8 a) (h1 : intT P t1 .u8 = true) (h2 : intT P t2 .i64 = true) (h0 : 0 ≤ a) (h3 : a ≤ 255) (kk : Ops P fl all rest ⟨n, up T d (.int .i64 a), H⟩ K) : Ops P fl all (⟨some d, .convert t1 t2 x, ty, ps, af, none⟩ :: rest) ⟨n, T, H⟩ K :=
  .go rfl (fun H => by have := aev_convert (P := P) (o := ⟨some d, .convert t1 t2 x, ty, ps, af, none⟩) (ρ := rd T) (H := H) rfl (intT_at h1) (intT_at h2) hx; rw [wrap_in (by omega) (by omega)] at this; exact this) kk

/-- A struct literal. -/
def bldT (P : Program) (t : Nat) : Option (List (Nat × Nat) × List Value) :=
  match P.underlying t, P.info? t with
  | some (.struct fs), some it => match it.zero, fs.toList.mapM (fun f => (P.info? f.type).map fun i => (f.offset, i.size)) with
    | some z, some pl => if (cellsOf z).all Value.still then some (pl, cellsOf z) else none
    | _, _ => none
  | _, _ => none

theorem Ops.build {parts : Array (Nat × Operand)} {pl : List (Nat × Nat)} {zs cs : List Value} (ht : bldT P t = some (pl, zs)) (hk : ∀ p ∈ parts.toList, Value.known (rd T p.2) = true) (hb : bld pl zs (parts.toList.map fun p => (p.1, rd T p.2)) = some cs) (kk : Ops P fl all rest ⟨n, up T d (.agg cs.toArray), H⟩ K) :
    Ops P fl all (⟨some d, .build t parts, ty, ps, af, none⟩ :: rest) ⟨n, T, H⟩ K := by
  unfold bldT at ht
  split at ht
  · rename_i fs it h1 h2
    split at ht
    · rename_i z pl' h3 h4
      split at ht
      · rename_i h5
        cases ht
        exact .go rfl (fun _ => aev_build rfl h1 h2 h3 h4 h5 hk hb) kk
      · cases ht
    · cases ht
  · cases ht

end

theorem cellsIn_ints (H : Hp) (xz : List Int) : cellsIn cI H (xz.map (Value.int .i64)) xz := by
  refine ⟨by show (xz.map _).length = xz.length * 1; simp, fun i a hi => ?_⟩
  show cut (xz.map (Value.int .i64)) (i * 1) 1 = [Value.int .i64 a]
  have h1 : (xz.map (Value.int .i64))[i]? = some (Value.int .i64 a) := by rw [List.getElem?_map, hi]; rfl
  obtain ⟨h2, h3⟩ := List.getElem?_eq_some_iff.1 h1
  unfold cut
  rw [Nat.mul_one, List.drop_eq_getElem_cons h2, h3]
  rfl

/-- A list of whole numbers, written out. -/
theorem Ops.lits {P : Program} {fl : Bool} {all : Array Oper} {rest : List Oper} {n : Nat} {T : Nat → Value} {H : Hp} {K : St → Prop} {d : Nat} {ty : TypeId} {ps : String} {af : Array Edge} (xz : List Int) (e k : Nat) {t : TypeId} {len : Nat} {parts : Array (Nat × Operand)} (hp : parts.toList = ((xz.map fun a => Operand.const (.int .i64 a)).zipIdx 0).map fun x => (x.2, x.1)) (hlen : len = xz.length) (h0 : 0 < len) (h1 : len ≤ 4096) (ht : slA P t 1 = true) (he : P.elem t = e) (hk : k ≤ H.nxt)
    (kk : ∀ v' H', Ac cI e k H' v' xz → Calm H H' → (∀ u, Live H u → Ap u v') → Ops P fl all rest ⟨n, up T d v', H'⟩ K) :
    Ops P fl all (⟨some d, .buildSlice t len parts, ty, ps, af, none⟩ :: rest) ⟨n, T, H⟩ K := by
  subst he
  obtain ⟨i, z, g1, g2, g3, g4, g5, g6, g7⟩ := slA_at ht
  have hop := (anew_lit (P := P) (o := ⟨some d, .buildSlice t len parts, ty, ps, af, none⟩) (ρ := rd T) (xs := xz.map fun a => Operand.const (.int .i64 a)) rfl hp (by simpa using hlen) g1 g2 g5 (by omega) h0 (by rw [g3]; omega) (fun w hw => by
      obtain ⟨a, _, rfl⟩ := List.mem_map.1 hw
      exact ⟨by rw [g3]; rfl, rfl⟩))
  refine .make_ rfl hop ?_
  have e1 : ((xz.map fun a => Operand.const (.int .i64 a)).map (rd T)).flatMap cellsOf = xz.map (Value.int .i64) := by
    clear hp hlen hop kk
    induction xz with
    | nil => rfl
    | cons a t ih => simp only [List.map_cons, List.flatMap_cons]; rw [ih]; rfl
  rw [e1, g3, hlen]
  refine kk _ _ (Ac.fresh (c := cI) (cellsIn_ints H xz) (by simp only [maxLen]; omega) hk) (Calm.new _ _) fun u hu i hi h => ?_
  have := hu i hi
  injection h with h
  have h' : H.nxt = i := h
  omega

/-- Nothing that is old has been changed but rows of c's root. -/
structure Touch (c : Value) (H H' : Hp) : Prop where
  nxt : H.nxt ≤ H'.nxt
  own : ∀ id, id < H.nxt → H'.own id = H.own id ∧ H'.root id = H.root id
  get : ∀ id, id < H.nxt → (∀ f, idOf c = some f → H.root id ≠ H.root f) → H'.get id = H.get id

section
variable {c u v : Value} {H H' H'' H0 : Hp} {k e : Nat} {l : List Int}

theorem Touch.refl : Touch c H H := ⟨Nat.le_refl _, fun _ _ => ⟨rfl, rfl⟩, fun _ _ _ => rfl⟩
theorem Touch.of_calm (h : Calm H H') : Touch c H H' := ⟨h.1, fun id hi => (h.2 id hi).2, fun id hi _ => (h.2 id hi).1⟩
theorem Touch.trans (hl : Live H c) (h : Touch c H H') (h' : Touch c H' H'') : Touch c H H'' :=
  ⟨Nat.le_trans h.nxt h'.nxt, fun id hi => by
    have hi' := Nat.lt_of_lt_of_le hi h.nxt
    exact ⟨(h'.own id hi').1.trans (h.own id hi).1, (h'.own id hi').2.trans (h.own id hi).2⟩, fun id hi hr => by
    have hi' := Nat.lt_of_lt_of_le hi h.nxt
    refine (h'.get id hi' fun f hf => ?_).trans (h.get id hi hr)
    rw [(h.own id hi).2, (h.own f (hl f hf)).2]; exact hr f hf⟩
theorem Touch.of_mod {r : Nat} (h : Mod r H H') (hr : Rt H c r) : Touch c H H' := ⟨Nat.le_of_eq h.nxt.symm, h.own, fun id hi hn => h.get id hi (by
  obtain ⟨f, h1, h2, h3, h4⟩ := hr
  rw [← h4]; exact hn f h1)⟩
theorem Touch.calm (h : Touch c H H') (hc : Calm H0 H) (hr : ∀ f, idOf c = some f → H0.nxt ≤ H.root f) : Calm H0 H' := ⟨Nat.le_trans hc.1 h.nxt, fun id hi => by
  obtain ⟨e1, e2, e3⟩ := hc.2 id hi
  have hlt := Nat.lt_of_lt_of_le hi hc.1
  have := H.rt id hlt
  exact ⟨(h.get id hlt fun f hf => by have := hr f hf; omega).trans e1, (h.own id hlt).1.trans e2, (h.own id hlt).2.trans e3⟩⟩
theorem Touch.live (h : Touch c H H') (hl : Live H v) : Live H' v := fun i hi => Nat.lt_of_lt_of_le (hl i hi) h.nxt
theorem Touch.ac {kc : Nat} {cs : List Value} (h : Touch c H H') (hc : Po kc H c cs) (ha : Ac cI e k H v l) (hp : Ap v c) : Ac cI e k H' v l := by
  rcases ha with ha | ⟨id, ob, h1, h2, h3, h4, h5, h6, h7, h8, h9⟩
  · exact .inl ha
  · have hlt := Hp.lt h2
    obtain ⟨idc, obc, g1, g2, g3, g4, g5⟩ := hc
    have hget : H'.get id = some ob := (h.get id hlt fun f hf e => by
      rw [g1] at hf
      injection hf with hf
      have hf' : idc = f := hf
      subst hf'
      have := H.ou id idc hlt (Hp.lt g2) h3 g4 e
      subst this
      exact hp id (by rw [h1]; rfl) (by rw [g1]; rfl)).trans h2
    exact .inr ⟨id, ob, h1, hget, (h.own id hlt).1.trans h3, by rw [(h.own id hlt).2]; exact h4, h5, h6, h7, h8, h9⟩

end
end Go.Proofs.Ytefmjpbmdoebaaa

/- The abstract machine, part 23: parts of slices, whatever they are. -/
set_option linter.unusedVariables false
set_option linter.unusedSimpArgs false
namespace Go.Proofs.Ytefmjpbmdoebaaa
open Go Go.RowKit

/-- A part of an empty slice. -/
def emptyS (p : Option Addr) : Value := match p with | none => .slice none 0 0 | some _ => .slice (some void) 0 0

theorem Sl.emptyS {α : Type} {c : Cd α} {H : Hp} (p : Option Addr) : Sl c H (emptyS p) [] := by
  cases p with
  | none => exact .inl ⟨rfl, none, rfl, fun a h _ => by cases h⟩
  | some a => exact .inl ⟨rfl, some void, rfl, fun a h hs => by cases h; cases hs⟩

theorem VR.empty {β : Bm} {p : Option Addr} {u : Value} (h : VR β (.slice p 0 0) u) : (p = none ∧ u = .slice none 0 0) ∨ (∃ a a' c, p = some a ∧ c ≤ maxLen ∧ u = .slice (some a') 0 c) := by
  cases h with
  | nilslice => exact .inl ⟨rfl, rfl⟩
  | slice hb ho hl hm hk => exact .inr ⟨_, _, _, rfl, hm, rfl⟩
  | emp a c hm => exact .inr ⟨_, _, _, rfl, hm, rfl⟩

section
variable {P : Program} {o : Oper} {ρ : Operand → Value} {H : Hp} {x y : Operand} {t e : TypeId} {i : TypeInfo} {p : Option Addr} {k : IntKind}

theorem aev_slice_h0 (ho : o.op = .slice t x none (some y) none) (ht : P.underlying t = some (.slice e)) (hi : P.info? e = some i) (hx : ρ x = .slice p 0 0) (hy : ρ y = .int k 0) : aev P o ρ H (emptyS p) H :=
  aev_pure fun β a hxs => by
    have g1 := hxs x (by rw [ho]; simp [Op.operands])
    have g2 := hxs y (by rw [ho]; simp [Op.operands])
    rw [hx] at g1
    rw [hy] at g2
    have e2 := VR.still_eq rfl g2
    have hel : P.elem t = e := by simp [Program.elem, ht]
    have hu : P.underlying t = some (.slice (P.elem t)) := by rw [hel]; exact ht
    rcases g1.empty with ⟨rfl, hv⟩ | ⟨q, q', c, rfl, hc, hv⟩
    · refine ⟨.slice none 0 0, .nilslice, fun w => ?_⟩
      simp [execOp, ho, hv, e2, run_sliceAt_slice _ t _ _ _ _ hu, run_slice_h w t none 0 0 hu k 0 (by omega) (by omega), hel, sizeOf, typeInfo, hi, sliced]
    · refine ⟨sliced (some q') 0 0 c i.size, ?_, fun w => ?_⟩
      · unfold sliced
        split
        · exact .emp _ _ (by omega)
        · exact .emp _ _ (by omega)
      · simp [execOp, ho, hv, e2, run_sliceAt_slice _ t _ _ _ _ hu, run_slice_h w t (some q') 0 c hu k 0 (by omega) (by omega), hel, sizeOf, typeInfo, hi]

theorem aev_slice_l0 (ho : o.op = .slice t x (some y) none none) (ht : P.underlying t = some (.slice e)) (hi : P.info? e = some i) (hx : ρ x = .slice p 0 0) (hy : ρ y = .int k 0) : aev P o ρ H (emptyS p) H :=
  aev_pure fun β a hxs => by
    have g1 := hxs x (by rw [ho]; simp [Op.operands])
    have g2 := hxs y (by rw [ho]; simp [Op.operands])
    rw [hx] at g1
    rw [hy] at g2
    have e2 := VR.still_eq rfl g2
    have hel : P.elem t = e := by simp [Program.elem, ht]
    have hu : P.underlying t = some (.slice (P.elem t)) := by rw [hel]; exact ht
    rcases g1.empty with ⟨rfl, hv⟩ | ⟨q, q', c, rfl, hc, hv⟩
    · refine ⟨.slice none 0 0, .nilslice, fun w => ?_⟩
      simp [execOp, ho, hv, e2, run_sliceAt_slice _ t _ _ _ _ hu, run_slice_l w t none 0 0 hu k 0 (by omega) (by omega), hel, sizeOf, typeInfo, hi, sliced]
    · refine ⟨sliced (some q') 0 0 c i.size, ?_, fun w => ?_⟩
      · unfold sliced
        split
        · exact .emp _ _ (by omega)
        · exact .emp _ _ (by omega)
      · simp [execOp, ho, hv, e2, run_sliceAt_slice _ t _ _ _ _ hu, run_slice_l w t (some q') 0 c hu k 0 (by omega) (by omega), hel, sizeOf, typeInfo, hi]

end

section
variable {P : Program} {fl : Bool} {all : Array Oper} {rest : List Oper} {n : Nat} {T : Nat → Value} {H H' : Hp} {K : St → Prop} {d : Nat} {ty : TypeId} {ps : String} {af : Array Edge} {x y : Operand} {α : Type} {c : Cd α} {l : List α}

/-- x[:h] -/
theorem Ops.sliceHS {t : TypeId} {ki : IntKind} {h : Int} (hx : Sl c H (rd T x) l) (hy : rd T y = .int ki h) (h0 : 0 ≤ h) (hh : h.toNat ≤ l.length) (ht : slA P t c.sz = true)
    (kk : ∀ v', Sl c H v' (l.take h.toNat) → Ops P false all rest ⟨n, up T d v', H⟩ K) : Ops P false all (⟨some d, .slice t x none (some y) none, ty, ps, af, none⟩ :: rest) ⟨n, T, H⟩ K := by
  by_cases hl : l = []
  · subst hl
    obtain ⟨p, hp⟩ := hx.val
    obtain ⟨i, z, h1, h2, _⟩ := slA_at ht
    have : h = 0 := by simp at hh; omega
    subst this
    exact .plain (aev_slice_h0 rfl h1 h2 hp hy) (kk _ (by simpa using Sl.emptyS p))
  · exact Ops.sliceH hx hl hy h0 hh ht fun v' h1 _ => kk v' h1

/-- x[l:] -/
theorem Ops.sliceLS {t : TypeId} {ki : IntKind} {h : Int} (hx : Sl c H (rd T x) l) (hy : rd T y = .int ki h) (h0 : 0 ≤ h) (hh : h.toNat ≤ l.length) (ht : slA P t c.sz = true)
    (kk : ∀ v', Sl c H v' (l.drop h.toNat) → Ops P false all rest ⟨n, up T d v', H⟩ K) : Ops P false all (⟨some d, .slice t x (some y) none none, ty, ps, af, none⟩ :: rest) ⟨n, T, H⟩ K := by
  obtain ⟨i, z, h1, h2, h3, _⟩ := slA_at ht
  by_cases hl : l = []
  · subst hl
    obtain ⟨p, hp⟩ := hx.val
    have : h = 0 := by simp at hh; omega
    subst this
    exact .plain (aev_slice_l0 rfl h1 h2 hp hy) (kk _ (by simpa using Sl.emptyS p))
  · rcases hx with ⟨e, _⟩ | ⟨id, off, ob, e1, e2, e3, e4, e5⟩
    · exact absurd e hl
    · refine .plain (aev_slice_l rfl h1 h2 e1 hy e2 (by rw [h3]; exact e3) h0 (by omega)) (kk _ ?_)
      have hlen : (l.drop h.toNat).length = l.length - h.toNat := List.length_drop
      by_cases hz : l.length - h.toNat = 0
      · have e6 : l.drop h.toNat = [] := List.length_eq_zero_iff.1 (by rw [hlen, hz])
        rw [e6, hz]
        exact .inl ⟨rfl, _, rfl, fun a ha hs => by cases ha; exact Hp.lt e2⟩
      · refine .inr ⟨id, off + h.toNat * i.size, ob, by rw [hlen], e2, e3, by rw [hlen]; omega, fun q a hq => ?_⟩
        rw [List.getElem?_drop] at hq
        have := e5 _ a hq
        rw [h3, Nat.add_assoc, ← Nat.add_mul]; exact this

end
end Go.Proofs.Ytefmjpbmdoebaaa
