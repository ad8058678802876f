/- The law FnPatterns: whatever the bytes are, the law returns true; no condition. This text: the law's own body. -/
import Derived.Test.YtefmjpbmdoebaaaDb
set_option linter.unusedVariables false
namespace Go.Proofs.Ytefmjpbmdoebaaa
open Go Go.RowKit

theorem findI_get {α : Type} {p : α → Bool} : ∀ {l : List α}, 0 ≤ findI p l → ∃ a, l[(findI p l).toNat]? = some a ∧ p a = true
  | [], h => by simp [findI] at h
  | x :: t, h => by
    simp only [findI] at h ⊢
    by_cases hx : p x = true
    · rw [if_pos hx]; exact ⟨x, rfl, hx⟩
    · rw [if_neg hx] at h ⊢
      by_cases h2 : findI p t < 0
      · rw [if_pos h2] at h; omega
      · rw [if_neg h2]
        obtain ⟨a, h3, h4⟩ := findI_get (l := t) (p := p) (by omega)
        refine ⟨a, ?_, h4⟩
        have : (findI p t + 1).toNat = (findI p t).toNat + 1 := by omega
        rw [this]; simpa using h3

theorem patSt_inv {cs : List Int} (hcs : cs.Nodup) : ∀ (k : Nat) (tup : List Int), tup.length = k → ∃ ext, (patSt cs tup).1 = cs ++ ext ∧ (patSt cs tup).1.Nodup ∧ (patSt cs tup).2.length = tup.length ∧ ∀ (j : Nat) (a : Int), tup[j]? = some a → ∃ n : Nat, (patSt cs tup).2[j]? = some (n : Int) ∧ (patSt cs tup).1[n]? = some a := by
  intro k
  induction k with
  | zero => intro tup ht; rw [List.length_eq_zero_iff.1 ht]; exact ⟨[], by simp [patSt], by simpa [patSt] using hcs, by simp [patSt], fun j a h => by simp at h⟩
  | succ k ih =>
    intro tup ht
    rcases List.eq_nil_or_concat tup with rfl | ⟨t, x, rfl⟩
    · simp at ht
    · rw [List.concat_eq_append] at ht ⊢
      obtain ⟨ext, i1, i2, i3, i4⟩ := ih t (by simpa using ht)
      rw [patSt_snoc]
      unfold patStep
      rw [lastIdx_findI i2]
      have hn := findI_nonneg (p := fun y => x == y) (l := (patSt cs t).1)
      by_cases hf : findI (fun y => x == y) (patSt cs t).1 < 0
      · rw [if_pos hf]
        have hx : x ∉ (patSt cs t).1 := fun hm => by have := hn.2 ⟨x, hm, by simp⟩; omega
        refine ⟨ext ++ [x], by rw [i1]; simp, ?_, by simp [i3], fun j a hj => ?_⟩
        · rw [List.nodup_append]
          exact ⟨i2, by simp, fun y hy z hz e => by obtain rfl := List.mem_singleton.1 hz; subst e; exact hx hy⟩
        · dsimp only
          rcases Nat.lt_or_ge j t.length with h5 | h5
          · rw [List.getElem?_append_left h5] at hj
            obtain ⟨n, g1, g2⟩ := i4 j a hj
            exact ⟨n, by rw [List.getElem?_append_left (by omega)]; exact g1, by rw [List.getElem?_append_left (List.getElem?_eq_some_iff.1 g2).1]; exact g2⟩
          · have : j = t.length := by have := (List.getElem?_eq_some_iff.1 hj).1; simp at this; omega
            subst this
            simp at hj
            subst hj
            exact ⟨(patSt cs t).1.length, by rw [List.getElem?_append_right (by omega), i3]; simp, by simp⟩
      · rw [if_neg hf]
        obtain ⟨y, g1, g2⟩ := findI_get (p := fun y => x == y) (l := (patSt cs t).1) (by omega)
        have hxy : x = y := by simpa using g2
        subst hxy
        refine ⟨ext, i1, i2, by simp [i3], fun j a hj => ?_⟩
        dsimp only
        rcases Nat.lt_or_ge j t.length with h5 | h5
        · rw [List.getElem?_append_left h5] at hj
          obtain ⟨n, g3, g4⟩ := i4 j a hj
          exact ⟨n, by rw [List.getElem?_append_left (by omega)]; exact g3, g4⟩
        · have : j = t.length := by have := (List.getElem?_eq_some_iff.1 hj).1; simp at this; omega
          subst this
          simp at hj
          subst hj
          exact ⟨_, by rw [List.getElem?_append_right (by omega), i3, Int.toNat_of_nonneg (by omega)]; simp, g1⟩

theorem nodup_at {α : Type} {l : List α} (h : l.Nodup) {i j : Nat} {a : α} (hi : l[i]? = some a) (hj : l[j]? = some a) : i = j := by
  obtain ⟨h1, h2⟩ := List.getElem?_eq_some_iff.1 hi
  obtain ⟨h3, h4⟩ := List.getElem?_eq_some_iff.1 hj
  exact (List.getElem_inj h).1 (h2.trans h4.symm)

/-- What a pattern says. -/
theorem pat_says {cs tup : List Int} (hcs : cs.Nodup) : (patSt cs tup).2.length = tup.length ∧
    (∀ (i k : Nat) (a b p q : Int), tup[i]? = some a → tup[k]? = some b → (patSt cs tup).2[i]? = some p → (patSt cs tup).2[k]? = some q → (a = b ↔ p = q)) ∧
    (∀ (i : Nat) (a p : Int), tup[i]? = some a → (patSt cs tup).2[i]? = some p → 0 ≤ p ∧ (a ∈ cs ↔ p < cs.length) ∧ (p < cs.length → cs[p.toNat]? = some a)) := by
  obtain ⟨ext, i1, i2, i3, i4⟩ := patSt_inv hcs _ tup rfl
  refine ⟨i3, fun i k a b p q ha hb hp hq => ?_, fun i a p ha hp => ?_⟩
  · obtain ⟨n, g1, g2⟩ := i4 i a ha
    obtain ⟨m, g3, g4⟩ := i4 k b hb
    rw [hp] at g1; rw [hq] at g3
    cases g1; cases g3
    constructor
    · rintro rfl
      rw [nodup_at i2 g2 g4]
    · intro e
      have : n = m := by omega
      subst this
      rw [g2] at g4; cases g4; rfl
  · obtain ⟨n, g1, g2⟩ := i4 i a ha
    rw [hp] at g1; cases g1
    have hlow : (n : Int) < cs.length → cs[n]? = some a := fun h => by
      rw [i1, List.getElem?_append_left (by omega)] at g2; exact g2
    refine ⟨by omega, ⟨fun hm => ?_, fun h => List.mem_of_getElem? (hlow h)⟩, fun h => hlow h⟩
    obtain ⟨q, hq, he⟩ := List.mem_iff_getElem.1 hm
    have h5 : (patSt cs tup).1[q]? = some a := by rw [i1, List.getElem?_append_left hq, List.getElem?_eq_getElem hq, he]
    have := nodup_at i2 g2 h5
    omega

theorem lawPatterns_ok {H : Hp} {v : Value} {bs : List Int} (h : Sl cB H v bs) (hb : ∀ b ∈ bs, 0 ≤ b ∧ b ≤ 255) : CallK Try.prog 6 [v] H (fun r _ => r = .bool true) := by
  refine (CallK.enter Try.func6 rfl rfl Try.ntmps6 Try.results6 rfl ?_)
  repeat' (first | refine Run.seq ?_ | refine Run.region (by kernel_rfl) ?_ | refine Ops.nil ?_ | refine Ops.move (by conv => lhs; whnf) ?_ | refine Ops.assign (by conv => lhs; whnf) ?_ | refine Run.cond_t rfl rfl ?_ | refine Run.cond_f rfl rfl ?_ | refine Run.skip ?_ | refine Run.exit ?_ | refine Run.block ?_ | refine Ops.len (by assumption) (by kernel_rfl) ?_ | refine Ops.len (Ac.sl (by assumption)) (by kernel_rfl) ?_ | refine Ops.add rfl rfl (by omega) (by omega) ?_ | refine Ops.sub rfl rfl (by omega) (by omega) ?_ | refine Ops.not_t rfl ?_ | refine Ops.not_f rfl ?_ | refine Ops.pick_t rfl (by conv => lhs; whnf) ?_ | refine Ops.pick_f rfl (by conv => lhs; whnf) ?_ | refine Ops.extract rfl rfl ?_ | refine Ops.un rfl rfl ?_ | refine Ops.no rfl rfl rfl ?_ | refine Ops.no_u rfl rfl ?_)
  refine Ops.callB (big_ok h) (fun hc => ?_) (fun hc => ?_)
  · repeat' (first | refine Run.seq ?_ | refine Run.region (by kernel_rfl) ?_ | refine Ops.nil ?_ | refine Ops.move (by conv => lhs; whnf) ?_ | refine Ops.assign (by conv => lhs; whnf) ?_ | refine Run.cond_t rfl rfl ?_ | refine Run.cond_f rfl rfl ?_ | refine Run.skip ?_ | refine Run.exit ?_ | refine Run.block ?_ | refine Ops.len (by assumption) (by kernel_rfl) ?_ | refine Ops.len (Ac.sl (by assumption)) (by kernel_rfl) ?_ | refine Ops.add rfl rfl (by omega) (by omega) ?_ | refine Ops.sub rfl rfl (by omega) (by omega) ?_ | refine Ops.not_t rfl ?_ | refine Ops.not_f rfl ?_ | refine Ops.pick_t rfl (by conv => lhs; whnf) ?_ | refine Ops.pick_f rfl (by conv => lhs; whnf) ?_ | refine Ops.extract rfl rfl ?_ | refine Ops.un rfl rfl ?_ | refine Ops.no rfl rfl rfl ?_ | refine Ops.no_u rfl rfl ?_)
    refine Run.ret ⟨.inl rfl, ResK.tmp rfl (by conv => lhs; whnf) (ResK.nil ?_)⟩
    rfl
  · have hl : bs.length ≤ 4096 := by simpa using hc
    repeat' (first | refine Run.seq ?_ | refine Run.region (by kernel_rfl) ?_ | refine Ops.nil ?_ | refine Ops.move (by conv => lhs; whnf) ?_ | refine Ops.assign (by conv => lhs; whnf) ?_ | refine Run.cond_t rfl rfl ?_ | refine Run.cond_f rfl rfl ?_ | refine Run.skip ?_ | refine Run.exit ?_ | refine Run.block ?_ | refine Ops.len (by assumption) (by kernel_rfl) ?_ | refine Ops.len (Ac.sl (by assumption)) (by kernel_rfl) ?_ | refine Ops.add rfl rfl (by omega) (by omega) ?_ | refine Ops.sub rfl rfl (by omega) (by omega) ?_ | refine Ops.not_t rfl ?_ | refine Ops.not_f rfl ?_ | refine Ops.pick_t rfl (by conv => lhs; whnf) ?_ | refine Ops.pick_f rfl (by conv => lhs; whnf) ?_ | refine Ops.extract rfl rfl ?_ | refine Ops.un rfl rfl ?_ | refine Ops.no rfl rfl rfl ?_ | refine Ops.no_u rfl rfl ?_)
    refine Ops.call (DrawPatternOf_ok h hb (by omega)) (fun _ _ h _ => h.1.ge') fun r1 H1 => ?_
    rintro ⟨c1, u, w, l, m, rfl, s1, t1, hl1, hm1⟩
    repeat' (first | refine Run.seq ?_ | refine Run.region (by kernel_rfl) ?_ | refine Ops.nil ?_ | refine Ops.move (by conv => lhs; whnf) ?_ | refine Ops.assign (by conv => lhs; whnf) ?_ | refine Run.cond_t rfl rfl ?_ | refine Run.cond_f rfl rfl ?_ | refine Run.skip ?_ | refine Run.exit ?_ | refine Run.block ?_ | refine Ops.len (by assumption) (by kernel_rfl) ?_ | refine Ops.len (Ac.sl (by assumption)) (by kernel_rfl) ?_ | refine Ops.add rfl rfl (by omega) (by omega) ?_ | refine Ops.sub rfl rfl (by omega) (by omega) ?_ | refine Ops.not_t rfl ?_ | refine Ops.not_f rfl ?_ | refine Ops.pick_t rfl (by conv => lhs; whnf) ?_ | refine Ops.pick_f rfl (by conv => lhs; whnf) ?_ | refine Ops.extract rfl rfl ?_ | refine Ops.un rfl rfl ?_ | refine Ops.no rfl rfl rfl ?_ | refine Ops.no_u rfl rfl ?_)
    refine Ops.call (PatternOf_ok s1 t1) (fun _ _ h _ => h.1.ge') fun r2 H2 => ?_
    rintro ⟨c2, p, rfl, a2⟩
    have s2 := s1.calm c2
    have t2 := t1.calm c2
    cases hd : dec (isConst l ∧ isTup m)
    · have he : patOf l m = [] := by unfold patOf; rw [hd]; rfl
      rw [he] at a2
      have pl := a2.sl
      repeat' (first | refine Run.seq ?_ | refine Run.region (by kernel_rfl) ?_ | refine Ops.nil ?_ | refine Ops.move (by conv => lhs; whnf) ?_ | refine Ops.assign (by conv => lhs; whnf) ?_ | refine Run.cond_t rfl rfl ?_ | refine Run.cond_f rfl rfl ?_ | refine Run.skip ?_ | refine Run.exit ?_ | refine Run.block ?_ | refine Ops.len (by assumption) (by kernel_rfl) ?_ | refine Ops.len (Ac.sl (by assumption)) (by kernel_rfl) ?_ | refine Ops.add rfl rfl (by omega) (by omega) ?_ | refine Ops.sub rfl rfl (by omega) (by omega) ?_ | refine Ops.not_t rfl ?_ | refine Ops.not_f rfl ?_ | refine Ops.pick_t rfl (by conv => lhs; whnf) ?_ | refine Ops.pick_f rfl (by conv => lhs; whnf) ?_ | refine Ops.extract rfl rfl ?_ | refine Ops.un rfl rfl ?_ | refine Ops.no rfl rfl rfl ?_ | refine Ops.no_u rfl rfl ?_)
      refine Ops.call (specPatternOf_ok s2 t2) (fun _ _ h _ => h.1.ge') fun r3 H3 => ?_
      rintro ⟨c3, p3, rfl, a3⟩
      rw [hd]
      have pl := pl.calm c3
      repeat' (first | refine Run.seq ?_ | refine Run.region (by kernel_rfl) ?_ | refine Ops.nil ?_ | refine Ops.move (by conv => lhs; whnf) ?_ | refine Ops.assign (by conv => lhs; whnf) ?_ | refine Run.cond_t rfl rfl ?_ | refine Run.cond_f rfl rfl ?_ | refine Run.skip ?_ | refine Run.exit ?_ | refine Run.block ?_ | refine Ops.len (by assumption) (by kernel_rfl) ?_ | refine Ops.len (Ac.sl (by assumption)) (by kernel_rfl) ?_ | refine Ops.add rfl rfl (by omega) (by omega) ?_ | refine Ops.sub rfl rfl (by omega) (by omega) ?_ | refine Ops.not_t rfl ?_ | refine Ops.not_f rfl ?_ | refine Ops.pick_t rfl (by conv => lhs; whnf) ?_ | refine Ops.pick_f rfl (by conv => lhs; whnf) ?_ | refine Ops.extract rfl rfl ?_ | refine Ops.un rfl rfl ?_ | refine Ops.no rfl rfl rfl ?_ | refine Ops.no_u rfl rfl ?_)
      refine Ops.cmp rfl rfl rfl (fun hc2 => ?_) (fun hc2 => ?_)
      · repeat' (first | refine Run.seq ?_ | refine Run.region (by kernel_rfl) ?_ | refine Ops.nil ?_ | refine Ops.move (by conv => lhs; whnf) ?_ | refine Ops.assign (by conv => lhs; whnf) ?_ | refine Run.cond_t rfl rfl ?_ | refine Run.cond_f rfl rfl ?_ | refine Run.skip ?_ | refine Run.exit ?_ | refine Run.block ?_ | refine Ops.len (by assumption) (by kernel_rfl) ?_ | refine Ops.len (Ac.sl (by assumption)) (by kernel_rfl) ?_ | refine Ops.add rfl rfl (by omega) (by omega) ?_ | refine Ops.sub rfl rfl (by omega) (by omega) ?_ | refine Ops.not_t rfl ?_ | refine Ops.not_f rfl ?_ | refine Ops.pick_t rfl (by conv => lhs; whnf) ?_ | refine Ops.pick_f rfl (by conv => lhs; whnf) ?_ | refine Ops.extract rfl rfl ?_ | refine Ops.un rfl rfl ?_ | refine Ops.no rfl rfl rfl ?_ | refine Ops.no_u rfl rfl ?_)
        refine Run.ret ⟨.inl rfl, ResK.tmp rfl (by conv => lhs; whnf) (ResK.nil ?_)⟩
        rfl
      · simp at hc2
    · have he : patOf l m = (patSt l m).2 := by unfold patOf; rw [hd]; rfl
      have hcc := of_dec_t hd
      rw [he] at a2
      obtain ⟨q1, q2, q3⟩ := pat_says (tup := m) (const_nodup hcc.1)
      have pl := a2.sl
      generalize hP : (patSt l m).2 = P at *
      repeat' (first | refine Run.seq ?_ | refine Run.region (by kernel_rfl) ?_ | refine Ops.nil ?_ | refine Ops.move (by conv => lhs; whnf) ?_ | refine Ops.assign (by conv => lhs; whnf) ?_ | refine Run.cond_t rfl rfl ?_ | refine Run.cond_f rfl rfl ?_ | refine Run.skip ?_ | refine Run.exit ?_ | refine Run.block ?_ | refine Ops.len (by assumption) (by kernel_rfl) ?_ | refine Ops.len (Ac.sl (by assumption)) (by kernel_rfl) ?_ | refine Ops.add rfl rfl (by omega) (by omega) ?_ | refine Ops.sub rfl rfl (by omega) (by omega) ?_ | refine Ops.not_t rfl ?_ | refine Ops.not_f rfl ?_ | refine Ops.pick_t rfl (by conv => lhs; whnf) ?_ | refine Ops.pick_f rfl (by conv => lhs; whnf) ?_ | refine Ops.extract rfl rfl ?_ | refine Ops.un rfl rfl ?_ | refine Ops.no rfl rfl rfl ?_ | refine Ops.no_u rfl rfl ?_)
      refine Run.loopW (fun (i : Nat) => m.length - i) (fun i => up (up (up (up jk 3 u) 4 w) 5 p) 9 (.int .i64 (i : Int))) (fun _ => H2) (fun i => i ≤ m.length) 0 rfl (by repeat (first | exact Wk.jk | refine Wk.up rfl ?_)) (by omega) ?_
      intro i hi
      repeat' (first | refine Run.seq ?_ | refine Run.region (by kernel_rfl) ?_ | refine Ops.nil ?_ | refine Ops.move (by conv => lhs; whnf) ?_ | refine Ops.assign (by conv => lhs; whnf) ?_ | refine Run.cond_t rfl rfl ?_ | refine Run.cond_f rfl rfl ?_ | refine Run.skip ?_ | refine Run.exit ?_ | refine Run.block ?_ | refine Ops.len (by assumption) (by kernel_rfl) ?_ | refine Ops.len (Ac.sl (by assumption)) (by kernel_rfl) ?_ | refine Ops.add rfl rfl (by omega) (by omega) ?_ | refine Ops.sub rfl rfl (by omega) (by omega) ?_ | refine Ops.not_t rfl ?_ | refine Ops.not_f rfl ?_ | refine Ops.pick_t rfl (by conv => lhs; whnf) ?_ | refine Ops.pick_f rfl (by conv => lhs; whnf) ?_ | refine Ops.extract rfl rfl ?_ | refine Ops.un rfl rfl ?_ | refine Ops.no rfl rfl rfl ?_ | refine Ops.no_u rfl rfl ?_)
      refine Ops.cmp rfl rfl rfl (fun hc => ?_) (fun hc => ?_)
      · repeat' (first | refine Run.seq ?_ | refine Run.region (by kernel_rfl) ?_ | refine Ops.nil ?_ | refine Ops.move (by conv => lhs; whnf) ?_ | refine Ops.assign (by conv => lhs; whnf) ?_ | refine Run.cond_t rfl rfl ?_ | refine Run.cond_f rfl rfl ?_ | refine Run.skip ?_ | refine Run.exit ?_ | refine Run.block ?_ | refine Ops.len (by assumption) (by kernel_rfl) ?_ | refine Ops.len (Ac.sl (by assumption)) (by kernel_rfl) ?_ | refine Ops.add rfl rfl (by omega) (by omega) ?_ | refine Ops.sub rfl rfl (by omega) (by omega) ?_ | refine Ops.not_t rfl ?_ | refine Ops.not_f rfl ?_ | refine Ops.pick_t rfl (by conv => lhs; whnf) ?_ | refine Ops.pick_f rfl (by conv => lhs; whnf) ?_ | refine Ops.extract rfl rfl ?_ | refine Ops.un rfl rfl ?_ | refine Ops.no rfl rfl rfl ?_ | refine Ops.no_u rfl rfl ?_)
        refine Run.loopW (fun (k : Nat) => m.length - k) (fun k => up (up (up (up (up jk 3 u) 4 w) 5 p) 9 (.int .i64 (i : Int))) 10 (.int .i64 (k : Int))) (fun _ => H2) (fun k => k ≤ m.length) 0 rfl (by repeat (first | exact Wk.jk | refine Wk.up rfl ?_)) (by omega) ?_
        intro k hk
        repeat' (first | refine Run.seq ?_ | refine Run.region (by kernel_rfl) ?_ | refine Ops.nil ?_ | refine Ops.move (by conv => lhs; whnf) ?_ | refine Ops.assign (by conv => lhs; whnf) ?_ | refine Run.cond_t rfl rfl ?_ | refine Run.cond_f rfl rfl ?_ | refine Run.skip ?_ | refine Run.exit ?_ | refine Run.block ?_ | refine Ops.len (by assumption) (by kernel_rfl) ?_ | refine Ops.len (Ac.sl (by assumption)) (by kernel_rfl) ?_ | refine Ops.add rfl rfl (by omega) (by omega) ?_ | refine Ops.sub rfl rfl (by omega) (by omega) ?_ | refine Ops.not_t rfl ?_ | refine Ops.not_f rfl ?_ | refine Ops.pick_t rfl (by conv => lhs; whnf) ?_ | refine Ops.pick_f rfl (by conv => lhs; whnf) ?_ | refine Ops.extract rfl rfl ?_ | refine Ops.un rfl rfl ?_ | refine Ops.no rfl rfl rfl ?_ | refine Ops.no_u rfl rfl ?_)
        refine Ops.cmp rfl rfl rfl (fun hc2 => ?_) (fun hc2 => ?_)
        · repeat' (first | refine Run.seq ?_ | refine Run.region (by kernel_rfl) ?_ | refine Ops.nil ?_ | refine Ops.move (by conv => lhs; whnf) ?_ | refine Ops.assign (by conv => lhs; whnf) ?_ | refine Run.cond_t rfl rfl ?_ | refine Run.cond_f rfl rfl ?_ | refine Run.skip ?_ | refine Run.exit ?_ | refine Run.block ?_ | refine Ops.len (by assumption) (by kernel_rfl) ?_ | refine Ops.len (Ac.sl (by assumption)) (by kernel_rfl) ?_ | refine Ops.add rfl rfl (by omega) (by omega) ?_ | refine Ops.sub rfl rfl (by omega) (by omega) ?_ | refine Ops.not_t rfl ?_ | refine Ops.not_f rfl ?_ | refine Ops.pick_t rfl (by conv => lhs; whnf) ?_ | refine Ops.pick_f rfl (by conv => lhs; whnf) ?_ | refine Ops.extract rfl rfl ?_ | refine Ops.un rfl rfl ?_ | refine Ops.no rfl rfl rfl ?_ | refine Ops.no_u rfl rfl ?_)
          refine Run.draw [0, 1, 2, 3, 4, 5, 6, 7, 8, 9, 10, 11, 12, 13, 14, 15, 16, 17, 18] Try.checked.mixed (by kernel_rfl) ?_
          repeat' (first | refine Run.seq ?_ | refine Run.region (by kernel_rfl) ?_ | refine Ops.nil ?_ | refine Ops.move (by conv => lhs; whnf) ?_ | refine Ops.assign (by conv => lhs; whnf) ?_ | refine Run.cond_t rfl rfl ?_ | refine Run.cond_f rfl rfl ?_ | refine Run.skip ?_ | refine Run.exit ?_ | refine Run.block ?_ | refine Ops.len (by assumption) (by kernel_rfl) ?_ | refine Ops.len (Ac.sl (by assumption)) (by kernel_rfl) ?_ | refine Ops.add rfl rfl (by omega) (by omega) ?_ | refine Ops.sub rfl rfl (by omega) (by omega) ?_ | refine Ops.not_t rfl ?_ | refine Ops.not_f rfl ?_ | refine Ops.pick_t rfl (by conv => lhs; whnf) ?_ | refine Ops.pick_f rfl (by conv => lhs; whnf) ?_ | refine Ops.extract rfl rfl ?_ | refine Ops.un rfl rfl ?_ | refine Ops.no rfl rfl rfl ?_ | refine Ops.no_u rfl rfl ?_)
          refine Ops.idxI t2 rfl (by omega) (by omega) (by kernel_rfl) (by kernel_rfl) fun pz a ha => ?_
          repeat' (first | refine Run.seq ?_ | refine Run.region (by kernel_rfl) ?_ | refine Ops.nil ?_ | refine Ops.move (by conv => lhs; whnf) ?_ | refine Ops.assign (by conv => lhs; whnf) ?_ | refine Run.cond_t rfl rfl ?_ | refine Run.cond_f rfl rfl ?_ | refine Run.skip ?_ | refine Run.exit ?_ | refine Run.block ?_ | refine Ops.len (by assumption) (by kernel_rfl) ?_ | refine Ops.len (Ac.sl (by assumption)) (by kernel_rfl) ?_ | refine Ops.add rfl rfl (by omega) (by omega) ?_ | refine Ops.sub rfl rfl (by omega) (by omega) ?_ | refine Ops.not_t rfl ?_ | refine Ops.not_f rfl ?_ | refine Ops.pick_t rfl (by conv => lhs; whnf) ?_ | refine Ops.pick_f rfl (by conv => lhs; whnf) ?_ | refine Ops.extract rfl rfl ?_ | refine Ops.un rfl rfl ?_ | refine Ops.no rfl rfl rfl ?_ | refine Ops.no_u rfl rfl ?_)
          refine Ops.idxI t2 rfl (by omega) (by omega) (by kernel_rfl) (by kernel_rfl) fun pz b hb2 => ?_
          have ha' : m[i]? = some a := ha
          have hb' : m[k]? = some b := hb2
          have rest : ∀ x y : Int, P[i]? = some x → P[k]? = some y → (a = b ↔ x = y) := fun x y hx hy => q2 i k a b x y ha' hb' hx hy
          refine Ops.cmp rfl rfl rfl (fun h1 => ?_) (fun h1 => ?_)
          · repeat' (first | refine Run.seq ?_ | refine Run.region (by kernel_rfl) ?_ | refine Ops.nil ?_ | refine Ops.move (by conv => lhs; whnf) ?_ | refine Ops.assign (by conv => lhs; whnf) ?_ | refine Run.cond_t rfl rfl ?_ | refine Run.cond_f rfl rfl ?_ | refine Run.skip ?_ | refine Run.exit ?_ | refine Run.block ?_ | refine Ops.len (by assumption) (by kernel_rfl) ?_ | refine Ops.len (Ac.sl (by assumption)) (by kernel_rfl) ?_ | refine Ops.add rfl rfl (by omega) (by omega) ?_ | refine Ops.sub rfl rfl (by omega) (by omega) ?_ | refine Ops.not_t rfl ?_ | refine Ops.not_f rfl ?_ | refine Ops.pick_t rfl (by conv => lhs; whnf) ?_ | refine Ops.pick_f rfl (by conv => lhs; whnf) ?_ | refine Ops.extract rfl rfl ?_ | refine Ops.un rfl rfl ?_ | refine Ops.no rfl rfl rfl ?_ | refine Ops.no_u rfl rfl ?_)
            refine Ops.idxI pl rfl (by omega) (by omega) (by kernel_rfl) (by kernel_rfl) fun pz x hx => ?_
            repeat' (first | refine Run.seq ?_ | refine Run.region (by kernel_rfl) ?_ | refine Ops.nil ?_ | refine Ops.move (by conv => lhs; whnf) ?_ | refine Ops.assign (by conv => lhs; whnf) ?_ | refine Run.cond_t rfl rfl ?_ | refine Run.cond_f rfl rfl ?_ | refine Run.skip ?_ | refine Run.exit ?_ | refine Run.block ?_ | refine Ops.len (by assumption) (by kernel_rfl) ?_ | refine Ops.len (Ac.sl (by assumption)) (by kernel_rfl) ?_ | refine Ops.add rfl rfl (by omega) (by omega) ?_ | refine Ops.sub rfl rfl (by omega) (by omega) ?_ | refine Ops.not_t rfl ?_ | refine Ops.not_f rfl ?_ | refine Ops.pick_t rfl (by conv => lhs; whnf) ?_ | refine Ops.pick_f rfl (by conv => lhs; whnf) ?_ | refine Ops.extract rfl rfl ?_ | refine Ops.un rfl rfl ?_ | refine Ops.no rfl rfl rfl ?_ | refine Ops.no_u rfl rfl ?_)
            refine Ops.idxI pl rfl (by omega) (by omega) (by kernel_rfl) (by kernel_rfl) fun pz y hy => ?_
            have e := rest x y hx hy
            refine Ops.cmp rfl rfl rfl (fun h2 => ?_) (fun h2 => ?_)
            · refine Ops.bne_same rfl rfl (by kernel_rfl) ?_
              repeat' (first | refine Run.seq ?_ | refine Run.region (by kernel_rfl) ?_ | refine Ops.nil ?_ | refine Ops.move (by conv => lhs; whnf) ?_ | refine Ops.assign (by conv => lhs; whnf) ?_ | refine Run.cond_t rfl rfl ?_ | refine Run.cond_f rfl rfl ?_ | refine Run.skip ?_ | refine Run.exit ?_ | refine Run.block ?_ | refine Ops.len (by assumption) (by kernel_rfl) ?_ | refine Ops.len (Ac.sl (by assumption)) (by kernel_rfl) ?_ | refine Ops.add rfl rfl (by omega) (by omega) ?_ | refine Ops.sub rfl rfl (by omega) (by omega) ?_ | refine Ops.not_t rfl ?_ | refine Ops.not_f rfl ?_ | refine Ops.pick_t rfl (by conv => lhs; whnf) ?_ | refine Ops.pick_f rfl (by conv => lhs; whnf) ?_ | refine Ops.extract rfl rfl ?_ | refine Ops.un rfl rfl ?_ | refine Ops.no rfl rfl rfl ?_ | refine Ops.no_u rfl rfl ?_)
              refine ⟨k + 1, by dsimp only; omega, rfl, rfl, by dsimp only; exact (by repeat (first | exact Wk.jk | refine Wk.up rfl ?_)), ?_⟩
              omega
            · exact absurd (e.1 h1) h2
          · repeat' (first | refine Run.seq ?_ | refine Run.region (by kernel_rfl) ?_ | refine Ops.nil ?_ | refine Ops.move (by conv => lhs; whnf) ?_ | refine Ops.assign (by conv => lhs; whnf) ?_ | refine Run.cond_t rfl rfl ?_ | refine Run.cond_f rfl rfl ?_ | refine Run.skip ?_ | refine Run.exit ?_ | refine Run.block ?_ | refine Ops.len (by assumption) (by kernel_rfl) ?_ | refine Ops.len (Ac.sl (by assumption)) (by kernel_rfl) ?_ | refine Ops.add rfl rfl (by omega) (by omega) ?_ | refine Ops.sub rfl rfl (by omega) (by omega) ?_ | refine Ops.not_t rfl ?_ | refine Ops.not_f rfl ?_ | refine Ops.pick_t rfl (by conv => lhs; whnf) ?_ | refine Ops.pick_f rfl (by conv => lhs; whnf) ?_ | refine Ops.extract rfl rfl ?_ | refine Ops.un rfl rfl ?_ | refine Ops.no rfl rfl rfl ?_ | refine Ops.no_u rfl rfl ?_)
            refine Ops.idxI pl rfl (by omega) (by omega) (by kernel_rfl) (by kernel_rfl) fun pz x hx => ?_
            repeat' (first | refine Run.seq ?_ | refine Run.region (by kernel_rfl) ?_ | refine Ops.nil ?_ | refine Ops.move (by conv => lhs; whnf) ?_ | refine Ops.assign (by conv => lhs; whnf) ?_ | refine Run.cond_t rfl rfl ?_ | refine Run.cond_f rfl rfl ?_ | refine Run.skip ?_ | refine Run.exit ?_ | refine Run.block ?_ | refine Ops.len (by assumption) (by kernel_rfl) ?_ | refine Ops.len (Ac.sl (by assumption)) (by kernel_rfl) ?_ | refine Ops.add rfl rfl (by omega) (by omega) ?_ | refine Ops.sub rfl rfl (by omega) (by omega) ?_ | refine Ops.not_t rfl ?_ | refine Ops.not_f rfl ?_ | refine Ops.pick_t rfl (by conv => lhs; whnf) ?_ | refine Ops.pick_f rfl (by conv => lhs; whnf) ?_ | refine Ops.extract rfl rfl ?_ | refine Ops.un rfl rfl ?_ | refine Ops.no rfl rfl rfl ?_ | refine Ops.no_u rfl rfl ?_)
            refine Ops.idxI pl rfl (by omega) (by omega) (by kernel_rfl) (by kernel_rfl) fun pz y hy => ?_
            have e := rest x y hx hy
            refine Ops.cmp rfl rfl rfl (fun h2 => ?_) (fun h2 => ?_)
            · exact absurd (e.2 h2) h1
            · refine Ops.bne_same rfl rfl (by kernel_rfl) ?_
              repeat' (first | refine Run.seq ?_ | refine Run.region (by kernel_rfl) ?_ | refine Ops.nil ?_ | refine Ops.move (by conv => lhs; whnf) ?_ | refine Ops.assign (by conv => lhs; whnf) ?_ | refine Run.cond_t rfl rfl ?_ | refine Run.cond_f rfl rfl ?_ | refine Run.skip ?_ | refine Run.exit ?_ | refine Run.block ?_ | refine Ops.len (by assumption) (by kernel_rfl) ?_ | refine Ops.len (Ac.sl (by assumption)) (by kernel_rfl) ?_ | refine Ops.add rfl rfl (by omega) (by omega) ?_ | refine Ops.sub rfl rfl (by omega) (by omega) ?_ | refine Ops.not_t rfl ?_ | refine Ops.not_f rfl ?_ | refine Ops.pick_t rfl (by conv => lhs; whnf) ?_ | refine Ops.pick_f rfl (by conv => lhs; whnf) ?_ | refine Ops.extract rfl rfl ?_ | refine Ops.un rfl rfl ?_ | refine Ops.no rfl rfl rfl ?_ | refine Ops.no_u rfl rfl ?_)
              refine ⟨k + 1, by dsimp only; omega, rfl, rfl, by dsimp only; exact (by repeat (first | exact Wk.jk | refine Wk.up rfl ?_)), ?_⟩
              omega
        · repeat' (first | refine Run.seq ?_ | refine Run.region (by kernel_rfl) ?_ | refine Ops.nil ?_ | refine Ops.move (by conv => lhs; whnf) ?_ | refine Ops.assign (by conv => lhs; whnf) ?_ | refine Run.cond_t rfl rfl ?_ | refine Run.cond_f rfl rfl ?_ | refine Run.skip ?_ | refine Run.exit ?_ | refine Run.block ?_ | refine Ops.len (by assumption) (by kernel_rfl) ?_ | refine Ops.len (Ac.sl (by assumption)) (by kernel_rfl) ?_ | refine Ops.add rfl rfl (by omega) (by omega) ?_ | refine Ops.sub rfl rfl (by omega) (by omega) ?_ | refine Ops.not_t rfl ?_ | refine Ops.not_f rfl ?_ | refine Ops.pick_t rfl (by conv => lhs; whnf) ?_ | refine Ops.pick_f rfl (by conv => lhs; whnf) ?_ | refine Ops.extract rfl rfl ?_ | refine Ops.un rfl rfl ?_ | refine Ops.no rfl rfl rfl ?_ | refine Ops.no_u rfl rfl ?_)
          refine Run.draw [0, 1, 2, 3, 4, 5, 6, 7, 8, 9, 10, 11, 12, 13, 14, 15, 16, 17, 18, 19, 20, 21, 22, 23, 24, 25, 26, 27, 28, 29, 30, 31, 32, 33, 34, 35, 36] Try.checked.mixed (by kernel_rfl) ?_
          repeat' (first | refine Run.seq ?_ | refine Run.region (by kernel_rfl) ?_ | refine Ops.nil ?_ | refine Ops.move (by conv => lhs; whnf) ?_ | refine Ops.assign (by conv => lhs; whnf) ?_ | refine Run.cond_t rfl rfl ?_ | refine Run.cond_f rfl rfl ?_ | refine Run.skip ?_ | refine Run.exit ?_ | refine Run.block ?_ | refine Ops.len (by assumption) (by kernel_rfl) ?_ | refine Ops.len (Ac.sl (by assumption)) (by kernel_rfl) ?_ | refine Ops.add rfl rfl (by omega) (by omega) ?_ | refine Ops.sub rfl rfl (by omega) (by omega) ?_ | refine Ops.not_t rfl ?_ | refine Ops.not_f rfl ?_ | refine Ops.pick_t rfl (by conv => lhs; whnf) ?_ | refine Ops.pick_f rfl (by conv => lhs; whnf) ?_ | refine Ops.extract rfl rfl ?_ | refine Ops.un rfl rfl ?_ | refine Ops.no rfl rfl rfl ?_ | refine Ops.no_u rfl rfl ?_)
          refine Ops.idxI t2 rfl (by omega) (by omega) (by kernel_rfl) (by kernel_rfl) fun pz a ha => ?_
          have ha' : m[i]? = some a := ha
          refine Ops.callB (has_ok s2) (fun h1 => ?_) (fun h1 => ?_)
          · have h1 : a ∈ l := by simpa using h1
            repeat' (first | refine Run.seq ?_ | refine Run.region (by kernel_rfl) ?_ | refine Ops.nil ?_ | refine Ops.move (by conv => lhs; whnf) ?_ | refine Ops.assign (by conv => lhs; whnf) ?_ | refine Run.cond_t rfl rfl ?_ | refine Run.cond_f rfl rfl ?_ | refine Run.skip ?_ | refine Run.exit ?_ | refine Run.block ?_ | refine Ops.len (by assumption) (by kernel_rfl) ?_ | refine Ops.len (Ac.sl (by assumption)) (by kernel_rfl) ?_ | refine Ops.add rfl rfl (by omega) (by omega) ?_ | refine Ops.sub rfl rfl (by omega) (by omega) ?_ | refine Ops.not_t rfl ?_ | refine Ops.not_f rfl ?_ | refine Ops.pick_t rfl (by conv => lhs; whnf) ?_ | refine Ops.pick_f rfl (by conv => lhs; whnf) ?_ | refine Ops.extract rfl rfl ?_ | refine Ops.un rfl rfl ?_ | refine Ops.no rfl rfl rfl ?_ | refine Ops.no_u rfl rfl ?_)
            refine Ops.idxI pl rfl (by omega) (by omega) (by kernel_rfl) (by kernel_rfl) fun pz x hx => ?_
            obtain ⟨e0, e1, e2⟩ := q3 i a x ha' hx
            repeat' (first | refine Run.seq ?_ | refine Run.region (by kernel_rfl) ?_ | refine Ops.nil ?_ | refine Ops.move (by conv => lhs; whnf) ?_ | refine Ops.assign (by conv => lhs; whnf) ?_ | refine Run.cond_t rfl rfl ?_ | refine Run.cond_f rfl rfl ?_ | refine Run.skip ?_ | refine Run.exit ?_ | refine Run.block ?_ | refine Ops.len (by assumption) (by kernel_rfl) ?_ | refine Ops.len (Ac.sl (by assumption)) (by kernel_rfl) ?_ | refine Ops.add rfl rfl (by omega) (by omega) ?_ | refine Ops.sub rfl rfl (by omega) (by omega) ?_ | refine Ops.not_t rfl ?_ | refine Ops.not_f rfl ?_ | refine Ops.pick_t rfl (by conv => lhs; whnf) ?_ | refine Ops.pick_f rfl (by conv => lhs; whnf) ?_ | refine Ops.extract rfl rfl ?_ | refine Ops.un rfl rfl ?_ | refine Ops.no rfl rfl rfl ?_ | refine Ops.no_u rfl rfl ?_)
            refine Ops.cmp rfl rfl rfl (fun h2 => ?_) (fun h2 => ?_)
            · refine Ops.bne_same rfl rfl (by kernel_rfl) ?_
              repeat' (first | refine Run.seq ?_ | refine Run.region (by kernel_rfl) ?_ | refine Ops.nil ?_ | refine Ops.move (by conv => lhs; whnf) ?_ | refine Ops.assign (by conv => lhs; whnf) ?_ | refine Run.cond_t rfl rfl ?_ | refine Run.cond_f rfl rfl ?_ | refine Run.skip ?_ | refine Run.exit ?_ | refine Run.block ?_ | refine Ops.len (by assumption) (by kernel_rfl) ?_ | refine Ops.len (Ac.sl (by assumption)) (by kernel_rfl) ?_ | refine Ops.add rfl rfl (by omega) (by omega) ?_ | refine Ops.sub rfl rfl (by omega) (by omega) ?_ | refine Ops.not_t rfl ?_ | refine Ops.not_f rfl ?_ | refine Ops.pick_t rfl (by conv => lhs; whnf) ?_ | refine Ops.pick_f rfl (by conv => lhs; whnf) ?_ | refine Ops.extract rfl rfl ?_ | refine Ops.un rfl rfl ?_ | refine Ops.no rfl rfl rfl ?_ | refine Ops.no_u rfl rfl ?_)
              refine Ops.unS rfl rfl rfl ?_
              refine Ops.idxI pl rfl (by omega) (by omega) (by kernel_rfl) (by kernel_rfl) fun pz x2 hx2 => ?_
              have : x2 = x := by rw [hx] at hx2; exact (Option.some.inj hx2).symm
              subst this
              repeat' (first | refine Run.seq ?_ | refine Run.region (by kernel_rfl) ?_ | refine Ops.nil ?_ | refine Ops.move (by conv => lhs; whnf) ?_ | refine Ops.assign (by conv => lhs; whnf) ?_ | refine Run.cond_t rfl rfl ?_ | refine Run.cond_f rfl rfl ?_ | refine Run.skip ?_ | refine Run.exit ?_ | refine Run.block ?_ | refine Ops.len (by assumption) (by kernel_rfl) ?_ | refine Ops.len (Ac.sl (by assumption)) (by kernel_rfl) ?_ | refine Ops.add rfl rfl (by omega) (by omega) ?_ | refine Ops.sub rfl rfl (by omega) (by omega) ?_ | refine Ops.not_t rfl ?_ | refine Ops.not_f rfl ?_ | refine Ops.pick_t rfl (by conv => lhs; whnf) ?_ | refine Ops.pick_f rfl (by conv => lhs; whnf) ?_ | refine Ops.extract rfl rfl ?_ | refine Ops.un rfl rfl ?_ | refine Ops.no rfl rfl rfl ?_ | refine Ops.no_u rfl rfl ?_)
              refine Ops.cmp rfl rfl rfl (fun h3 => ?_) (fun h3 => ?_)
              · repeat' (first | refine Run.seq ?_ | refine Run.region (by kernel_rfl) ?_ | refine Ops.nil ?_ | refine Ops.move (by conv => lhs; whnf) ?_ | refine Ops.assign (by conv => lhs; whnf) ?_ | refine Run.cond_t rfl rfl ?_ | refine Run.cond_f rfl rfl ?_ | refine Run.skip ?_ | refine Run.exit ?_ | refine Run.block ?_ | refine Ops.len (by assumption) (by kernel_rfl) ?_ | refine Ops.len (Ac.sl (by assumption)) (by kernel_rfl) ?_ | refine Ops.add rfl rfl (by omega) (by omega) ?_ | refine Ops.sub rfl rfl (by omega) (by omega) ?_ | refine Ops.not_t rfl ?_ | refine Ops.not_f rfl ?_ | refine Ops.pick_t rfl (by conv => lhs; whnf) ?_ | refine Ops.pick_f rfl (by conv => lhs; whnf) ?_ | refine Ops.extract rfl rfl ?_ | refine Ops.un rfl rfl ?_ | refine Ops.no rfl rfl rfl ?_ | refine Ops.no_u rfl rfl ?_)
                refine Ops.unS rfl rfl rfl ?_
                refine Ops.idxI pl rfl (by omega) (by omega) (by kernel_rfl) (by kernel_rfl) fun pz x3 hx3 => ?_
                have : x3 = x2 := by rw [hx] at hx3; exact (Option.some.inj hx3).symm
                subst this
                repeat' (first | refine Run.seq ?_ | refine Run.region (by kernel_rfl) ?_ | refine Ops.nil ?_ | refine Ops.move (by conv => lhs; whnf) ?_ | refine Ops.assign (by conv => lhs; whnf) ?_ | refine Run.cond_t rfl rfl ?_ | refine Run.cond_f rfl rfl ?_ | refine Run.skip ?_ | refine Run.exit ?_ | refine Run.block ?_ | refine Ops.len (by assumption) (by kernel_rfl) ?_ | refine Ops.len (Ac.sl (by assumption)) (by kernel_rfl) ?_ | refine Ops.add rfl rfl (by omega) (by omega) ?_ | refine Ops.sub rfl rfl (by omega) (by omega) ?_ | refine Ops.not_t rfl ?_ | refine Ops.not_f rfl ?_ | refine Ops.pick_t rfl (by conv => lhs; whnf) ?_ | refine Ops.pick_f rfl (by conv => lhs; whnf) ?_ | refine Ops.extract rfl rfl ?_ | refine Ops.un rfl rfl ?_ | refine Ops.no rfl rfl rfl ?_ | refine Ops.no_u rfl rfl ?_)
                refine Ops.unS rfl rfl rfl ?_
                refine Ops.idxI s2 rfl e0 (by omega) (by kernel_rfl) (by kernel_rfl) fun pz y hy => ?_
                have : y = a := by have h5 := e2 h2; rw [h5] at hy; exact (Option.some.inj hy).symm
                subst this
                repeat' (first | refine Run.seq ?_ | refine Run.region (by kernel_rfl) ?_ | refine Ops.nil ?_ | refine Ops.move (by conv => lhs; whnf) ?_ | refine Ops.assign (by conv => lhs; whnf) ?_ | refine Run.cond_t rfl rfl ?_ | refine Run.cond_f rfl rfl ?_ | refine Run.skip ?_ | refine Run.exit ?_ | refine Run.block ?_ | refine Ops.len (by assumption) (by kernel_rfl) ?_ | refine Ops.len (Ac.sl (by assumption)) (by kernel_rfl) ?_ | refine Ops.add rfl rfl (by omega) (by omega) ?_ | refine Ops.sub rfl rfl (by omega) (by omega) ?_ | refine Ops.not_t rfl ?_ | refine Ops.not_f rfl ?_ | refine Ops.pick_t rfl (by conv => lhs; whnf) ?_ | refine Ops.pick_f rfl (by conv => lhs; whnf) ?_ | refine Ops.extract rfl rfl ?_ | refine Ops.un rfl rfl ?_ | refine Ops.no rfl rfl rfl ?_ | refine Ops.no_u rfl rfl ?_)
                refine Ops.unS rfl rfl rfl ?_
                refine Ops.idxI t2 rfl (by omega) (by omega) (by kernel_rfl) (by kernel_rfl) fun pz z hz => ?_
                have : z = y := by rw [ha] at hz; exact (Option.some.inj hz).symm
                subst this
                repeat' (first | refine Run.seq ?_ | refine Run.region (by kernel_rfl) ?_ | refine Ops.nil ?_ | refine Ops.move (by conv => lhs; whnf) ?_ | refine Ops.assign (by conv => lhs; whnf) ?_ | refine Run.cond_t rfl rfl ?_ | refine Run.cond_f rfl rfl ?_ | refine Run.skip ?_ | refine Run.exit ?_ | refine Run.block ?_ | refine Ops.len (by assumption) (by kernel_rfl) ?_ | refine Ops.len (Ac.sl (by assumption)) (by kernel_rfl) ?_ | refine Ops.add rfl rfl (by omega) (by omega) ?_ | refine Ops.sub rfl rfl (by omega) (by omega) ?_ | refine Ops.not_t rfl ?_ | refine Ops.not_f rfl ?_ | refine Ops.pick_t rfl (by conv => lhs; whnf) ?_ | refine Ops.pick_f rfl (by conv => lhs; whnf) ?_ | refine Ops.extract rfl rfl ?_ | refine Ops.un rfl rfl ?_ | refine Ops.no rfl rfl rfl ?_ | refine Ops.no_u rfl rfl ?_)
                refine Ops.cmpn rfl rfl (fun h4 => absurd rfl h4) (fun h4 => ?_)
                repeat' (first | refine Run.seq ?_ | refine Run.region (by kernel_rfl) ?_ | refine Ops.nil ?_ | refine Ops.move (by conv => lhs; whnf) ?_ | refine Ops.assign (by conv => lhs; whnf) ?_ | refine Run.cond_t rfl rfl ?_ | refine Run.cond_f rfl rfl ?_ | refine Run.skip ?_ | refine Run.exit ?_ | refine Run.block ?_ | refine Ops.len (by assumption) (by kernel_rfl) ?_ | refine Ops.len (Ac.sl (by assumption)) (by kernel_rfl) ?_ | refine Ops.add rfl rfl (by omega) (by omega) ?_ | refine Ops.sub rfl rfl (by omega) (by omega) ?_ | refine Ops.not_t rfl ?_ | refine Ops.not_f rfl ?_ | refine Ops.pick_t rfl (by conv => lhs; whnf) ?_ | refine Ops.pick_f rfl (by conv => lhs; whnf) ?_ | refine Ops.extract rfl rfl ?_ | refine Ops.un rfl rfl ?_ | refine Ops.no rfl rfl rfl ?_ | refine Ops.no_u rfl rfl ?_)
                refine ⟨i + 1, by dsimp only; omega, rfl, rfl, by dsimp only; exact (by repeat (first | exact Wk.jk | refine Wk.up rfl ?_)), ?_⟩
                omega
              · exact absurd h2 h3
            · exact absurd (e1.1 h1) h2
          · have h1 : a ∉ l := by simpa using h1
            repeat' (first | refine Run.seq ?_ | refine Run.region (by kernel_rfl) ?_ | refine Ops.nil ?_ | refine Ops.move (by conv => lhs; whnf) ?_ | refine Ops.assign (by conv => lhs; whnf) ?_ | refine Run.cond_t rfl rfl ?_ | refine Run.cond_f rfl rfl ?_ | refine Run.skip ?_ | refine Run.exit ?_ | refine Run.block ?_ | refine Ops.len (by assumption) (by kernel_rfl) ?_ | refine Ops.len (Ac.sl (by assumption)) (by kernel_rfl) ?_ | refine Ops.add rfl rfl (by omega) (by omega) ?_ | refine Ops.sub rfl rfl (by omega) (by omega) ?_ | refine Ops.not_t rfl ?_ | refine Ops.not_f rfl ?_ | refine Ops.pick_t rfl (by conv => lhs; whnf) ?_ | refine Ops.pick_f rfl (by conv => lhs; whnf) ?_ | refine Ops.extract rfl rfl ?_ | refine Ops.un rfl rfl ?_ | refine Ops.no rfl rfl rfl ?_ | refine Ops.no_u rfl rfl ?_)
            refine Ops.idxI pl rfl (by omega) (by omega) (by kernel_rfl) (by kernel_rfl) fun pz x hx => ?_
            obtain ⟨e0, e1, e2⟩ := q3 i a x ha' hx
            repeat' (first | refine Run.seq ?_ | refine Run.region (by kernel_rfl) ?_ | refine Ops.nil ?_ | refine Ops.move (by conv => lhs; whnf) ?_ | refine Ops.assign (by conv => lhs; whnf) ?_ | refine Run.cond_t rfl rfl ?_ | refine Run.cond_f rfl rfl ?_ | refine Run.skip ?_ | refine Run.exit ?_ | refine Run.block ?_ | refine Ops.len (by assumption) (by kernel_rfl) ?_ | refine Ops.len (Ac.sl (by assumption)) (by kernel_rfl) ?_ | refine Ops.add rfl rfl (by omega) (by omega) ?_ | refine Ops.sub rfl rfl (by omega) (by omega) ?_ | refine Ops.not_t rfl ?_ | refine Ops.not_f rfl ?_ | refine Ops.pick_t rfl (by conv => lhs; whnf) ?_ | refine Ops.pick_f rfl (by conv => lhs; whnf) ?_ | refine Ops.extract rfl rfl ?_ | refine Ops.un rfl rfl ?_ | refine Ops.no rfl rfl rfl ?_ | refine Ops.no_u rfl rfl ?_)
            refine Ops.cmp rfl rfl rfl (fun h2 => ?_) (fun h2 => ?_)
            · exact absurd (e1.2 h2) h1
            · refine Ops.bne_same rfl rfl (by kernel_rfl) ?_
              repeat' (first | refine Run.seq ?_ | refine Run.region (by kernel_rfl) ?_ | refine Ops.nil ?_ | refine Ops.move (by conv => lhs; whnf) ?_ | refine Ops.assign (by conv => lhs; whnf) ?_ | refine Run.cond_t rfl rfl ?_ | refine Run.cond_f rfl rfl ?_ | refine Run.skip ?_ | refine Run.exit ?_ | refine Run.block ?_ | refine Ops.len (by assumption) (by kernel_rfl) ?_ | refine Ops.len (Ac.sl (by assumption)) (by kernel_rfl) ?_ | refine Ops.add rfl rfl (by omega) (by omega) ?_ | refine Ops.sub rfl rfl (by omega) (by omega) ?_ | refine Ops.not_t rfl ?_ | refine Ops.not_f rfl ?_ | refine Ops.pick_t rfl (by conv => lhs; whnf) ?_ | refine Ops.pick_f rfl (by conv => lhs; whnf) ?_ | refine Ops.extract rfl rfl ?_ | refine Ops.un rfl rfl ?_ | refine Ops.no rfl rfl rfl ?_ | refine Ops.no_u rfl rfl ?_)
              refine Ops.unS rfl rfl rfl ?_
              refine Ops.idxI pl rfl (by omega) (by omega) (by kernel_rfl) (by kernel_rfl) fun pz x2 hx2 => ?_
              have : x2 = x := by rw [hx] at hx2; exact (Option.some.inj hx2).symm
              subst this
              repeat' (first | refine Run.seq ?_ | refine Run.region (by kernel_rfl) ?_ | refine Ops.nil ?_ | refine Ops.move (by conv => lhs; whnf) ?_ | refine Ops.assign (by conv => lhs; whnf) ?_ | refine Run.cond_t rfl rfl ?_ | refine Run.cond_f rfl rfl ?_ | refine Run.skip ?_ | refine Run.exit ?_ | refine Run.block ?_ | refine Ops.len (by assumption) (by kernel_rfl) ?_ | refine Ops.len (Ac.sl (by assumption)) (by kernel_rfl) ?_ | refine Ops.add rfl rfl (by omega) (by omega) ?_ | refine Ops.sub rfl rfl (by omega) (by omega) ?_ | refine Ops.not_t rfl ?_ | refine Ops.not_f rfl ?_ | refine Ops.pick_t rfl (by conv => lhs; whnf) ?_ | refine Ops.pick_f rfl (by conv => lhs; whnf) ?_ | refine Ops.extract rfl rfl ?_ | refine Ops.un rfl rfl ?_ | refine Ops.no rfl rfl rfl ?_ | refine Ops.no_u rfl rfl ?_)
              refine Ops.cmp rfl rfl rfl (fun h3 => ?_) (fun h3 => ?_)
              · exact absurd h3 h2
              · repeat' (first | refine Run.seq ?_ | refine Run.region (by kernel_rfl) ?_ | refine Ops.nil ?_ | refine Ops.move (by conv => lhs; whnf) ?_ | refine Ops.assign (by conv => lhs; whnf) ?_ | refine Run.cond_t rfl rfl ?_ | refine Run.cond_f rfl rfl ?_ | refine Run.skip ?_ | refine Run.exit ?_ | refine Run.block ?_ | refine Ops.len (by assumption) (by kernel_rfl) ?_ | refine Ops.len (Ac.sl (by assumption)) (by kernel_rfl) ?_ | refine Ops.add rfl rfl (by omega) (by omega) ?_ | refine Ops.sub rfl rfl (by omega) (by omega) ?_ | refine Ops.not_t rfl ?_ | refine Ops.not_f rfl ?_ | refine Ops.pick_t rfl (by conv => lhs; whnf) ?_ | refine Ops.pick_f rfl (by conv => lhs; whnf) ?_ | refine Ops.extract rfl rfl ?_ | refine Ops.un rfl rfl ?_ | refine Ops.no rfl rfl rfl ?_ | refine Ops.no_u rfl rfl ?_)
                refine ⟨i + 1, by dsimp only; omega, rfl, rfl, by dsimp only; exact (by repeat (first | exact Wk.jk | refine Wk.up rfl ?_)), ?_⟩
                omega
      · repeat' (first | refine Run.seq ?_ | refine Run.region (by kernel_rfl) ?_ | refine Ops.nil ?_ | refine Ops.move (by conv => lhs; whnf) ?_ | refine Ops.assign (by conv => lhs; whnf) ?_ | refine Run.cond_t rfl rfl ?_ | refine Run.cond_f rfl rfl ?_ | refine Run.skip ?_ | refine Run.exit ?_ | refine Run.block ?_ | refine Ops.len (by assumption) (by kernel_rfl) ?_ | refine Ops.len (Ac.sl (by assumption)) (by kernel_rfl) ?_ | refine Ops.add rfl rfl (by omega) (by omega) ?_ | refine Ops.sub rfl rfl (by omega) (by omega) ?_ | refine Ops.not_t rfl ?_ | refine Ops.not_f rfl ?_ | refine Ops.pick_t rfl (by conv => lhs; whnf) ?_ | refine Ops.pick_f rfl (by conv => lhs; whnf) ?_ | refine Ops.extract rfl rfl ?_ | refine Ops.un rfl rfl ?_ | refine Ops.no rfl rfl rfl ?_ | refine Ops.no_u rfl rfl ?_)
        refine Ops.cmp rfl rfl rfl (fun h1 => ?_) (fun h1 => ?_)
        · repeat' (first | refine Run.seq ?_ | refine Run.region (by kernel_rfl) ?_ | refine Ops.nil ?_ | refine Ops.move (by conv => lhs; whnf) ?_ | refine Ops.assign (by conv => lhs; whnf) ?_ | refine Run.cond_t rfl rfl ?_ | refine Run.cond_f rfl rfl ?_ | refine Run.skip ?_ | refine Run.exit ?_ | refine Run.block ?_ | refine Ops.len (by assumption) (by kernel_rfl) ?_ | refine Ops.len (Ac.sl (by assumption)) (by kernel_rfl) ?_ | refine Ops.add rfl rfl (by omega) (by omega) ?_ | refine Ops.sub rfl rfl (by omega) (by omega) ?_ | refine Ops.not_t rfl ?_ | refine Ops.not_f rfl ?_ | refine Ops.pick_t rfl (by conv => lhs; whnf) ?_ | refine Ops.pick_f rfl (by conv => lhs; whnf) ?_ | refine Ops.extract rfl rfl ?_ | refine Ops.un rfl rfl ?_ | refine Ops.no rfl rfl rfl ?_ | refine Ops.no_u rfl rfl ?_)
          refine Run.ret ⟨.inl rfl, ResK.tmp rfl (by conv => lhs; whnf) (ResK.nil ?_)⟩
          rfl
        · omega

end Go.Proofs.Ytefmjpbmdoebaaa
