/- Finding in lists; copies; patterns of a tuple, by the program and by the reference. -/
import Derived.Test.YtefmjpbmdoebaaaFf
set_option linter.unusedVariables false
namespace Go.Proofs.Ytefmjpbmdoebaaa
open Go Go.RowKit

/-- Where the first one is, or -1. -/
def findI {α : Type} (p : α → Bool) : List α → Int
  | [] => -1
  | a :: t => if p a then 0 else if findI p t < 0 then -1 else findI p t + 1

theorem findI_hit {α : Type} {p : α → Bool} : ∀ {l : List α} {i : Nat} {a : α}, l[i]? = some a → p a = true → (∀ b ∈ l.take i, p b = false) → findI p l = i
  | [], i, a, h, _, _ => by simp at h
  | x :: t, 0, a, h, hp, _ => by simp at h; subst h; simp [findI, hp]
  | x :: t, i + 1, a, h, hp, hn => by
    have h1 : p x = false := hn x (by simp)
    have h2 := findI_hit (l := t) (i := i) (a := a) (by simpa using h) hp fun b hb => hn b (by simp [hb])
    simp only [findI, h1, h2]
    rw [if_neg (by simp), if_neg (by omega)]; omega
theorem findI_miss {α : Type} {p : α → Bool} : ∀ {l : List α}, (∀ b ∈ l, p b = false) → findI p l = -1
  | [], _ => rfl
  | x :: t, hn => by
    have h2 := findI_miss (l := t) fun b hb => hn b (by simp [hb])
    simp only [findI, hn x (by simp), h2]; rfl
theorem findI_nonneg {α : Type} {p : α → Bool} : ∀ {l : List α}, 0 ≤ findI p l ↔ ∃ b ∈ l, p b = true
  | [] => by simp [findI]
  | x :: t => by
    have ih := findI_nonneg (p := p) (l := t)
    simp only [findI]
    by_cases h : p x = true
    · simp [h]
    · rw [if_neg h]
      by_cases h2 : findI p t < 0
      · rw [if_pos h2]
        have h3 : ¬ ∃ b ∈ t, p b = true := fun h3 => by have := ih.2 h3; omega
        constructor
        · intro h4; omega
        · rintro ⟨b, hb, hp⟩
          rcases List.mem_cons.1 hb with rfl | hb
          · exact absurd hp h
          · exact absurd ⟨b, hb, hp⟩ h3
      · rw [if_neg h2]
        obtain ⟨b, hb, hp⟩ := ih.1 (by omega)
        exact ⟨fun _ => ⟨b, by simp [hb], hp⟩, fun _ => by omega⟩
theorem findI_lt {α : Type} {p : α → Bool} : ∀ {l : List α}, findI p l < l.length
  | [] => by simp [findI]
  | x :: t => by
    have ih := findI_lt (p := p) (l := t)
    simp only [findI, List.length_cons]
    split
    · omega
    · split <;> omega
theorem findI_ge {α : Type} {p : α → Bool} : ∀ {l : List α}, -1 ≤ findI p l
  | [] => by simp [findI]
  | x :: t => by
    simp only [findI]
    split
    · omega
    · split <;> omega

theorem IndexFuncI_ok {H : Hp} {v : Value} {l : List Int} {g : FuncId} {first caps : Array Value} {p : Int → Bool} (h : Sl cI H v l) (hf : ∀ x ∈ l, acall Try.prog g (first.toList ++ [.int .i64 x] ++ caps.toList) H (.bool (p x)) H) :
    acall Try.prog 105 [v, .func (.func g) first caps] H (.int .i64 (findI p l)) H := by
  have hmx := h.max
  simp only [maxLen] at hmx
  refine CallK.eq (CallK.enter Try.func105 rfl rfl Try.ntmps105 Try.results105 rfl ?_)
  repeat' (first | refine Run.seq ?_ | refine Run.region (by kernel_rfl) ?_ | refine Ops.nil ?_ | refine Ops.move (by conv => lhs; whnf) ?_ | refine Ops.assign (by conv => lhs; whnf) ?_ | refine Run.cond_t rfl rfl ?_ | refine Run.cond_f rfl rfl ?_ | refine Run.skip ?_ | refine Run.exit ?_ | refine Run.block ?_ | refine Ops.len (by assumption) (by kernel_rfl) ?_ | refine Ops.len (Ac.sl (by assumption)) (by kernel_rfl) ?_ | refine Ops.add rfl rfl (by omega) (by omega) ?_ | refine Ops.sub rfl rfl (by omega) (by omega) ?_ | refine Ops.not_t rfl ?_ | refine Ops.not_f rfl ?_ | refine Ops.pick_t rfl (by conv => lhs; whnf) ?_ | refine Ops.pick_f rfl (by conv => lhs; whnf) ?_ | refine Ops.extract rfl rfl ?_ | refine Ops.un rfl rfl ?_ | refine Ops.no rfl rfl rfl ?_ | refine Ops.no_u rfl rfl ?_)
  refine Run.loopW (fun i => l.length - i) (fun (i : Nat) => up (up (up (up (up jk 0 v) 1 (.func (.func g) first caps)) 6 v) 7 (.int .i64 l.length)) 8 (.int .i64 (i : Int))) (fun _ => H) (fun i => i ≤ l.length ∧ ∀ b ∈ l.take i, p b = false) 0 rfl (by repeat (first | exact Wk.jk | refine Wk.up rfl ?_)) ⟨by omega, by simp⟩ ?_
  rintro i ⟨hi, hx⟩
  repeat' (first | refine Run.seq ?_ | refine Run.region (by kernel_rfl) ?_ | refine Ops.nil ?_ | refine Ops.move (by conv => lhs; whnf) ?_ | refine Ops.assign (by conv => lhs; whnf) ?_ | refine Run.cond_t rfl rfl ?_ | refine Run.cond_f rfl rfl ?_ | refine Run.skip ?_ | refine Run.exit ?_ | refine Run.block ?_ | refine Ops.len (by assumption) (by kernel_rfl) ?_ | refine Ops.len (Ac.sl (by assumption)) (by kernel_rfl) ?_ | refine Ops.add rfl rfl (by omega) (by omega) ?_ | refine Ops.sub rfl rfl (by omega) (by omega) ?_ | refine Ops.not_t rfl ?_ | refine Ops.not_f rfl ?_ | refine Ops.pick_t rfl (by conv => lhs; whnf) ?_ | refine Ops.pick_f rfl (by conv => lhs; whnf) ?_ | refine Ops.extract rfl rfl ?_ | refine Ops.un rfl rfl ?_ | refine Ops.no rfl rfl rfl ?_ | refine Ops.no_u rfl rfl ?_)
  refine Ops.cmp rfl rfl rfl (fun hc => ?_) (fun hc => ?_)
  · repeat' (first | refine Run.seq ?_ | refine Run.region (by kernel_rfl) ?_ | refine Ops.nil ?_ | refine Ops.move (by conv => lhs; whnf) ?_ | refine Ops.assign (by conv => lhs; whnf) ?_ | refine Run.cond_t rfl rfl ?_ | refine Run.cond_f rfl rfl ?_ | refine Run.skip ?_ | refine Run.exit ?_ | refine Run.block ?_ | refine Ops.len (by assumption) (by kernel_rfl) ?_ | refine Ops.len (Ac.sl (by assumption)) (by kernel_rfl) ?_ | refine Ops.add rfl rfl (by omega) (by omega) ?_ | refine Ops.sub rfl rfl (by omega) (by omega) ?_ | refine Ops.not_t rfl ?_ | refine Ops.not_f rfl ?_ | refine Ops.pick_t rfl (by conv => lhs; whnf) ?_ | refine Ops.pick_f rfl (by conv => lhs; whnf) ?_ | refine Ops.extract rfl rfl ?_ | refine Ops.un rfl rfl ?_ | refine Ops.no rfl rfl rfl ?_ | refine Ops.no_u rfl rfl ?_)
    refine Ops.idxI h rfl (by omega) (by omega) (by kernel_rfl) (by kernel_rfl) fun pz a ha => ?_
    have ha' : l[i]? = some a := ha
    refine Ops.callVB rfl (hf a (List.mem_of_getElem? ha')) (fun hc2 => ?_) (fun hc2 => ?_)
    · repeat' (first | refine Run.seq ?_ | refine Run.region (by kernel_rfl) ?_ | refine Ops.nil ?_ | refine Ops.move (by conv => lhs; whnf) ?_ | refine Ops.assign (by conv => lhs; whnf) ?_ | refine Run.cond_t rfl rfl ?_ | refine Run.cond_f rfl rfl ?_ | refine Run.skip ?_ | refine Run.exit ?_ | refine Run.block ?_ | refine Ops.len (by assumption) (by kernel_rfl) ?_ | refine Ops.len (Ac.sl (by assumption)) (by kernel_rfl) ?_ | refine Ops.add rfl rfl (by omega) (by omega) ?_ | refine Ops.sub rfl rfl (by omega) (by omega) ?_ | refine Ops.not_t rfl ?_ | refine Ops.not_f rfl ?_ | refine Ops.pick_t rfl (by conv => lhs; whnf) ?_ | refine Ops.pick_f rfl (by conv => lhs; whnf) ?_ | refine Ops.extract rfl rfl ?_ | refine Ops.un rfl rfl ?_ | refine Ops.no rfl rfl rfl ?_ | refine Ops.no_u rfl rfl ?_)
      refine Run.ret ⟨.inl rfl, ResK.tmp rfl (by conv => lhs; whnf) (ResK.nil ?_)⟩
      exact ⟨by rw [findI_hit ha' hc2 hx]; rfl, rfl⟩
    · repeat' (first | refine Run.seq ?_ | refine Run.region (by kernel_rfl) ?_ | refine Ops.nil ?_ | refine Ops.move (by conv => lhs; whnf) ?_ | refine Ops.assign (by conv => lhs; whnf) ?_ | refine Run.cond_t rfl rfl ?_ | refine Run.cond_f rfl rfl ?_ | refine Run.skip ?_ | refine Run.exit ?_ | refine Run.block ?_ | refine Ops.len (by assumption) (by kernel_rfl) ?_ | refine Ops.len (Ac.sl (by assumption)) (by kernel_rfl) ?_ | refine Ops.add rfl rfl (by omega) (by omega) ?_ | refine Ops.sub rfl rfl (by omega) (by omega) ?_ | refine Ops.not_t rfl ?_ | refine Ops.not_f rfl ?_ | refine Ops.pick_t rfl (by conv => lhs; whnf) ?_ | refine Ops.pick_f rfl (by conv => lhs; whnf) ?_ | refine Ops.extract rfl rfl ?_ | refine Ops.un rfl rfl ?_ | refine Ops.no rfl rfl rfl ?_ | refine Ops.no_u rfl rfl ?_)
      refine ⟨i + 1, by dsimp only; omega, rfl, rfl, by dsimp only; exact (by repeat (first | exact Wk.jk | refine Wk.up rfl ?_)), ?_⟩
      refine ⟨by omega, fun b hb => ?_⟩
      rw [take_snoc ha'] at hb
      rcases List.mem_append.1 hb with h1 | h1
      · exact hx b h1
      · obtain rfl := List.mem_singleton.1 h1
        exact hc2
  · repeat' (first | refine Run.seq ?_ | refine Run.region (by kernel_rfl) ?_ | refine Ops.nil ?_ | refine Ops.move (by conv => lhs; whnf) ?_ | refine Ops.assign (by conv => lhs; whnf) ?_ | refine Run.cond_t rfl rfl ?_ | refine Run.cond_f rfl rfl ?_ | refine Run.skip ?_ | refine Run.exit ?_ | refine Run.block ?_ | refine Ops.len (by assumption) (by kernel_rfl) ?_ | refine Ops.len (Ac.sl (by assumption)) (by kernel_rfl) ?_ | refine Ops.add rfl rfl (by omega) (by omega) ?_ | refine Ops.sub rfl rfl (by omega) (by omega) ?_ | refine Ops.not_t rfl ?_ | refine Ops.not_f rfl ?_ | refine Ops.pick_t rfl (by conv => lhs; whnf) ?_ | refine Ops.pick_f rfl (by conv => lhs; whnf) ?_ | refine Ops.extract rfl rfl ?_ | refine Ops.un rfl rfl ?_ | refine Ops.no rfl rfl rfl ?_ | refine Ops.no_u rfl rfl ?_)
    rw [take_end (by omega)] at hx
    refine Run.ret ⟨.inl rfl, ResK.tmp rfl (by conv => lhs; whnf) (ResK.nil ?_)⟩
    exact ⟨by rw [findI_miss hx]; rfl, rfl⟩

theorem ContainsFuncI_ok {H : Hp} {v : Value} {l : List Int} {g : FuncId} {first caps : Array Value} {p : Int → Bool} (h : Sl cI H v l) (hf : ∀ x ∈ l, acall Try.prog g (first.toList ++ [.int .i64 x] ++ caps.toList) H (.bool (p x)) H) :
    acall Try.prog 89 [v, .func (.func g) first caps] H (.bool (l.any p)) H := by
  refine CallK.eq (CallK.enter Try.func89 rfl rfl Try.ntmps89 Try.results89 rfl ?_)
  repeat' (first | refine Run.seq ?_ | refine Run.region (by kernel_rfl) ?_ | refine Ops.nil ?_ | refine Ops.move (by conv => lhs; whnf) ?_ | refine Ops.assign (by conv => lhs; whnf) ?_ | refine Run.cond_t rfl rfl ?_ | refine Run.cond_f rfl rfl ?_ | refine Run.skip ?_ | refine Run.exit ?_ | refine Run.block ?_ | refine Ops.len (by assumption) (by kernel_rfl) ?_ | refine Ops.len (Ac.sl (by assumption)) (by kernel_rfl) ?_ | refine Ops.add rfl rfl (by omega) (by omega) ?_ | refine Ops.sub rfl rfl (by omega) (by omega) ?_ | refine Ops.not_t rfl ?_ | refine Ops.not_f rfl ?_ | refine Ops.pick_t rfl (by conv => lhs; whnf) ?_ | refine Ops.pick_f rfl (by conv => lhs; whnf) ?_ | refine Ops.extract rfl rfl ?_ | refine Ops.un rfl rfl ?_ | refine Ops.no rfl rfl rfl ?_ | refine Ops.no_u rfl rfl ?_)
  refine Ops.callE (IndexFuncI_ok h hf) ?_
  refine Ops.cmp rfl rfl rfl (fun hc => ?_) (fun hc => ?_)
  · repeat' (first | refine Run.seq ?_ | refine Run.region (by kernel_rfl) ?_ | refine Ops.nil ?_ | refine Ops.move (by conv => lhs; whnf) ?_ | refine Ops.assign (by conv => lhs; whnf) ?_ | refine Run.cond_t rfl rfl ?_ | refine Run.cond_f rfl rfl ?_ | refine Run.skip ?_ | refine Run.exit ?_ | refine Run.block ?_ | refine Ops.len (by assumption) (by kernel_rfl) ?_ | refine Ops.len (Ac.sl (by assumption)) (by kernel_rfl) ?_ | refine Ops.add rfl rfl (by omega) (by omega) ?_ | refine Ops.sub rfl rfl (by omega) (by omega) ?_ | refine Ops.not_t rfl ?_ | refine Ops.not_f rfl ?_ | refine Ops.pick_t rfl (by conv => lhs; whnf) ?_ | refine Ops.pick_f rfl (by conv => lhs; whnf) ?_ | refine Ops.extract rfl rfl ?_ | refine Ops.un rfl rfl ?_ | refine Ops.no rfl rfl rfl ?_ | refine Ops.no_u rfl rfl ?_)
    refine Run.ret ⟨.inl rfl, ResK.tmp rfl (by conv => lhs; whnf) (ResK.nil ?_)⟩
    exact ⟨by rw [List.any_eq_true.2 (findI_nonneg.1 hc)]; rfl, rfl⟩
  · repeat' (first | refine Run.seq ?_ | refine Run.region (by kernel_rfl) ?_ | refine Ops.nil ?_ | refine Ops.move (by conv => lhs; whnf) ?_ | refine Ops.assign (by conv => lhs; whnf) ?_ | refine Run.cond_t rfl rfl ?_ | refine Run.cond_f rfl rfl ?_ | refine Run.skip ?_ | refine Run.exit ?_ | refine Run.block ?_ | refine Ops.len (by assumption) (by kernel_rfl) ?_ | refine Ops.len (Ac.sl (by assumption)) (by kernel_rfl) ?_ | refine Ops.add rfl rfl (by omega) (by omega) ?_ | refine Ops.sub rfl rfl (by omega) (by omega) ?_ | refine Ops.not_t rfl ?_ | refine Ops.not_f rfl ?_ | refine Ops.pick_t rfl (by conv => lhs; whnf) ?_ | refine Ops.pick_f rfl (by conv => lhs; whnf) ?_ | refine Ops.extract rfl rfl ?_ | refine Ops.un rfl rfl ?_ | refine Ops.no rfl rfl rfl ?_ | refine Ops.no_u rfl rfl ?_)
    refine Run.ret ⟨.inl rfl, ResK.tmp rfl (by conv => lhs; whnf) (ResK.nil ?_)⟩
    have : l.any p = false := by
      rw [← Bool.not_eq_true, List.any_eq_true]
      exact fun h2 => hc (findI_nonneg.2 h2)
    exact ⟨by rw [this]; rfl, rfl⟩

theorem notAtom_ok {H : Hp} {x : Int} : acall Try.prog 90 [.int .i64 x] H (.bool (!dec (isAtomP x))) H := by
  refine CallK.eq (CallK.enter Try.func90 rfl rfl Try.ntmps90 Try.results90 rfl ?_)
  repeat' (first | refine Run.seq ?_ | refine Run.region (by kernel_rfl) ?_ | refine Ops.nil ?_ | refine Ops.move (by conv => lhs; whnf) ?_ | refine Ops.assign (by conv => lhs; whnf) ?_ | refine Run.cond_t rfl rfl ?_ | refine Run.cond_f rfl rfl ?_ | refine Run.skip ?_ | refine Run.exit ?_ | refine Run.block ?_ | refine Ops.len (by assumption) (by kernel_rfl) ?_ | refine Ops.len (Ac.sl (by assumption)) (by kernel_rfl) ?_ | refine Ops.add rfl rfl (by omega) (by omega) ?_ | refine Ops.sub rfl rfl (by omega) (by omega) ?_ | refine Ops.not_t rfl ?_ | refine Ops.not_f rfl ?_ | refine Ops.pick_t rfl (by conv => lhs; whnf) ?_ | refine Ops.pick_f rfl (by conv => lhs; whnf) ?_ | refine Ops.extract rfl rfl ?_ | refine Ops.un rfl rfl ?_ | refine Ops.no rfl rfl rfl ?_ | refine Ops.no_u rfl rfl ?_)
  refine Ops.callB isAtom_ok (fun hc => ?_) (fun hc => ?_)
  · repeat' (first | refine Run.seq ?_ | refine Run.region (by kernel_rfl) ?_ | refine Ops.nil ?_ | refine Ops.move (by conv => lhs; whnf) ?_ | refine Ops.assign (by conv => lhs; whnf) ?_ | refine Run.cond_t rfl rfl ?_ | refine Run.cond_f rfl rfl ?_ | refine Run.skip ?_ | refine Run.exit ?_ | refine Run.block ?_ | refine Ops.len (by assumption) (by kernel_rfl) ?_ | refine Ops.len (Ac.sl (by assumption)) (by kernel_rfl) ?_ | refine Ops.add rfl rfl (by omega) (by omega) ?_ | refine Ops.sub rfl rfl (by omega) (by omega) ?_ | refine Ops.not_t rfl ?_ | refine Ops.not_f rfl ?_ | refine Ops.pick_t rfl (by conv => lhs; whnf) ?_ | refine Ops.pick_f rfl (by conv => lhs; whnf) ?_ | refine Ops.extract rfl rfl ?_ | refine Ops.un rfl rfl ?_ | refine Ops.no rfl rfl rfl ?_ | refine Ops.no_u rfl rfl ?_)
    refine Run.ret ⟨.inl rfl, ResK.tmp rfl (by conv => lhs; whnf) (ResK.nil ?_)⟩
    exact ⟨by rw [hc]; rfl, rfl⟩
  · repeat' (first | refine Run.seq ?_ | refine Run.region (by kernel_rfl) ?_ | refine Ops.nil ?_ | refine Ops.move (by conv => lhs; whnf) ?_ | refine Ops.assign (by conv => lhs; whnf) ?_ | refine Run.cond_t rfl rfl ?_ | refine Run.cond_f rfl rfl ?_ | refine Run.skip ?_ | refine Run.exit ?_ | refine Run.block ?_ | refine Ops.len (by assumption) (by kernel_rfl) ?_ | refine Ops.len (Ac.sl (by assumption)) (by kernel_rfl) ?_ | refine Ops.add rfl rfl (by omega) (by omega) ?_ | refine Ops.sub rfl rfl (by omega) (by omega) ?_ | refine Ops.not_t rfl ?_ | refine Ops.not_f rfl ?_ | refine Ops.pick_t rfl (by conv => lhs; whnf) ?_ | refine Ops.pick_f rfl (by conv => lhs; whnf) ?_ | refine Ops.extract rfl rfl ?_ | refine Ops.un rfl rfl ?_ | refine Ops.no rfl rfl rfl ?_ | refine Ops.no_u rfl rfl ?_)
    refine Run.ret ⟨.inl rfl, ResK.tmp rfl (by conv => lhs; whnf) (ResK.nil ?_)⟩
    exact ⟨by rw [hc]; rfl, rfl⟩

theorem isTuple_ok {H : Hp} {v : Value} {l : List Int} (h : Sl cI H v l) : acall Try.prog 65 [v] H (.bool (dec (isTup l))) H := by
  refine CallK.eq (CallK.enter Try.func65 rfl rfl Try.ntmps65 Try.results65 rfl ?_)
  repeat' (first | refine Run.seq ?_ | refine Run.region (by kernel_rfl) ?_ | refine Ops.nil ?_ | refine Ops.move (by conv => lhs; whnf) ?_ | refine Ops.assign (by conv => lhs; whnf) ?_ | refine Run.cond_t rfl rfl ?_ | refine Run.cond_f rfl rfl ?_ | refine Run.skip ?_ | refine Run.exit ?_ | refine Run.block ?_ | refine Ops.len (by assumption) (by kernel_rfl) ?_ | refine Ops.len (Ac.sl (by assumption)) (by kernel_rfl) ?_ | refine Ops.add rfl rfl (by omega) (by omega) ?_ | refine Ops.sub rfl rfl (by omega) (by omega) ?_ | refine Ops.not_t rfl ?_ | refine Ops.not_f rfl ?_ | refine Ops.pick_t rfl (by conv => lhs; whnf) ?_ | refine Ops.pick_f rfl (by conv => lhs; whnf) ?_ | refine Ops.extract rfl rfl ?_ | refine Ops.un rfl rfl ?_ | refine Ops.no rfl rfl rfl ?_ | refine Ops.no_u rfl rfl ?_)
  refine Ops.cmp rfl rfl rfl (fun hc => ?_) (fun hc => ?_)
  · repeat' (first | refine Run.seq ?_ | refine Run.region (by kernel_rfl) ?_ | refine Ops.nil ?_ | refine Ops.move (by conv => lhs; whnf) ?_ | refine Ops.assign (by conv => lhs; whnf) ?_ | refine Run.cond_t rfl rfl ?_ | refine Run.cond_f rfl rfl ?_ | refine Run.skip ?_ | refine Run.exit ?_ | refine Run.block ?_ | refine Ops.len (by assumption) (by kernel_rfl) ?_ | refine Ops.len (Ac.sl (by assumption)) (by kernel_rfl) ?_ | refine Ops.add rfl rfl (by omega) (by omega) ?_ | refine Ops.sub rfl rfl (by omega) (by omega) ?_ | refine Ops.not_t rfl ?_ | refine Ops.not_f rfl ?_ | refine Ops.pick_t rfl (by conv => lhs; whnf) ?_ | refine Ops.pick_f rfl (by conv => lhs; whnf) ?_ | refine Ops.extract rfl rfl ?_ | refine Ops.un rfl rfl ?_ | refine Ops.no rfl rfl rfl ?_ | refine Ops.no_u rfl rfl ?_)
    refine Ops.callB (ContainsFuncI_ok (first := #[]) (caps := #[]) (p := fun x => !dec (isAtomP x)) h (fun x _ => notAtom_ok)) (fun hc2 => ?_) (fun hc2 => ?_)
    · repeat' (first | refine Run.seq ?_ | refine Run.region (by kernel_rfl) ?_ | refine Ops.nil ?_ | refine Ops.move (by conv => lhs; whnf) ?_ | refine Ops.assign (by conv => lhs; whnf) ?_ | refine Run.cond_t rfl rfl ?_ | refine Run.cond_f rfl rfl ?_ | refine Run.skip ?_ | refine Run.exit ?_ | refine Run.block ?_ | refine Ops.len (by assumption) (by kernel_rfl) ?_ | refine Ops.len (Ac.sl (by assumption)) (by kernel_rfl) ?_ | refine Ops.add rfl rfl (by omega) (by omega) ?_ | refine Ops.sub rfl rfl (by omega) (by omega) ?_ | refine Ops.not_t rfl ?_ | refine Ops.not_f rfl ?_ | refine Ops.pick_t rfl (by conv => lhs; whnf) ?_ | refine Ops.pick_f rfl (by conv => lhs; whnf) ?_ | refine Ops.extract rfl rfl ?_ | refine Ops.un rfl rfl ?_ | refine Ops.no rfl rfl rfl ?_ | refine Ops.no_u rfl rfl ?_)
      refine Run.ret ⟨.inl rfl, ResK.tmp rfl (by conv => lhs; whnf) (ResK.nil ?_)⟩
      refine ⟨?_, rfl⟩
      rw [dec_f]; rfl
      intro h2
      obtain ⟨a, ha, hp⟩ := List.any_eq_true.1 hc2
      rw [dec_t (h2.2 a ha)] at hp; cases hp
    · repeat' (first | refine Run.seq ?_ | refine Run.region (by kernel_rfl) ?_ | refine Ops.nil ?_ | refine Ops.move (by conv => lhs; whnf) ?_ | refine Ops.assign (by conv => lhs; whnf) ?_ | refine Run.cond_t rfl rfl ?_ | refine Run.cond_f rfl rfl ?_ | refine Run.skip ?_ | refine Run.exit ?_ | refine Run.block ?_ | refine Ops.len (by assumption) (by kernel_rfl) ?_ | refine Ops.len (Ac.sl (by assumption)) (by kernel_rfl) ?_ | refine Ops.add rfl rfl (by omega) (by omega) ?_ | refine Ops.sub rfl rfl (by omega) (by omega) ?_ | refine Ops.not_t rfl ?_ | refine Ops.not_f rfl ?_ | refine Ops.pick_t rfl (by conv => lhs; whnf) ?_ | refine Ops.pick_f rfl (by conv => lhs; whnf) ?_ | refine Ops.extract rfl rfl ?_ | refine Ops.un rfl rfl ?_ | refine Ops.no rfl rfl rfl ?_ | refine Ops.no_u rfl rfl ?_)
      refine Run.ret ⟨.inl rfl, ResK.tmp rfl (by conv => lhs; whnf) (ResK.nil ?_)⟩
      refine ⟨?_, rfl⟩
      rw [dec_t]; rfl
      refine ⟨by omega, fun a ha => ?_⟩
      rw [← Bool.not_eq_true, List.any_eq_true] at hc2
      refine Classical.byContradiction fun hn => hc2 ⟨a, ha, by rw [dec_f hn]; rfl⟩
  · repeat' (first | refine Run.seq ?_ | refine Run.region (by kernel_rfl) ?_ | refine Ops.nil ?_ | refine Ops.move (by conv => lhs; whnf) ?_ | refine Ops.assign (by conv => lhs; whnf) ?_ | refine Run.cond_t rfl rfl ?_ | refine Run.cond_f rfl rfl ?_ | refine Run.skip ?_ | refine Run.exit ?_ | refine Run.block ?_ | refine Ops.len (by assumption) (by kernel_rfl) ?_ | refine Ops.len (Ac.sl (by assumption)) (by kernel_rfl) ?_ | refine Ops.add rfl rfl (by omega) (by omega) ?_ | refine Ops.sub rfl rfl (by omega) (by omega) ?_ | refine Ops.not_t rfl ?_ | refine Ops.not_f rfl ?_ | refine Ops.pick_t rfl (by conv => lhs; whnf) ?_ | refine Ops.pick_f rfl (by conv => lhs; whnf) ?_ | refine Ops.extract rfl rfl ?_ | refine Ops.un rfl rfl ?_ | refine Ops.no rfl rfl rfl ?_ | refine Ops.no_u rfl rfl ?_)
    refine Run.ret ⟨.inl rfl, ResK.tmp rfl (by conv => lhs; whnf) (ResK.nil ?_)⟩
    exact ⟨by rw [dec_f (fun h => by have := h.1; omega)]; rfl, rfl⟩

theorem IndexI_ok {H : Hp} {v : Value} {l : List Int} {x : Int} (h : Sl cI H v l) : acall Try.prog 91 [v, .int .i64 x] H (.int .i64 (findI (fun y => x == y) l)) H := by
  have hmx := h.max
  simp only [maxLen] at hmx
  refine CallK.eq (CallK.enter Try.func91 rfl rfl Try.ntmps91 Try.results91 rfl ?_)
  repeat' (first | refine Run.seq ?_ | refine Run.region (by kernel_rfl) ?_ | refine Ops.nil ?_ | refine Ops.move (by conv => lhs; whnf) ?_ | refine Ops.assign (by conv => lhs; whnf) ?_ | refine Run.cond_t rfl rfl ?_ | refine Run.cond_f rfl rfl ?_ | refine Run.skip ?_ | refine Run.exit ?_ | refine Run.block ?_ | refine Ops.len (by assumption) (by kernel_rfl) ?_ | refine Ops.len (Ac.sl (by assumption)) (by kernel_rfl) ?_ | refine Ops.add rfl rfl (by omega) (by omega) ?_ | refine Ops.sub rfl rfl (by omega) (by omega) ?_ | refine Ops.not_t rfl ?_ | refine Ops.not_f rfl ?_ | refine Ops.pick_t rfl (by conv => lhs; whnf) ?_ | refine Ops.pick_f rfl (by conv => lhs; whnf) ?_ | refine Ops.extract rfl rfl ?_ | refine Ops.un rfl rfl ?_ | refine Ops.no rfl rfl rfl ?_ | refine Ops.no_u rfl rfl ?_)
  refine Run.loopW (fun i => l.length - i) (fun (i : Nat) => up (up (up (up (up jk 0 v) 1 (.int .i64 x)) 6 v) 7 (.int .i64 l.length)) 8 (.int .i64 (i : Int))) (fun _ => H) (fun i => i ≤ l.length ∧ ∀ b ∈ l.take i, (x == b) = false) 0 rfl (by repeat (first | exact Wk.jk | refine Wk.up rfl ?_)) ⟨by omega, by simp⟩ ?_
  rintro i ⟨hi, hx⟩
  repeat' (first | refine Run.seq ?_ | refine Run.region (by kernel_rfl) ?_ | refine Ops.nil ?_ | refine Ops.move (by conv => lhs; whnf) ?_ | refine Ops.assign (by conv => lhs; whnf) ?_ | refine Run.cond_t rfl rfl ?_ | refine Run.cond_f rfl rfl ?_ | refine Run.skip ?_ | refine Run.exit ?_ | refine Run.block ?_ | refine Ops.len (by assumption) (by kernel_rfl) ?_ | refine Ops.len (Ac.sl (by assumption)) (by kernel_rfl) ?_ | refine Ops.add rfl rfl (by omega) (by omega) ?_ | refine Ops.sub rfl rfl (by omega) (by omega) ?_ | refine Ops.not_t rfl ?_ | refine Ops.not_f rfl ?_ | refine Ops.pick_t rfl (by conv => lhs; whnf) ?_ | refine Ops.pick_f rfl (by conv => lhs; whnf) ?_ | refine Ops.extract rfl rfl ?_ | refine Ops.un rfl rfl ?_ | refine Ops.no rfl rfl rfl ?_ | refine Ops.no_u rfl rfl ?_)
  refine Ops.cmp rfl rfl rfl (fun hc => ?_) (fun hc => ?_)
  · repeat' (first | refine Run.seq ?_ | refine Run.region (by kernel_rfl) ?_ | refine Ops.nil ?_ | refine Ops.move (by conv => lhs; whnf) ?_ | refine Ops.assign (by conv => lhs; whnf) ?_ | refine Run.cond_t rfl rfl ?_ | refine Run.cond_f rfl rfl ?_ | refine Run.skip ?_ | refine Run.exit ?_ | refine Run.block ?_ | refine Ops.len (by assumption) (by kernel_rfl) ?_ | refine Ops.len (Ac.sl (by assumption)) (by kernel_rfl) ?_ | refine Ops.add rfl rfl (by omega) (by omega) ?_ | refine Ops.sub rfl rfl (by omega) (by omega) ?_ | refine Ops.not_t rfl ?_ | refine Ops.not_f rfl ?_ | refine Ops.pick_t rfl (by conv => lhs; whnf) ?_ | refine Ops.pick_f rfl (by conv => lhs; whnf) ?_ | refine Ops.extract rfl rfl ?_ | refine Ops.un rfl rfl ?_ | refine Ops.no rfl rfl rfl ?_ | refine Ops.no_u rfl rfl ?_)
    refine Ops.idxI h rfl (by omega) (by omega) (by kernel_rfl) (by kernel_rfl) fun pz a ha => ?_
    have ha' : l[i]? = some a := ha
    refine Ops.cmp rfl rfl rfl (fun hc2 => ?_) (fun hc2 => ?_)
    · repeat' (first | refine Run.seq ?_ | refine Run.region (by kernel_rfl) ?_ | refine Ops.nil ?_ | refine Ops.move (by conv => lhs; whnf) ?_ | refine Ops.assign (by conv => lhs; whnf) ?_ | refine Run.cond_t rfl rfl ?_ | refine Run.cond_f rfl rfl ?_ | refine Run.skip ?_ | refine Run.exit ?_ | refine Run.block ?_ | refine Ops.len (by assumption) (by kernel_rfl) ?_ | refine Ops.len (Ac.sl (by assumption)) (by kernel_rfl) ?_ | refine Ops.add rfl rfl (by omega) (by omega) ?_ | refine Ops.sub rfl rfl (by omega) (by omega) ?_ | refine Ops.not_t rfl ?_ | refine Ops.not_f rfl ?_ | refine Ops.pick_t rfl (by conv => lhs; whnf) ?_ | refine Ops.pick_f rfl (by conv => lhs; whnf) ?_ | refine Ops.extract rfl rfl ?_ | refine Ops.un rfl rfl ?_ | refine Ops.no rfl rfl rfl ?_ | refine Ops.no_u rfl rfl ?_)
      refine Run.ret ⟨.inl rfl, ResK.tmp rfl (by conv => lhs; whnf) (ResK.nil ?_)⟩
      exact ⟨by rw [findI_hit (p := fun y => x == y) ha' (by simp [hc2]) hx]; rfl, rfl⟩
    · repeat' (first | refine Run.seq ?_ | refine Run.region (by kernel_rfl) ?_ | refine Ops.nil ?_ | refine Ops.move (by conv => lhs; whnf) ?_ | refine Ops.assign (by conv => lhs; whnf) ?_ | refine Run.cond_t rfl rfl ?_ | refine Run.cond_f rfl rfl ?_ | refine Run.skip ?_ | refine Run.exit ?_ | refine Run.block ?_ | refine Ops.len (by assumption) (by kernel_rfl) ?_ | refine Ops.len (Ac.sl (by assumption)) (by kernel_rfl) ?_ | refine Ops.add rfl rfl (by omega) (by omega) ?_ | refine Ops.sub rfl rfl (by omega) (by omega) ?_ | refine Ops.not_t rfl ?_ | refine Ops.not_f rfl ?_ | refine Ops.pick_t rfl (by conv => lhs; whnf) ?_ | refine Ops.pick_f rfl (by conv => lhs; whnf) ?_ | refine Ops.extract rfl rfl ?_ | refine Ops.un rfl rfl ?_ | refine Ops.no rfl rfl rfl ?_ | refine Ops.no_u rfl rfl ?_)
      refine ⟨i + 1, by dsimp only; omega, rfl, rfl, by dsimp only; exact (by repeat (first | exact Wk.jk | refine Wk.up rfl ?_)), ?_⟩
      refine ⟨by omega, fun b hb => ?_⟩
      rw [take_snoc ha'] at hb
      rcases List.mem_append.1 hb with h1 | h1
      · exact hx b h1
      · obtain rfl := List.mem_singleton.1 h1
        simpa using hc2
  · repeat' (first | refine Run.seq ?_ | refine Run.region (by kernel_rfl) ?_ | refine Ops.nil ?_ | refine Ops.move (by conv => lhs; whnf) ?_ | refine Ops.assign (by conv => lhs; whnf) ?_ | refine Run.cond_t rfl rfl ?_ | refine Run.cond_f rfl rfl ?_ | refine Run.skip ?_ | refine Run.exit ?_ | refine Run.block ?_ | refine Ops.len (by assumption) (by kernel_rfl) ?_ | refine Ops.len (Ac.sl (by assumption)) (by kernel_rfl) ?_ | refine Ops.add rfl rfl (by omega) (by omega) ?_ | refine Ops.sub rfl rfl (by omega) (by omega) ?_ | refine Ops.not_t rfl ?_ | refine Ops.not_f rfl ?_ | refine Ops.pick_t rfl (by conv => lhs; whnf) ?_ | refine Ops.pick_f rfl (by conv => lhs; whnf) ?_ | refine Ops.extract rfl rfl ?_ | refine Ops.un rfl rfl ?_ | refine Ops.no rfl rfl rfl ?_ | refine Ops.no_u rfl rfl ?_)
    rw [take_end (by omega)] at hx
    refine Run.ret ⟨.inl rfl, ResK.tmp rfl (by conv => lhs; whnf) (ResK.nil ?_)⟩
    exact ⟨by rw [findI_miss (p := fun y => x == y) hx]; rfl, rfl⟩

theorem toIntS_ok {H : Hp} {v : Value} {l : List Int} (h : Sl cI H v l) (hl : l.length ≤ 1048576) : CallK Try.prog 25 [v] H (fun r H' => Calm H H' ∧ Ac cI 3 H.nxt H' r l) := by
  refine (CallK.enter Try.func25 rfl rfl Try.ntmps25 Try.results25 rfl ?_)
  repeat' (first | refine Run.seq ?_ | refine Run.region (by kernel_rfl) ?_ | refine Ops.nil ?_ | refine Ops.move (by conv => lhs; whnf) ?_ | refine Ops.assign (by conv => lhs; whnf) ?_ | refine Run.cond_t rfl rfl ?_ | refine Run.cond_f rfl rfl ?_ | refine Run.skip ?_ | refine Run.exit ?_ | refine Run.block ?_ | refine Ops.len (by assumption) (by kernel_rfl) ?_ | refine Ops.len (Ac.sl (by assumption)) (by kernel_rfl) ?_ | refine Ops.add rfl rfl (by omega) (by omega) ?_ | refine Ops.sub rfl rfl (by omega) (by omega) ?_ | refine Ops.not_t rfl ?_ | refine Ops.not_f rfl ?_ | refine Ops.pick_t rfl (by conv => lhs; whnf) ?_ | refine Ops.pick_f rfl (by conv => lhs; whnf) ?_ | refine Ops.extract rfl rfl ?_ | refine Ops.un rfl rfl ?_ | refine Ops.no rfl rfl rfl ?_ | refine Ops.no_u rfl rfl ?_)
  refine Ops.make (q := l.length) (a := (0 : Int)) (z0 := .int .i64 0) cI 3 H.nxt (by kernel_rfl) (fun _ => rfl) rfl rfl (by kernel_rfl) (by kernel_rfl) (Nat.le_refl _) (by show l.length * 1 ≤ _; omega) (by omega) fun u H1 a1 c1 p1 => ?_
  repeat' (first | refine Run.seq ?_ | refine Run.region (by kernel_rfl) ?_ | refine Ops.nil ?_ | refine Ops.move (by conv => lhs; whnf) ?_ | refine Ops.assign (by conv => lhs; whnf) ?_ | refine Run.cond_t rfl rfl ?_ | refine Run.cond_f rfl rfl ?_ | refine Run.skip ?_ | refine Run.exit ?_ | refine Run.block ?_ | refine Ops.len (by assumption) (by kernel_rfl) ?_ | refine Ops.len (Ac.sl (by assumption)) (by kernel_rfl) ?_ | refine Ops.add rfl rfl (by omega) (by omega) ?_ | refine Ops.sub rfl rfl (by omega) (by omega) ?_ | refine Ops.not_t rfl ?_ | refine Ops.not_f rfl ?_ | refine Ops.pick_t rfl (by conv => lhs; whnf) ?_ | refine Ops.pick_f rfl (by conv => lhs; whnf) ?_ | refine Ops.extract rfl rfl ?_ | refine Ops.un rfl rfl ?_ | refine Ops.no rfl rfl rfl ?_ | refine Ops.no_u rfl rfl ?_)
  refine Run.loopW (fun (a : Nat × Hp × List Int) => l.length - a.1) (fun a => up (up (up jk 0 v) 3 u) 4 (.int .i64 (a.1 : Int))) (fun a => a.2.1)
    (fun a => a.1 ≤ l.length ∧ Calm H a.2.1 ∧ Ac cI 3 H.nxt a.2.1 u a.2.2 ∧ a.2.2.length = l.length ∧ a.2.2.take a.1 = l.take a.1) (0, H1, List.replicate l.length 0) rfl (by repeat (first | exact Wk.jk | refine Wk.up rfl ?_)) ⟨by dsimp only; omega, c1, a1, by simp, by simp⟩ ?_
  rintro ⟨i, H2, m⟩ ⟨hi, c2, a2, hm, hx⟩
  dsimp only at hi c2 a2 hm hx
  dsimp only
  have s2 := h.calm c2
  repeat' (first | refine Run.seq ?_ | refine Run.region (by kernel_rfl) ?_ | refine Ops.nil ?_ | refine Ops.move (by conv => lhs; whnf) ?_ | refine Ops.assign (by conv => lhs; whnf) ?_ | refine Run.cond_t rfl rfl ?_ | refine Run.cond_f rfl rfl ?_ | refine Run.skip ?_ | refine Run.exit ?_ | refine Run.block ?_ | refine Ops.len (by assumption) (by kernel_rfl) ?_ | refine Ops.len (Ac.sl (by assumption)) (by kernel_rfl) ?_ | refine Ops.add rfl rfl (by omega) (by omega) ?_ | refine Ops.sub rfl rfl (by omega) (by omega) ?_ | refine Ops.not_t rfl ?_ | refine Ops.not_f rfl ?_ | refine Ops.pick_t rfl (by conv => lhs; whnf) ?_ | refine Ops.pick_f rfl (by conv => lhs; whnf) ?_ | refine Ops.extract rfl rfl ?_ | refine Ops.un rfl rfl ?_ | refine Ops.no rfl rfl rfl ?_ | refine Ops.no_u rfl rfl ?_)
  refine Ops.cmp rfl rfl rfl (fun hc => ?_) (fun hc => ?_)
  · repeat' (first | refine Run.seq ?_ | refine Run.region (by kernel_rfl) ?_ | refine Ops.nil ?_ | refine Ops.move (by conv => lhs; whnf) ?_ | refine Ops.assign (by conv => lhs; whnf) ?_ | refine Run.cond_t rfl rfl ?_ | refine Run.cond_f rfl rfl ?_ | refine Run.skip ?_ | refine Run.exit ?_ | refine Run.block ?_ | refine Ops.len (by assumption) (by kernel_rfl) ?_ | refine Ops.len (Ac.sl (by assumption)) (by kernel_rfl) ?_ | refine Ops.add rfl rfl (by omega) (by omega) ?_ | refine Ops.sub rfl rfl (by omega) (by omega) ?_ | refine Ops.not_t rfl ?_ | refine Ops.not_f rfl ?_ | refine Ops.pick_t rfl (by conv => lhs; whnf) ?_ | refine Ops.pick_f rfl (by conv => lhs; whnf) ?_ | refine Ops.extract rfl rfl ?_ | refine Ops.un rfl rfl ?_ | refine Ops.no rfl rfl rfl ?_ | refine Ops.no_u rfl rfl ?_)
    refine Ops.idxI s2 rfl (by omega) (by omega) (by kernel_rfl) (by kernel_rfl) fun pz a ha => ?_
    have ha' : l[i]? = some a := ha
    have hne : m ≠ [] := fun e => by have h5 : m.length = 0 := (by rw [e]; rfl); omega
    obtain ⟨r, hqr, hr⟩ := a2.rt hne
    refine Ops.set (r := r) (a := a) a2 hr rfl (by omega) (by omega) rfl (by simp) (by kernel_rfl) (by kernel_rfl) (fun _ _ _ _ _ h => h) fun p H3 hm3 a3 => ?_
    repeat' (first | refine Run.seq ?_ | refine Run.region (by kernel_rfl) ?_ | refine Ops.nil ?_ | refine Ops.move (by conv => lhs; whnf) ?_ | refine Ops.assign (by conv => lhs; whnf) ?_ | refine Run.cond_t rfl rfl ?_ | refine Run.cond_f rfl rfl ?_ | refine Run.skip ?_ | refine Run.exit ?_ | refine Run.block ?_ | refine Ops.len (by assumption) (by kernel_rfl) ?_ | refine Ops.len (Ac.sl (by assumption)) (by kernel_rfl) ?_ | refine Ops.add rfl rfl (by omega) (by omega) ?_ | refine Ops.sub rfl rfl (by omega) (by omega) ?_ | refine Ops.not_t rfl ?_ | refine Ops.not_f rfl ?_ | refine Ops.pick_t rfl (by conv => lhs; whnf) ?_ | refine Ops.pick_f rfl (by conv => lhs; whnf) ?_ | refine Ops.extract rfl rfl ?_ | refine Ops.un rfl rfl ?_ | refine Ops.no rfl rfl rfl ?_ | refine Ops.no_u rfl rfl ?_)
    refine ⟨(i + 1, H3, m.set i a), by dsimp only; omega, rfl, rfl, by dsimp only; exact (by repeat (first | exact Wk.jk | refine Wk.up rfl ?_)), ?_⟩
    refine ⟨by dsimp only; omega, hm3.calm c2 hqr, a3, by simp [hm], ?_⟩
    show (m.set i a).take (i + 1) = l.take (i + 1)
    rw [set_take (by omega), hx, take_snoc ha']
  · repeat' (first | refine Run.seq ?_ | refine Run.region (by kernel_rfl) ?_ | refine Ops.nil ?_ | refine Ops.move (by conv => lhs; whnf) ?_ | refine Ops.assign (by conv => lhs; whnf) ?_ | refine Run.cond_t rfl rfl ?_ | refine Run.cond_f rfl rfl ?_ | refine Run.skip ?_ | refine Run.exit ?_ | refine Run.block ?_ | refine Ops.len (by assumption) (by kernel_rfl) ?_ | refine Ops.len (Ac.sl (by assumption)) (by kernel_rfl) ?_ | refine Ops.add rfl rfl (by omega) (by omega) ?_ | refine Ops.sub rfl rfl (by omega) (by omega) ?_ | refine Ops.not_t rfl ?_ | refine Ops.not_f rfl ?_ | refine Ops.pick_t rfl (by conv => lhs; whnf) ?_ | refine Ops.pick_f rfl (by conv => lhs; whnf) ?_ | refine Ops.extract rfl rfl ?_ | refine Ops.un rfl rfl ?_ | refine Ops.no rfl rfl rfl ?_ | refine Ops.no_u rfl rfl ?_)
    refine Run.ret ⟨.inl rfl, ResK.tmp rfl (by conv => lhs; whnf) (ResK.nil ?_)⟩
    rw [take_end (by omega), take_end (by omega)] at hx
    subst hx
    exact ⟨c2, a2⟩

end Go.Proofs.Ytefmjpbmdoebaaa
