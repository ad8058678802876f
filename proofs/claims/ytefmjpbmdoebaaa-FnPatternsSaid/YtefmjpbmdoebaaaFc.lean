/- The program's patterns of a width. -/
import Derived.Test.YtefmjpbmdoebaaaFb
set_option linter.unusedVariables false
namespace Go.Proofs.Ytefmjpbmdoebaaa
open Go Go.RowKit

def topOf (k : Int) (p : List Int) : Int := p.foldl (fun t n => max t (n + 1)) k
def longerL (k : Int) (p : List Int) : List (List Int) := (List.range (topOf k p + 1).toNat).map fun (n : Nat) => p ++ [(n : Int)]
def pats (k : Int) : Nat → List (List Int)
  | 0 => [[]]
  | w + 1 => (pats k w).flatMap (longerL k)
def patsOf (w k : Int) : List (List Int) := if 0 ≤ w ∧ w ≤ 4 ∧ 0 ≤ k ∧ k ≤ 3 then pats k w.toNat else []

theorem topOf_snoc (k : Int) (p : List Int) (a : Int) : topOf k (p ++ [a]) = max (topOf k p) (a + 1) := by simp [topOf]
theorem topOf_le {k b : Int} : ∀ {p : List Int}, k ≤ b → (∀ n ∈ p, n + 1 ≤ b) → topOf k p ≤ b := by
  intro p
  unfold topOf
  induction p generalizing k with
  | nil => intro h _; exact h
  | cons a t ih =>
    intro h1 h2
    exact ih (by have := h2 a (by simp); show max k (a + 1) ≤ b; omega) fun n hn => h2 n (by simp [hn])
theorem topOf_ge {k : Int} : ∀ {p : List Int}, k ≤ topOf k p := by
  intro p
  unfold topOf
  induction p generalizing k with
  | nil => simp
  | cons a t ih => exact Int.le_trans (by omega) (ih (k := max k (a + 1)))

theorem pats_mem {k : Int} (hk : 0 ≤ k) : ∀ {w : Nat} {p : List Int}, p ∈ pats k w → p.length = w ∧ ∀ n ∈ p, 0 ≤ n ∧ n + 1 ≤ k + w := by
  intro w
  induction w with
  | zero => intro p hp; simp [pats] at hp; subst hp; simp
  | succ w ih =>
    intro p hp
    simp only [pats, List.mem_flatMap] at hp
    obtain ⟨q, hq, hp⟩ := hp
    obtain ⟨h1, h2⟩ := ih hq
    unfold longerL at hp
    obtain ⟨n, hn, rfl⟩ := List.mem_map.1 hp
    have hn' := List.mem_range.1 hn
    have ht : topOf k q ≤ k + w := topOf_le (by omega) fun n hn => (h2 n hn).2
    refine ⟨by simp [h1], fun m hm => ?_⟩
    rcases List.mem_append.1 hm with h3 | h3
    · have := h2 m h3; omega
    · simp at h3; omega

theorem longerL_length {k : Int} {p : List Int} : (longerL k p).length = (topOf k p + 1).toNat := by simp [longerL]

theorem flatMap_len {α β : Type} {f : α → List β} {b : Nat} : ∀ {l : List α}, (∀ a ∈ l, (f a).length ≤ b) → (l.flatMap f).length ≤ l.length * b := by
  intro l
  induction l with
  | nil => intro _; simp
  | cons a t ih =>
    intro h
    rw [List.flatMap_cons, List.length_append, List.length_cons, Nat.add_mul, Nat.one_mul, Nat.add_comm]
    exact Nat.add_le_add (ih fun x hx => h x (by simp [hx])) (h a (by simp))

theorem pats_length {k : Int} (hk : 0 ≤ k) (hk3 : k ≤ 3) : ∀ {w : Nat}, w ≤ 4 → (pats k w).length ≤ 8 ^ w := by
  intro w
  induction w with
  | zero => intro _; simp [pats]
  | succ w ih =>
    intro hw
    rw [Nat.pow_succ]
    refine Nat.le_trans (flatMap_len (b := 8) fun p hp => ?_) (Nat.mul_le_mul_right _ (ih (by omega)))
    have := topOf_le (k := k) (b := k + w) (p := p) (by omega) fun n hn => ((pats_mem hk hp).2 n hn).2
    rw [longerL_length]; omega

theorem longer_ok {H : Hp} {v : Value} {p : List Int} {k : Int} (h : Sl cI H v p) (hp : ∀ n ∈ p, 0 ≤ n ∧ n ≤ 1000) (hl : p.length ≤ 1000) (hk : 0 ≤ k) (hk2 : k ≤ 1000) :
    CallK Try.prog 80 [v, .int .i64 k] H (fun r H' => Calm H H' ∧ ∃ ls, OAc cI 3 24 H.nxt H' r ls ∧ ls.map (·.1) = longerL k p) := by
  refine (CallK.enter Try.func80 rfl rfl Try.ntmps80 Try.results80 rfl ?_)
  repeat' (first | refine Run.seq ?_ | refine Run.region (by kernel_rfl) ?_ | refine Ops.nil ?_ | refine Ops.move (by conv => lhs; whnf) ?_ | refine Ops.assign (by conv => lhs; whnf) ?_ | refine Run.cond_t rfl rfl ?_ | refine Run.cond_f rfl rfl ?_ | refine Run.skip ?_ | refine Run.exit ?_ | refine Run.block ?_ | refine Ops.len (by assumption) (by kernel_rfl) ?_ | refine Ops.len (Ac.sl (by assumption)) (by kernel_rfl) ?_ | refine Ops.add rfl rfl (by omega) (by omega) ?_ | refine Ops.sub rfl rfl (by omega) (by omega) ?_ | refine Ops.not_t rfl ?_ | refine Ops.not_f rfl ?_ | refine Ops.pick_t rfl (by conv => lhs; whnf) ?_ | refine Ops.pick_f rfl (by conv => lhs; whnf) ?_ | refine Ops.extract rfl rfl ?_ | refine Ops.un rfl rfl ?_ | refine Ops.no rfl rfl rfl ?_ | refine Ops.no_u rfl rfl ?_)
  refine Run.loopW (fun (i : Nat) => p.length - i) (fun i => up (up (up (up (up (up jk 0 v) 1 (.int .i64 k)) 5 (.int .i64 (topOf k (p.take i)))) 11 v) 12 (.int .i64 p.length)) 13 (.int .i64 (i : Int))) (fun _ => H) (fun i => i ≤ p.length) 0 rfl (by repeat (first | exact Wk.jk | refine Wk.up rfl ?_)) (by omega) ?_
  · intro i hi
    repeat' (first | refine Run.seq ?_ | refine Run.region (by kernel_rfl) ?_ | refine Ops.nil ?_ | refine Ops.move (by conv => lhs; whnf) ?_ | refine Ops.assign (by conv => lhs; whnf) ?_ | refine Run.cond_t rfl rfl ?_ | refine Run.cond_f rfl rfl ?_ | refine Run.skip ?_ | refine Run.exit ?_ | refine Run.block ?_ | refine Ops.len (by assumption) (by kernel_rfl) ?_ | refine Ops.len (Ac.sl (by assumption)) (by kernel_rfl) ?_ | refine Ops.add rfl rfl (by omega) (by omega) ?_ | refine Ops.sub rfl rfl (by omega) (by omega) ?_ | refine Ops.not_t rfl ?_ | refine Ops.not_f rfl ?_ | refine Ops.pick_t rfl (by conv => lhs; whnf) ?_ | refine Ops.pick_f rfl (by conv => lhs; whnf) ?_ | refine Ops.extract rfl rfl ?_ | refine Ops.un rfl rfl ?_ | refine Ops.no rfl rfl rfl ?_ | refine Ops.no_u rfl rfl ?_)
    refine Ops.cmp rfl rfl rfl (fun hc => ?_) (fun hc => ?_)
    · repeat' (first | refine Run.seq ?_ | refine Run.region (by kernel_rfl) ?_ | refine Ops.nil ?_ | refine Ops.move (by conv => lhs; whnf) ?_ | refine Ops.assign (by conv => lhs; whnf) ?_ | refine Run.cond_t rfl rfl ?_ | refine Run.cond_f rfl rfl ?_ | refine Run.skip ?_ | refine Run.exit ?_ | refine Run.block ?_ | refine Ops.len (by assumption) (by kernel_rfl) ?_ | refine Ops.len (Ac.sl (by assumption)) (by kernel_rfl) ?_ | refine Ops.add rfl rfl (by omega) (by omega) ?_ | refine Ops.sub rfl rfl (by omega) (by omega) ?_ | refine Ops.not_t rfl ?_ | refine Ops.not_f rfl ?_ | refine Ops.pick_t rfl (by conv => lhs; whnf) ?_ | refine Ops.pick_f rfl (by conv => lhs; whnf) ?_ | refine Ops.extract rfl rfl ?_ | refine Ops.un rfl rfl ?_ | refine Ops.no rfl rfl rfl ?_ | refine Ops.no_u rfl rfl ?_)
      refine Ops.idxI h rfl (by omega) (by omega) (by kernel_rfl) (by kernel_rfl) fun pz a ha => ?_
      have ha' : p[i]? = some a := ha
      have hpa := hp a (List.mem_of_getElem? ha')
      repeat' (first | refine Run.seq ?_ | refine Run.region (by kernel_rfl) ?_ | refine Ops.nil ?_ | refine Ops.move (by conv => lhs; whnf) ?_ | refine Ops.assign (by conv => lhs; whnf) ?_ | refine Run.cond_t rfl rfl ?_ | refine Run.cond_f rfl rfl ?_ | refine Run.skip ?_ | refine Run.exit ?_ | refine Run.block ?_ | refine Ops.len (by assumption) (by kernel_rfl) ?_ | refine Ops.len (Ac.sl (by assumption)) (by kernel_rfl) ?_ | refine Ops.add rfl rfl (by omega) (by omega) ?_ | refine Ops.sub rfl rfl (by omega) (by omega) ?_ | refine Ops.not_t rfl ?_ | refine Ops.not_f rfl ?_ | refine Ops.pick_t rfl (by conv => lhs; whnf) ?_ | refine Ops.pick_f rfl (by conv => lhs; whnf) ?_ | refine Ops.extract rfl rfl ?_ | refine Ops.un rfl rfl ?_ | refine Ops.no rfl rfl rfl ?_ | refine Ops.no_u rfl rfl ?_)
      refine Ops.max rfl rfl ?_
      repeat' (first | refine Run.seq ?_ | refine Run.region (by kernel_rfl) ?_ | refine Ops.nil ?_ | refine Ops.move (by conv => lhs; whnf) ?_ | refine Ops.assign (by conv => lhs; whnf) ?_ | refine Run.cond_t rfl rfl ?_ | refine Run.cond_f rfl rfl ?_ | refine Run.skip ?_ | refine Run.exit ?_ | refine Run.block ?_ | refine Ops.len (by assumption) (by kernel_rfl) ?_ | refine Ops.len (Ac.sl (by assumption)) (by kernel_rfl) ?_ | refine Ops.add rfl rfl (by omega) (by omega) ?_ | refine Ops.sub rfl rfl (by omega) (by omega) ?_ | refine Ops.not_t rfl ?_ | refine Ops.not_f rfl ?_ | refine Ops.pick_t rfl (by conv => lhs; whnf) ?_ | refine Ops.pick_f rfl (by conv => lhs; whnf) ?_ | refine Ops.extract rfl rfl ?_ | refine Ops.un rfl rfl ?_ | refine Ops.no rfl rfl rfl ?_ | refine Ops.no_u rfl rfl ?_)
      refine ⟨i + 1, by dsimp only; omega, rfl, rfl, ?_, by omega⟩
      have e : topOf k (p.take (i + 1)) = if a + 1 > topOf k (p.take i) then a + 1 else topOf k (p.take i) := by
        rw [take_snoc ha', topOf_snoc]; omega
      dsimp only
      rw [e]
      exact (by repeat (first | exact Wk.jk | refine Wk.up rfl ?_))
    · have hip : i = p.length := by omega
      subst hip
      rw [List.take_length]
      have ht : topOf k p ≤ 1001 := topOf_le (by omega) fun n hn => by have := hp n hn; omega
      have ht0 : k ≤ topOf k p := topOf_ge
      generalize hT : topOf k p = top at ht ht0
      repeat' (first | refine Run.seq ?_ | refine Run.region (by kernel_rfl) ?_ | refine Ops.nil ?_ | refine Ops.move (by conv => lhs; whnf) ?_ | refine Ops.assign (by conv => lhs; whnf) ?_ | refine Run.cond_t rfl rfl ?_ | refine Run.cond_f rfl rfl ?_ | refine Run.skip ?_ | refine Run.exit ?_ | refine Run.block ?_ | refine Ops.len (by assumption) (by kernel_rfl) ?_ | refine Ops.len (Ac.sl (by assumption)) (by kernel_rfl) ?_ | refine Ops.add rfl rfl (by omega) (by omega) ?_ | refine Ops.sub rfl rfl (by omega) (by omega) ?_ | refine Ops.not_t rfl ?_ | refine Ops.not_f rfl ?_ | refine Ops.pick_t rfl (by conv => lhs; whnf) ?_ | refine Ops.pick_f rfl (by conv => lhs; whnf) ?_ | refine Ops.extract rfl rfl ?_ | refine Ops.un rfl rfl ?_ | refine Ops.no rfl rfl rfl ?_ | refine Ops.no_u rfl rfl ?_)
      refine Run.loopW (fun (a : Nat × Value × Hp × List (List Int × List Nat)) => 1002 - a.1) (fun a => up (up (up (up jk 0 v) 8 a.2.1) 23 (.int .i64 (top + 1))) 24 (.int .i64 (a.1 : Int))) (fun a => a.2.2.1)
        (fun a => (a.1 : Int) ≤ top + 1 ∧ Calm H a.2.2.1 ∧ OAc cI 3 24 H.nxt a.2.2.1 a.2.1 a.2.2.2 ∧ a.2.2.2.map (·.1) = (List.range a.1).map fun (n : Nat) => p ++ [(n : Int)]) (0, nilS, H, []) rfl (by repeat (first | exact Wk.jk | refine Wk.up rfl ?_))
        ⟨by dsimp only; omega, Calm.refl H, OAc.nil, rfl⟩ ?_
      rintro ⟨n, v8, H1, ls⟩ ⟨hn, c1, a8, hls⟩
      dsimp only at hn c1 a8 hls
      dsimp only
      have hlen : ls.length = n := by have := congrArg List.length hls; simpa using this
      repeat' (first | refine Run.seq ?_ | refine Run.region (by kernel_rfl) ?_ | refine Ops.nil ?_ | refine Ops.move (by conv => lhs; whnf) ?_ | refine Ops.assign (by conv => lhs; whnf) ?_ | refine Run.cond_t rfl rfl ?_ | refine Run.cond_f rfl rfl ?_ | refine Run.skip ?_ | refine Run.exit ?_ | refine Run.block ?_ | refine Ops.len (by assumption) (by kernel_rfl) ?_ | refine Ops.len (Ac.sl (by assumption)) (by kernel_rfl) ?_ | refine Ops.add rfl rfl (by omega) (by omega) ?_ | refine Ops.sub rfl rfl (by omega) (by omega) ?_ | refine Ops.not_t rfl ?_ | refine Ops.not_f rfl ?_ | refine Ops.pick_t rfl (by conv => lhs; whnf) ?_ | refine Ops.pick_f rfl (by conv => lhs; whnf) ?_ | refine Ops.extract rfl rfl ?_ | refine Ops.un rfl rfl ?_ | refine Ops.no rfl rfl rfl ?_ | refine Ops.no_u rfl rfl ?_)
      refine Ops.cmp rfl rfl rfl (fun hc2 => ?_) (fun hc2 => ?_)
      · repeat' (first | refine Run.seq ?_ | refine Run.region (by kernel_rfl) ?_ | refine Ops.nil ?_ | refine Ops.move (by conv => lhs; whnf) ?_ | refine Ops.assign (by conv => lhs; whnf) ?_ | refine Run.cond_t rfl rfl ?_ | refine Run.cond_f rfl rfl ?_ | refine Run.skip ?_ | refine Run.exit ?_ | refine Run.block ?_ | refine Ops.len (by assumption) (by kernel_rfl) ?_ | refine Ops.len (Ac.sl (by assumption)) (by kernel_rfl) ?_ | refine Ops.add rfl rfl (by omega) (by omega) ?_ | refine Ops.sub rfl rfl (by omega) (by omega) ?_ | refine Ops.not_t rfl ?_ | refine Ops.not_f rfl ?_ | refine Ops.pick_t rfl (by conv => lhs; whnf) ?_ | refine Ops.pick_f rfl (by conv => lhs; whnf) ?_ | refine Ops.extract rfl rfl ?_ | refine Ops.un rfl rfl ?_ | refine Ops.no rfl rfl rfl ?_ | refine Ops.no_u rfl rfl ?_)
        refine Ops.call (clone_ok (h.calm c1) (by omega)) (fun _ _ h _ => h.1.ge') fun r H2 => ?_
        rintro ⟨c2, a2⟩
        repeat' (first | refine Run.seq ?_ | refine Run.region (by kernel_rfl) ?_ | refine Ops.nil ?_ | refine Ops.move (by conv => lhs; whnf) ?_ | refine Ops.assign (by conv => lhs; whnf) ?_ | refine Run.cond_t rfl rfl ?_ | refine Run.cond_f rfl rfl ?_ | refine Run.skip ?_ | refine Run.exit ?_ | refine Run.block ?_ | refine Ops.len (by assumption) (by kernel_rfl) ?_ | refine Ops.len (Ac.sl (by assumption)) (by kernel_rfl) ?_ | refine Ops.add rfl rfl (by omega) (by omega) ?_ | refine Ops.sub rfl rfl (by omega) (by omega) ?_ | refine Ops.not_t rfl ?_ | refine Ops.not_f rfl ?_ | refine Ops.pick_t rfl (by conv => lhs; whnf) ?_ | refine Ops.pick_f rfl (by conv => lhs; whnf) ?_ | refine Ops.extract rfl rfl ?_ | refine Ops.un rfl rfl ?_ | refine Ops.no rfl rfl rfl ?_ | refine Ops.no_u rfl rfl ?_)
        refine Ops.push (a := (n : Int)) rdI a2 rfl (by simp) c2.1 (by kernel_rfl) (by kernel_rfl) (by kernel_rfl) (by omega) (by decide) fun q v' H3 a3 g3 => ?_
        have c3 : Calm H1 H3 := g3.calm H1 (Nat.le_refl _) c2
        obtain ⟨F, f1, f2, f3, f4⟩ := a3.rw_
        have a8' := a8.calm c3
        refine Ops.push (a := (p ++ [(n : Int)], F)) (rdF rdI) a8'.ac (cF_of f1) (by simp) (Nat.le_trans c1.1 c3.1) (by kernel_rfl) (by kernel_rfl) (by kernel_rfl) (by omega) (by decide) fun q2 v8' H4 a4 g4 => ?_
        have o4 : OAc cI 3 24 H.nxt H4 v8' (ls ++ [(p ++ [(n : Int)], F)]) := a8'.grow a4 g4 (by rw [fps_one]; exact f2.older c1.1) (by rw [fps_one]; exact f3) (by rw [fps_one]; exact fresh_not a8.own (Nat.le_refl _) f2) (by rw [fps_one]; exact fresh_ne a8.ac.live (Nat.le_refl _) f2)
        repeat' (first | refine Run.seq ?_ | refine Run.region (by kernel_rfl) ?_ | refine Ops.nil ?_ | refine Ops.move (by conv => lhs; whnf) ?_ | refine Ops.assign (by conv => lhs; whnf) ?_ | refine Run.cond_t rfl rfl ?_ | refine Run.cond_f rfl rfl ?_ | refine Run.skip ?_ | refine Run.exit ?_ | refine Run.block ?_ | refine Ops.len (by assumption) (by kernel_rfl) ?_ | refine Ops.len (Ac.sl (by assumption)) (by kernel_rfl) ?_ | refine Ops.add rfl rfl (by omega) (by omega) ?_ | refine Ops.sub rfl rfl (by omega) (by omega) ?_ | refine Ops.not_t rfl ?_ | refine Ops.not_f rfl ?_ | refine Ops.pick_t rfl (by conv => lhs; whnf) ?_ | refine Ops.pick_f rfl (by conv => lhs; whnf) ?_ | refine Ops.extract rfl rfl ?_ | refine Ops.un rfl rfl ?_ | refine Ops.no rfl rfl rfl ?_ | refine Ops.no_u rfl rfl ?_)
        refine ⟨(n + 1, v8', H4, ls ++ [(p ++ [(n : Int)], F)]), by dsimp only; omega, rfl, rfl, by dsimp only; exact (by repeat (first | exact Wk.jk | refine Wk.up rfl ?_)), ?_⟩
        exact ⟨by dsimp only; omega, g4.calm H (Nat.le_refl _) (c1.trans c3), o4, by simp [hls, List.range_succ]⟩
      · repeat' (first | refine Run.seq ?_ | refine Run.region (by kernel_rfl) ?_ | refine Ops.nil ?_ | refine Ops.move (by conv => lhs; whnf) ?_ | refine Ops.assign (by conv => lhs; whnf) ?_ | refine Run.cond_t rfl rfl ?_ | refine Run.cond_f rfl rfl ?_ | refine Run.skip ?_ | refine Run.exit ?_ | refine Run.block ?_ | refine Ops.len (by assumption) (by kernel_rfl) ?_ | refine Ops.len (Ac.sl (by assumption)) (by kernel_rfl) ?_ | refine Ops.add rfl rfl (by omega) (by omega) ?_ | refine Ops.sub rfl rfl (by omega) (by omega) ?_ | refine Ops.not_t rfl ?_ | refine Ops.not_f rfl ?_ | refine Ops.pick_t rfl (by conv => lhs; whnf) ?_ | refine Ops.pick_f rfl (by conv => lhs; whnf) ?_ | refine Ops.extract rfl rfl ?_ | refine Ops.un rfl rfl ?_ | refine Ops.no rfl rfl rfl ?_ | refine Ops.no_u rfl rfl ?_)
        refine Run.ret ⟨.inl rfl, ResK.tmp rfl (by conv => lhs; whnf) (ResK.nil ?_)⟩
        have : n = (top + 1).toNat := by omega
        exact ⟨c1, ls, a8, by rw [hls, this, longerL, hT]⟩

theorem patterns_ok {H : Hp} {w : Nat} {k : Int} (hw : w ≤ 4) (hk : 0 ≤ k) (hk2 : k ≤ 3) :
    CallK Try.prog 60 [.int .i64 w, .int .i64 k] H (fun r H' => Calm H H' ∧ ∃ ls, OL cI 3 H.nxt H' r ls ∧ ls.map (·.1) = pats k w) := by
  refine (CallK.enter Try.func60 rfl rfl Try.ntmps60 Try.results60 rfl ?_)
  repeat' (first | refine Run.seq ?_ | refine Run.region (by kernel_rfl) ?_ | refine Ops.nil ?_ | refine Ops.move (by conv => lhs; whnf) ?_ | refine Ops.assign (by conv => lhs; whnf) ?_ | refine Run.cond_t rfl rfl ?_ | refine Run.cond_f rfl rfl ?_ | refine Run.skip ?_ | refine Run.exit ?_ | refine Run.block ?_ | refine Ops.len (by assumption) (by kernel_rfl) ?_ | refine Ops.len (Ac.sl (by assumption)) (by kernel_rfl) ?_ | refine Ops.add rfl rfl (by omega) (by omega) ?_ | refine Ops.sub rfl rfl (by omega) (by omega) ?_ | refine Ops.not_t rfl ?_ | refine Ops.not_f rfl ?_ | refine Ops.pick_t rfl (by conv => lhs; whnf) ?_ | refine Ops.pick_f rfl (by conv => lhs; whnf) ?_ | refine Ops.extract rfl rfl ?_ | refine Ops.un rfl rfl ?_ | refine Ops.no rfl rfl rfl ?_ | refine Ops.no_u rfl rfl ?_)
  refine Ops.lit0 cI 3 H.nxt (by kernel_rfl) (by kernel_rfl) (Nat.le_refl _) fun u H1 a1 c1 p1 => ?_
  refine Ops.lit1 (a := (([], []) : List Int × List Nat)) (cF cI 3) 24 H.nxt (cF_of ⟨a1.sl, .inl ⟨rfl, rfl⟩⟩) (by kernel_rfl) (by kernel_rfl) c1.1 (by decide) fun v5 H2 a5 c2 p2 => ?_
  have c2 := c1.trans c2
  have o5 : OL cI 3 H.nxt H2 v5 [([], [])] := ⟨a5.sl, Own.nil, List.nodup_nil, fun id _ _ f hf => by cases hf⟩
  repeat' (first | refine Run.seq ?_ | refine Run.region (by kernel_rfl) ?_ | refine Ops.nil ?_ | refine Ops.move (by conv => lhs; whnf) ?_ | refine Ops.assign (by conv => lhs; whnf) ?_ | refine Run.cond_t rfl rfl ?_ | refine Run.cond_f rfl rfl ?_ | refine Run.skip ?_ | refine Run.exit ?_ | refine Run.block ?_ | refine Ops.len (by assumption) (by kernel_rfl) ?_ | refine Ops.len (Ac.sl (by assumption)) (by kernel_rfl) ?_ | refine Ops.add rfl rfl (by omega) (by omega) ?_ | refine Ops.sub rfl rfl (by omega) (by omega) ?_ | refine Ops.not_t rfl ?_ | refine Ops.not_f rfl ?_ | refine Ops.pick_t rfl (by conv => lhs; whnf) ?_ | refine Ops.pick_f rfl (by conv => lhs; whnf) ?_ | refine Ops.extract rfl rfl ?_ | refine Ops.un rfl rfl ?_ | refine Ops.no rfl rfl rfl ?_ | refine Ops.no_u rfl rfl ?_)
  refine Run.loopW (fun (a : Nat × Value × Hp × List (List Int × List Nat)) => w - a.1) (fun a => up (up (up (up (up jk 0 (.int .i64 w)) 1 (.int .i64 k)) 5 a.2.1) 11 (.int .i64 w)) 12 (.int .i64 (a.1 : Int))) (fun a => a.2.2.1)
    (fun a => a.1 ≤ w ∧ Calm H a.2.2.1 ∧ OL cI 3 H.nxt a.2.2.1 a.2.1 a.2.2.2 ∧ a.2.2.2.map (·.1) = pats k a.1) (0, v5, H2, [([], [])]) rfl (by repeat (first | exact Wk.jk | refine Wk.up rfl ?_))
    ⟨by dsimp only; omega, c2, o5, rfl⟩ ?_
  clear o5 a5 c2 p2 a1 c1 p1
  rintro ⟨i, v5, H2, ls⟩ ⟨hi, c2, o5, hls⟩
  dsimp only at hi c2 o5 hls
  dsimp only
  have hlen : ls.length = (pats k i).length := by rw [← hls]; simp
  have hpl := pats_length hk hk2 (w := i) (by omega)
  have h8 : 8 ^ i ≤ 4096 := Nat.le_trans (Nat.pow_le_pow_right (by omega) (show i ≤ 4 by omega)) (by decide)
  repeat' (first | refine Run.seq ?_ | refine Run.region (by kernel_rfl) ?_ | refine Ops.nil ?_ | refine Ops.move (by conv => lhs; whnf) ?_ | refine Ops.assign (by conv => lhs; whnf) ?_ | refine Run.cond_t rfl rfl ?_ | refine Run.cond_f rfl rfl ?_ | refine Run.skip ?_ | refine Run.exit ?_ | refine Run.block ?_ | refine Ops.len (by assumption) (by kernel_rfl) ?_ | refine Ops.len (Ac.sl (by assumption)) (by kernel_rfl) ?_ | refine Ops.add rfl rfl (by omega) (by omega) ?_ | refine Ops.sub rfl rfl (by omega) (by omega) ?_ | refine Ops.not_t rfl ?_ | refine Ops.not_f rfl ?_ | refine Ops.pick_t rfl (by conv => lhs; whnf) ?_ | refine Ops.pick_f rfl (by conv => lhs; whnf) ?_ | refine Ops.extract rfl rfl ?_ | refine Ops.un rfl rfl ?_ | refine Ops.no rfl rfl rfl ?_ | refine Ops.no_u rfl rfl ?_)
  refine Ops.cmp rfl rfl rfl (fun hc => ?_) (fun hc => ?_)
  · have s5 : Sl (cL cI) H2 v5 (pats k i) := by rw [← hls]; exact o5.sl.forget
    repeat' (first | refine Run.seq ?_ | refine Run.region (by kernel_rfl) ?_ | refine Ops.nil ?_ | refine Ops.move (by conv => lhs; whnf) ?_ | refine Ops.assign (by conv => lhs; whnf) ?_ | refine Run.cond_t rfl rfl ?_ | refine Run.cond_f rfl rfl ?_ | refine Run.skip ?_ | refine Run.exit ?_ | refine Run.block ?_ | refine Ops.len (by assumption) (by kernel_rfl) ?_ | refine Ops.len (Ac.sl (by assumption)) (by kernel_rfl) ?_ | refine Ops.add rfl rfl (by omega) (by omega) ?_ | refine Ops.sub rfl rfl (by omega) (by omega) ?_ | refine Ops.not_t rfl ?_ | refine Ops.not_f rfl ?_ | refine Ops.pick_t rfl (by conv => lhs; whnf) ?_ | refine Ops.pick_f rfl (by conv => lhs; whnf) ?_ | refine Ops.extract rfl rfl ?_ | refine Ops.un rfl rfl ?_ | refine Ops.no rfl rfl rfl ?_ | refine Ops.no_u rfl rfl ?_)
    refine Run.loopW (fun (a : Nat × Value × Hp × List (List Int × List Nat)) => (pats k i).length - a.1) (fun a => up (up (up (up (up (up (up (up jk 0 (.int .i64 w)) 1 (.int .i64 k)) 6 a.2.1) 11 (.int .i64 w)) 12 (.int .i64 (i : Int))) 14 v5) 15 (.int .i64 (pats k i).length)) 16 (.int .i64 (a.1 : Int))) (fun a => a.2.2.1)
      (fun a => a.1 ≤ (pats k i).length ∧ Calm H2 a.2.2.1 ∧ OAc cI 3 24 H2.nxt a.2.2.1 a.2.1 a.2.2.2 ∧ a.2.2.2.map (·.1) = ((pats k i).take a.1).flatMap (longerL k)) (0, nilS, H2, []) rfl (by repeat (first | exact Wk.jk | refine Wk.up rfl ?_))
      ⟨by dsimp only; omega, Calm.refl H2, OAc.nil, rfl⟩ ?_
    rintro ⟨j, v6, H3, ns⟩ ⟨hj, c3, a6, hns⟩
    dsimp only at hj c3 a6 hns
    dsimp only
    repeat' (first | refine Run.seq ?_ | refine Run.region (by kernel_rfl) ?_ | refine Ops.nil ?_ | refine Ops.move (by conv => lhs; whnf) ?_ | refine Ops.assign (by conv => lhs; whnf) ?_ | refine Run.cond_t rfl rfl ?_ | refine Run.cond_f rfl rfl ?_ | refine Run.skip ?_ | refine Run.exit ?_ | refine Run.block ?_ | refine Ops.len (by assumption) (by kernel_rfl) ?_ | refine Ops.len (Ac.sl (by assumption)) (by kernel_rfl) ?_ | refine Ops.add rfl rfl (by omega) (by omega) ?_ | refine Ops.sub rfl rfl (by omega) (by omega) ?_ | refine Ops.not_t rfl ?_ | refine Ops.not_f rfl ?_ | refine Ops.pick_t rfl (by conv => lhs; whnf) ?_ | refine Ops.pick_f rfl (by conv => lhs; whnf) ?_ | refine Ops.extract rfl rfl ?_ | refine Ops.un rfl rfl ?_ | refine Ops.no rfl rfl rfl ?_ | refine Ops.no_u rfl rfl ?_)
    refine Ops.cmp rfl rfl rfl (fun hc2 => ?_) (fun hc2 => ?_)
    · have hlong : ∀ p ∈ pats k i, (longerL k p).length ≤ 8 := fun p hp => by
        have := topOf_le (k := k) (b := k + i) (p := p) (by omega) fun n hn => ((pats_mem hk hp).2 n hn).2
        rw [longerL_length]; omega
      have hnl : ns.length ≤ (pats k i).length * 8 := by
        have e := congrArg List.length hns
        rw [List.length_map] at e
        rw [e]
        refine Nat.le_trans (flatMap_len (b := 8) fun p hp => hlong p (List.mem_of_mem_take hp)) (Nat.mul_le_mul_right _ ?_)
        rw [List.length_take]; omega
      repeat' (first | refine Run.seq ?_ | refine Run.region (by kernel_rfl) ?_ | refine Ops.nil ?_ | refine Ops.move (by conv => lhs; whnf) ?_ | refine Ops.assign (by conv => lhs; whnf) ?_ | refine Run.cond_t rfl rfl ?_ | refine Run.cond_f rfl rfl ?_ | refine Run.skip ?_ | refine Run.exit ?_ | refine Run.block ?_ | refine Ops.len (by assumption) (by kernel_rfl) ?_ | refine Ops.len (Ac.sl (by assumption)) (by kernel_rfl) ?_ | refine Ops.add rfl rfl (by omega) (by omega) ?_ | refine Ops.sub rfl rfl (by omega) (by omega) ?_ | refine Ops.not_t rfl ?_ | refine Ops.not_f rfl ?_ | refine Ops.pick_t rfl (by conv => lhs; whnf) ?_ | refine Ops.pick_f rfl (by conv => lhs; whnf) ?_ | refine Ops.extract rfl rfl ?_ | refine Ops.un rfl rfl ?_ | refine Ops.no rfl rfl rfl ?_ | refine Ops.no_u rfl rfl ?_)
      refine Ops.idx (s5.calm c3) rfl rfl (by omega) (by omega) (by kernel_rfl) (by kernel_rfl) fun p u a ha hu => ?_
      have ha' : (pats k i)[j]? = some a := ha
      have hmem := List.mem_of_getElem? ha'
      obtain ⟨m1, m2⟩ := pats_mem hk hmem
      repeat' (first | refine Run.seq ?_ | refine Run.region (by kernel_rfl) ?_ | refine Ops.nil ?_ | refine Ops.move (by conv => lhs; whnf) ?_ | refine Ops.assign (by conv => lhs; whnf) ?_ | refine Run.cond_t rfl rfl ?_ | refine Run.cond_f rfl rfl ?_ | refine Run.skip ?_ | refine Run.exit ?_ | refine Run.block ?_ | refine Ops.len (by assumption) (by kernel_rfl) ?_ | refine Ops.len (Ac.sl (by assumption)) (by kernel_rfl) ?_ | refine Ops.add rfl rfl (by omega) (by omega) ?_ | refine Ops.sub rfl rfl (by omega) (by omega) ?_ | refine Ops.not_t rfl ?_ | refine Ops.not_f rfl ?_ | refine Ops.pick_t rfl (by conv => lhs; whnf) ?_ | refine Ops.pick_f rfl (by conv => lhs; whnf) ?_ | refine Ops.extract rfl rfl ?_ | refine Ops.un rfl rfl ?_ | refine Ops.no rfl rfl rfl ?_ | refine Ops.no_u rfl rfl ?_)
      refine Ops.call (longer_ok (cL_at hu) (fun n hn => by have := m2 n hn; omega) (by omega) hk (by omega)) (fun _ _ h _ => h.1.ge') fun r H4 => ?_
      rintro ⟨c4, ms, o4, hms⟩
      have a6' := a6.calm c4
      have hml : ms.length ≤ 8 := by
        have e := congrArg List.length hms
        rw [List.length_map] at e
        rw [e]; exact hlong a hmem
      refine Ops.cat rfl (rdF rdI) a6'.ac o4.ac.sl (Nat.le_trans c3.1 c4.1) (by kernel_rfl) (by kernel_rfl) (by omega) fun v6' H5 a7 g7 => ?_
      have o7 := a6'.grow a7 g7 (o4.own.older c3.1) o4.nd (fresh_not a6.own (Nat.le_refl _) o4.own) (fresh_ne a6.ac.live (Nat.le_refl _) o4.own)
      repeat' (first | refine Run.seq ?_ | refine Run.region (by kernel_rfl) ?_ | refine Ops.nil ?_ | refine Ops.move (by conv => lhs; whnf) ?_ | refine Ops.assign (by conv => lhs; whnf) ?_ | refine Run.cond_t rfl rfl ?_ | refine Run.cond_f rfl rfl ?_ | refine Run.skip ?_ | refine Run.exit ?_ | refine Run.block ?_ | refine Ops.len (by assumption) (by kernel_rfl) ?_ | refine Ops.len (Ac.sl (by assumption)) (by kernel_rfl) ?_ | refine Ops.add rfl rfl (by omega) (by omega) ?_ | refine Ops.sub rfl rfl (by omega) (by omega) ?_ | refine Ops.not_t rfl ?_ | refine Ops.not_f rfl ?_ | refine Ops.pick_t rfl (by conv => lhs; whnf) ?_ | refine Ops.pick_f rfl (by conv => lhs; whnf) ?_ | refine Ops.extract rfl rfl ?_ | refine Ops.un rfl rfl ?_ | refine Ops.no rfl rfl rfl ?_ | refine Ops.no_u rfl rfl ?_)
      refine ⟨(j + 1, v6', H5, ns ++ ms), by dsimp only; omega, rfl, rfl, by dsimp only; exact (by repeat (first | exact Wk.jk | refine Wk.up rfl ?_)), ?_⟩
      refine ⟨by dsimp only; omega, ?_, o7, ?_⟩
      · exact g7.calm H2 (Nat.le_refl _) (c3.trans c4)
      · dsimp only
        rw [List.map_append, hns, hms, take_snoc ha', List.flatMap_append]; simp
    · repeat' (first | refine Run.seq ?_ | refine Run.region (by kernel_rfl) ?_ | refine Ops.nil ?_ | refine Ops.move (by conv => lhs; whnf) ?_ | refine Ops.assign (by conv => lhs; whnf) ?_ | refine Run.cond_t rfl rfl ?_ | refine Run.cond_f rfl rfl ?_ | refine Run.skip ?_ | refine Run.exit ?_ | refine Run.block ?_ | refine Ops.len (by assumption) (by kernel_rfl) ?_ | refine Ops.len (Ac.sl (by assumption)) (by kernel_rfl) ?_ | refine Ops.add rfl rfl (by omega) (by omega) ?_ | refine Ops.sub rfl rfl (by omega) (by omega) ?_ | refine Ops.not_t rfl ?_ | refine Ops.not_f rfl ?_ | refine Ops.pick_t rfl (by conv => lhs; whnf) ?_ | refine Ops.pick_f rfl (by conv => lhs; whnf) ?_ | refine Ops.extract rfl rfl ?_ | refine Ops.un rfl rfl ?_ | refine Ops.no rfl rfl rfl ?_ | refine Ops.no_u rfl rfl ?_)
      have hjp : j = (pats k i).length := by omega
      subst hjp
      rw [List.take_length] at hns
      refine ⟨(i + 1, v6, H3, ns), by dsimp only; omega, rfl, rfl, by dsimp only; exact (by repeat (first | exact Wk.jk | refine Wk.up rfl ?_)), ?_⟩
      exact ⟨by dsimp only; omega, c2.trans c3, a6.ol.older c2.1, by rw [hns]; rfl⟩
  · repeat' (first | refine Run.seq ?_ | refine Run.region (by kernel_rfl) ?_ | refine Ops.nil ?_ | refine Ops.move (by conv => lhs; whnf) ?_ | refine Ops.assign (by conv => lhs; whnf) ?_ | refine Run.cond_t rfl rfl ?_ | refine Run.cond_f rfl rfl ?_ | refine Run.skip ?_ | refine Run.exit ?_ | refine Run.block ?_ | refine Ops.len (by assumption) (by kernel_rfl) ?_ | refine Ops.len (Ac.sl (by assumption)) (by kernel_rfl) ?_ | refine Ops.add rfl rfl (by omega) (by omega) ?_ | refine Ops.sub rfl rfl (by omega) (by omega) ?_ | refine Ops.not_t rfl ?_ | refine Ops.not_f rfl ?_ | refine Ops.pick_t rfl (by conv => lhs; whnf) ?_ | refine Ops.pick_f rfl (by conv => lhs; whnf) ?_ | refine Ops.extract rfl rfl ?_ | refine Ops.un rfl rfl ?_ | refine Ops.no rfl rfl rfl ?_ | refine Ops.no_u rfl rfl ?_)
    refine Run.ret ⟨.inl rfl, ResK.tmp rfl (by conv => lhs; whnf) (ResK.nil ?_)⟩
    have : i = w := by omega
    subst this
    exact ⟨c2, ls, o5, hls⟩

end Go.Proofs.Ytefmjpbmdoebaaa
