/- Copies of lists of lists, and of sets of orbits. -/
import Derived.Test.YtefmjpbmdoebaaaGb
set_option linter.unusedVariables false
namespace Go.Proofs.Ytefmjpbmdoebaaa
open Go Go.RowKit

theorem fps_rep {α : Type} (n : Nat) : fps (List.replicate n (([], []) : List α × List Nat)) = [] := by
  induction n with
  | zero => rfl
  | succ n ih => rw [List.replicate_succ]; simp [fps]

theorem toIntSS_ok {H : Hp} {v : Value} {ls : List (List Int)} (h : Sl (cL cI) H v ls) (hl : ls.length ≤ 1048576) (hl2 : ∀ l ∈ ls, l.length ≤ 1048576) :
    CallK Try.prog 45 [v] H (fun r H' => Calm H H' ∧ ∃ ms, OAc cI 3 24 H.nxt H' r ms ∧ ms.map (·.1) = ls) := by
  refine (CallK.enter Try.func45 rfl rfl Try.ntmps45 Try.results45 rfl ?_)
  repeat' (first | refine Run.seq ?_ | refine Run.region (by kernel_rfl) ?_ | refine Ops.nil ?_ | refine Ops.move (by conv => lhs; whnf) ?_ | refine Ops.assign (by conv => lhs; whnf) ?_ | refine Run.cond_t rfl rfl ?_ | refine Run.cond_f rfl rfl ?_ | refine Run.skip ?_ | refine Run.exit ?_ | refine Run.block ?_ | refine Ops.len (by assumption) (by kernel_rfl) ?_ | refine Ops.len (Ac.sl (by assumption)) (by kernel_rfl) ?_ | refine Ops.add rfl rfl (by omega) (by omega) ?_ | refine Ops.sub rfl rfl (by omega) (by omega) ?_ | refine Ops.not_t rfl ?_ | refine Ops.not_f rfl ?_ | refine Ops.pick_t rfl (by conv => lhs; whnf) ?_ | refine Ops.pick_f rfl (by conv => lhs; whnf) ?_ | refine Ops.extract rfl rfl ?_ | refine Ops.un rfl rfl ?_ | refine Ops.no rfl rfl rfl ?_ | refine Ops.no_u rfl rfl ?_)
  refine Ops.make (q := ls.length) (a := (([], []) : List Int × List Nat)) (z0 := .slice none 0 0) (cF cI 3) 24 H.nxt (by kernel_rfl) (fun _ => ⟨nilS, rfl, Sl.nil, .inl ⟨rfl, rfl⟩⟩) rfl rfl (by kernel_rfl) (by kernel_rfl) (Nat.le_refl _) (by show ls.length * 1 ≤ _; omega) (by omega) fun uo H1 a1 c1 p1 => ?_
  repeat' (first | refine Run.seq ?_ | refine Run.region (by kernel_rfl) ?_ | refine Ops.nil ?_ | refine Ops.move (by conv => lhs; whnf) ?_ | refine Ops.assign (by conv => lhs; whnf) ?_ | refine Run.cond_t rfl rfl ?_ | refine Run.cond_f rfl rfl ?_ | refine Run.skip ?_ | refine Run.exit ?_ | refine Run.block ?_ | refine Ops.len (by assumption) (by kernel_rfl) ?_ | refine Ops.len (Ac.sl (by assumption)) (by kernel_rfl) ?_ | refine Ops.add rfl rfl (by omega) (by omega) ?_ | refine Ops.sub rfl rfl (by omega) (by omega) ?_ | refine Ops.not_t rfl ?_ | refine Ops.not_f rfl ?_ | refine Ops.pick_t rfl (by conv => lhs; whnf) ?_ | refine Ops.pick_f rfl (by conv => lhs; whnf) ?_ | refine Ops.extract rfl rfl ?_ | refine Ops.un rfl rfl ?_ | refine Ops.no rfl rfl rfl ?_ | refine Ops.no_u rfl rfl ?_)
  refine Run.loopW (fun (a : Nat × Hp × List (List Int × List Nat)) => ls.length - a.1) (fun a => up (up (up jk 0 v) 3 uo) 4 (.int .i64 (a.1 : Int))) (fun a => a.2.1)
    (fun a => a.1 ≤ ls.length ∧ Calm H a.2.1 ∧ Ac (cF cI 3) 24 H.nxt a.2.1 uo (a.2.2 ++ List.replicate (ls.length - a.1) ([], [])) ∧ Own H.nxt a.2.1 (fps a.2.2) ∧ (fps a.2.2).Nodup ∧ (∀ id, idOf uo = some id → id ∉ fps a.2.2) ∧ a.2.2.map (·.1) = ls.take a.1) (0, H1, []) rfl (by repeat (first | exact Wk.jk | refine Wk.up rfl ?_))
    ⟨by dsimp only; omega, c1, by simpa using a1, Own.nil, List.nodup_nil, fun id _ h => (by cases h), by simp⟩ ?_
  rintro ⟨i, H2, ms⟩ ⟨hi, c2, a2, own, nd, ni, hm⟩
  dsimp only at hi c2 a2 own nd ni hm
  dsimp only
  have s2 := h.calm c2
  have hml : ms.length = i := by
    have e := congrArg List.length hm
    rw [List.length_map, List.length_take] at e; omega
  repeat' (first | refine Run.seq ?_ | refine Run.region (by kernel_rfl) ?_ | refine Ops.nil ?_ | refine Ops.move (by conv => lhs; whnf) ?_ | refine Ops.assign (by conv => lhs; whnf) ?_ | refine Run.cond_t rfl rfl ?_ | refine Run.cond_f rfl rfl ?_ | refine Run.skip ?_ | refine Run.exit ?_ | refine Run.block ?_ | refine Ops.len (by assumption) (by kernel_rfl) ?_ | refine Ops.len (Ac.sl (by assumption)) (by kernel_rfl) ?_ | refine Ops.add rfl rfl (by omega) (by omega) ?_ | refine Ops.sub rfl rfl (by omega) (by omega) ?_ | refine Ops.not_t rfl ?_ | refine Ops.not_f rfl ?_ | refine Ops.pick_t rfl (by conv => lhs; whnf) ?_ | refine Ops.pick_f rfl (by conv => lhs; whnf) ?_ | refine Ops.extract rfl rfl ?_ | refine Ops.un rfl rfl ?_ | refine Ops.no rfl rfl rfl ?_ | refine Ops.no_u rfl rfl ?_)
  refine Ops.cmp rfl rfl rfl (fun hc => ?_) (fun hc => ?_)
  · repeat' (first | refine Run.seq ?_ | refine Run.region (by kernel_rfl) ?_ | refine Ops.nil ?_ | refine Ops.move (by conv => lhs; whnf) ?_ | refine Ops.assign (by conv => lhs; whnf) ?_ | refine Run.cond_t rfl rfl ?_ | refine Run.cond_f rfl rfl ?_ | refine Run.skip ?_ | refine Run.exit ?_ | refine Run.block ?_ | refine Ops.len (by assumption) (by kernel_rfl) ?_ | refine Ops.len (Ac.sl (by assumption)) (by kernel_rfl) ?_ | refine Ops.add rfl rfl (by omega) (by omega) ?_ | refine Ops.sub rfl rfl (by omega) (by omega) ?_ | refine Ops.not_t rfl ?_ | refine Ops.not_f rfl ?_ | refine Ops.pick_t rfl (by conv => lhs; whnf) ?_ | refine Ops.pick_f rfl (by conv => lhs; whnf) ?_ | refine Ops.extract rfl rfl ?_ | refine Ops.un rfl rfl ?_ | refine Ops.no rfl rfl rfl ?_ | refine Ops.no_u rfl rfl ?_)
    refine Ops.idx s2 rfl rfl (by omega) (by omega) (by kernel_rfl) (by kernel_rfl) fun pz u a ha hu => ?_
    have ha' : ls[i]? = some a := ha
    have hmem := List.mem_of_getElem? ha'
    repeat' (first | refine Run.seq ?_ | refine Run.region (by kernel_rfl) ?_ | refine Ops.nil ?_ | refine Ops.move (by conv => lhs; whnf) ?_ | refine Ops.assign (by conv => lhs; whnf) ?_ | refine Run.cond_t rfl rfl ?_ | refine Run.cond_f rfl rfl ?_ | refine Run.skip ?_ | refine Run.exit ?_ | refine Run.block ?_ | refine Ops.len (by assumption) (by kernel_rfl) ?_ | refine Ops.len (Ac.sl (by assumption)) (by kernel_rfl) ?_ | refine Ops.add rfl rfl (by omega) (by omega) ?_ | refine Ops.sub rfl rfl (by omega) (by omega) ?_ | refine Ops.not_t rfl ?_ | refine Ops.not_f rfl ?_ | refine Ops.pick_t rfl (by conv => lhs; whnf) ?_ | refine Ops.pick_f rfl (by conv => lhs; whnf) ?_ | refine Ops.extract rfl rfl ?_ | refine Ops.un rfl rfl ?_ | refine Ops.no rfl rfl rfl ?_ | refine Ops.no_u rfl rfl ?_)
    refine Ops.call (toIntS_ok (cL_at hu) (hl2 a hmem)) (fun _ _ h _ => h.1.ge') fun w H3 => ?_
    rintro ⟨c3, wa⟩
    obtain ⟨F, f1, f2, f3, f4⟩ := wa.rw_
    have a3 := a2.calm c3
    have own3 := own.calm c3
    have hne : ms ++ List.replicate (ls.length - i) (([], []) : List Int × List Nat) ≠ [] := fun e => by
      have e := congrArg List.length e
      simp at e; omega
    obtain ⟨r, hqr, hr⟩ := a3.rt hne
    have hd1 : ∀ f ∈ F, f ∉ fps ms := fresh_not own (Nat.le_refl _) f2
    have hd2 : ∀ id, idOf uo = some id → id ∉ F := fresh_ne a2.live (Nat.le_refl _) f2
    refine Ops.set (r := r) (a := (a, F)) a3 hr rfl (by omega) (by simp; omega) (cF_of f1) (by simp) (by kernel_rfl) (by kernel_rfl) (fun H' hmod cs b hb hok => ?_) fun p H4 hm4 a4 => ?_
    · obtain ⟨z, hz, hrw⟩ := hok
      refine ⟨z, hz, ?_⟩
      obtain ⟨idu, g1, g2, g3, g4⟩ := hr
      have hbo : Own H.nxt H3 b.2 ∧ ∀ f ∈ b.2, f ∉ [idu] := by
        rcases hb with hb | hb
        · rcases List.mem_append.1 hb with hb | hb
          · refine ⟨fun f hf => own3 f (List.mem_flatMap.2 ⟨b, hb, hf⟩), fun f hf h5 => ?_⟩
            obtain rfl := List.mem_singleton.1 h5
            exact ni f g1 (List.mem_flatMap.2 ⟨b, hb, hf⟩)
          · obtain ⟨_, rfl⟩ := List.mem_replicate.1 hb
            exact ⟨Own.nil, fun f hf => by cases hf⟩
        · subst hb
          refine ⟨f2.older c2.1, fun f hf h5 => ?_⟩
          obtain rfl := List.mem_singleton.1 h5
          exact hd2 f g1 hf
      refine Rw.modS (H := H3) (H' := H') (k := H.nxt) (k' := 0) (fun _ _ _ h => h) hrw hbo.1 (G := [idu]) (fun f hf => ?_) hbo.2 ?_
      · obtain rfl := List.mem_singleton.1 hf
        exact ⟨g2, g3, Nat.zero_le _⟩
      · rw [← g4] at hmod; exact hmod.toS
    · repeat' (first | refine Run.seq ?_ | refine Run.region (by kernel_rfl) ?_ | refine Ops.nil ?_ | refine Ops.move (by conv => lhs; whnf) ?_ | refine Ops.assign (by conv => lhs; whnf) ?_ | refine Run.cond_t rfl rfl ?_ | refine Run.cond_f rfl rfl ?_ | refine Run.skip ?_ | refine Run.exit ?_ | refine Run.block ?_ | refine Ops.len (by assumption) (by kernel_rfl) ?_ | refine Ops.len (Ac.sl (by assumption)) (by kernel_rfl) ?_ | refine Ops.add rfl rfl (by omega) (by omega) ?_ | refine Ops.sub rfl rfl (by omega) (by omega) ?_ | refine Ops.not_t rfl ?_ | refine Ops.not_f rfl ?_ | refine Ops.pick_t rfl (by conv => lhs; whnf) ?_ | refine Ops.pick_f rfl (by conv => lhs; whnf) ?_ | refine Ops.extract rfl rfl ?_ | refine Ops.un rfl rfl ?_ | refine Ops.no rfl rfl rfl ?_ | refine Ops.no_u rfl rfl ?_)
      refine ⟨(i + 1, H4, ms ++ [(a, F)]), by dsimp only; omega, rfl, rfl, by dsimp only; exact (by repeat (first | exact Wk.jk | refine Wk.up rfl ?_)), ?_⟩
      have e1 : (ms ++ List.replicate (ls.length - i) (([], []) : List Int × List Nat)).set i (a, F) = (ms ++ [(a, F)]) ++ List.replicate (ls.length - (i + 1)) ([], []) := by
        have : ls.length - i = (ls.length - (i + 1)) + 1 := by omega
        rw [this, List.replicate_succ, List.set_append_right _ _ (by omega), hml, Nat.sub_self]
        simp
      have a4' : Ac (cF cI 3) 24 H.nxt H4 uo ((ms ++ List.replicate (ls.length - i) (([], []) : List Int × List Nat)).set i (a, F)) := a4
      rw [e1] at a4'
      refine ⟨by dsimp only; omega, hm4.calm (c2.trans c3) hqr, a4', ?_, ?_, fun id hid hf => ?_, ?_⟩
      · show Own _ _ (fps (ms ++ [(a, F)]))
        rw [fps_append, fps_one]
        exact (own3.append (f2.older c2.1)).mod hm4
      · show (fps (ms ++ [(a, F)])).Nodup
        rw [fps_append, fps_one, List.nodup_append]
        exact ⟨nd, f3, fun x hx y hy e => hd1 y hy (e ▸ hx)⟩
      · have hf' : id ∈ fps (ms ++ [(a, F)]) := hf
        rw [fps_append, fps_one] at hf'
        rcases List.mem_append.1 hf' with h5 | h5
        · exact ni id hid h5
        · exact hd2 id hid h5
      · show (ms ++ [(a, F)]).map (·.1) = ls.take (i + 1)
        rw [List.map_append, hm, take_snoc ha']; rfl
  · repeat' (first | refine Run.seq ?_ | refine Run.region (by kernel_rfl) ?_ | refine Ops.nil ?_ | refine Ops.move (by conv => lhs; whnf) ?_ | refine Ops.assign (by conv => lhs; whnf) ?_ | refine Run.cond_t rfl rfl ?_ | refine Run.cond_f rfl rfl ?_ | refine Run.skip ?_ | refine Run.exit ?_ | refine Run.block ?_ | refine Ops.len (by assumption) (by kernel_rfl) ?_ | refine Ops.len (Ac.sl (by assumption)) (by kernel_rfl) ?_ | refine Ops.add rfl rfl (by omega) (by omega) ?_ | refine Ops.sub rfl rfl (by omega) (by omega) ?_ | refine Ops.not_t rfl ?_ | refine Ops.not_f rfl ?_ | refine Ops.pick_t rfl (by conv => lhs; whnf) ?_ | refine Ops.pick_f rfl (by conv => lhs; whnf) ?_ | refine Ops.extract rfl rfl ?_ | refine Ops.un rfl rfl ?_ | refine Ops.no rfl rfl rfl ?_ | refine Ops.no_u rfl rfl ?_)
    refine Run.ret ⟨.inl rfl, ResK.tmp rfl (by conv => lhs; whnf) (ResK.nil ?_)⟩
    have hil : i = ls.length := by omega
    subst hil
    rw [List.take_length] at hm
    rw [Nat.sub_self, List.replicate_zero, List.append_nil] at a2
    exact ⟨c2, ms, ⟨a2, own, nd, ni⟩, hm⟩

end Go.Proofs.Ytefmjpbmdoebaaa
