/- Part 5 of the proof of a law; no condition. The last part has the theorem. -/
import Derived.Test.YtefmjpbmdoebaaaZFnExactWidenSet4
import Derived.Test.YtefmjpbmdoebaaaRows
import Derived.WalkKit
import Derived.ProofKit
import Derived.OpenShut
import Derived.ChangeOld
import Derived.Below
import Derived.SizedLaws

/- Sets of orbits out of patterns in any order: the plain laws, and the program's function. -/
set_option linter.unusedVariables false
namespace Go.Proofs.Ytefmjpbmdoebaaa
open Go Go.RowKit Go.Sort

/-- The order of the rows. -/
def cfL (a b : LF) : Int := cmpL a.1 b.1

theorem cmpL_neg {l m : List Int} (h : ¬ cmpL l m < 0) : cmpL l m = 0 ∨ cmpL m l < 0 := by
  have := cmpL_swap l m
  omega

theorem ltL_t {x y : LF} : ltc cfL x y = true ↔ cmpL x.1 y.1 < 0 := decide_eq_true_iff
theorem ltL_f {x y : LF} : ltc cfL x y = false ↔ ¬ cmpL x.1 y.1 < 0 := decide_eq_false_iff_not
theorem swoL : SWO (ltc cfL) where
  irrefl x := by rw [ltL_f, cmpL_rfl]; omega
  trans x y z h1 h2 := by rw [ltL_t] at *; exact cmpL_trans h1 h2
  ntrans x y z h1 h2 := by
    rw [ltL_f] at *
    intro h3
    rcases cmpL_neg h1 with h4 | h4
    · rw [cmpL_eq h4] at h3; exact h2 h3
    · have h5 := cmpL_trans h4 h3
      exact h2 h5

/-- Strictly ascending. -/
def Asc (l : List (List Int)) : Prop := l.Pairwise fun a b => cmpL a b < 0

theorem asc_unique : ∀ {l m : List (List Int)}, Asc l → Asc m → (∀ x, x ∈ l ↔ x ∈ m) → l = m
  | [], [], _, _, _ => rfl
  | [], b :: t, _, _, h => by have := (h b).2 (by simp); cases this
  | a :: s, [], _, _, h => by have := (h a).1 (by simp); cases this
  | a :: s, b :: t, hl, hm, h => by
    obtain ⟨h1, h2⟩ := List.pairwise_cons.1 hl
    obtain ⟨h3, h4⟩ := List.pairwise_cons.1 hm
    have hab : a = b := by
      rcases List.mem_cons.1 ((h a).1 (by simp)) with e | e
      · exact e
      · rcases List.mem_cons.1 ((h b).2 (by simp)) with e' | e'
        · exact e'.symm
        · have g1 := h3 a e
          have g2 := h1 b e'
          have := cmpL_swap a b
          omega
    subst hab
    have hst : s = t := asc_unique h2 h4 fun x => by
      constructor
      · intro hx
        rcases List.mem_cons.1 ((h x).1 (by simp [hx])) with e | e
        · subst e
          have := h1 x hx
          rw [cmpL_rfl] at this; omega
        · exact e
      · intro hx
        rcases List.mem_cons.1 ((h x).2 (by simp [hx])) with e | e
        · subst e
          have := h3 x hx
          rw [cmpL_rfl] at this; omega
        · exact e
    rw [hst]

theorem cmpL_app : ∀ {p q : List Int} {m n : List Int}, p.length = q.length → cmpL (p ++ m) (q ++ n) = if cmpL p q < 0 then -1 else if 0 < cmpL p q then 1 else cmpL m n
  | [], [], m, n, _ => by simp [cmpL]
  | [], _ :: _, _, _, h => by simp at h
  | _ :: _, [], _, _, h => by simp at h
  | a :: p, b :: q, m, n, h => by
    rw [List.cons_append, List.cons_append]
    by_cases h1 : a < b
    · have e1 : cmpL (a :: (p ++ m)) (b :: (q ++ n)) = -1 := if_pos h1
      have e2 : cmpL (a :: p) (b :: q) = -1 := if_pos h1
      rw [e1, e2]; rfl
    · by_cases h2 : b < a
      · have e1 : cmpL (a :: (p ++ m)) (b :: (q ++ n)) = 1 := by simp only [cmpL]; rw [if_neg h1, if_pos h2]
        have e2 : cmpL (a :: p) (b :: q) = 1 := by simp only [cmpL]; rw [if_neg h1, if_pos h2]
        rw [e1, e2]; rfl
      · have e1 : cmpL (a :: (p ++ m)) (b :: (q ++ n)) = cmpL (p ++ m) (q ++ n) := by simp only [cmpL]; rw [if_neg h1, if_neg h2]
        have e2 : cmpL (a :: p) (b :: q) = cmpL p q := by simp only [cmpL]; rw [if_neg h1, if_neg h2]
        rw [e1, e2]
        exact cmpL_app (by simpa using h)

theorem longerL_asc (k : Int) (p : List Int) : Asc (longerL k p) := by
  unfold Asc longerL
  rw [List.pairwise_map]
  refine (List.pairwise_lt_range (n := (topOf k p + 1).toNat)).imp ?_
  intro a b hab
  rw [cmpL_app rfl, cmpL_rfl]
  simp [cmpL]
  omega

theorem pats_asc {k : Int} (hk : 0 ≤ k) : ∀ w, Asc (pats k w)
  | 0 => by simp [pats, Asc]
  | w + 1 => by
    have ih := pats_asc hk w
    unfold Asc pats
    rw [List.pairwise_flatMap]
    refine ⟨fun p _ => longerL_asc k p, ?_⟩
    have ih' : (pats k w).Pairwise fun a b => cmpL a b < 0 := ih
    refine List.Pairwise.imp_of_mem ?_ ih'
    intro p q hp hq hpq x hx y hy
    obtain ⟨n, rfl, _⟩ := (longerL_mem hk).1 hx
    obtain ⟨m, rfl, _⟩ := (longerL_mem hk).1 hy
    rw [cmpL_app (by rw [(pats_mem hk hp).1, (pats_mem hk hq).1]), if_pos hpq]
    decide

/-- The patterns that are in a list. -/
noncomputable def thoseL (k : Int) (w : Nat) (l : List (List Int)) : List (List Int) := (pats k w).filter fun p => dec (p ∈ l)
theorem thoseL_mem {k : Int} {w : Nat} {l : List (List Int)} {p : List Int} : p ∈ thoseL k w l ↔ p ∈ pats k w ∧ p ∈ l := by
  unfold thoseL
  rw [List.mem_filter]
  exact ⟨fun h => ⟨h.1, of_dec_t h.2⟩, fun h => ⟨h.1, dec_t h.2⟩⟩
theorem thoseL_asc {k : Int} (hk : 0 ≤ k) {w : Nat} {l : List (List Int)} : Asc (thoseL k w l) := List.Pairwise.filter _ (pats_asc hk w)

theorem cmpt_asc : ∀ (t : List LF) (p : LF), (p :: t).Pairwise (fun a b => ¬ cmpL b.1 a.1 < 0) → (p :: cmpt p t).Pairwise (fun a b => cmpL a.1 b.1 < 0) ∧ ∀ x, (∃ y ∈ p :: t, y.1 = x) ↔ ∃ y ∈ p :: cmpt p t, y.1 = x
  | [], p, _ => by simp [cmpt]
  | a :: t, p, h => by
    obtain ⟨h1, h2⟩ := List.pairwise_cons.1 h
    obtain ⟨i1, i2⟩ := cmpt_asc t a h2
    obtain ⟨j1, j2⟩ := List.pairwise_cons.1 i1
    simp only [cmpt]
    by_cases e : a.1 = p.1
    · rw [if_pos e]
      refine ⟨List.pairwise_cons.2 ⟨fun b hb => by rw [← e]; exact j1 b hb, j2⟩, fun x => ?_⟩
      constructor
      · rintro ⟨y, hy, rfl⟩
        rcases List.mem_cons.1 hy with rfl | hy
        · exact ⟨y, by simp, rfl⟩
        · obtain ⟨z, hz, hz2⟩ := (i2 y.1).1 ⟨y, hy, rfl⟩
          rcases List.mem_cons.1 hz with rfl | hz
          · exact ⟨p, by simp, by rw [← hz2, e]⟩
          · exact ⟨z, by simp [hz], hz2⟩
      · rintro ⟨y, hy, rfl⟩
        rcases List.mem_cons.1 hy with rfl | hy
        · exact ⟨y, by simp, rfl⟩
        · obtain ⟨z, hz, hz2⟩ := (i2 y.1).2 ⟨y, by simp [hy], rfl⟩
          exact ⟨z, List.mem_cons_of_mem _ hz, hz2⟩
    · rw [if_neg e]
      have hpa : cmpL p.1 a.1 < 0 := by
        have g1 := h1 a (by simp)
        rcases cmpL_neg g1 with g2 | g2
        · exact absurd (cmpL_eq g2) e
        · exact g2
      refine ⟨List.pairwise_cons.2 ⟨fun b hb => ?_, i1⟩, fun x => ?_⟩
      · rcases List.mem_cons.1 hb with rfl | hb
        · exact hpa
        · exact cmpL_trans hpa (j1 b hb)
      · constructor
        · rintro ⟨y, hy, rfl⟩
          rcases List.mem_cons.1 hy with rfl | hy
          · exact ⟨y, by simp, rfl⟩
          · obtain ⟨z, hz, hz2⟩ := (i2 y.1).1 ⟨y, hy, rfl⟩
            exact ⟨z, List.mem_cons_of_mem _ hz, hz2⟩
        · rintro ⟨y, hy, rfl⟩
          rcases List.mem_cons.1 hy with rfl | hy
          · exact ⟨y, by simp, rfl⟩
          · obtain ⟨z, hz, hz2⟩ := (i2 y.1).2 ⟨y, hy, rfl⟩
            exact ⟨z, List.mem_cons_of_mem _ hz, hz2⟩

theorem compactL_asc {l : List LF} (h : l.Pairwise (fun a b => ¬ cmpL b.1 a.1 < 0)) : Asc ((compactL l).map (·.1)) ∧ ∀ x, x ∈ (compactL l).map (·.1) ↔ x ∈ l.map (·.1) := by
  cases l with
  | nil => simp [compactL, Asc]
  | cons a t =>
    obtain ⟨h1, h2⟩ := cmpt_asc t a h
    refine ⟨?_, fun x => ?_⟩
    · unfold Asc
      rw [List.pairwise_map]
      exact h1
    · have := h2 x
      simp only [List.mem_map]
      exact this.symm

theorem sorted_pairwise {d : Array LF} (h : SortedIn (ltc cfL) 0 d.size d) : d.toList.Pairwise (fun a b => ¬ cmpL b.1 a.1 < 0) := by
  rw [List.pairwise_iff_getElem]
  intro i j hi hj hij
  have hi' : i < d.size := by simpa using hi
  have hj' : j < d.size := by simpa using hj
  have := h i j (Nat.zero_le _) hij hj'
  rw [getElem!_pos d i hi', getElem!_pos d j hj', ltL_f] at this
  exact this

theorem permIn_perm {d d' : Array LF} (h : PermIn 0 d.size d d') : d'.toList.Perm d.toList := by
  have h3 := h.2.2
  have e1 : (d'.extract 0 d.size).toList = d'.toList := by rw [Array.toList_extract]; simp only [List.extract, ← h.1]; simp; exact take_end (by simp)
  have e2 : (d.extract 0 d.size).toList = d.toList := by rw [Array.toList_extract]; simp only [List.extract]; simp; exact take_end (by simp)
  rw [e1, e2] at h3
  exact h3

theorem fps_sub {l m : List LF} (h : List.Sublist l m) : List.Sublist (fps l) (fps m) := by
  induction h with
  | slnil => exact .slnil
  | cons a _ ih => exact ih.trans (List.sublist_append_right _ _)
  | cons_cons a _ ih => exact (List.Sublist.refl _).append ih
theorem fps_perm {l m : List LF} (h : l.Perm m) : (fps l).Perm (fps m) := h.flatMap_right _

theorem cmpRows : ∀ (H : Hp) (u1 u2 : Value) (a b : LF), (cF cI 3).ok H [u1] a → (cF cI 3).ok H [u2] b → acall Try.prog 74 [u1, u2] H (.int .i64 (cfL a b)) H := fun H u1 u2 a b h1 h2 => Compare_ok (cF_at h1).1 (cF_at h2).1
theorem eqRows : ∀ (H : Hp) (u1 u2 : Value) (a b : LF), (cF cI 3).ok H [u1] a → (cF cI 3).ok H [u2] b → acall Try.prog 98 [u1, u2] H (.bool (dec (a.1 = b.1))) H := fun H u1 u2 a b h1 h2 => EqualI_ok (cF_at h1).1 (cF_at h2).1

theorem setOf_ok {H : Hp} {u v : Value} {cs : List Int} {ls : List LF} {w : Int} {k : Nat} (hu : Sl cI H u cs) (hcs : cs.length ≤ 1000) (hv : Sl (cF cI 3) H v ls) (ho : Own k H (fps ls)) (hnd : (fps ls).Nodup) (hl : ls.length ≤ 34359738367) (hk : k ≤ H.nxt) :
    CallK Try.prog 79 [u, .int .i64 w, v] H (fun r H' => Calm H H' ∧ ∃ ms : List LF, OO k H' r ⟨w, cs, ms.map (·.1)⟩ ms ∧ Asc (ms.map (·.1)) ∧ ∀ x, x ∈ ms.map (·.1) ↔ x ∈ ls.map (·.1)) := by
  refine (CallK.enter Try.func79 rfl rfl Try.ntmps79 Try.results79 rfl ?_)
  repeat' (first|refine wA ?_|refine wB ?_|refine wH ?_|refine wI ?_|refine wJ ?_|refine wC ?_|refine wD ?_|refine wE ?_|refine wF ?_|refine wG ?_|refine wK ?_|refine wL ?_|refine wM ?_|refine wN ?_|refine wO ?_|refine wP ?_|refine wQ ?_|refine wR ?_|refine wS ?_|refine wT ?_|refine wU ?_|refine wV ?_|refine wW ?_|refine wX ?_)
  refine Ops.alloc H.nxt (Nat.le_refl _) (z0 := .agg #[.int .i64 0, nilS, nilS]) (by kernel_rfl) (by rfl) (by decide) fun p6 H1 o1 c1 ap1 => ?_
  repeat' (first|refine wA ?_|refine wB ?_|refine wH ?_|refine wI ?_|refine wJ ?_|refine wC ?_|refine wD ?_|refine wE ?_|refine wF ?_|refine wG ?_|refine wK ?_|refine wL ?_|refine wM ?_|refine wN ?_|refine wO ?_|refine wP ?_|refine wQ ?_|refine wR ?_|refine wS ?_|refine wT ?_|refine wU ?_|refine wV ?_|refine wW ?_|refine wX ?_)
  refine Ops.call (clone2_ok (hv.calm c1) hl) (fun _ _ h _ => h.1.ge') fun u2 H2 => ?_
  rintro ⟨c2, a2⟩
  obtain ⟨d, hd⟩ : ∃ d : Array LF, d = ls.toArray := ⟨_, rfl⟩
  have hdl : d.toList = ls := by rw [hd]
  have hds : d.size = ls.length := by rw [hd]; simp
  obtain ⟨r, hr1, hr2⟩ : ∃ r, H1.nxt ≤ r ∧ (0 < d.size → Rt H2 u2 r) := by
    by_cases h0 : ls = []
    · exact ⟨H1.nxt, Nat.le_refl _, fun h => by rw [hds, h0] at h; simp at h⟩
    · obtain ⟨r, g1, g2⟩ := a2.rt h0
      exact ⟨r, g1, fun _ => g2⟩
  have ho1 := ho.calm c1
  have ho2 := ho1.calm c2
  have hfl : ∀ f ∈ fps ls, f < H.nxt := fun f hf => (ho f hf).1
  have sr2 : SR (elF 3) 24 H1.nxt r H2 u2 d := by
    refine ⟨by rw [hdl]; exact a2, fun h => ⟨hr2 h, hr1⟩, fun a ha => ?_⟩
    rw [hdl] at ha
    obtain ⟨i, hi⟩ := List.mem_iff_getElem?.1 ha
    refine ⟨fun f hf => ?_, fun f hf => ?_⟩
    · obtain ⟨g1, g2, g3⟩ := ho2 f (fps_mem hi hf)
      exact ⟨g1, g2, Nat.zero_le _⟩
    · obtain ⟨g1, g2, g3⟩ := ho2 f (fps_mem hi hf)
      have := H2.rt f g1
      have := hfl f (fps_mem hi hf)
      have := c1.1
      omega
  repeat' (first|refine wA ?_|refine wB ?_|refine wH ?_|refine wI ?_|refine wJ ?_|refine wC ?_|refine wD ?_|refine wE ?_|refine wF ?_|refine wG ?_|refine wK ?_|refine wL ?_|refine wM ?_|refine wN ?_|refine wO ?_|refine wP ?_|refine wQ ?_|refine wR ?_|refine wS ?_|refine wT ?_|refine wU ?_|refine wV ?_|refine wW ?_|refine wX ?_)
  refine Ops.call (SortFunc_ok cmpRows swoL sr2 (by omega)) (fun _ _ _ hf => by cases hf) fun _ H3 => ?_
  rintro ⟨⟨d3, pm3, so3, sr3⟩, t3⟩
  repeat' (first|refine wA ?_|refine wB ?_|refine wH ?_|refine wI ?_|refine wJ ?_|refine wC ?_|refine wD ?_|refine wE ?_|refine wF ?_|refine wG ?_|refine wK ?_|refine wL ?_|refine wM ?_|refine wN ?_|refine wO ?_|refine wP ?_|refine wQ ?_|refine wR ?_|refine wS ?_|refine wT ?_|refine wU ?_|refine wV ?_|refine wW ?_|refine wX ?_)
  refine Ops.call (CompactFunc_ok eqRows sr3 (by rw [pm3.1]; omega)) (fun _ _ _ hf => by cases hf) fun u4 H4 => ?_
  rintro ⟨sr4, t4⟩
  have t34 := t3.trans t4
  have c14 : Calm H1 H4 := t34.calm c2 hr1
  have hperm := permIn_perm pm3
  rw [hdl] at hperm
  obtain ⟨q1, q2⟩ := compactL_asc (sorted_pairwise (by rw [pm3.1]; exact so3))
  obtain ⟨ms, hms⟩ : ∃ ms, ms = compactL d3.toList := ⟨_, rfl⟩
  rw [← hms] at q1 q2 sr4
  have hsub : List.Sublist (fps ms) (fps d3.toList) := by rw [hms]; exact fps_sub (compactL_sub _)
  have hfp := fps_perm hperm
  have hin : ∀ f ∈ fps ms, f ∈ fps ls := fun f hf => hfp.subset (hsub.subset hf)
  have ho4 : Own k H4 (fps ms) := fun f hf => by
    obtain ⟨g1, g2, g3⟩ := ho1 f (hin f hf)
    obtain ⟨e1, e2, e3⟩ := c14.2 f g1
    exact ⟨Nat.lt_of_lt_of_le g1 c14.1, e2.trans g2, by rw [e3]; exact g3⟩
  have oac4 : OAc cI 3 24 k H4 u4 ms := by
    refine ⟨(by simpa using sr4.ac : Ac (cF cI 3) 24 H1.nxt H4 u4 ms).older (Nat.le_trans hk c1.1), ho4, (hfp.nodup_iff.2 hnd).sublist hsub, fun id hid hf => ?_⟩
    rcases sr4.ac with ⟨h0, _⟩ | ⟨id', ob, g1, g2, g3, g4, _⟩
    · rw [h0] at hid; cases hid
    · rw [g1] at hid
      injection hid with hid
      have hid' : id' = id := hid
      subst hid'
      have := H4.rt id' (Hp.lt g2)
      have := hfl id' (hin id' hf)
      have := c1.1
      omega
  repeat' (first|refine wA ?_|refine wB ?_|refine wH ?_|refine wI ?_|refine wJ ?_|refine wC ?_|refine wD ?_|refine wE ?_|refine wF ?_|refine wG ?_|refine wK ?_|refine wL ?_|refine wM ?_|refine wN ?_|refine wO ?_|refine wP ?_|refine wQ ?_|refine wR ?_|refine wS ?_|refine wT ?_|refine wU ?_|refine wV ?_|refine wW ?_|refine wX ?_)
  refine Ops.call (clone_ok (hu.calm (c1.trans c14)) (by omega)) (fun _ _ h _ => h.1.ge') fun u5 H5 => ?_
  rintro ⟨c5, a5⟩
  have oac5 := oac4.calm c5
  have c15 := c14.trans c5
  have o5 := o1.calm c15
  have p45 : Ap u5 u4 := (a5.ap (Nat.le_refl _) oac4.ac.live).symm
  have p56 : Ap u5 p6 := (a5.ap (Nat.le_refl _) (Pt.live (o1.calm c14).pt)).symm
  have f5 : ∀ id, idOf u5 = some id → id ∉ fps ms := fun id hid hf => by
    rcases a5 with ⟨h0, _⟩ | ⟨id', ob, g1, g2, g3, g4, _⟩
    · rw [h0] at hid; cases hid
    · rw [g1] at hid
      injection hid with hid
      have hid' : id' = id := hid
      subst hid'
      have := H5.rt id' (Hp.lt g2)
      have := (ho4 id' hf).1
      omega
  have p46 : Ap u4 p6 := fun id hid hid2 => by
    obtain ⟨id', ob, g1, g2, g3, g4, g5⟩ := o1
    rw [g1] at hid2
    injection hid2 with hid2
    have hid2' : id' = id := hid2
    subst hid2'
    rcases sr4.ac with ⟨h0, _⟩ | ⟨id2, ob2, e1, e2, e3, e4, _⟩
    · rw [h0] at hid; cases hid
    · rw [e1] at hid
      injection hid with hid
      have hid' : id2 = id' := hid
      subst hid'
      have := H4.rt id2 (Hp.lt e2)
      have := Hp.lt g2
      omega
  have f6 : ∀ id, idOf p6 = some id → id ∉ fps ms := fun id hid hf => by
    obtain ⟨id', ob, g1, g2, g3, g4, g5⟩ := o1
    rw [g1] at hid
    injection hid with hid
    have hid' : id' = id := hid
    subst hid'
    have := H1.rt id' (Hp.lt g2)
    have := hfl id' (hin id' hf)
    omega
  have a5' := a5.older (k' := k) (Nat.le_trans hk (Nat.le_trans c1.1 c14.1))
  obtain ⟨n5, e5⟩ := a5.sl.val
  obtain ⟨n4, e4⟩ := oac4.ac.sl.val
  repeat' (first|refine wA ?_|refine wB ?_|refine wH ?_|refine wI ?_|refine wJ ?_|refine wC ?_|refine wD ?_|refine wE ?_|refine wF ?_|refine wG ?_|refine wK ?_|refine wL ?_|refine wM ?_|refine wN ?_|refine wO ?_|refine wP ?_|refine wQ ?_|refine wR ?_|refine wS ?_|refine wT ?_|refine wU ?_|refine wV ?_|refine wW ?_|refine wX ?_)
  refine Ops.build (pl := [(0, 1), (1, 1), (2, 1)]) (zs := [.int .i64 0, .slice none 0 0, .slice none 0 0]) (cs := [.int .i64 w, u5, u4]) (by kernel_rfl) (by subst e5 e4; simp [rd, up]; exact ⟨rfl, rfl, rfl⟩) (by subst e5 e4; rfl) ?_
  obtain ⟨r6, hr6, t6⟩ := o5.rt
  refine Ops.storeS (ds := [.int .i64 w, u5, u4]) o5 t6 rfl (by kernel_rfl) rfl (by rw [List.all_cons, List.all_cons, List.all_cons, sl_one a5.sl, sl_one oac4.ac.sl]; rfl) fun H6 m6 o6 => ?_
  repeat' (first|refine wA ?_|refine wB ?_|refine wH ?_|refine wI ?_|refine wJ ?_|refine wC ?_|refine wD ?_|refine wE ?_|refine wF ?_|refine wG ?_|refine wK ?_|refine wL ?_|refine wM ?_|refine wN ?_|refine wO ?_|refine wP ?_|refine wQ ?_|refine wR ?_|refine wS ?_|refine wT ?_|refine wU ?_|refine wV ?_|refine wW ?_|refine wX ?_)
  refine Run.ret ⟨.inl rfl, ResK.cells rfl o6.pt (by kernel_rfl) (by kernel_rfl) (ResK.nil ?_)⟩
  refine ⟨m6.calm (c1.trans c15) hr6, ms, ⟨u5, u4, rfl, a5'.mod t6 p56 m6 (fun _ _ _ h => h), oac5.modS' (fun h => h) t6 m6 p46 f6, rfl, p45, f5⟩, q1, fun x => ?_⟩
  rw [q2]
  simp only [List.mem_map]
  exact ⟨fun ⟨y, hy, hy2⟩ => ⟨y, hperm.subset hy, hy2⟩, fun ⟨y, hy, hy2⟩ => ⟨y, hperm.symm.subset hy, hy2⟩⟩

end Go.Proofs.Ytefmjpbmdoebaaa

/- The reference's patterns, with their rows; the reference's set of patterns. -/
set_option linter.unusedVariables false
namespace Go.Proofs.Ytefmjpbmdoebaaa
open Go Go.RowKit

theorem l6AllO_ok {k : Int} (hk : 0 ≤ k) (hk2 : k ≤ 3) : ∀ (w : Nat) (H : Hp), w ≤ 4 → CallK Try.prog 59 [.int .i64 w, .int .i64 k] H (fun r H' => Calm H H' ∧ ∃ ls, OAc cI 3 24 H.nxt H' r ls ∧ ls.map (·.1) = pats k w) := by
  intro w
  induction w with
  | zero =>
    intro H _
    refine (CallK.enter Try.func59 rfl rfl Try.ntmps59 Try.results59 rfl ?_)
    repeat' (first|refine wA ?_|refine wB ?_|refine wH ?_|refine wI ?_|refine wJ ?_|refine wC ?_|refine wD ?_|refine wE ?_|refine wF ?_|refine wG ?_|refine wK ?_|refine wL ?_|refine wM ?_|refine wN ?_|refine wO ?_|refine wP ?_|refine wQ ?_|refine wR ?_|refine wS ?_|refine wT ?_|refine wU ?_|refine wV ?_|refine wW ?_|refine wX ?_)
    refine Ops.cmp rfl rfl rfl (fun hc => ?_) (fun hc => ?_)
    · repeat' (first|refine wA ?_|refine wB ?_|refine wH ?_|refine wI ?_|refine wJ ?_|refine wC ?_|refine wD ?_|refine wE ?_|refine wF ?_|refine wG ?_|refine wK ?_|refine wL ?_|refine wM ?_|refine wN ?_|refine wO ?_|refine wP ?_|refine wQ ?_|refine wR ?_|refine wS ?_|refine wT ?_|refine wU ?_|refine wV ?_|refine wW ?_|refine wX ?_)
      refine Ops.lit0 cI 3 H.nxt (by kernel_rfl) (by kernel_rfl) (Nat.le_refl _) fun u H1 a1 c1 p1 => ?_
      obtain ⟨F, f1, f2, f3, f4⟩ := a1.rw_
      refine Ops.lit1 (a := (([] : List Int), F)) (cF cI 3) 24 H.nxt (cF_of f1) (by kernel_rfl) (by kernel_rfl) c1.1 (by decide) fun v5 H2 a5 c2 p2 => ?_
      repeat' (first|refine wA ?_|refine wB ?_|refine wH ?_|refine wI ?_|refine wJ ?_|refine wC ?_|refine wD ?_|refine wE ?_|refine wF ?_|refine wG ?_|refine wK ?_|refine wL ?_|refine wM ?_|refine wN ?_|refine wO ?_|refine wP ?_|refine wQ ?_|refine wR ?_|refine wS ?_|refine wT ?_|refine wU ?_|refine wV ?_|refine wW ?_|refine wX ?_)
      refine Run.ret ⟨.inl rfl, ResK.tmp rfl (by conv => lhs; whnf) (ResK.nil ?_)⟩
      refine ⟨c1.trans c2, [([], F)], ⟨a5, by rw [fps_one]; exact f2.calm c2, by rw [fps_one]; exact f3, fun id hid hf => ?_⟩, rfl⟩
      rw [fps_one] at hf
      exact p2 u a1.live id (f4 id hf) hid
    · omega
  | succ w ih =>
    intro H hw
    have hpl := pats_length hk hk2 (w := w) (by omega)
    have h8 : 8 ^ w ≤ 4096 := Nat.le_trans (Nat.pow_le_pow_right (by omega) (show w ≤ 4 by omega)) (by decide)
    refine (CallK.enter Try.func59 rfl rfl Try.ntmps59 Try.results59 rfl ?_)
    repeat' (first|refine wA ?_|refine wB ?_|refine wH ?_|refine wI ?_|refine wJ ?_|refine wC ?_|refine wD ?_|refine wE ?_|refine wF ?_|refine wG ?_|refine wK ?_|refine wL ?_|refine wM ?_|refine wN ?_|refine wO ?_|refine wP ?_|refine wQ ?_|refine wR ?_|refine wS ?_|refine wT ?_|refine wU ?_|refine wV ?_|refine wW ?_|refine wX ?_)
    refine Ops.cmp rfl rfl rfl (fun hc => ?_) (fun hc => ?_)
    · omega
    · repeat' (first|refine wA ?_|refine wB ?_|refine wH ?_|refine wI ?_|refine wJ ?_|refine wC ?_|refine wD ?_|refine wE ?_|refine wF ?_|refine wG ?_|refine wK ?_|refine wL ?_|refine wM ?_|refine wN ?_|refine wO ?_|refine wP ?_|refine wQ ?_|refine wR ?_|refine wS ?_|refine wT ?_|refine wU ?_|refine wV ?_|refine wW ?_|refine wX ?_)
      refine Ops.lit0 (cF cI 3) 24 H.nxt (by kernel_rfl) (by kernel_rfl) (Nat.le_refl _) fun v5 H1 a5 c1 p1 => ?_
      repeat' (first|refine wA ?_|refine wB ?_|refine wH ?_|refine wI ?_|refine wJ ?_|refine wC ?_|refine wD ?_|refine wE ?_|refine wF ?_|refine wG ?_|refine wK ?_|refine wL ?_|refine wM ?_|refine wN ?_|refine wO ?_|refine wP ?_|refine wQ ?_|refine wR ?_|refine wS ?_|refine wT ?_|refine wU ?_|refine wV ?_|refine wW ?_|refine wX ?_)
      have a5 : OAc cI 3 24 H.nxt H1 v5 [] := ⟨a5, Own.nil, List.nodup_nil, fun _ _ h => by cases h⟩
      have ih' := ih H1 (by omega)
      rw [show (w : Int) = ((w + 1 : Nat) : Int) - 1 by omega] at ih'
      refine Ops.call ih' (fun _ _ h _ => h.1.ge') fun v20 H2 => ?_
      rintro ⟨c2, l20, o20, h20⟩
      have s20 := o20.ac.sl.forget
      rw [h20] at s20
      repeat' (first|refine wA ?_|refine wB ?_|refine wH ?_|refine wI ?_|refine wJ ?_|refine wC ?_|refine wD ?_|refine wE ?_|refine wF ?_|refine wG ?_|refine wK ?_|refine wL ?_|refine wM ?_|refine wN ?_|refine wO ?_|refine wP ?_|refine wQ ?_|refine wR ?_|refine wS ?_|refine wT ?_|refine wU ?_|refine wV ?_|refine wW ?_|refine wX ?_)
      refine Run.loopW (fun (a : Nat × Value × Hp × List LF) => (pats k w).length - a.1) (fun a => up (up (up (up (up (up jk 0 (.int .i64 (w + 1 : Nat))) 1 (.int .i64 k)) 5 a.2.1) 20 v20) 21 (.int .i64 (pats k w).length)) 22 (.int .i64 (a.1 : Int))) (fun a => a.2.2.1)
        (fun a => a.1 ≤ (pats k w).length ∧ Calm H a.2.2.1 ∧ Sl (cL cI) a.2.2.1 v20 (pats k w) ∧ OAc cI 3 24 H.nxt a.2.2.1 a.2.1 a.2.2.2 ∧ a.2.2.2.map (·.1) = ((pats k w).take a.1).flatMap (longerL k)) (0, v5, H2, []) rfl (by repeat (first | exact Wk.jk | refine Wk.up rfl ?_))
        ⟨by dsimp only; omega, c1.trans c2, s20, a5.calm c2, rfl⟩ ?_
      clear s20 a5 p1
      rintro ⟨i, v5, H3, ls⟩ ⟨hi, c3, s20, a5, hls⟩
      dsimp only at hi c3 s20 a5 hls
      dsimp only
      have hlong : ∀ p ∈ pats k w, (longerL k p).length ≤ 8 := fun p hp => by
        have := topOf_le (k := k) (b := k + w) (p := p) (by omega) fun n hn => ((pats_mem hk hp).2 n hn).2
        rw [longerL_length]; omega
      have hnl : ls.length ≤ (pats k w).length * 8 := by
        rw [← List.length_map (f := fun (x : LF) => x.1), hls]
        refine Nat.le_trans (flatMap_len (b := 8) fun p hp => hlong p (List.mem_of_mem_take hp)) (Nat.mul_le_mul_right _ ?_)
        rw [List.length_take]; omega
      repeat' (first|refine wA ?_|refine wB ?_|refine wH ?_|refine wI ?_|refine wJ ?_|refine wC ?_|refine wD ?_|refine wE ?_|refine wF ?_|refine wG ?_|refine wK ?_|refine wL ?_|refine wM ?_|refine wN ?_|refine wO ?_|refine wP ?_|refine wQ ?_|refine wR ?_|refine wS ?_|refine wT ?_|refine wU ?_|refine wV ?_|refine wW ?_|refine wX ?_)
      refine Ops.cmp rfl rfl rfl (fun hc2 => ?_) (fun hc2 => ?_)
      · repeat' (first|refine wA ?_|refine wB ?_|refine wH ?_|refine wI ?_|refine wJ ?_|refine wC ?_|refine wD ?_|refine wE ?_|refine wF ?_|refine wG ?_|refine wK ?_|refine wL ?_|refine wM ?_|refine wN ?_|refine wO ?_|refine wP ?_|refine wQ ?_|refine wR ?_|refine wS ?_|refine wT ?_|refine wU ?_|refine wV ?_|refine wW ?_|refine wX ?_)
        refine Ops.idx s20 rfl rfl (by omega) (by omega) (by kernel_rfl) (by kernel_rfl) fun pz u a ha hu => ?_
        have ha' : (pats k w)[i]? = some a := ha
        have hmem := List.mem_of_getElem? ha'
        obtain ⟨m1, m2⟩ := pats_mem hk hmem
        have su := cL_at hu
        repeat' (first|refine wA ?_|refine wB ?_|refine wH ?_|refine wI ?_|refine wJ ?_|refine wC ?_|refine wD ?_|refine wE ?_|refine wF ?_|refine wG ?_|refine wK ?_|refine wL ?_|refine wM ?_|refine wN ?_|refine wO ?_|refine wP ?_|refine wQ ?_|refine wR ?_|refine wS ?_|refine wT ?_|refine wU ?_|refine wV ?_|refine wW ?_|refine wX ?_)
        refine Run.loopW (fun (j : Nat) => a.length - j) (fun j => up (up (up (up (up (up (up (up (up (up (up jk 0 (.int .i64 (w + 1 : Nat))) 1 (.int .i64 k)) 5 v5) 20 v20) 21 (.int .i64 (pats k w).length)) 22 (.int .i64 (i : Int))) 7 u) 8 (.int .i64 (topOf k (a.take j)))) 27 u) 28 (.int .i64 a.length)) 29 (.int .i64 (j : Int))) (fun _ => H3) (fun j => j ≤ a.length) 0 rfl (by repeat (first | exact Wk.jk | refine Wk.up rfl ?_)) (by omega) ?_
        intro j hj
        repeat' (first|refine wA ?_|refine wB ?_|refine wH ?_|refine wI ?_|refine wJ ?_|refine wC ?_|refine wD ?_|refine wE ?_|refine wF ?_|refine wG ?_|refine wK ?_|refine wL ?_|refine wM ?_|refine wN ?_|refine wO ?_|refine wP ?_|refine wQ ?_|refine wR ?_|refine wS ?_|refine wT ?_|refine wU ?_|refine wV ?_|refine wW ?_|refine wX ?_)
        refine Ops.cmp rfl rfl rfl (fun hc3 => ?_) (fun hc3 => ?_)
        · repeat' (first|refine wA ?_|refine wB ?_|refine wH ?_|refine wI ?_|refine wJ ?_|refine wC ?_|refine wD ?_|refine wE ?_|refine wF ?_|refine wG ?_|refine wK ?_|refine wL ?_|refine wM ?_|refine wN ?_|refine wO ?_|refine wP ?_|refine wQ ?_|refine wR ?_|refine wS ?_|refine wT ?_|refine wU ?_|refine wV ?_|refine wW ?_|refine wX ?_)
          refine Ops.idxI su rfl (by omega) (by omega) (by kernel_rfl) (by kernel_rfl) fun pz b hb => ?_
          have hb' : a[j]? = some b := hb
          have hpb := m2 b (List.mem_of_getElem? hb')
          repeat' (first|refine wA ?_|refine wB ?_|refine wH ?_|refine wI ?_|refine wJ ?_|refine wC ?_|refine wD ?_|refine wE ?_|refine wF ?_|refine wG ?_|refine wK ?_|refine wL ?_|refine wM ?_|refine wN ?_|refine wO ?_|refine wP ?_|refine wQ ?_|refine wR ?_|refine wS ?_|refine wT ?_|refine wU ?_|refine wV ?_|refine wW ?_|refine wX ?_)
          refine Ops.callE l1Max_ok ?_
          repeat' (first|refine wA ?_|refine wB ?_|refine wH ?_|refine wI ?_|refine wJ ?_|refine wC ?_|refine wD ?_|refine wE ?_|refine wF ?_|refine wG ?_|refine wK ?_|refine wL ?_|refine wM ?_|refine wN ?_|refine wO ?_|refine wP ?_|refine wQ ?_|refine wR ?_|refine wS ?_|refine wT ?_|refine wU ?_|refine wV ?_|refine wW ?_|refine wX ?_)
          refine ⟨j + 1, by dsimp only; omega, rfl, rfl, by dsimp only; rw [take_snoc hb', topOf_snoc]; exact (by repeat (first | exact Wk.jk | refine Wk.up rfl ?_)), ?_⟩
          omega
        · have hja : j = a.length := by omega
          subst hja
          rw [List.take_length]
          have ht : topOf k a ≤ k + w := topOf_le (by omega) fun n hn => (m2 n hn).2
          have ht0 : k ≤ topOf k a := topOf_ge
          generalize hT : topOf k a = top at ht ht0
          repeat' (first|refine wA ?_|refine wB ?_|refine wH ?_|refine wI ?_|refine wJ ?_|refine wC ?_|refine wD ?_|refine wE ?_|refine wF ?_|refine wG ?_|refine wK ?_|refine wL ?_|refine wM ?_|refine wN ?_|refine wO ?_|refine wP ?_|refine wQ ?_|refine wR ?_|refine wS ?_|refine wT ?_|refine wU ?_|refine wV ?_|refine wW ?_|refine wX ?_)
          refine Run.loopW (fun (b : Nat × Value × Hp × List LF) => 1002 - b.1) (fun b => up (up (up (up (up (up (up (up (up jk 0 (.int .i64 (w + 1 : Nat))) 1 (.int .i64 k)) 5 b.2.1) 20 v20) 21 (.int .i64 (pats k w).length)) 22 (.int .i64 (i : Int))) 7 u) 8 (.int .i64 top)) 11 (.int .i64 (b.1 : Int))) (fun b => b.2.2.1)
            (fun b => (b.1 : Int) ≤ top + 1 ∧ Calm H b.2.2.1 ∧ Sl (cL cI) b.2.2.1 v20 (pats k w) ∧ Sl cI b.2.2.1 u a ∧ OAc cI 3 24 H.nxt b.2.2.1 b.2.1 b.2.2.2 ∧ b.2.2.2.map (·.1) = ls.map (·.1) ++ (List.range b.1).map fun (n : Nat) => a ++ [(n : Int)]) (0, v5, H3, ls) rfl (by repeat (first | exact Wk.jk | refine Wk.up rfl ?_))
            ⟨by dsimp only; omega, c3, s20, su, a5, by simp⟩ ?_
          clear c3 s20 su a5 hu
          rintro ⟨n, v5, H3, ns⟩ ⟨hn, c3, s20, su, a5, hns⟩
          dsimp only at hn c3 s20 su a5 hns
          dsimp only
          have hnl2 : ns.length = ls.length + n := by rw [← List.length_map (f := fun (x : LF) => x.1), hns]; simp
          repeat' (first|refine wA ?_|refine wB ?_|refine wH ?_|refine wI ?_|refine wJ ?_|refine wC ?_|refine wD ?_|refine wE ?_|refine wF ?_|refine wG ?_|refine wK ?_|refine wL ?_|refine wM ?_|refine wN ?_|refine wO ?_|refine wP ?_|refine wQ ?_|refine wR ?_|refine wS ?_|refine wT ?_|refine wU ?_|refine wV ?_|refine wW ?_|refine wX ?_)
          refine Ops.cmp rfl rfl rfl (fun hc4 => ?_) (fun hc4 => ?_)
          · repeat' (first|refine wA ?_|refine wB ?_|refine wH ?_|refine wI ?_|refine wJ ?_|refine wC ?_|refine wD ?_|refine wE ?_|refine wF ?_|refine wG ?_|refine wK ?_|refine wL ?_|refine wM ?_|refine wN ?_|refine wO ?_|refine wP ?_|refine wQ ?_|refine wR ?_|refine wS ?_|refine wT ?_|refine wU ?_|refine wV ?_|refine wW ?_|refine wX ?_)
            refine Ops.call (l1Copy_ok su (by omega)) (fun _ _ h _ => h.1.ge') fun r H4 => ?_
            rintro ⟨c4, a4⟩
            repeat' (first|refine wA ?_|refine wB ?_|refine wH ?_|refine wI ?_|refine wJ ?_|refine wC ?_|refine wD ?_|refine wE ?_|refine wF ?_|refine wG ?_|refine wK ?_|refine wL ?_|refine wM ?_|refine wN ?_|refine wO ?_|refine wP ?_|refine wQ ?_|refine wR ?_|refine wS ?_|refine wT ?_|refine wU ?_|refine wV ?_|refine wW ?_|refine wX ?_)
            refine Ops.push (a := (n : Int)) rdI a4 rfl (by simp) c4.1 (by kernel_rfl) (by kernel_rfl) (by kernel_rfl) (by omega) (by decide) fun q v' H5 a6 g6 => ?_
            have c6 : Calm H3 H5 := g6.calm H3 (Nat.le_refl _) c4
            obtain ⟨F, f1, f2, f3, f4⟩ := a6.rw_
            have a5' := a5.calm c6
            refine Ops.push (a := (a ++ [(n : Int)], F)) (rdF rdI) a5'.ac (cF_of f1) (by simp) (Nat.le_trans c3.1 c6.1) (by kernel_rfl) (by kernel_rfl) (by kernel_rfl) (by omega) (by decide) fun q2 v5' H6 a7 g7 => ?_
            have o7 : OAc cI 3 24 H.nxt H6 v5' (ns ++ [(a ++ [(n : Int)], F)]) := a5'.grow a7 g7 (by rw [fps_one]; exact f2.older c3.1) (by rw [fps_one]; exact f3) (by rw [fps_one]; exact fresh_not a5.own (Nat.le_refl _) f2) (by rw [fps_one]; exact fresh_ne a5.ac.live (Nat.le_refl _) f2)
            repeat' (first|refine wA ?_|refine wB ?_|refine wH ?_|refine wI ?_|refine wJ ?_|refine wC ?_|refine wD ?_|refine wE ?_|refine wF ?_|refine wG ?_|refine wK ?_|refine wL ?_|refine wM ?_|refine wN ?_|refine wO ?_|refine wP ?_|refine wQ ?_|refine wR ?_|refine wS ?_|refine wT ?_|refine wU ?_|refine wV ?_|refine wW ?_|refine wX ?_)
            refine ⟨(n + 1, v5', H6, ns ++ [(a ++ [(n : Int)], F)]), by dsimp only; omega, rfl, rfl, by dsimp only; exact (by repeat (first | exact Wk.jk | refine Wk.up rfl ?_)), ?_⟩
            exact ⟨by dsimp only; omega, g7.calm H (Nat.le_refl _) (c3.trans c6), g7.sl (rdL rdI) (s20.calm c6), g7.sl rdI (su.calm c6), o7, by simp [hns, List.range_succ]⟩
          · repeat' (first|refine wA ?_|refine wB ?_|refine wH ?_|refine wI ?_|refine wJ ?_|refine wC ?_|refine wD ?_|refine wE ?_|refine wF ?_|refine wG ?_|refine wK ?_|refine wL ?_|refine wM ?_|refine wN ?_|refine wO ?_|refine wP ?_|refine wQ ?_|refine wR ?_|refine wS ?_|refine wT ?_|refine wU ?_|refine wV ?_|refine wW ?_|refine wX ?_)
            refine ⟨(i + 1, v5, H3, ns), by dsimp only; omega, rfl, rfl, by dsimp only; exact (by repeat (first | exact Wk.jk | refine Wk.up rfl ?_)), ?_⟩
            refine ⟨by dsimp only; omega, c3, s20, a5, ?_⟩
            have : n = (top + 1).toNat := by omega
            dsimp only
            rw [hns, take_snoc ha', List.flatMap_append, ← hls]
            simp [longerL, hT, this]
      · repeat' (first|refine wA ?_|refine wB ?_|refine wH ?_|refine wI ?_|refine wJ ?_|refine wC ?_|refine wD ?_|refine wE ?_|refine wF ?_|refine wG ?_|refine wK ?_|refine wL ?_|refine wM ?_|refine wN ?_|refine wO ?_|refine wP ?_|refine wQ ?_|refine wR ?_|refine wS ?_|refine wT ?_|refine wU ?_|refine wV ?_|refine wW ?_|refine wX ?_)
        refine Run.ret ⟨.inl rfl, ResK.tmp rfl (by conv => lhs; whnf) (ResK.nil ?_)⟩
        have hjp : i = (pats k w).length := by omega
        subst hjp
        rw [List.take_length] at hls
        exact ⟨c3, ls, a5, hls⟩


/-- Another variable has been written: a list of rows stands. -/
theorem Ac.modF {k e e' r : Nat} {H H' : Hp} {v p : Value} {ls : List LF} (h : Ac (cF cI e) e' k H v ls) (hr : Rt H p r) (hp : Ap v p) (hm : Mod r H H') (hel : ∀ a ∈ ls, (elF e).E H r a) : Ac (cF cI e) e' k H' v ls :=
  h.mod hr hp hm (fun cs a ha hok => (elF e).mod (hel a ha) hm hok)

/-- What is old has the right to grow that it had, and its root. -/
structure Sm (H H' : Hp) : Prop where
  nxt : H.nxt ≤ H'.nxt
  own : ∀ id, id < H.nxt → H'.own id = H.own id ∧ H'.root id = H.root id

theorem Sm.refl {H : Hp} : Sm H H := ⟨Nat.le_refl _, fun _ _ => ⟨rfl, rfl⟩⟩
theorem Sm.mod {H0 H H' : Hp} {r : Nat} (h : Sm H0 H) (hm : Mod r H H') : Sm H0 H' := ⟨by rw [hm.nxt]; exact h.nxt, fun id hi => by
  have hi' := Nat.lt_of_lt_of_le hi h.nxt
  exact ⟨(hm.own id hi').1.trans (h.own id hi).1, (hm.own id hi').2.trans (h.own id hi).2⟩⟩
theorem Sm.grew {α : Type} {c : Cd α} {H0 H H' : Hp} {v v' : Value} {k e : Nat} {l : List α} (h : Sm H0 H) (hg : Grew k H v H' v') (ha : Ac c e k H v l) (hk : H0.nxt ≤ k) : Sm H0 H' := ⟨Nat.le_trans h.nxt hg.kp.1, fun id hi => by
  have hi' := Nat.lt_of_lt_of_le hi h.nxt
  obtain ⟨e1, e2, e3⟩ := hg.kp.2 id hi'
  refine ⟨(e3 fun hv => ?_).trans (h.own id hi).1, e2.trans (h.own id hi).2⟩
  rcases ha with ⟨h1, _⟩ | ⟨id', ob, h1, h2, h3, h4, _⟩
  · rw [h1] at hv; cases hv
  · rw [h1] at hv
    injection hv with hv
    have hv' : id' = id := hv
    subst hv'
    have := H.rt id' hi'
    omega⟩
theorem Sm.rt {H H' : Hp} {p : Value} {r : Nat} (h : Sm H H') (hr : Rt H p r) : Rt H' p r := let ⟨id, h1, h2, h3, h4⟩ := hr; ⟨id, h1, Nat.lt_of_lt_of_le h2 h.nxt, (h.own id h2).1.trans h3, (h.own id h2).2.trans h4⟩
theorem Sm.el {H H' : Hp} {r e : Nat} {a : LF} (h : Sm H H') (ha : (elF e).E H r a) : (elF e).E H' r a :=
  ⟨fun f hf => by obtain ⟨g1, g2, g3⟩ := ha.1 f hf; exact ⟨Nat.lt_of_lt_of_le g1 h.nxt, (h.own f g1).1.trans g2, Nat.zero_le _⟩, fun f hf => by rw [(h.own f (ha.1 f hf).1).2]; exact ha.2 f hf⟩

theorem l6Those_ok {H : Hp} {u v : Value} {cs : List Int} {ls : List (List Int)} {w : Nat} (hu : Sl cI H u cs) (hcs : cs.length ≤ 3) (hw : w ≤ 4) (hv : Sl (cL cI) H v ls) :
    CallK Try.prog 78 [.int .i64 w, u, v] H (fun r H' => Calm H H' ∧ cOS.ok H' (cellsOf r) ⟨w, cs, thoseL cs.length w ls⟩ ∧ (cellsOf r).all Value.one = true ∧ (cellsOf r).length = 3 ∧ ∀ (q : Value) (j : Nat) (H2 : Hp), Live H q → Rt H' q j → j < H.nxt → Mod j H' H2 → cOS.ok H2 (cellsOf r) ⟨w, cs, thoseL cs.length w ls⟩) := by
  refine (CallK.enter Try.func78 rfl rfl Try.ntmps78 Try.results78 rfl ?_)
  repeat' (first|refine wA ?_|refine wB ?_|refine wH ?_|refine wI ?_|refine wJ ?_|refine wC ?_|refine wD ?_|refine wE ?_|refine wF ?_|refine wG ?_|refine wK ?_|refine wL ?_|refine wM ?_|refine wN ?_|refine wO ?_|refine wP ?_|refine wQ ?_|refine wR ?_|refine wS ?_|refine wT ?_|refine wU ?_|refine wV ?_|refine wW ?_|refine wX ?_)
  refine Ops.alloc H.nxt (Nat.le_refl _) (z0 := .agg #[.int .i64 0, nilS, nilS]) (by kernel_rfl) (by rfl) (by decide) fun p6 H1 o1 c1 ap1 => ?_
  repeat' (first|refine wA ?_|refine wB ?_|refine wH ?_|refine wI ?_|refine wJ ?_|refine wC ?_|refine wD ?_|refine wE ?_|refine wF ?_|refine wG ?_|refine wK ?_|refine wL ?_|refine wM ?_|refine wN ?_|refine wO ?_|refine wP ?_|refine wQ ?_|refine wR ?_|refine wS ?_|refine wT ?_|refine wU ?_|refine wV ?_|refine wW ?_|refine wX ?_)
  refine Ops.call (l1Copy_ok (hu.calm c1) (by omega)) (fun _ _ h _ => h.1.ge') fun u2 H2 => ?_
  rintro ⟨c2, a2⟩
  obtain ⟨n2, e2⟩ := a2.sl.val
  refine Ops.build (pl := [(0, 1), (1, 1), (2, 1)]) (zs := [.int .i64 0, .slice none 0 0, .slice none 0 0]) (cs := [.int .i64 w, u2, nilS]) (by kernel_rfl) (by subst e2; simp [rd, up]; exact ⟨rfl, rfl⟩) (by subst e2; rfl) ?_
  refine Ops.var H2.nxt (Nat.le_refl _) (z0 := .agg #[.int .i64 0, nilS, nilS]) (by kernel_rfl) (by rfl) (by decide) (ds := [.int .i64 w, u2, nilS]) rfl (by simp) (by kernel_rfl) rfl (by rw [List.all_cons, List.all_cons, sl_one a2.sl]; rfl) fun p7 H3 o3 c3 ap3 => ?_
  have p27 : Ap u2 p7 := ap3 u2 a2.live
  have c13 := c2.trans c3
  have c03 := c1.trans c13
  repeat' (first|refine wA ?_|refine wB ?_|refine wH ?_|refine wI ?_|refine wJ ?_|refine wC ?_|refine wD ?_|refine wE ?_|refine wF ?_|refine wG ?_|refine wK ?_|refine wL ?_|refine wM ?_|refine wN ?_|refine wO ?_|refine wP ?_|refine wQ ?_|refine wR ?_|refine wS ?_|refine wT ?_|refine wU ?_|refine wV ?_|refine wW ?_|refine wX ?_)
  refine Ops.len (hu.calm c03) (by kernel_rfl) ?_
  refine Ops.call (l6AllO_ok (k := (cs.length : Int)) (by omega) (by omega) w H3 hw) (fun _ _ h _ => h.1.ge') fun v17 H4 => ?_
  rintro ⟨c4, l17, o17, h17⟩
  have o4 := o3.calm c4
  obtain ⟨r7, hr7, t7⟩ := o4.rt
  have hroot7 : r7 < H3.nxt := by
    obtain ⟨id, g1, g2, g3, g4⟩ := t7
    obtain ⟨id', ob, k1, k2, k3, k4, k5⟩ := o3
    rw [k1] at g1
    injection g1 with g1
    have g1' : id' = id := g1
    subst g1'
    have := H3.rt id' (Hp.lt k2)
    have := (c4.2 id' (Hp.lt k2)).2.2
    have := Hp.lt k2
    omega
  have hel4 : ∀ a ∈ l17, (elF 3).E H4 r7 a := fun a ha => by
    obtain ⟨i, hi⟩ := List.mem_iff_getElem?.1 ha
    refine ⟨fun f hf => ?_, fun f hf => ?_⟩
    · obtain ⟨g1, g2, g3⟩ := o17.own f (fps_mem hi hf)
      exact ⟨g1, g2, Nat.zero_le _⟩
    · obtain ⟨g1, g2, g3⟩ := o17.own f (fps_mem hi hf)
      omega
  have p177 : Ap v17 p7 := (o17.ac.ap (Nat.le_refl _) (Pt.live o3.pt)).symm
  have hl17 : l17.length = (pats cs.length w).length := by rw [← h17, List.length_map]
  have hlen : (pats (cs.length : Int) w).length ≤ 4096 := Nat.le_trans (pats_length (by omega) (by omega) hw) (Nat.le_trans (Nat.pow_le_pow_right (by omega) hw) (by decide))
  have s17 := o17.ac
  have v3 := hv.calm (c03.trans c4)
  have c04 := c03.trans c4
  have a2' := (a2.calm c3).calm c4
  have hlow : ∀ r, r < H3.nxt → ∀ a ∈ l17, (elF 3).E H4 r a := fun r hr a ha => by
    obtain ⟨i, hi⟩ := List.mem_iff_getElem?.1 ha
    refine ⟨fun f hf => ?_, fun f hf => ?_⟩
    · obtain ⟨g1, g2, g3⟩ := o17.own f (fps_mem hi hf)
      exact ⟨g1, g2, Nat.zero_le _⟩
    · obtain ⟨g1, g2, g3⟩ := o17.own f (fps_mem hi hf)
      omega
  have hH14 : H1.nxt ≤ H4.nxt := Nat.le_trans c13.1 c4.1
  repeat' (first|refine wA ?_|refine wB ?_|refine wH ?_|refine wI ?_|refine wJ ?_|refine wC ?_|refine wD ?_|refine wE ?_|refine wF ?_|refine wG ?_|refine wK ?_|refine wL ?_|refine wM ?_|refine wN ?_|refine wO ?_|refine wP ?_|refine wQ ?_|refine wR ?_|refine wS ?_|refine wT ?_|refine wU ?_|refine wV ?_|refine wW ?_|refine wX ?_)
  refine Run.loopW (fun (x : Nat × Hp × Value × List LF) => l17.length - x.1) (fun x => up (up (up (up (up (up jk 2 v) 6 p6) 7 p7) 17 v17) 18 (.int .i64 (l17.length : Int))) 19 (.int .i64 (x.1 : Int))) (fun x => x.2.1)
    (fun x => x.1 ≤ l17.length ∧ Calm H1 x.2.1 ∧ Po H2.nxt x.2.1 p7 [.int .i64 w, u2, x.2.2.1] ∧ Sm H4 x.2.1 ∧ Ac cI 3 H1.nxt x.2.1 u2 cs ∧ Ac (cF cI 3) 24 H3.nxt x.2.1 v17 l17 ∧ Ac (cF cI 3) 24 H4.nxt x.2.1 x.2.2.1 x.2.2.2 ∧ Ap x.2.2.1 p7 ∧ Ap x.2.2.1 v17 ∧ Ap x.2.2.1 u2 ∧ x.2.2.2 = (l17.take x.1).filter (fun a => dec (a.1 ∈ ls))) (0, H4, nilS, []) rfl (by repeat (first | exact Wk.jk | refine Wk.up rfl ?_))
    ⟨by dsimp only; omega, c13.trans c4, o4, Sm.refl, a2', s17, Ac.nil, Ap.nil_l, Ap.nil_l, Ap.nil_l, by simp⟩ ?_
  rintro ⟨i, H5, u5, m5⟩ ⟨hi, c5, o5, sm5, a5, s5, b5, q1, q2, q3, hm5⟩
  dsimp only at hi c5 o5 sm5 a5 s5 b5 q1 q2 q3 hm5
  dsimp only
  have v5 := hv.calm (c1.trans c5)
  have hmlen : m5.length ≤ l17.length := by rw [hm5]; refine Nat.le_trans (List.length_filter_le _ _) ?_; rw [List.length_take]; omega
  have hm5in : ∀ a ∈ m5, a ∈ l17 := fun a ha => by rw [hm5] at ha; exact List.mem_of_mem_take (List.mem_filter.1 ha).1
  repeat' (first|refine wA ?_|refine wB ?_|refine wH ?_|refine wI ?_|refine wJ ?_|refine wC ?_|refine wD ?_|refine wE ?_|refine wF ?_|refine wG ?_|refine wK ?_|refine wL ?_|refine wM ?_|refine wN ?_|refine wO ?_|refine wP ?_|refine wQ ?_|refine wR ?_|refine wS ?_|refine wT ?_|refine wU ?_|refine wV ?_|refine wW ?_|refine wX ?_)
  refine Ops.cmp rfl rfl rfl (fun hc => ?_) (fun hc => ?_)
  · repeat' (first|refine wA ?_|refine wB ?_|refine wH ?_|refine wI ?_|refine wJ ?_|refine wC ?_|refine wD ?_|refine wE ?_|refine wF ?_|refine wG ?_|refine wK ?_|refine wL ?_|refine wM ?_|refine wN ?_|refine wO ?_|refine wP ?_|refine wQ ?_|refine wR ?_|refine wS ?_|refine wT ?_|refine wU ?_|refine wV ?_|refine wW ?_|refine wX ?_)
    refine Ops.idx s5.sl rfl rfl (by omega) (by omega) (by kernel_rfl) (by kernel_rfl) fun pz u a ha hu => ?_
    have ha' : l17[i]? = some a := ha
    have hua := cF_at hu
    have hfil : (l17.take (i + 1)).filter (fun a => dec (a.1 ∈ ls)) = m5 ++ (if dec (a.1 ∈ ls) = true then [a] else []) := by
      rw [take_snoc ha', List.filter_append, ← hm5]
      by_cases hd : dec (a.1 ∈ ls) = true
      · simp [hd]
      · simp [hd]
    repeat' (first|refine wA ?_|refine wB ?_|refine wH ?_|refine wI ?_|refine wJ ?_|refine wC ?_|refine wD ?_|refine wE ?_|refine wF ?_|refine wG ?_|refine wK ?_|refine wL ?_|refine wM ?_|refine wN ?_|refine wO ?_|refine wP ?_|refine wQ ?_|refine wR ?_|refine wS ?_|refine wT ?_|refine wU ?_|refine wV ?_|refine wW ?_|refine wX ?_)
    refine Ops.callB (l6There_ok v5 hua.1) (fun hd => ?_) (fun hd => ?_)
    · rw [if_pos hd] at hfil
      repeat' (first|refine wA ?_|refine wB ?_|refine wH ?_|refine wI ?_|refine wJ ?_|refine wC ?_|refine wD ?_|refine wE ?_|refine wF ?_|refine wG ?_|refine wK ?_|refine wL ?_|refine wM ?_|refine wN ?_|refine wO ?_|refine wP ?_|refine wQ ?_|refine wR ?_|refine wS ?_|refine wT ?_|refine wU ?_|refine wV ?_|refine wW ?_|refine wX ?_)
      refine Ops.fld 2 o5.pt (by kernel_rfl) (by kernel_rfl) rfl fun pz => ?_
      repeat' (first|refine wA ?_|refine wB ?_|refine wH ?_|refine wI ?_|refine wJ ?_|refine wC ?_|refine wD ?_|refine wE ?_|refine wF ?_|refine wG ?_|refine wK ?_|refine wL ?_|refine wM ?_|refine wN ?_|refine wO ?_|refine wP ?_|refine wQ ?_|refine wR ?_|refine wS ?_|refine wT ?_|refine wU ?_|refine wV ?_|refine wW ?_|refine wX ?_)
      refine Ops.push (a := a) (rdF rdI) b5 (cF_of hua) (by simp) sm5.nxt (by kernel_rfl) (by kernel_rfl) (by kernel_rfl) (by omega) (by decide) fun pz u6 H6 b6 g6 => ?_
      have c6 := g6.calm H1 hH14 c5
      have sm6 := sm5.grew g6 b5 (Nat.le_refl _)
      obtain ⟨a6, x2⟩ := g6.two rdI a5 q3.symm
      obtain ⟨s6, x17⟩ := g6.two (rdF rdI) s5 q2.symm
      have x7 := g6.ap p7 o5.live q1.symm
      have o6 : Po H2.nxt H6 p7 [.int .i64 w, u2, u5] := o5.kp g6.kp q1.symm
      have t6 := sm6.rt t7
      repeat' (first|refine wA ?_|refine wB ?_|refine wH ?_|refine wI ?_|refine wJ ?_|refine wC ?_|refine wD ?_|refine wE ?_|refine wF ?_|refine wG ?_|refine wK ?_|refine wL ?_|refine wM ?_|refine wN ?_|refine wO ?_|refine wP ?_|refine wQ ?_|refine wR ?_|refine wS ?_|refine wT ?_|refine wU ?_|refine wV ?_|refine wW ?_|refine wX ?_)
      refine Ops.setf 2 o6 t6 (by kernel_rfl) (by kernel_rfl) rfl (by simp) b6.cells1.1 b6.cells1.2 (by simp) fun pz H7 m7 o7 => ?_
      repeat' (first|refine wA ?_|refine wB ?_|refine wH ?_|refine wI ?_|refine wJ ?_|refine wC ?_|refine wD ?_|refine wE ?_|refine wF ?_|refine wG ?_|refine wK ?_|refine wL ?_|refine wM ?_|refine wN ?_|refine wO ?_|refine wP ?_|refine wQ ?_|refine wR ?_|refine wS ?_|refine wT ?_|refine wU ?_|refine wV ?_|refine wW ?_|refine wX ?_)
      refine ⟨(i + 1, H7, u6, m5 ++ [a]), by dsimp only; omega, rfl, rfl, by dsimp only; exact (by repeat (first | exact Wk.jk | refine Wk.up rfl ?_)), ?_⟩
      refine ⟨by dsimp only; omega, m7.calm c6 (Nat.le_trans c2.1 hr7), o7, sm6.mod m7, a6.mod t6 p27 m7 (fun _ _ _ h => h), s6.modF t6 p177 m7 (fun z hz => sm6.el (hel4 z hz)), b6.modF t6 x7.symm m7 (fun z hz => sm6.el (hel4 z ?_)), x7.symm, x17.symm, x2.symm, hfil.symm⟩
      rcases List.mem_append.1 hz with hz | hz
      · exact hm5in z hz
      · obtain rfl := List.mem_singleton.1 hz; exact List.mem_of_getElem? ha'
    · rw [if_neg (by simp [hd]), List.append_nil] at hfil
      repeat' (first|refine wA ?_|refine wB ?_|refine wH ?_|refine wI ?_|refine wJ ?_|refine wC ?_|refine wD ?_|refine wE ?_|refine wF ?_|refine wG ?_|refine wK ?_|refine wL ?_|refine wM ?_|refine wN ?_|refine wO ?_|refine wP ?_|refine wQ ?_|refine wR ?_|refine wS ?_|refine wT ?_|refine wU ?_|refine wV ?_|refine wW ?_|refine wX ?_)
      refine ⟨(i + 1, H5, u5, m5), by dsimp only; omega, rfl, rfl, by dsimp only; exact (by repeat (first | exact Wk.jk | refine Wk.up rfl ?_)), ?_⟩
      exact ⟨by dsimp only; omega, c5, o5, sm5, a5, s5, b5, q1, q2, q3, hfil.symm⟩
  · rw [take_end (by omega)] at hm5
    have o6 := o1.calm c5
    obtain ⟨r6, hr6, t6⟩ := o6.rt
    have hr6' : r6 < H3.nxt := by
      obtain ⟨id, g1, g2, g3, g4⟩ := t6
      obtain ⟨id', ob, k1, k2, k3, k4, k5⟩ := o1
      rw [k1] at g1
      injection g1 with g1
      have g1' : id' = id := g1
      subst g1'
      have := H1.rt id' (Hp.lt k2)
      have := (c5.2 id' (Hp.lt k2)).2.2
      have := Hp.lt k2
      have := c13.1
      omega
    have pl1 : Live H1 p6 := o1.live
    have p26 : Ap u2 p6 := (a5.ap (Nat.le_refl _) pl1).symm
    have p56 : Ap u5 p6 := (b5.ap hH14 pl1).symm
    repeat' (first|refine wA ?_|refine wB ?_|refine wH ?_|refine wI ?_|refine wJ ?_|refine wC ?_|refine wD ?_|refine wE ?_|refine wF ?_|refine wG ?_|refine wK ?_|refine wL ?_|refine wM ?_|refine wN ?_|refine wO ?_|refine wP ?_|refine wQ ?_|refine wR ?_|refine wS ?_|refine wT ?_|refine wU ?_|refine wV ?_|refine wW ?_|refine wX ?_)
    refine Ops.loadS o5.pt (by kernel_rfl) (by kernel_rfl) ?_
    refine Ops.storeS (ds := [.int .i64 w, u2, u5]) o6 t6 rfl (by kernel_rfl) rfl (by rw [List.all_cons, List.all_cons, List.all_cons, sl_one a5.sl, sl_one b5.sl]; rfl) fun H6 m6 o7 => ?_
    repeat' (first|refine wA ?_|refine wB ?_|refine wH ?_|refine wI ?_|refine wJ ?_|refine wC ?_|refine wD ?_|refine wE ?_|refine wF ?_|refine wG ?_|refine wK ?_|refine wL ?_|refine wM ?_|refine wN ?_|refine wO ?_|refine wP ?_|refine wQ ?_|refine wR ?_|refine wS ?_|refine wT ?_|refine wU ?_|refine wV ?_|refine wW ?_|refine wX ?_)
    refine Run.ret ⟨.inl rfl, ResK.cells rfl o7.pt (by kernel_rfl) (by kernel_rfl) (ResK.nil ?_)⟩
    have a6 := a5.mod t6 p26 m6 (fun _ _ _ h => h)
    have b6 := b5.modF t6 p56 m6 (fun z hz => sm5.el (hlow r6 hr6' z (hm5in z hz)))
    have e : m5.map (·.1) = thoseL (cs.length : Int) w ls := by
      unfold thoseL
      rw [← h17, hm5, List.filter_map]
      rfl
    refine ⟨m6.calm (c1.trans c5) hr6, ⟨u2, u5, rfl, a6.sl, ?_⟩, by show List.all [Value.int .i64 w, u2, u5] Value.one = true; rw [List.all_cons, List.all_cons, List.all_cons, sl_one a5.sl, sl_one b5.sl]; rfl, rfl, fun q j H8 hq tq hj mj => ?_⟩
    · have hs := b6.sl.forget
      rw [e] at hs
      exact hs
    · have hq1 : Live H1 q := hq.calm c1
      have a8 := a6.mod tq (a6.ap (Nat.le_refl _) hq1).symm mj (fun _ _ _ h => h)
      have b8 := b6.modF tq (b6.ap hH14 hq1).symm mj (fun z hz => (sm5.mod m6).el (hlow j (Nat.lt_of_lt_of_le hj c03.1) z (hm5in z hz)))
      have hs := b8.sl.forget
      rw [e] at hs
      exact ⟨u2, u5, rfl, a8.sl, hs⟩

end Go.Proofs.Ytefmjpbmdoebaaa

/- Draws: the cursor over the bytes, numbers drawn of it. -/
set_option linter.unusedVariables false
namespace Go.Proofs.Ytefmjpbmdoebaaa
open Go Go.RowKit

/-- A cursor over bytes, made since H0. -/
def Cur (H0 H : Hp) (c : Value) (bs : List Int) : Prop :=
  Calm H0 H ∧ (∀ b ∈ bs, 0 ≤ b ∧ b ≤ 255) ∧ ∃ (vb : Value) (i h : Int), Po H0.nxt H c [vb, .int .i64 i, .int .i64 h] ∧ Sl cB H0 vb bs ∧ 0 ≤ i ∧ i ≤ bs.length

section
variable {H0 H H' : Hp} {c v : Value} {bs l : List Int} {e k : Nat}

theorem Cur.live (h : Cur H0 H c bs) : Live H c := let ⟨_, _, _, _, _, h, _⟩ := h; h.live
theorem Cur.calm (h : Cur H0 H c bs) (hc : Calm H H') : Cur H0 H' c bs := let ⟨h1, h2, vb, i, x, h3, h4⟩ := h; ⟨h1.trans hc, h2, vb, i, x, h3.calm hc, h4⟩
theorem Cur.grew {v' : Value} (h : Cur H0 H c bs) (hg : Grew k H v H' v') (hk : H0.nxt ≤ k) (hp : Ap c v) : Cur H0 H' c bs := let ⟨h1, h2, vb, i, x, h3, h4⟩ := h; ⟨hg.calm H0 hk h1, h2, vb, i, x, h3.kp hg.kp hp, h4⟩
theorem Cur.ac (h : Cur H0 H c bs) (ht : Touch c H H') (ha : Ac cI e k H v l) (hp : Ap v c) : Ac cI e k H' v l := let ⟨_, _, _, _, _, h3, _⟩ := h; ht.ac h3 ha hp
end

/-- The cursor has been moved on, nothing else that is old has been changed. -/
def Dr (H0 : Hp) (c : Value) (bs : List Int) (H H' : Hp) : Prop := Cur H0 H' c bs ∧ Touch c H H'

theorem Dr.trans {H0 H H1 H2 : Hp} {c : Value} {bs : List Int} (hl : Live H c) (h : Dr H0 c bs H H1) (h' : Dr H0 c bs H1 H2) : Dr H0 c bs H H2 := ⟨h'.1, h.2.trans hl h'.2⟩

theorem l1New_ok {H : Hp} {v : Value} {bs : List Int} (h : Sl cB H v bs) (hb : ∀ b ∈ bs, 0 ≤ b ∧ b ≤ 255) (hl : bs.length ≤ 1048576) : CallK Try.prog 54 [v] H (fun r H' => Calm H H' ∧ Cur H H' r bs) := by
  obtain ⟨q, hq⟩ := h.val
  refine (CallK.enter Try.func54 rfl rfl Try.ntmps54 Try.results54 rfl ?_)
  repeat' (first|refine wA ?_|refine wB ?_|refine wH ?_|refine wI ?_|refine wJ ?_|refine wC ?_|refine wD ?_|refine wE ?_|refine wF ?_|refine wG ?_|refine wK ?_|refine wL ?_|refine wM ?_|refine wN ?_|refine wO ?_|refine wP ?_|refine wQ ?_|refine wR ?_|refine wS ?_|refine wT ?_|refine wU ?_|refine wV ?_|refine wW ?_|refine wX ?_)
  refine Ops.mulA rfl rfl fun r1 => ?_
  refine Ops.addA rfl rfl fun r2 => ?_
  repeat' (first|refine wA ?_|refine wB ?_|refine wH ?_|refine wI ?_|refine wJ ?_|refine wC ?_|refine wD ?_|refine wE ?_|refine wF ?_|refine wG ?_|refine wK ?_|refine wL ?_|refine wM ?_|refine wN ?_|refine wO ?_|refine wP ?_|refine wQ ?_|refine wR ?_|refine wS ?_|refine wT ?_|refine wU ?_|refine wV ?_|refine wW ?_|refine wX ?_)
  refine Run.loopW (fun (a : Nat × Int) => bs.length - a.1) (fun a => up (up (up jk 0 v) 3 (.int .i64 a.2)) 4 (.int .i64 (a.1 : Int))) (fun _ => H) (fun a => a.1 ≤ bs.length) (0, r2) rfl (by repeat (first | exact Wk.jk | refine Wk.up rfl ?_)) (by dsimp only; omega) ?_
  rintro ⟨i, x⟩ hi
  dsimp only at hi
  dsimp only
  repeat' (first|refine wA ?_|refine wB ?_|refine wH ?_|refine wI ?_|refine wJ ?_|refine wC ?_|refine wD ?_|refine wE ?_|refine wF ?_|refine wG ?_|refine wK ?_|refine wL ?_|refine wM ?_|refine wN ?_|refine wO ?_|refine wP ?_|refine wQ ?_|refine wR ?_|refine wS ?_|refine wT ?_|refine wU ?_|refine wV ?_|refine wW ?_|refine wX ?_)
  refine Ops.cmp rfl rfl rfl (fun hc => ?_) (fun hc => ?_)
  · repeat' (first|refine wA ?_|refine wB ?_|refine wH ?_|refine wI ?_|refine wJ ?_|refine wC ?_|refine wD ?_|refine wE ?_|refine wF ?_|refine wG ?_|refine wK ?_|refine wL ?_|refine wM ?_|refine wN ?_|refine wO ?_|refine wP ?_|refine wQ ?_|refine wR ?_|refine wS ?_|refine wT ?_|refine wU ?_|refine wV ?_|refine wW ?_|refine wX ?_)
    refine Ops.cmp rfl rfl rfl (fun hc2 => ?_) (fun hc2 => ?_)
    · repeat' (first|refine wA ?_|refine wB ?_|refine wH ?_|refine wI ?_|refine wJ ?_|refine wC ?_|refine wD ?_|refine wE ?_|refine wF ?_|refine wG ?_|refine wK ?_|refine wL ?_|refine wM ?_|refine wN ?_|refine wO ?_|refine wP ?_|refine wQ ?_|refine wR ?_|refine wS ?_|refine wT ?_|refine wU ?_|refine wV ?_|refine wW ?_|refine wX ?_)
      refine Ops.mulA rfl rfl fun r3 => ?_
      repeat' (first|refine wA ?_|refine wB ?_|refine wH ?_|refine wI ?_|refine wJ ?_|refine wC ?_|refine wD ?_|refine wE ?_|refine wF ?_|refine wG ?_|refine wK ?_|refine wL ?_|refine wM ?_|refine wN ?_|refine wO ?_|refine wP ?_|refine wQ ?_|refine wR ?_|refine wS ?_|refine wT ?_|refine wU ?_|refine wV ?_|refine wW ?_|refine wX ?_)
      refine Ops.idx h rfl rfl (by omega) (by omega) (by kernel_rfl) (by kernel_rfl) fun pz u a ha hu => ?_
      have ha' : bs[i]? = some a := ha
      have hba := hb a (List.mem_of_getElem? ha')
      have hu' : u = .int .u8 a := by have h5 : [u] = [Value.int .u8 a] := hu; simpa using h5
      subst hu'
      refine Ops.byteInt rfl (by kernel_rfl) (by kernel_rfl) hba.1 hba.2 ?_
      refine Ops.addA rfl rfl fun r4 => ?_
      refine Ops.addA rfl rfl fun r5 => ?_
      refine Ops.and rfl rfl (by decide) (by decide) fun r6 _ _ => ?_
      repeat' (first|refine wA ?_|refine wB ?_|refine wH ?_|refine wI ?_|refine wJ ?_|refine wC ?_|refine wD ?_|refine wE ?_|refine wF ?_|refine wG ?_|refine wK ?_|refine wL ?_|refine wM ?_|refine wN ?_|refine wO ?_|refine wP ?_|refine wQ ?_|refine wR ?_|refine wS ?_|refine wT ?_|refine wU ?_|refine wV ?_|refine wW ?_|refine wX ?_)
      refine ⟨(i + 1, r6), by dsimp only; omega, rfl, rfl, by dsimp only; exact (by repeat (first | exact Wk.jk | refine Wk.up rfl ?_)), ?_⟩
      dsimp only; omega
    · repeat' (first|refine wA ?_|refine wB ?_|refine wH ?_|refine wI ?_|refine wJ ?_|refine wC ?_|refine wD ?_|refine wE ?_|refine wF ?_|refine wG ?_|refine wK ?_|refine wL ?_|refine wM ?_|refine wN ?_|refine wO ?_|refine wP ?_|refine wQ ?_|refine wR ?_|refine wS ?_|refine wT ?_|refine wU ?_|refine wV ?_|refine wW ?_|refine wX ?_)
      refine Ops.build (pl := [(0, 1), (1, 1), (2, 1)]) (zs := [.slice none 0 0, .int .i64 0, .int .i64 0]) (cs := [v, .int .i64 0, .int .i64 x]) (by kernel_rfl) (by subst hq; simp [rd, up]; exact ⟨rfl, rfl⟩) (by subst hq; rfl) ?_
      refine Ops.box H.nxt (Nat.le_refl _) (cs := [v, .int .i64 0, .int .i64 x]) (by subst hq; rfl) rfl (by simp) fun p1 H1 o1 c1 ap1 => ?_
      repeat' (first|refine wA ?_|refine wB ?_|refine wH ?_|refine wI ?_|refine wJ ?_|refine wC ?_|refine wD ?_|refine wE ?_|refine wF ?_|refine wG ?_|refine wK ?_|refine wL ?_|refine wM ?_|refine wN ?_|refine wO ?_|refine wP ?_|refine wQ ?_|refine wR ?_|refine wS ?_|refine wT ?_|refine wU ?_|refine wV ?_|refine wW ?_|refine wX ?_)
      refine Run.ret ⟨.inl rfl, ResK.tmp rfl (by conv => lhs; whnf) (ResK.nil ?_)⟩
      exact ⟨c1, c1, hb, v, 0, x, o1, h, by omega, by omega⟩
  · repeat' (first|refine wA ?_|refine wB ?_|refine wH ?_|refine wI ?_|refine wJ ?_|refine wC ?_|refine wD ?_|refine wE ?_|refine wF ?_|refine wG ?_|refine wK ?_|refine wL ?_|refine wM ?_|refine wN ?_|refine wO ?_|refine wP ?_|refine wQ ?_|refine wR ?_|refine wS ?_|refine wT ?_|refine wU ?_|refine wV ?_|refine wW ?_|refine wX ?_)
    refine Ops.build (pl := [(0, 1), (1, 1), (2, 1)]) (zs := [.slice none 0 0, .int .i64 0, .int .i64 0]) (cs := [v, .int .i64 0, .int .i64 x]) (by kernel_rfl) (by subst hq; simp [rd, up]; exact ⟨rfl, rfl⟩) (by subst hq; rfl) ?_
    refine Ops.box H.nxt (Nat.le_refl _) (cs := [v, .int .i64 0, .int .i64 x]) (by subst hq; rfl) rfl (by simp) fun p1 H1 o1 c1 ap1 => ?_
    repeat' (first|refine wA ?_|refine wB ?_|refine wH ?_|refine wI ?_|refine wJ ?_|refine wC ?_|refine wD ?_|refine wE ?_|refine wF ?_|refine wG ?_|refine wK ?_|refine wL ?_|refine wM ?_|refine wN ?_|refine wO ?_|refine wP ?_|refine wQ ?_|refine wR ?_|refine wS ?_|refine wT ?_|refine wU ?_|refine wV ?_|refine wW ?_|refine wX ?_)
    refine Run.ret ⟨.inl rfl, ResK.tmp rfl (by conv => lhs; whnf) (ResK.nil ?_)⟩
    exact ⟨c1, c1, hb, v, 0, x, o1, h, by omega, by omega⟩

theorem l1Byte_ok {H0 H : Hp} {c : Value} {bs : List Int} (h : Cur H0 H c bs) : CallK Try.prog 83 [c] H (fun r H' => (∃ x : Int, r = .int .i64 x ∧ 0 ≤ x ∧ x ≤ 255) ∧ Dr H0 c bs H H') := by
  obtain ⟨c0, hb, vb, i, x, o, s, hi0, hi1⟩ := h
  have hmx := s.max
  simp only [maxLen] at hmx
  have hp : ∃ id off, c = .pointer (some ⟨id, off, none⟩) := by obtain ⟨id, ob, h1, _⟩ := o; exact ⟨id, 0, h1⟩
  have s1 := s.calm c0
  refine (CallK.enter Try.func83 rfl rfl Try.ntmps83 Try.results83 rfl ?_)
  repeat' (first|refine wA ?_|refine wB ?_|refine wH ?_|refine wI ?_|refine wJ ?_|refine wC ?_|refine wD ?_|refine wE ?_|refine wF ?_|refine wG ?_|refine wK ?_|refine wL ?_|refine wM ?_|refine wN ?_|refine wO ?_|refine wP ?_|refine wQ ?_|refine wR ?_|refine wS ?_|refine wT ?_|refine wU ?_|refine wV ?_|refine wW ?_|refine wX ?_)
  refine Ops.nilc rfl hp ?_
  refine Ops.fld 2 o.pt (by kernel_rfl) (by kernel_rfl) rfl fun pz => ?_
  refine Ops.mulA rfl rfl fun r1 => ?_
  refine Ops.addA rfl rfl fun r2 => ?_
  refine Ops.nilc rfl hp ?_
  obtain ⟨r, hr, t⟩ := o.rt
  refine Ops.setf 2 o t (by kernel_rfl) (by kernel_rfl) rfl (by simp) rfl rfl (by simp) fun pz H1 m1 o1 => ?_
  have c1 := m1.calm c0 hr
  have t1 : Touch c H H1 := Touch.of_mod m1 t
  have u1 := t.mod m1
  have s2 := s.calm c1
  have o1 : Po H0.nxt H1 c [vb, .int .i64 i, .int .i64 r2] := o1
  repeat' (first|refine wA ?_|refine wB ?_|refine wH ?_|refine wI ?_|refine wJ ?_|refine wC ?_|refine wD ?_|refine wE ?_|refine wF ?_|refine wG ?_|refine wK ?_|refine wL ?_|refine wM ?_|refine wN ?_|refine wO ?_|refine wP ?_|refine wQ ?_|refine wR ?_|refine wS ?_|refine wT ?_|refine wU ?_|refine wV ?_|refine wW ?_|refine wX ?_)
  refine Run.draw [0, 1, 2, 3, 4, 5, 6, 7, 8, 9, 10, 11, 12] Try.checked.mixed (by kernel_rfl) ?_
  repeat' (first|refine wA ?_|refine wB ?_|refine wH ?_|refine wI ?_|refine wJ ?_|refine wC ?_|refine wD ?_|refine wE ?_|refine wF ?_|refine wG ?_|refine wK ?_|refine wL ?_|refine wM ?_|refine wN ?_|refine wO ?_|refine wP ?_|refine wQ ?_|refine wR ?_|refine wS ?_|refine wT ?_|refine wU ?_|refine wV ?_|refine wW ?_|refine wX ?_)
  refine Ops.nilc rfl hp ?_
  refine Ops.fld 2 o1.pt (by kernel_rfl) (by kernel_rfl) rfl fun pz => ?_
  refine Ops.shr rfl rfl (by decide) fun r3 => ?_
  repeat' (first|refine wA ?_|refine wB ?_|refine wH ?_|refine wI ?_|refine wJ ?_|refine wC ?_|refine wD ?_|refine wE ?_|refine wF ?_|refine wG ?_|refine wK ?_|refine wL ?_|refine wM ?_|refine wN ?_|refine wO ?_|refine wP ?_|refine wQ ?_|refine wR ?_|refine wS ?_|refine wT ?_|refine wU ?_|refine wV ?_|refine wW ?_|refine wX ?_)
  refine Ops.nilc rfl hp ?_
  refine Ops.fld 2 o1.pt (by kernel_rfl) (by kernel_rfl) rfl fun pz => ?_
  refine Ops.shr rfl rfl (by decide) fun r4 => ?_
  refine Ops.xor rfl rfl fun r5 => ?_
  refine Ops.and rfl rfl (by decide) (by decide) fun r6 h60 h61 => ?_
  repeat' (first|refine wA ?_|refine wB ?_|refine wH ?_|refine wI ?_|refine wJ ?_|refine wC ?_|refine wD ?_|refine wE ?_|refine wF ?_|refine wG ?_|refine wK ?_|refine wL ?_|refine wM ?_|refine wN ?_|refine wO ?_|refine wP ?_|refine wQ ?_|refine wR ?_|refine wS ?_|refine wT ?_|refine wU ?_|refine wV ?_|refine wW ?_|refine wX ?_)
  refine Run.draw [0, 1, 2, 3, 4, 5, 6, 7, 8, 9] Try.checked.mixed (by kernel_rfl) ?_
  repeat' (first|refine wA ?_|refine wB ?_|refine wH ?_|refine wI ?_|refine wJ ?_|refine wC ?_|refine wD ?_|refine wE ?_|refine wF ?_|refine wG ?_|refine wK ?_|refine wL ?_|refine wM ?_|refine wN ?_|refine wO ?_|refine wP ?_|refine wQ ?_|refine wR ?_|refine wS ?_|refine wT ?_|refine wU ?_|refine wV ?_|refine wW ?_|refine wX ?_)
  refine Ops.nilc rfl hp ?_
  refine Ops.fld 1 o1.pt (by kernel_rfl) (by kernel_rfl) rfl fun pz => ?_
  repeat' (first|refine wA ?_|refine wB ?_|refine wH ?_|refine wI ?_|refine wJ ?_|refine wC ?_|refine wD ?_|refine wE ?_|refine wF ?_|refine wG ?_|refine wK ?_|refine wL ?_|refine wM ?_|refine wN ?_|refine wO ?_|refine wP ?_|refine wQ ?_|refine wR ?_|refine wS ?_|refine wT ?_|refine wU ?_|refine wV ?_|refine wW ?_|refine wX ?_)
  refine Ops.nilc rfl hp ?_
  refine Ops.fld 0 o1.pt (by kernel_rfl) (by kernel_rfl) rfl fun pz => ?_
  repeat' (first|refine wA ?_|refine wB ?_|refine wH ?_|refine wI ?_|refine wJ ?_|refine wC ?_|refine wD ?_|refine wE ?_|refine wF ?_|refine wG ?_|refine wK ?_|refine wL ?_|refine wM ?_|refine wN ?_|refine wO ?_|refine wP ?_|refine wQ ?_|refine wR ?_|refine wS ?_|refine wT ?_|refine wU ?_|refine wV ?_|refine wW ?_|refine wX ?_)
  refine Ops.cmp rfl rfl rfl (fun hc => ?_) (fun hc => ?_)
  · repeat' (first|refine wA ?_|refine wB ?_|refine wH ?_|refine wI ?_|refine wJ ?_|refine wC ?_|refine wD ?_|refine wE ?_|refine wF ?_|refine wG ?_|refine wK ?_|refine wL ?_|refine wM ?_|refine wN ?_|refine wO ?_|refine wP ?_|refine wQ ?_|refine wR ?_|refine wS ?_|refine wT ?_|refine wU ?_|refine wV ?_|refine wW ?_|refine wX ?_)
    refine Run.draw [0, 1, 2, 3, 4, 5, 6, 7, 8, 9, 10, 11, 12, 13, 14] Try.checked.mixed (by kernel_rfl) ?_
    repeat' (first|refine wA ?_|refine wB ?_|refine wH ?_|refine wI ?_|refine wJ ?_|refine wC ?_|refine wD ?_|refine wE ?_|refine wF ?_|refine wG ?_|refine wK ?_|refine wL ?_|refine wM ?_|refine wN ?_|refine wO ?_|refine wP ?_|refine wQ ?_|refine wR ?_|refine wS ?_|refine wT ?_|refine wU ?_|refine wV ?_|refine wW ?_|refine wX ?_)
    refine Ops.nilc rfl hp ?_
    refine Ops.fld 0 o1.pt (by kernel_rfl) (by kernel_rfl) rfl fun pz => ?_
    repeat' (first|refine wA ?_|refine wB ?_|refine wH ?_|refine wI ?_|refine wJ ?_|refine wC ?_|refine wD ?_|refine wE ?_|refine wF ?_|refine wG ?_|refine wK ?_|refine wL ?_|refine wM ?_|refine wN ?_|refine wO ?_|refine wP ?_|refine wQ ?_|refine wR ?_|refine wS ?_|refine wT ?_|refine wU ?_|refine wV ?_|refine wW ?_|refine wX ?_)
    refine Ops.nilc rfl hp ?_
    refine Ops.fld 1 o1.pt (by kernel_rfl) (by kernel_rfl) rfl fun pz => ?_
    refine Ops.idx s2 rfl rfl (by omega) (by omega) (by kernel_rfl) (by kernel_rfl) fun pz u a ha hu => ?_
    have hba := hb a (List.mem_of_getElem? ha)
    have hu' : u = .int .u8 a := by have h5 : [u] = [Value.int .u8 a] := hu; simpa using h5
    subst hu'
    refine Ops.byteInt rfl (by kernel_rfl) (by kernel_rfl) hba.1 hba.2 ?_
    refine Ops.addA rfl rfl fun r7 => ?_
    refine Ops.and rfl rfl (by decide) (by decide) fun r8 h80 h81 => ?_
    repeat' (first|refine wA ?_|refine wB ?_|refine wH ?_|refine wI ?_|refine wJ ?_|refine wC ?_|refine wD ?_|refine wE ?_|refine wF ?_|refine wG ?_|refine wK ?_|refine wL ?_|refine wM ?_|refine wN ?_|refine wO ?_|refine wP ?_|refine wQ ?_|refine wR ?_|refine wS ?_|refine wT ?_|refine wU ?_|refine wV ?_|refine wW ?_|refine wX ?_)
    refine Ops.nilc rfl hp ?_
    refine Ops.fld 1 o1.pt (by kernel_rfl) (by kernel_rfl) rfl fun pz => ?_
    repeat' (first|refine wA ?_|refine wB ?_|refine wH ?_|refine wI ?_|refine wJ ?_|refine wC ?_|refine wD ?_|refine wE ?_|refine wF ?_|refine wG ?_|refine wK ?_|refine wL ?_|refine wM ?_|refine wN ?_|refine wO ?_|refine wP ?_|refine wQ ?_|refine wR ?_|refine wS ?_|refine wT ?_|refine wU ?_|refine wV ?_|refine wW ?_|refine wX ?_)
    refine Ops.nilc rfl hp ?_
    refine Ops.setf 1 o1 u1 (by kernel_rfl) (by kernel_rfl) rfl (by simp) rfl rfl (by simp) fun pz H2 m2 o2 => ?_
    repeat' (first|refine wA ?_|refine wB ?_|refine wH ?_|refine wI ?_|refine wJ ?_|refine wC ?_|refine wD ?_|refine wE ?_|refine wF ?_|refine wG ?_|refine wK ?_|refine wL ?_|refine wM ?_|refine wN ?_|refine wO ?_|refine wP ?_|refine wQ ?_|refine wR ?_|refine wS ?_|refine wT ?_|refine wU ?_|refine wV ?_|refine wW ?_|refine wX ?_)
    refine Run.ret ⟨.inl rfl, ResK.tmp rfl (by conv => lhs; whnf) (ResK.nil ?_)⟩
    exact ⟨⟨r8, rfl, h80, h81⟩, ⟨m2.calm c1 hr, hb, vb, i + 1, r2, o2, s, by omega, by omega⟩, t1.trans o.live (Touch.of_mod m2 u1)⟩
  · repeat' (first|refine wA ?_|refine wB ?_|refine wH ?_|refine wI ?_|refine wJ ?_|refine wC ?_|refine wD ?_|refine wE ?_|refine wF ?_|refine wG ?_|refine wK ?_|refine wL ?_|refine wM ?_|refine wN ?_|refine wO ?_|refine wP ?_|refine wQ ?_|refine wR ?_|refine wS ?_|refine wT ?_|refine wU ?_|refine wV ?_|refine wW ?_|refine wX ?_)
    refine Run.ret ⟨.inl rfl, ResK.tmp rfl (by conv => lhs; whnf) (ResK.nil ?_)⟩
    exact ⟨⟨r6, rfl, h60, h61⟩, ⟨c1, hb, vb, i, r2, o1, s, hi0, hi1⟩, t1⟩

theorem l1Below_ok {H0 H : Hp} {c : Value} {bs : List Int} {n : Int} (h : Cur H0 H c bs) (hn : 0 < n) : CallK Try.prog 55 [c, .int .i64 n] H (fun r H' => (∃ x : Int, r = .int .i64 x ∧ 0 ≤ x ∧ x < n) ∧ Dr H0 c bs H H') := by
  refine (CallK.enter Try.func55 rfl rfl Try.ntmps55 Try.results55 rfl ?_)
  repeat' (first|refine wA ?_|refine wB ?_|refine wH ?_|refine wI ?_|refine wJ ?_|refine wC ?_|refine wD ?_|refine wE ?_|refine wF ?_|refine wG ?_|refine wK ?_|refine wL ?_|refine wM ?_|refine wN ?_|refine wO ?_|refine wP ?_|refine wQ ?_|refine wR ?_|refine wS ?_|refine wT ?_|refine wU ?_|refine wV ?_|refine wW ?_|refine wX ?_)
  refine Ops.cmp rfl rfl rfl (fun hc => ?_) (fun hc => ?_)
  · omega
  · repeat' (first|refine wA ?_|refine wB ?_|refine wH ?_|refine wI ?_|refine wJ ?_|refine wC ?_|refine wD ?_|refine wE ?_|refine wF ?_|refine wG ?_|refine wK ?_|refine wL ?_|refine wM ?_|refine wN ?_|refine wO ?_|refine wP ?_|refine wQ ?_|refine wR ?_|refine wS ?_|refine wT ?_|refine wU ?_|refine wV ?_|refine wW ?_|refine wX ?_)
    refine Ops.cmp rfl rfl rfl (fun hc2 => ?_) (fun hc2 => ?_)
    · repeat' (first|refine wA ?_|refine wB ?_|refine wH ?_|refine wI ?_|refine wJ ?_|refine wC ?_|refine wD ?_|refine wE ?_|refine wF ?_|refine wG ?_|refine wK ?_|refine wL ?_|refine wM ?_|refine wN ?_|refine wO ?_|refine wP ?_|refine wQ ?_|refine wR ?_|refine wS ?_|refine wT ?_|refine wU ?_|refine wV ?_|refine wW ?_|refine wX ?_)
      refine Ops.call (l1Byte_ok h) (fun _ _ _ hf => by cases hf) fun r1 H1 => ?_
      rintro ⟨⟨x, rfl, h0, h1⟩, d1⟩
      repeat' (first|refine wA ?_|refine wB ?_|refine wH ?_|refine wI ?_|refine wJ ?_|refine wC ?_|refine wD ?_|refine wE ?_|refine wF ?_|refine wG ?_|refine wK ?_|refine wL ?_|refine wM ?_|refine wN ?_|refine wO ?_|refine wP ?_|refine wQ ?_|refine wR ?_|refine wS ?_|refine wT ?_|refine wU ?_|refine wV ?_|refine wW ?_|refine wX ?_)
      refine Ops.rem rfl rfl h0 hn ?_
      repeat' (first|refine wA ?_|refine wB ?_|refine wH ?_|refine wI ?_|refine wJ ?_|refine wC ?_|refine wD ?_|refine wE ?_|refine wF ?_|refine wG ?_|refine wK ?_|refine wL ?_|refine wM ?_|refine wN ?_|refine wO ?_|refine wP ?_|refine wQ ?_|refine wR ?_|refine wS ?_|refine wT ?_|refine wU ?_|refine wV ?_|refine wW ?_|refine wX ?_)
      refine Run.ret ⟨.inl rfl, ResK.tmp rfl (by conv => lhs; whnf) (ResK.nil ?_)⟩
      exact ⟨⟨_, rfl, Int.emod_nonneg _ (by omega), Int.emod_lt_of_pos _ hn⟩, d1⟩
    · repeat' (first|refine wA ?_|refine wB ?_|refine wH ?_|refine wI ?_|refine wJ ?_|refine wC ?_|refine wD ?_|refine wE ?_|refine wF ?_|refine wG ?_|refine wK ?_|refine wL ?_|refine wM ?_|refine wN ?_|refine wO ?_|refine wP ?_|refine wQ ?_|refine wR ?_|refine wS ?_|refine wT ?_|refine wU ?_|refine wV ?_|refine wW ?_|refine wX ?_)
      refine Ops.call (l1Byte_ok h) (fun _ _ _ hf => by cases hf) fun r1 H1 => ?_
      rintro ⟨⟨x, rfl, h0, h1⟩, d1⟩
      repeat' (first|refine wA ?_|refine wB ?_|refine wH ?_|refine wI ?_|refine wJ ?_|refine wC ?_|refine wD ?_|refine wE ?_|refine wF ?_|refine wG ?_|refine wK ?_|refine wL ?_|refine wM ?_|refine wN ?_|refine wO ?_|refine wP ?_|refine wQ ?_|refine wR ?_|refine wS ?_|refine wT ?_|refine wU ?_|refine wV ?_|refine wW ?_|refine wX ?_)
      refine Ops.call (l1Byte_ok d1.1) (fun _ _ _ hf => by cases hf) fun r2 H2 => ?_
      rintro ⟨⟨y, rfl, h2, h3⟩, d2⟩
      repeat' (first|refine wA ?_|refine wB ?_|refine wH ?_|refine wI ?_|refine wJ ?_|refine wC ?_|refine wD ?_|refine wE ?_|refine wF ?_|refine wG ?_|refine wK ?_|refine wL ?_|refine wM ?_|refine wN ?_|refine wO ?_|refine wP ?_|refine wQ ?_|refine wR ?_|refine wS ?_|refine wT ?_|refine wU ?_|refine wV ?_|refine wW ?_|refine wX ?_)
      refine Ops.call (l1Byte_ok d2.1) (fun _ _ _ hf => by cases hf) fun r3 H3 => ?_
      rintro ⟨⟨z, rfl, h4, h5⟩, d3⟩
      repeat' (first|refine wA ?_|refine wB ?_|refine wH ?_|refine wI ?_|refine wJ ?_|refine wC ?_|refine wD ?_|refine wE ?_|refine wF ?_|refine wG ?_|refine wK ?_|refine wL ?_|refine wM ?_|refine wN ?_|refine wO ?_|refine wP ?_|refine wQ ?_|refine wR ?_|refine wS ?_|refine wT ?_|refine wU ?_|refine wV ?_|refine wW ?_|refine wX ?_)
      refine Ops.mul rfl rfl (by omega) (by omega) ?_
      repeat' (first|refine wA ?_|refine wB ?_|refine wH ?_|refine wI ?_|refine wJ ?_|refine wC ?_|refine wD ?_|refine wE ?_|refine wF ?_|refine wG ?_|refine wK ?_|refine wL ?_|refine wM ?_|refine wN ?_|refine wO ?_|refine wP ?_|refine wQ ?_|refine wR ?_|refine wS ?_|refine wT ?_|refine wU ?_|refine wV ?_|refine wW ?_|refine wX ?_)
      refine Ops.mul rfl rfl (by omega) (by omega) ?_
      repeat' (first|refine wA ?_|refine wB ?_|refine wH ?_|refine wI ?_|refine wJ ?_|refine wC ?_|refine wD ?_|refine wE ?_|refine wF ?_|refine wG ?_|refine wK ?_|refine wL ?_|refine wM ?_|refine wN ?_|refine wO ?_|refine wP ?_|refine wQ ?_|refine wR ?_|refine wS ?_|refine wT ?_|refine wU ?_|refine wV ?_|refine wW ?_|refine wX ?_)
      refine Ops.rem rfl rfl (by omega) hn ?_
      repeat' (first|refine wA ?_|refine wB ?_|refine wH ?_|refine wI ?_|refine wJ ?_|refine wC ?_|refine wD ?_|refine wE ?_|refine wF ?_|refine wG ?_|refine wK ?_|refine wL ?_|refine wM ?_|refine wN ?_|refine wO ?_|refine wP ?_|refine wQ ?_|refine wR ?_|refine wS ?_|refine wT ?_|refine wU ?_|refine wV ?_|refine wW ?_|refine wX ?_)
      refine Run.ret ⟨.inl rfl, ResK.tmp rfl (by conv => lhs; whnf) (ResK.nil ?_)⟩
      exact ⟨⟨_, rfl, Int.emod_nonneg _ (by omega), Int.emod_lt_of_pos _ hn⟩, (d1.trans h.live d2).trans h.live d3⟩

theorem l1Once_ok {H0 H : Hp} {c : Value} {bs : List Int} {n : Int} (h : Cur H0 H c bs) (hn : 0 < n) : CallK Try.prog 57 [c, .int .i64 n] H (fun r H' => (∃ b, r = .bool b) ∧ Dr H0 c bs H H') := by
  refine (CallK.enter Try.func57 rfl rfl Try.ntmps57 Try.results57 rfl ?_)
  repeat' (first|refine wA ?_|refine wB ?_|refine wH ?_|refine wI ?_|refine wJ ?_|refine wC ?_|refine wD ?_|refine wE ?_|refine wF ?_|refine wG ?_|refine wK ?_|refine wL ?_|refine wM ?_|refine wN ?_|refine wO ?_|refine wP ?_|refine wQ ?_|refine wR ?_|refine wS ?_|refine wT ?_|refine wU ?_|refine wV ?_|refine wW ?_|refine wX ?_)
  refine Ops.call (l1Below_ok h hn) (fun _ _ _ hf => by cases hf) fun r1 H1 => ?_
  rintro ⟨⟨x, rfl, h0, h1⟩, d1⟩
  refine Ops.cmp rfl rfl rfl (fun hc => ?_) (fun hc => ?_)
  · repeat' (first|refine wA ?_|refine wB ?_|refine wH ?_|refine wI ?_|refine wJ ?_|refine wC ?_|refine wD ?_|refine wE ?_|refine wF ?_|refine wG ?_|refine wK ?_|refine wL ?_|refine wM ?_|refine wN ?_|refine wO ?_|refine wP ?_|refine wQ ?_|refine wR ?_|refine wS ?_|refine wT ?_|refine wU ?_|refine wV ?_|refine wW ?_|refine wX ?_)
    refine Run.ret ⟨.inl rfl, ResK.tmp rfl (by conv => lhs; whnf) (ResK.nil ?_)⟩
    exact ⟨⟨_, rfl⟩, d1⟩
  · repeat' (first|refine wA ?_|refine wB ?_|refine wH ?_|refine wI ?_|refine wJ ?_|refine wC ?_|refine wD ?_|refine wE ?_|refine wF ?_|refine wG ?_|refine wK ?_|refine wL ?_|refine wM ?_|refine wN ?_|refine wO ?_|refine wP ?_|refine wQ ?_|refine wR ?_|refine wS ?_|refine wT ?_|refine wU ?_|refine wV ?_|refine wW ?_|refine wX ?_)
    refine Run.ret ⟨.inl rfl, ResK.tmp rfl (by conv => lhs; whnf) (ResK.nil ?_)⟩
    exact ⟨⟨_, rfl⟩, d1⟩

theorem l1Int_ok {H0 H : Hp} {c v : Value} {bs l : List Int} {k : Nat} (h : Cur H0 H c bs) (hv : Ac cI 3 k H v l) (hp : Ap v c) (hl : l ≠ []) : CallK Try.prog 93 [c, v] H (fun r H' => (∃ x, r = .int .i64 x ∧ x ∈ l) ∧ Dr H0 c bs H H') := by
  have hpos : 0 < l.length := List.length_pos_iff.2 hl
  refine (CallK.enter Try.func93 rfl rfl Try.ntmps93 Try.results93 rfl ?_)
  repeat' (first|refine wA ?_|refine wB ?_|refine wH ?_|refine wI ?_|refine wJ ?_|refine wC ?_|refine wD ?_|refine wE ?_|refine wF ?_|refine wG ?_|refine wK ?_|refine wL ?_|refine wM ?_|refine wN ?_|refine wO ?_|refine wP ?_|refine wQ ?_|refine wR ?_|refine wS ?_|refine wT ?_|refine wU ?_|refine wV ?_|refine wW ?_|refine wX ?_)
  refine Ops.call (l1Below_ok h (n := (l.length : Int)) (by omega)) (fun _ _ _ hf => by cases hf) fun r1 H1 => ?_
  rintro ⟨⟨x, rfl, h0, h1⟩, d1⟩
  have hv1 := h.ac d1.2 hv hp
  refine Ops.idxI hv1.sl rfl h0 (by omega) (by kernel_rfl) (by kernel_rfl) fun pz a ha => ?_
  repeat' (first|refine wA ?_|refine wB ?_|refine wH ?_|refine wI ?_|refine wJ ?_|refine wC ?_|refine wD ?_|refine wE ?_|refine wF ?_|refine wG ?_|refine wK ?_|refine wL ?_|refine wM ?_|refine wN ?_|refine wO ?_|refine wP ?_|refine wQ ?_|refine wR ?_|refine wS ?_|refine wT ?_|refine wU ?_|refine wV ?_|refine wW ?_|refine wX ?_)
  refine Run.ret ⟨.inl rfl, ResK.tmp rfl (by conv => lhs; whnf) (ResK.nil ?_)⟩
  exact ⟨⟨a, rfl, List.mem_of_getElem? ha⟩, d1⟩

def odds : List Int := [-1, 0, 1, 2, 3, 7, 8, 9, 15, 16, 17, 63, 64, 65, 999, 1000, 4096, 4097, 9223372036854775807, -9223372036854775808]

theorem l1Odd_ok {H0 H : Hp} {c : Value} {bs : List Int} (h : Cur H0 H c bs) : CallK Try.prog 69 [c] H (fun r H' => (∃ x, r = .int .i64 x ∧ x ∈ odds) ∧ Dr H0 c bs H H') := by
  refine (CallK.enter Try.func69 rfl rfl Try.ntmps69 Try.results69 rfl ?_)
  repeat' (first|refine wA ?_|refine wB ?_|refine wH ?_|refine wI ?_|refine wJ ?_|refine wC ?_|refine wD ?_|refine wE ?_|refine wF ?_|refine wG ?_|refine wK ?_|refine wL ?_|refine wM ?_|refine wN ?_|refine wO ?_|refine wP ?_|refine wQ ?_|refine wR ?_|refine wS ?_|refine wT ?_|refine wU ?_|refine wV ?_|refine wW ?_|refine wX ?_)
  refine Ops.lits odds 3 H.nxt rfl rfl (by decide) (by decide) (by kernel_rfl) (by kernel_rfl) (Nat.le_refl _) fun u H1 a1 c1 p1 => ?_
  refine Ops.call (l1Int_ok (h.calm c1) a1 ((p1 c h.live).symm) (by simp [odds])) (fun _ _ _ hf => by cases hf) fun r1 H2 => ?_
  rintro ⟨⟨x, rfl, hx⟩, d1⟩
  repeat' (first|refine wA ?_|refine wB ?_|refine wH ?_|refine wI ?_|refine wJ ?_|refine wC ?_|refine wD ?_|refine wE ?_|refine wF ?_|refine wG ?_|refine wK ?_|refine wL ?_|refine wM ?_|refine wN ?_|refine wO ?_|refine wP ?_|refine wQ ?_|refine wR ?_|refine wS ?_|refine wT ?_|refine wU ?_|refine wV ?_|refine wW ?_|refine wX ?_)
  refine Run.ret ⟨.inl rfl, ResK.tmp rfl (by conv => lhs; whnf) (ResK.nil ?_)⟩
  exact ⟨⟨x, rfl, hx⟩, d1.1, (Touch.of_calm c1).trans h.live d1.2⟩

theorem l1AtomDraw_ok {H0 H : Hp} {c : Value} {bs : List Int} (h : Cur H0 H c bs) : CallK Try.prog 84 [c] H (fun r H' => (∃ x, r = .int .i64 x ∧ 0 ≤ x ∧ x ≤ 999) ∧ Dr H0 c bs H H') := by
  refine (CallK.enter Try.func84 rfl rfl Try.ntmps84 Try.results84 rfl ?_)
  repeat' (first|refine wA ?_|refine wB ?_|refine wH ?_|refine wI ?_|refine wJ ?_|refine wC ?_|refine wD ?_|refine wE ?_|refine wF ?_|refine wG ?_|refine wK ?_|refine wL ?_|refine wM ?_|refine wN ?_|refine wO ?_|refine wP ?_|refine wQ ?_|refine wR ?_|refine wS ?_|refine wT ?_|refine wU ?_|refine wV ?_|refine wW ?_|refine wX ?_)
  refine Ops.call (l1Once_ok h (by decide)) (fun _ _ _ hf => by cases hf) fun r1 H1 => ?_
  rintro ⟨⟨b, rfl⟩, d1⟩
  cases b
  · repeat' (first|refine wA ?_|refine wB ?_|refine wH ?_|refine wI ?_|refine wJ ?_|refine wC ?_|refine wD ?_|refine wE ?_|refine wF ?_|refine wG ?_|refine wK ?_|refine wL ?_|refine wM ?_|refine wN ?_|refine wO ?_|refine wP ?_|refine wQ ?_|refine wR ?_|refine wS ?_|refine wT ?_|refine wU ?_|refine wV ?_|refine wW ?_|refine wX ?_)
    refine Ops.call (l1Below_ok d1.1 (by decide)) (fun _ _ _ hf => by cases hf) fun r2 H2 => ?_
    rintro ⟨⟨x, rfl, h0, h1⟩, d2⟩
    repeat' (first|refine wA ?_|refine wB ?_|refine wH ?_|refine wI ?_|refine wJ ?_|refine wC ?_|refine wD ?_|refine wE ?_|refine wF ?_|refine wG ?_|refine wK ?_|refine wL ?_|refine wM ?_|refine wN ?_|refine wO ?_|refine wP ?_|refine wQ ?_|refine wR ?_|refine wS ?_|refine wT ?_|refine wU ?_|refine wV ?_|refine wW ?_|refine wX ?_)
    refine Run.ret ⟨.inl rfl, ResK.tmp rfl (by conv => lhs; whnf) (ResK.nil ?_)⟩
    exact ⟨⟨x, rfl, h0, by omega⟩, d1.trans h.live d2⟩
  · repeat' (first|refine wA ?_|refine wB ?_|refine wH ?_|refine wI ?_|refine wJ ?_|refine wC ?_|refine wD ?_|refine wE ?_|refine wF ?_|refine wG ?_|refine wK ?_|refine wL ?_|refine wM ?_|refine wN ?_|refine wO ?_|refine wP ?_|refine wQ ?_|refine wR ?_|refine wS ?_|refine wT ?_|refine wU ?_|refine wV ?_|refine wW ?_|refine wX ?_)
    refine Ops.lits [999, 998, 50, 10] 3 H.nxt rfl rfl (by decide) (by decide) (by kernel_rfl) (by kernel_rfl) d1.2.nxt fun u H2 a2 c2 p2 => ?_
    refine Ops.call (l1Int_ok (d1.1.calm c2) a2 ((p2 c d1.1.live).symm) (by simp)) (fun _ _ _ hf => by cases hf) fun r1 H3 => ?_
    rintro ⟨⟨x, rfl, hx⟩, d3⟩
    repeat' (first|refine wA ?_|refine wB ?_|refine wH ?_|refine wI ?_|refine wJ ?_|refine wC ?_|refine wD ?_|refine wE ?_|refine wF ?_|refine wG ?_|refine wK ?_|refine wL ?_|refine wM ?_|refine wN ?_|refine wO ?_|refine wP ?_|refine wQ ?_|refine wR ?_|refine wS ?_|refine wT ?_|refine wU ?_|refine wV ?_|refine wW ?_|refine wX ?_)
    refine Run.ret ⟨.inl rfl, ResK.tmp rfl (by conv => lhs; whnf) (ResK.nil ?_)⟩
    refine ⟨⟨x, rfl, ?_⟩, d3.1, (d1.2.trans h.live (Touch.of_calm c2)).trans h.live d3.2⟩
    simp at hx; omega

theorem l1Name_ok {H0 H : Hp} {c : Value} {bs : List Int} (h : Cur H0 H c bs) : CallK Try.prog 56 [c] H (fun r H' => (∃ x, r = .int .i64 x ∧ InR x) ∧ Dr H0 c bs H H') := by
  refine (CallK.enter Try.func56 rfl rfl Try.ntmps56 Try.results56 rfl ?_)
  repeat' (first|refine wA ?_|refine wB ?_|refine wH ?_|refine wI ?_|refine wJ ?_|refine wC ?_|refine wD ?_|refine wE ?_|refine wF ?_|refine wG ?_|refine wK ?_|refine wL ?_|refine wM ?_|refine wN ?_|refine wO ?_|refine wP ?_|refine wQ ?_|refine wR ?_|refine wS ?_|refine wT ?_|refine wU ?_|refine wV ?_|refine wW ?_|refine wX ?_)
  refine Ops.call (l1Once_ok h (by decide)) (fun _ _ _ hf => by cases hf) fun r1 H1 => ?_
  rintro ⟨⟨b, rfl⟩, d1⟩
  cases b
  · repeat' (first|refine wA ?_|refine wB ?_|refine wH ?_|refine wI ?_|refine wJ ?_|refine wC ?_|refine wD ?_|refine wE ?_|refine wF ?_|refine wG ?_|refine wK ?_|refine wL ?_|refine wM ?_|refine wN ?_|refine wO ?_|refine wP ?_|refine wQ ?_|refine wR ?_|refine wS ?_|refine wT ?_|refine wU ?_|refine wV ?_|refine wW ?_|refine wX ?_)
    refine Ops.call (l1AtomDraw_ok d1.1) (fun _ _ _ hf => by cases hf) fun r2 H2 => ?_
    rintro ⟨⟨x, rfl, h0, h1⟩, d2⟩
    repeat' (first|refine wA ?_|refine wB ?_|refine wH ?_|refine wI ?_|refine wJ ?_|refine wC ?_|refine wD ?_|refine wE ?_|refine wF ?_|refine wG ?_|refine wK ?_|refine wL ?_|refine wM ?_|refine wN ?_|refine wO ?_|refine wP ?_|refine wQ ?_|refine wR ?_|refine wS ?_|refine wT ?_|refine wU ?_|refine wV ?_|refine wW ?_|refine wX ?_)
    refine Run.ret ⟨.inl rfl, ResK.tmp rfl (by conv => lhs; whnf) (ResK.nil ?_)⟩
    exact ⟨⟨x, rfl, by unfold InR; omega⟩, d1.trans h.live d2⟩
  · repeat' (first|refine wA ?_|refine wB ?_|refine wH ?_|refine wI ?_|refine wJ ?_|refine wC ?_|refine wD ?_|refine wE ?_|refine wF ?_|refine wG ?_|refine wK ?_|refine wL ?_|refine wM ?_|refine wN ?_|refine wO ?_|refine wP ?_|refine wQ ?_|refine wR ?_|refine wS ?_|refine wT ?_|refine wU ?_|refine wV ?_|refine wW ?_|refine wX ?_)
    refine Ops.call (l1Odd_ok d1.1) (fun _ _ _ hf => by cases hf) fun r2 H2 => ?_
    rintro ⟨⟨x, rfl, hx⟩, d2⟩
    repeat' (first|refine wA ?_|refine wB ?_|refine wH ?_|refine wI ?_|refine wJ ?_|refine wC ?_|refine wD ?_|refine wE ?_|refine wF ?_|refine wG ?_|refine wK ?_|refine wL ?_|refine wM ?_|refine wN ?_|refine wO ?_|refine wP ?_|refine wQ ?_|refine wR ?_|refine wS ?_|refine wT ?_|refine wU ?_|refine wV ?_|refine wW ?_|refine wX ?_)
    refine Run.ret ⟨.inl rfl, ResK.tmp rfl (by conv => lhs; whnf) (ResK.nil ?_)⟩
    refine ⟨⟨x, rfl, ?_⟩, d1.trans h.live d2⟩
    unfold InR
    simp [odds] at hx
    omega

end Go.Proofs.Ytefmjpbmdoebaaa

/- The law FnLeastFresh: whatever the bytes are, the law returns true; no condition. This text: the law's own body. -/
set_option linter.unusedVariables false
namespace Go.Proofs.Ytefmjpbmdoebaaa
open Go Go.RowKit

theorem DrawLeastFresh_ok {H : Hp} {v : Value} {bs : List Int} (h : Sl cB H v bs) (hb : ∀ b ∈ bs, 0 ≤ b ∧ b ≤ 255) (hl : bs.length ≤ 1048576) : CallK Try.prog 16 [v] H (fun r H' => Calm H H' ∧ ∃ l, Sl cI H' r l) := by
  refine (CallK.enter Try.func16 rfl rfl Try.ntmps16 Try.results16 rfl ?_)
  repeat' (first|refine wA ?_|refine wB ?_|refine wH ?_|refine wI ?_|refine wJ ?_|refine wC ?_|refine wD ?_|refine wE ?_|refine wF ?_|refine wG ?_|refine wK ?_|refine wL ?_|refine wM ?_|refine wN ?_|refine wO ?_|refine wP ?_|refine wQ ?_|refine wR ?_|refine wS ?_|refine wT ?_|refine wU ?_|refine wV ?_|refine wW ?_|refine wX ?_)
  refine Ops.call (l1New_ok h hb hl) (fun _ _ h _ => h.1.ge') fun c H1 => ?_
  rintro ⟨c1, cur1⟩
  repeat' (first|refine wA ?_|refine wB ?_|refine wH ?_|refine wI ?_|refine wJ ?_|refine wC ?_|refine wD ?_|refine wE ?_|refine wF ?_|refine wG ?_|refine wK ?_|refine wL ?_|refine wM ?_|refine wN ?_|refine wO ?_|refine wP ?_|refine wQ ?_|refine wR ?_|refine wS ?_|refine wT ?_|refine wU ?_|refine wV ?_|refine wW ?_|refine wX ?_)
  refine Ops.lit0 cI 3 H.nxt (by kernel_rfl) (by kernel_rfl) c1.1 fun v4 H2 a2 c2 p2 => ?_
  have cur2 := cur1.calm c2
  have p2 := p2 c cur1.live
  repeat' (first|refine wA ?_|refine wB ?_|refine wH ?_|refine wI ?_|refine wJ ?_|refine wC ?_|refine wD ?_|refine wE ?_|refine wF ?_|refine wG ?_|refine wK ?_|refine wL ?_|refine wM ?_|refine wN ?_|refine wO ?_|refine wP ?_|refine wQ ?_|refine wR ?_|refine wS ?_|refine wT ?_|refine wU ?_|refine wV ?_|refine wW ?_|refine wX ?_)
  refine Ops.call (l1Below_ok cur2 (by decide)) (fun _ _ _ hf => by cases hf) fun r3 H3 => ?_
  rintro ⟨⟨n0, rfl, hn0, hn1⟩, d3⟩
  have a3 := cur2.ac d3.2 a2 p2.symm
  repeat' (first|refine wA ?_|refine wB ?_|refine wH ?_|refine wI ?_|refine wJ ?_|refine wC ?_|refine wD ?_|refine wE ?_|refine wF ?_|refine wG ?_|refine wK ?_|refine wL ?_|refine wM ?_|refine wN ?_|refine wO ?_|refine wP ?_|refine wQ ?_|refine wR ?_|refine wS ?_|refine wT ?_|refine wU ?_|refine wV ?_|refine wW ?_|refine wX ?_)
  refine Run.loopW (fun (a : Int × Value × Hp × List Int) => a.1.toNat) (fun a => up (up (up jk 3 c) 4 a.2.1) 5 (.int .i64 a.1)) (fun a => a.2.2.1)
    (fun a => 0 ≤ a.1 ∧ Cur H a.2.2.1 c bs ∧ Ac cI 3 H.nxt a.2.2.1 a.2.1 a.2.2.2 ∧ Ap a.2.1 c ∧ a.2.2.2.length + a.1.toNat ≤ 9) (n0, v4, H3, []) rfl (by repeat (first | exact Wk.jk | refine Wk.up rfl ?_)) ⟨by dsimp only; omega, d3.1, a3, p2.symm, by simp; omega⟩ ?_
  rintro ⟨n, v5, H4, l⟩ ⟨hn, cur4, a4, p4, hl4⟩
  dsimp only at hn cur4 a4 p4 hl4
  dsimp only
  repeat' (first|refine wA ?_|refine wB ?_|refine wH ?_|refine wI ?_|refine wJ ?_|refine wC ?_|refine wD ?_|refine wE ?_|refine wF ?_|refine wG ?_|refine wK ?_|refine wL ?_|refine wM ?_|refine wN ?_|refine wO ?_|refine wP ?_|refine wQ ?_|refine wR ?_|refine wS ?_|refine wT ?_|refine wU ?_|refine wV ?_|refine wW ?_|refine wX ?_)
  refine Ops.cmp rfl rfl rfl (fun hc => ?_) (fun hc => ?_)
  · repeat' (first|refine wA ?_|refine wB ?_|refine wH ?_|refine wI ?_|refine wJ ?_|refine wC ?_|refine wD ?_|refine wE ?_|refine wF ?_|refine wG ?_|refine wK ?_|refine wL ?_|refine wM ?_|refine wN ?_|refine wO ?_|refine wP ?_|refine wQ ?_|refine wR ?_|refine wS ?_|refine wT ?_|refine wU ?_|refine wV ?_|refine wW ?_|refine wX ?_)
    refine Ops.call (l1Name_ok cur4) (fun _ _ _ hf => by cases hf) fun r5 H5 => ?_
    rintro ⟨⟨x, rfl, hx⟩, d5⟩
    have a5 := cur4.ac d5.2 a4 p4
    refine Ops.push (a := x) rdI a5 rfl (by simp) (Nat.le_trans cur4.1.1 d5.2.nxt) (by kernel_rfl) (by kernel_rfl) (by kernel_rfl) (by omega) (by decide) fun pz v6 H6 a6 g6 => ?_
    have cur6 := d5.1.grew g6 (Nat.le_refl _) p4.symm
    have p6 := (g6.ap c d5.1.live p4.symm).symm
    repeat' (first|refine wA ?_|refine wB ?_|refine wH ?_|refine wI ?_|refine wJ ?_|refine wC ?_|refine wD ?_|refine wE ?_|refine wF ?_|refine wG ?_|refine wK ?_|refine wL ?_|refine wM ?_|refine wN ?_|refine wO ?_|refine wP ?_|refine wQ ?_|refine wR ?_|refine wS ?_|refine wT ?_|refine wU ?_|refine wV ?_|refine wW ?_|refine wX ?_)
    refine ⟨(n - 1, v6, H6, l ++ [x]), by dsimp only; omega, rfl, rfl, by dsimp only; exact (by repeat (first | exact Wk.jk | refine Wk.up rfl ?_)), ?_⟩
    exact ⟨by dsimp only; omega, cur6, a6, p6, by simp; omega⟩
  · repeat' (first|refine wA ?_|refine wB ?_|refine wH ?_|refine wI ?_|refine wJ ?_|refine wC ?_|refine wD ?_|refine wE ?_|refine wF ?_|refine wG ?_|refine wK ?_|refine wL ?_|refine wM ?_|refine wN ?_|refine wO ?_|refine wP ?_|refine wQ ?_|refine wR ?_|refine wS ?_|refine wT ?_|refine wU ?_|refine wV ?_|refine wW ?_|refine wX ?_)
    refine Ops.call (l1Once_ok cur4 (by decide)) (fun _ _ _ hf => by cases hf) fun r5 H5 => ?_
    rintro ⟨⟨b, rfl⟩, d5⟩
    have a5 := cur4.ac d5.2 a4 p4
    have cur5 := d5.1
    cases b
    · repeat' (first|refine wA ?_|refine wB ?_|refine wH ?_|refine wI ?_|refine wJ ?_|refine wC ?_|refine wD ?_|refine wE ?_|refine wF ?_|refine wG ?_|refine wK ?_|refine wL ?_|refine wM ?_|refine wN ?_|refine wO ?_|refine wP ?_|refine wQ ?_|refine wR ?_|refine wS ?_|refine wT ?_|refine wU ?_|refine wV ?_|refine wW ?_|refine wX ?_)
      refine Run.ret ⟨.inl rfl, ResK.tmp rfl (by conv => lhs; whnf) (ResK.nil ?_)⟩
      exact ⟨cur5.1, l, a5.sl⟩
    · repeat' (first|refine wA ?_|refine wB ?_|refine wH ?_|refine wI ?_|refine wJ ?_|refine wC ?_|refine wD ?_|refine wE ?_|refine wF ?_|refine wG ?_|refine wK ?_|refine wL ?_|refine wM ?_|refine wN ?_|refine wO ?_|refine wP ?_|refine wQ ?_|refine wR ?_|refine wS ?_|refine wT ?_|refine wU ?_|refine wV ?_|refine wW ?_|refine wX ?_)
      refine Run.loopW (fun (a : Nat × Value × Hp × List Int) => 1000 - a.1) (fun a => up (up (up jk 3 c) 4 a.2.1) 6 (.int .i64 (a.1 : Int))) (fun a => a.2.2.1)
        (fun a => a.1 ≤ 1000 ∧ Cur H a.2.2.1 c bs ∧ Ac cI 3 H.nxt a.2.2.1 a.2.1 a.2.2.2 ∧ Ap a.2.1 c ∧ a.2.2.2.length = l.length + a.1) (0, v5, H5, l) rfl (by repeat (first | exact Wk.jk | refine Wk.up rfl ?_)) ⟨by dsimp only; omega, cur5, a5, p4, rfl⟩ ?_
      rintro ⟨i, v7, H7, l7⟩ ⟨hi, cur7, a7, p7, hl7⟩
      dsimp only at hi cur7 a7 p7 hl7
      dsimp only
      repeat' (first|refine wA ?_|refine wB ?_|refine wH ?_|refine wI ?_|refine wJ ?_|refine wC ?_|refine wD ?_|refine wE ?_|refine wF ?_|refine wG ?_|refine wK ?_|refine wL ?_|refine wM ?_|refine wN ?_|refine wO ?_|refine wP ?_|refine wQ ?_|refine wR ?_|refine wS ?_|refine wT ?_|refine wU ?_|refine wV ?_|refine wW ?_|refine wX ?_)
      refine Ops.cmp rfl rfl rfl (fun hc2 => ?_) (fun hc2 => ?_)
      · repeat' (first|refine wA ?_|refine wB ?_|refine wH ?_|refine wI ?_|refine wJ ?_|refine wC ?_|refine wD ?_|refine wE ?_|refine wF ?_|refine wG ?_|refine wK ?_|refine wL ?_|refine wM ?_|refine wN ?_|refine wO ?_|refine wP ?_|refine wQ ?_|refine wR ?_|refine wS ?_|refine wT ?_|refine wU ?_|refine wV ?_|refine wW ?_|refine wX ?_)
        refine Ops.push (a := (i : Int)) rdI a7 rfl (by simp) cur7.1.1 (by kernel_rfl) (by kernel_rfl) (by kernel_rfl) (by omega) (by decide) fun pz v8 H8 a8 g8 => ?_
        have cur8 := cur7.grew g8 (Nat.le_refl _) p7.symm
        have p8 := (g8.ap c cur7.live p7.symm).symm
        repeat' (first|refine wA ?_|refine wB ?_|refine wH ?_|refine wI ?_|refine wJ ?_|refine wC ?_|refine wD ?_|refine wE ?_|refine wF ?_|refine wG ?_|refine wK ?_|refine wL ?_|refine wM ?_|refine wN ?_|refine wO ?_|refine wP ?_|refine wQ ?_|refine wR ?_|refine wS ?_|refine wT ?_|refine wU ?_|refine wV ?_|refine wW ?_|refine wX ?_)
        refine ⟨(i + 1, v8, H8, l7 ++ [(i : Int)]), by dsimp only; omega, rfl, rfl, by dsimp only; exact (by repeat (first | exact Wk.jk | refine Wk.up rfl ?_)), ?_⟩
        exact ⟨by dsimp only; omega, cur8, a8, p8, by simp; omega⟩
      · repeat' (first|refine wA ?_|refine wB ?_|refine wH ?_|refine wI ?_|refine wJ ?_|refine wC ?_|refine wD ?_|refine wE ?_|refine wF ?_|refine wG ?_|refine wK ?_|refine wL ?_|refine wM ?_|refine wN ?_|refine wO ?_|refine wP ?_|refine wQ ?_|refine wR ?_|refine wS ?_|refine wT ?_|refine wU ?_|refine wV ?_|refine wW ?_|refine wX ?_)
        refine Ops.call (l1Below_ok cur7 (by decide)) (fun _ _ _ hf => by cases hf) fun r9 H9 => ?_
        rintro ⟨⟨x, rfl, hx0, hx1⟩, d9⟩
        have a9 := cur7.ac d9.2 a7 p7
        repeat' (first|refine wA ?_|refine wB ?_|refine wH ?_|refine wI ?_|refine wJ ?_|refine wC ?_|refine wD ?_|refine wE ?_|refine wF ?_|refine wG ?_|refine wK ?_|refine wL ?_|refine wM ?_|refine wN ?_|refine wO ?_|refine wP ?_|refine wQ ?_|refine wR ?_|refine wS ?_|refine wT ?_|refine wU ?_|refine wV ?_|refine wW ?_|refine wX ?_)
        refine Ops.sliceH a9.sl (fun e => by rw [e] at hl7; simp at hl7; omega) rfl (by omega) (by omega) (by kernel_rfl) fun v' s' _ => ?_
        repeat' (first|refine wA ?_|refine wB ?_|refine wH ?_|refine wI ?_|refine wJ ?_|refine wC ?_|refine wD ?_|refine wE ?_|refine wF ?_|refine wG ?_|refine wK ?_|refine wL ?_|refine wM ?_|refine wN ?_|refine wO ?_|refine wP ?_|refine wQ ?_|refine wR ?_|refine wS ?_|refine wT ?_|refine wU ?_|refine wV ?_|refine wW ?_|refine wX ?_)
        refine Run.ret ⟨.inl rfl, ResK.tmp rfl (by conv => lhs; whnf) (ResK.nil ?_)⟩
        exact ⟨d9.1.1, _, s'⟩

theorem big_ok {H : Hp} {v : Value} {bs : List Int} (h : Sl cB H v bs) : acall Try.prog 15 [v] H (.bool (decide (bs.length > 4096))) H := by
  refine CallK.eq (CallK.enter Try.func15 rfl rfl Try.ntmps15 Try.results15 rfl ?_)
  repeat' (first|refine wA ?_|refine wB ?_|refine wH ?_|refine wI ?_|refine wJ ?_|refine wC ?_|refine wD ?_|refine wE ?_|refine wF ?_|refine wG ?_|refine wK ?_|refine wL ?_|refine wM ?_|refine wN ?_|refine wO ?_|refine wP ?_|refine wQ ?_|refine wR ?_|refine wS ?_|refine wT ?_|refine wU ?_|refine wV ?_|refine wW ?_|refine wX ?_)
  refine Ops.cmp rfl rfl rfl (fun hc => ?_) (fun hc => ?_)
  · repeat' (first|refine wA ?_|refine wB ?_|refine wH ?_|refine wI ?_|refine wJ ?_|refine wC ?_|refine wD ?_|refine wE ?_|refine wF ?_|refine wG ?_|refine wK ?_|refine wL ?_|refine wM ?_|refine wN ?_|refine wO ?_|refine wP ?_|refine wQ ?_|refine wR ?_|refine wS ?_|refine wT ?_|refine wU ?_|refine wV ?_|refine wW ?_|refine wX ?_)
    refine Run.ret ⟨.inl rfl, ResK.tmp rfl (by conv => lhs; whnf) (ResK.nil ?_)⟩
    exact ⟨by rw [decide_eq_true (by omega)]; rfl, rfl⟩
  · repeat' (first|refine wA ?_|refine wB ?_|refine wH ?_|refine wI ?_|refine wJ ?_|refine wC ?_|refine wD ?_|refine wE ?_|refine wF ?_|refine wG ?_|refine wK ?_|refine wL ?_|refine wM ?_|refine wN ?_|refine wO ?_|refine wP ?_|refine wQ ?_|refine wR ?_|refine wS ?_|refine wT ?_|refine wU ?_|refine wV ?_|refine wW ?_|refine wX ?_)
    refine Run.ret ⟨.inl rfl, ResK.tmp rfl (by conv => lhs; whnf) (ResK.nil ?_)⟩
    exact ⟨by rw [decide_eq_false (by omega)]; rfl, rfl⟩

theorem many {n : Nat} : ∀ {l : List Int}, (∀ a : Nat, a < n → (a : Int) ∈ l) → n ≤ l.length := by
  induction n with
  | zero => intro l _; omega
  | succ n ih =>
    intro l h
    have h1 := h n (by omega)
    have h2 := ih (l := l.erase (n : Int)) fun a ha => (List.mem_erase_of_ne (by omega)).2 (h a (by omega))
    rw [List.length_erase_of_mem h1] at h2
    have := List.length_pos_of_mem h1
    omega

theorem leastN_below {l : List Int} : ∀ {f a : Nat} {b : Nat}, a ≤ b → (leastN l f a = -1 ∧ b < a + f ∨ (b : Int) < leastN l f a) → (b : Int) ∈ l
  | 0, a, b, h1, h2 => by simp [leastN] at h2; omega
  | f + 1, a, b, h1, h2 => by
    by_cases h : (a : Int) ∈ l
    · rw [leastN_yes h] at h2
      by_cases e : a = b
      · subst e; exact h
      · exact leastN_below (f := f) (a := a + 1) (by omega) (by omega)
    · rw [leastN_no h] at h2; omega
theorem leastN_notin {l : List Int} : ∀ {f a : Nat}, leastN l f a ≠ -1 → leastN l f a ∉ l
  | 0, a, h => absurd rfl h
  | f + 1, a, h => by
    by_cases h1 : (a : Int) ∈ l
    · rw [leastN_yes h1] at h ⊢; exact leastN_notin h
    · rw [leastN_no h1]; exact h1

theorem lawLeastFresh_ok {H : Hp} {v : Value} {bs : List Int} (h : Sl cB H v bs) (hb : ∀ b ∈ bs, 0 ≤ b ∧ b ≤ 255) : CallK Try.prog 3 [v] H (fun r _ => r = .bool true) := by
  refine (CallK.enter Try.func3 rfl rfl Try.ntmps3 Try.results3 rfl ?_)
  repeat' (first|refine wA ?_|refine wB ?_|refine wH ?_|refine wI ?_|refine wJ ?_|refine wC ?_|refine wD ?_|refine wE ?_|refine wF ?_|refine wG ?_|refine wK ?_|refine wL ?_|refine wM ?_|refine wN ?_|refine wO ?_|refine wP ?_|refine wQ ?_|refine wR ?_|refine wS ?_|refine wT ?_|refine wU ?_|refine wV ?_|refine wW ?_|refine wX ?_)
  refine Ops.callB (big_ok h) (fun hc => ?_) (fun hc => ?_)
  · repeat' (first|refine wA ?_|refine wB ?_|refine wH ?_|refine wI ?_|refine wJ ?_|refine wC ?_|refine wD ?_|refine wE ?_|refine wF ?_|refine wG ?_|refine wK ?_|refine wL ?_|refine wM ?_|refine wN ?_|refine wO ?_|refine wP ?_|refine wQ ?_|refine wR ?_|refine wS ?_|refine wT ?_|refine wU ?_|refine wV ?_|refine wW ?_|refine wX ?_)
    refine Run.ret ⟨.inl rfl, ResK.tmp rfl (by conv => lhs; whnf) (ResK.nil ?_)⟩
    rfl
  · have hl : bs.length ≤ 4096 := by simpa using hc
    repeat' (first|refine wA ?_|refine wB ?_|refine wH ?_|refine wI ?_|refine wJ ?_|refine wC ?_|refine wD ?_|refine wE ?_|refine wF ?_|refine wG ?_|refine wK ?_|refine wL ?_|refine wM ?_|refine wN ?_|refine wO ?_|refine wP ?_|refine wQ ?_|refine wR ?_|refine wS ?_|refine wT ?_|refine wU ?_|refine wV ?_|refine wW ?_|refine wX ?_)
    refine Ops.call (DrawLeastFresh_ok h hb (by omega)) (fun _ _ h _ => h.1.ge') fun u H1 => ?_
    rintro ⟨c1, l, s1⟩
    have hmx := s1.max
    simp only [maxLen] at hmx
    repeat' (first|refine wA ?_|refine wB ?_|refine wH ?_|refine wI ?_|refine wJ ?_|refine wC ?_|refine wD ?_|refine wE ?_|refine wF ?_|refine wG ?_|refine wK ?_|refine wL ?_|refine wM ?_|refine wN ?_|refine wO ?_|refine wP ?_|refine wQ ?_|refine wR ?_|refine wS ?_|refine wT ?_|refine wU ?_|refine wV ?_|refine wW ?_|refine wX ?_)
    refine Ops.call (LeastFresh_ok s1) (fun _ _ h _ => h.1.ge') fun r2 H2 => ?_
    rintro ⟨c2, rfl⟩
    have s2 := s1.calm c2
    have hr := least_range (l := l)
    have hbelow : ∀ b : Nat, (least l = -1 ∧ b < 1000 ∨ (b : Int) < least l) → (b : Int) ∈ l := fun b hb2 => leastN_below (f := 1000) (a := 0) (by omega) (by unfold least at hb2; omega)
    repeat' (first|refine wA ?_|refine wB ?_|refine wH ?_|refine wI ?_|refine wJ ?_|refine wC ?_|refine wD ?_|refine wE ?_|refine wF ?_|refine wG ?_|refine wK ?_|refine wL ?_|refine wM ?_|refine wN ?_|refine wO ?_|refine wP ?_|refine wQ ?_|refine wR ?_|refine wS ?_|refine wT ?_|refine wU ?_|refine wV ?_|refine wW ?_|refine wX ?_)
    refine Ops.cmp rfl rfl rfl (fun hc2 => ?_) (fun hc2 => ?_)
    · have h1000 := many (n := 1000) (l := l) fun a ha => hbelow a (by omega)
      repeat' (first|refine wA ?_|refine wB ?_|refine wH ?_|refine wI ?_|refine wJ ?_|refine wC ?_|refine wD ?_|refine wE ?_|refine wF ?_|refine wG ?_|refine wK ?_|refine wL ?_|refine wM ?_|refine wN ?_|refine wO ?_|refine wP ?_|refine wQ ?_|refine wR ?_|refine wS ?_|refine wT ?_|refine wU ?_|refine wV ?_|refine wW ?_|refine wX ?_)
      refine Ops.cmp rfl rfl rfl (fun hc3 => ?_) (fun hc3 => ?_)
      · repeat' (first|refine wA ?_|refine wB ?_|refine wH ?_|refine wI ?_|refine wJ ?_|refine wC ?_|refine wD ?_|refine wE ?_|refine wF ?_|refine wG ?_|refine wK ?_|refine wL ?_|refine wM ?_|refine wN ?_|refine wO ?_|refine wP ?_|refine wQ ?_|refine wR ?_|refine wS ?_|refine wT ?_|refine wU ?_|refine wV ?_|refine wW ?_|refine wX ?_)
        refine Run.ret ⟨.inl rfl, ResK.tmp rfl (by conv => lhs; whnf) (ResK.nil ?_)⟩
        rfl
      · omega
    · repeat' (first|refine wA ?_|refine wB ?_|refine wH ?_|refine wI ?_|refine wJ ?_|refine wC ?_|refine wD ?_|refine wE ?_|refine wF ?_|refine wG ?_|refine wK ?_|refine wL ?_|refine wM ?_|refine wN ?_|refine wO ?_|refine wP ?_|refine wQ ?_|refine wR ?_|refine wS ?_|refine wT ?_|refine wU ?_|refine wV ?_|refine wW ?_|refine wX ?_)
      refine Run.loopW (fun (i : Nat) => 1000 - i) (fun i => up (up (up jk 3 u) 4 (.int .i64 (least l))) 5 (.int .i64 (i : Int))) (fun _ => H2) (fun i => i ≤ 1000) 0 rfl (by repeat (first | exact Wk.jk | refine Wk.up rfl ?_)) (by omega) ?_
      intro i hi
      repeat' (first|refine wA ?_|refine wB ?_|refine wH ?_|refine wI ?_|refine wJ ?_|refine wC ?_|refine wD ?_|refine wE ?_|refine wF ?_|refine wG ?_|refine wK ?_|refine wL ?_|refine wM ?_|refine wN ?_|refine wO ?_|refine wP ?_|refine wQ ?_|refine wR ?_|refine wS ?_|refine wT ?_|refine wU ?_|refine wV ?_|refine wW ?_|refine wX ?_)
      refine Ops.cmp rfl rfl rfl (fun hc3 => ?_) (fun hc3 => ?_)
      · repeat' (first|refine wA ?_|refine wB ?_|refine wH ?_|refine wI ?_|refine wJ ?_|refine wC ?_|refine wD ?_|refine wE ?_|refine wF ?_|refine wG ?_|refine wK ?_|refine wL ?_|refine wM ?_|refine wN ?_|refine wO ?_|refine wP ?_|refine wQ ?_|refine wR ?_|refine wS ?_|refine wT ?_|refine wU ?_|refine wV ?_|refine wW ?_|refine wX ?_)
        refine Ops.callB (has_ok s2) (fun hc4 => ?_) (fun hc4 => ?_)
        · repeat' (first|refine wA ?_|refine wB ?_|refine wH ?_|refine wI ?_|refine wJ ?_|refine wC ?_|refine wD ?_|refine wE ?_|refine wF ?_|refine wG ?_|refine wK ?_|refine wL ?_|refine wM ?_|refine wN ?_|refine wO ?_|refine wP ?_|refine wQ ?_|refine wR ?_|refine wS ?_|refine wT ?_|refine wU ?_|refine wV ?_|refine wW ?_|refine wX ?_)
          refine ⟨i + 1, by dsimp only; omega, rfl, rfl, by dsimp only; exact (by repeat (first | exact Wk.jk | refine Wk.up rfl ?_)), ?_⟩
          omega
        · have := hbelow i (by omega)
          simp [this] at hc4
      · repeat' (first|refine wA ?_|refine wB ?_|refine wH ?_|refine wI ?_|refine wJ ?_|refine wC ?_|refine wD ?_|refine wE ?_|refine wF ?_|refine wG ?_|refine wK ?_|refine wL ?_|refine wM ?_|refine wN ?_|refine wO ?_|refine wP ?_|refine wQ ?_|refine wR ?_|refine wS ?_|refine wT ?_|refine wU ?_|refine wV ?_|refine wW ?_|refine wX ?_)
        refine Ops.callB (has_ok s2) (fun hc4 => ?_) (fun hc4 => ?_)
        · have := leastN_notin (l := l) (f := 1000) (a := 0) (fun e => hc2 (by unfold least; omega))
          exact absurd (show leastN l 1000 0 ∈ l from (by simpa using hc4 : least l ∈ l)) this
        · repeat' (first|refine wA ?_|refine wB ?_|refine wH ?_|refine wI ?_|refine wJ ?_|refine wC ?_|refine wD ?_|refine wE ?_|refine wF ?_|refine wG ?_|refine wK ?_|refine wL ?_|refine wM ?_|refine wN ?_|refine wO ?_|refine wP ?_|refine wQ ?_|refine wR ?_|refine wS ?_|refine wT ?_|refine wU ?_|refine wV ?_|refine wW ?_|refine wX ?_)
          refine Ops.cmp rfl rfl rfl (fun hc5 => ?_) (fun hc5 => ?_)
          · repeat' (first|refine wA ?_|refine wB ?_|refine wH ?_|refine wI ?_|refine wJ ?_|refine wC ?_|refine wD ?_|refine wE ?_|refine wF ?_|refine wG ?_|refine wK ?_|refine wL ?_|refine wM ?_|refine wN ?_|refine wO ?_|refine wP ?_|refine wQ ?_|refine wR ?_|refine wS ?_|refine wT ?_|refine wU ?_|refine wV ?_|refine wW ?_|refine wX ?_)
            refine Run.ret ⟨.inl rfl, ResK.tmp rfl (by conv => lhs; whnf) (ResK.nil ?_)⟩
            rfl
          · omega

end Go.Proofs.Ytefmjpbmdoebaaa

/- Draws of constants and tuples; a number put into an ascending list. -/
set_option linter.unusedVariables false
namespace Go.Proofs.Ytefmjpbmdoebaaa
open Go Go.RowKit

theorem Touch.grew {α : Type} {cc : Cd α} {c v v' : Value} {H H1 H2 : Hp} {k e : Nat} {l : List α} (h : Touch c H H1) (hg : Grew k H1 v H2 v') (ha : Ac cc e k H1 v l) (hk : H.nxt ≤ k) : Touch c H H2 := by
  have hne : ∀ id, id < H.nxt → idOf v ≠ some id := fun id hid hv => by
    rcases ha with ⟨h1, _⟩ | ⟨id', ob, h1, h2, h3, h4, _⟩
    · rw [h1] at hv; cases hv
    · rw [h1] at hv
      injection hv with hv
      have hv' : id' = id := hv
      subst hv'
      have := H1.rt id' (Hp.lt h2)
      omega
  refine ⟨Nat.le_trans h.nxt hg.kp.1, fun id hid => ?_, fun id hid hr => ?_⟩
  · obtain ⟨e1, e2, e3⟩ := hg.kp.2 id (Nat.lt_of_lt_of_le hid h.nxt)
    exact ⟨(e3 (hne id hid)).trans (h.own id hid).1, e2.trans (h.own id hid).2⟩
  · exact (hg.kp.2 id (Nat.lt_of_lt_of_le hid h.nxt)).1.trans (h.get id hid hr)

/-- Where a number belongs: from the end on. -/
def insAt (l : List Int) (n : Int) : Nat → Nat
  | 0 => 0
  | k + 1 => if l.getD k 0 > n then insAt l n k else k + 1
theorem insAt_le (l : List Int) (n : Int) : ∀ k, insAt l n k ≤ k
  | 0 => Nat.le_refl _
  | k + 1 => by unfold insAt; split; exact Nat.le_succ_of_le (insAt_le l n k); exact Nat.le_refl _
/-- A number put into a list. -/
def insL (l : List Int) (n : Int) : List Int := if n ∈ l then l else l.take (insAt l n l.length) ++ [n] ++ l.drop (insAt l n l.length)

theorem l1Insert_ok {H : Hp} {v : Value} {l : List Int} {n : Int} (h : Sl cI H v l) (hl : l.length ≤ 16777215) :
    CallK Try.prog 92 [v, .int .i64 n] H (fun r H' => Calm H H' ∧ ((n ∈ l ∧ r = v) ∨ (n ∉ l ∧ Ac cI 3 H.nxt H' r (insL l n)))) := by
  refine (CallK.enter Try.func92 rfl rfl Try.ntmps92 Try.results92 rfl ?_)
  repeat' (first|refine wA ?_|refine wB ?_|refine wH ?_|refine wI ?_|refine wJ ?_|refine wC ?_|refine wD ?_|refine wE ?_|refine wF ?_|refine wG ?_|refine wK ?_|refine wL ?_|refine wM ?_|refine wN ?_|refine wO ?_|refine wP ?_|refine wQ ?_|refine wR ?_|refine wS ?_|refine wT ?_|refine wU ?_|refine wV ?_|refine wW ?_|refine wX ?_)
  refine Ops.callB (l1Has_ok h) (fun hc => ?_) (fun hc => ?_)
  · repeat' (first|refine wA ?_|refine wB ?_|refine wH ?_|refine wI ?_|refine wJ ?_|refine wC ?_|refine wD ?_|refine wE ?_|refine wF ?_|refine wG ?_|refine wK ?_|refine wL ?_|refine wM ?_|refine wN ?_|refine wO ?_|refine wP ?_|refine wQ ?_|refine wR ?_|refine wS ?_|refine wT ?_|refine wU ?_|refine wV ?_|refine wW ?_|refine wX ?_)
    refine Run.ret ⟨.inl rfl, ResK.tmp rfl (by conv => lhs; whnf) (ResK.nil ?_)⟩
    exact ⟨Calm.refl H, .inl ⟨by simpa using hc, rfl⟩⟩
  · have hn : n ∉ l := by simpa using hc
    repeat' (first|refine wA ?_|refine wB ?_|refine wH ?_|refine wI ?_|refine wJ ?_|refine wC ?_|refine wD ?_|refine wE ?_|refine wF ?_|refine wG ?_|refine wK ?_|refine wL ?_|refine wM ?_|refine wN ?_|refine wO ?_|refine wP ?_|refine wQ ?_|refine wR ?_|refine wS ?_|refine wT ?_|refine wU ?_|refine wV ?_|refine wW ?_|refine wX ?_)
    refine Run.loopW (fun (k : Nat) => k) (fun k => up (up (up jk 0 v) 1 (.int .i64 n)) 5 (.int .i64 (k : Int))) (fun _ => H) (fun k => k ≤ l.length ∧ insAt l n l.length = insAt l n k) l.length rfl (by repeat (first | exact Wk.jk | refine Wk.up rfl ?_)) ⟨Nat.le_refl _, rfl⟩ ?_
    rintro k ⟨hk, he⟩
    have last : Run Try.prog (.skip) ⟨0, jk, H⟩ (fun _ _ => True) := Run.skip trivial
    clear last
    have stop : insAt l n l.length = k → l.take k ++ [n] ++ l.drop k = insL l n := fun e => by unfold insL; rw [if_neg hn, e]
    repeat' (first|refine wA ?_|refine wB ?_|refine wH ?_|refine wI ?_|refine wJ ?_|refine wC ?_|refine wD ?_|refine wE ?_|refine wF ?_|refine wG ?_|refine wK ?_|refine wL ?_|refine wM ?_|refine wN ?_|refine wO ?_|refine wP ?_|refine wQ ?_|refine wR ?_|refine wS ?_|refine wT ?_|refine wU ?_|refine wV ?_|refine wW ?_|refine wX ?_)
    refine Ops.cmp rfl rfl rfl (fun hc2 => ?_) (fun hc2 => ?_)
    · repeat' (first|refine wA ?_|refine wB ?_|refine wH ?_|refine wI ?_|refine wJ ?_|refine wC ?_|refine wD ?_|refine wE ?_|refine wF ?_|refine wG ?_|refine wK ?_|refine wL ?_|refine wM ?_|refine wN ?_|refine wO ?_|refine wP ?_|refine wQ ?_|refine wR ?_|refine wS ?_|refine wT ?_|refine wU ?_|refine wV ?_|refine wW ?_|refine wX ?_)
      refine Ops.unS rfl rfl rfl ?_
      refine Ops.idxI h rfl (by omega) (by omega) (by kernel_rfl) (by kernel_rfl) fun pz a ha => ?_
      have ha' : l.getD (k - 1) 0 = a := by
        have e2 : ((k : Int) - 1).toNat = k - 1 := by omega
        rw [e2] at ha
        rw [List.getD_eq_getElem?_getD, ha]; rfl
      obtain ⟨q, rfl⟩ : ∃ q, k = q + 1 := ⟨k - 1, by omega⟩
      have hst : insAt l n (q + 1) = if a > n then insAt l n q else q + 1 := by
        have : l.getD q 0 = a := ha'
        show (if l.getD q 0 > n then insAt l n q else q + 1) = _
        rw [this]
      repeat' (first|refine wA ?_|refine wB ?_|refine wH ?_|refine wI ?_|refine wJ ?_|refine wC ?_|refine wD ?_|refine wE ?_|refine wF ?_|refine wG ?_|refine wK ?_|refine wL ?_|refine wM ?_|refine wN ?_|refine wO ?_|refine wP ?_|refine wQ ?_|refine wR ?_|refine wS ?_|refine wT ?_|refine wU ?_|refine wV ?_|refine wW ?_|refine wX ?_)
      refine Ops.cmp rfl rfl rfl (fun hc3 => ?_) (fun hc3 => ?_)
      · rw [if_pos hc3] at hst
        repeat' (first|refine wA ?_|refine wB ?_|refine wH ?_|refine wI ?_|refine wJ ?_|refine wC ?_|refine wD ?_|refine wE ?_|refine wF ?_|refine wG ?_|refine wK ?_|refine wL ?_|refine wM ?_|refine wN ?_|refine wO ?_|refine wP ?_|refine wQ ?_|refine wR ?_|refine wS ?_|refine wT ?_|refine wU ?_|refine wV ?_|refine wW ?_|refine wX ?_)
        have e2 : ((q + 1 : Nat) : Int) - 1 = (q : Int) := by omega
        rw [e2]
        refine ⟨q, by dsimp only; omega, rfl, rfl, by dsimp only; exact (by repeat (first | exact Wk.jk | refine Wk.up rfl ?_)), ?_⟩
        exact ⟨by omega, he.trans hst⟩
      · rw [if_neg hc3] at hst
        repeat' (first|refine wA ?_|refine wB ?_|refine wH ?_|refine wI ?_|refine wJ ?_|refine wC ?_|refine wD ?_|refine wE ?_|refine wF ?_|refine wG ?_|refine wK ?_|refine wL ?_|refine wM ?_|refine wN ?_|refine wO ?_|refine wP ?_|refine wQ ?_|refine wR ?_|refine wS ?_|refine wT ?_|refine wU ?_|refine wV ?_|refine wW ?_|refine wX ?_)
        refine Ops.sliceHS h rfl (by omega) (by omega) (by kernel_rfl) fun v1 s1 => ?_
        have s1' : Sl cI H v1 (l.take (q + 1)) := s1
        refine Ops.call (l1Copy_ok s1' (by simp; omega)) (fun _ _ h _ => h.1.ge') fun u H1 => ?_
        rintro ⟨c1, a1⟩
        repeat' (first|refine wA ?_|refine wB ?_|refine wH ?_|refine wI ?_|refine wJ ?_|refine wC ?_|refine wD ?_|refine wE ?_|refine wF ?_|refine wG ?_|refine wK ?_|refine wL ?_|refine wM ?_|refine wN ?_|refine wO ?_|refine wP ?_|refine wQ ?_|refine wR ?_|refine wS ?_|refine wT ?_|refine wU ?_|refine wV ?_|refine wW ?_|refine wX ?_)
        refine Ops.push (a := n) rdI a1 rfl (by simp) c1.1 (by kernel_rfl) (by kernel_rfl) (by kernel_rfl) (by simp; omega) (by decide) fun pz v6 H2 a2 g2 => ?_
        have c2 := g2.calm H (Nat.le_refl _) c1
        repeat' (first|refine wA ?_|refine wB ?_|refine wH ?_|refine wI ?_|refine wJ ?_|refine wC ?_|refine wD ?_|refine wE ?_|refine wF ?_|refine wG ?_|refine wK ?_|refine wL ?_|refine wM ?_|refine wN ?_|refine wO ?_|refine wP ?_|refine wQ ?_|refine wR ?_|refine wS ?_|refine wT ?_|refine wU ?_|refine wV ?_|refine wW ?_|refine wX ?_)
        refine Ops.sliceLS (h.calm c2) rfl (by omega) (by omega) (by kernel_rfl) fun v2 s2 => ?_
        have s2' : Sl cI H2 v2 (l.drop (q + 1)) := s2
        refine Ops.cat rfl rdI a2 s2' c2.1 (by kernel_rfl) (by kernel_rfl) (by simp; omega) fun v7 H3 a3 g3 => ?_
        repeat' (first|refine wA ?_|refine wB ?_|refine wH ?_|refine wI ?_|refine wJ ?_|refine wC ?_|refine wD ?_|refine wE ?_|refine wF ?_|refine wG ?_|refine wK ?_|refine wL ?_|refine wM ?_|refine wN ?_|refine wO ?_|refine wP ?_|refine wQ ?_|refine wR ?_|refine wS ?_|refine wT ?_|refine wU ?_|refine wV ?_|refine wW ?_|refine wX ?_)
        refine Run.ret ⟨.inl rfl, ResK.tmp rfl (by conv => lhs; whnf) (ResK.nil ?_)⟩
        refine ⟨g3.calm H (Nat.le_refl _) c2, .inr ⟨hn, ?_⟩⟩
        rw [← stop (he.trans hst)]; exact a3
    · have hk0 : k = 0 := by omega
      subst hk0
      repeat' (first|refine wA ?_|refine wB ?_|refine wH ?_|refine wI ?_|refine wJ ?_|refine wC ?_|refine wD ?_|refine wE ?_|refine wF ?_|refine wG ?_|refine wK ?_|refine wL ?_|refine wM ?_|refine wN ?_|refine wO ?_|refine wP ?_|refine wQ ?_|refine wR ?_|refine wS ?_|refine wT ?_|refine wU ?_|refine wV ?_|refine wW ?_|refine wX ?_)
      refine Ops.sliceHS h rfl (by omega) (by omega) (by kernel_rfl) fun v1 s1 => ?_
      have s1' : Sl cI H v1 (l.take 0) := s1
      refine Ops.call (l1Copy_ok s1' (by simp)) (fun _ _ h _ => h.1.ge') fun u H1 => ?_
      rintro ⟨c1, a1⟩
      repeat' (first|refine wA ?_|refine wB ?_|refine wH ?_|refine wI ?_|refine wJ ?_|refine wC ?_|refine wD ?_|refine wE ?_|refine wF ?_|refine wG ?_|refine wK ?_|refine wL ?_|refine wM ?_|refine wN ?_|refine wO ?_|refine wP ?_|refine wQ ?_|refine wR ?_|refine wS ?_|refine wT ?_|refine wU ?_|refine wV ?_|refine wW ?_|refine wX ?_)
      refine Ops.push (a := n) rdI a1 rfl (by simp) c1.1 (by kernel_rfl) (by kernel_rfl) (by kernel_rfl) (by simp) (by decide) fun pz v6 H2 a2 g2 => ?_
      have c2 := g2.calm H (Nat.le_refl _) c1
      repeat' (first|refine wA ?_|refine wB ?_|refine wH ?_|refine wI ?_|refine wJ ?_|refine wC ?_|refine wD ?_|refine wE ?_|refine wF ?_|refine wG ?_|refine wK ?_|refine wL ?_|refine wM ?_|refine wN ?_|refine wO ?_|refine wP ?_|refine wQ ?_|refine wR ?_|refine wS ?_|refine wT ?_|refine wU ?_|refine wV ?_|refine wW ?_|refine wX ?_)
      refine Ops.sliceLS (h.calm c2) rfl (by omega) (by omega) (by kernel_rfl) fun v2 s2 => ?_
      have s2' : Sl cI H2 v2 (l.drop 0) := s2
      refine Ops.cat rfl rdI a2 s2' c2.1 (by kernel_rfl) (by kernel_rfl) (by simp; omega) fun v7 H3 a3 g3 => ?_
      repeat' (first|refine wA ?_|refine wB ?_|refine wH ?_|refine wI ?_|refine wJ ?_|refine wC ?_|refine wD ?_|refine wE ?_|refine wF ?_|refine wG ?_|refine wK ?_|refine wL ?_|refine wM ?_|refine wN ?_|refine wO ?_|refine wP ?_|refine wQ ?_|refine wR ?_|refine wS ?_|refine wT ?_|refine wU ?_|refine wV ?_|refine wW ?_|refine wX ?_)
      refine Run.ret ⟨.inl rfl, ResK.tmp rfl (by conv => lhs; whnf) (ResK.nil ?_)⟩
      refine ⟨g3.calm H (Nat.le_refl _) c2, .inr ⟨hn, ?_⟩⟩
      rw [← stop he]; exact a3

theorem insL_length (l : List Int) (n : Int) : (insL l n).length ≤ l.length + 1 := by
  unfold insL
  split
  · omega
  · have := insAt_le l n l.length
    simp; omega

theorem l6Few_ok {H0 H : Hp} {c : Value} {bs : List Int} {m : Int} (h : Cur H0 H c bs) (hm : 0 ≤ m) (hm2 : m ≤ 1000) : CallK Try.prog 67 [c, .int .i64 m] H (fun r H' => Dr H0 c bs H H' ∧ ∃ l, Ac cI 3 H0.nxt H' r l ∧ Ap r c ∧ l.length ≤ m) := by
  refine (CallK.enter Try.func67 rfl rfl Try.ntmps67 Try.results67 rfl ?_)
  repeat' (first|refine wA ?_|refine wB ?_|refine wH ?_|refine wI ?_|refine wJ ?_|refine wC ?_|refine wD ?_|refine wE ?_|refine wF ?_|refine wG ?_|refine wK ?_|refine wL ?_|refine wM ?_|refine wN ?_|refine wO ?_|refine wP ?_|refine wQ ?_|refine wR ?_|refine wS ?_|refine wT ?_|refine wU ?_|refine wV ?_|refine wW ?_|refine wX ?_)
  refine Ops.lit0 cI 3 H0.nxt (by kernel_rfl) (by kernel_rfl) h.1.1 fun v4 H2 a2 c2 p2 => ?_
  have cur2 := h.calm c2
  have p2 := p2 c h.live
  repeat' (first|refine wA ?_|refine wB ?_|refine wH ?_|refine wI ?_|refine wJ ?_|refine wC ?_|refine wD ?_|refine wE ?_|refine wF ?_|refine wG ?_|refine wK ?_|refine wL ?_|refine wM ?_|refine wN ?_|refine wO ?_|refine wP ?_|refine wQ ?_|refine wR ?_|refine wS ?_|refine wT ?_|refine wU ?_|refine wV ?_|refine wW ?_|refine wX ?_)
  refine Ops.call (l1Below_ok cur2 (by omega)) (fun _ _ _ hf => by cases hf) fun r3 H3 => ?_
  rintro ⟨⟨n0, rfl, hn0, hn1⟩, d3⟩
  have a3 := cur2.ac d3.2 a2 p2.symm
  have t3 := (Touch.of_calm c2).trans h.live d3.2
  repeat' (first|refine wA ?_|refine wB ?_|refine wH ?_|refine wI ?_|refine wJ ?_|refine wC ?_|refine wD ?_|refine wE ?_|refine wF ?_|refine wG ?_|refine wK ?_|refine wL ?_|refine wM ?_|refine wN ?_|refine wO ?_|refine wP ?_|refine wQ ?_|refine wR ?_|refine wS ?_|refine wT ?_|refine wU ?_|refine wV ?_|refine wW ?_|refine wX ?_)
  refine Run.loopW (fun (a : Int × Value × Hp × List Int) => a.1.toNat) (fun a => up (up (up jk 0 c) 5 a.2.1) 6 (.int .i64 a.1)) (fun a => a.2.2.1)
    (fun a => 0 ≤ a.1 ∧ Cur H0 a.2.2.1 c bs ∧ Touch c H a.2.2.1 ∧ Ac cI 3 H0.nxt a.2.2.1 a.2.1 a.2.2.2 ∧ Ap a.2.1 c ∧ a.2.2.2.length + a.1.toNat ≤ m) (n0, v4, H3, []) rfl (by repeat (first | exact Wk.jk | refine Wk.up rfl ?_)) ⟨by dsimp only; omega, d3.1, t3, a3, p2.symm, by simp; omega⟩ ?_
  rintro ⟨n, v5, H4, l⟩ ⟨hn, cur4, t4, a4, p4, hl4⟩
  dsimp only at hn cur4 t4 a4 p4 hl4
  dsimp only
  repeat' (first|refine wA ?_|refine wB ?_|refine wH ?_|refine wI ?_|refine wJ ?_|refine wC ?_|refine wD ?_|refine wE ?_|refine wF ?_|refine wG ?_|refine wK ?_|refine wL ?_|refine wM ?_|refine wN ?_|refine wO ?_|refine wP ?_|refine wQ ?_|refine wR ?_|refine wS ?_|refine wT ?_|refine wU ?_|refine wV ?_|refine wW ?_|refine wX ?_)
  refine Ops.cmp rfl rfl rfl (fun hc => ?_) (fun hc => ?_)
  · repeat' (first|refine wA ?_|refine wB ?_|refine wH ?_|refine wI ?_|refine wJ ?_|refine wC ?_|refine wD ?_|refine wE ?_|refine wF ?_|refine wG ?_|refine wK ?_|refine wL ?_|refine wM ?_|refine wN ?_|refine wO ?_|refine wP ?_|refine wQ ?_|refine wR ?_|refine wS ?_|refine wT ?_|refine wU ?_|refine wV ?_|refine wW ?_|refine wX ?_)
    refine Ops.call (l1Below_ok cur4 (by decide)) (fun _ _ _ hf => by cases hf) fun r5 H5 => ?_
    rintro ⟨⟨x, rfl, hx0, hx1⟩, d5⟩
    have a5 := cur4.ac d5.2 a4 p4
    have t5 := t4.trans h.live d5.2
    refine Ops.call (l1Insert_ok (n := x) a5.sl (by omega)) (fun _ _ h _ => h.1.ge') fun r6 H6 => ?_
    rintro ⟨c6, hr6⟩
    have t6 := t5.trans h.live (Touch.of_calm c6)
    have cur6 := d5.1.calm c6
    rcases hr6 with ⟨hmem, rfl⟩ | ⟨hmem, a6⟩
    · repeat' (first|refine wA ?_|refine wB ?_|refine wH ?_|refine wI ?_|refine wJ ?_|refine wC ?_|refine wD ?_|refine wE ?_|refine wF ?_|refine wG ?_|refine wK ?_|refine wL ?_|refine wM ?_|refine wN ?_|refine wO ?_|refine wP ?_|refine wQ ?_|refine wR ?_|refine wS ?_|refine wT ?_|refine wU ?_|refine wV ?_|refine wW ?_|refine wX ?_)
      refine ⟨(n - 1, r6, H6, l), by dsimp only; omega, rfl, rfl, by dsimp only; exact (by repeat (first | exact Wk.jk | refine Wk.up rfl ?_)), ?_⟩
      exact ⟨by dsimp only; omega, cur6, t6, a5.calm c6, p4, by dsimp only; omega⟩
    · have p6 := (a6.ap (Nat.le_refl _) d5.1.live).symm
      have := insL_length l x
      repeat' (first|refine wA ?_|refine wB ?_|refine wH ?_|refine wI ?_|refine wJ ?_|refine wC ?_|refine wD ?_|refine wE ?_|refine wF ?_|refine wG ?_|refine wK ?_|refine wL ?_|refine wM ?_|refine wN ?_|refine wO ?_|refine wP ?_|refine wQ ?_|refine wR ?_|refine wS ?_|refine wT ?_|refine wU ?_|refine wV ?_|refine wW ?_|refine wX ?_)
      refine ⟨(n - 1, r6, H6, insL l x), by dsimp only; omega, rfl, rfl, by dsimp only; exact (by repeat (first | exact Wk.jk | refine Wk.up rfl ?_)), ?_⟩
      exact ⟨by dsimp only; omega, cur6, t6, a6.older d5.1.1.1, p6, by dsimp only; omega⟩
  · repeat' (first|refine wA ?_|refine wB ?_|refine wH ?_|refine wI ?_|refine wJ ?_|refine wC ?_|refine wD ?_|refine wE ?_|refine wF ?_|refine wG ?_|refine wK ?_|refine wL ?_|refine wM ?_|refine wN ?_|refine wO ?_|refine wP ?_|refine wQ ?_|refine wR ?_|refine wS ?_|refine wT ?_|refine wU ?_|refine wV ?_|refine wW ?_|refine wX ?_)
    refine Run.ret ⟨.inl rfl, ResK.tmp rfl (by conv => lhs; whnf) (ResK.nil ?_)⟩
    exact ⟨⟨cur4, t4⟩, l, a4, p4, by omega⟩

theorem l6Atoms_ok {H0 H : Hp} {c : Value} {bs : List Int} {m : Int} (h : Cur H0 H c bs) (hm : 0 ≤ m) (hm2 : m ≤ 1000) : CallK Try.prog 68 [c, .int .i64 m] H (fun r H' => Dr H0 c bs H H' ∧ ∃ l, Ac cI 3 H.nxt H' r l ∧ Ap r c ∧ (l.length : Int) = m ∧ ∀ x ∈ l, 0 ≤ x ∧ x < 6) := by
  refine (CallK.enter Try.func68 rfl rfl Try.ntmps68 Try.results68 rfl ?_)
  repeat' (first|refine wA ?_|refine wB ?_|refine wH ?_|refine wI ?_|refine wJ ?_|refine wC ?_|refine wD ?_|refine wE ?_|refine wF ?_|refine wG ?_|refine wK ?_|refine wL ?_|refine wM ?_|refine wN ?_|refine wO ?_|refine wP ?_|refine wQ ?_|refine wR ?_|refine wS ?_|refine wT ?_|refine wU ?_|refine wV ?_|refine wW ?_|refine wX ?_)
  refine Ops.lit0 cI 3 H.nxt (by kernel_rfl) (by kernel_rfl) (Nat.le_refl _) fun v4 H2 a2 c2 p2 => ?_
  have cur2 := h.calm c2
  have p2 := p2 c h.live
  repeat' (first|refine wA ?_|refine wB ?_|refine wH ?_|refine wI ?_|refine wJ ?_|refine wC ?_|refine wD ?_|refine wE ?_|refine wF ?_|refine wG ?_|refine wK ?_|refine wL ?_|refine wM ?_|refine wN ?_|refine wO ?_|refine wP ?_|refine wQ ?_|refine wR ?_|refine wS ?_|refine wT ?_|refine wU ?_|refine wV ?_|refine wW ?_|refine wX ?_)
  refine Run.loopW (fun (a : Nat × Value × Hp × List Int) => (m - a.1).toNat) (fun a => up (up (up (up jk 0 c) 1 (.int .i64 m)) 5 a.2.1) 6 (.int .i64 (a.1 : Int))) (fun a => a.2.2.1)
    (fun a => (a.1 : Int) ≤ m ∧ Cur H0 a.2.2.1 c bs ∧ Touch c H a.2.2.1 ∧ Ac cI 3 H.nxt a.2.2.1 a.2.1 a.2.2.2 ∧ Ap a.2.1 c ∧ a.2.2.2.length = a.1 ∧ ∀ x ∈ a.2.2.2, 0 ≤ x ∧ x < 6) (0, v4, H2, []) rfl (by repeat (first | exact Wk.jk | refine Wk.up rfl ?_)) ⟨by dsimp only; omega, cur2, Touch.of_calm c2, a2, p2.symm, rfl, by simp⟩ ?_
  rintro ⟨n, v5, H4, l⟩ ⟨hn, cur4, t4, a4, p4, hl4, hx4⟩
  dsimp only at hn cur4 t4 a4 p4 hl4 hx4
  dsimp only
  repeat' (first|refine wA ?_|refine wB ?_|refine wH ?_|refine wI ?_|refine wJ ?_|refine wC ?_|refine wD ?_|refine wE ?_|refine wF ?_|refine wG ?_|refine wK ?_|refine wL ?_|refine wM ?_|refine wN ?_|refine wO ?_|refine wP ?_|refine wQ ?_|refine wR ?_|refine wS ?_|refine wT ?_|refine wU ?_|refine wV ?_|refine wW ?_|refine wX ?_)
  refine Ops.cmp rfl rfl rfl (fun hc => ?_) (fun hc => ?_)
  · repeat' (first|refine wA ?_|refine wB ?_|refine wH ?_|refine wI ?_|refine wJ ?_|refine wC ?_|refine wD ?_|refine wE ?_|refine wF ?_|refine wG ?_|refine wK ?_|refine wL ?_|refine wM ?_|refine wN ?_|refine wO ?_|refine wP ?_|refine wQ ?_|refine wR ?_|refine wS ?_|refine wT ?_|refine wU ?_|refine wV ?_|refine wW ?_|refine wX ?_)
    refine Ops.call (l1Below_ok cur4 (by decide)) (fun _ _ _ hf => by cases hf) fun r5 H5 => ?_
    rintro ⟨⟨x, rfl, hx0, hx1⟩, d5⟩
    have a5 := cur4.ac d5.2 a4 p4
    have t5 := t4.trans h.live d5.2
    refine Ops.push (a := x) rdI a5 rfl (by simp) t5.nxt (by kernel_rfl) (by kernel_rfl) (by kernel_rfl) (by omega) (by decide) fun pz v6 H6 a6 g6 => ?_
    have cur6 := d5.1.grew g6 (h.1.1) p4.symm
    have p6 := (g6.ap c d5.1.live p4.symm).symm
    repeat' (first|refine wA ?_|refine wB ?_|refine wH ?_|refine wI ?_|refine wJ ?_|refine wC ?_|refine wD ?_|refine wE ?_|refine wF ?_|refine wG ?_|refine wK ?_|refine wL ?_|refine wM ?_|refine wN ?_|refine wO ?_|refine wP ?_|refine wQ ?_|refine wR ?_|refine wS ?_|refine wT ?_|refine wU ?_|refine wV ?_|refine wW ?_|refine wX ?_)
    refine ⟨(n + 1, v6, H6, l ++ [x]), by dsimp only; omega, rfl, rfl, by dsimp only; exact (by repeat (first | exact Wk.jk | refine Wk.up rfl ?_)), ?_⟩
    refine ⟨by dsimp only; omega, cur6, t5.grew g6 a5 (Nat.le_refl _), a6, p6, by simp [hl4], fun y hy => ?_⟩
    · rcases List.mem_append.1 hy with hy | hy
      · exact hx4 y hy
      · obtain rfl := List.mem_singleton.1 hy; exact ⟨hx0, hx1⟩
  · repeat' (first|refine wA ?_|refine wB ?_|refine wH ?_|refine wI ?_|refine wJ ?_|refine wC ?_|refine wD ?_|refine wE ?_|refine wF ?_|refine wG ?_|refine wK ?_|refine wL ?_|refine wM ?_|refine wN ?_|refine wO ?_|refine wP ?_|refine wQ ?_|refine wR ?_|refine wS ?_|refine wT ?_|refine wU ?_|refine wV ?_|refine wW ?_|refine wX ?_)
    refine Run.ret ⟨.inl rfl, ResK.tmp rfl (by conv => lhs; whnf) (ResK.nil ?_)⟩
    exact ⟨⟨cur4, t4⟩, l, a4, p4, by omega, hx4⟩

theorem DrawPatternOf_ok {H : Hp} {v : Value} {bs : List Int} (h : Sl cB H v bs) (hb : ∀ b ∈ bs, 0 ≤ b ∧ b ≤ 255) (hl : bs.length ≤ 1048576) : CallK Try.prog 30 [v] H (fun r H' => Calm H H' ∧ ∃ u w l m, r = .tuple #[u, w] ∧ Sl cI H' u l ∧ Sl cI H' w m ∧ l.length ≤ 100 ∧ m.length ≤ 100) := by
  refine (CallK.enter Try.func30 rfl rfl Try.ntmps30 Try.results30 rfl ?_)
  repeat' (first|refine wA ?_|refine wB ?_|refine wH ?_|refine wI ?_|refine wJ ?_|refine wC ?_|refine wD ?_|refine wE ?_|refine wF ?_|refine wG ?_|refine wK ?_|refine wL ?_|refine wM ?_|refine wN ?_|refine wO ?_|refine wP ?_|refine wQ ?_|refine wR ?_|refine wS ?_|refine wT ?_|refine wU ?_|refine wV ?_|refine wW ?_|refine wX ?_)
  refine Ops.call (l1New_ok h hb hl) (fun _ _ h _ => h.1.ge') fun c H1 => ?_
  rintro ⟨c1, cur1⟩
  repeat' (first|refine wA ?_|refine wB ?_|refine wH ?_|refine wI ?_|refine wJ ?_|refine wC ?_|refine wD ?_|refine wE ?_|refine wF ?_|refine wG ?_|refine wK ?_|refine wL ?_|refine wM ?_|refine wN ?_|refine wO ?_|refine wP ?_|refine wQ ?_|refine wR ?_|refine wS ?_|refine wT ?_|refine wU ?_|refine wV ?_|refine wW ?_|refine wX ?_)
  refine Ops.call (l6Few_ok cur1 (by decide) (by decide)) (fun _ _ _ hf => by cases hf) fun v5 H2 => ?_
  rintro ⟨d2, l, a5, p5, hl5⟩
  repeat' (first|refine wA ?_|refine wB ?_|refine wH ?_|refine wI ?_|refine wJ ?_|refine wC ?_|refine wD ?_|refine wE ?_|refine wF ?_|refine wG ?_|refine wK ?_|refine wL ?_|refine wM ?_|refine wN ?_|refine wO ?_|refine wP ?_|refine wQ ?_|refine wR ?_|refine wS ?_|refine wT ?_|refine wU ?_|refine wV ?_|refine wW ?_|refine wX ?_)
  refine Ops.call (l1Below_ok d2.1 (by decide)) (fun _ _ _ hf => by cases hf) fun r3 H3 => ?_
  rintro ⟨⟨w, rfl, hw0, hw1⟩, d3⟩
  have a5 := d2.1.ac d3.2 a5 p5
  refine Ops.call (l6Atoms_ok d3.1 hw0 (by omega)) (fun _ _ _ hf => by cases hf) fun v6 H4 => ?_
  rintro ⟨d4, m, a6, p6, hl6, _⟩
  have p56 : Ap v5 v6 := a6.ap (Nat.le_refl _) a5.live
  have a5 := d3.1.ac d4.2 a5 p5
  have hk3 : H.nxt ≤ H3.nxt := d3.1.1.1
  repeat' (first|refine wA ?_|refine wB ?_|refine wH ?_|refine wI ?_|refine wJ ?_|refine wC ?_|refine wD ?_|refine wE ?_|refine wF ?_|refine wG ?_|refine wK ?_|refine wL ?_|refine wM ?_|refine wN ?_|refine wO ?_|refine wP ?_|refine wQ ?_|refine wR ?_|refine wS ?_|refine wT ?_|refine wU ?_|refine wV ?_|refine wW ?_|refine wX ?_)
  refine Ops.call (l1Below_ok d4.1 (by decide)) (fun _ _ _ hf => by cases hf) fun r5 H5 => ?_
  rintro ⟨⟨x, rfl, hx0, hx1⟩, d5⟩
  have a5 := d4.1.ac d5.2 a5 p5
  have a6 := (d4.1.ac d5.2 a6 p6).older hk3
  repeat' (first|refine wA ?_|refine wB ?_|refine wH ?_|refine wI ?_|refine wJ ?_|refine wC ?_|refine wD ?_|refine wE ?_|refine wF ?_|refine wG ?_|refine wK ?_|refine wL ?_|refine wM ?_|refine wN ?_|refine wO ?_|refine wP ?_|refine wQ ?_|refine wR ?_|refine wS ?_|refine wT ?_|refine wU ?_|refine wV ?_|refine wW ?_|refine wX ?_)
  refine Ops.cmp rfl rfl rfl (fun hc => ?_) (fun hc => ?_)
  · repeat' (first|refine wA ?_|refine wB ?_|refine wH ?_|refine wI ?_|refine wJ ?_|refine wC ?_|refine wD ?_|refine wE ?_|refine wF ?_|refine wG ?_|refine wK ?_|refine wL ?_|refine wM ?_|refine wN ?_|refine wO ?_|refine wP ?_|refine wQ ?_|refine wR ?_|refine wS ?_|refine wT ?_|refine wU ?_|refine wV ?_|refine wW ?_|refine wX ?_)
    refine Ops.call (l1Odd_ok d5.1) (fun _ _ _ hf => by cases hf) fun r6 H6 => ?_
    rintro ⟨⟨y, rfl, hy⟩, d6⟩
    have a5 := d5.1.ac d6.2 a5 p5
    have a6 := d5.1.ac d6.2 a6 p6
    refine Ops.push (a := y) rdI a5 rfl (by simp) d6.1.1.1 (by kernel_rfl) (by kernel_rfl) (by kernel_rfl) (by omega) (by decide) fun pz v7 H7 a7 g7 => ?_
    have a6 := (g7.two rdI a6 p56.symm).1
    repeat' (first|refine wA ?_|refine wB ?_|refine wH ?_|refine wI ?_|refine wJ ?_|refine wC ?_|refine wD ?_|refine wE ?_|refine wF ?_|refine wG ?_|refine wK ?_|refine wL ?_|refine wM ?_|refine wN ?_|refine wO ?_|refine wP ?_|refine wQ ?_|refine wR ?_|refine wS ?_|refine wT ?_|refine wU ?_|refine wV ?_|refine wW ?_|refine wX ?_)
    refine Run.ret ⟨.inl rfl, ResK.tmp rfl (by conv => lhs; whnf) (ResK.tmp rfl (by conv => lhs; whnf) (ResK.nil ?_))⟩
    exact ⟨g7.calm H (Nat.le_refl _) d6.1.1, v7, v6, _, m, rfl, a7.sl, a6.sl, by simp; omega, by omega⟩
  · repeat' (first|refine wA ?_|refine wB ?_|refine wH ?_|refine wI ?_|refine wJ ?_|refine wC ?_|refine wD ?_|refine wE ?_|refine wF ?_|refine wG ?_|refine wK ?_|refine wL ?_|refine wM ?_|refine wN ?_|refine wO ?_|refine wP ?_|refine wQ ?_|refine wR ?_|refine wS ?_|refine wT ?_|refine wU ?_|refine wV ?_|refine wW ?_|refine wX ?_)
    refine Ops.cmp rfl rfl rfl (fun hc2 => ?_) (fun hc2 => ?_)
    · repeat' (first|refine wA ?_|refine wB ?_|refine wH ?_|refine wI ?_|refine wJ ?_|refine wC ?_|refine wD ?_|refine wE ?_|refine wF ?_|refine wG ?_|refine wK ?_|refine wL ?_|refine wM ?_|refine wN ?_|refine wO ?_|refine wP ?_|refine wQ ?_|refine wR ?_|refine wS ?_|refine wT ?_|refine wU ?_|refine wV ?_|refine wW ?_|refine wX ?_)
      refine Ops.call (l1Odd_ok d5.1) (fun _ _ _ hf => by cases hf) fun r6 H6 => ?_
      rintro ⟨⟨y, rfl, hy⟩, d6⟩
      have a5 := d5.1.ac d6.2 a5 p5
      have a6 := d5.1.ac d6.2 a6 p6
      refine Ops.push (a := y) rdI a6 rfl (by simp) d6.1.1.1 (by kernel_rfl) (by kernel_rfl) (by kernel_rfl) (by omega) (by decide) fun pz v7 H7 a7 g7 => ?_
      have a5 := (g7.two rdI a5 p56).1
      repeat' (first|refine wA ?_|refine wB ?_|refine wH ?_|refine wI ?_|refine wJ ?_|refine wC ?_|refine wD ?_|refine wE ?_|refine wF ?_|refine wG ?_|refine wK ?_|refine wL ?_|refine wM ?_|refine wN ?_|refine wO ?_|refine wP ?_|refine wQ ?_|refine wR ?_|refine wS ?_|refine wT ?_|refine wU ?_|refine wV ?_|refine wW ?_|refine wX ?_)
      refine Run.ret ⟨.inl rfl, ResK.tmp rfl (by conv => lhs; whnf) (ResK.tmp rfl (by conv => lhs; whnf) (ResK.nil ?_))⟩
      exact ⟨g7.calm H (Nat.le_refl _) d6.1.1, v5, v7, l, _, rfl, a5.sl, a7.sl, by omega, by simp; omega⟩
    · repeat' (first|refine wA ?_|refine wB ?_|refine wH ?_|refine wI ?_|refine wJ ?_|refine wC ?_|refine wD ?_|refine wE ?_|refine wF ?_|refine wG ?_|refine wK ?_|refine wL ?_|refine wM ?_|refine wN ?_|refine wO ?_|refine wP ?_|refine wQ ?_|refine wR ?_|refine wS ?_|refine wT ?_|refine wU ?_|refine wV ?_|refine wW ?_|refine wX ?_)
      refine Run.ret ⟨.inl rfl, ResK.tmp rfl (by conv => lhs; whnf) (ResK.tmp rfl (by conv => lhs; whnf) (ResK.nil ?_))⟩
      exact ⟨d5.1.1, v5, v6, l, m, rfl, a5.sl, a6.sl, by omega, by omega⟩

end Go.Proofs.Ytefmjpbmdoebaaa

/- The law FnPatterns: whatever the bytes are, the law returns true; no condition. This text: the law's own body. -/
set_option linter.unusedVariables false
namespace Go.Proofs.Ytefmjpbmdoebaaa
open Go Go.RowKit

theorem findI_get {α : Type} {p : α → Bool} : ∀ {l : List α}, 0 ≤ findI p l → ∃ a, l[(findI p l).toNat]? = some a ∧ p a = true
  | [], h => by simp [findI] at h
  | x :: t, h => by
    simp only [findI] at h ⊢
    by_cases hx : p x = true
    · rw [if_pos hx]; exact ⟨x, rfl, hx⟩
    · rw [if_neg hx] at h ⊢
      by_cases h2 : findI p t < 0
      · rw [if_pos h2] at h; omega
      · rw [if_neg h2]
        obtain ⟨a, h3, h4⟩ := findI_get (l := t) (p := p) (by omega)
        refine ⟨a, ?_, h4⟩
        have : (findI p t + 1).toNat = (findI p t).toNat + 1 := by omega
        rw [this]; simpa using h3

theorem patSt_inv {cs : List Int} (hcs : cs.Nodup) : ∀ (k : Nat) (tup : List Int), tup.length = k → ∃ ext, (patSt cs tup).1 = cs ++ ext ∧ (patSt cs tup).1.Nodup ∧ (patSt cs tup).2.length = tup.length ∧ ∀ (j : Nat) (a : Int), tup[j]? = some a → ∃ n : Nat, (patSt cs tup).2[j]? = some (n : Int) ∧ (patSt cs tup).1[n]? = some a := by
  intro k
  induction k with
  | zero => intro tup ht; rw [List.length_eq_zero_iff.1 ht]; exact ⟨[], by simp [patSt], by simpa [patSt] using hcs, by simp [patSt], fun j a h => by simp at h⟩
  | succ k ih =>
    intro tup ht
    rcases List.eq_nil_or_concat tup with rfl | ⟨t, x, rfl⟩
    · simp at ht
    · rw [List.concat_eq_append] at ht ⊢
      obtain ⟨ext, i1, i2, i3, i4⟩ := ih t (by simpa using ht)
      rw [patSt_snoc]
      unfold patStep
      rw [lastIdx_findI i2]
      have hn := findI_nonneg (p := fun y => x == y) (l := (patSt cs t).1)
      by_cases hf : findI (fun y => x == y) (patSt cs t).1 < 0
      · rw [if_pos hf]
        have hx : x ∉ (patSt cs t).1 := fun hm => by have := hn.2 ⟨x, hm, by simp⟩; omega
        refine ⟨ext ++ [x], by rw [i1]; simp, ?_, by simp [i3], fun j a hj => ?_⟩
        · rw [List.nodup_append]
          exact ⟨i2, by simp, fun y hy z hz e => by obtain rfl := List.mem_singleton.1 hz; subst e; exact hx hy⟩
        · dsimp only
          rcases Nat.lt_or_ge j t.length with h5 | h5
          · rw [List.getElem?_append_left h5] at hj
            obtain ⟨n, g1, g2⟩ := i4 j a hj
            exact ⟨n, by rw [List.getElem?_append_left (by omega)]; exact g1, by rw [List.getElem?_append_left (List.getElem?_eq_some_iff.1 g2).1]; exact g2⟩
          · have : j = t.length := by have := (List.getElem?_eq_some_iff.1 hj).1; simp at this; omega
            subst this
            simp at hj
            subst hj
            exact ⟨(patSt cs t).1.length, by rw [List.getElem?_append_right (by omega), i3]; simp, by simp⟩
      · rw [if_neg hf]
        obtain ⟨y, g1, g2⟩ := findI_get (p := fun y => x == y) (l := (patSt cs t).1) (by omega)
        have hxy : x = y := by simpa using g2
        subst hxy
        refine ⟨ext, i1, i2, by simp [i3], fun j a hj => ?_⟩
        dsimp only
        rcases Nat.lt_or_ge j t.length with h5 | h5
        · rw [List.getElem?_append_left h5] at hj
          obtain ⟨n, g3, g4⟩ := i4 j a hj
          exact ⟨n, by rw [List.getElem?_append_left (by omega)]; exact g3, g4⟩
        · have : j = t.length := by have := (List.getElem?_eq_some_iff.1 hj).1; simp at this; omega
          subst this
          simp at hj
          subst hj
          exact ⟨_, by rw [List.getElem?_append_right (by omega), i3, Int.toNat_of_nonneg (by omega)]; simp, g1⟩

theorem nodup_at {α : Type} {l : List α} (h : l.Nodup) {i j : Nat} {a : α} (hi : l[i]? = some a) (hj : l[j]? = some a) : i = j := by
  obtain ⟨h1, h2⟩ := List.getElem?_eq_some_iff.1 hi
  obtain ⟨h3, h4⟩ := List.getElem?_eq_some_iff.1 hj
  exact (List.getElem_inj h).1 (h2.trans h4.symm)

/-- What a pattern says. -/
theorem pat_says {cs tup : List Int} (hcs : cs.Nodup) : (patSt cs tup).2.length = tup.length ∧
    (∀ (i k : Nat) (a b p q : Int), tup[i]? = some a → tup[k]? = some b → (patSt cs tup).2[i]? = some p → (patSt cs tup).2[k]? = some q → (a = b ↔ p = q)) ∧
    (∀ (i : Nat) (a p : Int), tup[i]? = some a → (patSt cs tup).2[i]? = some p → 0 ≤ p ∧ (a ∈ cs ↔ p < cs.length) ∧ (p < cs.length → cs[p.toNat]? = some a)) := by
  obtain ⟨ext, i1, i2, i3, i4⟩ := patSt_inv hcs _ tup rfl
  refine ⟨i3, fun i k a b p q ha hb hp hq => ?_, fun i a p ha hp => ?_⟩
  · obtain ⟨n, g1, g2⟩ := i4 i a ha
    obtain ⟨m, g3, g4⟩ := i4 k b hb
    rw [hp] at g1; rw [hq] at g3
    cases g1; cases g3
    constructor
    · rintro rfl
      rw [nodup_at i2 g2 g4]
    · intro e
      have : n = m := by omega
      subst this
      rw [g2] at g4; cases g4; rfl
  · obtain ⟨n, g1, g2⟩ := i4 i a ha
    rw [hp] at g1; cases g1
    have hlow : (n : Int) < cs.length → cs[n]? = some a := fun h => by
      rw [i1, List.getElem?_append_left (by omega)] at g2; exact g2
    refine ⟨by omega, ⟨fun hm => ?_, fun h => List.mem_of_getElem? (hlow h)⟩, fun h => hlow h⟩
    obtain ⟨q, hq, he⟩ := List.mem_iff_getElem.1 hm
    have h5 : (patSt cs tup).1[q]? = some a := by rw [i1, List.getElem?_append_left hq, List.getElem?_eq_getElem hq, he]
    have := nodup_at i2 g2 h5
    omega

theorem lawPatterns_ok {H : Hp} {v : Value} {bs : List Int} (h : Sl cB H v bs) (hb : ∀ b ∈ bs, 0 ≤ b ∧ b ≤ 255) : CallK Try.prog 6 [v] H (fun r _ => r = .bool true) := by
  refine (CallK.enter Try.func6 rfl rfl Try.ntmps6 Try.results6 rfl ?_)
  repeat' (first|refine wA ?_|refine wB ?_|refine wH ?_|refine wI ?_|refine wJ ?_|refine wC ?_|refine wD ?_|refine wE ?_|refine wF ?_|refine wG ?_|refine wK ?_|refine wL ?_|refine wM ?_|refine wN ?_|refine wO ?_|refine wP ?_|refine wQ ?_|refine wR ?_|refine wS ?_|refine wT ?_|refine wU ?_|refine wV ?_|refine wW ?_|refine wX ?_)
  refine Ops.callB (big_ok h) (fun hc => ?_) (fun hc => ?_)
  · repeat' (first|refine wA ?_|refine wB ?_|refine wH ?_|refine wI ?_|refine wJ ?_|refine wC ?_|refine wD ?_|refine wE ?_|refine wF ?_|refine wG ?_|refine wK ?_|refine wL ?_|refine wM ?_|refine wN ?_|refine wO ?_|refine wP ?_|refine wQ ?_|refine wR ?_|refine wS ?_|refine wT ?_|refine wU ?_|refine wV ?_|refine wW ?_|refine wX ?_)
    refine Run.ret ⟨.inl rfl, ResK.tmp rfl (by conv => lhs; whnf) (ResK.nil ?_)⟩
    rfl
  · have hl : bs.length ≤ 4096 := by simpa using hc
    repeat' (first|refine wA ?_|refine wB ?_|refine wH ?_|refine wI ?_|refine wJ ?_|refine wC ?_|refine wD ?_|refine wE ?_|refine wF ?_|refine wG ?_|refine wK ?_|refine wL ?_|refine wM ?_|refine wN ?_|refine wO ?_|refine wP ?_|refine wQ ?_|refine wR ?_|refine wS ?_|refine wT ?_|refine wU ?_|refine wV ?_|refine wW ?_|refine wX ?_)
    refine Ops.call (DrawPatternOf_ok h hb (by omega)) (fun _ _ h _ => h.1.ge') fun r1 H1 => ?_
    rintro ⟨c1, u, w, l, m, rfl, s1, t1, hl1, hm1⟩
    repeat' (first|refine wA ?_|refine wB ?_|refine wH ?_|refine wI ?_|refine wJ ?_|refine wC ?_|refine wD ?_|refine wE ?_|refine wF ?_|refine wG ?_|refine wK ?_|refine wL ?_|refine wM ?_|refine wN ?_|refine wO ?_|refine wP ?_|refine wQ ?_|refine wR ?_|refine wS ?_|refine wT ?_|refine wU ?_|refine wV ?_|refine wW ?_|refine wX ?_)
    refine Ops.call (PatternOf_ok s1 t1) (fun _ _ h _ => h.1.ge') fun r2 H2 => ?_
    rintro ⟨c2, p, rfl, a2⟩
    have s2 := s1.calm c2
    have t2 := t1.calm c2
    cases hd : dec (isConst l ∧ isTup m)
    · have he : patOf l m = [] := by unfold patOf; rw [hd]; rfl
      rw [he] at a2
      have pl := a2.sl
      repeat' (first|refine wA ?_|refine wB ?_|refine wH ?_|refine wI ?_|refine wJ ?_|refine wC ?_|refine wD ?_|refine wE ?_|refine wF ?_|refine wG ?_|refine wK ?_|refine wL ?_|refine wM ?_|refine wN ?_|refine wO ?_|refine wP ?_|refine wQ ?_|refine wR ?_|refine wS ?_|refine wT ?_|refine wU ?_|refine wV ?_|refine wW ?_|refine wX ?_)
      refine Ops.call (specPatternOf_ok s2 t2) (fun _ _ h _ => h.1.ge') fun r3 H3 => ?_
      rintro ⟨c3, p3, rfl, a3⟩
      rw [hd]
      have pl := pl.calm c3
      repeat' (first|refine wA ?_|refine wB ?_|refine wH ?_|refine wI ?_|refine wJ ?_|refine wC ?_|refine wD ?_|refine wE ?_|refine wF ?_|refine wG ?_|refine wK ?_|refine wL ?_|refine wM ?_|refine wN ?_|refine wO ?_|refine wP ?_|refine wQ ?_|refine wR ?_|refine wS ?_|refine wT ?_|refine wU ?_|refine wV ?_|refine wW ?_|refine wX ?_)
      refine Ops.cmp rfl rfl rfl (fun hc2 => ?_) (fun hc2 => ?_)
      · repeat' (first|refine wA ?_|refine wB ?_|refine wH ?_|refine wI ?_|refine wJ ?_|refine wC ?_|refine wD ?_|refine wE ?_|refine wF ?_|refine wG ?_|refine wK ?_|refine wL ?_|refine wM ?_|refine wN ?_|refine wO ?_|refine wP ?_|refine wQ ?_|refine wR ?_|refine wS ?_|refine wT ?_|refine wU ?_|refine wV ?_|refine wW ?_|refine wX ?_)
        refine Run.ret ⟨.inl rfl, ResK.tmp rfl (by conv => lhs; whnf) (ResK.nil ?_)⟩
        rfl
      · simp at hc2
    · have he : patOf l m = (patSt l m).2 := by unfold patOf; rw [hd]; rfl
      have hcc := of_dec_t hd
      rw [he] at a2
      obtain ⟨q1, q2, q3⟩ := pat_says (tup := m) (const_nodup hcc.1)
      have pl := a2.sl
      generalize hP : (patSt l m).2 = P at *
      repeat' (first|refine wA ?_|refine wB ?_|refine wH ?_|refine wI ?_|refine wJ ?_|refine wC ?_|refine wD ?_|refine wE ?_|refine wF ?_|refine wG ?_|refine wK ?_|refine wL ?_|refine wM ?_|refine wN ?_|refine wO ?_|refine wP ?_|refine wQ ?_|refine wR ?_|refine wS ?_|refine wT ?_|refine wU ?_|refine wV ?_|refine wW ?_|refine wX ?_)
      refine Run.loopW (fun (i : Nat) => m.length - i) (fun i => up (up (up (up jk 3 u) 4 w) 5 p) 9 (.int .i64 (i : Int))) (fun _ => H2) (fun i => i ≤ m.length) 0 rfl (by repeat (first | exact Wk.jk | refine Wk.up rfl ?_)) (by omega) ?_
      intro i hi
      repeat' (first|refine wA ?_|refine wB ?_|refine wH ?_|refine wI ?_|refine wJ ?_|refine wC ?_|refine wD ?_|refine wE ?_|refine wF ?_|refine wG ?_|refine wK ?_|refine wL ?_|refine wM ?_|refine wN ?_|refine wO ?_|refine wP ?_|refine wQ ?_|refine wR ?_|refine wS ?_|refine wT ?_|refine wU ?_|refine wV ?_|refine wW ?_|refine wX ?_)
      refine Ops.cmp rfl rfl rfl (fun hc => ?_) (fun hc => ?_)
      · repeat' (first|refine wA ?_|refine wB ?_|refine wH ?_|refine wI ?_|refine wJ ?_|refine wC ?_|refine wD ?_|refine wE ?_|refine wF ?_|refine wG ?_|refine wK ?_|refine wL ?_|refine wM ?_|refine wN ?_|refine wO ?_|refine wP ?_|refine wQ ?_|refine wR ?_|refine wS ?_|refine wT ?_|refine wU ?_|refine wV ?_|refine wW ?_|refine wX ?_)
        refine Run.loopW (fun (k : Nat) => m.length - k) (fun k => up (up (up (up (up jk 3 u) 4 w) 5 p) 9 (.int .i64 (i : Int))) 10 (.int .i64 (k : Int))) (fun _ => H2) (fun k => k ≤ m.length) 0 rfl (by repeat (first | exact Wk.jk | refine Wk.up rfl ?_)) (by omega) ?_
        intro k hk
        repeat' (first|refine wA ?_|refine wB ?_|refine wH ?_|refine wI ?_|refine wJ ?_|refine wC ?_|refine wD ?_|refine wE ?_|refine wF ?_|refine wG ?_|refine wK ?_|refine wL ?_|refine wM ?_|refine wN ?_|refine wO ?_|refine wP ?_|refine wQ ?_|refine wR ?_|refine wS ?_|refine wT ?_|refine wU ?_|refine wV ?_|refine wW ?_|refine wX ?_)
        refine Ops.cmp rfl rfl rfl (fun hc2 => ?_) (fun hc2 => ?_)
        · repeat' (first|refine wA ?_|refine wB ?_|refine wH ?_|refine wI ?_|refine wJ ?_|refine wC ?_|refine wD ?_|refine wE ?_|refine wF ?_|refine wG ?_|refine wK ?_|refine wL ?_|refine wM ?_|refine wN ?_|refine wO ?_|refine wP ?_|refine wQ ?_|refine wR ?_|refine wS ?_|refine wT ?_|refine wU ?_|refine wV ?_|refine wW ?_|refine wX ?_)
          refine Run.draw [0, 1, 2, 3, 4, 5, 6, 7, 8, 9, 10, 11, 12, 13, 14, 15, 16, 17, 18] Try.checked.mixed (by kernel_rfl) ?_
          repeat' (first|refine wA ?_|refine wB ?_|refine wH ?_|refine wI ?_|refine wJ ?_|refine wC ?_|refine wD ?_|refine wE ?_|refine wF ?_|refine wG ?_|refine wK ?_|refine wL ?_|refine wM ?_|refine wN ?_|refine wO ?_|refine wP ?_|refine wQ ?_|refine wR ?_|refine wS ?_|refine wT ?_|refine wU ?_|refine wV ?_|refine wW ?_|refine wX ?_)
          refine Ops.idxI t2 rfl (by omega) (by omega) (by kernel_rfl) (by kernel_rfl) fun pz a ha => ?_
          repeat' (first|refine wA ?_|refine wB ?_|refine wH ?_|refine wI ?_|refine wJ ?_|refine wC ?_|refine wD ?_|refine wE ?_|refine wF ?_|refine wG ?_|refine wK ?_|refine wL ?_|refine wM ?_|refine wN ?_|refine wO ?_|refine wP ?_|refine wQ ?_|refine wR ?_|refine wS ?_|refine wT ?_|refine wU ?_|refine wV ?_|refine wW ?_|refine wX ?_)
          refine Ops.idxI t2 rfl (by omega) (by omega) (by kernel_rfl) (by kernel_rfl) fun pz b hb2 => ?_
          have ha' : m[i]? = some a := ha
          have hb' : m[k]? = some b := hb2
          have rest : ∀ x y : Int, P[i]? = some x → P[k]? = some y → (a = b ↔ x = y) := fun x y hx hy => q2 i k a b x y ha' hb' hx hy
          refine Ops.cmp rfl rfl rfl (fun h1 => ?_) (fun h1 => ?_)
          · repeat' (first|refine wA ?_|refine wB ?_|refine wH ?_|refine wI ?_|refine wJ ?_|refine wC ?_|refine wD ?_|refine wE ?_|refine wF ?_|refine wG ?_|refine wK ?_|refine wL ?_|refine wM ?_|refine wN ?_|refine wO ?_|refine wP ?_|refine wQ ?_|refine wR ?_|refine wS ?_|refine wT ?_|refine wU ?_|refine wV ?_|refine wW ?_|refine wX ?_)
            refine Ops.idxI pl rfl (by omega) (by omega) (by kernel_rfl) (by kernel_rfl) fun pz x hx => ?_
            repeat' (first|refine wA ?_|refine wB ?_|refine wH ?_|refine wI ?_|refine wJ ?_|refine wC ?_|refine wD ?_|refine wE ?_|refine wF ?_|refine wG ?_|refine wK ?_|refine wL ?_|refine wM ?_|refine wN ?_|refine wO ?_|refine wP ?_|refine wQ ?_|refine wR ?_|refine wS ?_|refine wT ?_|refine wU ?_|refine wV ?_|refine wW ?_|refine wX ?_)
            refine Ops.idxI pl rfl (by omega) (by omega) (by kernel_rfl) (by kernel_rfl) fun pz y hy => ?_
            have e := rest x y hx hy
            refine Ops.cmp rfl rfl rfl (fun h2 => ?_) (fun h2 => ?_)
            · refine Ops.bne_same rfl rfl (by kernel_rfl) ?_
              repeat' (first|refine wA ?_|refine wB ?_|refine wH ?_|refine wI ?_|refine wJ ?_|refine wC ?_|refine wD ?_|refine wE ?_|refine wF ?_|refine wG ?_|refine wK ?_|refine wL ?_|refine wM ?_|refine wN ?_|refine wO ?_|refine wP ?_|refine wQ ?_|refine wR ?_|refine wS ?_|refine wT ?_|refine wU ?_|refine wV ?_|refine wW ?_|refine wX ?_)
              refine ⟨k + 1, by dsimp only; omega, rfl, rfl, by dsimp only; exact (by repeat (first | exact Wk.jk | refine Wk.up rfl ?_)), ?_⟩
              omega
            · exact absurd (e.1 h1) h2
          · repeat' (first|refine wA ?_|refine wB ?_|refine wH ?_|refine wI ?_|refine wJ ?_|refine wC ?_|refine wD ?_|refine wE ?_|refine wF ?_|refine wG ?_|refine wK ?_|refine wL ?_|refine wM ?_|refine wN ?_|refine wO ?_|refine wP ?_|refine wQ ?_|refine wR ?_|refine wS ?_|refine wT ?_|refine wU ?_|refine wV ?_|refine wW ?_|refine wX ?_)
            refine Ops.idxI pl rfl (by omega) (by omega) (by kernel_rfl) (by kernel_rfl) fun pz x hx => ?_
            repeat' (first|refine wA ?_|refine wB ?_|refine wH ?_|refine wI ?_|refine wJ ?_|refine wC ?_|refine wD ?_|refine wE ?_|refine wF ?_|refine wG ?_|refine wK ?_|refine wL ?_|refine wM ?_|refine wN ?_|refine wO ?_|refine wP ?_|refine wQ ?_|refine wR ?_|refine wS ?_|refine wT ?_|refine wU ?_|refine wV ?_|refine wW ?_|refine wX ?_)
            refine Ops.idxI pl rfl (by omega) (by omega) (by kernel_rfl) (by kernel_rfl) fun pz y hy => ?_
            have e := rest x y hx hy
            refine Ops.cmp rfl rfl rfl (fun h2 => ?_) (fun h2 => ?_)
            · exact absurd (e.2 h2) h1
            · refine Ops.bne_same rfl rfl (by kernel_rfl) ?_
              repeat' (first|refine wA ?_|refine wB ?_|refine wH ?_|refine wI ?_|refine wJ ?_|refine wC ?_|refine wD ?_|refine wE ?_|refine wF ?_|refine wG ?_|refine wK ?_|refine wL ?_|refine wM ?_|refine wN ?_|refine wO ?_|refine wP ?_|refine wQ ?_|refine wR ?_|refine wS ?_|refine wT ?_|refine wU ?_|refine wV ?_|refine wW ?_|refine wX ?_)
              refine ⟨k + 1, by dsimp only; omega, rfl, rfl, by dsimp only; exact (by repeat (first | exact Wk.jk | refine Wk.up rfl ?_)), ?_⟩
              omega
        · repeat' (first|refine wA ?_|refine wB ?_|refine wH ?_|refine wI ?_|refine wJ ?_|refine wC ?_|refine wD ?_|refine wE ?_|refine wF ?_|refine wG ?_|refine wK ?_|refine wL ?_|refine wM ?_|refine wN ?_|refine wO ?_|refine wP ?_|refine wQ ?_|refine wR ?_|refine wS ?_|refine wT ?_|refine wU ?_|refine wV ?_|refine wW ?_|refine wX ?_)
          refine Run.draw [0, 1, 2, 3, 4, 5, 6, 7, 8, 9, 10, 11, 12, 13, 14, 15, 16, 17, 18, 19, 20, 21, 22, 23, 24, 25, 26, 27, 28, 29, 30, 31, 32, 33, 34, 35, 36] Try.checked.mixed (by kernel_rfl) ?_
          repeat' (first|refine wA ?_|refine wB ?_|refine wH ?_|refine wI ?_|refine wJ ?_|refine wC ?_|refine wD ?_|refine wE ?_|refine wF ?_|refine wG ?_|refine wK ?_|refine wL ?_|refine wM ?_|refine wN ?_|refine wO ?_|refine wP ?_|refine wQ ?_|refine wR ?_|refine wS ?_|refine wT ?_|refine wU ?_|refine wV ?_|refine wW ?_|refine wX ?_)
          refine Ops.idxI t2 rfl (by omega) (by omega) (by kernel_rfl) (by kernel_rfl) fun pz a ha => ?_
          have ha' : m[i]? = some a := ha
          refine Ops.callB (has_ok s2) (fun h1 => ?_) (fun h1 => ?_)
          · have h1 : a ∈ l := by simpa using h1
            repeat' (first|refine wA ?_|refine wB ?_|refine wH ?_|refine wI ?_|refine wJ ?_|refine wC ?_|refine wD ?_|refine wE ?_|refine wF ?_|refine wG ?_|refine wK ?_|refine wL ?_|refine wM ?_|refine wN ?_|refine wO ?_|refine wP ?_|refine wQ ?_|refine wR ?_|refine wS ?_|refine wT ?_|refine wU ?_|refine wV ?_|refine wW ?_|refine wX ?_)
            refine Ops.idxI pl rfl (by omega) (by omega) (by kernel_rfl) (by kernel_rfl) fun pz x hx => ?_
            obtain ⟨e0, e1, e2⟩ := q3 i a x ha' hx
            repeat' (first|refine wA ?_|refine wB ?_|refine wH ?_|refine wI ?_|refine wJ ?_|refine wC ?_|refine wD ?_|refine wE ?_|refine wF ?_|refine wG ?_|refine wK ?_|refine wL ?_|refine wM ?_|refine wN ?_|refine wO ?_|refine wP ?_|refine wQ ?_|refine wR ?_|refine wS ?_|refine wT ?_|refine wU ?_|refine wV ?_|refine wW ?_|refine wX ?_)
            refine Ops.cmp rfl rfl rfl (fun h2 => ?_) (fun h2 => ?_)
            · refine Ops.bne_same rfl rfl (by kernel_rfl) ?_
              repeat' (first|refine wA ?_|refine wB ?_|refine wH ?_|refine wI ?_|refine wJ ?_|refine wC ?_|refine wD ?_|refine wE ?_|refine wF ?_|refine wG ?_|refine wK ?_|refine wL ?_|refine wM ?_|refine wN ?_|refine wO ?_|refine wP ?_|refine wQ ?_|refine wR ?_|refine wS ?_|refine wT ?_|refine wU ?_|refine wV ?_|refine wW ?_|refine wX ?_)
              refine Ops.unS rfl rfl rfl ?_
              refine Ops.idxI pl rfl (by omega) (by omega) (by kernel_rfl) (by kernel_rfl) fun pz x2 hx2 => ?_
              have : x2 = x := by rw [hx] at hx2; exact (Option.some.inj hx2).symm
              subst this
              repeat' (first|refine wA ?_|refine wB ?_|refine wH ?_|refine wI ?_|refine wJ ?_|refine wC ?_|refine wD ?_|refine wE ?_|refine wF ?_|refine wG ?_|refine wK ?_|refine wL ?_|refine wM ?_|refine wN ?_|refine wO ?_|refine wP ?_|refine wQ ?_|refine wR ?_|refine wS ?_|refine wT ?_|refine wU ?_|refine wV ?_|refine wW ?_|refine wX ?_)
              refine Ops.cmp rfl rfl rfl (fun h3 => ?_) (fun h3 => ?_)
              · repeat' (first|refine wA ?_|refine wB ?_|refine wH ?_|refine wI ?_|refine wJ ?_|refine wC ?_|refine wD ?_|refine wE ?_|refine wF ?_|refine wG ?_|refine wK ?_|refine wL ?_|refine wM ?_|refine wN ?_|refine wO ?_|refine wP ?_|refine wQ ?_|refine wR ?_|refine wS ?_|refine wT ?_|refine wU ?_|refine wV ?_|refine wW ?_|refine wX ?_)
                refine Ops.unS rfl rfl rfl ?_
                refine Ops.idxI pl rfl (by omega) (by omega) (by kernel_rfl) (by kernel_rfl) fun pz x3 hx3 => ?_
                have : x3 = x2 := by rw [hx] at hx3; exact (Option.some.inj hx3).symm
                subst this
                repeat' (first|refine wA ?_|refine wB ?_|refine wH ?_|refine wI ?_|refine wJ ?_|refine wC ?_|refine wD ?_|refine wE ?_|refine wF ?_|refine wG ?_|refine wK ?_|refine wL ?_|refine wM ?_|refine wN ?_|refine wO ?_|refine wP ?_|refine wQ ?_|refine wR ?_|refine wS ?_|refine wT ?_|refine wU ?_|refine wV ?_|refine wW ?_|refine wX ?_)
                refine Ops.unS rfl rfl rfl ?_
                refine Ops.idxI s2 rfl e0 (by omega) (by kernel_rfl) (by kernel_rfl) fun pz y hy => ?_
                have : y = a := by have h5 := e2 h2; rw [h5] at hy; exact (Option.some.inj hy).symm
                subst this
                repeat' (first|refine wA ?_|refine wB ?_|refine wH ?_|refine wI ?_|refine wJ ?_|refine wC ?_|refine wD ?_|refine wE ?_|refine wF ?_|refine wG ?_|refine wK ?_|refine wL ?_|refine wM ?_|refine wN ?_|refine wO ?_|refine wP ?_|refine wQ ?_|refine wR ?_|refine wS ?_|refine wT ?_|refine wU ?_|refine wV ?_|refine wW ?_|refine wX ?_)
                refine Ops.unS rfl rfl rfl ?_
                refine Ops.idxI t2 rfl (by omega) (by omega) (by kernel_rfl) (by kernel_rfl) fun pz z hz => ?_
                have : z = y := by rw [ha] at hz; exact (Option.some.inj hz).symm
                subst this
                repeat' (first|refine wA ?_|refine wB ?_|refine wH ?_|refine wI ?_|refine wJ ?_|refine wC ?_|refine wD ?_|refine wE ?_|refine wF ?_|refine wG ?_|refine wK ?_|refine wL ?_|refine wM ?_|refine wN ?_|refine wO ?_|refine wP ?_|refine wQ ?_|refine wR ?_|refine wS ?_|refine wT ?_|refine wU ?_|refine wV ?_|refine wW ?_|refine wX ?_)
                refine Ops.cmpn rfl rfl (fun h4 => absurd rfl h4) (fun h4 => ?_)
                repeat' (first|refine wA ?_|refine wB ?_|refine wH ?_|refine wI ?_|refine wJ ?_|refine wC ?_|refine wD ?_|refine wE ?_|refine wF ?_|refine wG ?_|refine wK ?_|refine wL ?_|refine wM ?_|refine wN ?_|refine wO ?_|refine wP ?_|refine wQ ?_|refine wR ?_|refine wS ?_|refine wT ?_|refine wU ?_|refine wV ?_|refine wW ?_|refine wX ?_)
                refine ⟨i + 1, by dsimp only; omega, rfl, rfl, by dsimp only; exact (by repeat (first | exact Wk.jk | refine Wk.up rfl ?_)), ?_⟩
                omega
              · exact absurd h2 h3
            · exact absurd (e1.1 h1) h2
          · have h1 : a ∉ l := by simpa using h1
            repeat' (first|refine wA ?_|refine wB ?_|refine wH ?_|refine wI ?_|refine wJ ?_|refine wC ?_|refine wD ?_|refine wE ?_|refine wF ?_|refine wG ?_|refine wK ?_|refine wL ?_|refine wM ?_|refine wN ?_|refine wO ?_|refine wP ?_|refine wQ ?_|refine wR ?_|refine wS ?_|refine wT ?_|refine wU ?_|refine wV ?_|refine wW ?_|refine wX ?_)
            refine Ops.idxI pl rfl (by omega) (by omega) (by kernel_rfl) (by kernel_rfl) fun pz x hx => ?_
            obtain ⟨e0, e1, e2⟩ := q3 i a x ha' hx
            repeat' (first|refine wA ?_|refine wB ?_|refine wH ?_|refine wI ?_|refine wJ ?_|refine wC ?_|refine wD ?_|refine wE ?_|refine wF ?_|refine wG ?_|refine wK ?_|refine wL ?_|refine wM ?_|refine wN ?_|refine wO ?_|refine wP ?_|refine wQ ?_|refine wR ?_|refine wS ?_|refine wT ?_|refine wU ?_|refine wV ?_|refine wW ?_|refine wX ?_)
            refine Ops.cmp rfl rfl rfl (fun h2 => ?_) (fun h2 => ?_)
            · exact absurd (e1.2 h2) h1
            · refine Ops.bne_same rfl rfl (by kernel_rfl) ?_
              repeat' (first|refine wA ?_|refine wB ?_|refine wH ?_|refine wI ?_|refine wJ ?_|refine wC ?_|refine wD ?_|refine wE ?_|refine wF ?_|refine wG ?_|refine wK ?_|refine wL ?_|refine wM ?_|refine wN ?_|refine wO ?_|refine wP ?_|refine wQ ?_|refine wR ?_|refine wS ?_|refine wT ?_|refine wU ?_|refine wV ?_|refine wW ?_|refine wX ?_)
              refine Ops.unS rfl rfl rfl ?_
              refine Ops.idxI pl rfl (by omega) (by omega) (by kernel_rfl) (by kernel_rfl) fun pz x2 hx2 => ?_
              have : x2 = x := by rw [hx] at hx2; exact (Option.some.inj hx2).symm
              subst this
              repeat' (first|refine wA ?_|refine wB ?_|refine wH ?_|refine wI ?_|refine wJ ?_|refine wC ?_|refine wD ?_|refine wE ?_|refine wF ?_|refine wG ?_|refine wK ?_|refine wL ?_|refine wM ?_|refine wN ?_|refine wO ?_|refine wP ?_|refine wQ ?_|refine wR ?_|refine wS ?_|refine wT ?_|refine wU ?_|refine wV ?_|refine wW ?_|refine wX ?_)
              refine Ops.cmp rfl rfl rfl (fun h3 => ?_) (fun h3 => ?_)
              · exact absurd h3 h2
              · repeat' (first|refine wA ?_|refine wB ?_|refine wH ?_|refine wI ?_|refine wJ ?_|refine wC ?_|refine wD ?_|refine wE ?_|refine wF ?_|refine wG ?_|refine wK ?_|refine wL ?_|refine wM ?_|refine wN ?_|refine wO ?_|refine wP ?_|refine wQ ?_|refine wR ?_|refine wS ?_|refine wT ?_|refine wU ?_|refine wV ?_|refine wW ?_|refine wX ?_)
                refine ⟨i + 1, by dsimp only; omega, rfl, rfl, by dsimp only; exact (by repeat (first | exact Wk.jk | refine Wk.up rfl ?_)), ?_⟩
                omega
      · repeat' (first|refine wA ?_|refine wB ?_|refine wH ?_|refine wI ?_|refine wJ ?_|refine wC ?_|refine wD ?_|refine wE ?_|refine wF ?_|refine wG ?_|refine wK ?_|refine wL ?_|refine wM ?_|refine wN ?_|refine wO ?_|refine wP ?_|refine wQ ?_|refine wR ?_|refine wS ?_|refine wT ?_|refine wU ?_|refine wV ?_|refine wW ?_|refine wX ?_)
        refine Ops.cmp rfl rfl rfl (fun h1 => ?_) (fun h1 => ?_)
        · repeat' (first|refine wA ?_|refine wB ?_|refine wH ?_|refine wI ?_|refine wJ ?_|refine wC ?_|refine wD ?_|refine wE ?_|refine wF ?_|refine wG ?_|refine wK ?_|refine wL ?_|refine wM ?_|refine wN ?_|refine wO ?_|refine wP ?_|refine wQ ?_|refine wR ?_|refine wS ?_|refine wT ?_|refine wU ?_|refine wV ?_|refine wW ?_|refine wX ?_)
          refine Run.ret ⟨.inl rfl, ResK.tmp rfl (by conv => lhs; whnf) (ResK.nil ?_)⟩
          rfl
        · omega

end Go.Proofs.Ytefmjpbmdoebaaa

/- The set of the patterns of tuples, by the program and by the reference. -/
set_option linter.unusedVariables false
namespace Go.Proofs.Ytefmjpbmdoebaaa
open Go Go.RowKit

theorem patSt_pat {cs : List Int} (hcs : cs.Nodup) : ∀ (n : Nat) (t : List Int), t.length = n → isPat cs.length (patSt cs t).2 ∧ topOf cs.length (patSt cs t).2 = (patSt cs t).1.length := by
  intro n
  induction n with
  | zero => intro t h; rw [List.length_eq_zero_iff.1 h]; simp [patSt, isPat, topOf]
  | succ n ih =>
    intro t h
    rcases List.eq_nil_or_concat t with rfl | ⟨q, x, rfl⟩
    · simp at h
    · rw [List.concat_eq_append] at h ⊢
      obtain ⟨i1, i2⟩ := ih q (by simpa using h)
      obtain ⟨ext, j1, j2, j3, j4⟩ := patSt_inv hcs _ q rfl
      rw [patSt_snoc]
      unfold patStep
      rw [lastIdx_findI j2]
      have hlt := findI_lt (p := fun y => x == y) (l := (patSt cs q).1)
      split
      · dsimp only
        rw [isPat_snoc, topOf_snoc, i2]
        exact ⟨⟨i1, by omega, by omega⟩, by simp; omega⟩
      · dsimp only
        rw [isPat_snoc, topOf_snoc, i2]
        exact ⟨⟨i1, by omega, by omega⟩, by omega⟩

theorem pat_mem {cs t : List Int} (hcs : cs.Nodup) : (patSt cs t).2 ∈ pats cs.length t.length :=
  (pats_iff (by omega)).2 ⟨(patSt_len cs t).2, (patSt_pat hcs _ t rfl).1⟩

/-- May a set be made of these tuples? -/
def setOfP (cs : List Int) (w : Int) (ts : List (List Int)) : Prop := isConst cs ∧ (0 ≤ w ∧ w ≤ 4) ∧ ∀ t ∈ ts, isTup t ∧ (t.length : Int) = w
def noOS : OS := ⟨0, [], []⟩
/-- The set of the patterns of tuples. -/
noncomputable def setOfR (cs : List Int) (w : Int) (ts : List (List Int)) : OS := if dec (setOfP cs w ts) = true then ⟨w, cs, thoseL cs.length w.toNat (ts.map fun t => (patSt cs t).2)⟩ else noOS
theorem setOfR_yes {cs : List Int} {w : Int} {ts : List (List Int)} (h : setOfP cs w ts) : setOfR cs w ts = ⟨w, cs, thoseL cs.length w.toNat (ts.map fun t => (patSt cs t).2)⟩ := by unfold setOfR; rw [dec_t h]; rfl
theorem setOfR_no {cs : List Int} {w : Int} {ts : List (List Int)} (h : ¬ setOfP cs w ts) : setOfR cs w ts = noOS := by unfold setOfR; rw [dec_f h]; rfl

theorem OO.none {k : Nat} {H : Hp} : OO k H (.agg #[.int .i64 0, nilS, nilS]) noOS [] := ⟨nilS, nilS, rfl, Ac.nil, OAc.nil, rfl, Ap.nil_l, fun _ h => by cases h⟩
theorem cOS_none {H : Hp} : cOS.ok H (cellsOf (.agg #[.int .i64 0, nilS, nilS])) noOS := ⟨nilS, nilS, rfl, Sl.nil, Sl.nil⟩

theorem SetOf_ok {H : Hp} {u v : Value} {cs : List Int} {ts : List (List Int)} {w : Int} (hu : Sl cI H u cs) (hv : Sl (cL cI) H v ts) (hl : ts.length ≤ 1048576) :
    CallK Try.prog 46 [u, .int .i64 w, v] H (fun r H' => Calm H H' ∧ ∃ x ms, r = .tuple #[x, .bool (dec (setOfP cs w ts))] ∧ OO H.nxt H' x (setOfR cs w ts) ms) := by
  refine (CallK.enter Try.func46 rfl rfl Try.ntmps46 Try.results46 rfl ?_)
  repeat' (first|refine wA ?_|refine wB ?_|refine wH ?_|refine wI ?_|refine wJ ?_|refine wC ?_|refine wD ?_|refine wE ?_|refine wF ?_|refine wG ?_|refine wK ?_|refine wL ?_|refine wM ?_|refine wN ?_|refine wO ?_|refine wP ?_|refine wQ ?_|refine wR ?_|refine wS ?_|refine wT ?_|refine wU ?_|refine wV ?_|refine wW ?_|refine wX ?_)
  refine Ops.alloc H.nxt (Nat.le_refl _) (z0 := .agg #[.int .i64 0, nilS, nilS]) (by kernel_rfl) (by rfl) (by decide) fun p6 H1 o1 c1 ap1 => ?_
  obtain ⟨r6, hr6, t6⟩ := o1.rt
  have bad : ∀ (n : Nat) (T : Nat → Value) (H2 : Hp), ¬ setOfP cs w ts → Calm H1 H2 → (Calm H H2 ∧ ∃ x ms, Value.tuple #[.agg #[.int .i64 0, nilS, nilS], .bool false] = .tuple #[x, .bool (dec (setOfP cs w ts))] ∧ OO H.nxt H2 x (setOfR cs w ts) ms) := fun n T H2 hn hc => ⟨c1.trans hc, _, [], by rw [dec_f hn], by rw [setOfR_no hn]; exact OO.none⟩
  have fin : ∀ (H2 H3 : Hp), ¬ setOfP cs w ts → Calm H1 H2 → Mod r6 H2 H3 → (Calm H H3 ∧ ∃ x ms, Value.tuple #[.agg #[.int .i64 0, nilS, nilS], .bool false] = .tuple #[x, .bool (dec (setOfP cs w ts))] ∧ OO H.nxt H3 x (setOfR cs w ts) ms) := fun H2 H3 hn hc hm => ⟨hm.calm (c1.trans hc) hr6, _, [], by rw [dec_f hn], by rw [setOfR_no hn]; exact OO.none⟩
  clear bad
  have u1 := hu.calm c1
  repeat' (first|refine wA ?_|refine wB ?_|refine wH ?_|refine wI ?_|refine wJ ?_|refine wC ?_|refine wD ?_|refine wE ?_|refine wF ?_|refine wG ?_|refine wK ?_|refine wL ?_|refine wM ?_|refine wN ?_|refine wO ?_|refine wP ?_|refine wQ ?_|refine wR ?_|refine wS ?_|refine wT ?_|refine wU ?_|refine wV ?_|refine wW ?_|refine wX ?_)
  refine Ops.callB (areConstants_ok u1) (fun hc1 => ?_) (fun hc1 => ?_)
  · have hc1 := of_dec_t hc1
    repeat' (first|refine wA ?_|refine wB ?_|refine wH ?_|refine wI ?_|refine wJ ?_|refine wC ?_|refine wD ?_|refine wE ?_|refine wF ?_|refine wG ?_|refine wK ?_|refine wL ?_|refine wM ?_|refine wN ?_|refine wO ?_|refine wP ?_|refine wQ ?_|refine wR ?_|refine wS ?_|refine wT ?_|refine wU ?_|refine wV ?_|refine wW ?_|refine wX ?_)
    refine Ops.cmp rfl rfl rfl (fun hc2 => ?_) (fun hc2 => ?_)
    · repeat' (first|refine wA ?_|refine wB ?_|refine wH ?_|refine wI ?_|refine wJ ?_|refine wC ?_|refine wD ?_|refine wE ?_|refine wF ?_|refine wG ?_|refine wK ?_|refine wL ?_|refine wM ?_|refine wN ?_|refine wO ?_|refine wP ?_|refine wQ ?_|refine wR ?_|refine wS ?_|refine wT ?_|refine wU ?_|refine wV ?_|refine wW ?_|refine wX ?_)
      refine Ops.build (pl := [(0, 1), (1, 1), (2, 1)]) (zs := [.int .i64 0, .slice none 0 0, .slice none 0 0]) (cs := [.int .i64 0, nilS, nilS]) (by kernel_rfl) (by simp) rfl ?_
      refine Ops.storeS (ds := [.int .i64 0, nilS, nilS]) o1 t6 rfl (by kernel_rfl) rfl rfl fun H2 m2 o2 => ?_
      repeat' (first|refine wA ?_|refine wB ?_|refine wH ?_|refine wI ?_|refine wJ ?_|refine wC ?_|refine wD ?_|refine wE ?_|refine wF ?_|refine wG ?_|refine wK ?_|refine wL ?_|refine wM ?_|refine wN ?_|refine wO ?_|refine wP ?_|refine wQ ?_|refine wR ?_|refine wS ?_|refine wT ?_|refine wU ?_|refine wV ?_|refine wW ?_|refine wX ?_)
      refine Run.ret ⟨.inl rfl, ResK.cells rfl o2.pt (by kernel_rfl) (by kernel_rfl) (ResK.tmp rfl (by conv => lhs; whnf) (ResK.nil ?_))⟩
      exact fin H1 H2 (fun h => by have := h.2.1.1; omega) (Calm.refl _) m2
    · repeat' (first|refine wA ?_|refine wB ?_|refine wH ?_|refine wI ?_|refine wJ ?_|refine wC ?_|refine wD ?_|refine wE ?_|refine wF ?_|refine wG ?_|refine wK ?_|refine wL ?_|refine wM ?_|refine wN ?_|refine wO ?_|refine wP ?_|refine wQ ?_|refine wR ?_|refine wS ?_|refine wT ?_|refine wU ?_|refine wV ?_|refine wW ?_|refine wX ?_)
      refine Ops.cmp rfl rfl rfl (fun hc3 => ?_) (fun hc3 => ?_)
      · repeat' (first|refine wA ?_|refine wB ?_|refine wH ?_|refine wI ?_|refine wJ ?_|refine wC ?_|refine wD ?_|refine wE ?_|refine wF ?_|refine wG ?_|refine wK ?_|refine wL ?_|refine wM ?_|refine wN ?_|refine wO ?_|refine wP ?_|refine wQ ?_|refine wR ?_|refine wS ?_|refine wT ?_|refine wU ?_|refine wV ?_|refine wW ?_|refine wX ?_)
        refine Ops.build (pl := [(0, 1), (1, 1), (2, 1)]) (zs := [.int .i64 0, .slice none 0 0, .slice none 0 0]) (cs := [.int .i64 0, nilS, nilS]) (by kernel_rfl) (by simp) rfl ?_
        refine Ops.storeS (ds := [.int .i64 0, nilS, nilS]) o1 t6 rfl (by kernel_rfl) rfl rfl fun H2 m2 o2 => ?_
        repeat' (first|refine wA ?_|refine wB ?_|refine wH ?_|refine wI ?_|refine wJ ?_|refine wC ?_|refine wD ?_|refine wE ?_|refine wF ?_|refine wG ?_|refine wK ?_|refine wL ?_|refine wM ?_|refine wN ?_|refine wO ?_|refine wP ?_|refine wQ ?_|refine wR ?_|refine wS ?_|refine wT ?_|refine wU ?_|refine wV ?_|refine wW ?_|refine wX ?_)
        refine Run.ret ⟨.inl rfl, ResK.cells rfl o2.pt (by kernel_rfl) (by kernel_rfl) (ResK.tmp rfl (by conv => lhs; whnf) (ResK.nil ?_))⟩
        exact fin H1 H2 (fun h => by have := h.2.1.2; omega) (Calm.refl _) m2
      · have v1 := hv.calm c1
        repeat' (first|refine wA ?_|refine wB ?_|refine wH ?_|refine wI ?_|refine wJ ?_|refine wC ?_|refine wD ?_|refine wE ?_|refine wF ?_|refine wG ?_|refine wK ?_|refine wL ?_|refine wM ?_|refine wN ?_|refine wO ?_|refine wP ?_|refine wQ ?_|refine wR ?_|refine wS ?_|refine wT ?_|refine wU ?_|refine wV ?_|refine wW ?_|refine wX ?_)
        refine Run.loopW (fun (x : Nat × Value × Hp × List LF) => ts.length - x.1) (fun x => up (up (up (up (up (up (up (up jk 0 u) 1 (.int .i64 w)) 6 p6) 7 (.bool false)) 8 x.2.1) 23 v) 24 (.int .i64 ts.length)) 25 (.int .i64 (x.1 : Int))) (fun x => x.2.2.1)
          (fun x => x.1 ≤ ts.length ∧ Calm H1 x.2.2.1 ∧ OAc cI 3 24 H1.nxt x.2.2.1 x.2.1 x.2.2.2 ∧ x.2.2.2.map (·.1) = (ts.take x.1).map (fun t => (patSt cs t).2) ∧ ∀ t ∈ ts.take x.1, isTup t ∧ (t.length : Int) = w) (0, nilS, H1, []) rfl (by repeat (first | exact Wk.jk | refine Wk.up rfl ?_)) ⟨by dsimp only; omega, Calm.refl _, OAc.nil, by simp, by simp⟩ ?_
        rintro ⟨i, v8, H2, ls⟩ ⟨hi, c2, a2, hls, hok⟩
        dsimp only at hi c2 a2 hls hok
        dsimp only
        have v2 := v1.calm c2
        have hlen : ls.length = i := by rw [← List.length_map (f := fun (x : LF) => x.1), hls, List.length_map, List.length_take]; omega
        repeat' (first|refine wA ?_|refine wB ?_|refine wH ?_|refine wI ?_|refine wJ ?_|refine wC ?_|refine wD ?_|refine wE ?_|refine wF ?_|refine wG ?_|refine wK ?_|refine wL ?_|refine wM ?_|refine wN ?_|refine wO ?_|refine wP ?_|refine wQ ?_|refine wR ?_|refine wS ?_|refine wT ?_|refine wU ?_|refine wV ?_|refine wW ?_|refine wX ?_)
        refine Ops.cmp rfl rfl rfl (fun hc => ?_) (fun hc => ?_)
        · repeat' (first|refine wA ?_|refine wB ?_|refine wH ?_|refine wI ?_|refine wJ ?_|refine wC ?_|refine wD ?_|refine wE ?_|refine wF ?_|refine wG ?_|refine wK ?_|refine wL ?_|refine wM ?_|refine wN ?_|refine wO ?_|refine wP ?_|refine wQ ?_|refine wR ?_|refine wS ?_|refine wT ?_|refine wU ?_|refine wV ?_|refine wW ?_|refine wX ?_)
          refine Ops.idx v2 rfl rfl (by omega) (by omega) (by kernel_rfl) (by kernel_rfl) fun pz u a ha hu => ?_
          have ha' : ts[i]? = some a := ha
          have hua := cL_at hu
          have hmem := List.mem_of_getElem? ha'
          have o2 := o1.calm c2
          have t2 : Rt H2 p6 r6 := t6.calm c2
          repeat' (first|refine wA ?_|refine wB ?_|refine wH ?_|refine wI ?_|refine wJ ?_|refine wC ?_|refine wD ?_|refine wE ?_|refine wF ?_|refine wG ?_|refine wK ?_|refine wL ?_|refine wM ?_|refine wN ?_|refine wO ?_|refine wP ?_|refine wQ ?_|refine wR ?_|refine wS ?_|refine wT ?_|refine wU ?_|refine wV ?_|refine wW ?_|refine wX ?_)
          refine Ops.cmpn rfl rfl (fun hc4 => ?_) (fun hc4 => ?_)
          · repeat' (first|refine wA ?_|refine wB ?_|refine wH ?_|refine wI ?_|refine wJ ?_|refine wC ?_|refine wD ?_|refine wE ?_|refine wF ?_|refine wG ?_|refine wK ?_|refine wL ?_|refine wM ?_|refine wN ?_|refine wO ?_|refine wP ?_|refine wQ ?_|refine wR ?_|refine wS ?_|refine wT ?_|refine wU ?_|refine wV ?_|refine wW ?_|refine wX ?_)
            refine Ops.build (pl := [(0, 1), (1, 1), (2, 1)]) (zs := [.int .i64 0, .slice none 0 0, .slice none 0 0]) (cs := [.int .i64 0, nilS, nilS]) (by kernel_rfl) (by simp) rfl ?_
            refine Ops.storeS (ds := [.int .i64 0, nilS, nilS]) o2 t2 rfl (by kernel_rfl) rfl rfl fun H3 m3 o3 => ?_
            repeat' (first|refine wA ?_|refine wB ?_|refine wH ?_|refine wI ?_|refine wJ ?_|refine wC ?_|refine wD ?_|refine wE ?_|refine wF ?_|refine wG ?_|refine wK ?_|refine wL ?_|refine wM ?_|refine wN ?_|refine wO ?_|refine wP ?_|refine wQ ?_|refine wR ?_|refine wS ?_|refine wT ?_|refine wU ?_|refine wV ?_|refine wW ?_|refine wX ?_)
            refine Run.ret ⟨.inl rfl, ResK.cells rfl o3.pt (by kernel_rfl) (by kernel_rfl) (ResK.tmp rfl (by conv => lhs; whnf) (ResK.nil ?_))⟩
            exact fin H2 H3 (fun h => hc4 (h.2.2 a hmem).2) c2 m3
          · repeat' (first|refine wA ?_|refine wB ?_|refine wH ?_|refine wI ?_|refine wJ ?_|refine wC ?_|refine wD ?_|refine wE ?_|refine wF ?_|refine wG ?_|refine wK ?_|refine wL ?_|refine wM ?_|refine wN ?_|refine wO ?_|refine wP ?_|refine wQ ?_|refine wR ?_|refine wS ?_|refine wT ?_|refine wU ?_|refine wV ?_|refine wW ?_|refine wX ?_)
            refine Ops.callB (isTuple_ok hua) (fun hc5 => ?_) (fun hc5 => ?_)
            · have hc5 := of_dec_t hc5
              have := hc1.1
              have := hc5.1
              repeat' (first|refine wA ?_|refine wB ?_|refine wH ?_|refine wI ?_|refine wJ ?_|refine wC ?_|refine wD ?_|refine wE ?_|refine wF ?_|refine wG ?_|refine wK ?_|refine wL ?_|refine wM ?_|refine wN ?_|refine wO ?_|refine wP ?_|refine wQ ?_|refine wR ?_|refine wS ?_|refine wT ?_|refine wU ?_|refine wV ?_|refine wW ?_|refine wX ?_)
              refine Ops.call (pattern_ok (u1.calm c2) hua (const_nodup hc1) (by omega)) (fun _ _ h _ => h.1.ge') fun r3 H3 => ?_
              rintro ⟨c3, a3⟩
              obtain ⟨F, f1, f2, f3, f4⟩ := a3.rw_
              have a2' := a2.calm c3
              have c3' := c2.trans c3
              refine Ops.push (a := ((patSt cs a).2, F)) (rdF rdI) a2'.ac (cF_of f1) (by simp) c3'.1 (by kernel_rfl) (by kernel_rfl) (by kernel_rfl) (by omega) (by decide) fun pz v8' H4 a4 g4 => ?_
              have o4 : OAc cI 3 24 H1.nxt H4 v8' (ls ++ [((patSt cs a).2, F)]) := a2'.grow a4 g4 (by rw [fps_one]; exact f2.older c2.1) (by rw [fps_one]; exact f3) (by rw [fps_one]; exact fresh_not a2.own (Nat.le_refl _) f2) (by rw [fps_one]; exact fresh_ne a2.ac.live (Nat.le_refl _) f2)
              repeat' (first|refine wA ?_|refine wB ?_|refine wH ?_|refine wI ?_|refine wJ ?_|refine wC ?_|refine wD ?_|refine wE ?_|refine wF ?_|refine wG ?_|refine wK ?_|refine wL ?_|refine wM ?_|refine wN ?_|refine wO ?_|refine wP ?_|refine wQ ?_|refine wR ?_|refine wS ?_|refine wT ?_|refine wU ?_|refine wV ?_|refine wW ?_|refine wX ?_)
              refine ⟨(i + 1, v8', H4, ls ++ [((patSt cs a).2, F)]), by dsimp only; omega, rfl, rfl, by dsimp only; exact (by repeat (first | exact Wk.jk | refine Wk.up rfl ?_)), ?_⟩
              refine ⟨by dsimp only; omega, g4.calm H1 (Nat.le_refl _) c3', o4, ?_, fun t ht => ?_⟩
              · dsimp only
                rw [map_snoc ha', List.map_append, hls]; rfl
              · dsimp only at ht
                rw [take_snoc ha'] at ht
                rcases List.mem_append.1 ht with ht | ht
                · exact hok t ht
                · obtain rfl := List.mem_singleton.1 ht; exact ⟨hc5, hc4⟩
            · repeat' (first|refine wA ?_|refine wB ?_|refine wH ?_|refine wI ?_|refine wJ ?_|refine wC ?_|refine wD ?_|refine wE ?_|refine wF ?_|refine wG ?_|refine wK ?_|refine wL ?_|refine wM ?_|refine wN ?_|refine wO ?_|refine wP ?_|refine wQ ?_|refine wR ?_|refine wS ?_|refine wT ?_|refine wU ?_|refine wV ?_|refine wW ?_|refine wX ?_)
              refine Ops.build (pl := [(0, 1), (1, 1), (2, 1)]) (zs := [.int .i64 0, .slice none 0 0, .slice none 0 0]) (cs := [.int .i64 0, nilS, nilS]) (by kernel_rfl) (by simp) rfl ?_
              refine Ops.storeS (ds := [.int .i64 0, nilS, nilS]) o2 t2 rfl (by kernel_rfl) rfl rfl fun H3 m3 o3 => ?_
              repeat' (first|refine wA ?_|refine wB ?_|refine wH ?_|refine wI ?_|refine wJ ?_|refine wC ?_|refine wD ?_|refine wE ?_|refine wF ?_|refine wG ?_|refine wK ?_|refine wL ?_|refine wM ?_|refine wN ?_|refine wO ?_|refine wP ?_|refine wQ ?_|refine wR ?_|refine wS ?_|refine wT ?_|refine wU ?_|refine wV ?_|refine wW ?_|refine wX ?_)
              refine Run.ret ⟨.inl rfl, ResK.cells rfl o3.pt (by kernel_rfl) (by kernel_rfl) (ResK.tmp rfl (by conv => lhs; whnf) (ResK.nil ?_))⟩
              exact fin H2 H3 (fun h => of_dec_f hc5 (h.2.2 a hmem).1) c2 m3
        · rw [take_end (by omega)] at hls hok
          have hP : setOfP cs w ts := ⟨hc1, ⟨by omega, by omega⟩, hok⟩
          have := hc1.1
          repeat' (first|refine wA ?_|refine wB ?_|refine wH ?_|refine wI ?_|refine wJ ?_|refine wC ?_|refine wD ?_|refine wE ?_|refine wF ?_|refine wG ?_|refine wK ?_|refine wL ?_|refine wM ?_|refine wN ?_|refine wO ?_|refine wP ?_|refine wQ ?_|refine wR ?_|refine wS ?_|refine wT ?_|refine wU ?_|refine wV ?_|refine wW ?_|refine wX ?_)
          refine Ops.call (setOf_ok (k := H1.nxt) (u1.calm c2) (by omega) a2.ac.sl a2.own a2.nd (by omega) c2.1) (fun _ _ h _ => h.1.ge') fun r3 H3 => ?_
          rintro ⟨c3, ms, oo3, asc, hmem⟩
          have o3 := o1.calm (c2.trans c3)
          have t3 : Rt H3 p6 r6 := t6.calm (c2.trans c3)
          obtain ⟨x1, x2, rfl, b1, b2, b3, b4, b5⟩ := id oo3
          refine Ops.storeS (ds := [.int .i64 w, x1, x2]) o3 t3 rfl (by kernel_rfl) rfl (cOS.one oo3.os) fun H4 m4 o4 => ?_
          repeat' (first|refine wA ?_|refine wB ?_|refine wH ?_|refine wI ?_|refine wJ ?_|refine wC ?_|refine wD ?_|refine wE ?_|refine wF ?_|refine wG ?_|refine wK ?_|refine wL ?_|refine wM ?_|refine wN ?_|refine wO ?_|refine wP ?_|refine wQ ?_|refine wR ?_|refine wS ?_|refine wT ?_|refine wU ?_|refine wV ?_|refine wW ?_|refine wX ?_)
          refine Run.ret ⟨.inl rfl, ResK.cells rfl o4.pt (by kernel_rfl) (by kernel_rfl) (ResK.tmp rfl (by conv => lhs; whnf) (ResK.nil ?_))⟩
          have p16 : Ap x1 p6 := fun i h1 h2 => (b1.ap (H0 := H1) (Nat.le_refl _) o1.live) i h2 h1
          have p26 : Ap x2 p6 := fun i h1 h2 => (b2.ac.ap (H0 := H1) (Nat.le_refl _) o1.live) i h2 h1
          have f6 : ∀ id, idOf p6 = some id → id ∉ fps ms := fresh_ne (H0 := H1) o1.live (Nat.le_refl _) b2.own
          have hthose : ms.map (·.1) = thoseL (cs.length : Int) w.toNat (ts.map fun t => (patSt cs t).2) := by
            refine asc_unique asc (thoseL_asc (by omega)) fun x => ?_
            rw [hmem, hls, thoseL_mem]
            refine ⟨fun hx => ⟨?_, hx⟩, fun h => h.2⟩
            obtain ⟨t, ht, rfl⟩ := List.mem_map.1 hx
            have := pat_mem (cs := cs) (t := t) (const_nodup hc1)
            have := (hok t ht).2
            have e : t.length = w.toNat := by omega
            rw [← e]; assumption
          refine ⟨m4.calm (c1.trans (c2.trans c3)) hr6, .agg #[.int .i64 w, x1, x2], ms, by rw [dec_t hP]; rfl, ?_⟩
          rw [setOfR_yes hP]
          exact ⟨x1, x2, rfl, (b1.mod t3 p16 m4 (fun _ _ _ h => h)).older c1.1, (b2.modS' (fun h => h) t3 m4 p26 f6).older c1.1, hthose, b4, b5⟩
  · repeat' (first|refine wA ?_|refine wB ?_|refine wH ?_|refine wI ?_|refine wJ ?_|refine wC ?_|refine wD ?_|refine wE ?_|refine wF ?_|refine wG ?_|refine wK ?_|refine wL ?_|refine wM ?_|refine wN ?_|refine wO ?_|refine wP ?_|refine wQ ?_|refine wR ?_|refine wS ?_|refine wT ?_|refine wU ?_|refine wV ?_|refine wW ?_|refine wX ?_)
    refine Ops.build (pl := [(0, 1), (1, 1), (2, 1)]) (zs := [.int .i64 0, .slice none 0 0, .slice none 0 0]) (cs := [.int .i64 0, nilS, nilS]) (by kernel_rfl) (by simp) rfl ?_
    refine Ops.storeS (ds := [.int .i64 0, nilS, nilS]) o1 t6 rfl (by kernel_rfl) rfl rfl fun H2 m2 o2 => ?_
    repeat' (first|refine wA ?_|refine wB ?_|refine wH ?_|refine wI ?_|refine wJ ?_|refine wC ?_|refine wD ?_|refine wE ?_|refine wF ?_|refine wG ?_|refine wK ?_|refine wL ?_|refine wM ?_|refine wN ?_|refine wO ?_|refine wP ?_|refine wQ ?_|refine wR ?_|refine wS ?_|refine wT ?_|refine wU ?_|refine wV ?_|refine wW ?_|refine wX ?_)
    refine Run.ret ⟨.inl rfl, ResK.cells rfl o2.pt (by kernel_rfl) (by kernel_rfl) (ResK.tmp rfl (by conv => lhs; whnf) (ResK.nil ?_))⟩
    exact fin H1 H2 (fun h => of_dec_f hc1 h.1) (Calm.refl _) m2

theorem specSetOf_ok {H : Hp} {u v : Value} {cs : List Int} {ts : List (List Int)} {w : Int} (hu : Sl cI H u cs) (hv : Sl (cL cI) H v ts) (hl : ts.length ≤ 1048576) (hcl : cs.length ≤ 1048576) (htl : ∀ t ∈ ts, t.length ≤ 1048576) :
    CallK Try.prog 44 [u, .int .i64 w, v] H (fun r H' => Calm H H' ∧ ∃ x, r = .tuple #[x, .bool (dec (setOfP cs w ts))] ∧ cOS.ok H' (cellsOf x) (setOfR cs w ts)) := by
  refine (CallK.enter Try.func44 rfl rfl Try.ntmps44 Try.results44 rfl ?_)
  repeat' (first|refine wA ?_|refine wB ?_|refine wH ?_|refine wI ?_|refine wJ ?_|refine wC ?_|refine wD ?_|refine wE ?_|refine wF ?_|refine wG ?_|refine wK ?_|refine wL ?_|refine wM ?_|refine wN ?_|refine wO ?_|refine wP ?_|refine wQ ?_|refine wR ?_|refine wS ?_|refine wT ?_|refine wU ?_|refine wV ?_|refine wW ?_|refine wX ?_)
  refine Ops.alloc H.nxt (Nat.le_refl _) (z0 := .agg #[.int .i64 0, nilS, nilS]) (by kernel_rfl) (by rfl) (by decide) fun p6 H1 o1 c1 ap1 => ?_
  obtain ⟨r6, hr6, t6⟩ := o1.rt
  have u1 := hu.calm c1
  have v1 := hv.calm c1
  refine Ops.assign (by conv => lhs; whnf) ?_
  refine Ops.nil ?_
  refine Run.seq ?_
  refine Run.join (β := Unit) (fun _ => up (up (up (up (up (up jk 0 u) 1 (.int .i64 w)) 2 v) 6 p6) 7 (.bool false)) 8 (.bool (dec (isConst cs ∧ 0 ≤ w ∧ w ≤ 4)))) (fun _ => H1) (fun _ => True) ?_ ?_
  · repeat' (first|refine wA ?_|refine wB ?_|refine wH ?_|refine wI ?_|refine wJ ?_|refine wC ?_|refine wD ?_|refine wE ?_|refine wF ?_|refine wG ?_|refine wK ?_|refine wL ?_|refine wM ?_|refine wN ?_|refine wO ?_|refine wP ?_|refine wQ ?_|refine wR ?_|refine wS ?_|refine wT ?_|refine wU ?_|refine wV ?_|refine wW ?_|refine wX ?_)
    refine Ops.callB (l6Constants_ok u1) (fun hc1 => ?_) (fun hc1 => ?_)
    · have hc1 := of_dec_t hc1
      repeat' (first|refine wA ?_|refine wB ?_|refine wH ?_|refine wI ?_|refine wJ ?_|refine wC ?_|refine wD ?_|refine wE ?_|refine wF ?_|refine wG ?_|refine wK ?_|refine wL ?_|refine wM ?_|refine wN ?_|refine wO ?_|refine wP ?_|refine wQ ?_|refine wR ?_|refine wS ?_|refine wT ?_|refine wU ?_|refine wV ?_|refine wW ?_|refine wX ?_)
      refine Ops.callB l1In_ok (fun hc2 => ?_) (fun hc2 => ?_)
      · have hc2 := of_decide_eq_true hc2
        repeat' (first|refine wA ?_|refine wB ?_|refine wH ?_|refine wI ?_|refine wJ ?_|refine wC ?_|refine wD ?_|refine wE ?_|refine wF ?_|refine wG ?_|refine wK ?_|refine wL ?_|refine wM ?_|refine wN ?_|refine wO ?_|refine wP ?_|refine wQ ?_|refine wR ?_|refine wS ?_|refine wT ?_|refine wU ?_|refine wV ?_|refine wW ?_|refine wX ?_)
        rw [dec_t ⟨hc1, hc2⟩]
        refine ⟨(), rfl, rfl, by dsimp only; exact (by repeat (first | exact Wk.jk | refine Wk.up rfl ?_)), ?_⟩
        trivial
      · have hc2 := of_decide_eq_false hc2
        repeat' (first|refine wA ?_|refine wB ?_|refine wH ?_|refine wI ?_|refine wJ ?_|refine wC ?_|refine wD ?_|refine wE ?_|refine wF ?_|refine wG ?_|refine wK ?_|refine wL ?_|refine wM ?_|refine wN ?_|refine wO ?_|refine wP ?_|refine wQ ?_|refine wR ?_|refine wS ?_|refine wT ?_|refine wU ?_|refine wV ?_|refine wW ?_|refine wX ?_)
        rw [dec_f (fun h => hc2 h.2)]
        refine ⟨(), rfl, rfl, by dsimp only; exact (by repeat (first | exact Wk.jk | refine Wk.up rfl ?_)), ?_⟩
        trivial
    · have hc1 := of_dec_f hc1
      repeat' (first|refine wA ?_|refine wB ?_|refine wH ?_|refine wI ?_|refine wJ ?_|refine wC ?_|refine wD ?_|refine wE ?_|refine wF ?_|refine wG ?_|refine wK ?_|refine wL ?_|refine wM ?_|refine wN ?_|refine wO ?_|refine wP ?_|refine wQ ?_|refine wR ?_|refine wS ?_|refine wT ?_|refine wU ?_|refine wV ?_|refine wW ?_|refine wX ?_)
      rw [dec_f (fun h => hc1 h.1)]
      refine ⟨(), rfl, rfl, by dsimp only; exact (by repeat (first | exact Wk.jk | refine Wk.up rfl ?_)), ?_⟩
      trivial
  · rintro ⟨⟩ _
    repeat' (first|refine wA ?_|refine wB ?_|refine wH ?_|refine wI ?_|refine wJ ?_|refine wC ?_|refine wD ?_|refine wE ?_|refine wF ?_|refine wG ?_|refine wK ?_|refine wL ?_|refine wM ?_|refine wN ?_|refine wO ?_|refine wP ?_|refine wQ ?_|refine wR ?_|refine wS ?_|refine wT ?_|refine wU ?_|refine wV ?_|refine wW ?_|refine wX ?_)
    refine Ops.lit0 (cL cI) 24 H1.nxt (by kernel_rfl) (by kernel_rfl) (Nat.le_refl _) fun v9 H2 a2 c2 p2 => ?_
    have v2 := v1.calm c2
    repeat' (first|refine wA ?_|refine wB ?_|refine wH ?_|refine wI ?_|refine wJ ?_|refine wC ?_|refine wD ?_|refine wE ?_|refine wF ?_|refine wG ?_|refine wK ?_|refine wL ?_|refine wM ?_|refine wN ?_|refine wO ?_|refine wP ?_|refine wQ ?_|refine wR ?_|refine wS ?_|refine wT ?_|refine wU ?_|refine wV ?_|refine wW ?_|refine wX ?_)
    refine Run.loopW (fun (x : Nat × Value × Hp × Bool) => ts.length - x.1) (fun x => up (up (up (up (up (up (up (up (up jk 0 u) 1 (.int .i64 w)) 6 p6) 7 (.bool false)) 8 (.bool x.2.2.2)) 9 x.2.1) 19 v) 20 (.int .i64 ts.length)) 21 (.int .i64 (x.1 : Int))) (fun x => x.2.2.1)
      (fun x => x.1 ≤ ts.length ∧ Calm H1 x.2.2.1 ∧ Ac (cL cI) 24 H1.nxt x.2.2.1 x.2.1 ((ts.take x.1).map (fun t => (patSt cs t).2)) ∧ x.2.2.2 = dec (setOfP cs w (ts.take x.1))) (0, v9, H2, dec (isConst cs ∧ 0 ≤ w ∧ w ≤ 4)) rfl (by repeat (first | exact Wk.jk | refine Wk.up rfl ?_)) ⟨by dsimp only; omega, c2, by simpa using a2, by dsimp only; congr 1; unfold setOfP; simp⟩ ?_
    rintro ⟨i, w9, H3, gd⟩ ⟨hi, c3, a3, hgd⟩
    dsimp only at hi c3 a3 hgd
    dsimp only
    have v3 := v1.calm c3
    have u3 := u1.calm c3
    repeat' (first|refine wA ?_|refine wB ?_|refine wH ?_|refine wI ?_|refine wJ ?_|refine wC ?_|refine wD ?_|refine wE ?_|refine wF ?_|refine wG ?_|refine wK ?_|refine wL ?_|refine wM ?_|refine wN ?_|refine wO ?_|refine wP ?_|refine wQ ?_|refine wR ?_|refine wS ?_|refine wT ?_|refine wU ?_|refine wV ?_|refine wW ?_|refine wX ?_)
    refine Ops.cmp rfl rfl rfl (fun hc => ?_) (fun hc => ?_)
    · repeat' (first|refine wA ?_|refine wB ?_|refine wH ?_|refine wI ?_|refine wJ ?_|refine wC ?_|refine wD ?_|refine wE ?_|refine wF ?_|refine wG ?_|refine wK ?_|refine wL ?_|refine wM ?_|refine wN ?_|refine wO ?_|refine wP ?_|refine wQ ?_|refine wR ?_|refine wS ?_|refine wT ?_|refine wU ?_|refine wV ?_|refine wW ?_|refine wX ?_)
      refine Ops.idx v3 rfl rfl (by omega) (by omega) (by kernel_rfl) (by kernel_rfl) fun pz ua a ha hua0 => ?_
      have ha' : ts[i]? = some a := ha
      have hua := cL_at hua0
      have hta := htl a (List.mem_of_getElem? ha')
      have hstep : ∀ b : Bool, (b = true ↔ setOfP cs w (ts.take i) ∧ isTup a ∧ (a.length : Int) = w) → b = dec (setOfP cs w (ts.take (i + 1))) := fun b hb => by
        have e : setOfP cs w (ts.take (i + 1)) ↔ setOfP cs w (ts.take i) ∧ isTup a ∧ (a.length : Int) = w := by
          rw [take_snoc ha']
          unfold setOfP
          constructor
          · rintro ⟨x1, x2, x3⟩
            exact ⟨⟨x1, x2, fun t ht => x3 t (by simp [ht])⟩, x3 a (by simp)⟩
          · rintro ⟨⟨x1, x2, x3⟩, x4⟩
            refine ⟨x1, x2, fun t ht => ?_⟩
            rcases List.mem_append.1 ht with ht | ht
            · exact x3 t ht
            · obtain rfl := List.mem_singleton.1 ht; exact x4
        cases b
        · rw [dec_f]; intro h; have := hb.2 (e.1 h); cases this
        · rw [dec_t (e.2 (hb.1 rfl))]
      refine Ops.assign (by conv => lhs; whnf) ?_
      refine Ops.nil ?_
      refine Run.seq ?_
      refine Run.join (β := Unit) (fun _ => up (up (up (up (up (up (up (up (up (up jk 0 u) 1 (.int .i64 w)) 6 p6) 7 (.bool false)) 8 (.bool (dec (setOfP cs w (ts.take (i + 1)))))) 9 w9) 11 ua) 19 v) 20 (.int .i64 ts.length)) 21 (.int .i64 (i : Int))) (fun _ => H3) (fun _ => True) ?_ ?_
      · have done : ∀ b : Bool, b = dec (setOfP cs w (ts.take (i + 1))) → (.bool (dec (setOfP cs w (ts.take (i + 1)))) : Value) = .bool b := fun b hb => by rw [hb]
        cases gd
        · have hb := done false (hstep false ⟨fun h => (by cases h), fun h => absurd h.1 (of_dec_f hgd.symm)⟩)
          rw [hb]
          repeat' (first|refine wA ?_|refine wB ?_|refine wH ?_|refine wI ?_|refine wJ ?_|refine wC ?_|refine wD ?_|refine wE ?_|refine wF ?_|refine wG ?_|refine wK ?_|refine wL ?_|refine wM ?_|refine wN ?_|refine wO ?_|refine wP ?_|refine wQ ?_|refine wR ?_|refine wS ?_|refine wT ?_|refine wU ?_|refine wV ?_|refine wW ?_|refine wX ?_)
          refine ⟨(), rfl, rfl, by dsimp only; exact (by repeat (first | exact Wk.jk | refine Wk.up rfl ?_)), ?_⟩
          trivial
        · have hg := of_dec_t hgd.symm
          repeat' (first|refine wA ?_|refine wB ?_|refine wH ?_|refine wI ?_|refine wJ ?_|refine wC ?_|refine wD ?_|refine wE ?_|refine wF ?_|refine wG ?_|refine wK ?_|refine wL ?_|refine wM ?_|refine wN ?_|refine wO ?_|refine wP ?_|refine wQ ?_|refine wR ?_|refine wS ?_|refine wT ?_|refine wU ?_|refine wV ?_|refine wW ?_|refine wX ?_)
          refine Ops.callB (l6Tuple_ok hua) (fun hc1 => ?_) (fun hc1 => ?_)
          · have hc1 := of_dec_t hc1
            repeat' (first|refine wA ?_|refine wB ?_|refine wH ?_|refine wI ?_|refine wJ ?_|refine wC ?_|refine wD ?_|refine wE ?_|refine wF ?_|refine wG ?_|refine wK ?_|refine wL ?_|refine wM ?_|refine wN ?_|refine wO ?_|refine wP ?_|refine wQ ?_|refine wR ?_|refine wS ?_|refine wT ?_|refine wU ?_|refine wV ?_|refine wW ?_|refine wX ?_)
            refine Ops.cmp rfl rfl rfl (fun hc2 => ?_) (fun hc2 => ?_)
            · rw [done true (hstep true ⟨fun _ => ⟨hg, hc1, hc2⟩, fun _ => rfl⟩)]
              repeat' (first|refine wA ?_|refine wB ?_|refine wH ?_|refine wI ?_|refine wJ ?_|refine wC ?_|refine wD ?_|refine wE ?_|refine wF ?_|refine wG ?_|refine wK ?_|refine wL ?_|refine wM ?_|refine wN ?_|refine wO ?_|refine wP ?_|refine wQ ?_|refine wR ?_|refine wS ?_|refine wT ?_|refine wU ?_|refine wV ?_|refine wW ?_|refine wX ?_)
              refine ⟨(), rfl, rfl, by dsimp only; exact (by repeat (first | exact Wk.jk | refine Wk.up rfl ?_)), ?_⟩
              trivial
            · rw [done false (hstep false ⟨fun h => (by cases h), fun h => absurd h.2.2 hc2⟩)]
              repeat' (first|refine wA ?_|refine wB ?_|refine wH ?_|refine wI ?_|refine wJ ?_|refine wC ?_|refine wD ?_|refine wE ?_|refine wF ?_|refine wG ?_|refine wK ?_|refine wL ?_|refine wM ?_|refine wN ?_|refine wO ?_|refine wP ?_|refine wQ ?_|refine wR ?_|refine wS ?_|refine wT ?_|refine wU ?_|refine wV ?_|refine wW ?_|refine wX ?_)
              refine ⟨(), rfl, rfl, by dsimp only; exact (by repeat (first | exact Wk.jk | refine Wk.up rfl ?_)), ?_⟩
              trivial
          · have hc1 := of_dec_f hc1
            rw [done false (hstep false ⟨fun h => (by cases h), fun h => absurd h.2.1 hc1⟩)]
            repeat' (first|refine wA ?_|refine wB ?_|refine wH ?_|refine wI ?_|refine wJ ?_|refine wC ?_|refine wD ?_|refine wE ?_|refine wF ?_|refine wG ?_|refine wK ?_|refine wL ?_|refine wM ?_|refine wN ?_|refine wO ?_|refine wP ?_|refine wQ ?_|refine wR ?_|refine wS ?_|refine wT ?_|refine wU ?_|refine wV ?_|refine wW ?_|refine wX ?_)
            refine ⟨(), rfl, rfl, by dsimp only; exact (by repeat (first | exact Wk.jk | refine Wk.up rfl ?_)), ?_⟩
            trivial
      · rintro ⟨⟩ _
        repeat' (first|refine wA ?_|refine wB ?_|refine wH ?_|refine wI ?_|refine wJ ?_|refine wC ?_|refine wD ?_|refine wE ?_|refine wF ?_|refine wG ?_|refine wK ?_|refine wL ?_|refine wM ?_|refine wN ?_|refine wO ?_|refine wP ?_|refine wQ ?_|refine wR ?_|refine wS ?_|refine wT ?_|refine wU ?_|refine wV ?_|refine wW ?_|refine wX ?_)
        refine Ops.call (l6Pattern_ok u3 hua (by omega)) (fun _ _ h _ => h.1.ge') fun r4 H4 => ?_
        rintro ⟨c4, a4⟩
        have a3' := a3.calm c4
        refine Ops.push (a := (patSt cs a).2) (rdL rdI) a3' (cL_of a4.sl) (by simp) (Nat.le_trans c3.1 c4.1) (by kernel_rfl) (by kernel_rfl) (by kernel_rfl) (by simp; omega) (by decide) fun pz v5 H5 a5 g5 => ?_
        repeat' (first|refine wA ?_|refine wB ?_|refine wH ?_|refine wI ?_|refine wJ ?_|refine wC ?_|refine wD ?_|refine wE ?_|refine wF ?_|refine wG ?_|refine wK ?_|refine wL ?_|refine wM ?_|refine wN ?_|refine wO ?_|refine wP ?_|refine wQ ?_|refine wR ?_|refine wS ?_|refine wT ?_|refine wU ?_|refine wV ?_|refine wW ?_|refine wX ?_)
        refine ⟨(i + 1, v5, H5, dec (setOfP cs w (ts.take (i + 1)))), by dsimp only; omega, rfl, rfl, by dsimp only; exact (by repeat (first | exact Wk.jk | refine Wk.up rfl ?_)), ?_⟩
        refine ⟨by dsimp only; omega, g5.calm H1 (Nat.le_refl _) (c3.trans c4), ?_, rfl⟩
        dsimp only
        rw [map_snoc ha']
        exact a5
    · rw [take_end (by omega)] at a3 hgd
      cases gd
      · have hno := of_dec_f hgd.symm
        repeat' (first|refine wA ?_|refine wB ?_|refine wH ?_|refine wI ?_|refine wJ ?_|refine wC ?_|refine wD ?_|refine wE ?_|refine wF ?_|refine wG ?_|refine wK ?_|refine wL ?_|refine wM ?_|refine wN ?_|refine wO ?_|refine wP ?_|refine wQ ?_|refine wR ?_|refine wS ?_|refine wT ?_|refine wU ?_|refine wV ?_|refine wW ?_|refine wX ?_)
        refine Ops.build (pl := [(0, 1), (1, 1), (2, 1)]) (zs := [.int .i64 0, .slice none 0 0, .slice none 0 0]) (cs := [.int .i64 0, nilS, nilS]) (by kernel_rfl) (by simp) rfl ?_
        have o3 := o1.calm c3
        have t3 : Rt H3 p6 r6 := t6.calm c3
        refine Ops.storeS (ds := [.int .i64 0, nilS, nilS]) o3 t3 rfl (by kernel_rfl) rfl rfl fun H4 m4 o4 => ?_
        repeat' (first|refine wA ?_|refine wB ?_|refine wH ?_|refine wI ?_|refine wJ ?_|refine wC ?_|refine wD ?_|refine wE ?_|refine wF ?_|refine wG ?_|refine wK ?_|refine wL ?_|refine wM ?_|refine wN ?_|refine wO ?_|refine wP ?_|refine wQ ?_|refine wR ?_|refine wS ?_|refine wT ?_|refine wU ?_|refine wV ?_|refine wW ?_|refine wX ?_)
        refine Run.ret ⟨.inl rfl, ResK.cells rfl o4.pt (by kernel_rfl) (by kernel_rfl) (ResK.tmp rfl (by conv => lhs; whnf) (ResK.nil ?_))⟩
        exact ⟨m4.calm (c1.trans c3) hr6, .agg #[.int .i64 0, nilS, nilS], by rw [dec_f hno]; rfl, by rw [setOfR_no hno]; exact cOS_none⟩
      · have hP := of_dec_t hgd.symm
        have hw := hP.2.1
        have hcl3 := hP.1.1
        obtain ⟨n, rfl⟩ : ∃ n : Nat, w = n := ⟨w.toNat, by omega⟩
        repeat' (first|refine wA ?_|refine wB ?_|refine wH ?_|refine wI ?_|refine wJ ?_|refine wC ?_|refine wD ?_|refine wE ?_|refine wF ?_|refine wG ?_|refine wK ?_|refine wL ?_|refine wM ?_|refine wN ?_|refine wO ?_|refine wP ?_|refine wQ ?_|refine wR ?_|refine wS ?_|refine wT ?_|refine wU ?_|refine wV ?_|refine wW ?_|refine wX ?_)
        refine Ops.call (l6Those_ok u3 hcl3 (by omega) a3.sl) (fun _ _ h _ => h.1.ge') fun r4 H4 => ?_
        rintro ⟨c4, s4, w4, n4, k4⟩
        have o4 := o1.calm (c3.trans c4)
        have t4 : Rt H4 p6 r6 := t6.calm (c3.trans c4)
        have hr3 : r6 < H3.nxt := by
          obtain ⟨id, g1, g2, g3, g4⟩ := t6.calm c3
          have := H3.rt id g2
          omega
        have hz : szT Try.prog 44 (cellsOf r4).length = true := n4.symm ▸ (show szT Try.prog 44 3 = true by kernel_rfl)
        refine Ops.storeS (ds := cellsOf r4) o4 t4 rfl hz (by rw [n4]; rfl) w4 fun H5 m5 o5 => ?_
        have s5 := k4 p6 r6 H5 ((Pt.live o1.pt).calm c3) t4 hr3 m5
        repeat' (first|refine wA ?_|refine wB ?_|refine wH ?_|refine wI ?_|refine wJ ?_|refine wC ?_|refine wD ?_|refine wE ?_|refine wF ?_|refine wG ?_|refine wK ?_|refine wL ?_|refine wM ?_|refine wN ?_|refine wO ?_|refine wP ?_|refine wQ ?_|refine wR ?_|refine wS ?_|refine wT ?_|refine wU ?_|refine wV ?_|refine wW ?_|refine wX ?_)
        refine Run.ret ⟨.inl rfl, ResK.cells rfl o5.pt (by kernel_rfl) hz (ResK.tmp rfl (by conv => lhs; whnf) (ResK.nil ?_))⟩
        refine ⟨m5.calm (c1.trans (c3.trans c4)) hr6, .agg (cellsOf r4).toArray, by rw [dec_t hP]; rfl, ?_⟩
        rw [setOfR_yes hP]
        show cOS.ok H5 (cellsOf (.agg (cellsOf r4).toArray)) _
        have e : cellsOf (.agg (cellsOf r4).toArray) = cellsOf r4 := by simp [cellsOf]
        rw [e]
        exact s5

end Go.Proofs.Ytefmjpbmdoebaaa

/- SetOf, by the program and by the reference: as the law's body asks for it. -/
set_option linter.unusedVariables false
namespace Go.Proofs.Ytefmjpbmdoebaaa
open Go Go.RowKit

theorem thoseL_tot {k : Int} (hk : 0 ≤ k) (hk3 : k ≤ 3) {w : Nat} (hw : w ≤ 4) {l : List (List Int)} : (thoseL k w l).length ≤ 4096 ∧ tot (thoseL k w l) ≤ 16384 := by
  have h1 := pats_length hk hk3 (w := w) hw
  have h2 : 8 ^ w ≤ 4096 := Nat.le_trans (Nat.pow_le_pow_right (by omega) hw) (by decide)
  have h3 : (thoseL k w l).length ≤ 4096 := by
    unfold thoseL
    exact Nat.le_trans (List.length_filter_le _ _) (by omega)
  refine ⟨h3, ?_⟩
  have h4 : ∀ x ∈ thoseL k w l, x.length ≤ 4 := fun x hx => by rw [(pats_mem hk (thoseL_mem.1 hx).1).1]; exact hw
  have h5 : ∀ m : List (List Int), (∀ x ∈ m, x.length ≤ 4) → tot m ≤ m.length * 4 := fun m => by
    induction m with
    | nil => intro _; simp [tot]
    | cons a t ih =>
      intro h
      have := ih fun x hx => h x (by simp [hx])
      have := h a (by simp)
      have e : tot (a :: t) = a.length + tot t := by simp [tot]
      rw [e, List.length_cons]; omega
  have := h5 _ h4
  omega

theorem sp_SetOf {H : Hp} {a0 a2 : Value} {cs : List Int} {w : Int} {ts : List (List Int)} (s0 : S_IS H a0 cs) (s2 : S_ISS H a2 ts) (b0 : B_IS cs) (_ : InR w) (b2 : B_ISS ts) :
    CallK Try.prog 44 [a0, .int .i64 w, a2] H (fun r H' => Calm H H' ∧ ∃ x, r = .tuple #[x, .bool (dec (setOfP cs w ts))] ∧ S_OS H' x (setOfR cs w ts)) := specSetOf_ok s0 s2 b2.1 b0 b2.2.1
theorem im_SetOf {H : Hp} {a0 a2 : Value} {cs : List Int} {w : Int} {ts : List (List Int)} (s0 : S_IS H a0 cs) (s2 : S_ISS H a2 ts) (b0 : B_IS cs) (_ : InR w) (b2 : B_ISS ts) :
    CallK Try.prog 46 [a0, .int .i64 w, a2] H (fun r H' => Calm H H' ∧ ∃ x, r = .tuple #[x, .bool (dec (setOfP cs w ts))] ∧ O_OS H.nxt H'.nxt H' x (setOfR cs w ts)) :=
  (SetOf_ok s0 s2 b2.1).mono fun _ _ ⟨h1, x, ms, h2, h3⟩ => ⟨h1, x, h2, .of h3⟩
theorem zb_SetOf_0 {cs : List Int} {w : Int} {ts : List (List Int)} (b0 : B_IS cs) (_ : InR w) (b2 : B_ISS ts) : 0 ≤ z_OS (setOfR cs w ts) ∧ z_OS (setOfR cs w ts) ≤ 4194304 := by
  by_cases h : setOfP cs w ts
  · rw [setOfR_yes h]
    have := h.1.1
    have := h.2.1
    have := (thoseL_tot (k := (cs.length : Int)) (by omega) (by omega) (w := w.toNat) (by omega) (l := ts.map fun t => (patSt cs t).2)).2
    unfold z_OS; dsimp only; omega
  · rw [setOfR_no h]; simp [z_OS, noOS, tot]

end Go.Proofs.Ytefmjpbmdoebaaa

/- Widening of sets, by the program and by the reference. -/
set_option linter.unusedVariables false
namespace Go.Proofs.Ytefmjpbmdoebaaa
open Go Go.RowKit

/-- Another variable, older than the set, has been written. -/
theorem OO.mod {k j : Nat} {H0 H H' : Hp} {r p : Value} {s : OS} {ms : List LF} (h : OO k H r s ms) (hp : Live H0 p) (hk : H0.nxt ≤ k) (hr : Rt H p j) (hm : Mod j H H') : OO k H' r s ms := by
  obtain ⟨x1, x2, e, b1, b2, b3, b4, b5⟩ := h
  have p16 : Ap x1 p := fun i h1 h2 => (b1.ap (H0 := H0) hk hp) i h2 h1
  have p26 : Ap x2 p := fun i h1 h2 => (b2.ac.ap (H0 := H0) hk hp) i h2 h1
  have f6 : ∀ id, idOf p = some id → id ∉ fps ms := fresh_ne (H0 := H0) hp hk b2.own
  exact ⟨x1, x2, e, b1.mod hr p16 hm (fun _ _ _ h => h), b2.modS' (fun h => h) hr hm p26 f6, b3, b4, b5⟩
theorem OO.older {k k' : Nat} {H : Hp} {r : Value} {s : OS} {ms : List LF} (h : OO k H r s ms) (hk : k' ≤ k) : OO k' H r s ms :=
  let ⟨x1, x2, e, b1, b2, b3⟩ := h; ⟨x1, x2, e, b1.older hk, b2.older hk, b3⟩
theorem OO.cells {k : Nat} {H : Hp} {r : Value} {s : OS} {ms : List LF} (h : OO k H r s ms) : ∃ x1 x2, r = .agg #[.int .i64 s.width, x1, x2] := let ⟨x1, x2, e, _⟩ := h; ⟨x1, x2, e⟩

theorem thoseL_congr {k : Int} {w : Nat} {l m : List (List Int)} (h : ∀ p ∈ pats k w, p ∈ l ↔ p ∈ m) : thoseL k w l = thoseL k w m := by
  unfold thoseL
  refine List.filter_congr fun p hp => ?_
  by_cases hl : p ∈ l
  · rw [dec_t hl, dec_t ((h p hp).1 hl)]
  · rw [dec_f hl, dec_f (fun hm => hl ((h p hp).2 hm))]

/-- What setOf returns, by what is asked of the list. -/
theorem those_of {k : Int} (hk : 0 ≤ k) {w : Nat} {l m : List (List Int)} (asc : Asc m) (hm : ∀ x, x ∈ m ↔ x ∈ l) (hl : ∀ x ∈ l, x ∈ pats k w) : m = thoseL k w l := by
  refine asc_unique asc (thoseL_asc hk) fun x => ?_
  rw [hm, thoseL_mem]
  exact ⟨fun hx => ⟨hl x hx, hx⟩, fun h => h.2⟩

theorem os_pats {s : OS} (h : isOS s) : ∀ p ∈ s.pats, p ∈ pats s.consts.length s.width.toNat := fun p hp => by
  obtain ⟨i, hi⟩ := List.mem_iff_getElem?.1 hp
  have hp := h.2.2.2 i p hi
  have := h.1
  have := hp.1.1
  exact (pats_iff (by omega)).2 ⟨by omega, hp.1.2⟩

/-- May the set be widened? -/
def widenP (s : OS) : Prop := isOS s ∧ s.width ≠ 4
noncomputable def widenR (s : OS) : OS := if dec (widenP s) = true then ⟨s.width + 1, s.consts, thoseL s.consts.length (s.width.toNat + 1) (s.pats.flatMap (longerL s.consts.length))⟩ else noOS
theorem widenR_yes {s : OS} (h : widenP s) : widenR s = ⟨s.width + 1, s.consts, thoseL s.consts.length (s.width.toNat + 1) (s.pats.flatMap (longerL s.consts.length))⟩ := by unfold widenR; rw [dec_t h]; rfl
theorem widenR_no {s : OS} (h : ¬ widenP s) : widenR s = noOS := by unfold widenR; rw [dec_f h]; rfl

theorem widen_mem {k : Int} (hk : 0 ≤ k) {w : Nat} {l : List (List Int)} {p : List Int} (hl : ∀ q ∈ l, q.length = w) (hp : p ∈ pats k (w + 1)) : p ∈ l.flatMap (longerL k) ↔ p.take w ∈ l := by
  obtain ⟨h1, h2⟩ := (pats_iff hk).1 hp
  rcases List.eq_nil_or_concat p with rfl | ⟨q, n, rfl⟩
  · simp at h1
  · rw [List.concat_eq_append] at h1 h2 ⊢
    have hq : q.length = w := by simpa using h1
    have ht : (q ++ [n]).take w = q := by rw [← hq]; simp
    rw [ht, List.mem_flatMap]
    constructor
    · rintro ⟨q', hq', hm⟩
      obtain ⟨m, e, _⟩ := (longerL_mem hk).1 hm
      have := List.append_inj_left e (by rw [hq, hl q' hq'])
      rw [this]; exact hq'
    · intro hm
      exact ⟨q, hm, (longerL_mem hk).2 ⟨n, rfl, (isPat_snoc.1 h2).2⟩⟩

theorem longer_le {s : OS} (h : isOS s) {p : List Int} (hp : p ∈ s.pats) : (longerL s.consts.length p).length ≤ 16 := by
  obtain ⟨i, hi⟩ := List.mem_iff_getElem?.1 hp
  obtain ⟨h1, h2, h3⟩ := os_pat h hi
  have := topOf_le (k := (s.consts.length : Int)) (b := 12) (p := p) (by omega) fun n hn => by have := h1 n hn; omega
  rw [longerL_length]; omega

theorem WidenSet_ok {H : Hp} {v : Value} {s : OS} (h : cOS.ok H (cellsOf v) s) (hb : s.pats.length ≤ 1048576) :
    CallK Try.prog 49 [v] H (fun r H' => Calm H H' ∧ ∃ x ms, r = .tuple #[x, .bool (dec (widenP s))] ∧ OO H.nxt H' x (widenR s) ms) := by
  have hone := cOS.one h
  obtain ⟨v1, v2, hcs, s1, s2⟩ := h
  have hok : cOS.ok H (cellsOf (.agg #[.int .i64 s.width, v1, v2])) s := ⟨v1, v2, rfl, s1, s2⟩
  refine (CallK.enter Try.func49 rfl rfl Try.ntmps49 Try.results49 rfl ?_)
  repeat' (first|refine wA ?_|refine wB ?_|refine wH ?_|refine wI ?_|refine wJ ?_|refine wC ?_|refine wD ?_|refine wE ?_|refine wF ?_|refine wG ?_|refine wK ?_|refine wL ?_|refine wM ?_|refine wN ?_|refine wO ?_|refine wP ?_|refine wQ ?_|refine wR ?_|refine wS ?_|refine wT ?_|refine wU ?_|refine wV ?_|refine wW ?_|refine wX ?_)
  refine Ops.box H.nxt (Nat.le_refl _) (one_known hone) hcs (by simp) fun p1 H1 o1 c1 ap1 => ?_
  refine Ops.alloc H.nxt c1.1 (z0 := .agg #[.int .i64 0, nilS, nilS]) (by kernel_rfl) (by rfl) (by decide) fun p2 H2 o2 c2 ap2 => ?_
  obtain ⟨r2, hr2, t2⟩ := o2.rt
  have o1 := o1.calm c2
  have c2 := c1.trans c2
  repeat' (first|refine wA ?_|refine wB ?_|refine wH ?_|refine wI ?_|refine wJ ?_|refine wC ?_|refine wD ?_|refine wE ?_|refine wF ?_|refine wG ?_|refine wK ?_|refine wL ?_|refine wM ?_|refine wN ?_|refine wO ?_|refine wP ?_|refine wQ ?_|refine wR ?_|refine wS ?_|refine wT ?_|refine wU ?_|refine wV ?_|refine wW ?_|refine wX ?_)
  refine Ops.loadS o1.pt (by kernel_rfl) (by kernel_rfl) ?_
  refine Ops.call (IsOrbitSet_ok (cOS.calm c2 hok)) (fun _ _ h _ => h.1.ge') fun r3 H3 => ?_
  rintro ⟨c3, rfl⟩
  have o1 := o1.calm c3
  have o2 := o2.calm c3
  have t2 := t2.calm c3
  have c3 := c2.trans c3
  have fin : ∀ H4, ¬ widenP s → Mod r2 H3 H4 → (Calm H H4 ∧ ∃ x ms, Value.tuple #[.agg #[.int .i64 0, nilS, nilS], .bool false] = .tuple #[x, .bool (dec (widenP s))] ∧ OO H.nxt H4 x (widenR s) ms) := fun H4 hn hm => ⟨hm.calm c3 hr2, _, [], by rw [dec_f hn], by rw [widenR_no hn]; exact OO.none⟩
  cases hd : dec (isOS s)
  · repeat' (first|refine wA ?_|refine wB ?_|refine wH ?_|refine wI ?_|refine wJ ?_|refine wC ?_|refine wD ?_|refine wE ?_|refine wF ?_|refine wG ?_|refine wK ?_|refine wL ?_|refine wM ?_|refine wN ?_|refine wO ?_|refine wP ?_|refine wQ ?_|refine wR ?_|refine wS ?_|refine wT ?_|refine wU ?_|refine wV ?_|refine wW ?_|refine wX ?_)
    refine Ops.build (pl := [(0, 1), (1, 1), (2, 1)]) (zs := [.int .i64 0, .slice none 0 0, .slice none 0 0]) (cs := [.int .i64 0, nilS, nilS]) (by kernel_rfl) (by simp) rfl ?_
    refine Ops.storeS (ds := [.int .i64 0, nilS, nilS]) o2 t2 rfl (by kernel_rfl) rfl rfl fun H4 m4 oz => ?_
    repeat' (first|refine wA ?_|refine wB ?_|refine wH ?_|refine wI ?_|refine wJ ?_|refine wC ?_|refine wD ?_|refine wE ?_|refine wF ?_|refine wG ?_|refine wK ?_|refine wL ?_|refine wM ?_|refine wN ?_|refine wO ?_|refine wP ?_|refine wQ ?_|refine wR ?_|refine wS ?_|refine wT ?_|refine wU ?_|refine wV ?_|refine wW ?_|refine wX ?_)
    refine Run.ret ⟨.inl rfl, ResK.cells rfl oz.pt (by kernel_rfl) (by kernel_rfl) (ResK.tmp rfl (by conv => lhs; whnf) (ResK.nil ?_))⟩
    exact fin H4 (fun h => of_dec_f hd h.1) m4
  · have hd := of_dec_t hd
    repeat' (first|refine wA ?_|refine wB ?_|refine wH ?_|refine wI ?_|refine wJ ?_|refine wC ?_|refine wD ?_|refine wE ?_|refine wF ?_|refine wG ?_|refine wK ?_|refine wL ?_|refine wM ?_|refine wN ?_|refine wO ?_|refine wP ?_|refine wQ ?_|refine wR ?_|refine wS ?_|refine wT ?_|refine wU ?_|refine wV ?_|refine wW ?_|refine wX ?_)
    refine Ops.unS rfl rfl rfl ?_
    refine Ops.fld 0 o1.pt (by kernel_rfl) (by kernel_rfl) rfl fun pz => ?_
    repeat' (first|refine wA ?_|refine wB ?_|refine wH ?_|refine wI ?_|refine wJ ?_|refine wC ?_|refine wD ?_|refine wE ?_|refine wF ?_|refine wG ?_|refine wK ?_|refine wL ?_|refine wM ?_|refine wN ?_|refine wO ?_|refine wP ?_|refine wQ ?_|refine wR ?_|refine wS ?_|refine wT ?_|refine wU ?_|refine wV ?_|refine wW ?_|refine wX ?_)
    refine Ops.cmp rfl rfl rfl (fun hw => ?_) (fun hw => ?_)
    · repeat' (first|refine wA ?_|refine wB ?_|refine wH ?_|refine wI ?_|refine wJ ?_|refine wC ?_|refine wD ?_|refine wE ?_|refine wF ?_|refine wG ?_|refine wK ?_|refine wL ?_|refine wM ?_|refine wN ?_|refine wO ?_|refine wP ?_|refine wQ ?_|refine wR ?_|refine wS ?_|refine wT ?_|refine wU ?_|refine wV ?_|refine wW ?_|refine wX ?_)
      refine Ops.build (pl := [(0, 1), (1, 1), (2, 1)]) (zs := [.int .i64 0, .slice none 0 0, .slice none 0 0]) (cs := [.int .i64 0, nilS, nilS]) (by kernel_rfl) (by simp) rfl ?_
      refine Ops.storeS (ds := [.int .i64 0, nilS, nilS]) o2 t2 rfl (by kernel_rfl) rfl rfl fun H4 m4 oz => ?_
      repeat' (first|refine wA ?_|refine wB ?_|refine wH ?_|refine wI ?_|refine wJ ?_|refine wC ?_|refine wD ?_|refine wE ?_|refine wF ?_|refine wG ?_|refine wK ?_|refine wL ?_|refine wM ?_|refine wN ?_|refine wO ?_|refine wP ?_|refine wQ ?_|refine wR ?_|refine wS ?_|refine wT ?_|refine wU ?_|refine wV ?_|refine wW ?_|refine wX ?_)
      refine Run.ret ⟨.inl rfl, ResK.cells rfl oz.pt (by kernel_rfl) (by kernel_rfl) (ResK.tmp rfl (by conv => lhs; whnf) (ResK.nil ?_))⟩
      exact fin H4 (fun h => h.2 hw) m4
    · have hP : widenP s := ⟨hd, hw⟩
      have hw0 := hd.1
      have hw4 := hd.2.1
      have hcl := hd.2.2.1.1
      have s2' := s2.calm c3
      repeat' (first|refine wA ?_|refine wB ?_|refine wH ?_|refine wI ?_|refine wJ ?_|refine wC ?_|refine wD ?_|refine wE ?_|refine wF ?_|refine wG ?_|refine wK ?_|refine wL ?_|refine wM ?_|refine wN ?_|refine wO ?_|refine wP ?_|refine wQ ?_|refine wR ?_|refine wS ?_|refine wT ?_|refine wU ?_|refine wV ?_|refine wW ?_|refine wX ?_)
      refine Ops.fld 2 o1.pt (by kernel_rfl) (by kernel_rfl) rfl fun pz => ?_
      repeat' (first|refine wA ?_|refine wB ?_|refine wH ?_|refine wI ?_|refine wJ ?_|refine wC ?_|refine wD ?_|refine wE ?_|refine wF ?_|refine wG ?_|refine wK ?_|refine wL ?_|refine wM ?_|refine wN ?_|refine wO ?_|refine wP ?_|refine wQ ?_|refine wR ?_|refine wS ?_|refine wT ?_|refine wU ?_|refine wV ?_|refine wW ?_|refine wX ?_)
      refine Run.loopW (fun (a : Nat × Value × Hp × List LF) => s.pats.length - a.1) (fun a => up (up (up (up (up (up (up jk 1 p1) 2 p2) 3 (.bool false)) 4 a.2.1) 17 v2) 18 (.int .i64 s.pats.length)) 19 (.int .i64 (a.1 : Int))) (fun a => a.2.2.1)
        (fun a => a.1 ≤ s.pats.length ∧ Calm H3 a.2.2.1 ∧ OAc cI 3 24 H3.nxt a.2.2.1 a.2.1 a.2.2.2 ∧ a.2.2.2.map (·.1) = (s.pats.take a.1).flatMap (longerL s.consts.length)) (0, nilS, H3, []) rfl (by repeat (first | exact Wk.jk | refine Wk.up rfl ?_)) ⟨by dsimp only; omega, Calm.refl _, OAc.nil, by simp⟩ ?_
      rintro ⟨i, v4, H4, ls⟩ ⟨hi, c4, a4, hls⟩
      dsimp only at hi c4 a4 hls
      dsimp only
      have s1'' := s1.calm (c3.trans c4)
      have s2'' := s2.calm (c3.trans c4)
      have o1' := o1.calm c4
      have hlen : ls.length ≤ s.pats.length * 16 := by
        have e := congrArg List.length hls
        rw [List.length_map] at e
        rw [e]
        refine Nat.le_trans (flatMap_len (b := 16) fun p hp => longer_le hd (List.mem_of_mem_take hp)) (Nat.mul_le_mul_right _ ?_)
        rw [List.length_take]; omega
      repeat' (first|refine wA ?_|refine wB ?_|refine wH ?_|refine wI ?_|refine wJ ?_|refine wC ?_|refine wD ?_|refine wE ?_|refine wF ?_|refine wG ?_|refine wK ?_|refine wL ?_|refine wM ?_|refine wN ?_|refine wO ?_|refine wP ?_|refine wQ ?_|refine wR ?_|refine wS ?_|refine wT ?_|refine wU ?_|refine wV ?_|refine wW ?_|refine wX ?_)
      refine Ops.cmp rfl rfl rfl (fun hc => ?_) (fun hc => ?_)
      · repeat' (first|refine wA ?_|refine wB ?_|refine wH ?_|refine wI ?_|refine wJ ?_|refine wC ?_|refine wD ?_|refine wE ?_|refine wF ?_|refine wG ?_|refine wK ?_|refine wL ?_|refine wM ?_|refine wN ?_|refine wO ?_|refine wP ?_|refine wQ ?_|refine wR ?_|refine wS ?_|refine wT ?_|refine wU ?_|refine wV ?_|refine wW ?_|refine wX ?_)
        refine Ops.idx s2'' rfl rfl (by omega) (by omega) (by kernel_rfl) (by kernel_rfl) fun pz u a ha hu => ?_
        have ha' : s.pats[i]? = some a := ha
        obtain ⟨q1, q2, q3⟩ := os_pat hd ha'
        have hle := longer_le hd (List.mem_of_getElem? ha')
        repeat' (first|refine wA ?_|refine wB ?_|refine wH ?_|refine wI ?_|refine wJ ?_|refine wC ?_|refine wD ?_|refine wE ?_|refine wF ?_|refine wG ?_|refine wK ?_|refine wL ?_|refine wM ?_|refine wN ?_|refine wO ?_|refine wP ?_|refine wQ ?_|refine wR ?_|refine wS ?_|refine wT ?_|refine wU ?_|refine wV ?_|refine wW ?_|refine wX ?_)
        refine Ops.fld 1 o1'.pt (by kernel_rfl) (by kernel_rfl) rfl fun pz => ?_
        repeat' (first|refine wA ?_|refine wB ?_|refine wH ?_|refine wI ?_|refine wJ ?_|refine wC ?_|refine wD ?_|refine wE ?_|refine wF ?_|refine wG ?_|refine wK ?_|refine wL ?_|refine wM ?_|refine wN ?_|refine wO ?_|refine wP ?_|refine wQ ?_|refine wR ?_|refine wS ?_|refine wT ?_|refine wU ?_|refine wV ?_|refine wW ?_|refine wX ?_)
        refine Ops.call (longer_ok (cL_at hu) (fun n hn => by have := q1 n hn; omega) (by omega) (by omega) (by omega)) (fun _ _ h _ => h.1.ge') fun r5 H5 => ?_
        rintro ⟨c5, ms, a5, hms⟩
        have a4' := a4.calm c5
        have hml : ms.length ≤ 16 := by
          have e := congrArg List.length hms
          rw [List.length_map] at e
          rw [e]; exact hle
        refine Ops.cat rfl (rdF rdI) a4'.ac a5.ac.sl (Nat.le_trans c4.1 c5.1) (by kernel_rfl) (by kernel_rfl) (by omega) fun v6 H6 a6 g6 => ?_
        have o6 := a4'.grow a6 g6 (a5.own.older c4.1) a5.nd (fresh_not a4.own (Nat.le_refl _) a5.own) (fresh_ne a4.ac.live (Nat.le_refl _) a5.own)
        repeat' (first|refine wA ?_|refine wB ?_|refine wH ?_|refine wI ?_|refine wJ ?_|refine wC ?_|refine wD ?_|refine wE ?_|refine wF ?_|refine wG ?_|refine wK ?_|refine wL ?_|refine wM ?_|refine wN ?_|refine wO ?_|refine wP ?_|refine wQ ?_|refine wR ?_|refine wS ?_|refine wT ?_|refine wU ?_|refine wV ?_|refine wW ?_|refine wX ?_)
        refine ⟨(i + 1, v6, H6, ls ++ ms), by dsimp only; omega, rfl, rfl, by dsimp only; exact (by repeat (first | exact Wk.jk | refine Wk.up rfl ?_)), ?_⟩
        refine ⟨by dsimp only; omega, g6.calm H3 (Nat.le_refl _) (c4.trans c5), o6, ?_⟩
        dsimp only
        rw [List.map_append, hls, hms, take_snoc ha', List.flatMap_append]; simp
      · rw [take_end (by omega)] at hls
        repeat' (first|refine wA ?_|refine wB ?_|refine wH ?_|refine wI ?_|refine wJ ?_|refine wC ?_|refine wD ?_|refine wE ?_|refine wF ?_|refine wG ?_|refine wK ?_|refine wL ?_|refine wM ?_|refine wN ?_|refine wO ?_|refine wP ?_|refine wQ ?_|refine wR ?_|refine wS ?_|refine wT ?_|refine wU ?_|refine wV ?_|refine wW ?_|refine wX ?_)
        refine Ops.fld 1 o1'.pt (by kernel_rfl) (by kernel_rfl) rfl fun pz => ?_
        refine Ops.fld 0 o1'.pt (by kernel_rfl) (by kernel_rfl) rfl fun pz => ?_
        repeat' (first|refine wA ?_|refine wB ?_|refine wH ?_|refine wI ?_|refine wJ ?_|refine wC ?_|refine wD ?_|refine wE ?_|refine wF ?_|refine wG ?_|refine wK ?_|refine wL ?_|refine wM ?_|refine wN ?_|refine wO ?_|refine wP ?_|refine wQ ?_|refine wR ?_|refine wS ?_|refine wT ?_|refine wU ?_|refine wV ?_|refine wW ?_|refine wX ?_)
        refine Ops.call (setOf_ok (k := H3.nxt) s1'' (by omega) a4.ac.sl a4.own a4.nd (by omega) c4.1) (fun _ _ h _ => h.1.ge') fun r5 H5 => ?_
        rintro ⟨c5, ms, oo, asc, hmem⟩
        have c35 := c4.trans c5
        have o5 := o2.calm c35
        have t5 : Rt H5 p2 r2 := t2.calm c35
        obtain ⟨x1, x2, rfl⟩ := oo.cells
        refine Ops.storeS (ds := [.int .i64 (s.width + 1), x1, x2]) o5 t5 rfl (by kernel_rfl) rfl (cOS.one oo.os) fun H6 m6 oz => ?_
        repeat' (first|refine wA ?_|refine wB ?_|refine wH ?_|refine wI ?_|refine wJ ?_|refine wC ?_|refine wD ?_|refine wE ?_|refine wF ?_|refine wG ?_|refine wK ?_|refine wL ?_|refine wM ?_|refine wN ?_|refine wO ?_|refine wP ?_|refine wQ ?_|refine wR ?_|refine wS ?_|refine wT ?_|refine wU ?_|refine wV ?_|refine wW ?_|refine wX ?_)
        refine Run.ret ⟨.inl rfl, ResK.cells rfl oz.pt (by kernel_rfl) (by kernel_rfl) (ResK.tmp rfl (by conv => lhs; whnf) (ResK.nil ?_))⟩
        have hthose : ms.map (·.1) = thoseL (s.consts.length : Int) (s.width.toNat + 1) (s.pats.flatMap (longerL s.consts.length)) := by
          refine those_of (by omega) asc (fun x => by rw [hmem, hls]) fun x hx => ?_
          obtain ⟨p, hp, hx⟩ := List.mem_flatMap.1 hx
          exact List.mem_flatMap.2 ⟨p, os_pats hd p hp, hx⟩
        refine ⟨m6.calm (c3.trans c35) hr2, .agg #[.int .i64 (s.width + 1), x1, x2], ms, by rw [dec_t hP]; rfl, ?_⟩
        rw [widenR_yes hP, ← hthose]
        exact (oo.mod (H0 := H3) o2.live (Nat.le_refl _) t5 m6).older c3.1

theorem specWidenSet_ok {H : Hp} {v : Value} {s : OS} (h : cOS.ok H (cellsOf v) s) (hb : s.pats.length ≤ 1048576) :
    CallK Try.prog 48 [v] H (fun r H' => Calm H H' ∧ ∃ x, r = .tuple #[x, .bool (dec (widenP s))] ∧ cOS.ok H' (cellsOf x) (widenR s)) := by
  have hone := cOS.one h
  obtain ⟨v1, v2, hcs, s1, s2⟩ := h
  have hok : cOS.ok H (cellsOf (.agg #[.int .i64 s.width, v1, v2])) s := ⟨v1, v2, rfl, s1, s2⟩
  refine (CallK.enter Try.func48 rfl rfl Try.ntmps48 Try.results48 rfl ?_)
  repeat' (first|refine wA ?_|refine wB ?_|refine wH ?_|refine wI ?_|refine wJ ?_|refine wC ?_|refine wD ?_|refine wE ?_|refine wF ?_|refine wG ?_|refine wK ?_|refine wL ?_|refine wM ?_|refine wN ?_|refine wO ?_|refine wP ?_|refine wQ ?_|refine wR ?_|refine wS ?_|refine wT ?_|refine wU ?_|refine wV ?_|refine wW ?_|refine wX ?_)
  refine Ops.box H.nxt (Nat.le_refl _) (one_known hone) hcs (by simp) fun p1 H1 o1 c1 ap1 => ?_
  refine Ops.alloc H.nxt c1.1 (z0 := .agg #[.int .i64 0, nilS, nilS]) (by kernel_rfl) (by rfl) (by decide) fun p2 H2 o2 c2 ap2 => ?_
  obtain ⟨r2, hr2, t2⟩ := o2.rt
  have o1 := o1.calm c2
  have c2 := c1.trans c2
  repeat' (first|refine wA ?_|refine wB ?_|refine wH ?_|refine wI ?_|refine wJ ?_|refine wC ?_|refine wD ?_|refine wE ?_|refine wF ?_|refine wG ?_|refine wK ?_|refine wL ?_|refine wM ?_|refine wN ?_|refine wO ?_|refine wP ?_|refine wQ ?_|refine wR ?_|refine wS ?_|refine wT ?_|refine wU ?_|refine wV ?_|refine wW ?_|refine wX ?_)
  refine Ops.loadS o1.pt (by kernel_rfl) (by kernel_rfl) ?_
  refine Ops.call (specIsOrbitSet_ok (cOS.calm c2 hok)) (fun _ _ h _ => h.1.ge') fun r3 H3 => ?_
  rintro ⟨c3, rfl⟩
  have o1 := o1.calm c3
  have o2 := o2.calm c3
  have t2 := t2.calm c3
  have c3 := c2.trans c3
  have fin : ∀ H4, ¬ widenP s → Mod r2 H3 H4 → (Calm H H4 ∧ ∃ x, Value.tuple #[.agg #[.int .i64 0, nilS, nilS], .bool false] = .tuple #[x, .bool (dec (widenP s))] ∧ cOS.ok H4 (cellsOf x) (widenR s)) := fun H4 hn hm => ⟨hm.calm c3 hr2, _, by rw [dec_f hn], by rw [widenR_no hn]; exact cOS_none⟩
  cases hd : dec (isOS s)
  · repeat' (first|refine wA ?_|refine wB ?_|refine wH ?_|refine wI ?_|refine wJ ?_|refine wC ?_|refine wD ?_|refine wE ?_|refine wF ?_|refine wG ?_|refine wK ?_|refine wL ?_|refine wM ?_|refine wN ?_|refine wO ?_|refine wP ?_|refine wQ ?_|refine wR ?_|refine wS ?_|refine wT ?_|refine wU ?_|refine wV ?_|refine wW ?_|refine wX ?_)
    refine Ops.build (pl := [(0, 1), (1, 1), (2, 1)]) (zs := [.int .i64 0, .slice none 0 0, .slice none 0 0]) (cs := [.int .i64 0, nilS, nilS]) (by kernel_rfl) (by simp) rfl ?_
    refine Ops.storeS (ds := [.int .i64 0, nilS, nilS]) o2 t2 rfl (by kernel_rfl) rfl rfl fun H4 m4 oz => ?_
    repeat' (first|refine wA ?_|refine wB ?_|refine wH ?_|refine wI ?_|refine wJ ?_|refine wC ?_|refine wD ?_|refine wE ?_|refine wF ?_|refine wG ?_|refine wK ?_|refine wL ?_|refine wM ?_|refine wN ?_|refine wO ?_|refine wP ?_|refine wQ ?_|refine wR ?_|refine wS ?_|refine wT ?_|refine wU ?_|refine wV ?_|refine wW ?_|refine wX ?_)
    refine Run.ret ⟨.inl rfl, ResK.cells rfl oz.pt (by kernel_rfl) (by kernel_rfl) (ResK.tmp rfl (by conv => lhs; whnf) (ResK.nil ?_))⟩
    exact fin H4 (fun h => of_dec_f hd h.1) m4
  · have hd := of_dec_t hd
    repeat' (first|refine wA ?_|refine wB ?_|refine wH ?_|refine wI ?_|refine wJ ?_|refine wC ?_|refine wD ?_|refine wE ?_|refine wF ?_|refine wG ?_|refine wK ?_|refine wL ?_|refine wM ?_|refine wN ?_|refine wO ?_|refine wP ?_|refine wQ ?_|refine wR ?_|refine wS ?_|refine wT ?_|refine wU ?_|refine wV ?_|refine wW ?_|refine wX ?_)
    refine Ops.unS rfl rfl rfl ?_
    refine Ops.fld 0 o1.pt (by kernel_rfl) (by kernel_rfl) rfl fun pz => ?_
    repeat' (first|refine wA ?_|refine wB ?_|refine wH ?_|refine wI ?_|refine wJ ?_|refine wC ?_|refine wD ?_|refine wE ?_|refine wF ?_|refine wG ?_|refine wK ?_|refine wL ?_|refine wM ?_|refine wN ?_|refine wO ?_|refine wP ?_|refine wQ ?_|refine wR ?_|refine wS ?_|refine wT ?_|refine wU ?_|refine wV ?_|refine wW ?_|refine wX ?_)
    refine Ops.cmp rfl rfl rfl (fun hw => ?_) (fun hw => ?_)
    · repeat' (first|refine wA ?_|refine wB ?_|refine wH ?_|refine wI ?_|refine wJ ?_|refine wC ?_|refine wD ?_|refine wE ?_|refine wF ?_|refine wG ?_|refine wK ?_|refine wL ?_|refine wM ?_|refine wN ?_|refine wO ?_|refine wP ?_|refine wQ ?_|refine wR ?_|refine wS ?_|refine wT ?_|refine wU ?_|refine wV ?_|refine wW ?_|refine wX ?_)
      refine Ops.build (pl := [(0, 1), (1, 1), (2, 1)]) (zs := [.int .i64 0, .slice none 0 0, .slice none 0 0]) (cs := [.int .i64 0, nilS, nilS]) (by kernel_rfl) (by simp) rfl ?_
      refine Ops.storeS (ds := [.int .i64 0, nilS, nilS]) o2 t2 rfl (by kernel_rfl) rfl rfl fun H4 m4 oz => ?_
      repeat' (first|refine wA ?_|refine wB ?_|refine wH ?_|refine wI ?_|refine wJ ?_|refine wC ?_|refine wD ?_|refine wE ?_|refine wF ?_|refine wG ?_|refine wK ?_|refine wL ?_|refine wM ?_|refine wN ?_|refine wO ?_|refine wP ?_|refine wQ ?_|refine wR ?_|refine wS ?_|refine wT ?_|refine wU ?_|refine wV ?_|refine wW ?_|refine wX ?_)
      refine Run.ret ⟨.inl rfl, ResK.cells rfl oz.pt (by kernel_rfl) (by kernel_rfl) (ResK.tmp rfl (by conv => lhs; whnf) (ResK.nil ?_))⟩
      exact fin H4 (fun h => h.2 hw) m4
    · have hP : widenP s := ⟨hd, hw⟩
      have hw0 := hd.1
      have hw4 := hd.2.1
      have hcl := hd.2.2.1.1
      obtain ⟨wn, hwn⟩ : ∃ n : Nat, s.width = n := ⟨s.width.toNat, by omega⟩
      have hwt : s.width.toNat = wn := by omega
      have hpl := pats_length (k := (s.consts.length : Int)) (by omega) (by omega) (w := wn + 1) (by omega)
      have h8 : 8 ^ (wn + 1) ≤ 4096 := Nat.le_trans (Nat.pow_le_pow_right (by omega) (show wn + 1 ≤ 4 by omega)) (by decide)
      repeat' (first|refine wA ?_|refine wB ?_|refine wH ?_|refine wI ?_|refine wJ ?_|refine wC ?_|refine wD ?_|refine wE ?_|refine wF ?_|refine wG ?_|refine wK ?_|refine wL ?_|refine wM ?_|refine wN ?_|refine wO ?_|refine wP ?_|refine wQ ?_|refine wR ?_|refine wS ?_|refine wT ?_|refine wU ?_|refine wV ?_|refine wW ?_|refine wX ?_)
      refine Ops.lit0 (cL cI) 24 H3.nxt (by kernel_rfl) (by kernel_rfl) (Nat.le_refl _) fun v4 H4 a4 c4 p4 => ?_
      have o1' := o1.calm c4
      have s1' := s1.calm (c3.trans c4)
      repeat' (first|refine wA ?_|refine wB ?_|refine wH ?_|refine wI ?_|refine wJ ?_|refine wC ?_|refine wD ?_|refine wE ?_|refine wF ?_|refine wG ?_|refine wK ?_|refine wL ?_|refine wM ?_|refine wN ?_|refine wO ?_|refine wP ?_|refine wQ ?_|refine wR ?_|refine wS ?_|refine wT ?_|refine wU ?_|refine wV ?_|refine wW ?_|refine wX ?_)
      refine Ops.fld 0 o1'.pt (by kernel_rfl) (by kernel_rfl) rfl fun pz => ?_
      repeat' (first|refine wA ?_|refine wB ?_|refine wH ?_|refine wI ?_|refine wJ ?_|refine wC ?_|refine wD ?_|refine wE ?_|refine wF ?_|refine wG ?_|refine wK ?_|refine wL ?_|refine wM ?_|refine wN ?_|refine wO ?_|refine wP ?_|refine wQ ?_|refine wR ?_|refine wS ?_|refine wT ?_|refine wU ?_|refine wV ?_|refine wW ?_|refine wX ?_)
      refine Ops.fld 1 o1'.pt (by kernel_rfl) (by kernel_rfl) rfl fun pz => ?_
      repeat' (first|refine wA ?_|refine wB ?_|refine wH ?_|refine wI ?_|refine wJ ?_|refine wC ?_|refine wD ?_|refine wE ?_|refine wF ?_|refine wG ?_|refine wK ?_|refine wL ?_|refine wM ?_|refine wN ?_|refine wO ?_|refine wP ?_|refine wQ ?_|refine wR ?_|refine wS ?_|refine wT ?_|refine wU ?_|refine wV ?_|refine wW ?_|refine wX ?_)
      have hall := l6All_ok (k := (s.consts.length : Int)) (by omega) (by omega) (wn + 1) H4 (by omega)
      rw [show ((wn + 1 : Nat) : Int) = s.width + 1 by omega] at hall
      refine Ops.call hall (fun _ _ h _ => h.1.ge') fun v23 H5 => ?_
      rintro ⟨c5, s23⟩
      repeat' (first|refine wA ?_|refine wB ?_|refine wH ?_|refine wI ?_|refine wJ ?_|refine wC ?_|refine wD ?_|refine wE ?_|refine wF ?_|refine wG ?_|refine wK ?_|refine wL ?_|refine wM ?_|refine wN ?_|refine wO ?_|refine wP ?_|refine wQ ?_|refine wR ?_|refine wS ?_|refine wT ?_|refine wU ?_|refine wV ?_|refine wW ?_|refine wX ?_)
      refine Run.loopW (fun (a : Nat × Value × Hp) => (pats (s.consts.length : Int) (wn + 1)).length - a.1) (fun a => up (up (up (up (up (up (up jk 1 p1) 2 p2) 3 (.bool false)) 4 a.2.1) 23 v23) 24 (.int .i64 (pats (s.consts.length : Int) (wn + 1)).length)) 25 (.int .i64 (a.1 : Int))) (fun a => a.2.2)
        (fun a => a.1 ≤ (pats (s.consts.length : Int) (wn + 1)).length ∧ Calm H3 a.2.2 ∧ Sl (cL cI) a.2.2 v23 (pats (s.consts.length : Int) (wn + 1)) ∧ Ac (cL cI) 24 H3.nxt a.2.2 a.2.1 (((pats (s.consts.length : Int) (wn + 1)).take a.1).filter fun p => dec (p.take wn ∈ s.pats))) (0, v4, H5) rfl (by repeat (first | exact Wk.jk | refine Wk.up rfl ?_)) ⟨by dsimp only; omega, c4.trans c5, s23, by simpa using a4.calm c5⟩ ?_
      clear s23 o1'
      rintro ⟨i, w4, H6⟩ ⟨hi, c6, s23, a6⟩
      dsimp only at hi c6 s23 a6
      dsimp only
      have s1'' := s1.calm (c3.trans c6)
      have s2'' := s2.calm (c3.trans c6)
      have o1' := o1.calm c6
      have hfl : ∀ j, (((pats (s.consts.length : Int) (wn + 1)).take j).filter fun p => dec (p.take wn ∈ s.pats)).length ≤ 4096 := fun j => by
        refine Nat.le_trans (List.length_filter_le _ _) ?_
        rw [List.length_take]; omega
      repeat' (first|refine wA ?_|refine wB ?_|refine wH ?_|refine wI ?_|refine wJ ?_|refine wC ?_|refine wD ?_|refine wE ?_|refine wF ?_|refine wG ?_|refine wK ?_|refine wL ?_|refine wM ?_|refine wN ?_|refine wO ?_|refine wP ?_|refine wQ ?_|refine wR ?_|refine wS ?_|refine wT ?_|refine wU ?_|refine wV ?_|refine wW ?_|refine wX ?_)
      refine Ops.cmp rfl rfl rfl (fun hc => ?_) (fun hc => ?_)
      · repeat' (first|refine wA ?_|refine wB ?_|refine wH ?_|refine wI ?_|refine wJ ?_|refine wC ?_|refine wD ?_|refine wE ?_|refine wF ?_|refine wG ?_|refine wK ?_|refine wL ?_|refine wM ?_|refine wN ?_|refine wO ?_|refine wP ?_|refine wQ ?_|refine wR ?_|refine wS ?_|refine wT ?_|refine wU ?_|refine wV ?_|refine wW ?_|refine wX ?_)
        refine Ops.idx s23 rfl rfl (by omega) (by omega) (by kernel_rfl) (by kernel_rfl) fun pz u a ha hu => ?_
        have ha' : (pats (s.consts.length : Int) (wn + 1))[i]? = some a := ha
        have hal := (pats_mem (by omega) (List.mem_of_getElem? ha')).1
        have hne : a ≠ [] := fun e => by rw [e] at hal; simp at hal
        repeat' (first|refine wA ?_|refine wB ?_|refine wH ?_|refine wI ?_|refine wJ ?_|refine wC ?_|refine wD ?_|refine wE ?_|refine wF ?_|refine wG ?_|refine wK ?_|refine wL ?_|refine wM ?_|refine wN ?_|refine wO ?_|refine wP ?_|refine wQ ?_|refine wR ?_|refine wS ?_|refine wT ?_|refine wU ?_|refine wV ?_|refine wW ?_|refine wX ?_)
        refine Run.draw [0, 1, 2, 3, 4, 5, 6] Try.checked.mixed (by kernel_rfl) ?_
        refine Ops.fld 2 o1'.pt (by kernel_rfl) (by kernel_rfl) rfl fun pz => ?_
        repeat' (first|refine wA ?_|refine wB ?_|refine wH ?_|refine wI ?_|refine wJ ?_|refine wC ?_|refine wD ?_|refine wE ?_|refine wF ?_|refine wG ?_|refine wK ?_|refine wL ?_|refine wM ?_|refine wN ?_|refine wO ?_|refine wP ?_|refine wQ ?_|refine wR ?_|refine wS ?_|refine wT ?_|refine wU ?_|refine wV ?_|refine wW ?_|refine wX ?_)
        refine Ops.fld 0 o1'.pt (by kernel_rfl) (by kernel_rfl) rfl fun pz => ?_
        refine Ops.sliceH (cL_at hu) hne rfl (by omega) (by omega) (by kernel_rfl) fun v34 s34 _ => ?_
        rw [hwt] at s34
        refine Ops.callB (l6There_ok s2'' s34) (fun hd6 => ?_) (fun hd6 => ?_)
        · repeat' (first|refine wA ?_|refine wB ?_|refine wH ?_|refine wI ?_|refine wJ ?_|refine wC ?_|refine wD ?_|refine wE ?_|refine wF ?_|refine wG ?_|refine wK ?_|refine wL ?_|refine wM ?_|refine wN ?_|refine wO ?_|refine wP ?_|refine wQ ?_|refine wR ?_|refine wS ?_|refine wT ?_|refine wU ?_|refine wV ?_|refine wW ?_|refine wX ?_)
          refine Ops.push (a := a) (rdL rdI) a6 (cL_of (cL_at hu)) (by simp) c6.1 (by kernel_rfl) (by kernel_rfl) (by kernel_rfl) (by have := hfl i; omega) (by decide) fun pz v7 H7 a7 g7 => ?_
          repeat' (first|refine wA ?_|refine wB ?_|refine wH ?_|refine wI ?_|refine wJ ?_|refine wC ?_|refine wD ?_|refine wE ?_|refine wF ?_|refine wG ?_|refine wK ?_|refine wL ?_|refine wM ?_|refine wN ?_|refine wO ?_|refine wP ?_|refine wQ ?_|refine wR ?_|refine wS ?_|refine wT ?_|refine wU ?_|refine wV ?_|refine wW ?_|refine wX ?_)
          refine ⟨(i + 1, v7, H7), by dsimp only; omega, rfl, rfl, by dsimp only; exact (by repeat (first | exact Wk.jk | refine Wk.up rfl ?_)), ?_⟩
          refine ⟨by dsimp only; omega, g7.calm H3 (Nat.le_refl _) c6, g7.sl (rdL rdI) s23, ?_⟩
          dsimp only
          rw [take_snoc ha', List.filter_append, List.filter_cons, if_pos hd6]
          exact a7
        · repeat' (first|refine wA ?_|refine wB ?_|refine wH ?_|refine wI ?_|refine wJ ?_|refine wC ?_|refine wD ?_|refine wE ?_|refine wF ?_|refine wG ?_|refine wK ?_|refine wL ?_|refine wM ?_|refine wN ?_|refine wO ?_|refine wP ?_|refine wQ ?_|refine wR ?_|refine wS ?_|refine wT ?_|refine wU ?_|refine wV ?_|refine wW ?_|refine wX ?_)
          refine ⟨(i + 1, w4, H6), by dsimp only; omega, rfl, rfl, by dsimp only; exact (by repeat (first | exact Wk.jk | refine Wk.up rfl ?_)), ?_⟩
          refine ⟨by dsimp only; omega, c6, s23, ?_⟩
          dsimp only
          rw [take_snoc ha', List.filter_append, List.filter_cons, if_neg (by rw [hd6]; simp)]
          simpa using a6
      · rw [take_end (by omega)] at a6
        repeat' (first|refine wA ?_|refine wB ?_|refine wH ?_|refine wI ?_|refine wJ ?_|refine wC ?_|refine wD ?_|refine wE ?_|refine wF ?_|refine wG ?_|refine wK ?_|refine wL ?_|refine wM ?_|refine wN ?_|refine wO ?_|refine wP ?_|refine wQ ?_|refine wR ?_|refine wS ?_|refine wT ?_|refine wU ?_|refine wV ?_|refine wW ?_|refine wX ?_)
        refine Ops.fld 0 o1'.pt (by kernel_rfl) (by kernel_rfl) rfl fun pz => ?_
        repeat' (first|refine wA ?_|refine wB ?_|refine wH ?_|refine wI ?_|refine wJ ?_|refine wC ?_|refine wD ?_|refine wE ?_|refine wF ?_|refine wG ?_|refine wK ?_|refine wL ?_|refine wM ?_|refine wN ?_|refine wO ?_|refine wP ?_|refine wQ ?_|refine wR ?_|refine wS ?_|refine wT ?_|refine wU ?_|refine wV ?_|refine wW ?_|refine wX ?_)
        refine Ops.fld 1 o1'.pt (by kernel_rfl) (by kernel_rfl) rfl fun pz => ?_
        repeat' (first|refine wA ?_|refine wB ?_|refine wH ?_|refine wI ?_|refine wJ ?_|refine wC ?_|refine wD ?_|refine wE ?_|refine wF ?_|refine wG ?_|refine wK ?_|refine wL ?_|refine wM ?_|refine wN ?_|refine wO ?_|refine wP ?_|refine wQ ?_|refine wR ?_|refine wS ?_|refine wT ?_|refine wU ?_|refine wV ?_|refine wW ?_|refine wX ?_)
        have hth := l6Those_ok (w := wn + 1) s1'' hcl (by omega) a6.sl
        rw [show ((wn + 1 : Nat) : Int) = s.width + 1 by omega] at hth
        refine Ops.call hth (fun _ _ h _ => h.1.ge') fun r7 H7 => ?_
        rintro ⟨c7, s7, w7, n7, k7⟩
        have c37 := c6.trans c7
        have o7 := o2.calm c37
        have t7 : Rt H7 p2 r2 := t2.calm c37
        have hr6 : r2 < H6.nxt := by
          obtain ⟨id, g1, g2, g3, g4⟩ := t2.calm c6
          have := H6.rt id g2
          omega
        have hz : szT Try.prog 44 (cellsOf r7).length = true := n7.symm ▸ (show szT Try.prog 44 3 = true by kernel_rfl)
        refine Ops.storeS (ds := cellsOf r7) o7 t7 rfl hz (by rw [n7]; rfl) w7 fun H8 m8 oz => ?_
        have s8 := k7 p2 r2 H8 (o2.live.calm c6) t7 hr6 m8
        repeat' (first|refine wA ?_|refine wB ?_|refine wH ?_|refine wI ?_|refine wJ ?_|refine wC ?_|refine wD ?_|refine wE ?_|refine wF ?_|refine wG ?_|refine wK ?_|refine wL ?_|refine wM ?_|refine wN ?_|refine wO ?_|refine wP ?_|refine wQ ?_|refine wR ?_|refine wS ?_|refine wT ?_|refine wU ?_|refine wV ?_|refine wW ?_|refine wX ?_)
        refine Run.ret ⟨.inl rfl, ResK.cells rfl oz.pt (by kernel_rfl) hz (ResK.tmp rfl (by conv => lhs; whnf) (ResK.nil ?_))⟩
        refine ⟨m8.calm (c3.trans c37) hr2, .agg (cellsOf r7).toArray, by rw [dec_t hP]; rfl, ?_⟩
        rw [widenR_yes hP, hwt]
        show cOS.ok H8 (cellsOf (.agg (cellsOf r7).toArray)) _
        have e : cellsOf (.agg (cellsOf r7).toArray) = cellsOf r7 := by simp [cellsOf]
        have e2 : thoseL (s.consts.length : Int) (wn + 1) ((pats (s.consts.length : Int) (wn + 1)).filter fun p => dec (p.take wn ∈ s.pats)) = thoseL (s.consts.length : Int) (wn + 1) (s.pats.flatMap (longerL s.consts.length)) := by
          refine thoseL_congr fun p hp => ?_
          rw [List.mem_filter, widen_mem (by omega) (fun q hq => by obtain ⟨i, hi⟩ := List.mem_iff_getElem?.1 hq; have := (hd.2.2.2 i q hi).1.1; omega) hp]
          exact ⟨fun h => of_dec_t h.2, fun h => ⟨hp, dec_t h⟩⟩
        rw [e, ← e2]
        exact s8

end Go.Proofs.Ytefmjpbmdoebaaa

/- WidenSet, by the program and by the reference: as the law's body asks for it. -/
set_option linter.unusedVariables false
namespace Go.Proofs.Ytefmjpbmdoebaaa
open Go Go.RowKit

theorem sp_WidenSet {H : Hp} {a0 : Value} {s : OS} (s0 : S_OS H a0 s) (b0 : B_OS s) :
    CallK Try.prog 48 [a0] H (fun r H' => Calm H H' ∧ ∃ x, r = .tuple #[x, .bool (dec (widenP s))] ∧ S_OS H' x (widenR s)) := specWidenSet_ok s0 b0.2.1
theorem im_WidenSet {H : Hp} {a0 : Value} {s : OS} (s0 : S_OS H a0 s) (b0 : B_OS s) :
    CallK Try.prog 49 [a0] H (fun r H' => Calm H H' ∧ ∃ x, r = .tuple #[x, .bool (dec (widenP s))] ∧ O_OS H.nxt H'.nxt H' x (widenR s)) :=
  (WidenSet_ok s0 b0.2.1).mono fun _ _ ⟨h1, x, ms, h2, h3⟩ => ⟨h1, x, h2, .of h3⟩
theorem zb_WidenSet_0 {s : OS} (b0 : B_OS s) : 0 ≤ z_OS (widenR s) ∧ z_OS (widenR s) ≤ 4194304 := by
  by_cases h : widenP s
  · rw [widenR_yes h]
    have := h.1.2.2.1.1
    have := h.1.2.1
    have := h.1.1
    have := h.2
    have := (thoseL_tot (k := (s.consts.length : Int)) (by omega) (by omega) (w := s.width.toNat + 1) (by omega) (l := s.pats.flatMap (longerL s.consts.length))).2
    unfold z_OS; dsimp only; omega
  · rw [widenR_no h]; simp [z_OS, noOS, tot]

end Go.Proofs.Ytefmjpbmdoebaaa

/- The law FnExactWidenSet: whatever the arguments are, the law returns true; no condition. This text: the law's own body. -/
set_option linter.unusedVariables false
namespace Go.Proofs.Ytefmjpbmdoebaaa
open Go Go.RowKit

theorem lawWidenSet_ok {H : Hp} {a0 : Value} {d0 : OS} (s0 : S_OS H a0 d0) : CallK Try.prog 12 [a0] H (fun r _ => r = .bool true) := by
  refine (CallK.enter Try.func12 rfl rfl Try.ntmps12 Try.results12 rfl ?_)
  obtain ⟨n0, e0, _⟩ := s0.val
  have y0 : szT Try.prog 41 (cellsOf a0).length = true := n0.symm ▸ (show szT Try.prog 41 3 = true by kernel_rfl)
  repeat' (first|refine wA ?_|refine wB ?_|refine wH ?_|refine wI ?_|refine wJ ?_|refine wC ?_|refine wD ?_|refine wE ?_|refine wF ?_|refine wG ?_|refine wK ?_|refine wL ?_|refine wM ?_|refine wN ?_|refine wO ?_|refine wP ?_|refine wQ ?_|refine wR ?_|refine wS ?_|refine wT ?_|refine wU ?_|refine wV ?_|refine wW ?_|refine wX ?_)
  refine Ops.box H.nxt (Nat.le_refl _) (one_known e0) (cs := cellsOf a0) rfl (by omega) fun pb0 H1 ob0 c1 _ => ?_
  have s0 := s0.calm c1
  repeat' (first|refine wA ?_|refine wB ?_|refine wH ?_|refine wI ?_|refine wJ ?_|refine wC ?_|refine wD ?_|refine wE ?_|refine wF ?_|refine wG ?_|refine wK ?_|refine wL ?_|refine wM ?_|refine wN ?_|refine wO ?_|refine wP ?_|refine wQ ?_|refine wR ?_|refine wS ?_|refine wT ?_|refine wU ?_|refine wV ?_|refine wW ?_|refine wX ?_)
  refine Ops.loadS ob0.pt (by kernel_rfl) y0 ?_
  try repeat' (first|refine wA ?_|refine wB ?_|refine wH ?_|refine wI ?_|refine wJ ?_|refine wC ?_|refine wD ?_|refine wE ?_|refine wF ?_|refine wG ?_|refine wK ?_|refine wL ?_|refine wM ?_|refine wN ?_|refine wO ?_|refine wP ?_|refine wQ ?_|refine wR ?_|refine wS ?_|refine wT ?_|refine wU ?_|refine wV ?_|refine wW ?_|refine wX ?_)
  refine Ops.call (sz_OS s0.val.2.2 (by omega) (by omega)) (fun _ _ h _ => h.1.ge') fun r0 H2 => ?_
  rintro ⟨c2, x0, rfl, hx0⟩
  have s0 := s0.calm c2
  have ob0 := ob0.calm c2
  repeat' (first|refine wA ?_|refine wB ?_|refine wH ?_|refine wI ?_|refine wJ ?_|refine wC ?_|refine wD ?_|refine wE ?_|refine wF ?_|refine wG ?_|refine wK ?_|refine wL ?_|refine wM ?_|refine wN ?_|refine wO ?_|refine wP ?_|refine wQ ?_|refine wR ?_|refine wS ?_|refine wT ?_|refine wU ?_|refine wV ?_|refine wW ?_|refine wX ?_)
  refine Ops.cmp rfl rfl rfl (fun g0 => ?_) (fun g0 => ?_)
  · repeat' (first|refine wA ?_|refine wB ?_|refine wH ?_|refine wI ?_|refine wJ ?_|refine wC ?_|refine wD ?_|refine wE ?_|refine wF ?_|refine wG ?_|refine wK ?_|refine wL ?_|refine wM ?_|refine wN ?_|refine wO ?_|refine wP ?_|refine wQ ?_|refine wR ?_|refine wS ?_|refine wT ?_|refine wU ?_|refine wV ?_|refine wW ?_|refine wX ?_)
    refine Run.ret ⟨.inl rfl, ResK.tmp rfl (by conv => lhs; whnf) (ResK.nil ?_)⟩
    rfl
  obtain ⟨hx0, hw0, b0⟩ : 0 ≤ x0 ∧ x0 ≤ 1048576 ∧ B_OS d0 := hx0.resolve_left (by omega)
  repeat' (first|refine wA ?_|refine wB ?_|refine wH ?_|refine wI ?_|refine wJ ?_|refine wC ?_|refine wD ?_|refine wE ?_|refine wF ?_|refine wG ?_|refine wK ?_|refine wL ?_|refine wM ?_|refine wN ?_|refine wO ?_|refine wP ?_|refine wQ ?_|refine wR ?_|refine wS ?_|refine wT ?_|refine wU ?_|refine wV ?_|refine wW ?_|refine wX ?_)
  have z0 := B_OS.z b0
  have zg0 := zb_WidenSet_0 b0
  refine Ops.loadS ob0.pt (by kernel_rfl) y0 ?_
  try repeat' (first|refine wA ?_|refine wB ?_|refine wH ?_|refine wI ?_|refine wJ ?_|refine wC ?_|refine wD ?_|refine wE ?_|refine wF ?_|refine wG ?_|refine wK ?_|refine wL ?_|refine wM ?_|refine wN ?_|refine wO ?_|refine wP ?_|refine wQ ?_|refine wR ?_|refine wS ?_|refine wT ?_|refine wU ?_|refine wV ?_|refine wW ?_|refine wX ?_)
  refine Ops.call (to_OS s0.val.2.2 b0) (fun _ _ h _ => h.1.ge') fun u0v H3 => ?_
  rintro ⟨c3, u0⟩
  have s0 := s0.calm c3
  have ob0 := ob0.calm c3
  try repeat' (first|refine wA ?_|refine wB ?_|refine wH ?_|refine wI ?_|refine wJ ?_|refine wC ?_|refine wD ?_|refine wE ?_|refine wF ?_|refine wG ?_|refine wK ?_|refine wL ?_|refine wM ?_|refine wN ?_|refine wO ?_|refine wP ?_|refine wQ ?_|refine wR ?_|refine wS ?_|refine wT ?_|refine wU ?_|refine wV ?_|refine wW ?_|refine wX ?_)
  refine Ops.call (sp_WidenSet u0.s b0) (fun _ _ h _ => h.1.ge') fun rr H4 => ?_
  rintro ⟨c4, w0v, rfl, w0⟩
  have s0 := s0.calm c4
  have ob0 := ob0.calm c4
  repeat' (first|refine wA ?_|refine wB ?_|refine wH ?_|refine wI ?_|refine wJ ?_|refine wC ?_|refine wD ?_|refine wE ?_|refine wF ?_|refine wG ?_|refine wK ?_|refine wL ?_|refine wM ?_|refine wN ?_|refine wO ?_|refine wP ?_|refine wQ ?_|refine wR ?_|refine wS ?_|refine wT ?_|refine wU ?_|refine wV ?_|refine wW ?_|refine wX ?_)
  obtain ⟨nw0, ew0, _⟩ := w0.val
  have yw0 : szT Try.prog 44 (cellsOf w0v).length = true := nw0.symm ▸ (show szT Try.prog 44 3 = true by kernel_rfl)
  refine Ops.var H4.nxt (Nat.le_refl _) (z0 := .agg #[.int .i64 0, nilS, nilS]) (by kernel_rfl) (by rfl) (by decide) (ds := cellsOf w0v) rfl (by simp) yw0 (by rw [nw0]; rfl) ew0 fun pw0 H5 ow0 c5 _ => ?_
  have s0 := s0.calm c5
  have ob0 := ob0.calm c5
  have w0 := w0.calm c5
  repeat' (first|refine wA ?_|refine wB ?_|refine wH ?_|refine wI ?_|refine wJ ?_|refine wC ?_|refine wD ?_|refine wE ?_|refine wF ?_|refine wG ?_|refine wK ?_|refine wL ?_|refine wM ?_|refine wN ?_|refine wO ?_|refine wP ?_|refine wQ ?_|refine wR ?_|refine wS ?_|refine wT ?_|refine wU ?_|refine wV ?_|refine wW ?_|refine wX ?_)
  have cb := Calm.refl H5
  refine Ops.loadS (ob0.calm cb).pt (by kernel_rfl) y0 ?_
  try repeat' (first|refine wA ?_|refine wB ?_|refine wH ?_|refine wI ?_|refine wJ ?_|refine wC ?_|refine wD ?_|refine wE ?_|refine wF ?_|refine wG ?_|refine wK ?_|refine wL ?_|refine wM ?_|refine wN ?_|refine wO ?_|refine wP ?_|refine wQ ?_|refine wR ?_|refine wS ?_|refine wT ?_|refine wU ?_|refine wV ?_|refine wW ?_|refine wX ?_)
  refine Ops.call (to_OS (s0.calm cb).val.2.2 b0) (fun _ _ h _ => h.1.ge') fun x0v H6 => ?_
  rintro ⟨c6, x0⟩
  have cb := cb.trans c6
  have := c6.1
  have kx0 : H5.nxt ≤ H5.nxt := by have := cb.1; have := c6.1; omega
  have ky0 := c6.1
  obtain ⟨q0a, q0b, q0c, ex0⟩ := x0.agg
  subst ex0
  refine Ops.var H6.nxt (Nat.le_refl _) (z0 := .agg #[.int .i64 0, nilS, nilS]) (by kernel_rfl) (by rfl) (by decide) rfl (by simp) (by kernel_rfl) rfl x0.s.val.2.1 fun px0 H7 ox0 c7 _ => ?_
  have cb := cb.trans c7
  have := c7.1
  have x0 := x0.calm c7
  have ky0 := Nat.le_trans ky0 c7.1
  repeat' (first|refine wA ?_|refine wB ?_|refine wH ?_|refine wI ?_|refine wJ ?_|refine wC ?_|refine wD ?_|refine wE ?_|refine wF ?_|refine wG ?_|refine wK ?_|refine wL ?_|refine wM ?_|refine wN ?_|refine wO ?_|refine wP ?_|refine wQ ?_|refine wR ?_|refine wS ?_|refine wT ?_|refine wU ?_|refine wV ?_|refine wW ?_|refine wX ?_)
  refine Ops.loadS ox0.pt (by kernel_rfl) (by kernel_rfl) ?_
  try repeat' (first|refine wA ?_|refine wB ?_|refine wH ?_|refine wI ?_|refine wJ ?_|refine wC ?_|refine wD ?_|refine wE ?_|refine wF ?_|refine wG ?_|refine wK ?_|refine wL ?_|refine wM ?_|refine wN ?_|refine wO ?_|refine wP ?_|refine wQ ?_|refine wR ?_|refine wS ?_|refine wT ?_|refine wU ?_|refine wV ?_|refine wW ?_|refine wX ?_)
  refine Ops.call (im_WidenSet x0.s b0) (fun _ _ h _ => h.1.ge') fun rr H8 => ?_
  rintro ⟨c8, g0v, rfl, g0⟩
  have cb := cb.trans c8
  have := c8.1
  have x0 := x0.calm c8
  have ox0 := ox0.calm c8
  have kg := c8.1
  repeat' (first|refine wA ?_|refine wB ?_|refine wH ?_|refine wI ?_|refine wJ ?_|refine wC ?_|refine wD ?_|refine wE ?_|refine wF ?_|refine wG ?_|refine wK ?_|refine wL ?_|refine wM ?_|refine wN ?_|refine wO ?_|refine wP ?_|refine wQ ?_|refine wR ?_|refine wS ?_|refine wT ?_|refine wU ?_|refine wV ?_|refine wW ?_|refine wX ?_)
  obtain ⟨qg0a, qg0b, qg0c, exg0⟩ := g0.agg
  subst exg0
  refine Ops.var H8.nxt (Nat.le_refl _) (z0 := .agg #[.int .i64 0, nilS, nilS]) (by kernel_rfl) (by rfl) (by decide) rfl (by simp) (by kernel_rfl) rfl g0.s.val.2.1 fun pg0 H9 og0 c9 _ => ?_
  have cb := cb.trans c9
  have := c9.1
  have x0 := x0.calm c9
  have ox0 := ox0.calm c9
  have g0 := g0.calm c9
  repeat' (first|refine wA ?_|refine wB ?_|refine wH ?_|refine wI ?_|refine wJ ?_|refine wC ?_|refine wD ?_|refine wE ?_|refine wF ?_|refine wG ?_|refine wK ?_|refine wL ?_|refine wM ?_|refine wN ?_|refine wO ?_|refine wP ?_|refine wQ ?_|refine wR ?_|refine wS ?_|refine wT ?_|refine wU ?_|refine wV ?_|refine wW ?_|refine wX ?_)
  refine Ops.loadS og0.pt (by kernel_rfl) (by kernel_rfl) ?_
  try repeat' (first|refine wA ?_|refine wB ?_|refine wH ?_|refine wI ?_|refine wJ ?_|refine wC ?_|refine wD ?_|refine wE ?_|refine wF ?_|refine wG ?_|refine wK ?_|refine wL ?_|refine wM ?_|refine wN ?_|refine wO ?_|refine wP ?_|refine wQ ?_|refine wR ?_|refine wS ?_|refine wT ?_|refine wU ?_|refine wV ?_|refine wW ?_|refine wX ?_)
  refine Ops.loadS (ow0.calm cb).pt (by kernel_rfl) yw0 ?_
  try repeat' (first|refine wA ?_|refine wB ?_|refine wH ?_|refine wI ?_|refine wJ ?_|refine wC ?_|refine wD ?_|refine wE ?_|refine wF ?_|refine wG ?_|refine wK ?_|refine wL ?_|refine wM ?_|refine wN ?_|refine wO ?_|refine wP ?_|refine wQ ?_|refine wR ?_|refine wS ?_|refine wT ?_|refine wU ?_|refine wV ?_|refine wW ?_|refine wX ?_)
  refine Ops.call (eq_OS g0.s (w0.calm cb).val.2.2) (fun _ _ h _ => h.1.ge') fun rr H10 => ?_
  rintro ⟨c10, rfl⟩
  have cb := cb.trans c10
  have := c10.1
  have x0 := x0.calm c10
  have ox0 := ox0.calm c10
  have g0 := g0.calm c10
  have og0 := og0.calm c10
  repeat' (first|refine wA ?_|refine wB ?_|refine wH ?_|refine wI ?_|refine wJ ?_|refine wC ?_|refine wD ?_|refine wE ?_|refine wF ?_|refine wG ?_|refine wK ?_|refine wL ?_|refine wM ?_|refine wN ?_|refine wO ?_|refine wP ?_|refine wQ ?_|refine wR ?_|refine wS ?_|refine wT ?_|refine wU ?_|refine wV ?_|refine wW ?_|refine wX ?_)
  refine Ops.bne_same rfl rfl (by kernel_rfl) ?_
  repeat' (first|refine wA ?_|refine wB ?_|refine wH ?_|refine wI ?_|refine wJ ?_|refine wC ?_|refine wD ?_|refine wE ?_|refine wF ?_|refine wG ?_|refine wK ?_|refine wL ?_|refine wM ?_|refine wN ?_|refine wO ?_|refine wP ?_|refine wQ ?_|refine wR ?_|refine wS ?_|refine wT ?_|refine wU ?_|refine wV ?_|refine wW ?_|refine wX ?_)
  refine Run.draw [1, 2, 0, 3, 4] Try.checked.mixed (by kernel_rfl) ?_
  refine Ops.loadS (ob0.calm cb).pt (by kernel_rfl) y0 ?_
  try repeat' (first|refine wA ?_|refine wB ?_|refine wH ?_|refine wI ?_|refine wJ ?_|refine wC ?_|refine wD ?_|refine wE ?_|refine wF ?_|refine wG ?_|refine wK ?_|refine wL ?_|refine wM ?_|refine wN ?_|refine wO ?_|refine wP ?_|refine wQ ?_|refine wR ?_|refine wS ?_|refine wT ?_|refine wU ?_|refine wV ?_|refine wW ?_|refine wX ?_)
  refine Ops.call (to_OS (s0.calm cb).val.2.2 b0) (fun _ _ h _ => h.1.ge') fun v0 H11 => ?_
  rintro ⟨c11, v0o⟩
  have cb := cb.trans c11
  have := c11.1
  have x0 := x0.calm c11
  have ox0 := ox0.calm c11
  have g0 := g0.calm c11
  have og0 := og0.calm c11
  refine Ops.loadS ox0.pt (by kernel_rfl) (by kernel_rfl) ?_
  refine Ops.call (eq_OS x0.s v0o.s) (fun _ _ h _ => h.1.ge') fun rr H12 => ?_
  rintro ⟨c12, rfl⟩
  have cb := cb.trans c12
  have := c12.1
  have x0 := x0.calm c12
  have ox0 := ox0.calm c12
  have g0 := g0.calm c12
  have og0 := og0.calm c12
  repeat' (first|refine wA ?_|refine wB ?_|refine wH ?_|refine wI ?_|refine wJ ?_|refine wC ?_|refine wD ?_|refine wE ?_|refine wF ?_|refine wG ?_|refine wK ?_|refine wL ?_|refine wM ?_|refine wN ?_|refine wO ?_|refine wP ?_|refine wQ ?_|refine wR ?_|refine wS ?_|refine wT ?_|refine wU ?_|refine wV ?_|refine wW ?_|refine wX ?_)
  refine Ops.loadS ox0.pt (by kernel_rfl) (by kernel_rfl) ?_
  try repeat' (first|refine wA ?_|refine wB ?_|refine wH ?_|refine wI ?_|refine wJ ?_|refine wC ?_|refine wD ?_|refine wE ?_|refine wF ?_|refine wG ?_|refine wK ?_|refine wL ?_|refine wM ?_|refine wN ?_|refine wO ?_|refine wP ?_|refine wQ ?_|refine wR ?_|refine wS ?_|refine wT ?_|refine wU ?_|refine wV ?_|refine wW ?_|refine wX ?_)
  refine Ops.call (mark_OS x0 (by omega) (by omega)) (fun _ _ _ hf => by cases hf) fun rr H13 => ?_
  rintro ⟨rfl, _, m0, f0⟩
  have cb := m0 H5 kx0 cb
  have g0 := g0.far (by omega) f0
  have og0 := og0.far (by omega) f0
  repeat' (first|refine wA ?_|refine wB ?_|refine wH ?_|refine wI ?_|refine wJ ?_|refine wC ?_|refine wD ?_|refine wE ?_|refine wF ?_|refine wG ?_|refine wK ?_|refine wL ?_|refine wM ?_|refine wN ?_|refine wO ?_|refine wP ?_|refine wQ ?_|refine wR ?_|refine wS ?_|refine wT ?_|refine wU ?_|refine wV ?_|refine wW ?_|refine wX ?_)
  refine Ops.cmp rfl rfl rfl (fun hc => ?_) (fun hc => ?_)
  · omega
  repeat' (first|refine wA ?_|refine wB ?_|refine wH ?_|refine wI ?_|refine wJ ?_|refine wC ?_|refine wD ?_|refine wE ?_|refine wF ?_|refine wG ?_|refine wK ?_|refine wL ?_|refine wM ?_|refine wN ?_|refine wO ?_|refine wP ?_|refine wQ ?_|refine wR ?_|refine wS ?_|refine wT ?_|refine wU ?_|refine wV ?_|refine wW ?_|refine wX ?_)
  refine Ops.loadS og0.pt (by kernel_rfl) (by kernel_rfl) ?_
  try repeat' (first|refine wA ?_|refine wB ?_|refine wH ?_|refine wI ?_|refine wJ ?_|refine wC ?_|refine wD ?_|refine wE ?_|refine wF ?_|refine wG ?_|refine wK ?_|refine wL ?_|refine wM ?_|refine wN ?_|refine wO ?_|refine wP ?_|refine wQ ?_|refine wR ?_|refine wS ?_|refine wT ?_|refine wU ?_|refine wV ?_|refine wW ?_|refine wX ?_)
  refine Ops.loadS (ow0.calm cb).pt (by kernel_rfl) yw0 ?_
  try repeat' (first|refine wA ?_|refine wB ?_|refine wH ?_|refine wI ?_|refine wJ ?_|refine wC ?_|refine wD ?_|refine wE ?_|refine wF ?_|refine wG ?_|refine wK ?_|refine wL ?_|refine wM ?_|refine wN ?_|refine wO ?_|refine wP ?_|refine wQ ?_|refine wR ?_|refine wS ?_|refine wT ?_|refine wU ?_|refine wV ?_|refine wW ?_|refine wX ?_)
  refine Ops.call (eq_OS g0.s (w0.calm cb).val.2.2) (fun _ _ h _ => h.1.ge') fun rr H14 => ?_
  rintro ⟨c14, rfl⟩
  have cb := cb.trans c14
  have := c14.1
  have g0 := g0.calm c14
  have og0 := og0.calm c14
  repeat' (first|refine wA ?_|refine wB ?_|refine wH ?_|refine wI ?_|refine wJ ?_|refine wC ?_|refine wD ?_|refine wE ?_|refine wF ?_|refine wG ?_|refine wK ?_|refine wL ?_|refine wM ?_|refine wN ?_|refine wO ?_|refine wP ?_|refine wQ ?_|refine wR ?_|refine wS ?_|refine wT ?_|refine wU ?_|refine wV ?_|refine wW ?_|refine wX ?_)
  refine Ops.bne_same rfl rfl (by kernel_rfl) ?_
  repeat' (first|refine wA ?_|refine wB ?_|refine wH ?_|refine wI ?_|refine wJ ?_|refine wC ?_|refine wD ?_|refine wE ?_|refine wF ?_|refine wG ?_|refine wK ?_|refine wL ?_|refine wM ?_|refine wN ?_|refine wO ?_|refine wP ?_|refine wQ ?_|refine wR ?_|refine wS ?_|refine wT ?_|refine wU ?_|refine wV ?_|refine wW ?_|refine wX ?_)
  refine Ops.loadS og0.pt (by kernel_rfl) (by kernel_rfl) ?_
  try repeat' (first|refine wA ?_|refine wB ?_|refine wH ?_|refine wI ?_|refine wJ ?_|refine wC ?_|refine wD ?_|refine wE ?_|refine wF ?_|refine wG ?_|refine wK ?_|refine wL ?_|refine wM ?_|refine wN ?_|refine wO ?_|refine wP ?_|refine wQ ?_|refine wR ?_|refine wS ?_|refine wT ?_|refine wU ?_|refine wV ?_|refine wW ?_|refine wX ?_)
  refine Ops.call (mark_OS g0 (by omega) (by omega)) (fun _ _ _ hf => by cases hf) fun rr H15 => ?_
  rintro ⟨rfl, mk0, mm, ff⟩
  have cb := mm H5 (by omega) cb
  have og0 := og0.far (by omega) ff
  repeat' (first|refine wA ?_|refine wB ?_|refine wH ?_|refine wI ?_|refine wJ ?_|refine wC ?_|refine wD ?_|refine wE ?_|refine wF ?_|refine wG ?_|refine wK ?_|refine wL ?_|refine wM ?_|refine wN ?_|refine wO ?_|refine wP ?_|refine wQ ?_|refine wR ?_|refine wS ?_|refine wT ?_|refine wU ?_|refine wV ?_|refine wW ?_|refine wX ?_)
  refine Ops.loadS og0.pt (by kernel_rfl) (by kernel_rfl) ?_
  try repeat' (first|refine wA ?_|refine wB ?_|refine wH ?_|refine wI ?_|refine wJ ?_|refine wC ?_|refine wD ?_|refine wE ?_|refine wF ?_|refine wG ?_|refine wK ?_|refine wL ?_|refine wM ?_|refine wN ?_|refine wO ?_|refine wP ?_|refine wQ ?_|refine wR ?_|refine wS ?_|refine wT ?_|refine wU ?_|refine wV ?_|refine wW ?_|refine wX ?_)
  refine Ops.call (held_OS mk0 (by omega) (by omega)) (fun _ _ h _ => h.1.ge') fun rr H16 => ?_
  rintro ⟨c16, rfl⟩
  have cb := cb.trans c16
  have := c16.1
  have og0 := og0.calm c16
  have mk0 := mk0.calm c16
  repeat' (first|refine wA ?_|refine wB ?_|refine wH ?_|refine wI ?_|refine wJ ?_|refine wC ?_|refine wD ?_|refine wE ?_|refine wF ?_|refine wG ?_|refine wK ?_|refine wL ?_|refine wM ?_|refine wN ?_|refine wO ?_|refine wP ?_|refine wQ ?_|refine wR ?_|refine wS ?_|refine wT ?_|refine wU ?_|refine wV ?_|refine wW ?_|refine wX ?_)
  refine Ops.cmp rfl rfl rfl (fun hc => ?_) (fun hc => ?_)
  · omega
  repeat' (first|refine wA ?_|refine wB ?_|refine wH ?_|refine wI ?_|refine wJ ?_|refine wC ?_|refine wD ?_|refine wE ?_|refine wF ?_|refine wG ?_|refine wK ?_|refine wL ?_|refine wM ?_|refine wN ?_|refine wO ?_|refine wP ?_|refine wQ ?_|refine wR ?_|refine wS ?_|refine wT ?_|refine wU ?_|refine wV ?_|refine wW ?_|refine wX ?_)
  refine Ops.cmpn rfl rfl (fun hne => ?_) (fun hne => ?_)
  · exact absurd rfl hne
  repeat' (first|refine wA ?_|refine wB ?_|refine wH ?_|refine wI ?_|refine wJ ?_|refine wC ?_|refine wD ?_|refine wE ?_|refine wF ?_|refine wG ?_|refine wK ?_|refine wL ?_|refine wM ?_|refine wN ?_|refine wO ?_|refine wP ?_|refine wQ ?_|refine wR ?_|refine wS ?_|refine wT ?_|refine wU ?_|refine wV ?_|refine wW ?_|refine wX ?_)
  refine Ops.loadS (ob0.calm cb).pt (by kernel_rfl) y0 ?_
  try repeat' (first|refine wA ?_|refine wB ?_|refine wH ?_|refine wI ?_|refine wJ ?_|refine wC ?_|refine wD ?_|refine wE ?_|refine wF ?_|refine wG ?_|refine wK ?_|refine wL ?_|refine wM ?_|refine wN ?_|refine wO ?_|refine wP ?_|refine wQ ?_|refine wR ?_|refine wS ?_|refine wT ?_|refine wU ?_|refine wV ?_|refine wW ?_|refine wX ?_)
  refine Ops.call (to_OS (s0.calm cb).val.2.2 b0) (fun _ _ h _ => h.1.ge') fun t0v H17 => ?_
  rintro ⟨c17, t0⟩
  have cb := cb.trans c17
  have := c17.1
  have og0 := og0.calm c17
  have mk0 := mk0.calm c17
  try repeat' (first|refine wA ?_|refine wB ?_|refine wH ?_|refine wI ?_|refine wJ ?_|refine wC ?_|refine wD ?_|refine wE ?_|refine wF ?_|refine wG ?_|refine wK ?_|refine wL ?_|refine wM ?_|refine wN ?_|refine wO ?_|refine wP ?_|refine wQ ?_|refine wR ?_|refine wS ?_|refine wT ?_|refine wU ?_|refine wV ?_|refine wW ?_|refine wX ?_)
  refine Ops.call (im_WidenSet t0.s b0) (fun _ _ h _ => h.1.ge') fun rr H18 => ?_
  rintro ⟨c18, h0v, rfl, h0⟩
  have cb := cb.trans c18
  have := c18.1
  have og0 := og0.calm c18
  have mk0 := mk0.calm c18
  repeat' (first|refine wA ?_|refine wB ?_|refine wH ?_|refine wI ?_|refine wJ ?_|refine wC ?_|refine wD ?_|refine wE ?_|refine wF ?_|refine wG ?_|refine wK ?_|refine wL ?_|refine wM ?_|refine wN ?_|refine wO ?_|refine wP ?_|refine wQ ?_|refine wR ?_|refine wS ?_|refine wT ?_|refine wU ?_|refine wV ?_|refine wW ?_|refine wX ?_)
  obtain ⟨qh0a, qh0b, qh0c, exh0⟩ := h0.agg
  subst exh0
  refine Ops.var H18.nxt (Nat.le_refl _) (z0 := .agg #[.int .i64 0, nilS, nilS]) (by kernel_rfl) (by rfl) (by decide) rfl (by simp) (by kernel_rfl) rfl h0.s.val.2.1 fun ph0 H19 oh0 c19 _ => ?_
  have cb := cb.trans c19
  have := c19.1
  have og0 := og0.calm c19
  have h0 := h0.calm c19
  have mk0 := mk0.calm c19
  repeat' (first|refine wA ?_|refine wB ?_|refine wH ?_|refine wI ?_|refine wJ ?_|refine wC ?_|refine wD ?_|refine wE ?_|refine wF ?_|refine wG ?_|refine wK ?_|refine wL ?_|refine wM ?_|refine wN ?_|refine wO ?_|refine wP ?_|refine wQ ?_|refine wR ?_|refine wS ?_|refine wT ?_|refine wU ?_|refine wV ?_|refine wW ?_|refine wX ?_)
  refine Ops.loadS oh0.pt (by kernel_rfl) (by kernel_rfl) ?_
  try repeat' (first|refine wA ?_|refine wB ?_|refine wH ?_|refine wI ?_|refine wJ ?_|refine wC ?_|refine wD ?_|refine wE ?_|refine wF ?_|refine wG ?_|refine wK ?_|refine wL ?_|refine wM ?_|refine wN ?_|refine wO ?_|refine wP ?_|refine wQ ?_|refine wR ?_|refine wS ?_|refine wT ?_|refine wU ?_|refine wV ?_|refine wW ?_|refine wX ?_)
  refine Ops.loadS (ow0.calm cb).pt (by kernel_rfl) yw0 ?_
  try repeat' (first|refine wA ?_|refine wB ?_|refine wH ?_|refine wI ?_|refine wJ ?_|refine wC ?_|refine wD ?_|refine wE ?_|refine wF ?_|refine wG ?_|refine wK ?_|refine wL ?_|refine wM ?_|refine wN ?_|refine wO ?_|refine wP ?_|refine wQ ?_|refine wR ?_|refine wS ?_|refine wT ?_|refine wU ?_|refine wV ?_|refine wW ?_|refine wX ?_)
  refine Ops.call (eq_OS h0.s (w0.calm cb).val.2.2) (fun _ _ h _ => h.1.ge') fun rr H20 => ?_
  rintro ⟨c20, rfl⟩
  have cb := cb.trans c20
  have := c20.1
  have og0 := og0.calm c20
  have h0 := h0.calm c20
  have oh0 := oh0.calm c20
  have mk0 := mk0.calm c20
  repeat' (first|refine wA ?_|refine wB ?_|refine wH ?_|refine wI ?_|refine wJ ?_|refine wC ?_|refine wD ?_|refine wE ?_|refine wF ?_|refine wG ?_|refine wK ?_|refine wL ?_|refine wM ?_|refine wN ?_|refine wO ?_|refine wP ?_|refine wQ ?_|refine wR ?_|refine wS ?_|refine wT ?_|refine wU ?_|refine wV ?_|refine wW ?_|refine wX ?_)
  refine Ops.bne_same rfl rfl (by kernel_rfl) ?_
  repeat' (first|refine wA ?_|refine wB ?_|refine wH ?_|refine wI ?_|refine wJ ?_|refine wC ?_|refine wD ?_|refine wE ?_|refine wF ?_|refine wG ?_|refine wK ?_|refine wL ?_|refine wM ?_|refine wN ?_|refine wO ?_|refine wP ?_|refine wQ ?_|refine wR ?_|refine wS ?_|refine wT ?_|refine wU ?_|refine wV ?_|refine wW ?_|refine wX ?_)
  refine Ops.loadS og0.pt (by kernel_rfl) (by kernel_rfl) ?_
  try repeat' (first|refine wA ?_|refine wB ?_|refine wH ?_|refine wI ?_|refine wJ ?_|refine wC ?_|refine wD ?_|refine wE ?_|refine wF ?_|refine wG ?_|refine wK ?_|refine wL ?_|refine wM ?_|refine wN ?_|refine wO ?_|refine wP ?_|refine wQ ?_|refine wR ?_|refine wS ?_|refine wT ?_|refine wU ?_|refine wV ?_|refine wW ?_|refine wX ?_)
  refine Ops.call (held_OS mk0 (by omega) (by omega)) (fun _ _ h _ => h.1.ge') fun rr H21 => ?_
  rintro ⟨c21, rfl⟩
  have cb := cb.trans c21
  have := c21.1
  have og0 := og0.calm c21
  have h0 := h0.calm c21
  have oh0 := oh0.calm c21
  have mk0 := mk0.calm c21
  repeat' (first|refine wA ?_|refine wB ?_|refine wH ?_|refine wI ?_|refine wJ ?_|refine wC ?_|refine wD ?_|refine wE ?_|refine wF ?_|refine wG ?_|refine wK ?_|refine wL ?_|refine wM ?_|refine wN ?_|refine wO ?_|refine wP ?_|refine wQ ?_|refine wR ?_|refine wS ?_|refine wT ?_|refine wU ?_|refine wV ?_|refine wW ?_|refine wX ?_)
  refine Ops.cmp rfl rfl rfl (fun hc => ?_) (fun hc => ?_)
  · omega
  repeat' (first|refine wA ?_|refine wB ?_|refine wH ?_|refine wI ?_|refine wJ ?_|refine wC ?_|refine wD ?_|refine wE ?_|refine wF ?_|refine wG ?_|refine wK ?_|refine wL ?_|refine wM ?_|refine wN ?_|refine wO ?_|refine wP ?_|refine wQ ?_|refine wR ?_|refine wS ?_|refine wT ?_|refine wU ?_|refine wV ?_|refine wW ?_|refine wX ?_)
  refine Ops.cmpn rfl rfl (fun hne => ?_) (fun hne => ?_)
  · exact absurd rfl hne
  repeat' (first|refine wA ?_|refine wB ?_|refine wH ?_|refine wI ?_|refine wJ ?_|refine wC ?_|refine wD ?_|refine wE ?_|refine wF ?_|refine wG ?_|refine wK ?_|refine wL ?_|refine wM ?_|refine wN ?_|refine wO ?_|refine wP ?_|refine wQ ?_|refine wR ?_|refine wS ?_|refine wT ?_|refine wU ?_|refine wV ?_|refine wW ?_|refine wX ?_)
  refine Run.ret ⟨.inl rfl, ResK.tmp rfl (by conv => lhs; whnf) (ResK.nil ?_)⟩
  rfl

/-- The body, as the row asks for it. -/
theorem lawWidenSet_at {H : Hp} {a0 : Value} {d0 : OS} (s0 : S_OS H a0 d0) (_ : InR d0.width ∧ (∀ x ∈ d0.consts, InR x) ∧ ∀ x ∈ d0.pats, ∀ y ∈ x, InR y) : CallK Try.prog 12 [a0] H (fun r _ => r = .bool true) := lawWidenSet_ok s0

end Go.Proofs.Ytefmjpbmdoebaaa

/- The row FnExactWidenSet, out of its body's walk. -/
namespace Go.Proofs.Ytefmjpbmdoebaaa.LawFnExactWidenSet
open Go.ChangeShapes Go.WideShapes Go.ChangeAt Go.RowKit
set_option linter.unusedVariables false
theorem own : ownKnob Try.prog.godebug = none := by kernel_rfl
theorem laidOut : laidOutB Try.prog = true := by kernel_rfl
set_option maxRecDepth 100000 in
theorem lifted (os : Os) (started : os.Started) (H : Type) (enc : TypeId × Value → H) :
    ReturnsInHanded {} Try.checked os 12 .any (Rows.fnExactWidenSetSpec.pre6 enc Try.prog Try.f12 Rows.fnExactWidenSetRow.domain false) (Rows.fnExactWidenSetSpec.post enc Try.prog Try.f12 false true false false) := by
  refine returnsInHanded_of_change_sized (C := Try.checked) own started (by kernel_rfl) Try.func12
    (ChangeSpec.witness6 (enc := enc) (C := Try.checked) false ⟨#[], #[.agg #[.int .i64 0, .slice none 0 0, .slice none 0 0]], []⟩ 8 (by kernel_rfl) (by kernel_rfl) (by kernel_rfl) (by kernel_rfl)) ?_
  intro W base args ds gs before hval0 hW hcnd hsz0 _
  have hval : ∀ (j : Nat) t v, Try.f12.params[j]? = some t → args[j]? = some v → Value.okWide Try.prog W .any base t v := hval0
  have hW' := hW
  obtain ⟨p, q, hA0, hV, rfl, hfz, hnd⟩ := hW
  have hA : DataW.TrodAll enc Try.prog W 0 (fun _ => true) true Try.f12.params.toList args.toList ds p := hA0
  rw [Try.params12] at hA hval
  obtain ⟨v0, vs0, d0, ds0, p0, q0, hargs, rfl, rfl, h0, r0⟩ := trodAll_cons hA
  obtain ⟨rfl, rfl, rfl⟩ := trodAll_nil r0
  obtain rfl : args = #[v0] := by cases args; simp_all
  obtain ⟨rfl, rfl⟩ := trodVars_none hV
  have k0 := h0
  have lt0 : ∀ x ∈ p0, x.block < W.heap.size := by obtain ⟨m, hm⟩ := k0; exact DataW.trod_lt m _ _ _ hm
  obtain ⟨fuel0, hf0⟩ := h0
  obtain ⟨l0, w0, s0⟩ := (show Opens Try.prog cOS 41 _ from opens_os Try.underlying41 (by kernel_rfl) (by kernel_rfl) (opens_int Try.underlying3) (opens_slice Try.underlying24 (by kernel_rfl) (opens_int Try.underlying3)) (opens_slice Try.underlying28 (by kernel_rfl) (opens_slice Try.underlying24 (by kernel_rfl) (opens_int Try.underlying3)))) _ enc W 0 (fun _ => true) true fuel0 _ _ hf0
  obtain ⟨b0, rfl, hs0, _⟩ := okWide_struct_ Try.underlying41 (hval 0 41 v0 rfl rfl)
  have s0 : cOS.ok (Hp.of W) (cellsOf (.agg (b0.map (canonC W.heap.size)))) l0 := by show cOS.ok (Hp.of W) ((b0.map (canonC W.heap.size)).toList) l0; rw [Array.toList_map]; exact s0
  clear hA0 hval0 hsz0
  have body := lawWidenSet_at s0 w0
  refine (law_mem (w := W) (vs := [.agg b0]) body).mono fun e W' ⟨he, bel⟩ => ?_
  subst he
  exact ⟨_, rfl, _, _, _, [], _, [], hW', trodAll_mk1 (shut_bool Try.underlying4 _), (trodAll_cons_mk (Below.trod laidOut (by kernel_rfl) (of_decide_eq_true (by kernel_rfl)) k0 bel lt0) trodAll_mk0), rfl, bel.frame _, fun h => by cases h⟩
theorem over : Rows.fnExactWidenSetRow.holds Try.pinned (OpenSpec.ofChange Rows.fnExactWidenSetSpec) :=
  OpenClaim.holds_of_wide 12 Try.f12 rfl rfl rfl rfl rfl rfl rfl ⟨rfl, rfl, rfl, rfl, rfl⟩ rfl rfl rfl rfl rfl (by kernel_rfl) Try.func12 (by kernel_rfl)
    (of_decide_eq_true (by kernel_rfl)) (by unfold Func.isWrapper; first | (rw [if_pos (by decide +kernel)]; kernel_rfl) | (rw [if_neg (by decide +kernel)]; exact ⟨rfl, rfl⟩))
    (fun os started H enc _ => lifted os started H enc)
theorem proved : Rows.FnExactWidenSetSaid := over
end Go.Proofs.Ytefmjpbmdoebaaa.LawFnExactWidenSet
namespace Go.Proofs.Ytefmjpbmdoebaaa
/-- The row, under a short name, for the claim. -/
theorem fnExactWidenSet_holds : Rows.FnExactWidenSetSaid := LawFnExactWidenSet.proved
#print axioms fnExactWidenSet_holds
end Go.Proofs.Ytefmjpbmdoebaaa
