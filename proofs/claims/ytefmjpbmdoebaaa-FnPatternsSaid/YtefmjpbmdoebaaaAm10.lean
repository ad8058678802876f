/- The abstract machine, part 10: the proof that any order comes to what the followed one comes to. -/
import Derived.Test.YtefmjpbmdoebaaaAm9
set_option linter.unusedVariables false
set_option linter.unusedSimpArgs false
namespace Go.Proofs.Ytefmjpbmdoebaaa
open Go Go.RowKit

theorem GE.refl (H : Hp) : GE H H := ⟨Nat.le_refl _, fun _ _ => .inl rfl⟩
theorem Calm.ge {H H1 : Hp} (h : Calm H H1) : GE H H1 := ⟨h.1, fun id hi => .inl (h.2 id hi).1⟩
theorem GE.trans {H H1 H2 : Hp} (h : GE H H1) (k : GE H1 H2) : GE H H2 := ⟨Nat.le_trans h.1 k.1, fun id hi => by
  rcases k.2 id (Nat.lt_of_lt_of_le hi h.1) with h1 | h1
  · rcases h.2 id hi with h2 | h2
    · exact .inl (h1.trans h2)
    · exact .inr (h1.trans h2)
  · exact .inr h1⟩

theorem along {R : Hp → Hp → Prop} (hr : ∀ H, R H H) (ht : ∀ H H1 H2, R H H1 → R H1 H2 → R H H2) {st : Nat → St} {a : Nat} : ∀ b, a ≤ b → (∀ p, a ≤ p → p < b → R (st p).H (st (p + 1)).H) → R (st a).H (st b).H := by
  intro b
  induction b with
  | zero => intro h _; have : a = 0 := by omega
            subst this; exact hr _
  | succ b ih =>
    intro h k
    rcases Nat.lt_or_ge b a with h1 | h1
    · have : a = b + 1 := by omega
      subst this; exact hr _
    · exact ht _ _ _ (ih h1 fun p h2 h3 => k p h2 (by omega)) (k b h1 (by omega))

/-- The next operation that makes or writes memory. -/
theorem next_chain {ops : Array Oper} {op : Nat → Oper} : ∀ k a, a + k = ops.size → ∃ m, a ≤ m ∧ m ≤ ops.size ∧ (m = ops.size ∨ 3 ≤ cls (op m).op) ∧ ∀ p, a ≤ p → p < m → cls (op p).op < 3
  | 0, a, h => ⟨a, Nat.le_refl _, by omega, .inl (by omega), fun p h1 h2 => by omega⟩
  | k + 1, a, h => by
    rcases Nat.lt_or_ge (cls (op a).op) 3 with h1 | h1
    · obtain ⟨m, h2, h3, h4, h5⟩ := next_chain (ops := ops) (op := op) k (a + 1) (by omega)
      refine ⟨m, by omega, h3, h4, fun p h6 h7 => ?_⟩
      rcases Nat.lt_or_ge a p with h8 | h8
      · exact h5 p h8 h7
      · have : p = a := by omega
        subst this; exact h1
    · exact ⟨a, Nat.le_refl _, by omega, .inr h1, fun p h2 h3 => by omega⟩

/-- What is known of the followed order. -/
structure Cx (P : Program) (ops : Array Oper) (sg : List Nat) (st : Nat → St) (op : Nat → Oper) (rv : Nat → Value) : Prop where
  len : sg.length = ops.size
  lt : ∀ p, p < ops.size → sg.getD p 0 < ops.size
  on : ∀ j, j < ops.size → ∃ p, p < ops.size ∧ sg.getD p 0 = j
  at_ : ∀ p, p < ops.size → ops[sg.getD p 0]? = some (op p)
  small : ∀ p, p < ops.size → cls (op p).op ≤ 4
  names : ∀ p, p < ops.size → opOK (st 0).n ops (op p) = true
  pre : ∀ p, p < ops.size → ∀ i ∈ preds (op p), i ≠ sg.getD p 0 ∧ i < ops.size ∧ ((masks ops).getD (sg.getD p 0) 0).testBit i = true
  ne : ∀ p q, p < q → q < ops.size → sg.getD p 0 ≠ sg.getD q 0
  fwd : ∀ p q, p < q → q < ops.size → ((masks ops).getD (sg.getD p 0) 0).testBit (sg.getD q 0) = false
  pair : ∀ p q, p < q → q < ops.size → Reach ops (sg.getD p 0) (sg.getD q 0) ∨ ((op p).apart ops (op q) = true ∧ fine (cls (op p).op) (cls (op q).op) = true)
  step : ∀ p, p < ops.size → StepR P ops (op p) (st p) (rv p) (st (p + 1))

theorem Cx.of {P : Program} {ops : Array Oper} {sg : List Nat} {S S' : St} (hok : sgOK ops S.n sg = true) (h : RD P ops sg S S') :
    ∃ st op rv, Cx P ops sg st op rv ∧ st 0 = S ∧ st ops.size = S' := by
  obtain ⟨st, h0, h1, h2⟩ := h.states
  unfold sgOK at hok
  simp only [Bool.and_eq_true, beq_iff_eq] at hok
  obtain ⟨⟨⟨⟨⟨⟨k1, k2⟩, k3⟩, k4⟩, k5⟩, k6⟩, k7⟩ := hok
  rw [k1] at h1 h2
  have hat : ∀ p, p < ops.size → ops[sg.getD p 0]? = some (ops.getD (sg.getD p 0) default) := by
    intro p hp
    obtain ⟨o, h3, _⟩ := h2 p hp
    rw [Array.getD_eq_getD_getElem?, h3]; rfl
  have hst : ∀ p, p < ops.size → StepD P ops (ops.getD (sg.getD p 0) default) (st p) (st (p + 1)) := by
    intro p hp
    obtain ⟨o, h3, h4⟩ := h2 p hp
    rw [hat p hp] at h3; cases h3; exact h4
  have hlt : ∀ p, p < ops.size → sg.getD p 0 < ops.size := fun p hp => (Array.getElem?_eq_some_iff.1 (hat p hp)).1
  have hpair := fun p q (h3 : p < q) (h4 : q < ops.size) => pairsOK_at k6 p q h3 (by rw [k1]; exact h4)
  refine ⟨st, fun p => ops.getD (sg.getD p 0) default, fun p => if hp : p < ops.size then Classical.choose (hst p hp).slot else undef, ⟨k1, hlt, ?_, hat, ?_, ?_, ?_, ?_, ?_, ?_, ?_⟩, h0, h1⟩
  · intro j hj
    have h3 := List.all_eq_true.1 k3 j (List.mem_range.2 hj)
    simp only [List.contains_iff_mem] at h3
    obtain ⟨p, hp, h4⟩ := List.getElem_of_mem h3
    exact ⟨p, by rw [← k1]; exact hp, by rw [List.getD_eq_getElem?_getD, List.getElem?_eq_getElem hp, h4]; rfl⟩
  · intro p hp
    rw [Array.all_eq_true_iff_forall_mem] at k4
    exact of_decide_eq_true (k4 _ (Array.mem_of_getElem? (hat p hp)))
  · intro p hp
    rw [h0]
    exact opsOK_at k5 (hat p hp)
  · intro p hp i hi
    have h3 := List.all_eq_true.1 k7 _ (List.mem_range.2 (hlt p hp))
    rw [hat p hp] at h3
    have h4 := List.all_eq_true.1 h3 i hi
    simp only [Bool.and_eq_true, Bool.not_eq_true', beq_eq_false_iff_ne, decide_eq_true_eq] at h4
    exact ⟨h4.1.1, h4.1.2, h4.2⟩
  · intro p q h3 h4
    have := hpair p q h3 h4
    unfold pairOK at this
    simp only [Bool.and_eq_true, Bool.not_eq_true', beq_eq_false_iff_ne] at this
    exact this.1.1
  · intro p q h3 h4
    have := hpair p q h3 h4
    unfold pairOK at this
    simp only [Bool.and_eq_true, Bool.not_eq_true', beq_eq_false_iff_ne] at this
    exact this.1.2
  · intro p q h3 h4
    have := hpair p q h3 h4
    unfold pairOK at this
    rw [hat p (by omega), hat q h4] at this
    simp only [Bool.and_eq_true, Bool.or_eq_true] at this
    rcases this.2 with h5 | h5
    · exact .inl (masks_ok h5)
    · exact .inr h5
  · intro p hp
    simp only [hp, dif_pos]
    exact Classical.choose_spec (hst p hp).slot

section
variable {P : Program} {ops : Array Oper} {sg : List Nat} {st : Nat → St} {op : Nat → Oper} {rv : Nat → Value} (cx : Cx P ops sg st op rv)
include cx

theorem Cx.val {p : Nat} (hp : p < ops.size) : (∀ d, (st (p + 1)).T d = ((st p).put (op p).dst (rv p)).T d) ∧ (st (p + 1)).n = (st p).n := by
  rcases cx.step p hp with ⟨_, _, h⟩ | ⟨_, H', h, k⟩
  · rw [h]; exact ⟨fun _ => rfl, put_n _ _ _⟩
  · rw [h]; exact ⟨fun _ => rfl, put_n _ _ _⟩

theorem Cx.n_eq : ∀ p, p ≤ ops.size → (st p).n = (st 0).n := by
  intro p
  induction p with
  | zero => intro _; rfl
  | succ p ih => intro h; rw [(cx.val (p := p) (by omega)).2, ih (by omega)]

theorem Cx.calm {p : Nat} (hp : p < ops.size) (hc : cls (op p).op < 3) : Calm (st p).H (st (p + 1)).H := by
  rcases cx.step p hp with ⟨_, _, h⟩ | ⟨_, H', h, k⟩
  · rw [h, put_H]; exact .refl _
  · have e : (st (p + 1)).H = H' := by rw [h]; rfl
    rw [e]
    unfold StepC at k
    split at k
    · rw [k.1]; exact .refl _
    · obtain ⟨ob, f, k1, _⟩ := k
      rw [k1]
      exact Calm.new _ _
    · rw [k.1]; exact .refl _
    all_goals first | omega | exact k.elim

theorem Cx.grow {p : Nat} (hp : p < ops.size) : (st p).H.nxt ≤ (st (p + 1)).H.nxt := by
  rcases cx.step p hp with ⟨_, _, h⟩ | ⟨_, H', h, k⟩
  · rw [h, put_H]; exact Nat.le_refl _
  · have e : (st (p + 1)).H = H' := by rw [h]; rfl
    rw [e]
    unfold StepC at k
    split at k
    · rw [k.1]; exact Nat.le_refl _
    · obtain ⟨ob, f, k1, _⟩ := k
      rw [k1]
      exact Nat.le_succ _
    · rw [k.1]; exact Nat.le_refl _
    · exact k.2.1
    · exact k.2
    · exact k.elim

theorem Cx.ge {p : Nat} (hp : p < ops.size) (hc : cls (op p).op ≠ 4) : GE (st p).H (st (p + 1)).H := by
  have hs := cx.small p hp
  rcases Nat.lt_or_ge (cls (op p).op) 3 with h1 | h1
  · exact (cx.calm hp h1).ge
  · rcases cx.step p hp with ⟨_, _, h⟩ | ⟨_, H', h, k⟩
    · rw [h, put_H]; exact .refl _
    · have e : (st (p + 1)).H = H' := by rw [h]; rfl
      rw [e]
      unfold StepC at k
      rw [show cls (op p).op = 3 by omega] at k
      exact k.2

theorem Cx.grows {a b : Nat} (h : a ≤ b) (hb : b ≤ ops.size) : (st a).H.nxt ≤ (st b).H.nxt :=
  along (R := fun H H' => H.nxt ≤ H'.nxt) (fun _ => Nat.le_refl _) (fun _ _ _ h k => Nat.le_trans h k) b h (fun p _ h2 => cx.grow (by omega))

theorem Cx.calms {a b : Nat} (h : a ≤ b) (hb : b ≤ ops.size) (hc : ∀ p, a ≤ p → p < b → cls (op p).op < 3) : Calm (st a).H (st b).H :=
  along Calm.refl (fun _ _ _ => Calm.trans) b h (fun p h1 h2 => cx.calm (by omega) (hc p h1 h2))

theorem Cx.ges {a b : Nat} (h : a ≤ b) (hb : b ≤ ops.size) (hc : ∀ p, a ≤ p → p < b → cls (op p).op ≠ 4) : GE (st a).H (st b).H :=
  along GE.refl (fun _ _ _ => GE.trans) b h (fun p h1 h2 => cx.ge (by omega) (hc p h1 h2))

end

/-- Is the operation at a position of the followed order done? -/
def Dn (sg : List Nat) (listed : Array Bool) (p : Nat) : Prop := listed.getD (sg.getD p 0) true = true

structure DI (P : Program) (ops : Array Oper) (sg : List Nat) (st : Nat → St) (op : Nat → Oper) (B : Nat) (β0 : Bm) (w0 : World) (listed : Array Bool) (m : Nat) (β : Bm) (a : Act) (w : World) : Prop where
  size : listed.size = ops.size
  down : ∀ p, p < ops.size → Dn sg listed p → ∀ i ∈ preds (op p), listed.getD i true = true
  tsz : a.tmps.size = (st 0).n
  slots : ∀ i, i < (st 0).n → ∀ p, p ≤ ops.size → (∀ p', p' < p → (op p').dst = some i → Dn sg listed p') → (∀ p', p ≤ p' → p' < ops.size → (op p').dst = some i → ¬ Dn sg listed p') → VR β ((st p).T i) (a.tmps.getD i undef)
  mle : m ≤ ops.size
  mlow : ∀ p, p < m → 3 ≤ cls (op p).op → Dn sg listed p
  mhigh : ∀ p, m ≤ p → p < ops.size → 3 ≤ cls (op p).op → ¬ Dn sg listed p
  mat : m = ops.size ∨ 3 ≤ cls (op m).op
  hr : HR B β (st m).H w
  fr : Fr B β0 (st 0).H w0 β (st m).H w
  fresh : ∀ p, p < ops.size → cls (op p).op = 1 → (st p).H.nxt < (st (p + 1)).H.nxt → ¬ Dn sg listed p → β (st p).H.nxt = none
  defer : a.defers = []

section
variable {P : Program} {ops : Array Oper} {sg : List Nat} {st : Nat → St} {op : Nat → Oper} {rv : Nat → Value} {B : Nat} {β0 : Bm} {w0 : World} {listed : Array Bool} {m : Nat} {β : Bm} {a : Act} {w : World}
  (cx : Cx P ops sg st op rv) (d : DI P ops sg st op B β0 w0 listed m β a w)
include cx d

theorem DI.reach {i j : Nat} (h : Reach ops i j) : listed.getD j true = true → j < ops.size → listed.getD i true = true := by
  have one : ∀ j o, ops[j]? = some o → listed.getD j true = true → j < ops.size → ∀ i ∈ preds o, listed.getD i true = true := by
    intro j o ho hl hj i hi
    obtain ⟨p, hp, rfl⟩ := cx.on j hj
    rw [cx.at_ p hp] at ho; cases ho
    exact d.down p hp hl i hi
  induction h with
  | edge ho h => exact fun h1 h2 => one _ _ ho h1 h2 _ h
  | step ho h k ih =>
    intro h1 h2
    refine ih (one _ _ ho h1 h2 _ h) ?_
    obtain ⟨q, hq, e⟩ := cx.on _ h2
    subst e
    rw [cx.at_ q hq] at ho; cases ho
    exact (cx.pre q hq _ h).2.1

/-- A position that may come next. -/
theorem DI.ahead {q : Nat} (hq : q < ops.size) (hn : ¬ Dn sg listed q) (hp : ∀ i ∈ preds (op q), listed.getD i true = true) {p : Nat} (hpq : p < q) (hnp : ¬ Dn sg listed p) : (op p).apart ops (op q) = true ∧ fine (cls (op p).op) (cls (op q).op) = true := by
  rcases cx.pair p q hpq hq with h | h
  · exfalso
    apply hnp
    unfold Dn
    cases h with
    | edge ho h => rw [cx.at_ q hq] at ho; cases ho; exact hp _ h
    | step ho h k =>
      rw [cx.at_ q hq] at ho; cases ho
      exact d.reach cx k (hp _ h) (cx.pre q hq _ h).2.1
  · exact h

theorem DI.behind {q : Nat} (hn : ¬ Dn sg listed q) {p : Nat} (hp : p < ops.size) (hpq : q < p) (hd : Dn sg listed p) : (op q).apart ops (op p) = true ∧ fine (cls (op q).op) (cls (op p).op) = true := by
  rcases cx.pair q p hpq hp with h | h
  · exact absurd (d.reach cx h hd (cx.lt p hp)) hn
  · exact h

/-- The slots at which an operation looks are as in the followed order. -/
theorem DI.looks {q : Nat} (hq : q < ops.size) (hn : ¬ Dn sg listed q) (hp : ∀ i ∈ preds (op q), listed.getD i true = true) {t : Nat} (ht : t ∈ (op q).looksAt ops) (htn : t < (st 0).n) : VR β ((st q).T t) (a.tmps.getD t undef) := by
  refine d.slots t htn q (by omega) (fun p hpq hd => Classical.byContradiction fun hnp => ?_) (fun p hpq hp' hd hD => ?_)
  · exact (Oper.apart_spec (d.ahead cx hq hn hp hpq hnp).1).1 t hd ht
  · rcases Nat.lt_or_ge q p with h | h
    · exact (Oper.apart_spec (d.behind cx hn hp' h hD).1).2.2 t hd ht
    · have : p = q := by omega
      subst this; exact hn hD

theorem DI.fake {q : Nat} (hq : q < ops.size) (hn : ¬ Dn sg listed q) (hp : ∀ i ∈ preds (op q), listed.getD i true = true) : TR β ⟨(st 0).n, fun t => if t ∈ (op q).looksAt ops then (st q).T t else junk, (st q).H⟩ a := by
  refine ⟨d.tsz, fun i hi => ?_⟩
  show VR β (if i ∈ (op q).looksAt ops then (st q).T i else junk) _
  split
  · exact d.looks cx hq hn hp (by assumption) hi
  · exact .any _

theorem DI.guard {q : Nat} (hq : q < ops.size) (hn : ¬ Dn sg listed q) (hp : ∀ i ∈ preds (op q), listed.getD i true = true) {b : Bool} (h : gw ops (st q).T (op q) = some b) : Region.wanted (op q) (yielded ops a.tmps) = b := by
  have hnm := cx.names q hq
  unfold opOK at hnm
  simp only [Bool.and_eq_true] at hnm
  refine gw_sound (S := ⟨(st 0).n, fun t => if t ∈ (op q).looksAt ops then (st q).T t else junk, (st q).H⟩) (d.fake cx hq hn hp) ?_ ?_
  · intro d' hd'
    have h3 := hnm.2
    cases hx : (op q).guard.bind (fun g => (ops[g.1]?).bind (·.dst)) with
    | none => rw [hx] at hd'; cases hd'
    | some y => rw [hx] at hd' h3; cases hd'; simpa using h3
  · rw [← h]
    unfold gw
    cases hg : (op q).guard with
    | none => rfl
    | some g =>
      obtain ⟨j, want⟩ := g
      cases hj : (ops[j]?).bind (·.dst) with
      | none => simp only [hj]
      | some d' =>
        simp only [hj]
        rw [if_pos (by unfold Oper.looksAt; rw [hg]; simp [hj])]

theorem DI.opnds {q : Nat} (hq : q < ops.size) (hn : ¬ Dn sg listed q) (hp : ∀ i ∈ preds (op q), listed.getD i true = true) : ∀ x ∈ (op q).op.operands, VR β ((st q).rho x) (a.eval x) := by
  intro x hx
  have hnm := cx.names q hq
  unfold opOK at hnm
  simp only [Bool.and_eq_true] at hnm
  have h1 := hnm.1.1
  rw [Array.all_eq_true_iff_forall_mem] at h1
  have h2 := (d.fake cx hq hn hp).eval (x := x) (h1 x hx)
  have e : St.rho ⟨(st 0).n, fun t => if t ∈ (op q).looksAt ops then (st q).T t else junk, (st q).H⟩ x = (st q).rho x := by
    cases x with
    | tmp t =>
      show (if t ∈ (op q).looksAt ops then (st q).T t else junk) = (st q).T t
      rw [if_pos]
      unfold Oper.looksAt
      exact List.mem_append_left _ (List.mem_filterMap.2 ⟨.tmp t, by simpa using hx, rfl⟩)
    | _ => rfl
  rw [e] at h2
  exact h2

/-- The slots behind an operation. -/
theorem DI.slots' {q : Nat} (hq : q < ops.size) (hn : ¬ Dn sg listed q) {β' : Bm} (hβ : ∀ id p, β id = some p → β' id = some p) {u : Value} (hu : VR β' (rv q) u) :
    ∀ i, i < (st 0).n → ∀ p, p ≤ ops.size → (∀ p', p' < p → (op p').dst = some i → Dn sg (listed.setIfInBounds (sg.getD q 0) true) p') → (∀ p', p ≤ p' → p' < ops.size → (op p').dst = some i → ¬ Dn sg (listed.setIfInBounds (sg.getD q 0) true) p') → VR β' ((st p).T i) ((a.put (op q).dst u).tmps.getD i undef) := by
  have hql := cx.lt q hq
  have hset : ∀ p, p < ops.size → p ≠ q → (Dn sg (listed.setIfInBounds (sg.getD q 0) true) p ↔ Dn sg listed p) := by
    intro p hp hne
    unfold Dn
    have : sg.getD q 0 ≠ sg.getD p 0 := by
      rcases Nat.lt_or_gt_of_ne hne with h | h
      · exact (cx.ne p q h hq).symm
      · exact cx.ne q p h hp
    rw [Array.getD_eq_getD_getElem?, Array.getElem?_setIfInBounds_ne this, ← Array.getD_eq_getD_getElem?]
  have hself : Dn sg (listed.setIfInBounds (sg.getD q 0) true) q := by
    unfold Dn
    rw [Array.getD_eq_getD_getElem?, Array.getElem?_setIfInBounds_self_of_lt (by rw [d.size]; exact hql)]; rfl
  intro i hi p hp h1 h2
  by_cases e : (op q).dst = some i
  · have hqp : q < p := by
      rcases Nat.lt_or_ge q p with h | h
      · exact h
      · exact absurd hself (h2 q h hq e)
    have hT : ∀ p', q < p' → p' ≤ p → (st p').T i = rv q := by
      intro p'
      induction p' with
      | zero => intro h; omega
      | succ p' ih =>
        intro h3 h4
        rw [(cx.val (p := p') (by omega)).1]
        rcases Nat.lt_or_ge q p' with h5 | h5
        · have hne : (op p').dst ≠ some i := by
            intro e'
            have h6 := (hset p' (by omega) (by omega)).1 (h1 p' (by omega) e')
            exact (Oper.apart_spec (d.behind cx hn (by omega) h5 h6).1).2.1 i e e'
          rw [put_T_ne hne]
          exact ih h5 (by omega)
        · have : p' = q := by omega
          subst this
          rw [e]
          exact if_pos rfl
    rw [hT p hqp (Nat.le_refl _), e]
    have : i < a.tmps.size := by rw [d.tsz]; exact hi
    have e2 : ((a.put (some i) u).tmps.getD i undef) = u := by simp [Act.put, Array.getD_eq_getD_getElem?, this]
    rw [e2]; exact hu
  · have e2 : ((a.put (op q).dst u).tmps.getD i undef) = a.tmps.getD i undef := by
      cases hd : (op q).dst with
      | none => rfl
      | some d' =>
        have : d' ≠ i := fun h => e (by rw [hd, h])
        simp [Act.put, Array.getD_eq_getD_getElem?, Array.getElem?_setIfInBounds_ne this]
    rw [e2]
    refine (d.slots i hi p hp (fun p' h3 h4 => ?_) (fun p' h3 h3' h4 h5 => ?_)).mono hβ
    · by_cases e3 : p' = q
      · subst e3; exact absurd h4 e
      · exact (hset p' (by omega) e3).1 (h1 p' h3 h4)
    · by_cases e3 : p' = q
      · subst e3; exact absurd h4 e
      · exact h2 p' h3 h3' h4 ((hset p' h3' e3).2 h5)

/-- One more operation is done. -/
theorem DI.adv {q : Nat} (hq : q < ops.size) (hn : ¬ Dn sg listed q) (hp : ∀ i ∈ preds (op q), listed.getD i true = true) {β' : Bm} {w' : World} {m' : Nat} (hβ : ∀ id p, β id = some p → β' id = some p) {u : Value} (hu : VR β' (rv q) u)
    (hm : (cls (op q).op < 3 ∧ m' = m) ∨ (q = m ∧ m < m' ∧ m' ≤ ops.size ∧ (m' = ops.size ∨ 3 ≤ cls (op m').op) ∧ ∀ p, m + 1 ≤ p → p < m' → cls (op p).op < 3))
    (hr : HR B β' (st m').H w') (hf : Fr B β0 (st 0).H w0 β' (st m').H w')
    (hfr : ∀ p, p < ops.size → p ≠ q → cls (op p).op = 1 → (st p).H.nxt < (st (p + 1)).H.nxt → ¬ Dn sg listed p → β' (st p).H.nxt = none) :
    DI P ops sg st op B β0 w0 (listed.setIfInBounds (sg.getD q 0) true) m' β' (a.put (op q).dst u) w' := by
  have hql := cx.lt q hq
  have hset : ∀ p, p < ops.size → p ≠ q → (Dn sg (listed.setIfInBounds (sg.getD q 0) true) p ↔ Dn sg listed p) := by
    intro p hp hne
    unfold Dn
    have : sg.getD q 0 ≠ sg.getD p 0 := by
      rcases Nat.lt_or_gt_of_ne hne with h | h
      · exact (cx.ne p q h hq).symm
      · exact cx.ne q p h hp
    rw [Array.getD_eq_getD_getElem?, Array.getElem?_setIfInBounds_ne this, ← Array.getD_eq_getD_getElem?]
  have hself : Dn sg (listed.setIfInBounds (sg.getD q 0) true) q := by
    unfold Dn
    rw [Array.getD_eq_getD_getElem?, Array.getElem?_setIfInBounds_self_of_lt (by rw [d.size]; exact hql)]; rfl
  have hup : ∀ j, listed.getD j true = true → (listed.setIfInBounds (sg.getD q 0) true).getD j true = true := by
    intro j hj
    by_cases e : sg.getD q 0 = j
    · rw [← e]; exact hself
    · rw [Array.getD_eq_getD_getElem?, Array.getElem?_setIfInBounds_ne e, ← Array.getD_eq_getD_getElem?]; exact hj
  refine ⟨by rw [Array.size_setIfInBounds]; exact d.size, ?_, ?_, d.slots' cx hq hn hβ hu, ?_, ?_, ?_, ?_, hr, hf, ?_, ?_⟩
  · intro p hpp hD i hi
    by_cases e : p = q
    · subst e; exact hup _ (hp i hi)
    · exact hup _ (d.down p hpp ((hset p hpp e).1 hD) i hi)
  · cases (op q).dst <;> simp [Act.put, d.tsz]
  · rcases hm with ⟨_, rfl⟩ | ⟨_, _, h, _⟩
    · exact d.mle
    · exact h
  · intro p h1 h2
    by_cases e : p = q
    · subst e; exact hself
    · have hmle := d.mle
      rcases hm with ⟨h3, rfl⟩ | ⟨h3, h4, h5, h6, h7⟩
      · exact (hset p (by omega) e).2 (d.mlow p h1 h2)
      · rcases Nat.lt_or_ge p m with h8 | h8
        · exact (hset p (by omega) e).2 (d.mlow p h8 h2)
        · have := h7 p (by omega) h1; omega
  · intro p h1 h2 h3
    by_cases e : p = q
    · subst e
      rcases hm with ⟨h4, _⟩ | ⟨h4, h5, _⟩ <;> omega
    · rw [hset p h2 e]
      refine d.mhigh p ?_ h2 h3
      rcases hm with ⟨h4, rfl⟩ | ⟨h4, h5, _⟩ <;> omega
  · rcases hm with ⟨_, rfl⟩ | ⟨_, _, _, h, _⟩
    · exact d.mat
    · exact h
  · intro p h1 h2 h3 h4
    by_cases e : p = q
    · subst e; exact absurd hself h4
    · exact hfr p h1 e h2 h3 (fun h => h4 ((hset p h1 e).2 h))
  · rw [put_defers]; exact d.defer

/-- When nothing may come next, everything is done. -/
theorem DI.all (hr : Region.ready .any ops listed = []) : ∀ p, p < ops.size → Dn sg listed p := by
  intro p
  induction p using Nat.strongRecOn with
  | ind p ih =>
    intro hp
    refine Classical.byContradiction fun hn => ?_
    have : sg.getD p 0 ∈ Region.ready .any ops listed := by
      rw [mem_ready]
      refine ⟨by simpa [Dn] using hn, op p, cx.at_ p hp, fun e he hb => ?_⟩
      have hi : e.on ∈ preds (op p) := by
        unfold preds
        exact List.mem_map.2 ⟨e, List.mem_filter.2 ⟨by simpa using he, hb⟩, rfl⟩
      obtain ⟨h1, h2, h3⟩ := cx.pre p hp _ hi
      obtain ⟨r, h4, h5⟩ := cx.on _ h2
      have hrp : r < p := by
        rcases Nat.lt_trichotomy r p with h | h | h
        · exact h
        · subst h; exact absurd h5.symm h1
        · have := cx.fwd p r h h4
          rw [h5, h3] at this; cases this
      have h6 := ih r hrp h4
      unfold Dn at h6
      rw [h5] at h6
      have h7 : e.on < listed.size := by rw [d.size]; exact h2
      rw [Array.getD_eq_getD_getElem?, Array.getElem?_eq_getElem h7] at h6 ⊢
      exact h6
    rw [hr] at this; cases this

/-- An operation that may come next is carried out. -/
theorem DI.one {q : Nat} (hq : q < ops.size) (hn : ¬ Dn sg listed q) (hp : ∀ i ∈ preds (op q), listed.getD i true = true) {Q : Exit → Act → World → Prop} {K : Act → World → Prop}
    (hK : ∀ m' β' a' w', DI P ops sg st op B β0 w0 (listed.setIfInBounds (sg.getD q 0) true) m' β' a' w' → K a' w') : wpOp P ops Q (sg.getD q 0) K a w := by
  have hst := cx.step q hq
  have hopn := d.opnds cx hq hn hp
  have hmle := d.mle
  unfold wpOp
  rw [cx.at_ q hq]
  simp only
  -- a chain operation comes at m
  have hchain : 3 ≤ cls (op q).op → q = m := by
    intro hc
    rcases Nat.lt_trichotomy q m with h | h | h
    · exact absurd (d.mlow q h hc) hn
    · exact h
    · rcases d.mat with h1 | h1
      · omega
      · have h2 := (d.ahead cx hq hn hp h (d.mhigh m (Nat.le_refl _) (by omega) h1)).2
        exfalso
        unfold fine at h2
        simp only [Bool.not_eq_true', Bool.or_eq_false_iff, Bool.and_eq_false_iff, decide_eq_false_iff_not, beq_eq_false_iff_ne] at h2
        omega
  have hkeep : ∀ p, p < ops.size → p ≠ q → cls (op p).op = 1 → (st p).H.nxt < (st (p + 1)).H.nxt → ¬ Dn sg listed p → β (st p).H.nxt = none := fun p h1 _ h2 h3 h4 => d.fresh p h1 h2 h3 h4
  rcases hst with ⟨hg, hv, hS⟩ | ⟨hg, H', hS, hC⟩
  · rw [d.guard cx hq hn hp hg]
    simp only [Bool.false_eq_true, if_false]
    have hH : (st (q + 1)).H = (st q).H := by rw [hS, put_H]
    rcases Nat.lt_or_ge (cls (op q).op) 3 with hc | hc
    · exact hK m β _ _ (d.adv cx hq hn hp (fun _ _ h => h) (by rw [hv]; exact VR.undef) (.inl ⟨hc, rfl⟩) d.hr d.fr hkeep)
    · obtain rfl := hchain hc
      obtain ⟨m', h1, h2, h3, h4⟩ := next_chain (ops := ops) (op := op) (ops.size - (q + 1)) (q + 1) (by omega)
      have hcm := cx.calms h1 h2 h4
      rw [hH] at hcm
      exact hK m' β _ _ (d.adv cx hq hn hp (fun _ _ h => h) (by rw [hv]; exact VR.undef) (.inr ⟨rfl, by omega, h2, h3, h4⟩) (d.hr.more hcm) (d.fr.more hcm) hkeep)
  · rw [d.guard cx hq hn hp hg]
    simp only [if_true]
    refine .inl ?_
    have hH : (st (q + 1)).H = H' := by rw [hS]; rfl
    unfold StepC at hC
    split at hC
    · rename_i hc
      refine hC.2 (st m).H B β a w hopn d.hr K Q fun β' u w' h1 h2 h3 => ?_
      refine hK m β' _ _ (d.adv cx hq hn hp (h3.ext d.hr) h1 (.inl ⟨by omega, rfl⟩) h2 (d.fr.trans h3) fun p k1 k2 k3 k4 k5 => ?_)
      have k6 := hkeep p k1 k2 k3 k4 k5
      rcases Nat.lt_or_ge (st p).H.nxt (st m).H.nxt with h | h
      · rw [h3.old _ h]; exact k6
      · exact h2.dom _ h
    · rename_i hc
      obtain ⟨ob, f, k1, k2, k3⟩ := hC
      have hqm : q < m := by
        rcases Nat.lt_or_ge q m with h | h
        · exact h
        · exfalso
          rcases d.mat with h1 | h1
          · omega
          · have hne : m ≠ q := fun e => by rw [e] at h1; omega
            have h2 := (d.ahead cx hq hn hp (show m < q by omega) (d.mhigh m (Nat.le_refl _) (by omega) h1)).2
            unfold fine at h2
            simp only [Bool.not_eq_true', Bool.or_eq_false_iff, Bool.and_eq_false_iff, decide_eq_false_iff_not, beq_eq_false_iff_ne] at h2
            omega
      have hnx : (st (q + 1)).H.nxt = (st q).H.nxt + 1 := by rw [hH, k1]; rfl
      have hge := cx.ges (a := q + 1) (b := m) (by omega) d.mle fun p h1 h2 h3 => by
        have h4 := (d.behind cx hn (by omega) (by omega) (d.mlow p h2 (by omega))).2
        unfold fine at h4
        simp only [Bool.not_eq_true', Bool.or_eq_false_iff, Bool.and_eq_false_iff, decide_eq_false_iff_not, beq_eq_false_iff_ne] at h4
        omega
      have hN : (st q).H.nxt < (st m).H.nxt := by have := hge.1; omega
      have hβN := d.fresh q hq hc (by omega) hn
      have hob : ∀ ob', (st m).H.get (st q).H.nxt = some ob' → ob' = ob := by
        intro ob' h1
        have h3 : (st (q + 1)).H.get (st q).H.nxt = some ob := by rw [hH, k1]; exact Hp.new_get _ _
        rcases hge.2 (st q).H.nxt (by omega) with h2 | h2
        · rw [h2, h3] at h1; cases h1; rfl
        · rw [h2] at h1; cases h1
      obtain ⟨u, w', g, K1, cur, e1, e2, e3, e4, e5, e6, e7, e8⟩ := k3.2 β a w hopn
      unfold Oper.wp
      rw [e1]
      obtain ⟨p1, p2⟩ := d.hr.place ob k3.1 hN hβN hob e2 e3 e4 e5 e6 e7
      have h0q := cx.grows (a := 0) (b := q) (by omega) (by omega)
      refine hK m _ _ _ (d.adv cx hq hn hp p2 (by rw [k2]; exact e8 _ _ (Bm.set_at _ _ _)) (.inl ⟨by omega, rfl⟩) p1 (d.fr.place d.hr.base h0q e2) fun p h1 h2 h3 h4 h5 => ?_)
      rw [Bm.set_ne]
      · exact d.fresh p h1 h3 h4 h5
      · rcases Nat.lt_or_gt_of_ne h2 with h | h
        · have := cx.grows (a := p + 1) (b := q) (by omega) (by omega); omega
        · have := cx.grows (a := q + 1) (b := p) (by omega) (by omega); omega
    · rename_i hc
      obtain ⟨k1, id, ob, k2, k3, k4⟩ := hC
      obtain ⟨pl, k5⟩ := k3 β a.eval hopn
      have hid := d.hr.lt k5
      have hget : (st m).H.get id = some ob := by
        rcases Nat.lt_or_ge q m with h | h
        · have hcm := cx.calms (a := q) (b := m) (by omega) d.mle fun p h1 h2 => by
            rcases Nat.lt_or_ge (cls (op p).op) 3 with h3 | h3
            · exact h3
            · exfalso
              have hne : p ≠ q := fun e => by subst e; omega
              have h4 := (d.behind cx hn (by omega) (by omega) (d.mlow p h2 h3)).2
              unfold fine at h4
              simp only [Bool.not_eq_true', Bool.or_eq_false_iff, Bool.and_eq_false_iff, decide_eq_false_iff_not, beq_eq_false_iff_ne] at h4
              omega
          rw [(hcm.2 id (Hp.lt k2)).1]; exact k2
        · have hge := cx.ges (a := m) (b := q) h (by omega) fun p h1 h2 h3 => by
            have h4 := (d.ahead cx hq hn hp h2 (d.mhigh p h1 (by omega) (by omega))).2
            unfold fine at h4
            simp only [Bool.not_eq_true', Bool.or_eq_false_iff, Bool.and_eq_false_iff, decide_eq_false_iff_not, beq_eq_false_iff_ne] at h4
            omega
          rcases hge.2 id hid with h5 | h5
          · rw [← h5]; exact k2
          · rw [h5] at k2; cases k2
      refine k4 (st m).H hget B β a w hopn d.hr K Q fun β' u w' h1 h2 h3 => ?_
      refine hK m β' _ _ (d.adv cx hq hn hp (h3.ext d.hr) h1 (.inl ⟨by omega, rfl⟩) h2 (d.fr.trans h3) fun p k1 k2 k3 k4 k5 => ?_)
      have k6 := hkeep p k1 k2 k3 k4 k5
      rcases Nat.lt_or_ge (st p).H.nxt (st m).H.nxt with h | h
      · rw [h3.old _ h]; exact k6
      · exact h2.dom _ h
    all_goals first
      | exact hC.elim
      | (rename_i hc
         have hqm := hchain (by omega)
         subst hqm
         obtain ⟨m', h1, h2, h3, h4⟩ := next_chain (ops := ops) (op := op) (ops.size - (q + 1)) (q + 1) (by omega)
         have hcm := cx.calms h1 h2 h4
         rw [hH] at hcm
         refine hC.1 B β a w hopn d.hr K Q fun β' u w' g1 g2 g3 => ?_
         refine hK m' β' _ _ (d.adv cx hq hn hp (g3.ext d.hr) g1 (.inr ⟨rfl, by omega, h2, h3, h4⟩) (g2.more hcm) ((d.fr.trans g3).more hcm) fun p k1 k2 k3 k4 k5 => ?_)
         have k6 := hkeep p k1 k2 k3 k4 k5
         rcases Nat.lt_or_ge (st p).H.nxt (st q).H.nxt with h | h
         · rw [g3.old _ h]; exact k6
         · have h7 : q < p := by
             rcases Nat.lt_or_ge q p with h8 | h8
             · exact h8
             · have := cx.grows (a := p + 1) (b := q) (by omega) (by omega); omega
           refine g2.dom _ ?_
           rw [← hH]
           exact cx.grows (a := q + 1) (b := p) h7 (by omega))

end

theorem DI.run {P : Program} {ops : Array Oper} {sg : List Nat} {st : Nat → St} {op : Nat → Oper} {rv : Nat → Value} {B : Nat} {β0 : Bm} {w0 : World} (cx : Cx P ops sg st op rv) {Q : Exit → Act → World → Prop}
    (hQ : ∀ β a w, TR β (st ops.size) a → HR B β (st ops.size).H w → Fr B β0 (st 0).H w0 β (st ops.size).H w → a.defers = [] → Q .normal a w) :
    ∀ (fuel : Nat) (U : List Nat) (listed : Array Bool) (m : Nat) (β : Bm) (a : Act) (w : World), U.length ≤ fuel → (∀ i, i < ops.size → listed.getD i true = false → i ∈ U) → DI P ops sg st op B β0 w0 listed m β a w → wpAny P .any ops Q fuel listed a w := by
  have fin : ∀ (listed : Array Bool) (m : Nat) (β : Bm) (a : Act) (w : World), DI P ops sg st op B β0 w0 listed m β a w → Region.ready .any ops listed = [] → Q .normal a w := by
    intro listed m β a w d hr
    have hall := d.all cx hr
    have hm : m = ops.size := by
      rcases d.mat with h | h
      · exact h
      · refine Classical.byContradiction fun hne => ?_
        have := d.mle
        exact d.mhigh m (Nat.le_refl _) (by omega) h (hall m (by omega))
    have hr' := d.hr
    have hf' := d.fr
    rw [hm] at hr' hf'
    refine hQ β a w ⟨by rw [cx.n_eq _ (Nat.le_refl _)]; exact d.tsz, fun i hi => ?_⟩ hr' hf' d.defer
    rw [cx.n_eq _ (Nat.le_refl _)] at hi
    exact d.slots i hi ops.size (Nat.le_refl _) (fun p' h _ => hall p' h) (fun p' h1 h2 => by omega)
  intro fuel
  induction fuel with
  | zero =>
    intro U listed m β a w hU hin d
    have hr : Region.ready .any ops listed = [] := by
      cases h : Region.ready .any ops listed with
      | nil => rfl
      | cons j l =>
        have hj : j ∈ Region.ready .any ops listed := by rw [h]; simp
        obtain ⟨h1, o, h2, _⟩ := mem_ready.1 hj
        have h3 := hin j (Array.getElem?_eq_some_iff.1 h2).1 h1
        rw [List.length_eq_zero_iff.1 (Nat.le_zero.1 hU)] at h3; cases h3
    exact ⟨hr, fin _ _ _ _ _ d hr⟩
  | succ fuel ih =>
    intro U listed m β a w hU hin d
    refine ⟨fin _ _ _ _ _ d, fun j hj => ?_⟩
    obtain ⟨h1, o, h2, h3⟩ := mem_ready.1 hj
    have hlt := (Array.getElem?_eq_some_iff.1 h2).1
    obtain ⟨q, hq, rfl⟩ := cx.on j hlt
    rw [cx.at_ q hq] at h2; cases h2
    have hn : ¬ Dn sg listed q := by unfold Dn; rw [h1]; simp
    refine d.one cx hq hn (fun i hi => ?_) fun m' β' a' w' d' => ?_
    · unfold preds at hi
      obtain ⟨e, he, rfl⟩ := List.mem_map.1 hi
      obtain ⟨he1, he2⟩ := List.mem_filter.1 he
      have h4 := h3 e (by simpa using he1) he2
      have h5 : e.on < listed.size := by
        refine Classical.byContradiction fun hc => ?_
        rw [Array.getD_eq_getD_getElem?, Array.getElem?_eq_none (by omega)] at h4; cases h4
      rw [Array.getD_eq_getD_getElem?, Array.getElem?_eq_getElem h5] at h4 ⊢
      exact h4
    · have hmem := hin _ hlt h1
      refine ih (U.erase (sg.getD q 0)) _ m' β' a' w' (by rw [List.length_erase_of_mem hmem]; omega) (fun i hi hl => ?_) d'
      by_cases e : sg.getD q 0 = i
      · subst e
        rw [Array.getD_eq_getD_getElem?, Array.getElem?_setIfInBounds_self_of_lt (by rw [d.size]; exact hlt)] at hl
        cases hl
      · rw [Array.getD_eq_getD_getElem?, Array.getElem?_setIfInBounds_ne e, ← Array.getD_eq_getD_getElem?] at hl
        exact (List.mem_erase_of_ne (Ne.symm e)).2 (hin i hi hl)

/-- A statement whose operations may be carried out in several orders: one of them is followed. -/
theorem Sem.region_draw {P : Program} {id : Nat} {ops : Array Oper} {S S' : St} (hm : P.follows .mixedOrders = true) (sg : List Nat) (hok : sgOK ops S.n sg = true) (h : RD P ops sg S S') : Sem P (.region id ops true) S .normal S' := by
  intro B β a w ht hr hd
  obtain ⟨st, op, rv, cx, h0, h1⟩ := Cx.of hok h
  subst h0
  refine wp_region_any hm ?_
  obtain ⟨m, k1, k2, k3, k4⟩ := next_chain (ops := ops) (op := op) ops.size 0 (by omega)
  have hcm := cx.calms k1 k2 k4
  have hrep : ∀ j, (Array.replicate ops.size false).getD j true = true → ops.size ≤ j := by
    intro j hj
    rcases Nat.lt_or_ge j ops.size with h | h
    · rw [Array.getD_eq_getD_getElem?, Array.getElem?_replicate] at hj
      simp [h] at hj
    · exact h
  have hnd : ∀ p, p < ops.size → ¬ Dn sg (Array.replicate ops.size false) p := fun p hp hD => by
    have := hrep _ hD
    have := cx.lt p hp
    omega
  have hr1 : HR B β (st 0).H { w with drawn := w.drawn + 1 } := ⟨hr.dom, hr.blk, hr.cell, hr.siz, hr.own, hr.inj, hr.base, hr.mp, hr.mpi⟩
  have hf1 : Fr B β (st 0).H w β (st 0).H { w with drawn := w.drawn + 1 } := ⟨fun _ _ => rfl, ⟨rfl, rfl, rfl, Nat.le_refl _, fun _ _ => rfl⟩, Nat.le_refl _⟩
  refine DI.run cx (B := B) (β0 := β) (w0 := w) (fun β' a' w' g1 g2 g3 g4 => ?_) ops.size (List.range ops.size) _ m β a _ (by simp) (fun i hi _ => List.mem_range.2 hi) ⟨by simp, fun p hp hD => absurd hD (hnd p hp), ht.1, ?_, k2, ?_, fun p _ hp _ => hnd p hp, k3, hr1.more hcm, hf1.more hcm, ?_, hd⟩
  · rw [h1] at g1 g2 g3
    exact ⟨rfl, g4, β', g1, g2, g3⟩
  · intro i hi p hp g1 g2
    have hT : ∀ p', p' ≤ p → (st p').T i = (st 0).T i := by
      intro p'
      induction p' with
      | zero => intro _; rfl
      | succ p' ih =>
        intro h3
        rw [(cx.val (p := p') (by omega)).1, put_T_ne (fun e => hnd p' (by omega) (g1 p' (by omega) e))]
        exact ih (by omega)
    rw [hT p (Nat.le_refl _)]
    exact ht.2 i hi
  · intro p h3 h4
    have := k4 p (by omega) h3; omega
  · intro p hp _ _ _
    exact hr.dom _ (cx.grows (a := 0) (b := p) (by omega) (by omega))

end Go.Proofs.Ytefmjpbmdoebaaa
