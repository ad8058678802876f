/- The abstract machine, part 2: what a piece of code does to the abstract state, said of every world that is as the abstract memory says; the rules of control. -/
import Derived.Test.YtefmjpbmdoebaaaAm1
import Derived.LoopN
set_option linter.unusedVariables false
set_option linter.unusedSimpArgs false
namespace Go.Proofs.Ytefmjpbmdoebaaa
open Go Go.RowKit

/-- The abstract state: how many slots, the slots, the memory. -/
structure St where
  n : Nat
  T : Nat → Value
  H : Hp

def St.rho (S : St) : Operand → Value
  | .tmp t => S.T t
  | .const v => if Value.still v then v else junk
  | .global _ => junk
  | .func f => .func (.func f) #[] #[]

def St.put (S : St) (d : Option Nat) (v : Value) : St :=
  match d with
  | some d => { S with T := fun j => if j = d then v else S.T j }
  | none => S

def St.heap (S : St) (H : Hp) : St := { S with H := H }

/-- The slots of the frame are as the abstract ones. -/
def TR (β : Bm) (S : St) (a : Act) : Prop := a.tmps.size = S.n ∧ ∀ i, i < S.n → VR β (S.T i) (a.tmps.getD i undef)

theorem TR.mono {β β' : Bm} (h : ∀ id p, β id = some p → β' id = some p) {S : St} {a : Act} (ht : TR β S a) : TR β' S a := ⟨ht.1, fun i hi => (ht.2 i hi).mono h⟩
theorem TR.heap {β : Bm} {S : St} {a : Act} (H : Hp) (ht : TR β S a) : TR β (S.heap H) a := ht

theorem TR.put {β : Bm} {S : St} {a : Act} (ht : TR β S a) {d : Option Nat} {v u : Value} (hv : VR β v u) : TR β (S.put d v) (a.put d u) := by
  cases d with
  | none => exact ht
  | some d =>
    refine ⟨by simp [Act.put, St.put, ht.1], fun i hi => ?_⟩
    show VR β (if i = d then v else S.T i) ((a.tmps.setIfInBounds d u).getD i undef)
    have hi' : i < a.tmps.size := by rw [ht.1]; exact hi
    by_cases e : i = d
    · subst e
      rw [if_pos rfl]
      simpa [Array.getD_eq_getD_getElem?, hi'] using hv
    · rw [if_neg e]
      have := ht.2 i hi
      simpa [Array.getD_eq_getD_getElem?, Array.getElem?_setIfInBounds_ne (Ne.symm e)] using this

def opndOK (n : Nat) : Operand → Bool
  | .tmp t => t < n
  | _ => true

theorem TR.eval {β : Bm} {S : St} {a : Act} (ht : TR β S a) {x : Operand} (hx : opndOK S.n x = true) : VR β (S.rho x) (a.eval x) := by
  cases x with
  | tmp t => exact ht.2 t (by simpa [opndOK] using hx)
  | const v =>
    show VR β (if Value.still v then v else junk) v
    split
    · exact VR.still (by assumption)
    · exact .any v
  | global g => exact .any _
  | func f => exact VR.still (by rfl)

/-- What an operation comes to: value r, memory H'. -/
def aev (P : Program) (o : Oper) (ρ : Operand → Value) (H : Hp) (r : Value) (H' : Hp) : Prop :=
  ∀ (B : Nat) (β : Bm) (a : Act) (w : World), (∀ x ∈ o.op.operands, VR β (ρ x) (a.eval x)) → HR B β H w →
    ∀ (next : Act → World → Prop) (Q : Exit → Act → World → Prop),
      (∀ β' u w', VR β' r u → HR B β' H' w' → Fr B β H w β' H' w' → next (a.put o.dst u) w') → o.wp P a w next Q

/-- Is an operation wanted? -/
def gw (all : Array Oper) (T : Nat → Value) (o : Oper) : Option Bool :=
  match o.guard with
  | none => some true
  | some (j, want) =>
    match (all[j]?).bind (·.dst) with
    | none => some false
    | some d =>
      match T d with
      | .bool b => some (b == want)
      | .tuple _ => some false
      | _ => none

theorem gw_sound {all : Array Oper} {β : Bm} {S : St} {a : Act} (ht : TR β S a) {o : Oper} {b : Bool} (hd : ∀ d ∈ o.guard.bind (fun g => (all[g.1]?).bind (·.dst)), d < S.n) (h : gw all S.T o = some b) :
    Region.wanted o (yielded all a.tmps) = b := by
  unfold gw at h
  unfold Region.wanted
  cases hg : o.guard with
  | none => rw [hg] at h; injection h
  | some p =>
    obtain ⟨j, want⟩ := p
    rw [hg] at h hd
    simp only at h ⊢
    unfold yielded
    cases hj : (all[j]?).bind (·.dst) with
    | none => rw [hj] at h; cases h; rfl
    | some d =>
      have hj' : ((all[j]?).bind fun x => x.dst) = some d := hj
      rw [hj'] at h
      have hlt : d < S.n := hd d (by show d ∈ (all[j]?).bind (·.dst); rw [hj]; rfl)
      have hv := ht.2 d hlt
      have hlt' : d < a.tmps.size := by rw [ht.1]; exact hlt
      simp only [hj, Option.bind_some]
      simp only at h
      have e : a.tmps[d]? = some (a.tmps.getD d undef) := by simp [Array.getD_eq_getD_getElem?, hlt']
      rw [e]
      generalize a.tmps.getD d undef = u at hv
      split at h
      · rename_i b' hb
        rw [hb] at hv
        injection h with h
        subst h
        cases hv
        simp
      · rename_i xs hb
        rw [hb] at hv
        injection h with h
        subst h
        cases hv
        simp
      · cases h

/-- The operations of a region, in the text's order. -/
inductive ROps (P : Program) (all : Array Oper) : List Oper → St → St → Prop
  | nil {S : St} : ROps P all [] S S
  | go {o : Oper} {l : List Oper} {S S' : St} {r : Value} {H' : Hp} (hg : gw all S.T o = some true) (he : aev P o S.rho S.H r H') (hr : ROps P all l ((S.put o.dst r).heap H') S') : ROps P all (o :: l) S S'
  | skip {o : Oper} {l : List Oper} {S S' : St} (hg : gw all S.T o = some false) (hr : ROps P all l (S.put o.dst undef) S') : ROps P all (o :: l) S S'

/-- Every slot that a region names is there. -/
def opOK (n : Nat) (all : Array Oper) (o : Oper) : Bool :=
  o.op.operands.all (opndOK n) && (o.dst.all (· < n)) && ((o.guard.bind (fun g => (all[g.1]?).bind (·.dst))).all (· < n))
def opsOK (n : Nat) (all : Array Oper) : Bool := all.all (opOK n all)

/-- What a piece of code does: it ends by the exit e in the state S'. -/
def Sem (P : Program) (c : Code) (S : St) (e : Exit) (S' : St) : Prop :=
  ∀ (B : Nat) (β : Bm) (a : Act) (w : World), TR β S a → HR B β S.H w → a.defers = [] →
    c.wp P (fun e' a' w' => e' = e ∧ a'.defers = [] ∧ ∃ β', TR β' S' a' ∧ HR B β' S'.H w' ∧ Fr B β S.H w β' S'.H w') a w

theorem put_defers (a : Act) (d : Option Nat) (v : Value) : (a.put d v).defers = a.defers := by cases d <;> rfl
theorem put_n (S : St) (d : Option Nat) (v : Value) : (S.put d v).n = S.n := by cases d <;> rfl
theorem put_H (S : St) (d : Option Nat) (v : Value) : (S.put d v).H = S.H := by cases d <;> rfl

theorem opsOK_at {n : Nat} {all : Array Oper} (h : opsOK n all = true) {i : Nat} {o : Oper} (ho : all[i]? = some o) : opOK n all o = true := by
  unfold opsOK at h
  rw [Array.all_eq_true_iff_forall_mem] at h
  exact h o (Array.mem_of_getElem? ho)

theorem ops_sound {P : Program} {all : Array Oper} {B : Nat} {Q : Exit → Act → World → Prop} {S' : St} : ∀ (l : List Oper) (i : Nat) (S : St) (β : Bm) (a : Act) (w : World),
    (all.toList.drop i = l) → opsOK S.n all = true → ROps P all l S S' → TR β S a → HR B β S.H w → a.defers = [] →
    (∀ β' a' w', TR β' S' a' → HR B β' S'.H w' → Fr B β S.H w β' S'.H w' → a'.defers = [] → Q .normal a' w') → wpOps P all Q ((List.range' i l.length)) a w := by
  intro l
  induction l with
  | nil =>
    intro i S β a w hl hok h ht hr hd hQ
    cases h
    exact hQ β a w ht hr (Fr.refl hr) hd
  | cons o l ih =>
    intro i S β a w hl hok h ht hr hd hQ
    have hi : i < all.toList.length := by
      rcases Nat.lt_or_ge i all.toList.length with h1 | h1
      · exact h1
      · rw [List.drop_of_length_le h1] at hl; cases hl
    have ho : all[i]? = some o := by
      have := congrArg (fun l => l[0]?) hl
      simpa using this
    have hl' : all.toList.drop (i + 1) = l := by
      have := congrArg List.tail hl
      simpa using this
    have hop := opsOK_at hok ho
    unfold opOK at hop
    simp only [Bool.and_eq_true] at hop
    obtain ⟨⟨h1, h2⟩, h3⟩ := hop
    have hguard : ∀ d ∈ o.guard.bind (fun g => (all[g.1]?).bind (·.dst)), d < S.n := by
      intro d hd'
      cases hx : o.guard.bind (fun g => (all[g.1]?).bind (·.dst)) with
      | none => rw [hx] at hd'; cases hd'
      | some y => rw [hx] at hd' h3; cases hd'; simpa using h3
    rw [List.length_cons, List.range'_succ]
    simp only [wpOps, ho]
    cases h with
    | go hg he hrest =>
      rw [gw_sound ht hguard hg]
      simp only [if_true]
      refine .inl (he B β a w (fun x hx => ht.eval ?_) hr _ _ ?_)
      · rw [Array.all_eq_true_iff_forall_mem] at h1
        exact h1 x hx
      · intro β' u w' hv hr' hf
        refine ih (i + 1) _ β' _ w' hl' ?_ hrest ?_ hr' ?_ ?_
        · show opsOK (St.put S o.dst _).n all = true
          rw [put_n]; exact hok
        · exact ((ht.mono (hf.ext hr)).put hv).heap _
        · rw [put_defers]; exact hd
        · intro β'' a'' w'' ht'' hr'' hf'' hd''
          exact hQ β'' a'' w'' ht'' hr'' (hf.trans hf'') hd''
    | skip hg hrest =>
      rw [gw_sound ht hguard hg]
      simp only [Bool.false_eq_true, if_false]
      refine ih (i + 1) _ β _ w hl' (by rw [put_n]; exact hok) hrest (ht.put VR.undef) (by rw [put_H]; exact hr) (by rw [put_defers]; exact hd) ?_
      intro β'' a'' w'' ht'' hr'' hf'' hd''
      rw [put_H] at hf''
      exact hQ β'' a'' w'' ht'' hr'' hf'' hd''

theorem Sem.region {P : Program} {id : Nat} {ops : Array Oper} {S S' : St} (hok : opsOK S.n ops = true) (h : ROps P ops ops.toList S S') : Sem P (.region id ops false) S .normal S' := by
  intro B β a w ht hr hd
  refine wp_region ?_
  rw [List.range_eq_range']
  have := ops_sound (P := P) (B := B) (Q := fun e' a' w' => e' = .normal ∧ a'.defers = [] ∧ ∃ β', TR β' S' a' ∧ HR B β' S'.H w' ∧ Fr B β S.H w β' S'.H w') ops.toList 0 S β a w rfl hok h ht hr hd
    (fun β' a' w' h1 h2 h3 h4 => ⟨rfl, h4, β', h1, h2, h3⟩)
  simpa using this

theorem Sem.skip {P : Program} {S : St} : Sem P .skip S .normal S := fun B β a w ht hr hd => wp_skip ⟨rfl, hd, β, ht, hr, Fr.refl hr⟩
theorem Sem.label {P : Program} {l : Nat} {S : St} : Sem P (.label l) S .normal S := fun B β a w ht hr hd => wp_label ⟨rfl, hd, β, ht, hr, Fr.refl hr⟩
theorem Sem.exit {P : Program} {i : Nat} {S : St} : Sem P (.exit i) S (.exit i) S := fun B β a w ht hr hd => wp_exit ⟨rfl, hd, β, ht, hr, Fr.refl hr⟩
theorem Sem.ret {P : Program} {S : St} : Sem P .ret S .ret S := fun B β a w ht hr hd => wp_ret ⟨rfl, hd, β, ht, hr, Fr.refl hr⟩

theorem Sem.seq {P : Program} {x y : Code} {S S1 S2 : St} {e : Exit} (h : Sem P x S .normal S1) (k : Sem P y S1 e S2) : Sem P (.seq x y) S e S2 := by
  intro B β a w ht hr hd
  refine wp_seq (wp_mono (h B β a w ht hr hd) ?_)
  rintro e1 a1 w1 ⟨rfl, hd1, β1, ht1, hr1, hf1⟩
  refine wp_mono (k B β1 a1 w1 ht1 hr1 hd1) ?_
  rintro e2 a2 w2 ⟨rfl, hd2, β2, ht2, hr2, hf2⟩
  exact ⟨rfl, hd2, β2, ht2, hr2, hf1.trans hf2⟩

theorem Sem.seq_out {P : Program} {x y : Code} {S S1 : St} {e : Exit} (h : Sem P x S e S1) (hne : e ≠ .normal) : Sem P (.seq x y) S e S1 := by
  intro B β a w ht hr hd
  refine wp_seq (wp_mono (h B β a w ht hr hd) ?_)
  rintro e1 a1 w1 ⟨rfl, h1⟩
  cases e1 <;> first | exact absurd rfl hne | exact ⟨rfl, h1⟩

theorem Sem.cond {P : Program} {c : Operand} {x y : Code} {S S1 : St} {e : Exit} {t : Bool} (hok : opndOK S.n c = true) (hc : S.rho c = .bool t) (h : Sem P (if t then x else y) S e S1) : Sem P (.cond c x y) S e S1 := by
  intro B β a w ht hr hd
  have hv := ht.eval hok
  rw [hc] at hv
  exact wp_cond (VR.still_eq rfl hv) (h B β a w ht hr hd)

theorem Sem.block {P : Program} {i : Nat} {c : Code} {S S1 : St} {e : Exit} (h : Sem P c S e S1) (hne : ∀ j, e = .exit j → j ≠ i) : Sem P (.block i c) S e S1 := by
  intro B β a w ht hr hd
  refine wp_block (wp_mono (h B β a w ht hr hd) ?_)
  rintro e1 a1 w1 ⟨rfl, h1⟩
  cases e1 <;> try exact ⟨rfl, h1⟩
  rename_i j
  show (if j = i then _ else _)
  rw [if_neg (hne j rfl)]
  exact ⟨rfl, h1⟩

theorem Sem.block_exit {P : Program} {i : Nat} {c : Code} {S S1 : St} (h : Sem P c S (.exit i) S1) : Sem P (.block i c) S .normal S1 := by
  intro B β a w ht hr hd
  refine wp_block (wp_mono (h B β a w ht hr hd) ?_)
  rintro e1 a1 w1 ⟨rfl, h1⟩
  show (if i = i then _ else _)
  rw [if_pos rfl]
  exact ⟨rfl, h1⟩

/-- A loop by its rounds. -/
inductive Rnds (P : Program) (c : Code) : Nat → St → Exit → St → Prop
  | out {S S1 : St} {e : Exit} (h : Sem P c S e S1) (hne : e ≠ .normal) : Rnds P c 1 S e S1
  | more {n : Nat} {S S1 S2 : St} {e : Exit} (h : Sem P c S .normal S1) (k : Rnds P c n S1 e S2) : Rnds P c (n + 1) S e S2

theorem Sem.loop {P : Program} {c : Code} {n : Nat} {S S2 : St} {e : Exit} (h : Rnds P c n S e S2) : Sem P (.loop c) S e S2 := by
  intro B β a w ht hr hd
  refine wp_loop_rounds n ?_
  have key : ∀ (Q : Exit → Act → World → Prop) β' a' w', TR β' S a' → HR B β' S.H w' → a'.defers = [] →
      (∀ β'' a'' w'', a''.defers = [] → TR β'' S2 a'' → HR B β'' S2.H w'' → Fr B β' S.H w' β'' S2.H w'' → Q e a'' w'') → Code.rounds P c Q n a' w' := by
    clear ht hr hd a w β
    induction h with
    | out h hne =>
      intro Q β a w ht hr hd hQ
      rw [rounds_succ]
      refine wp_mono (h B β a w ht hr hd) ?_
      rintro e1 a1 w1 ⟨rfl, h1, β1, h2, h3, h4⟩
      have := hQ β1 a1 w1 h1 h2 h3 h4
      cases e1 <;> first | exact absurd rfl hne | exact this
    | more h k ih =>
      intro Q β a w ht hr hd hQ
      rw [rounds_succ]
      refine wp_mono (h B β a w ht hr hd) ?_
      rintro e1 a1 w1 ⟨rfl, h1, β1, h2, h3, h4⟩
      exact ih Q β1 a1 w1 h2 h3 h1 (fun β'' a'' w'' k1 k2 k3 k4 => hQ β'' a'' w'' k1 k2 k3 (h4.trans k4))
  exact key _ β a w ht hr hd (fun β'' a'' w'' k1 k2 k3 k4 => ⟨rfl, k1, β'', k2, k3, k4⟩)

end Go.Proofs.Ytefmjpbmdoebaaa
