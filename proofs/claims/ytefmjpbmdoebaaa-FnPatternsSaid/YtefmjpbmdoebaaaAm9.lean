/- The abstract machine, part 9: statements whose operations may be carried out in several orders: one order is followed; the others come to the same. -/
import Derived.Test.YtefmjpbmdoebaaaAm8
set_option linter.unusedVariables false
set_option linter.unusedSimpArgs false
namespace Go.Proofs.Ytefmjpbmdoebaaa
open Go Go.RowKit

/-- 0: asks no memory; 1: makes a new row, asks none; 2: reads a row; 3: makes memory; 4: writes; 5: not taken. -/
def cls : Op → Nat
  | .move _ | .assign _ | .pick .. | .binOp .. | .unOp .. | .extract .. | .nilCheck _ | .fieldAddr .. | .indexAddr .. | .field .. | .build .. | .makeFunc .. | .index .. | .convert .. => 0
  | .alloc _ | .box .. | .buildSlice .. | .makeSlice .. => 1
  | .load .. | .slice .. => 2
  | .store .. => 4
  | .call c =>
    match c.callee with
    | .builtin .len | .builtin .max | .builtin .min => 0
    | .builtin .append | .value _ => 3
    | .builtin .clear | .builtin .copy => 4
    | _ => 5
  | _ => 5

def preds (o : Oper) : List Nat := (o.after.toList.filter (Region.binds .any)).map (·.on)

/-- For each operation the set (as bits) of those that come before it in any order. -/
def masksAux : List Oper → List Nat → List Nat
  | [], acc => acc
  | o :: l, acc => masksAux l (acc ++ [(preds o).foldl (fun m p => m ||| (1 <<< p) ||| acc.getD p 0) 0])
def masks (ops : Array Oper) : List Nat := masksAux ops.toList []

inductive Reach (ops : Array Oper) : Nat → Nat → Prop
  | edge {i j : Nat} {o : Oper} (ho : ops[j]? = some o) (h : i ∈ preds o) : Reach ops i j
  | step {i p j : Nat} {o : Oper} (ho : ops[j]? = some o) (h : p ∈ preds o) (k : Reach ops i p) : Reach ops i j

theorem fold_bits {acc : List Nat} (i : Nat) : ∀ (l : List Nat) (m : Nat), (l.foldl (fun m p => m ||| (1 <<< p) ||| acc.getD p 0) m).testBit i = true → m.testBit i = true ∨ ∃ p ∈ l, i = p ∨ (acc.getD p 0).testBit i = true
  | [], m, h => .inl h
  | p :: l, m, h => by
    rw [List.foldl_cons] at h
    rcases fold_bits i l _ h with h1 | ⟨q, hq, h1⟩
    · rw [Nat.testBit_or, Nat.testBit_or] at h1
      simp only [Bool.or_eq_true] at h1
      rcases h1 with (h1 | h1) | h1
      · exact .inl h1
      · refine .inr ⟨p, by simp, .inl ?_⟩
        rw [Nat.one_shiftLeft, Nat.testBit_two_pow] at h1
        simpa using (of_decide_eq_true h1).symm
      · exact .inr ⟨p, by simp, .inr h1⟩
    · exact .inr ⟨q, by simp [hq], h1⟩

theorem masksAux_ok {ops : Array Oper} : ∀ (l : List Oper) (acc : List Nat), ops.toList.drop acc.length = l → (∀ j i, (acc.getD j 0).testBit i = true → Reach ops i j) → ∀ j i, ((masksAux l acc).getD j 0).testBit i = true → Reach ops i j
  | [], acc, _, h => h
  | o :: l, acc, hl, h => by
    have ho : ops[acc.length]? = some o := by
      have := congrArg (fun l => l[0]?) hl
      simpa using this
    refine masksAux_ok l _ ?_ ?_
    · have := congrArg List.tail hl
      simpa using this
    · intro j i hj
      rcases Nat.lt_trichotomy j acc.length with h1 | h1 | h1
      · refine h j i ?_
        rw [List.getD_eq_getElem?_getD, List.getElem?_append_left h1, ← List.getD_eq_getElem?_getD] at hj
        exact hj
      · subst h1
        rw [List.getD_eq_getElem?_getD, List.getElem?_append_right (Nat.le_refl _), Nat.sub_self] at hj
        rcases fold_bits i _ _ hj with h2 | ⟨p, hp, h2 | h2⟩
        · simp at h2
        · subst h2; exact .edge ho hp
        · exact .step ho hp (h p i h2)
      · rw [List.getD_eq_getElem?_getD, List.getElem?_append_right (by omega), List.getElem?_eq_none (by simp; omega)] at hj
        simp at hj

theorem masks_ok {ops : Array Oper} {j i : Nat} (h : ((masks ops).getD j 0).testBit i = true) : Reach ops i j :=
  masksAux_ok ops.toList [] rfl (fun j i h => by simp at h) j i h

/-- May two operations without order between them stand so, the first one ahead? -/
def fine (c d : Nat) : Bool := !((3 ≤ c && (d == 1 || 3 ≤ d)) || (c == 4 && d == 2) || (c == 2 && 3 ≤ d) || (c == 1 && d == 4))

def pairOK (ms : List Nat) (ops : Array Oper) (i j : Nat) : Bool :=
  !(i == j) && !((ms.getD i 0).testBit j) &&
  ((ms.getD j 0).testBit i ||
    match ops[i]?, ops[j]? with
    | some x, some y => x.apart ops y && fine (cls x.op) (cls y.op)
    | _, _ => false)

def pairsOK (ms : List Nat) (ops : Array Oper) : List Nat → Bool
  | [] => true
  | i :: l => l.all (pairOK ms ops i) && pairsOK ms ops l

/-- The order sg may be followed for the region ops. -/
def sgOK (ops : Array Oper) (n : Nat) (sg : List Nat) : Bool :=
  (sg.length == ops.size) && sg.all (· < ops.size) && (List.range ops.size).all (fun i => sg.contains i) && ops.all (fun o => cls o.op ≤ 4) && opsOK n ops && pairsOK (masks ops) ops sg &&
    (List.range ops.size).all (fun j => (((ops[j]?).map preds).getD []).all fun i => !(i == j) && decide (i < ops.size) && ((masks ops).getD j 0).testBit i)

/-- What is old is as it was, or given up. -/
def GE (H H' : Hp) : Prop := H.nxt ≤ H'.nxt ∧ ∀ id, id < H.nxt → H'.get id = H.get id ∨ H'.get id = none

def StepC (P : Program) (o : Oper) (S : St) (r : Value) (H' : Hp) : Prop :=
  match cls o.op with
  | 0 => H' = S.H ∧ ∀ G, aev P o S.rho G r G
  | 1 => ∃ ob f, H' = S.H.new ob ∧ r = f S.H.nxt ∧ anew P o S.rho ob f
  | 2 => H' = S.H ∧ ∃ id ob, S.H.get id = some ob ∧ (∀ (β : Bm) (ev : Operand → Value), (∀ x ∈ o.op.operands, VR β (S.rho x) (ev x)) → ∃ p, β id = some p) ∧ ∀ G, G.get id = some ob → aev P o S.rho G r G
  | 3 => aev P o S.rho S.H r H' ∧ GE S.H H'
  | 4 => aev P o S.rho S.H r H' ∧ S.H.nxt ≤ H'.nxt
  | _ => False

/-- What is to be shown of an operation: in a statement whose operations may come in several orders, and in one where they may not. -/
def StepF (fl : Bool) (P : Program) (o : Oper) (S : St) (r : Value) (H' : Hp) : Prop := if fl then StepC P o S r H' else aev P o S.rho S.H r H'

section
variable {fl : Bool} {P : Program} {o : Oper} {S : St} {r : Value} {H' : Hp}

theorem StepF.pure (hc : cls o.op = 0) (h : ∀ G, aev P o S.rho G r G) : StepF fl P o S r S.H := by
  unfold StepF
  split
  · unfold StepC; rw [hc]; exact ⟨rfl, h⟩
  · exact h _
theorem StepF.new {ob : Ob} {f : Nat → Value} (hc : cls o.op = 1) (h : anew P o S.rho ob f) : StepF fl P o S (f S.H.nxt) (S.H.new ob) := by
  unfold StepF
  split
  · unfold StepC; rw [hc]; exact ⟨ob, f, rfl, rfl, h⟩
  · exact h.aev _
theorem StepF.load {id : Nat} {ob : Ob} (hc : cls o.op = 2) (hg : S.H.get id = some ob) (hm : ∀ (β : Bm) (ev : Operand → Value), (∀ x ∈ o.op.operands, VR β (S.rho x) (ev x)) → ∃ p, β id = some p) (h : ∀ G, G.get id = some ob → aev P o S.rho G r G) : StepF fl P o S r S.H := by
  unfold StepF
  split
  · unfold StepC; rw [hc]; exact ⟨rfl, id, ob, hg, hm, h⟩
  · exact h _ hg
theorem StepF.chain (hc : cls o.op = 3) (h : aev P o S.rho S.H r H') (hg : fl = true → GE S.H H') : StepF fl P o S r H' := by
  unfold StepF
  split
  · rename_i hf
    unfold StepC; rw [hc]; exact ⟨h, hg hf⟩
  · exact h
theorem StepF.write (hc : cls o.op = 4) (h : aev P o S.rho S.H r H') (hn : S.H.nxt ≤ H'.nxt) : StepF fl P o S r H' := by
  unfold StepF
  split
  · unfold StepC; rw [hc]; exact ⟨h, hn⟩
  · exact h
theorem StepF.plain (h : aev P o S.rho S.H r H') : StepF false P o S r H' := h

end

/-- The operations of a region, in the order that is followed. -/
inductive RF (P : Program) (fl : Bool) (all : Array Oper) : List Oper → St → St → Prop
  | nil {S : St} : RF P fl all [] S S
  | go {o : Oper} {l : List Oper} {S S' : St} {r : Value} {H' : Hp} (hg : gw all S.T o = some true) (he : StepF fl P o S r H') (hr : RF P fl all l ((S.put o.dst r).heap H') S') : RF P fl all (o :: l) S S'
  | skip {o : Oper} {l : List Oper} {S S' : St} (hg : gw all S.T o = some false) (hr : RF P fl all l (S.put o.dst undef) S') : RF P fl all (o :: l) S S'

theorem RF.plain {P : Program} {all : Array Oper} {l : List Oper} {S S' : St} (h : RF P false all l S S') : ROps P all l S S' := by
  induction h with
  | nil => exact .nil
  | go hg he hr ih => exact .go hg he ih
  | skip hg hr ih => exact .skip hg ih

def StepD (P : Program) (all : Array Oper) (o : Oper) (S S1 : St) : Prop :=
  (gw all S.T o = some false ∧ S1 = S.put o.dst undef) ∨ (gw all S.T o = some true ∧ ∃ r H', S1 = (S.put o.dst r).heap H' ∧ StepC P o S r H')

inductive RD (P : Program) (ops : Array Oper) : List Nat → St → St → Prop
  | nil {S : St} : RD P ops [] S S
  | go {j : Nat} {l : List Nat} {o : Oper} {S S1 S' : St} (ho : ops[j]? = some o) (h : StepD P ops o S S1) (k : RD P ops l S1 S') : RD P ops (j :: l) S S'

theorem RF.drawn {P : Program} {ops : Array Oper} : ∀ {sg : List Nat} {S S' : St}, (∀ j ∈ sg, j < ops.size) → RF P true ops (sg.map fun j => ops.getD j default) S S' → RD P ops sg S S'
  | [], S, S', _, h => by cases h; exact .nil
  | j :: sg, S, S', hj, h => by
    have hlt := hj j (by simp)
    have ho : ops[j]? = some (ops.getD j default) := by rw [Array.getD_eq_getD_getElem?, Array.getElem?_eq_getElem hlt]; rfl
    cases h with
    | go hg he hr => exact .go ho (.inr ⟨hg, _, _, rfl, he⟩) (RF.drawn (fun i hi => hj i (by simp [hi])) hr)
    | skip hg hr => exact .go ho (.inl ⟨hg, rfl⟩) (RF.drawn (fun i hi => hj i (by simp [hi])) hr)

theorem RD.states {P : Program} {ops : Array Oper} {l : List Nat} {S S' : St} (h : RD P ops l S S') :
    ∃ st : Nat → St, st 0 = S ∧ st l.length = S' ∧ ∀ p, p < l.length → ∃ o, ops[l.getD p 0]? = some o ∧ StepD P ops o (st p) (st (p + 1)) := by
  induction h with
  | nil => exact ⟨fun _ => _, rfl, rfl, fun p hp => by simp at hp⟩
  | go ho h k ih =>
    rename_i j l o S S1 S'
    obtain ⟨st, h1, h2, h3⟩ := ih
    refine ⟨fun p => if p = 0 then S else st (p - 1), rfl, ?_, fun p hp => ?_⟩
    · show (if l.length + 1 = 0 then S else st (l.length + 1 - 1)) = S'
      rw [if_neg (by omega)]; exact h2
    · cases p with
      | zero => exact ⟨o, ho, by show StepD P ops o S (if 0 + 1 = 0 then S else st (0 + 1 - 1)); rw [if_neg (by omega)]; simpa [h1] using h⟩
      | succ p =>
        obtain ⟨o', g1, g2⟩ := h3 p (by simpa using hp)
        exact ⟨o', by simpa using g1, by show StepD P ops o' (if p + 1 = 0 then S else st (p + 1 - 1)) (if p + 1 + 1 = 0 then S else st (p + 1 + 1 - 1)); rw [if_neg (by omega), if_neg (by omega)]; exact g2⟩

/-- A step whose value is r. -/
def StepR (P : Program) (all : Array Oper) (o : Oper) (S : St) (r : Value) (S1 : St) : Prop :=
  (gw all S.T o = some false ∧ r = undef ∧ S1 = S.put o.dst r) ∨ (gw all S.T o = some true ∧ ∃ H', S1 = (S.put o.dst r).heap H' ∧ StepC P o S r H')

theorem StepD.slot {P : Program} {all : Array Oper} {o : Oper} {S S1 : St} (h : StepD P all o S S1) : ∃ r, StepR P all o S r S1 := by
  rcases h with ⟨h1, h2⟩ | ⟨h1, r, H', h2, h3⟩
  · exact ⟨undef, .inl ⟨h1, rfl, h2⟩⟩
  · exact ⟨r, .inr ⟨h1, H', h2, h3⟩⟩

theorem put_T_ne {S : St} {d : Option Nat} {v : Value} {j : Nat} (h : d ≠ some j) : (S.put d v).T j = S.T j := by
  cases d with
  | none => rfl
  | some d =>
    show (if j = d then v else S.T j) = S.T j
    rw [if_neg (fun e => h (by rw [e]))]

theorem pairsOK_at {ms : List Nat} {ops : Array Oper} : ∀ {l : List Nat}, pairsOK ms ops l = true → ∀ p q, p < q → q < l.length → pairOK ms ops (l.getD p 0) (l.getD q 0) = true
  | [], _, p, q, _, hq => by simp at hq
  | i :: l, h, p, q, hpq, hq => by
    unfold pairsOK at h
    rw [Bool.and_eq_true] at h
    cases q with
    | zero => omega
    | succ q =>
      have hq' : q < l.length := by simpa using hq
      cases p with
      | zero =>
        have := List.all_eq_true.1 h.1 (l.getD q 0) (by rw [List.getD_eq_getElem?_getD, List.getElem?_eq_getElem hq']; exact List.getElem_mem hq')
        simpa using this
      | succ p => simpa using pairsOK_at h.2 p q (by omega) hq'

end Go.Proofs.Ytefmjpbmdoebaaa
