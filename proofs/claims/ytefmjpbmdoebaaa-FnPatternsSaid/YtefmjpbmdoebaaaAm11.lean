/- The abstract machine, part 11: the same rules, each with what is to be shown of what comes behind. -/
import Derived.Test.YtefmjpbmdoebaaaAm10
set_option linter.unusedVariables false
set_option linter.unusedSimpArgs false
namespace Go.Proofs.Ytefmjpbmdoebaaa
open Go Go.RowKit

/-- No slot is known. -/
def jk : Nat → Value := fun _ => junk
/-- A slot is set. -/
def up (T : Nat → Value) (d : Nat) (v : Value) : Nat → Value := fun j => if j = d then v else T j
/-- An operand's value. -/
def rd (T : Nat → Value) : Operand → Value
  | .tmp t => T t
  | .const v => if Value.still v then v else junk
  | .global _ => junk
  | .func f => .func (.func f) #[] #[]

theorem rho_eq (S : St) : S.rho = rd S.T := by funext x; cases x <;> rfl

/-- A piece of code ends, and what is wanted holds there. -/
def Run (P : Program) (c : Code) (S : St) (K : Exit → St → Prop) : Prop := ∃ e S', Sem P c S e S' ∧ K e S'
def Ops (P : Program) (fl : Bool) (all : Array Oper) (l : List Oper) (S : St) (K : St → Prop) : Prop := ∃ S', RF P fl all l S S' ∧ K S'
/-- A call ends, and what is wanted holds there. -/
def CallK (P : Program) (f : FuncId) (args : List Value) (H : Hp) (K : Value → Hp → Prop) : Prop := ∃ r H', acall P f args H r H' ∧ K r H'

/-- What holds behind the first of two pieces. -/
def thn (P : Program) (y : Code) (K : Exit → St → Prop) : Exit → St → Prop
  | .normal, S => Run P y S K
  | e, S => K e S

section
variable {P : Program} {S : St} {K : Exit → St → Prop}

theorem Run.seq {x y : Code} (h : Run P x S (thn P y K)) : Run P (.seq x y) S K := by
  obtain ⟨e, S1, h1, h2⟩ := h
  cases e with
  | normal => obtain ⟨e2, S2, h3, h4⟩ := h2; exact ⟨e2, S2, h1.seq h3, h4⟩
  | _ => exact ⟨_, S1, h1.seq_out (by simp), h2⟩

theorem Run.skip (h : K .normal S) : Run P .skip S K := ⟨_, _, .skip, h⟩
theorem Run.label {l : Nat} (h : K .normal S) : Run P (.label l) S K := ⟨_, _, .label, h⟩
theorem Run.exit {i : Nat} (h : K (.exit i) S) : Run P (.exit i) S K := ⟨_, _, .exit, h⟩
theorem Run.ret (h : K .ret S) : Run P .ret S K := ⟨_, _, .ret, h⟩

/-- What holds behind a block. -/
def blk (i : Nat) (K : Exit → St → Prop) : Exit → St → Prop
  | .exit j, S => if j = i then K .normal S else K (.exit j) S
  | e, S => K e S

theorem Run.block {i : Nat} {c : Code} (h : Run P c S (blk i K)) : Run P (.block i c) S K := by
  obtain ⟨e, S1, h1, h2⟩ := h
  cases e with
  | exit j =>
    change (if j = i then _ else _) at h2
    split at h2
    · rename_i e; subst e; exact ⟨_, S1, h1.block_exit, h2⟩
    · rename_i e; exact ⟨_, S1, h1.block (fun k hk => by cases hk; exact e), h2⟩
  | _ => exact ⟨_, S1, h1.block (by simp), h2⟩

theorem Run.cond {c : Operand} {x y : Code} {t : Bool} (hok : opndOK S.n c = true) (hc : rd S.T c = .bool t) (h : Run P (if t then x else y) S K) : Run P (.cond c x y) S K := by
  obtain ⟨e, S1, h1, h2⟩ := h
  exact ⟨e, S1, .cond hok (by rw [rho_eq]; exact hc) h1, h2⟩

theorem Run.cond_t {c : Operand} {x y : Code} (hok : opndOK S.n c = true) (hc : rd S.T c = .bool true) (h : Run P x S K) : Run P (.cond c x y) S K := .cond hok hc h
theorem Run.cond_f {c : Operand} {x y : Code} (hok : opndOK S.n c = true) (hc : rd S.T c = .bool false) (h : Run P y S K) : Run P (.cond c x y) S K := .cond hok hc h
theorem Run.cond_b {c : Operand} {x y : Code} {t : Bool} (hok : opndOK S.n c = true) (hc : rd S.T c = .bool t) (h1 : t = true → Run P x S K) (h2 : t = false → Run P y S K) : Run P (.cond c x y) S K := by
  cases t
  · exact .cond hok hc (h2 rfl)
  · exact .cond hok hc (h1 rfl)

theorem Run.mono {c : Code} {K' : Exit → St → Prop} (h : Run P c S K) (k : ∀ e S, K e S → K' e S) : Run P c S K' := by
  obtain ⟨e, S1, h1, h2⟩ := h; exact ⟨e, S1, h1, k _ _ h2⟩

theorem Run.region {id n : Nat} {T : Nat → Value} {H : Hp} {ops : Array Oper} (hok : opsOK n ops = true) (h : Ops P false ops ops.toList ⟨n, T, H⟩ (K .normal)) : Run P (.region id ops false) ⟨n, T, H⟩ K := by
  obtain ⟨S1, h1, h2⟩ := h
  exact ⟨_, S1, .region hok h1.plain, h2⟩

/-- A statement whose operations may be carried out in several orders: sg is followed. -/
theorem Run.draw {id n : Nat} {T : Nat → Value} {H : Hp} {ops : Array Oper} (sg : List Nat) (hm : P.follows .mixedOrders = true) (hok : sgOK ops n sg = true) (h : Ops P true ops (sg.map fun j => ops.getD j default) ⟨n, T, H⟩ (K .normal)) : Run P (.region id ops true) ⟨n, T, H⟩ K := by
  obtain ⟨S1, h1, h2⟩ := h
  have hlt : ∀ j ∈ sg, j < ops.size := by
    unfold sgOK at hok
    simp only [Bool.and_eq_true] at hok
    intro j hj
    have := List.all_eq_true.1 hok.1.1.1.1.1.2 j hj
    exact of_decide_eq_true this
  exact ⟨_, S1, .region_draw hm sg hok (h1.drawn hlt), h2⟩

/-- A loop: a measure goes down with each round that goes on. -/
theorem Run.loop {c : Code} {α : Type} (m : α → Nat) (I : α → St → Prop) (hs : ∀ a S, I a S → Run P c S (fun e S' => (e = .normal ∧ ∃ a', m a' < m a ∧ I a' S') ∨ (e ≠ .normal ∧ K e S'))) (a : α) (h : I a S) : Run P (.loop c) S K := by
  have key : ∀ n a S, m a = n → I a S → ∃ k e S', Rnds P c k S e S' ∧ K e S' := by
    intro n
    induction n using Nat.strongRecOn with
    | ind n ih =>
      intro a S hm hI
      obtain ⟨e, S1, h1, h2⟩ := hs a S hI
      rcases h2 with ⟨rfl, a', h3, h4⟩ | ⟨h3, h4⟩
      · obtain ⟨k, e', S2, h5, h6⟩ := ih (m a') (by omega) a' S1 rfl h4
        exact ⟨k + 1, e', S2, .more h1 h5, h6⟩
      · exact ⟨1, e, S1, .out h1 h3, h4⟩
  obtain ⟨k, e, S2, h1, h2⟩ := key _ a S rfl h
  exact ⟨e, S2, .loop h1, h2⟩

/-- What is known of the slots may be forgotten. -/
def Wk (n : Nat) (T T' : Nat → Value) : Prop := ∀ i, i < n → T' i = T i ∨ T' i = junk
theorem Wk.jk {n : Nat} {T : Nat → Value} : Wk n T jk := fun i _ => .inr rfl
theorem Wk.up {n d : Nat} {T T' : Nat → Value} {v : Value} (hd : T d = v) (h : Wk n T T') : Wk n T (up T' d v) := by
  intro i hi
  show (if i = d then v else T' i) = T i ∨ (if i = d then v else T' i) = junk
  by_cases e : i = d
  · subst e; rw [if_pos rfl]; exact .inl hd.symm
  · rw [if_neg e]; exact h i hi

theorem Sem.wk {c : Code} {n : Nat} {T T' : Nat → Value} {H : Hp} {e : Exit} {S' : St} (h : Sem P c ⟨n, T', H⟩ e S') (hw : Wk n T T') : Sem P c ⟨n, T, H⟩ e S' := by
  intro B β a w ht hr hd
  refine h B β a w ⟨ht.1, fun i hi => ?_⟩ hr hd
  show VR β (T' i) _
  rcases hw i hi with h1 | h1
  · rw [h1]; exact ht.2 i hi
  · rw [h1]; exact .any _

theorem Run.wk {c : Code} {n : Nat} {T : Nat → Value} {H : Hp} (T' : Nat → Value) (hw : Wk n T T') (h : Run P c ⟨n, T', H⟩ K) : Run P c ⟨n, T, H⟩ K := by
  obtain ⟨e, S1, h1, h2⟩ := h
  exact ⟨e, S1, h1.wk hw, h2⟩

/-- The memory may have grown. -/
theorem Run.calm {c : Code} {n : Nat} {T : Nat → Value} {H H' : Hp} (hc : Calm H H') (h : Run P c ⟨n, T, H'⟩ K) : Run P c ⟨n, T, H⟩ K := by
  obtain ⟨e, S1, h1, h2⟩ := h
  refine ⟨e, S1, fun B β a w ht hr hd => wp_mono (h1 B β a w ht (hr.more hc) hd) ?_, h2⟩
  rintro e' a' w' ⟨rfl, hd', β', ht', hr', hf'⟩
  exact ⟨rfl, hd', β', ht', hr', fun id hi => hf'.old id (Nat.lt_of_lt_of_le hi hc.1), hf'.below, Nat.le_trans hc.1 hf'.nxt⟩

/-- What is to be shown behind a round of a loop. -/
def lpK {α : Type} (n : Nat) (m : α → Nat) (T' : α → Nat → Value) (H' : α → Hp) (I : α → Prop) (a : α) (K : Exit → St → Prop) : Exit → St → Prop
  | .normal, S => ∃ a', m a' < m a ∧ S.n = n ∧ S.H = H' a' ∧ Wk n S.T (T' a') ∧ I a'
  | e, S => K e S

theorem Run.loopW {c : Code} {n : Nat} {T : Nat → Value} {H : Hp} {α : Type} (m : α → Nat) (T' : α → Nat → Value) (H' : α → Hp) (I : α → Prop) (a : α) (hH : H = H' a) (hw : Wk n T (T' a)) (h0 : I a)
    (hs : ∀ a, I a → Run P c ⟨n, T' a, H' a⟩ (lpK n m T' H' I a K)) : Run P (.loop c) ⟨n, T, H⟩ K := by
  refine Run.loop m (fun a S => S.n = n ∧ S.H = H' a ∧ Wk n S.T (T' a) ∧ I a) ?_ a ⟨rfl, hH, hw, h0⟩
  rintro a ⟨n1, T1, H1⟩ ⟨rfl, rfl, h3, h4⟩
  refine ((hs a h4).wk _ h3).mono ?_
  rintro e S h
  cases e with
  | normal => exact .inl ⟨rfl, h⟩
  | _ => exact .inr ⟨by simp, h⟩

end

section
variable {P : Program} {fl : Bool} {all : Array Oper} {l : List Oper} {n : Nat} {T : Nat → Value} {H H' : Hp} {K : St → Prop} {d : Nat} {ty : TypeId} {ps : String} {af : Array Edge} {op : Op} {v : Value}

theorem Ops.nil {S : St} (h : K S) : Ops P fl all [] S K := ⟨S, .nil, h⟩

theorem Ops.step (he : StepF fl P ⟨some d, op, ty, ps, af, none⟩ ⟨n, T, H⟩ v H') (h : Ops P fl all l ⟨n, up T d v, H'⟩ K) : Ops P fl all (⟨some d, op, ty, ps, af, none⟩ :: l) ⟨n, T, H⟩ K := by
  obtain ⟨S', h1, h2⟩ := h
  exact ⟨S', .go rfl he h1, h2⟩
theorem Ops.step0 (he : StepF fl P ⟨none, op, ty, ps, af, none⟩ ⟨n, T, H⟩ v H') (h : Ops P fl all l ⟨n, T, H'⟩ K) : Ops P fl all (⟨none, op, ty, ps, af, none⟩ :: l) ⟨n, T, H⟩ K := by
  obtain ⟨S', h1, h2⟩ := h
  exact ⟨S', .go rfl he h1, h2⟩

theorem Ops.go (hc : cls op = 0) (he : ∀ H, aev P ⟨some d, op, ty, ps, af, none⟩ (rd T) H v H) (h : Ops P fl all l ⟨n, up T d v, H⟩ K) : Ops P fl all (⟨some d, op, ty, ps, af, none⟩ :: l) ⟨n, T, H⟩ K :=
  .step (StepF.pure (S := ⟨n, T, H⟩) hc (by rw [rho_eq]; exact he)) h
theorem Ops.make_ {ob : Ob} {f : Nat → Value} (hc : cls op = 1) (he : anew P ⟨some d, op, ty, ps, af, none⟩ (rd T) ob f) (h : Ops P fl all l ⟨n, up T d (f H.nxt), H.new ob⟩ K) : Ops P fl all (⟨some d, op, ty, ps, af, none⟩ :: l) ⟨n, T, H⟩ K :=
  .step (StepF.new (S := ⟨n, T, H⟩) hc (by rw [rho_eq]; exact he)) h
theorem Ops.get {id : Nat} {ob : Ob} (hc : cls op = 2) (hg : H.get id = some ob) (hm : ∀ (β : Bm) (ev : Operand → Value), (∀ x ∈ op.operands, VR β (rd T x) (ev x)) → ∃ p, β id = some p)
    (he : ∀ H, H.get id = some ob → aev P ⟨some d, op, ty, ps, af, none⟩ (rd T) H v H) (h : Ops P fl all l ⟨n, up T d v, H⟩ K) : Ops P fl all (⟨some d, op, ty, ps, af, none⟩ :: l) ⟨n, T, H⟩ K :=
  .step (StepF.load (S := ⟨n, T, H⟩) hc hg (by rw [rho_eq]; exact hm) (by rw [rho_eq]; exact he)) h
theorem Ops.chain (hc : cls op = 3) (he : aev P ⟨some d, op, ty, ps, af, none⟩ (rd T) H v H') (hg : fl = true → GE H H') (h : Ops P fl all l ⟨n, up T d v, H'⟩ K) : Ops P fl all (⟨some d, op, ty, ps, af, none⟩ :: l) ⟨n, T, H⟩ K :=
  .step (StepF.chain (S := ⟨n, T, H⟩) hc (by rw [rho_eq]; exact he) hg) h
theorem Ops.write0 (hc : cls op = 4) (he : aev P ⟨none, op, ty, ps, af, none⟩ (rd T) H v H') (hn : H.nxt ≤ H'.nxt) (h : Ops P fl all l ⟨n, T, H'⟩ K) : Ops P fl all (⟨none, op, ty, ps, af, none⟩ :: l) ⟨n, T, H⟩ K :=
  .step0 (StepF.write (S := ⟨n, T, H⟩) hc (by rw [rho_eq]; exact he) hn) h
theorem Ops.plain (he : aev P ⟨some d, op, ty, ps, af, none⟩ (rd T) H v H') (h : Ops P false all l ⟨n, up T d v, H'⟩ K) : Ops P false all (⟨some d, op, ty, ps, af, none⟩ :: l) ⟨n, T, H⟩ K :=
  .step (StepF.plain (S := ⟨n, T, H⟩) (by rw [rho_eq]; exact he)) h

theorem Ops.no {dst : Option Nat} {j dj : Nat} {b c : Bool} (hj : (all[j]?).bind (·.dst) = some dj) (hb : T dj = .bool b) (hne : b = !c) (h : Ops P fl all l ((⟨n, T, H⟩ : St).put dst undef) K) : Ops P fl all (⟨dst, op, ty, ps, af, some (j, c)⟩ :: l) ⟨n, T, H⟩ K := by
  obtain ⟨S', h1, h2⟩ := h
  refine ⟨S', .skip ?_ h1, h2⟩
  unfold gw
  have hj' : ((all[j]?).bind fun x => x.dst) = some dj := hj
  simp only [hj', hb, hne]
  cases c <;> rfl

theorem Ops.no_u {dst : Option Nat} {j dj : Nat} {c : Bool} (hj : (all[j]?).bind (·.dst) = some dj) (hb : T dj = undef) (h : Ops P fl all l ((⟨n, T, H⟩ : St).put dst undef) K) : Ops P fl all (⟨dst, op, ty, ps, af, some (j, c)⟩ :: l) ⟨n, T, H⟩ K := by
  obtain ⟨S', h1, h2⟩ := h
  refine ⟨S', .skip ?_ h1, h2⟩
  unfold gw
  have hj' : ((all[j]?).bind fun x => x.dst) = some dj := hj
  simp only [hj', hb]
  rfl

theorem Ops.mono {S : St} {K' : St → Prop} (h : Ops P fl all l S K) (k : ∀ S, K S → K' S) : Ops P fl all l S K' := by
  obtain ⟨S', h1, h2⟩ := h; exact ⟨S', h1, k _ h2⟩

end

section
variable {P : Program} {f : FuncId} {fn : Func} {c : Code} {args : List Value} {H : Hp} {K : Value → Hp → Prop}

/-- The slots at a call's start. -/
def argT : List Value → Nat → (Nat → Value)
  | [], _ => jk
  | v :: vs, i => up (argT vs (i + 1)) i v

theorem argT_wk (n : Nat) : ∀ (vs : List Value) (k : Nat) (T : Nat → Value), (∀ j, j < vs.length → T (k + j) = vs.getD j undef) → Wk n T (argT vs k)
  | [], k, T, _ => Wk.jk
  | v :: vs, k, T, h => Wk.up (by simpa using h 0 (by simp)) (argT_wk n vs (k + 1) T fun j hj => by
      have := h (j + 1) (by simpa using hj)
      rw [show k + 1 + j = k + (j + 1) by omega, this]; simp)

/-- What the results are at a call's end. -/
inductive ResK (P : Program) (S : St) : List ResultVar → (List Value → Prop) → Prop
  | nil {K : List Value → Prop} (h : K []) : ResK P S [] K
  | cons {rv : ResultVar} {rvs : List ResultVar} {v : Value} {K : List Value → Prop} (h : ARes P S rv v) (k : ResK P S rvs (fun vs => K (v :: vs))) : ResK P S (rv :: rvs) K

theorem ResK.all {S : St} {rvs : List ResultVar} {K : List Value → Prop} (h : ResK P S rvs K) : ∃ vs, AllRes P S rvs vs ∧ K vs := by
  induction h with
  | nil h => exact ⟨[], .nil, h⟩
  | cons h k ih => obtain ⟨vs, h1, h2⟩ := ih; exact ⟨_, .cons h h1, h2⟩

theorem ResK.tmp {n t : Nat} {T : Nat → Value} {v : Value} {rvs : List ResultVar} {K : List Value → Prop} (ht : t.blt n = true) (hv : T t = v) (k : ResK P ⟨n, T, H⟩ rvs (fun vs => K (v :: vs))) : ResK P ⟨n, T, H⟩ (.tmp t :: rvs) K := by
  subst hv; exact .cons (.tmp (by simpa using ht)) k

def fin (P : Program) (rs : List ResultVar) (K : Value → Hp → Prop) (e : Exit) (S : St) : Prop := (e = .ret ∨ e = .normal) ∧ ResK P S rs (fun vs => K (resVal vs) S.H)

theorem CallK.enter {nt : Nat} {rs : Array ResultVar} (hf : P.funcs[f]? = some fn) (hb : fn.body = some c) (hn : (fn.name == "runtime.NumGoroutine") = false) (hnt : fn.ntmps = nt) (hrs : fn.results = rs) (hl : args.length.ble nt = true)
    (h : Run P c ⟨nt, argT args 0, H⟩ (fin P rs.toList K)) : CallK P f args H K := by
  obtain ⟨e, S1, h1, h2, h3⟩ := h
  obtain ⟨vs, h4, h5⟩ := h3.all
  subst hnt hrs
  refine ⟨_, _, acall_enter hf hb hn (Nat.le_of_ble_eq_true hl) (h1.wk (T := fun j => args.getD j undef) (argT_wk _ args 0 _ fun j hj => by simp)) h2 h4, h5⟩

theorem CallK.mono {K' : Value → Hp → Prop} (h : CallK P f args H K) (k : ∀ r H', K r H' → K' r H') : CallK P f args H K' := by
  obtain ⟨r, H', h1, h2⟩ := h; exact ⟨r, H', h1, k _ _ h2⟩

theorem CallK.eq {r : Value} {H' : Hp} (h : CallK P f args H (fun r' H2 => r' = r ∧ H2 = H')) : acall P f args H r H' := by
  obtain ⟨r1, H1, h1, rfl, rfl⟩ := h; exact h1

end

theorem CallK.out {P : Program} {f : FuncId} {args : List Value} {H : Hp} {K : Value → Hp → Prop} (h : CallK P f args H K) : ∃ r H', acall P f args H r H' ∧ K r H' := h
theorem CallK.intro {P : Program} {f : FuncId} {args : List Value} {H : Hp} {K : Value → Hp → Prop} {r : Value} {H' : Hp} (h : acall P f args H r H') (k : K r H') : CallK P f args H K := ⟨r, H', h, k⟩
attribute [irreducible] Run Ops CallK
end Go.Proofs.Ytefmjpbmdoebaaa
